/- Go functions as short texts over the heap, and that each is what the loaded function comes to (the kernel compares them); written by a program. -/
import Derived.Test.YtmkobpkdodgboaaGBase
set_option linter.unusedVariables false
set_option maxRecDepth 100000
namespace Go.Proofs.Ytmkobpkdodgboaa
open Go D
/-- stowage/stowageref1.Pack (77) -/
def ref1_Pack (l_0 : Sl) (R : Sl → Heap → Prop) (h : Heap) : Prop :=
  LoopT (σ := Sl × Int) (fun X2 s1 h3 => -- s1: out, i
  cnd (decide (s1.2 < (l_0.len : Int))) (
  idx l_0.a l_0.len s1.2 fun a4 =>
  ldS (a4.add (s1.2.toNat * 1)) h3 fun s5 =>
  CallT Try.prog ref1_Four_no [.int .u32 (IntKind.u32.wrap ((s5.size : Int)))] h3 [.sc (.sl)] fun (r6 : Sl) h7 =>
  rdCells r6.a (r6.len * 1) h7 fun cs11 =>
  app [.int .u8 0] 5 1 1 s1.1.a s1.1.len s1.1.cap cs11 r6.len h7 fun o8 c9 h10 =>
  idx l_0.a l_0.len s1.2 fun a12 =>
  ldS (a12.add (s1.2.toNat * 1)) h10 fun s13 =>
  app [.int .u8 0] 5 1 1 o8 (s1.1.len + r6.len) c9 (bytesV s13) s13.size h10 fun o14 c15 h16 =>
  X2 ((⟨o14, ((s1.1.len + r6.len) + s13.size), c15⟩ : Sl), (w64 (s1.2 + 1))) h16) (
  R s1.1 h3)) ((⟨none, 0, 0⟩ : Sl), 0) h
theorem ref1_Pack_eq (l_0 : Sl) (R : Sl → Heap → Prop) (h : Heap) : fnX Try.prog Fns.fns Try.f77 (.s .n (.s .n (.s (.s .n (.b (.l [(3, .sl), (4, .int .i64)] (.s (.s .n (.s .n .n)) (.s (.b (.s .n .n)) .n))))) (.s .n .n)))) [.sc (.sl)] [.slice l_0.a l_0.len l_0.cap] h R = ref1_Pack l_0 R h := by kernel_rfl
theorem ref1_Pack_call (l_0 : Sl) {R : Sl → Heap → Prop} {h : Heap} (hx : ref1_Pack l_0 R h) : CallT Try.prog 77 [.slice l_0.a l_0.len l_0.cap] h [.sc (.sl)] R :=
  call_of_fnX fnsOk mixed Try.func77 (by kernel_rfl) (by rw [ref1_Pack_eq]; exact hx)

/-- stowage/stowageref1.Unpack (98) -/
def ref1_Unpack (x_0 : Sl) (R : Sl × Bool → Heap → Prop) (h : Heap) : Prop :=
  LoopT (σ := Sl × Int) (fun X2 s1 h3 => -- s1: t4, t5
  cnd (decide (s1.2 < (x_0.len : Int))) (
  cnd (decide ((w64 ((x_0.len : Int) - s1.2)) < 4)) (
  R ((⟨none, 0, 0⟩ : Sl), false) h3) (
  idx x_0.a x_0.len s1.2 fun a4 =>
  ldI .u8 (a4.add (s1.2.toNat * 1)) h3 fun n5 =>
  idx x_0.a x_0.len (w64 (s1.2 + 1)) fun a6 =>
  ldI .u8 (a6.add ((w64 (s1.2 + 1)).toNat * 1)) h3 fun n7 =>
  idx x_0.a x_0.len (w64 (s1.2 + 2)) fun a8 =>
  ldI .u8 (a8.add ((w64 (s1.2 + 2)).toNat * 1)) h3 fun n9 =>
  idx x_0.a x_0.len (w64 (s1.2 + 3)) fun a10 =>
  ldI .u8 (a10.add ((w64 (s1.2 + 3)).toNat * 1)) h3 fun n11 =>
  cnd (decide ((w64 ((w64 ((w64 ((shlI .i64 (w64 (n5)) 24) + (shlI .i64 (w64 (n7)) 16))) + (shlI .i64 (w64 (n9)) 8))) + (w64 (n11)))) > (w64 ((x_0.len : Int) - (w64 (s1.2 + 4)))))) (
  R ((⟨none, 0, 0⟩ : Sl), false) h3) (
  lsl 1 x_0.a x_0.cap (w64 (s1.2 + 4)) (w64 ((w64 (s1.2 + 4)) + (w64 ((w64 ((w64 ((shlI .i64 (w64 (n5)) 24) + (shlI .i64 (w64 (n7)) 16))) + (shlI .i64 (w64 (n9)) 8))) + (w64 (n11)))))) (x_0.cap : Int) fun o12 l12 c12 =>
  b2s o12 l12 h3 fun s13 =>
  newB [.string s13] 9 h3 fun a14 h15 =>
  ldRow (1 * 1) a14 h15 fun cs19 =>
  app [.string (⟨#[]⟩ : ByteArray)] 9 1 16 s1.1.a s1.1.len s1.1.cap cs19 1 h15 fun o16 c17 h18 =>
  X2 ((⟨o16, (s1.1.len + 1), c17⟩ : Sl), (w64 ((w64 (s1.2 + 4)) + (w64 ((w64 ((w64 ((shlI .i64 (w64 (n5)) 24) + (shlI .i64 (w64 (n7)) 16))) + (shlI .i64 (w64 (n9)) 8))) + (w64 (n11))))))) h18))) (
  R (s1.1, true) h3)) ((⟨none, 0, 0⟩ : Sl), 0) h
theorem ref1_Unpack_eq (x_0 : Sl) (R : Sl × Bool → Heap → Prop) (h : Heap) : fnX Try.prog Fns.fns Try.f98 (.s .n (.s .n (.s .n (.s (.b (.l [(4, .sl), (5, .int .i64)] (.s (.s .n (.s .n .n)) (.b (.s (.s .n (.s (.s .n .n) .n)) (.s .n (.s .n (.s (.s .n (.s (.s .n .n) .n)) (.s .n .n))))))))) (.s .n .n))))) [.sc (.sl), .sc (.bool)] [.slice x_0.a x_0.len x_0.cap] h R = ref1_Unpack x_0 R h := by kernel_rfl
theorem ref1_Unpack_call (x_0 : Sl) {R : Sl × Bool → Heap → Prop} {h : Heap} (hx : ref1_Unpack x_0 R h) : CallT Try.prog 98 [.slice x_0.a x_0.len x_0.cap] h [.sc (.sl), .sc (.bool)] R :=
  call_of_fnX fnsOk mixed Try.func98 (by kernel_rfl) (by rw [ref1_Unpack_eq]; exact hx)

/-- stowage/stowageref1.SameTexts (73) -/
def ref1_SameTexts (a_0 : Sl) (b_1 : Sl) (R : Bool → Heap → Prop) (h : Heap) : Prop :=
  cnd ((a_0.len : Int) != (b_1.len : Int)) (
  R false h) (
  LoopT (σ := Int) (fun X2 s1 h3 => -- s1: i
  cnd (decide (s1 < (a_0.len : Int))) (
  idx a_0.a a_0.len s1 fun a4 =>
  ldS (a4.add (s1.toNat * 1)) h3 fun s5 =>
  idx b_1.a b_1.len s1 fun a6 =>
  ldS (a6.add (s1.toNat * 1)) h3 fun s7 =>
  cnd (!seq s5 s7) (
  R false h3) (
  X2 (w64 (s1 + 1)) h3)) (
  R true h3)) 0 h)
theorem ref1_SameTexts_eq (a_0 : Sl) (b_1 : Sl) (R : Bool → Heap → Prop) (h : Heap) : fnX Try.prog Fns.fns Try.f73 (.s .n (.s (.s .n (.s (.s .n .n) .n)) (.s (.s .n (.b (.l [(5, .int .i64)] (.s (.s .n (.s .n .n)) (.s (.b (.s .n (.s (.s .n .n) .n))) .n))))) (.s .n .n)))) [.sc (.bool)] [.slice a_0.a a_0.len a_0.cap, .slice b_1.a b_1.len b_1.cap] h R = ref1_SameTexts a_0 b_1 R h := by kernel_rfl
theorem ref1_SameTexts_call (a_0 : Sl) (b_1 : Sl) {R : Bool → Heap → Prop} {h : Heap} (hx : ref1_SameTexts a_0 b_1 R h) : CallT Try.prog 73 [.slice a_0.a a_0.len a_0.cap, .slice b_1.a b_1.len b_1.cap] h [.sc (.bool)] R :=
  call_of_fnX fnsOk mixed Try.func73 (by kernel_rfl) (by rw [ref1_SameTexts_eq]; exact hx)

/-- stowage/stowageref6.fits (74) -/
def ref6_fits (d_0 : Option Addr) (from_1 : Int) (n_2 : Int) (R : Bool → Heap → Prop) (h : Heap) : Prop :=
  withJ (σ := Bool) (fun s1 h3 => -- s1: t6
  R s1 h3) (fun J2 =>
  cnd (decide (n_2 ≥ 1)) (
  nn d_0 fun a4 =>
  ldL a4 h fun o5 l5 c5 =>
  cnd (decide (n_2 ≤ (l5 : Int))) (
  cnd (decide (from_1 ≥ 0)) (
  nn d_0 fun a6 =>
  ldL a6 h fun o7 l7 c7 =>
  J2 (decide (from_1 ≤ (w64 ((l7 : Int) - n_2)))) h) (
  J2 false h)) (
  J2 false h)) (
  J2 false h))
theorem ref6_fits_eq (d_0 : Option Addr) (from_1 : Int) (n_2 : Int) (R : Bool → Heap → Prop) (h : Heap) : fnX Try.prog Fns.fns Try.f74 (.s .n (.j [(6, .bool)] .n .n)) [.sc (.bool)] [.pointer d_0, .int .i64 from_1, .int .i64 n_2] h R = ref6_fits d_0 from_1 n_2 R h := by kernel_rfl
theorem ref6_fits_call (d_0 : Option Addr) (from_1 : Int) (n_2 : Int) {R : Bool → Heap → Prop} {h : Heap} (hx : ref6_fits d_0 from_1 n_2 R h) : CallT Try.prog 74 [.pointer d_0, .int .i64 from_1, .int .i64 n_2] h [.sc (.bool)] R :=
  call_of_fnX fnsOk mixed Try.func74 (by kernel_rfl) (by rw [ref6_fits_eq]; exact hx)

/-- stowage/stowageref6.sectors (78) -/
def ref6_sectors (n_0 : Int) (R : Int → Heap → Prop) (h : Heap) : Prop :=
  R (w64 ((w64 (n_0 + 255)).tdiv 256)) h
theorem ref6_sectors_eq (n_0 : Int) (R : Int → Heap → Prop) (h : Heap) : fnX Try.prog Fns.fns Try.f78 (.s .n (.s .n .n)) [.sc (.int .i64)] [.int .i64 n_0] h R = ref6_sectors n_0 R h := by kernel_rfl
theorem ref6_sectors_call (n_0 : Int) {R : Int → Heap → Prop} {h : Heap} (hx : ref6_sectors n_0 R h) : CallT Try.prog 78 [.int .i64 n_0] h [.sc (.int .i64)] R :=
  call_of_fnX fnsOk mixed Try.func78 (by kernel_rfl) (by rw [ref6_sectors_eq]; exact hx)

/-- stowage/stowageref6.Need (41) -/
def ref6_Need (records_0 : Sl) (R : Int → Heap → Prop) (h : Heap) : Prop :=
  CallT Try.prog ref1_Pack_no [.slice records_0.a records_0.len records_0.cap] h [.sc (.sl)] fun (r1 : Sl) h2 =>
  CallT Try.prog ref6_sectors_no [.int .i64 (w64 (24 + (r1.len : Int)))] h2 [.sc (.int .i64)] fun (r3 : Int) h4 =>
  R r3 h4
theorem ref6_Need_eq (records_0 : Sl) (R : Int → Heap → Prop) (h : Heap) : fnX Try.prog Fns.fns Try.f41 (.s .n (.s .n .n)) [.sc (.int .i64)] [.slice records_0.a records_0.len records_0.cap] h R = ref6_Need records_0 R h := by kernel_rfl
theorem ref6_Need_call (records_0 : Sl) {R : Int → Heap → Prop} {h : Heap} (hx : ref6_Need records_0 R h) : CallT Try.prog 41 [.slice records_0.a records_0.len records_0.cap] h [.sc (.int .i64)] R :=
  call_of_fnX fnsOk mixed Try.func41 (by kernel_rfl) (by rw [ref6_Need_eq]; exact hx)

/-- stowage/stowageref6.frame (76) -/
def ref6_frame (epoch_0 : Int) (number_1 : Int) (payload_2 : Sl) (R : Sl → Heap → Prop) (h : Heap) : Prop :=
  CallT Try.prog ref1_Put64_no [.int .u64 epoch_0] h [.sc (.sl)] fun (r1 : Sl) h2 =>
  rdCells r1.a (r1.len * 1) h2 fun cs6 =>
  app [.int .u8 0] 5 1 1 none 0 0 cs6 r1.len h2 fun o3 c4 h5 =>
  CallT Try.prog ref1_Put64_no [.int .u64 number_1] h5 [.sc (.sl)] fun (r7 : Sl) h8 =>
  rdCells r7.a (r7.len * 1) h8 fun cs12 =>
  app [.int .u8 0] 5 1 1 o3 (0 + r1.len) c4 cs12 r7.len h8 fun o9 c10 h11 =>
  rdCells payload_2.a (payload_2.len * 1) h11 fun cs16 =>
  app [.int .u8 0] 5 1 1 o9 ((0 + r1.len) + r7.len) c10 cs16 payload_2.len h11 fun o13 c14 h15 =>
  CallT Try.prog ref1_Four_no [.int .u32 (IntKind.u32.wrap ((payload_2.len : Int)))] h15 [.sc (.sl)] fun (r17 : Sl) h18 =>
  rdCells r17.a (r17.len * 1) h18 fun cs22 =>
  app [.int .u8 0] 5 1 1 none 0 0 cs22 r17.len h18 fun o19 c20 h21 =>
  CallT Try.prog ref2_CRC_no [.slice o13 (((0 + r1.len) + r7.len) + payload_2.len) c14] h21 [.sc (.int .u32)] fun (r23 : Int) h24 =>
  CallT Try.prog ref1_Four_no [.int .u32 r23] h24 [.sc (.sl)] fun (r25 : Sl) h26 =>
  rdCells r25.a (r25.len * 1) h26 fun cs30 =>
  app [.int .u8 0] 5 1 1 o19 (0 + r17.len) c20 cs30 r25.len h26 fun o27 c28 h29 =>
  rdCells o13 ((((0 + r1.len) + r7.len) + payload_2.len) * 1) h29 fun cs34 =>
  app [.int .u8 0] 5 1 1 o27 ((0 + r17.len) + r25.len) c28 cs34 (((0 + r1.len) + r7.len) + payload_2.len) h29 fun o31 c32 h33 =>
  R (⟨o31, (((0 + r17.len) + r25.len) + (((0 + r1.len) + r7.len) + payload_2.len)), c32⟩ : Sl) h33
theorem ref6_frame_eq (epoch_0 : Int) (number_1 : Int) (payload_2 : Sl) (R : Sl → Heap → Prop) (h : Heap) : fnX Try.prog Fns.fns Try.f76 (.s .n (.s .n (.s .n (.s .n (.s .n (.s .n (.s .n (.s .n (.s .n .n))))))))) [.sc (.sl)] [.int .u64 epoch_0, .int .u64 number_1, .slice payload_2.a payload_2.len payload_2.cap] h R = ref6_frame epoch_0 number_1 payload_2 R h := by kernel_rfl
theorem ref6_frame_call (epoch_0 : Int) (number_1 : Int) (payload_2 : Sl) {R : Sl → Heap → Prop} {h : Heap} (hx : ref6_frame epoch_0 number_1 payload_2 R h) : CallT Try.prog 76 [.int .u64 epoch_0, .int .u64 number_1, .slice payload_2.a payload_2.len payload_2.cap] h [.sc (.sl)] R :=
  call_of_fnX fnsOk mixed Try.func76 (by kernel_rfl) (by rw [ref6_frame_eq]; exact hx)

/-- (*stowage/stowageref6.Log).read (75) -/
def ref6_Log_read (x_0 : Option Addr) (R : Sl × Int × Int → Heap → Prop) (h : Heap) : Prop :=
  nn x_0 fun a1 =>
  ldP a1 h fun p2 =>
  nn x_0 fun a3 =>
  ldI .i64 (a3.add 1) h fun n4 =>
  nn x_0 fun a5 =>
  ldI .i64 (a5.add 5) h fun n6 =>
  CallT Try.prog ref5_Dev_Read_no [.pointer p2, .int .i64 (w64 (n4 + n6))] h [.sc (.str), .sc (.int .i64)] fun (r7 : ByteArray × Int) h8 =>
  cnd (r7.2 != 0) (
  R ((⟨none, 0, 0⟩ : Sl), 0, r7.2) h8) (
  s2b r7.1 5 h8 fun a9 c10 h11 =>
  idx (some a9) r7.1.size 0 fun a12 =>
  ldI .u8 (a12.add ((0 : Int).toNat * 1)) h11 fun n13 =>
  idx (some a9) r7.1.size 1 fun a14 =>
  ldI .u8 (a14.add ((1 : Int).toNat * 1)) h11 fun n15 =>
  idx (some a9) r7.1.size 2 fun a16 =>
  ldI .u8 (a16.add ((2 : Int).toNat * 1)) h11 fun n17 =>
  idx (some a9) r7.1.size 3 fun a18 =>
  ldI .u8 (a18.add ((3 : Int).toNat * 1)) h11 fun n19 =>
  CallT Try.prog ref6_sectors_no [.int .i64 (w64 (24 + (w64 ((w64 ((w64 ((shlI .i64 (w64 (n13)) 24) + (shlI .i64 (w64 (n15)) 16))) + (shlI .i64 (w64 (n17)) 8))) + (w64 (n19))))))] h11 [.sc (.int .i64)] fun (r20 : Int) h21 =>
  nn x_0 fun a22 =>
  ldI .i64 (a22.add 2) h21 fun n23 =>
  nn x_0 fun a24 =>
  ldI .i64 (a24.add 5) h21 fun n25 =>
  cnd (decide (r20 > (w64 (n23 - n25)))) (
  R ((⟨none, 0, 0⟩ : Sl), 0, 0) h21) (
  LoopT (σ := Sl × Int) (fun X27 s26 h28 => -- s26: t7, t10
  cnd (decide (s26.2 < r20)) (
  nn x_0 fun a29 =>
  ldP a29 h28 fun p30 =>
  nn x_0 fun a31 =>
  ldI .i64 (a31.add 1) h28 fun n32 =>
  nn x_0 fun a33 =>
  ldI .i64 (a33.add 5) h28 fun n34 =>
  CallT Try.prog ref5_Dev_Read_no [.pointer p30, .int .i64 (w64 ((w64 (n32 + n34)) + s26.2))] h28 [.sc (.str), .sc (.int .i64)] fun (r35 : ByteArray × Int) h36 =>
  cnd (r35.2 != 0) (
  R ((⟨none, 0, 0⟩ : Sl), 0, r35.2) h36) (
  app [.int .u8 0] 5 1 1 s26.1.a s26.1.len s26.1.cap (bytesV r35.1) r35.1.size h36 fun o37 c38 h39 =>
  X27 ((⟨o37, (s26.1.len + r35.1.size), c38⟩ : Sl), (w64 (s26.2 + 1))) h39)) (
  lsl 1 s26.1.a s26.1.cap 0 (w64 (24 + (w64 ((w64 ((w64 ((shlI .i64 (w64 (n13)) 24) + (shlI .i64 (w64 (n15)) 16))) + (shlI .i64 (w64 (n17)) 8))) + (w64 (n19)))))) (s26.1.cap : Int) fun o40 l40 c40 =>
  nn x_0 fun a41 =>
  ldI .u64 (a41.add 3) h28 fun n42 =>
  nn x_0 fun a43 =>
  ldI .u64 (a43.add 4) h28 fun n44 =>
  lsl 1 o40 c40 24 (l40 : Int) (c40 : Int) fun o45 l45 c45 =>
  b2s o40 l40 h28 fun s46 =>
  CallT Try.prog ref6_frame_no [.int .u64 n42, .int .u64 n44, .slice o45 l45 c45] h28 [.sc (.sl)] fun (r47 : Sl) h48 =>
  (b2s o40 l40 h48 fun s49 =>
  (.string s49 : Value) = .string s46) ∧
  b2s r47.a r47.len h48 fun s50 =>
  cnd (!seq s50 s46) (
  R ((⟨none, 0, 0⟩ : Sl), 0, 0) h48) (
  lsl 1 o40 c40 24 (l40 : Int) (c40 : Int) fun o51 l51 c51 =>
  CallT Try.prog ref1_Unpack_no [.slice o51 l51 c51] h48 [.sc (.sl), .sc (.bool)] fun (r52 : Sl × Bool) h53 =>
  cnd (!r52.2) (
  R ((⟨none, 0, 0⟩ : Sl), 0, 0) h53) (
  R (r52.1, r20, 0) h53)))) ((⟨(some a9), r7.1.size, c10⟩ : Sl), 1) h21))
theorem ref6_Log_read_eq (x_0 : Option Addr) (R : Sl × Int × Int → Heap → Prop) (h : Heap) : fnX Try.prog Fns.fns Try.f75 (.s .n (.s .n (.s (.s .n (.s (.s .n .n) .n)) (.s .n (.s .n (.s .n (.s (.s .n (.s (.s .n .n) .n)) (.s (.s .n (.b (.l [(7, .sl), (10, .int .i64)] (.s (.s .n (.s .n .n)) (.s (.b (.s .n (.s (.s .n (.s (.s .n .n) .n)) .n))) .n))))) (.s .n (.s (.s .n (.s (.s .n .n) .n)) (.s .n (.s (.s .n (.s (.s .n .n) .n)) (.s .n .n))))))))))))) [.sc (.sl), .sc (.int .i64), .sc (.int .i64)] [.pointer x_0] h R = ref6_Log_read x_0 R h := by kernel_rfl
theorem ref6_Log_read_call (x_0 : Option Addr) {R : Sl × Int × Int → Heap → Prop} {h : Heap} (hx : ref6_Log_read x_0 R h) : CallT Try.prog 75 [.pointer x_0] h [.sc (.sl), .sc (.int .i64), .sc (.int .i64)] R :=
  call_of_fnX fnsOk mixed Try.func75 (by kernel_rfl) (by rw [ref6_Log_read_eq]; exact hx)

/-- stowage/stowageref6.Open (39) -/
def ref6_Open (x_0 : Option Addr) (x_1 : Int) (x_2 : Int) (x_3 : Int) (R : (Option Addr) × Sl × Int → Heap → Prop) (h : Heap) : Prop :=
  CallT Try.prog ref6_fits_no [.pointer x_0, .int .i64 x_1, .int .i64 x_2] h [.sc (.bool)] fun (r1 : Bool) h2 =>
  cnd (!r1) (
  R (none, (⟨none, 0, 0⟩ : Sl), 1) h2) (
  newB [.pointer x_0, .int .i64 x_1, .int .i64 x_2, .int .u64 x_3, .int .u64 0, .int .i64 0, .bool false] 79 h2 fun a3 h4 =>
  withJ (σ := Sl) (fun s5 h7 => -- s5: t12
  R ((some a3), s5, 0) h7) (fun J6 =>
  LoopT (σ := Sl) (fun X9 s8 h10 => -- s8: t12
  ldI .i64 (a3.add 5) h10 fun n11 =>
  cnd (decide (n11 < x_2)) (
  CallT Try.prog ref6_Log_read_no [.pointer (some a3)] h10 [.sc (.sl), .sc (.int .i64), .sc (.int .i64)] fun (r12 : Sl × Int × Int) h13 =>
  cnd (r12.2.2 != 0) (
  R (none, (⟨none, 0, 0⟩ : Sl), r12.2.2) h13) (
  cnd (r12.2.1 == 0) (
  J6 s8 h13) (
  newB [.slice r12.1.a r12.1.len r12.1.cap] 50 h13 fun a14 h15 =>
  ldRow (1 * 1) a14 h15 fun cs19 =>
  app [.slice none 0 0] 50 1 24 s8.a s8.len s8.cap cs19 1 h15 fun o16 c17 h18 =>
  ldI .i64 (a3.add 5) h18 fun n20 =>
  stC (a3.add 5) (.int .i64 (w64 (n20 + r12.2.1))) h18 fun h21 =>
  ldI .u64 (a3.add 4) h21 fun n22 =>
  stC (a3.add 4) (.int .u64 (IntKind.u64.wrap (n22 + 1))) h21 fun h23 =>
  X9 (⟨o16, (s8.len + 1), c17⟩ : Sl) h23))) (
  J6 s8 h10)) (⟨none, 0, 0⟩ : Sl) h4))
theorem ref6_Open_eq (x_0 : Option Addr) (x_1 : Int) (x_2 : Int) (x_3 : Int) (R : (Option Addr) × Sl × Int → Heap → Prop) (h : Heap) : fnX Try.prog Fns.fns Try.f39 (.s .n (.s (.s .n (.s (.s .n .n) .n)) (.s .n (.s .n (.j [(12, .sl)] (.b (.l [(12, .sl)] (.s (.s .n (.s .n .n)) (.b (.s .n (.s (.s .n (.s (.s .n .n) .n)) (.s (.s .n (.s .n .n)) (.s .n (.s .n .n))))))))) (.s .n .n)))))) [.sc (.ptr), .sc (.sl), .sc (.int .i64)] [.pointer x_0, .int .i64 x_1, .int .i64 x_2, .int .u64 x_3] h R = ref6_Open x_0 x_1 x_2 x_3 R h := by kernel_rfl
theorem ref6_Open_call (x_0 : Option Addr) (x_1 : Int) (x_2 : Int) (x_3 : Int) {R : (Option Addr) × Sl × Int → Heap → Prop} {h : Heap} (hx : ref6_Open x_0 x_1 x_2 x_3 R h) : CallT Try.prog 39 [.pointer x_0, .int .i64 x_1, .int .i64 x_2, .int .u64 x_3] h [.sc (.ptr), .sc (.sl), .sc (.int .i64)] R :=
  call_of_fnX fnsOk mixed Try.func39 (by kernel_rfl) (by rw [ref6_Open_eq]; exact hx)

/-- (*stowage/stowageref6.Log).Append (40) -/
def ref6_Log_Append (x_0 : Option Addr) (x_1 : Sl) (R : Int → Heap → Prop) (h : Heap) : Prop :=
  nn x_0 fun a1 =>
  ldB (a1.add 6) h fun b2 =>
  cnd b2 (
  R 50 h) (
  CallT Try.prog ref6_Need_no [.slice x_1.a x_1.len x_1.cap] h [.sc (.int .i64)] fun (r3 : Int) h4 =>
  CallT Try.prog ref6_Log_Room_no [.pointer x_0] h4 [.sc (.int .i64)] fun (r5 : Int) h6 =>
  cnd (decide (r3 > r5)) (
  R 60 h6) (
  nn x_0 fun a7 =>
  ldI .u64 (a7.add 3) h6 fun n8 =>
  nn x_0 fun a9 =>
  ldI .u64 (a9.add 4) h6 fun n10 =>
  CallT Try.prog ref1_Pack_no [.slice x_1.a x_1.len x_1.cap] h6 [.sc (.sl)] fun (r11 : Sl) h12 =>
  (ldI .u64 (a9.add 4) h12 fun n13 =>
  (.int .u64 n13 : Value) = .int .u64 n10) ∧
  (ldI .u64 (a7.add 3) h12 fun n14 =>
  (.int .u64 n14 : Value) = .int .u64 n8) ∧
  CallT Try.prog ref6_frame_no [.int .u64 n8, .int .u64 n10, .slice r11.a r11.len r11.cap] h12 [.sc (.sl)] fun (r15 : Sl) h16 =>
  nn x_0 fun a17 =>
  ldI .i64 (a17.add 1) h16 fun n18 =>
  nn x_0 fun a19 =>
  ldI .i64 (a19.add 5) h16 fun n20 =>
  LoopT (σ := Int × Int) (fun X22 s21 h23 => -- s21: t8, t9
  withJ (σ := Int × Bool) (fun s24 h26 => -- s24: t44, t45
  nn x_0 fun a27 =>
  ldP a27 h26 fun p28 =>
  CallT Try.prog ref6_Part_no [.slice r15.a r15.len r15.cap, .int .i64 s21.2] h26 [.sc (.str)] fun (r29 : ByteArray) h30 =>
  (ldP a27 h30 fun p31 =>
  (.pointer p31 : Value) = .pointer p28) ∧
  CallT Try.prog ref5_Dev_Write_no [.pointer p28, .int .i64 (w64 ((w64 (n18 + n20)) + s21.2)), .string r29] h30 [.sc (.int .i64)] fun (r32 : Int) h33 =>
  X22 (r32, (w64 (s21.2 + 1))) h33) (fun J25 =>
  cnd (decide (s21.2 < r3)) (
  cnd (s21.1 == 0) (
  J25 (s21.1, (s21.1 == 0)) h23) (
  withJ (σ := Int) (fun s34 h36 => -- s34: t8
  withJ (σ := Int) (fun s37 h39 => -- s37: t8
  withJ (σ := Int) (fun s40 h42 => -- s40: t8
  withJ (σ := Int) (fun s43 h45 => -- s43: t8
  cnd (s43 != 0) (
  nn x_0 fun a46 =>
  stC (a46.add 6) (.bool true) h45 fun h47 =>
  R s43 h47) (
  nn x_0 fun a48 =>
  ldI .i64 (a48.add 5) h45 fun n49 =>
  nn x_0 fun a50 =>
  stC (a50.add 5) (.int .i64 (w64 (n49 + r3))) h45 fun h51 =>
  nn x_0 fun a52 =>
  ldI .u64 (a52.add 4) h51 fun n53 =>
  nn x_0 fun a54 =>
  stC (a54.add 4) (.int .u64 (IntKind.u64.wrap (n53 + 1))) h51 fun h55 =>
  R 0 h55)) (fun J44 =>
  cnd (s40 == 0) (
  nn x_0 fun a56 =>
  ldP a56 h42 fun p57 =>
  CallT Try.prog ref5_Dev_Flush_no [.pointer p57] h42 [.sc (.int .i64)] fun (r58 : Int) h59 =>
  J44 r58 h59) (
  J44 s40 h42))) (fun J41 =>
  cnd (s37 == 0) (
  nn x_0 fun a60 =>
  ldP a60 h39 fun p61 =>
  CallT Try.prog ref6_Part_no [.slice r15.a r15.len r15.cap, .int .i64 0] h39 [.sc (.str)] fun (r62 : ByteArray) h63 =>
  (ldP a60 h63 fun p64 =>
  (.pointer p64 : Value) = .pointer p61) ∧
  CallT Try.prog ref5_Dev_Write_no [.pointer p61, .int .i64 (w64 (n18 + n20)), .string r62] h63 [.sc (.int .i64)] fun (r65 : Int) h66 =>
  J41 r65 h66) (
  J41 s37 h39))) (fun J38 =>
  cnd (s34 == 0) (
  nn x_0 fun a67 =>
  ldP a67 h36 fun p68 =>
  CallT Try.prog ref5_Dev_Flush_no [.pointer p68] h36 [.sc (.int .i64)] fun (r69 : Int) h70 =>
  J38 r69 h70) (
  J38 s34 h36))) (fun J35 =>
  withJ (σ := Bool) (fun s71 h73 => -- s71: t74
  cnd s71 (
  nn x_0 fun a74 =>
  ldP a74 h73 fun p75 =>
  CallT Try.prog ref6_Part_no [.slice none 0 0, .int .i64 0] h73 [.sc (.str)] fun (r76 : ByteArray) h77 =>
  (ldP a74 h77 fun p78 =>
  (.pointer p78 : Value) = .pointer p75) ∧
  CallT Try.prog ref5_Dev_Write_no [.pointer p75, .int .i64 (w64 ((w64 (n18 + n20)) + r3)), .string r76] h77 [.sc (.int .i64)] fun (r79 : Int) h80 =>
  J35 r79 h80) (
  J35 s21.1 h73)) (fun J72 =>
  cnd (s21.1 == 0) (
  nn x_0 fun a81 =>
  ldI .i64 (a81.add 5) h23 fun n82 =>
  nn x_0 fun a83 =>
  ldI .i64 (a83.add 2) h23 fun n84 =>
  J72 (decide ((w64 (n82 + r3)) < n84)) h23) (
  J72 false h23))))) (
  withJ (σ := Int) (fun s85 h87 => -- s85: t8
  withJ (σ := Int) (fun s88 h90 => -- s88: t8
  withJ (σ := Int) (fun s91 h93 => -- s91: t8
  withJ (σ := Int) (fun s94 h96 => -- s94: t8
  cnd (s94 != 0) (
  nn x_0 fun a97 =>
  stC (a97.add 6) (.bool true) h96 fun h98 =>
  R s94 h98) (
  nn x_0 fun a99 =>
  ldI .i64 (a99.add 5) h96 fun n100 =>
  nn x_0 fun a101 =>
  stC (a101.add 5) (.int .i64 (w64 (n100 + r3))) h96 fun h102 =>
  nn x_0 fun a103 =>
  ldI .u64 (a103.add 4) h102 fun n104 =>
  nn x_0 fun a105 =>
  stC (a105.add 4) (.int .u64 (IntKind.u64.wrap (n104 + 1))) h102 fun h106 =>
  R 0 h106)) (fun J95 =>
  cnd (s91 == 0) (
  nn x_0 fun a107 =>
  ldP a107 h93 fun p108 =>
  CallT Try.prog ref5_Dev_Flush_no [.pointer p108] h93 [.sc (.int .i64)] fun (r109 : Int) h110 =>
  J95 r109 h110) (
  J95 s91 h93))) (fun J92 =>
  cnd (s88 == 0) (
  nn x_0 fun a111 =>
  ldP a111 h90 fun p112 =>
  CallT Try.prog ref6_Part_no [.slice r15.a r15.len r15.cap, .int .i64 0] h90 [.sc (.str)] fun (r113 : ByteArray) h114 =>
  (ldP a111 h114 fun p115 =>
  (.pointer p115 : Value) = .pointer p112) ∧
  CallT Try.prog ref5_Dev_Write_no [.pointer p112, .int .i64 (w64 (n18 + n20)), .string r113] h114 [.sc (.int .i64)] fun (r116 : Int) h117 =>
  J92 r116 h117) (
  J92 s88 h90))) (fun J89 =>
  cnd (s85 == 0) (
  nn x_0 fun a118 =>
  ldP a118 h87 fun p119 =>
  CallT Try.prog ref5_Dev_Flush_no [.pointer p119] h87 [.sc (.int .i64)] fun (r120 : Int) h121 =>
  J89 r120 h121) (
  J89 s85 h87))) (fun J86 =>
  withJ (σ := Bool) (fun s122 h124 => -- s122: t74
  cnd s122 (
  nn x_0 fun a125 =>
  ldP a125 h124 fun p126 =>
  CallT Try.prog ref6_Part_no [.slice none 0 0, .int .i64 0] h124 [.sc (.str)] fun (r127 : ByteArray) h128 =>
  (ldP a125 h128 fun p129 =>
  (.pointer p129 : Value) = .pointer p126) ∧
  CallT Try.prog ref5_Dev_Write_no [.pointer p126, .int .i64 (w64 ((w64 (n18 + n20)) + r3)), .string r127] h128 [.sc (.int .i64)] fun (r130 : Int) h131 =>
  J86 r130 h131) (
  J86 s21.1 h124)) (fun J123 =>
  cnd (s21.1 == 0) (
  nn x_0 fun a132 =>
  ldI .i64 (a132.add 5) h23 fun n133 =>
  nn x_0 fun a134 =>
  ldI .i64 (a134.add 2) h23 fun n135 =>
  J123 (decide ((w64 (n133 + r3)) < n135)) h23) (
  J123 false h23)))))) (0, 1) h16))
theorem ref6_Log_Append_eq (x_0 : Option Addr) (x_1 : Sl) (R : Int → Heap → Prop) (h : Heap) : fnX Try.prog Fns.fns Try.f40 (.s .n (.s (.s .n (.s (.s .n .n) .n)) (.s .n (.s (.s .n (.s (.s .n .n) .n)) (.s .n (.s .n (.s .n (.s (.s .n (.b (.l [(8, .int .i64), (9, .int .i64)] (.j [(44, .int .i64), (45, .bool)] (.s .n (.s .n .n)) (.s (.b .n) .n))))) (.j [(8, .int .i64)] (.j [(74, .bool)] .n (.s .n .n)) (.j [(8, .int .i64)] (.s .n (.s .n .n)) (.j [(8, .int .i64)] (.s .n (.s .n .n)) (.j [(8, .int .i64)] (.s .n (.s .n .n)) (.s (.s .n (.s (.s .n (.s .n .n)) .n)) (.s .n (.s .n (.s .n .n)))))))))))))))) [.sc (.int .i64)] [.pointer x_0, .slice x_1.a x_1.len x_1.cap] h R = ref6_Log_Append x_0 x_1 R h := by kernel_rfl
theorem ref6_Log_Append_call (x_0 : Option Addr) (x_1 : Sl) {R : Int → Heap → Prop} {h : Heap} (hx : ref6_Log_Append x_0 x_1 R h) : CallT Try.prog 40 [.pointer x_0, .slice x_1.a x_1.len x_1.cap] h [.sc (.int .i64)] R :=
  call_of_fnX fnsOk mixed Try.func40 (by kernel_rfl) (by rw [ref6_Log_Append_eq]; exact hx)

/-- (*stowage/stowageref6.Log).Room (42) -/
def ref6_Log_Room (l_0 : Option Addr) (R : Int → Heap → Prop) (h : Heap) : Prop :=
  nn l_0 fun a1 =>
  ldI .i64 (a1.add 2) h fun n2 =>
  nn l_0 fun a3 =>
  ldI .i64 (a3.add 5) h fun n4 =>
  R (w64 (n2 - n4)) h
theorem ref6_Log_Room_eq (l_0 : Option Addr) (R : Int → Heap → Prop) (h : Heap) : fnX Try.prog Fns.fns Try.f42 (.s .n (.s .n .n)) [.sc (.int .i64)] [.pointer l_0] h R = ref6_Log_Room l_0 R h := by kernel_rfl
theorem ref6_Log_Room_call (l_0 : Option Addr) {R : Int → Heap → Prop} {h : Heap} (hx : ref6_Log_Room l_0 R h) : CallT Try.prog 42 [.pointer l_0] h [.sc (.int .i64)] R :=
  call_of_fnX fnsOk mixed Try.func42 (by kernel_rfl) (by rw [ref6_Log_Room_eq]; exact hx)

end Go.Proofs.Ytmkobpkdodgboaa
