/- Go functions as short texts over the heap, and that each is what the loaded function comes to (the kernel compares them); written by a program. -/
import Derived.Test.YtmkobpkdodgboaaGBase
set_option linter.unusedVariables false
set_option maxRecDepth 100000
namespace Go.Proofs.Ytmkobpkdodgboaa
open Go D
/-- stowage/wal.four (97) -/
def wal_four (n_0 : Int) (R : Sl → Heap → Prop) (h : Heap) : Prop :=
  newB [.int .u8 (IntKind.u8.wrap ((shrI .i64 n_0 24))), .int .u8 (IntKind.u8.wrap ((shrI .i64 n_0 16))), .int .u8 (IntKind.u8.wrap ((shrI .i64 n_0 8))), .int .u8 (IntKind.u8.wrap (n_0))] 5 h fun a1 h2 =>
  R (⟨(some a1), 4, 4⟩ : Sl) h2
theorem wal_four_eq (n_0 : Int) (R : Sl → Heap → Prop) (h : Heap) : fnX Try.prog Fns.fns Try.f97 (.s .n (.s .n .n)) [.sc (.sl)] [.int .i64 n_0] h R = wal_four n_0 R h := by kernel_rfl
theorem wal_four_call (n_0 : Int) {R : Sl → Heap → Prop} {h : Heap} (hx : wal_four n_0 R h) : CallT Try.prog 97 [.int .i64 n_0] h [.sc (.sl)] R :=
  call_of_fnX fnsOk mixed Try.func97 (by kernel_rfl) (by rw [wal_four_eq]; exact hx)

/-- stowage/wal.number (95) -/
def wal_number (b_0 : Sl) (R : Int → Heap → Prop) (h : Heap) : Prop :=
  idx b_0.a b_0.len 0 fun a1 =>
  ldI .u8 (a1.add ((0 : Int).toNat * 1)) h fun n2 =>
  idx b_0.a b_0.len 1 fun a3 =>
  ldI .u8 (a3.add ((1 : Int).toNat * 1)) h fun n4 =>
  idx b_0.a b_0.len 2 fun a5 =>
  ldI .u8 (a5.add ((2 : Int).toNat * 1)) h fun n6 =>
  idx b_0.a b_0.len 3 fun a7 =>
  ldI .u8 (a7.add ((3 : Int).toNat * 1)) h fun n8 =>
  R (orI .i64 (orI .i64 (orI .i64 (shlI .i64 (w64 (n2)) 24) (shlI .i64 (w64 (n4)) 16)) (shlI .i64 (w64 (n6)) 8)) (w64 (n8))) h
theorem wal_number_eq (b_0 : Sl) (R : Int → Heap → Prop) (h : Heap) : fnX Try.prog Fns.fns Try.f95 (.s .n (.s .n .n)) [.sc (.int .i64)] [.slice b_0.a b_0.len b_0.cap] h R = wal_number b_0 R h := by kernel_rfl
theorem wal_number_call (b_0 : Sl) {R : Int → Heap → Prop} {h : Heap} (hx : wal_number b_0 R h) : CallT Try.prog 95 [.slice b_0.a b_0.len b_0.cap] h [.sc (.int .i64)] R :=
  call_of_fnX fnsOk mixed Try.func95 (by kernel_rfl) (by rw [wal_number_eq]; exact hx)

/-- stowage/wal.sectors (69) -/
def wal_sectors (payload_0 : Int) (R : Int → Heap → Prop) (h : Heap) : Prop :=
  R (w64 ((w64 ((w64 ((w64 (24 + payload_0)) - 1)).tdiv 256)) + 1)) h
theorem wal_sectors_eq (payload_0 : Int) (R : Int → Heap → Prop) (h : Heap) : fnX Try.prog Fns.fns Try.f69 (.s .n (.s .n .n)) [.sc (.int .i64)] [.int .i64 payload_0] h R = wal_sectors payload_0 R h := by kernel_rfl
theorem wal_sectors_call (payload_0 : Int) {R : Int → Heap → Prop} {h : Heap} (hx : wal_sectors payload_0 R h) : CallT Try.prog 69 [.int .i64 payload_0] h [.sc (.int .i64)] R :=
  call_of_fnX fnsOk mixed Try.func69 (by kernel_rfl) (by rw [wal_sectors_eq]; exact hx)

/-- stowage/wal.Need (35) -/
def wal_Need (records_0 : Sl) (R : Int → Heap → Prop) (h : Heap) : Prop :=
  LoopT (σ := Int × Int) (fun X2 s1 h3 => -- s1: n, t8
  cnd (decide (s1.2 < (records_0.len : Int))) (
  idx records_0.a records_0.len s1.2 fun a4 =>
  ldS (a4.add (s1.2.toNat * 1)) h3 fun s5 =>
  X2 ((w64 (s1.1 + (w64 (4 + (s5.size : Int))))), (w64 (s1.2 + 1))) h3) (
  CallT Try.prog wal_sectors_no [.int .i64 s1.1] h3 [.sc (.int .i64)] fun (r6 : Int) h7 =>
  R r6 h7)) (0, 0) h
theorem wal_Need_eq (records_0 : Sl) (R : Int → Heap → Prop) (h : Heap) : fnX Try.prog Fns.fns Try.f35 (.s .n (.s .n (.s (.s .n (.b (.l [(3, .int .i64), (8, .int .i64)] (.s .n (.s (.s .n .n) (.s (.b (.s .n .n)) .n)))))) (.s .n .n)))) [.sc (.int .i64)] [.slice records_0.a records_0.len records_0.cap] h R = wal_Need records_0 R h := by kernel_rfl
theorem wal_Need_call (records_0 : Sl) {R : Int → Heap → Prop} {h : Heap} (hx : wal_Need records_0 R h) : CallT Try.prog 35 [.slice records_0.a records_0.len records_0.cap] h [.sc (.int .i64)] R :=
  call_of_fnX fnsOk mixed Try.func35 (by kernel_rfl) (by rw [wal_Need_eq]; exact hx)

/-- stowage/wal.frame (71) -/
def wal_frame (epoch_0 : Int) (number_1 : Int) (payload_2 : Sl) (R : Sl → Heap → Prop) (h : Heap) : Prop :=
  CallT Try.prog enc_Put64_no [.int .u64 epoch_0] h [.sc (.sl)] fun (r1 : Sl) h2 =>
  CallT Try.prog enc_Put64_no [.int .u64 number_1] h2 [.sc (.sl)] fun (r3 : Sl) h4 =>
  rdCells r3.a (r3.len * 1) h4 fun cs8 =>
  app [.int .u8 0] 5 1 1 r1.a r1.len r1.cap cs8 r3.len h4 fun o5 c6 h7 =>
  rdCells payload_2.a (payload_2.len * 1) h7 fun cs12 =>
  app [.int .u8 0] 5 1 1 o5 (r1.len + r3.len) c6 cs12 payload_2.len h7 fun o9 c10 h11 =>
  CallT Try.prog wal_four_no [.int .i64 (payload_2.len : Int)] h11 [.sc (.sl)] fun (r13 : Sl) h14 =>
  CallT Try.prog hash_CRC_no [.slice o9 ((r1.len + r3.len) + payload_2.len) c10] h14 [.sc (.int .u32)] fun (r15 : Int) h16 =>
  CallT Try.prog wal_four_no [.int .i64 (w64 (r15))] h16 [.sc (.sl)] fun (r17 : Sl) h18 =>
  rdCells r17.a (r17.len * 1) h18 fun cs22 =>
  app [.int .u8 0] 5 1 1 r13.a r13.len r13.cap cs22 r17.len h18 fun o19 c20 h21 =>
  rdCells o9 (((r1.len + r3.len) + payload_2.len) * 1) h21 fun cs26 =>
  app [.int .u8 0] 5 1 1 o19 (r13.len + r17.len) c20 cs26 ((r1.len + r3.len) + payload_2.len) h21 fun o23 c24 h25 =>
  CallT Try.prog wal_sectors_no [.int .i64 (payload_2.len : Int)] h25 [.sc (.int .i64)] fun (r27 : Int) h28 =>
  appZ [.int .u8 0] 5 1 1 o23 ((r13.len + r17.len) + ((r1.len + r3.len) + payload_2.len)) c24 (w64 ((w64 (r27 * 256)) - (((r13.len + r17.len) + ((r1.len + r3.len) + payload_2.len)) : Int))) h28 fun o29 c30 h31 =>
  R (⟨o29, (((r13.len + r17.len) + ((r1.len + r3.len) + payload_2.len)) + (w64 ((w64 (r27 * 256)) - (((r13.len + r17.len) + ((r1.len + r3.len) + payload_2.len)) : Int))).toNat), c30⟩ : Sl) h31
theorem wal_frame_eq (epoch_0 : Int) (number_1 : Int) (payload_2 : Sl) (R : Sl → Heap → Prop) (h : Heap) : fnX Try.prog Fns.fns Try.f71 (.s .n (.s .n (.s .n (.s .n .n)))) [.sc (.sl)] [.int .u64 epoch_0, .int .u64 number_1, .slice payload_2.a payload_2.len payload_2.cap] h R = wal_frame epoch_0 number_1 payload_2 R h := by kernel_rfl
theorem wal_frame_call (epoch_0 : Int) (number_1 : Int) (payload_2 : Sl) {R : Sl → Heap → Prop} {h : Heap} (hx : wal_frame epoch_0 number_1 payload_2 R h) : CallT Try.prog 71 [.int .u64 epoch_0, .int .u64 number_1, .slice payload_2.a payload_2.len payload_2.cap] h [.sc (.sl)] R :=
  call_of_fnX fnsOk mixed Try.func71 (by kernel_rfl) (by rw [wal_frame_eq]; exact hx)

/-- (*stowage/wal.Log).read (68) -/
def wal_Log_read (x_0 : Option Addr) (R : Sl × Int × Bool × Int → Heap → Prop) (h : Heap) : Prop :=
  withJ (σ := Unit) (fun s1 h3 => -- s1: 
  R ((⟨none, 0, 0⟩ : Sl), 0, false, 0) h3) (fun J2 =>
  nn x_0 fun a4 =>
  ldI .i64 (a4.add 5) h fun n5 =>
  nn x_0 fun a6 =>
  ldI .i64 (a6.add 2) h fun n7 =>
  cnd (decide (n5 ≥ n7)) (
  J2 () h) (
  nn x_0 fun a8 =>
  ldP a8 h fun p9 =>
  nn x_0 fun a10 =>
  ldI .i64 (a10.add 1) h fun n11 =>
  nn x_0 fun a12 =>
  ldI .i64 (a12.add 5) h fun n13 =>
  CallT Try.prog disk_Dev_Read_no [.pointer p9, .int .i64 (w64 (n11 + n13))] h [.sc (.sl), .sc (.int .i64)] fun (r14 : Sl × Int) h15 =>
  cnd (r14.2 != 0) (
  R ((⟨none, 0, 0⟩ : Sl), 0, false, r14.2) h15) (
  CallT Try.prog wal_number_no [.slice r14.1.a r14.1.len r14.1.cap] h15 [.sc (.int .i64)] fun (r16 : Int) h17 =>
  nn x_0 fun a18 =>
  ldI .i64 (a18.add 2) h17 fun n19 =>
  nn x_0 fun a20 =>
  ldI .i64 (a20.add 5) h17 fun n21 =>
  cnd (decide (r16 > (w64 ((w64 ((w64 (n19 - n21)) * 256)) - 24)))) (
  J2 () h17) (
  LoopT (σ := Sl × Int) (fun X23 s22 h24 => -- s22: t6, t9
  CallT Try.prog wal_sectors_no [.int .i64 r16] h24 [.sc (.int .i64)] fun (r25 : Int) h26 =>
  cnd (decide (s22.2 < r25)) (
  nn x_0 fun a27 =>
  ldP a27 h26 fun p28 =>
  nn x_0 fun a29 =>
  ldI .i64 (a29.add 1) h26 fun n30 =>
  nn x_0 fun a31 =>
  ldI .i64 (a31.add 5) h26 fun n32 =>
  CallT Try.prog disk_Dev_Read_no [.pointer p28, .int .i64 (w64 ((w64 (n30 + n32)) + s22.2))] h26 [.sc (.sl), .sc (.int .i64)] fun (r33 : Sl × Int) h34 =>
  cnd (r33.2 != 0) (
  R ((⟨none, 0, 0⟩ : Sl), 0, false, r33.2) h34) (
  rdCells r33.1.a (r33.1.len * 1) h34 fun cs38 =>
  app [.int .u8 0] 5 1 1 s22.1.a s22.1.len s22.1.cap cs38 r33.1.len h34 fun o35 c36 h37 =>
  X23 ((⟨o35, (s22.1.len + r33.1.len), c36⟩ : Sl), (w64 (s22.2 + 1))) h37)) (
  lsl 1 s22.1.a s22.1.cap 24 (w64 (24 + r16)) (s22.1.cap : Int) fun o39 l39 c39 =>
  nn x_0 fun a40 =>
  ldI .u64 (a40.add 3) h26 fun n41 =>
  nn x_0 fun a42 =>
  ldI .u64 (a42.add 4) h26 fun n43 =>
  lsl 1 s22.1.a s22.1.cap 0 24 (s22.1.cap : Int) fun o44 l44 c44 =>
  b2s o44 l44 h26 fun s45 =>
  CallT Try.prog wal_frame_no [.int .u64 n41, .int .u64 n43, .slice o39 l39 c39] h26 [.sc (.sl)] fun (r46 : Sl) h47 =>
  (b2s o44 l44 h47 fun s48 =>
  (.string s48 : Value) = .string s45) ∧
  lsl 1 r46.a r46.cap 0 24 (r46.cap : Int) fun o49 l49 c49 =>
  b2s o49 l49 h47 fun s50 =>
  cnd (!seq s50 s45) (
  J2 () h47) (
  CallT Try.prog enc_Unpack_no [.slice o39 l39 c39] h47 [.sc (.sl), .sc (.bool)] fun (r51 : Sl × Bool) h52 =>
  cnd (!r51.2) (
  J2 () h52) (
  CallT Try.prog wal_sectors_no [.int .i64 r16] h52 [.sc (.int .i64)] fun (r53 : Int) h54 =>
  R (r51.1, r53, true, 0) h54)))) (r14.1, 1) h17))))
theorem wal_Log_read_eq (x_0 : Option Addr) (R : Sl × Int × Bool × Int → Heap → Prop) (h : Heap) : fnX Try.prog Fns.fns Try.f68 (.s .n (.g 0 [] (.s .n (.s .n (.s (.s .n (.s .n .n)) (.s .n (.s (.s .n (.s (.s .n .n) .n)) (.s .n (.s (.s .n (.s .n .n)) (.s (.s .n (.b (.l [(6, .sl), (9, .int .i64)] (.s (.s .n (.s .n .n)) (.s (.b (.s .n (.s (.s .n (.s (.s .n .n) .n)) .n))) .n))))) (.s .n (.s (.s .n (.s .n .n)) (.s .n (.s (.s .n (.s .n .n)) (.s (.s .n .n) .n))))))))))))) (.s .n (.s .n (.s .n (.s .n (.s .n (.s .n (.s .n (.s .n (.s .n (.s .n (.s .n (.s .n (.s .n (.s .n (.s .n .n))))))))))))))))) [.sc (.sl), .sc (.int .i64), .sc (.bool), .sc (.int .i64)] [.pointer x_0] h R = wal_Log_read x_0 R h := by kernel_rfl
theorem wal_Log_read_call (x_0 : Option Addr) {R : Sl × Int × Bool × Int → Heap → Prop} {h : Heap} (hx : wal_Log_read x_0 R h) : CallT Try.prog 68 [.pointer x_0] h [.sc (.sl), .sc (.int .i64), .sc (.bool), .sc (.int .i64)] R :=
  call_of_fnX fnsOk mixed Try.func68 (by kernel_rfl) (by rw [wal_Log_read_eq]; exact hx)

/-- stowage/wal.Open (31) -/
def wal_Open (x_0 : Option Addr) (x_1 : Int) (x_2 : Int) (x_3 : Int) (R : (Option Addr) × Sl × Int → Heap → Prop) (h : Heap) : Prop :=
  withJ (σ := Unit) (fun s1 h3 => -- s1: 
  CallT Try.prog disk_Dev_Dead_no [.pointer x_0] h3 [.sc (.bool)] fun (r4 : Bool) h5 =>
  cnd r4 (
  R (none, (⟨none, 0, 0⟩ : Sl), 50) h5) (
  newB [.pointer x_0, .int .i64 x_1, .int .i64 x_2, .int .u64 x_3, .int .u64 0, .int .i64 0, .bool false] 118 h5 fun a6 h7 =>
  LoopT (σ := Sl) (fun X9 s8 h10 => -- s8: t12
  CallT Try.prog wal_Log_read_no [.pointer (some a6)] h10 [.sc (.sl), .sc (.int .i64), .sc (.bool), .sc (.int .i64)] fun (r11 : Sl × Int × Bool × Int) h12 =>
  cnd (r11.2.2.2 != 0) (
  R (none, (⟨none, 0, 0⟩ : Sl), r11.2.2.2) h12) (
  cnd (!r11.2.2.1) (
  lsl 1 s8.a s8.cap 0 (s8.len : Int) (s8.len : Int) fun o13 l13 c13 =>
  R ((some a6), (⟨o13, l13, c13⟩ : Sl), 0) h12) (
  newB [.slice r11.1.a r11.1.len r11.1.cap] 50 h12 fun a14 h15 =>
  ldRow (1 * 1) a14 h15 fun cs19 =>
  app [.slice none 0 0] 50 1 24 s8.a s8.len s8.cap cs19 1 h15 fun o16 c17 h18 =>
  ldI .i64 (a6.add 5) h18 fun n20 =>
  stC (a6.add 5) (.int .i64 (w64 (n20 + r11.2.1))) h18 fun h21 =>
  ldI .u64 (a6.add 4) h21 fun n22 =>
  stC (a6.add 4) (.int .u64 (IntKind.u64.wrap (n22 + 1))) h21 fun h23 =>
  X9 (⟨o16, (s8.len + 1), c17⟩ : Sl) h23))) (⟨none, 0, 0⟩ : Sl) h7)) (fun J2 =>
  withJ (σ := Bool) (fun s24 h26 => -- s24: t40
  cnd s24 (
  R (none, (⟨none, 0, 0⟩ : Sl), 1) h26) (
  J2 () h26)) (fun J25 =>
  cnd x_0.isNone (
  J25 true h) (
  cnd (decide (x_2 < 1)) (
  J25 true h) (
  cnd (decide (x_1 < 0)) (
  J25 true h) (
  CallT Try.prog disk_Dev_Size_no [.pointer x_0] h [.sc (.int .i64)] fun (r27 : Int) h28 =>
  cnd (decide (x_1 > r27)) (
  J25 true h28) (
  CallT Try.prog disk_Dev_Size_no [.pointer x_0] h28 [.sc (.int .i64)] fun (r29 : Int) h30 =>
  J25 (decide (x_2 > (w64 (r29 - x_1)))) h30))))))
theorem wal_Open_eq (x_0 : Option Addr) (x_1 : Int) (x_2 : Int) (x_3 : Int) (R : (Option Addr) × Sl × Int → Heap → Prop) (h : Heap) : fnX Try.prog Fns.fns Try.f31 (.s .n (.j [] (.j [(40, .bool)] .n (.s (.s .n .n) .n)) (.s (.s .n (.s (.s .n .n) .n)) (.s .n (.s .n (.b (.l [(12, .sl)] (.b (.s .n (.s (.s .n (.s (.s .n .n) .n)) (.s (.s .n (.s (.s .n .n) .n)) (.s .n (.s .n .n))))))))))))) [.sc (.ptr), .sc (.sl), .sc (.int .i64)] [.pointer x_0, .int .i64 x_1, .int .i64 x_2, .int .u64 x_3] h R = wal_Open x_0 x_1 x_2 x_3 R h := by kernel_rfl
theorem wal_Open_call (x_0 : Option Addr) (x_1 : Int) (x_2 : Int) (x_3 : Int) {R : (Option Addr) × Sl × Int → Heap → Prop} {h : Heap} (hx : wal_Open x_0 x_1 x_2 x_3 R h) : CallT Try.prog 31 [.pointer x_0, .int .i64 x_1, .int .i64 x_2, .int .u64 x_3] h [.sc (.ptr), .sc (.sl), .sc (.int .i64)] R :=
  call_of_fnX fnsOk mixed Try.func31 (by kernel_rfl) (by rw [wal_Open_eq]; exact hx)

/-- (*stowage/wal.Log).write (70) -/
def wal_Log_write (x_0 : Option Addr) (x_1 : Sl) (R : Int → Heap → Prop) (h : Heap) : Prop :=
  LoopT (σ := Int) (fun X2 s1 h3 => -- s1: t6
  cnd (decide (s1 < (w64 ((x_1.len : Int).tdiv 256)))) (
  nn x_0 fun a4 =>
  ldP a4 h3 fun p5 =>
  nn x_0 fun a6 =>
  ldI .i64 (a6.add 1) h3 fun n7 =>
  nn x_0 fun a8 =>
  ldI .i64 (a8.add 5) h3 fun n9 =>
  lsl 1 x_1.a x_1.cap (w64 (s1 * 256)) (w64 ((w64 (s1 * 256)) + 256)) (x_1.cap : Int) fun o10 l10 c10 =>
  CallT Try.prog disk_Dev_Write_no [.pointer p5, .int .i64 (w64 ((w64 (n7 + n9)) + s1)), .slice o10 l10 c10] h3 [.sc (.int .i64)] fun (r11 : Int) h12 =>
  cnd (r11 != 0) (
  R r11 h12) (
  X2 (w64 (s1 + 1)) h12)) (
  withJ (σ := Unit) (fun s13 h15 => -- s13: 
  nn x_0 fun a16 =>
  ldP a16 h15 fun p17 =>
  CallT Try.prog disk_Dev_Flush_no [.pointer p17] h15 [.sc (.int .i64)] fun (r18 : Int) h19 =>
  cnd (r18 != 0) (
  R r18 h19) (
  nn x_0 fun a20 =>
  ldP a20 h19 fun p21 =>
  nn x_0 fun a22 =>
  ldI .i64 (a22.add 1) h19 fun n23 =>
  nn x_0 fun a24 =>
  ldI .i64 (a24.add 5) h19 fun n25 =>
  lsl 1 x_1.a x_1.cap 0 256 (x_1.cap : Int) fun o26 l26 c26 =>
  CallT Try.prog disk_Dev_Write_no [.pointer p21, .int .i64 (w64 (n23 + n25)), .slice o26 l26 c26] h19 [.sc (.int .i64)] fun (r27 : Int) h28 =>
  cnd (r27 != 0) (
  R r27 h28) (
  nn x_0 fun a29 =>
  ldP a29 h28 fun p30 =>
  CallT Try.prog disk_Dev_Flush_no [.pointer p30] h28 [.sc (.int .i64)] fun (r31 : Int) h32 =>
  R r31 h32))) (fun J14 =>
  nn x_0 fun a33 =>
  ldI .i64 (a33.add 5) h3 fun n34 =>
  nn x_0 fun a35 =>
  ldI .i64 (a35.add 2) h3 fun n36 =>
  cnd (decide ((w64 (n34 + (w64 ((x_1.len : Int).tdiv 256)))) < n36)) (
  nn x_0 fun a37 =>
  ldP a37 h3 fun p38 =>
  nn x_0 fun a39 =>
  ldI .i64 (a39.add 1) h3 fun n40 =>
  nn x_0 fun a41 =>
  ldI .i64 (a41.add 5) h3 fun n42 =>
  mkSl [.int .u8 0] 5 1 256 256 h3 fun a43 h44 =>
  (ldI .i64 (a41.add 5) h44 fun n45 =>
  (.int .i64 n45 : Value) = .int .i64 n42) ∧
  (ldI .i64 (a39.add 1) h44 fun n46 =>
  (.int .i64 n46 : Value) = .int .i64 n40) ∧
  (ldP a37 h44 fun p47 =>
  (.pointer p47 : Value) = .pointer p38) ∧
  CallT Try.prog disk_Dev_Write_no [.pointer p38, .int .i64 (w64 ((w64 (n40 + n42)) + (w64 ((x_1.len : Int).tdiv 256)))), .slice (some a43) ((256 : Int).toNat) ((256 : Int).toNat)] h44 [.sc (.int .i64)] fun (r48 : Int) h49 =>
  cnd (r48 != 0) (
  R r48 h49) (
  J14 () h49)) (
  J14 () h3)))) 1 h
theorem wal_Log_write_eq (x_0 : Option Addr) (x_1 : Sl) (R : Int → Heap → Prop) (h : Heap) : fnX Try.prog Fns.fns Try.f70 (.s .n (.s .n (.s (.s .n (.b (.l [(6, .int .i64)] (.s (.s .n (.s .n .n)) (.s (.b (.s .n (.s .n (.s (.s .n .n) .n)))) .n))))) (.j [] (.s .n (.s (.s .n (.s .n (.s (.s .n .n) .n))) .n)) (.s (.s .n (.s .n (.s (.s .n .n) .n))) (.s (.s .n (.s .n (.s (.s .n .n) .n))) (.s .n .n))))))) [.sc (.int .i64)] [.pointer x_0, .slice x_1.a x_1.len x_1.cap] h R = wal_Log_write x_0 x_1 R h := by kernel_rfl
theorem wal_Log_write_call (x_0 : Option Addr) (x_1 : Sl) {R : Int → Heap → Prop} {h : Heap} (hx : wal_Log_write x_0 x_1 R h) : CallT Try.prog 70 [.pointer x_0, .slice x_1.a x_1.len x_1.cap] h [.sc (.int .i64)] R :=
  call_of_fnX fnsOk mixed Try.func70 (by kernel_rfl) (by rw [wal_Log_write_eq]; exact hx)

/-- (*stowage/wal.Log).Append (36) -/
def wal_Log_Append (l_0 : Option Addr) (records_1 : Sl) (R : Int → Heap → Prop) (h : Heap) : Prop :=
  nn l_0 fun a1 =>
  ldB (a1.add 6) h fun b2 =>
  cnd b2 (
  R 50 h) (
  CallT Try.prog wal_Need_no [.slice records_1.a records_1.len records_1.cap] h [.sc (.int .i64)] fun (r3 : Int) h4 =>
  CallT Try.prog wal_Log_Room_no [.pointer l_0] h4 [.sc (.int .i64)] fun (r5 : Int) h6 =>
  cnd (decide (r3 > r5)) (
  R 60 h6) (
  nn l_0 fun a7 =>
  ldI .u64 (a7.add 3) h6 fun n8 =>
  nn l_0 fun a9 =>
  ldI .u64 (a9.add 4) h6 fun n10 =>
  CallT Try.prog enc_Pack_no [.slice records_1.a records_1.len records_1.cap] h6 [.sc (.sl)] fun (r11 : Sl) h12 =>
  (ldI .u64 (a9.add 4) h12 fun n13 =>
  (.int .u64 n13 : Value) = .int .u64 n10) ∧
  (ldI .u64 (a7.add 3) h12 fun n14 =>
  (.int .u64 n14 : Value) = .int .u64 n8) ∧
  CallT Try.prog wal_frame_no [.int .u64 n8, .int .u64 n10, .slice r11.a r11.len r11.cap] h12 [.sc (.sl)] fun (r15 : Sl) h16 =>
  CallT Try.prog wal_Log_write_no [.pointer l_0, .slice r15.a r15.len r15.cap] h16 [.sc (.int .i64)] fun (r17 : Int) h18 =>
  cnd (r17 != 0) (
  nn l_0 fun a19 =>
  stC (a19.add 6) (.bool true) h18 fun h20 =>
  R r17 h20) (
  nn l_0 fun a21 =>
  ldI .i64 (a21.add 5) h18 fun n22 =>
  nn l_0 fun a23 =>
  stC (a23.add 5) (.int .i64 (w64 (n22 + r3))) h18 fun h24 =>
  nn l_0 fun a25 =>
  ldI .u64 (a25.add 4) h24 fun n26 =>
  nn l_0 fun a27 =>
  stC (a27.add 4) (.int .u64 (IntKind.u64.wrap (n26 + 1))) h24 fun h28 =>
  R 0 h28)))
theorem wal_Log_Append_eq (l_0 : Option Addr) (records_1 : Sl) (R : Int → Heap → Prop) (h : Heap) : fnX Try.prog Fns.fns Try.f36 (.s .n (.s (.s .n (.s (.s .n .n) .n)) (.s .n (.s (.s .n (.s (.s .n .n) .n)) (.s (.s .n (.s .n (.s (.s .n (.s .n .n)) .n))) (.s .n (.s .n (.s .n .n)))))))) [.sc (.int .i64)] [.pointer l_0, .slice records_1.a records_1.len records_1.cap] h R = wal_Log_Append l_0 records_1 R h := by kernel_rfl
theorem wal_Log_Append_call (l_0 : Option Addr) (records_1 : Sl) {R : Int → Heap → Prop} {h : Heap} (hx : wal_Log_Append l_0 records_1 R h) : CallT Try.prog 36 [.pointer l_0, .slice records_1.a records_1.len records_1.cap] h [.sc (.int .i64)] R :=
  call_of_fnX fnsOk mixed Try.func36 (by kernel_rfl) (by rw [wal_Log_Append_eq]; exact hx)

/-- (*stowage/wal.Log).Next (34) -/
def wal_Log_Next (l_0 : Option Addr) (R : Int → Heap → Prop) (h : Heap) : Prop :=
  nn l_0 fun a1 =>
  ldI .u64 (a1.add 4) h fun n2 =>
  R n2 h
theorem wal_Log_Next_eq (l_0 : Option Addr) (R : Int → Heap → Prop) (h : Heap) : fnX Try.prog Fns.fns Try.f34 (.s .n (.s .n .n)) [.sc (.int .u64)] [.pointer l_0] h R = wal_Log_Next l_0 R h := by kernel_rfl
theorem wal_Log_Next_call (l_0 : Option Addr) {R : Int → Heap → Prop} {h : Heap} (hx : wal_Log_Next l_0 R h) : CallT Try.prog 34 [.pointer l_0] h [.sc (.int .u64)] R :=
  call_of_fnX fnsOk mixed Try.func34 (by kernel_rfl) (by rw [wal_Log_Next_eq]; exact hx)

/-- (*stowage/wal.Log).Room (33) -/
def wal_Log_Room (l_0 : Option Addr) (R : Int → Heap → Prop) (h : Heap) : Prop :=
  nn l_0 fun a1 =>
  ldI .i64 (a1.add 2) h fun n2 =>
  nn l_0 fun a3 =>
  ldI .i64 (a3.add 5) h fun n4 =>
  R (w64 (n2 - n4)) h
theorem wal_Log_Room_eq (l_0 : Option Addr) (R : Int → Heap → Prop) (h : Heap) : fnX Try.prog Fns.fns Try.f33 (.s .n (.s .n .n)) [.sc (.int .i64)] [.pointer l_0] h R = wal_Log_Room l_0 R h := by kernel_rfl
theorem wal_Log_Room_call (l_0 : Option Addr) {R : Int → Heap → Prop} {h : Heap} (hx : wal_Log_Room l_0 R h) : CallT Try.prog 33 [.pointer l_0] h [.sc (.int .i64)] R :=
  call_of_fnX fnsOk mixed Try.func33 (by kernel_rfl) (by rw [wal_Log_Room_eq]; exact hx)

/-- stowage/enc.Pack (72) -/
def enc_Pack (l_0 : Sl) (R : Sl → Heap → Prop) (h : Heap) : Prop :=
  LoopT (σ := Int × Int) (fun X2 s1 h3 => -- s1: size, t12
  cnd (decide (s1.2 < (l_0.len : Int))) (
  idx l_0.a l_0.len s1.2 fun a4 =>
  ldS (a4.add (s1.2.toNat * 1)) h3 fun s5 =>
  X2 ((w64 (s1.1 + (w64 (4 + (s5.size : Int))))), (w64 (s1.2 + 1))) h3) (
  mkSl [.int .u8 0] 5 1 0 s1.1 h3 fun a6 h7 =>
  LoopT (σ := Sl × Int) (fun X9 s8 h10 => -- s8: out, t26
  cnd (decide (s8.2 < (l_0.len : Int))) (
  idx l_0.a l_0.len s8.2 fun a11 =>
  ldS (a11.add (s8.2.toNat * 1)) h10 fun s12 =>
  newB [.int .u8 (IntKind.u8.wrap ((shrI .i64 (s12.size : Int) 24))), .int .u8 (IntKind.u8.wrap ((shrI .i64 (s12.size : Int) 16))), .int .u8 (IntKind.u8.wrap ((shrI .i64 (s12.size : Int) 8))), .int .u8 (IntKind.u8.wrap ((s12.size : Int)))] 5 h10 fun a13 h14 =>
  ldRow (4 * 1) a13 h14 fun cs18 =>
  app [.int .u8 0] 5 1 1 s8.1.a s8.1.len s8.1.cap cs18 4 h14 fun o15 c16 h17 =>
  app [.int .u8 0] 5 1 1 o15 (s8.1.len + 4) c16 (bytesV s12) s12.size h17 fun o19 c20 h21 =>
  X9 ((⟨o19, ((s8.1.len + 4) + s12.size), c20⟩ : Sl), (w64 (s8.2 + 1))) h21) (
  R s8.1 h10)) ((⟨(some a6), (0 : Int).toNat, s1.1.toNat⟩ : Sl), 0) h7)) (0, 0) h
theorem enc_Pack_eq (l_0 : Sl) (R : Sl → Heap → Prop) (h : Heap) : fnX Try.prog Fns.fns Try.f72 (.s .n (.s .n (.s (.s .n (.b (.l [(3, .int .i64), (12, .int .i64)] (.s .n (.s (.s .n .n) (.s (.b (.s .n .n)) .n)))))) (.s .n (.s (.s .n (.b (.l [(6, .sl), (26, .int .i64)] (.s .n (.s (.s .n .n) (.s (.b (.s .n (.s .n (.s .n .n)))) .n)))))) (.s .n .n)))))) [.sc (.sl)] [.slice l_0.a l_0.len l_0.cap] h R = enc_Pack l_0 R h := by kernel_rfl
theorem enc_Pack_call (l_0 : Sl) {R : Sl → Heap → Prop} {h : Heap} (hx : enc_Pack l_0 R h) : CallT Try.prog 72 [.slice l_0.a l_0.len l_0.cap] h [.sc (.sl)] R :=
  call_of_fnX fnsOk mixed Try.func72 (by kernel_rfl) (by rw [enc_Pack_eq]; exact hx)

/-- stowage/enc.Unpack (96) -/
def enc_Unpack (b_0 : Sl) (R : Sl × Bool → Heap → Prop) (h : Heap) : Prop :=
  LoopT (σ := Sl × Sl) (fun X2 s1 h3 => -- s1: b, out
  cnd (decide ((s1.1.len : Int) > 0)) (
  cnd (decide ((s1.1.len : Int) < 4)) (
  R ((⟨none, 0, 0⟩ : Sl), false) h3) (
  idx s1.1.a s1.1.len 0 fun a4 =>
  ldI .u8 (a4.add ((0 : Int).toNat * 1)) h3 fun n5 =>
  idx s1.1.a s1.1.len 1 fun a6 =>
  ldI .u8 (a6.add ((1 : Int).toNat * 1)) h3 fun n7 =>
  idx s1.1.a s1.1.len 2 fun a8 =>
  ldI .u8 (a8.add ((2 : Int).toNat * 1)) h3 fun n9 =>
  idx s1.1.a s1.1.len 3 fun a10 =>
  ldI .u8 (a10.add ((3 : Int).toNat * 1)) h3 fun n11 =>
  cnd (decide ((orI .i64 (orI .i64 (orI .i64 (shlI .i64 (w64 (n5)) 24) (shlI .i64 (w64 (n7)) 16)) (shlI .i64 (w64 (n9)) 8)) (w64 (n11))) > (w64 ((s1.1.len : Int) - 4)))) (
  R ((⟨none, 0, 0⟩ : Sl), false) h3) (
  lsl 1 s1.1.a s1.1.cap 4 (w64 (4 + (orI .i64 (orI .i64 (orI .i64 (shlI .i64 (w64 (n5)) 24) (shlI .i64 (w64 (n7)) 16)) (shlI .i64 (w64 (n9)) 8)) (w64 (n11))))) (s1.1.cap : Int) fun o12 l12 c12 =>
  b2s o12 l12 h3 fun s13 =>
  newB [.string s13] 9 h3 fun a14 h15 =>
  ldRow (1 * 1) a14 h15 fun cs19 =>
  app [.string (⟨#[]⟩ : ByteArray)] 9 1 16 s1.2.a s1.2.len s1.2.cap cs19 1 h15 fun o16 c17 h18 =>
  lsl 1 s1.1.a s1.1.cap (w64 (4 + (orI .i64 (orI .i64 (orI .i64 (shlI .i64 (w64 (n5)) 24) (shlI .i64 (w64 (n7)) 16)) (shlI .i64 (w64 (n9)) 8)) (w64 (n11))))) (s1.1.len : Int) (s1.1.cap : Int) fun o20 l20 c20 =>
  X2 ((⟨o20, l20, c20⟩ : Sl), (⟨o16, (s1.2.len + 1), c17⟩ : Sl)) h18))) (
  lsl 1 s1.2.a s1.2.cap 0 (s1.2.len : Int) (s1.2.len : Int) fun o21 l21 c21 =>
  R ((⟨o21, l21, c21⟩ : Sl), true) h3)) (b_0, (⟨none, 0, 0⟩ : Sl)) h
theorem enc_Unpack_eq (b_0 : Sl) (R : Sl × Bool → Heap → Prop) (h : Heap) : fnX Try.prog Fns.fns Try.f96 (.s .n (.s .n (.s (.b (.l [(0, .sl), (4, .sl)] (.s (.s .n (.s .n .n)) (.b (.s (.s .n (.s (.s .n .n) .n)) (.s .n (.s (.s .n (.s (.s .n .n) .n)) (.s .n .n)))))))) (.s .n .n)))) [.sc (.sl), .sc (.bool)] [.slice b_0.a b_0.len b_0.cap] h R = enc_Unpack b_0 R h := by kernel_rfl
theorem enc_Unpack_call (b_0 : Sl) {R : Sl × Bool → Heap → Prop} {h : Heap} (hx : enc_Unpack b_0 R h) : CallT Try.prog 96 [.slice b_0.a b_0.len b_0.cap] h [.sc (.sl), .sc (.bool)] R :=
  call_of_fnX fnsOk mixed Try.func96 (by kernel_rfl) (by rw [enc_Unpack_eq]; exact hx)

end Go.Proofs.Ytmkobpkdodgboaa
