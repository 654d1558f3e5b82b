/- Go functions as short texts over the heap, and that each is what the loaded function comes to (the kernel compares them); written by a program. -/
import Derived.Test.YtmkobpkdodgboaaGBase
set_option linter.unusedVariables false
set_option maxRecDepth 100000
namespace Go.Proofs.Ytmkobpkdodgboaa
open Go D
/-- stowage/blob.Sectors (43) -/
def blob_Sectors (size_0 : Int) (R : Int → Heap → Prop) (h : Heap) : Prop :=
  cnd (decide (size_0 ≤ 0)) (
  R 0 h) (
  R (w64 ((w64 ((w64 (size_0 - 1)).tdiv 252)) + 1)) h)
theorem blob_Sectors_eq (size_0 : Int) (R : Int → Heap → Prop) (h : Heap) : fnX Try.prog Fns.fns Try.f43 (.s .n (.s (.s .n (.s (.s .n .n) .n)) (.s .n .n))) [.sc (.int .i64)] [.int .i64 size_0] h R = blob_Sectors size_0 R h := by kernel_rfl
theorem blob_Sectors_call (size_0 : Int) {R : Int → Heap → Prop} {h : Heap} (hx : blob_Sectors size_0 R h) : CallT Try.prog 43 [.int .i64 size_0] h [.sc (.int .i64)] R :=
  call_of_fnX fnsOk mixed Try.func43 (by kernel_rfl) (by rw [blob_Sectors_eq]; exact hx)

/-- stowage/blob.formed (80) -/
def blob_formed (r_0 : Int × Int) (R : Bool → Heap → Prop) (h : Heap) : Prop :=
  newB [.int .i64 r_0.1, .int .i64 r_0.2] 87 h fun a1 h2 =>
  withJ (σ := Bool) (fun s3 h5 => -- s3: t2
  R s3 h5) (fun J4 =>
  ldI .i64 (a1.add 1) h2 fun n6 =>
  cnd (decide (n6 > 0)) (
  ldI .i64 a1 h2 fun n7 =>
  cnd (decide (n7 ≥ 0)) (
  J4 true h2) (
  ldI .i64 (a1.add 1) h2 fun n8 =>
  cnd (n8 == 0) (
  ldI .i64 a1 h2 fun n9 =>
  J4 (n9 == 0) h2) (
  J4 false h2))) (
  ldI .i64 (a1.add 1) h2 fun n10 =>
  cnd (n10 == 0) (
  ldI .i64 a1 h2 fun n11 =>
  J4 (n11 == 0) h2) (
  J4 false h2)))
theorem blob_formed_eq (r_0 : Int × Int) (R : Bool → Heap → Prop) (h : Heap) : fnX Try.prog Fns.fns Try.f80 (.s .n (.j [(2, .bool)] .n .n)) [.sc (.bool)] [.agg #[.int .i64 r_0.1, .int .i64 r_0.2]] h R = blob_formed r_0 R h := by kernel_rfl
theorem blob_formed_call (r_0 : Int × Int) {R : Bool → Heap → Prop} {h : Heap} (hx : blob_formed r_0 R h) : CallT Try.prog 80 [.agg #[.int .i64 r_0.1, .int .i64 r_0.2]] h [.sc (.bool)] R :=
  call_of_fnX fnsOk mixed Try.func80 (by kernel_rfl) (by rw [blob_formed_eq]; exact hx)

/-- stowage/blob.Open (46) -/
def blob_Open (x_0 : Option Addr) (x_1 : Int) (x_2 : Int) (x_3 : Sl) (R : (Option Addr) × Int → Heap → Prop) (h : Heap) : Prop :=
  withJ (σ := Unit) (fun s1 h3 => -- s1: 
  CallT Try.prog alloc_New_no [.int .i64 x_2] h3 [.sc (.ptr), .sc (.int .i64)] fun (r4 : (Option Addr) × Int) h5 =>
  cnd (r4.2 != 0) (
  R (none, r4.2) h5) (
  LoopT (σ := Int) (fun X7 s6 h8 => -- s6: t48
  cnd (decide (s6 < (x_3.len : Int))) (
  withJ (σ := Unit) (fun s9 h11 => -- s9: 
  X7 (w64 (s6 + 1)) h11) (fun J10 =>
  idx x_3.a x_3.len s6 fun a12 =>
  ldI .i64 (a12.add (s6.toNat * 2)) h8 fun n13 =>
  ldI .i64 ((a12.add (s6.toNat * 2)).add 1) h8 fun n14 =>
  newB [.int .i64 0, .int .i64 0] 87 h8 fun a15 h16 =>
  stC a15 (.int .i64 n13) h16 fun h17 =>
  stC (a15.add 1) (.int .i64 n14) h17 fun h18 =>
  withJ (σ := Bool) (fun s19 h21 => -- s19: t69
  cnd s19 (
  R (none, 62) h21) (
  J10 () h21)) (fun J20 =>
  ldI .i64 a15 h18 fun n22 =>
  ldI .i64 (a15.add 1) h18 fun n23 =>
  CallT Try.prog blob_formed_no [.agg #[.int .i64 n22, .int .i64 n23]] h18 [.sc (.bool)] fun (r24 : Bool) h25 =>
  cnd (!r24) (
  J20 true h25) (
  ldI .i64 (a15.add 1) h25 fun n26 =>
  cnd (decide (n26 > 0)) (
  ldI .i64 a15 h25 fun n27 =>
  ldI .i64 (a15.add 1) h25 fun n28 =>
  CallT Try.prog blob_Sectors_no [.int .i64 n28] h25 [.sc (.int .i64)] fun (r29 : Int) h30 =>
  (ldI .i64 a15 h30 fun n31 =>
  (.int .i64 n31 : Value) = .int .i64 n27) ∧
  CallT Try.prog alloc_Space_Mark_no [.pointer r4.1, .int .i64 n27, .int .i64 r29] h30 [.sc (.int .i64)] fun (r32 : Int) h33 =>
  J20 (r32 != 0) h33) (
  J20 false h25))))) (
  newB [.pointer x_0, .int .i64 x_1, .pointer r4.1] 133 h8 fun a34 h35 =>
  R ((some a34), 0) h35)) 0 h5)) (fun J2 =>
  withJ (σ := Bool) (fun s36 h38 => -- s36: t37
  cnd s36 (
  R (none, 1) h38) (
  J2 () h38)) (fun J37 =>
  cnd x_0.isNone (
  J37 true h) (
  cnd (decide (x_2 < 0)) (
  J37 true h) (
  cnd (decide (x_1 < 0)) (
  J37 true h) (
  CallT Try.prog disk_Dev_Size_no [.pointer x_0] h [.sc (.int .i64)] fun (r39 : Int) h40 =>
  cnd (decide (x_1 > r39)) (
  J37 true h40) (
  CallT Try.prog disk_Dev_Size_no [.pointer x_0] h40 [.sc (.int .i64)] fun (r41 : Int) h42 =>
  J37 (decide (x_2 > (w64 (r41 - x_1)))) h42))))))
theorem blob_Open_eq (x_0 : Option Addr) (x_1 : Int) (x_2 : Int) (x_3 : Sl) (R : (Option Addr) × Int → Heap → Prop) (h : Heap) : fnX Try.prog Fns.fns Try.f46 (.s .n (.j [] (.j [(37, .bool)] .n (.s (.s .n .n) .n)) (.s .n (.s (.s .n (.s (.s .n .n) .n)) (.s (.s .n (.b (.l [(48, .int .i64)] (.s .n (.s (.s .n .n) (.j [] (.b (.s .n (.j [(69, .bool)] .n (.s (.s .n .n) .n)))) .n)))))) (.s .n .n)))))) [.sc (.ptr), .sc (.int .i64)] [.pointer x_0, .int .i64 x_1, .int .i64 x_2, .slice x_3.a x_3.len x_3.cap] h R = blob_Open x_0 x_1 x_2 x_3 R h := by kernel_rfl
theorem blob_Open_call (x_0 : Option Addr) (x_1 : Int) (x_2 : Int) (x_3 : Sl) {R : (Option Addr) × Int → Heap → Prop} {h : Heap} (hx : blob_Open x_0 x_1 x_2 x_3 R h) : CallT Try.prog 46 [.pointer x_0, .int .i64 x_1, .int .i64 x_2, .slice x_3.a x_3.len x_3.cap] h [.sc (.ptr), .sc (.int .i64)] R :=
  call_of_fnX fnsOk mixed Try.func46 (by kernel_rfl) (by rw [blob_Open_eq]; exact hx)

/-- stowage/blob.sector (86) -/
def blob_sector (data_0 : Sl) (R : Sl → Heap → Prop) (h : Heap) : Prop :=
  mkSl [.int .u8 0] 5 1 256 256 h fun a1 h2 =>
  lsl 1 (some a1) ((256 : Int).toNat) 4 ((256 : Int).toNat : Int) ((256 : Int).toNat : Int) fun o3 l3 c3 =>
  rdCells data_0.a ((Nat.min data_0.len l3) * 1) h2 fun cs5 =>
  wrRow cs5 o3 h2 fun h4 =>
  lsl 1 (some a1) ((256 : Int).toNat) 4 ((256 : Int).toNat : Int) ((256 : Int).toNat : Int) fun o6 l6 c6 =>
  CallT Try.prog hash_CRC_no [.slice o6 l6 c6] h4 [.sc (.int .u32)] fun (r7 : Int) h8 =>
  idx (some a1) ((256 : Int).toNat) 0 fun a9 =>
  stC (a9.add ((0 : Int).toNat * 1)) (.int .u8 (IntKind.u8.wrap ((shrI .u32 r7 24)))) h8 fun h10 =>
  idx (some a1) ((256 : Int).toNat) 1 fun a11 =>
  stC (a11.add ((1 : Int).toNat * 1)) (.int .u8 (IntKind.u8.wrap ((shrI .u32 r7 16)))) h10 fun h12 =>
  idx (some a1) ((256 : Int).toNat) 2 fun a13 =>
  stC (a13.add ((2 : Int).toNat * 1)) (.int .u8 (IntKind.u8.wrap ((shrI .u32 r7 8)))) h12 fun h14 =>
  idx (some a1) ((256 : Int).toNat) 3 fun a15 =>
  stC (a15.add ((3 : Int).toNat * 1)) (.int .u8 (IntKind.u8.wrap (r7))) h14 fun h16 =>
  R (⟨(some a1), (256 : Int).toNat, (256 : Int).toNat⟩ : Sl) h16
theorem blob_sector_eq (data_0 : Sl) (R : Sl → Heap → Prop) (h : Heap) : fnX Try.prog Fns.fns Try.f86 (.s .n (.s .n (.s .n (.s .n (.s .n (.s .n .n)))))) [.sc (.sl)] [.slice data_0.a data_0.len data_0.cap] h R = blob_sector data_0 R h := by kernel_rfl
theorem blob_sector_call (data_0 : Sl) {R : Sl → Heap → Prop} {h : Heap} (hx : blob_sector data_0 R h) : CallT Try.prog 86 [.slice data_0.a data_0.len data_0.cap] h [.sc (.sl)] R :=
  call_of_fnX fnsOk mixed Try.func86 (by kernel_rfl) (by rw [blob_sector_eq]; exact hx)

/-- (*stowage/blob.Blobs).write (83) -/
def blob_Blobs_write (b_0 : Option Addr) (start_1 : Int) (data_2 : Sl) (R : Int → Heap → Prop) (h : Heap) : Prop :=
  LoopT (σ := Int) (fun X2 s1 h3 => -- s1: i
  cnd (decide ((w64 (s1 * 252)) < (data_2.len : Int))) (
  nn b_0 fun a4 =>
  ldP a4 h3 fun p5 =>
  nn b_0 fun a6 =>
  ldI .i64 (a6.add 1) h3 fun n7 =>
  lsl 1 data_2.a data_2.cap (w64 (s1 * 252)) (minI (data_2.len : Int) (w64 ((w64 (s1 * 252)) + 252))) (data_2.cap : Int) fun o8 l8 c8 =>
  CallT Try.prog blob_sector_no [.slice o8 l8 c8] h3 [.sc (.sl)] fun (r9 : Sl) h10 =>
  (ldI .i64 (a6.add 1) h10 fun n11 =>
  (.int .i64 n11 : Value) = .int .i64 n7) ∧
  (ldP a4 h10 fun p12 =>
  (.pointer p12 : Value) = .pointer p5) ∧
  CallT Try.prog disk_Dev_Write_no [.pointer p5, .int .i64 (w64 ((w64 (n7 + start_1)) + s1)), .slice r9.a r9.len r9.cap] h10 [.sc (.int .i64)] fun (r13 : Int) h14 =>
  cnd (r13 != 0) (
  R r13 h14) (
  X2 (w64 (s1 + 1)) h14)) (
  nn b_0 fun a15 =>
  ldP a15 h3 fun p16 =>
  CallT Try.prog disk_Dev_Flush_no [.pointer p16] h3 [.sc (.int .i64)] fun (r17 : Int) h18 =>
  R r17 h18)) 0 h
theorem blob_Blobs_write_eq (b_0 : Option Addr) (start_1 : Int) (data_2 : Sl) (R : Int → Heap → Prop) (h : Heap) : fnX Try.prog Fns.fns Try.f83 (.s .n (.s (.s .n (.b (.l [(7, .int .i64)] (.s (.s .n (.s .n .n)) (.s (.b (.s .n (.s .n (.s (.s .n .n) .n)))) .n))))) (.s .n .n))) [.sc (.int .i64)] [.pointer b_0, .int .i64 start_1, .slice data_2.a data_2.len data_2.cap] h R = blob_Blobs_write b_0 start_1 data_2 R h := by kernel_rfl
theorem blob_Blobs_write_call (b_0 : Option Addr) (start_1 : Int) (data_2 : Sl) {R : Int → Heap → Prop} {h : Heap} (hx : blob_Blobs_write b_0 start_1 data_2 R h) : CallT Try.prog 83 [.pointer b_0, .int .i64 start_1, .slice data_2.a data_2.len data_2.cap] h [.sc (.int .i64)] R :=
  call_of_fnX fnsOk mixed Try.func83 (by kernel_rfl) (by rw [blob_Blobs_write_eq]; exact hx)

/-- (*stowage/blob.Blobs).Write (47) -/
def blob_Blobs_Write (b_0 : Option Addr) (data_1 : Sl) (R : (Int × Int) × Int → Heap → Prop) (h : Heap) : Prop :=
  newB [.int .i64 0, .int .i64 0] 87 h fun a1 h2 =>
  cnd ((data_1.len : Int) == 0) (
  stC a1 (.int .i64 0) h2 fun h3 =>
  stC (a1.add 1) (.int .i64 0) h3 fun h4 =>
  ldI .i64 a1 h4 fun n5 =>
  ldI .i64 (a1.add 1) h4 fun n6 =>
  R ((n5, n6), 0) h4) (
  CallT Try.prog blob_Sectors_no [.int .i64 (data_1.len : Int)] h2 [.sc (.int .i64)] fun (r7 : Int) h8 =>
  nn b_0 fun a9 =>
  ldP (a9.add 2) h8 fun p10 =>
  CallT Try.prog alloc_Space_Take_no [.pointer p10, .int .i64 r7] h8 [.sc (.int .i64), .sc (.int .i64)] fun (r11 : Int × Int) h12 =>
  cnd (r11.2 != 0) (
  stC a1 (.int .i64 0) h12 fun h13 =>
  stC (a1.add 1) (.int .i64 0) h13 fun h14 =>
  ldI .i64 a1 h14 fun n15 =>
  ldI .i64 (a1.add 1) h14 fun n16 =>
  R ((n15, n16), r11.2) h14) (
  CallT Try.prog blob_Blobs_write_no [.pointer b_0, .int .i64 r11.1, .slice data_1.a data_1.len data_1.cap] h12 [.sc (.int .i64)] fun (r17 : Int) h18 =>
  cnd (r17 != 0) (
  nn b_0 fun a19 =>
  ldP (a19.add 2) h18 fun p20 =>
  CallT Try.prog alloc_Space_Give_no [.pointer p20, .int .i64 r11.1, .int .i64 r7] h18 [.sc (.int .i64)] fun (r21 : Int) h22 =>
  stC a1 (.int .i64 0) h22 fun h23 =>
  stC (a1.add 1) (.int .i64 0) h23 fun h24 =>
  ldI .i64 a1 h24 fun n25 =>
  ldI .i64 (a1.add 1) h24 fun n26 =>
  R ((n25, n26), r17) h24) (
  stC a1 (.int .i64 r11.1) h18 fun h27 =>
  stC (a1.add 1) (.int .i64 (data_1.len : Int)) h27 fun h28 =>
  ldI .i64 a1 h28 fun n29 =>
  ldI .i64 (a1.add 1) h28 fun n30 =>
  R ((n29, n30), 0) h28)))
theorem blob_Blobs_Write_eq (b_0 : Option Addr) (data_1 : Sl) (R : (Int × Int) × Int → Heap → Prop) (h : Heap) : fnX Try.prog Fns.fns Try.f47 (.s .n (.s (.s .n (.s (.s .n .n) .n)) (.s .n (.s .n (.s (.s .n (.s (.s .n .n) .n)) (.s (.s .n (.s .n (.s (.s .n (.s .n .n)) .n))) (.s .n .n))))))) [.agg [.int .i64, .int .i64], .sc (.int .i64)] [.pointer b_0, .slice data_1.a data_1.len data_1.cap] h R = blob_Blobs_Write b_0 data_1 R h := by kernel_rfl
theorem blob_Blobs_Write_call (b_0 : Option Addr) (data_1 : Sl) {R : (Int × Int) × Int → Heap → Prop} {h : Heap} (hx : blob_Blobs_Write b_0 data_1 R h) : CallT Try.prog 47 [.pointer b_0, .slice data_1.a data_1.len data_1.cap] h [.agg [.int .i64, .int .i64], .sc (.int .i64)] R :=
  call_of_fnX fnsOk mixed Try.func47 (by kernel_rfl) (by rw [blob_Blobs_Write_eq]; exact hx)

/-- (*stowage/blob.Blobs).held (85) -/
def blob_Blobs_held (b_0 : Option Addr) (r_1 : Int × Int) (R : Bool → Heap → Prop) (h : Heap) : Prop :=
  newB [.int .i64 r_1.1, .int .i64 r_1.2] 87 h fun a1 h2 =>
  withJ (σ := Unit) (fun s3 h5 => -- s3: 
  nn b_0 fun a6 =>
  ldP (a6.add 2) h5 fun p7 =>
  CallT Try.prog alloc_Space_Copy_no [.pointer p7] h5 [.sc (.ptr)] fun (r8 : (Option Addr)) h9 =>
  ldI .i64 a1 h9 fun n10 =>
  ldI .i64 (a1.add 1) h9 fun n11 =>
  CallT Try.prog blob_Sectors_no [.int .i64 n11] h9 [.sc (.int .i64)] fun (r12 : Int) h13 =>
  (ldI .i64 a1 h13 fun n14 =>
  (.int .i64 n14 : Value) = .int .i64 n10) ∧
  CallT Try.prog alloc_Space_Give_no [.pointer r8, .int .i64 n10, .int .i64 r12] h13 [.sc (.int .i64)] fun (r15 : Int) h16 =>
  R (r15 == 0) h16) (fun J4 =>
  withJ (σ := Bool) (fun s17 h19 => -- s17: t13
  cnd s17 (
  ldI .i64 a1 h19 fun n20 =>
  ldI .i64 (a1.add 1) h19 fun n21 =>
  CallT Try.prog blob_formed_no [.agg #[.int .i64 n20, .int .i64 n21]] h19 [.sc (.bool)] fun (r22 : Bool) h23 =>
  R r22 h23) (
  J4 () h19)) (fun J18 =>
  ldI .i64 a1 h2 fun n24 =>
  ldI .i64 (a1.add 1) h2 fun n25 =>
  CallT Try.prog blob_formed_no [.agg #[.int .i64 n24, .int .i64 n25]] h2 [.sc (.bool)] fun (r26 : Bool) h27 =>
  cnd (!r26) (
  J18 true h27) (
  ldI .i64 (a1.add 1) h27 fun n28 =>
  J18 (n28 == 0) h27)))
theorem blob_Blobs_held_eq (b_0 : Option Addr) (r_1 : Int × Int) (R : Bool → Heap → Prop) (h : Heap) : fnX Try.prog Fns.fns Try.f85 (.s .n (.j [] (.j [(13, .bool)] .n (.s (.s .n .n) .n)) (.s .n (.s .n .n)))) [.sc (.bool)] [.pointer b_0, .agg #[.int .i64 r_1.1, .int .i64 r_1.2]] h R = blob_Blobs_held b_0 r_1 R h := by kernel_rfl
theorem blob_Blobs_held_call (b_0 : Option Addr) (r_1 : Int × Int) {R : Bool → Heap → Prop} {h : Heap} (hx : blob_Blobs_held b_0 r_1 R h) : CallT Try.prog 85 [.pointer b_0, .agg #[.int .i64 r_1.1, .int .i64 r_1.2]] h [.sc (.bool)] R :=
  call_of_fnX fnsOk mixed Try.func85 (by kernel_rfl) (by rw [blob_Blobs_held_eq]; exact hx)

/-- (*stowage/blob.Blobs).Read (49) -/
def blob_Blobs_Read (x_0 : Option Addr) (x_1 : Int × Int) (x_2 : Int) (x_3 : Int) (R : Sl × Int → Heap → Prop) (h : Heap) : Prop :=
  newB [.int .i64 x_1.1, .int .i64 x_1.2] 87 h fun a1 h2 =>
  withJ (σ := Unit) (fun s3 h5 => -- s3: 
  mkSl [.int .u8 0] 5 1 0 x_3 h5 fun a6 h7 =>
  cnd (x_3 == 0) (
  R ((⟨(some a6), (0 : Int).toNat, x_3.toNat⟩ : Sl), 0) h7) (
  LoopT (σ := Sl × Int) (fun X9 s8 h10 => -- s8: t10, t59
  cnd (decide (s8.2 < (w64 ((w64 ((w64 ((w64 ((w64 (x_2 + x_3)) - 1)).tdiv 252)) - (w64 (x_2.tdiv 252)))) + 1)))) (
  nn x_0 fun a11 =>
  ldP a11 h10 fun p12 =>
  nn x_0 fun a13 =>
  ldI .i64 (a13.add 1) h10 fun n14 =>
  ldI .i64 a1 h10 fun n15 =>
  CallT Try.prog disk_Dev_Read_no [.pointer p12, .int .i64 (w64 ((w64 (n14 + n15)) + (w64 ((w64 (x_2.tdiv 252)) + s8.2))))] h10 [.sc (.sl), .sc (.int .i64)] fun (r16 : Sl × Int) h17 =>
  cnd (r16.2 != 0) (
  R ((⟨none, 0, 0⟩ : Sl), r16.2) h17) (
  lsl 1 r16.1.a r16.1.cap 4 (r16.1.len : Int) (r16.1.cap : Int) fun o18 l18 c18 =>
  b2s r16.1.a r16.1.len h17 fun s19 =>
  CallT Try.prog blob_sector_no [.slice o18 l18 c18] h17 [.sc (.sl)] fun (r20 : Sl) h21 =>
  (b2s r16.1.a r16.1.len h21 fun s22 =>
  (.string s22 : Value) = .string s19) ∧
  b2s r20.a r20.len h21 fun s23 =>
  cnd (!seq s23 s19) (
  R ((⟨none, 0, 0⟩ : Sl), 62) h21) (
  lsl 1 r16.1.a r16.1.cap (w64 (4 + (maxI (w64 (x_2 - (w64 ((w64 ((w64 (x_2.tdiv 252)) + s8.2)) * 252)))) 0))) (w64 (4 + (minI (w64 ((w64 (x_2 + x_3)) - (w64 ((w64 ((w64 (x_2.tdiv 252)) + s8.2)) * 252)))) 252))) (r16.1.cap : Int) fun o24 l24 c24 =>
  rdCells o24 (l24 * 1) h21 fun cs28 =>
  app [.int .u8 0] 5 1 1 s8.1.a s8.1.len s8.1.cap cs28 l24 h21 fun o25 c26 h27 =>
  X9 ((⟨o25, (s8.1.len + l24), c26⟩ : Sl), (w64 (s8.2 + 1))) h27))) (
  R (s8.1, 0) h10)) ((⟨(some a6), (0 : Int).toNat, x_3.toNat⟩ : Sl), 0) h7)) (fun J4 =>
  withJ (σ := Bool) (fun s29 h31 => -- s29: t43
  cnd s29 (
  R ((⟨none, 0, 0⟩ : Sl), 1) h31) (
  J4 () h31)) (fun J30 =>
  ldI .i64 a1 h2 fun n32 =>
  ldI .i64 (a1.add 1) h2 fun n33 =>
  CallT Try.prog blob_Blobs_held_no [.pointer x_0, .agg #[.int .i64 n32, .int .i64 n33]] h2 [.sc (.bool)] fun (r34 : Bool) h35 =>
  cnd (!r34) (
  J30 true h35) (
  cnd (decide (x_2 < 0)) (
  J30 true h35) (
  cnd (decide (x_3 < 0)) (
  J30 true h35) (
  ldI .i64 (a1.add 1) h35 fun n36 =>
  cnd (decide (x_2 > n36)) (
  J30 true h35) (
  ldI .i64 (a1.add 1) h35 fun n37 =>
  J30 (decide (x_3 > (w64 (n37 - x_2)))) h35))))))
theorem blob_Blobs_Read_eq (x_0 : Option Addr) (x_1 : Int × Int) (x_2 : Int) (x_3 : Int) (R : Sl × Int → Heap → Prop) (h : Heap) : fnX Try.prog Fns.fns Try.f49 (.s .n (.j [] (.j [(43, .bool)] .n (.s (.s .n .n) .n)) (.s .n (.s (.s .n (.s (.s .n .n) .n)) (.s .n (.s (.s .n (.b (.l [(10, .sl), (59, .int .i64)] (.s .n (.s (.s .n .n) (.s (.b (.s .n (.s .n (.s .n (.s (.s .n (.s (.s .n .n) .n)) (.s (.s .n (.s (.s .n .n) .n)) (.s .n .n))))))) .n)))))) (.s .n .n))))))) [.sc (.sl), .sc (.int .i64)] [.pointer x_0, .agg #[.int .i64 x_1.1, .int .i64 x_1.2], .int .i64 x_2, .int .i64 x_3] h R = blob_Blobs_Read x_0 x_1 x_2 x_3 R h := by kernel_rfl
theorem blob_Blobs_Read_call (x_0 : Option Addr) (x_1 : Int × Int) (x_2 : Int) (x_3 : Int) {R : Sl × Int → Heap → Prop} {h : Heap} (hx : blob_Blobs_Read x_0 x_1 x_2 x_3 R h) : CallT Try.prog 49 [.pointer x_0, .agg #[.int .i64 x_1.1, .int .i64 x_1.2], .int .i64 x_2, .int .i64 x_3] h [.sc (.sl), .sc (.int .i64)] R :=
  call_of_fnX fnsOk mixed Try.func49 (by kernel_rfl) (by rw [blob_Blobs_Read_eq]; exact hx)

/-- (*stowage/blob.Blobs).Drop (51) -/
def blob_Blobs_Drop (b_0 : Option Addr) (r_1 : Int × Int) (R : Int → Heap → Prop) (h : Heap) : Prop :=
  newB [.int .i64 r_1.1, .int .i64 r_1.2] 87 h fun a1 h2 =>
  ldI .i64 a1 h2 fun n3 =>
  ldI .i64 (a1.add 1) h2 fun n4 =>
  CallT Try.prog blob_Blobs_held_no [.pointer b_0, .agg #[.int .i64 n3, .int .i64 n4]] h2 [.sc (.bool)] fun (r5 : Bool) h6 =>
  cnd (!r5) (
  R 1 h6) (
  ldI .i64 (a1.add 1) h6 fun n7 =>
  cnd (n7 == 0) (
  R 0 h6) (
  nn b_0 fun a8 =>
  ldP (a8.add 2) h6 fun p9 =>
  ldI .i64 a1 h6 fun n10 =>
  ldI .i64 (a1.add 1) h6 fun n11 =>
  CallT Try.prog blob_Sectors_no [.int .i64 n11] h6 [.sc (.int .i64)] fun (r12 : Int) h13 =>
  (ldI .i64 a1 h13 fun n14 =>
  (.int .i64 n14 : Value) = .int .i64 n10) ∧
  (ldP (a8.add 2) h13 fun p15 =>
  (.pointer p15 : Value) = .pointer p9) ∧
  CallT Try.prog alloc_Space_Give_no [.pointer p9, .int .i64 n10, .int .i64 r12] h13 [.sc (.int .i64)] fun (r16 : Int) h17 =>
  R r16 h17))
theorem blob_Blobs_Drop_eq (b_0 : Option Addr) (r_1 : Int × Int) (R : Int → Heap → Prop) (h : Heap) : fnX Try.prog Fns.fns Try.f51 (.s .n (.s (.s .n (.s (.s .n .n) .n)) (.s (.s .n (.s (.s .n .n) .n)) (.s .n .n)))) [.sc (.int .i64)] [.pointer b_0, .agg #[.int .i64 r_1.1, .int .i64 r_1.2]] h R = blob_Blobs_Drop b_0 r_1 R h := by kernel_rfl
theorem blob_Blobs_Drop_call (b_0 : Option Addr) (r_1 : Int × Int) {R : Int → Heap → Prop} {h : Heap} (hx : blob_Blobs_Drop b_0 r_1 R h) : CallT Try.prog 51 [.pointer b_0, .agg #[.int .i64 r_1.1, .int .i64 r_1.2]] h [.sc (.int .i64)] R :=
  call_of_fnX fnsOk mixed Try.func51 (by kernel_rfl) (by rw [blob_Blobs_Drop_eq]; exact hx)

/-- (*stowage/blob.Blobs).Free (50) -/
def blob_Blobs_Free (b_0 : Option Addr) (R : Int → Heap → Prop) (h : Heap) : Prop :=
  nn b_0 fun a1 =>
  ldP (a1.add 2) h fun p2 =>
  CallT Try.prog alloc_Space_Free_no [.pointer p2] h [.sc (.int .i64)] fun (r3 : Int) h4 =>
  R r3 h4
theorem blob_Blobs_Free_eq (b_0 : Option Addr) (R : Int → Heap → Prop) (h : Heap) : fnX Try.prog Fns.fns Try.f50 (.s .n (.s .n .n)) [.sc (.int .i64)] [.pointer b_0] h R = blob_Blobs_Free b_0 R h := by kernel_rfl
theorem blob_Blobs_Free_call (b_0 : Option Addr) {R : Int → Heap → Prop} {h : Heap} (hx : blob_Blobs_Free b_0 R h) : CallT Try.prog 50 [.pointer b_0] h [.sc (.int .i64)] R :=
  call_of_fnX fnsOk mixed Try.func50 (by kernel_rfl) (by rw [blob_Blobs_Free_eq]; exact hx)

end Go.Proofs.Ytmkobpkdodgboaa
