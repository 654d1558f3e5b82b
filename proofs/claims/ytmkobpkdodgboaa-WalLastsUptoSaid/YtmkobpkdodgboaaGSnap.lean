/- Go functions as short texts over the heap, and that each is what the loaded function comes to (the kernel compares them); written by a program. -/
import Derived.Test.YtmkobpkdodgboaaGBase
set_option linter.unusedVariables false
set_option maxRecDepth 100000
namespace Go.Proofs.Ytmkobpkdodgboaa
open Go D
/-- stowage/snap.Fits (15) -/
def snap_Fits (n_0 : Int) (bytes_1 : Int) (R : Bool → Heap → Prop) (h : Heap) : Prop :=
  withJ (σ := Bool) (fun s1 h3 => -- s1: t4
  R s1 h3) (fun J2 =>
  cnd (decide (n_0 ≥ 1)) (
  cnd (decide (bytes_1 ≥ 0)) (
  J2 (decide ((w64 ((w64 (bytes_1.tdiv 256)) + (minI (bytes_1.tmod 256) 1))) ≤ (w64 (n_0 - 1)))) h) (
  J2 false h)) (
  J2 false h))
theorem snap_Fits_eq (n_0 : Int) (bytes_1 : Int) (R : Bool → Heap → Prop) (h : Heap) : fnX Try.prog Fns.fns Try.f15 (.s .n (.j [(4, .bool)] .n .n)) [.sc (.bool)] [.int .i64 n_0, .int .i64 bytes_1] h R = snap_Fits n_0 bytes_1 R h := by kernel_rfl
theorem snap_Fits_call (n_0 : Int) (bytes_1 : Int) {R : Bool → Heap → Prop} {h : Heap} (hx : snap_Fits n_0 bytes_1 R h) : CallT Try.prog 15 [.int .i64 n_0, .int .i64 bytes_1] h [.sc (.bool)] R :=
  call_of_fnX fnsOk mixed Try.func15 (by kernel_rfl) (by rw [snap_Fits_eq]; exact hx)

/-- stowage/snap.check (52) -/
def snap_check (d_0 : Option Addr) (from_1 : Int) (n_2 : Int) (R : Int → Heap → Prop) (h : Heap) : Prop :=
  withJ (σ := Unit) (fun s1 h3 => -- s1: 
  R 0 h3) (fun J2 =>
  withJ (σ := Bool) (fun s4 h6 => -- s4: t31
  cnd s4 (
  R 1 h6) (
  J2 () h6)) (fun J5 =>
  cnd d_0.isNone (
  J5 true h) (
  cnd (decide (n_2 < 1)) (
  J5 true h) (
  cnd (decide (from_1 < 0)) (
  J5 true h) (
  CallT Try.prog disk_Dev_Size_no [.pointer d_0] h [.sc (.int .i64)] fun (r7 : Int) h8 =>
  cnd (decide (from_1 > r7)) (
  J5 true h8) (
  CallT Try.prog disk_Dev_Size_no [.pointer d_0] h8 [.sc (.int .i64)] fun (r9 : Int) h10 =>
  J5 (decide (n_2 > (w64 ((w64 (r9 - from_1)).tdiv 2)))) h10))))))
theorem snap_check_eq (d_0 : Option Addr) (from_1 : Int) (n_2 : Int) (R : Int → Heap → Prop) (h : Heap) : fnX Try.prog Fns.fns Try.f52 (.s .n (.j [] (.j [(31, .bool)] .n (.s (.s .n .n) .n)) (.s .n .n))) [.sc (.int .i64)] [.pointer d_0, .int .i64 from_1, .int .i64 n_2] h R = snap_check d_0 from_1 n_2 R h := by kernel_rfl
theorem snap_check_call (d_0 : Option Addr) (from_1 : Int) (n_2 : Int) {R : Int → Heap → Prop} {h : Heap} (hx : snap_check d_0 from_1 n_2 R h) : CallT Try.prog 52 [.pointer d_0, .int .i64 from_1, .int .i64 n_2] h [.sc (.int .i64)] R :=
  call_of_fnX fnsOk mixed Try.func52 (by kernel_rfl) (by rw [snap_check_eq]; exact hx)

/-- stowage/snap.head (54) -/
def snap_head (epoch_0 : Int) (state_1 : Sl) (R : Sl → Heap → Prop) (h : Heap) : Prop :=
  CallT Try.prog enc_Put64_no [.int .u64 epoch_0] h [.sc (.sl)] fun (r1 : Sl) h2 =>
  CallT Try.prog enc_Put64_no [.int .u64 (IntKind.u64.wrap ((state_1.len : Int)))] h2 [.sc (.sl)] fun (r3 : Sl) h4 =>
  rdCells r3.a (r3.len * 1) h4 fun cs8 =>
  app [.int .u8 0] 5 1 1 r1.a r1.len r1.cap cs8 r3.len h4 fun o5 c6 h7 =>
  lsl 1 o5 c6 0 16 16 fun o9 l9 c9 =>
  rdCells state_1.a (state_1.len * 1) h7 fun cs13 =>
  app [.int .u8 0] 5 1 1 o9 l9 c9 cs13 state_1.len h7 fun o10 c11 h12 =>
  CallT Try.prog hash_CRC_no [.slice o10 (l9 + state_1.len) c11] h12 [.sc (.int .u32)] fun (r14 : Int) h15 =>
  newB [.int .u8 83, .int .u8 78, .int .u8 65, .int .u8 80] 5 h15 fun a16 h17 =>
  markS a16 h17 fun h18 =>
  newB [.int .u8 (IntKind.u8.wrap ((shrI .u32 r14 24))), .int .u8 (IntKind.u8.wrap ((shrI .u32 r14 16))), .int .u8 (IntKind.u8.wrap ((shrI .u32 r14 8))), .int .u8 (IntKind.u8.wrap (r14))] 5 h18 fun a19 h20 =>
  ldRow (4 * 1) a19 h20 fun cs24 =>
  app [.int .u8 0] 5 1 1 (some a16) 4 4 cs24 4 h20 fun o21 c22 h23 =>
  rdCells o5 ((r1.len + r3.len) * 1) h23 fun cs28 =>
  app [.int .u8 0] 5 1 1 o21 (4 + 4) c22 cs28 (r1.len + r3.len) h23 fun o25 c26 h27 =>
  appZ [.int .u8 0] 5 1 1 o25 ((4 + 4) + (r1.len + r3.len)) c26 232 h27 fun o29 c30 h31 =>
  R (⟨o29, (((4 + 4) + (r1.len + r3.len)) + (232 : Int).toNat), c30⟩ : Sl) h31
theorem snap_head_eq (epoch_0 : Int) (state_1 : Sl) (R : Sl → Heap → Prop) (h : Heap) : fnX Try.prog Fns.fns Try.f54 (.s .n (.s .n (.s .n (.s .n (.s .n .n))))) [.sc (.sl)] [.int .u64 epoch_0, .slice state_1.a state_1.len state_1.cap] h R = snap_head epoch_0 state_1 R h := by kernel_rfl
theorem snap_head_call (epoch_0 : Int) (state_1 : Sl) {R : Sl → Heap → Prop} {h : Heap} (hx : snap_head epoch_0 state_1 R h) : CallT Try.prog 54 [.int .u64 epoch_0, .slice state_1.a state_1.len state_1.cap] h [.sc (.sl)] R :=
  call_of_fnX fnsOk mixed Try.func54 (by kernel_rfl) (by rw [snap_head_eq]; exact hx)

/-- stowage/snap.Save (19) -/
def snap_Save (x_0 : Option Addr) (x_1 : Int) (x_2 : Int) (x_3 : Int) (x_4 : Sl) (R : Int → Heap → Prop) (h : Heap) : Prop :=
  CallT Try.prog snap_check_no [.pointer x_0, .int .i64 x_1, .int .i64 x_2] h [.sc (.int .i64)] fun (r1 : Int) h2 =>
  cnd (r1 != 0) (
  R r1 h2) (
  CallT Try.prog snap_Fits_no [.int .i64 x_2, .int .i64 (x_4.len : Int)] h2 [.sc (.bool)] fun (r3 : Bool) h4 =>
  cnd (!r3) (
  R 60 h4) (
  LoopT (σ := Int) (fun X6 s5 h7 => -- s5: t13
  cnd (decide ((w64 (s5 * 256)) < (x_4.len : Int))) (
  mkSl [.int .u8 0] 5 1 256 256 h7 fun a8 h9 =>
  lsl 1 x_4.a x_4.cap (w64 (s5 * 256)) (x_4.len : Int) (x_4.cap : Int) fun o10 l10 c10 =>
  rdCells o10 ((Nat.min l10 ((256 : Int).toNat)) * 1) h9 fun cs12 =>
  wrRow cs12 (some a8) h9 fun h11 =>
  CallT Try.prog disk_Dev_Write_no [.pointer x_0, .int .i64 (w64 ((w64 ((w64 (x_1 + (w64 ((w64 ((x_3.tmod 2))) * x_2)))) + 1)) + s5)), .slice (some a8) ((256 : Int).toNat) ((256 : Int).toNat)] h11 [.sc (.int .i64)] fun (r13 : Int) h14 =>
  cnd (r13 != 0) (
  R r13 h14) (
  X6 (w64 (s5 + 1)) h14)) (
  CallT Try.prog disk_Dev_Flush_no [.pointer x_0] h7 [.sc (.int .i64)] fun (r15 : Int) h16 =>
  cnd (r15 != 0) (
  R r15 h16) (
  CallT Try.prog snap_head_no [.int .u64 x_3, .slice x_4.a x_4.len x_4.cap] h16 [.sc (.sl)] fun (r17 : Sl) h18 =>
  CallT Try.prog disk_Dev_Write_no [.pointer x_0, .int .i64 (w64 (x_1 + (w64 ((w64 ((x_3.tmod 2))) * x_2)))), .slice r17.a r17.len r17.cap] h18 [.sc (.int .i64)] fun (r19 : Int) h20 =>
  cnd (r19 != 0) (
  R r19 h20) (
  CallT Try.prog disk_Dev_Flush_no [.pointer x_0] h20 [.sc (.int .i64)] fun (r21 : Int) h22 =>
  R r21 h22)))) 0 h4))
theorem snap_Save_eq (x_0 : Option Addr) (x_1 : Int) (x_2 : Int) (x_3 : Int) (x_4 : Sl) (R : Int → Heap → Prop) (h : Heap) : fnX Try.prog Fns.fns Try.f19 (.s .n (.s (.s .n (.s .n (.s (.s .n .n) .n))) (.s (.s .n (.s (.s .n .n) .n)) (.s .n (.s (.s .n (.b (.l [(13, .int .i64)] (.s (.s .n (.s .n .n)) (.s (.b (.s .n (.s .n (.s .n (.s .n (.s (.s .n .n) .n)))))) .n))))) (.s (.s .n (.s .n (.s (.s .n .n) .n))) (.s (.s .n (.s .n (.s (.s .n .n) .n))) (.s .n .n)))))))) [.sc (.int .i64)] [.pointer x_0, .int .i64 x_1, .int .i64 x_2, .int .u64 x_3, .slice x_4.a x_4.len x_4.cap] h R = snap_Save x_0 x_1 x_2 x_3 x_4 R h := by kernel_rfl
theorem snap_Save_call (x_0 : Option Addr) (x_1 : Int) (x_2 : Int) (x_3 : Int) (x_4 : Sl) {R : Int → Heap → Prop} {h : Heap} (hx : snap_Save x_0 x_1 x_2 x_3 x_4 R h) : CallT Try.prog 19 [.pointer x_0, .int .i64 x_1, .int .i64 x_2, .int .u64 x_3, .slice x_4.a x_4.len x_4.cap] h [.sc (.int .i64)] R :=
  call_of_fnX fnsOk mixed Try.func19 (by kernel_rfl) (by rw [snap_Save_eq]; exact hx)

/-- stowage/snap.slot (55) -/
def snap_slot (x_0 : Option Addr) (x_1 : Int) (x_2 : Int) (x_3 : Int) (R : Sl × Int × Bool × Int → Heap → Prop) (h : Heap) : Prop :=
  CallT Try.prog disk_Dev_Read_no [.pointer x_0, .int .i64 x_1] h [.sc (.sl), .sc (.int .i64)] fun (r1 : Sl × Int) h2 =>
  cnd (r1.2 != 0) (
  R ((⟨none, 0, 0⟩ : Sl), 0, false, r1.2) h2) (
  lsl 1 r1.1.a r1.1.cap 8 16 (r1.1.cap : Int) fun o3 l3 c3 =>
  CallT Try.prog enc_Get64_no [.slice o3 l3 c3] h2 [.sc (.int .u64), .sc (.bool)] fun (r4 : Int × Bool) h5 =>
  lsl 1 r1.1.a r1.1.cap 16 24 (r1.1.cap : Int) fun o6 l6 c6 =>
  CallT Try.prog enc_Get64_no [.slice o6 l6 c6] h5 [.sc (.int .u64), .sc (.bool)] fun (r7 : Int × Bool) h8 =>
  withJ (σ := Unit) (fun s9 h11 => -- s9: 
  LoopT (σ := Sl × Int) (fun X13 s12 h14 => -- s12: t18, t19
  cnd (decide ((IntKind.u64.wrap ((s12.1.len : Int))) < r7.1)) (
  CallT Try.prog disk_Dev_Read_no [.pointer x_0, .int .i64 (w64 (x_1 + s12.2))] h14 [.sc (.sl), .sc (.int .i64)] fun (r15 : Sl × Int) h16 =>
  cnd (r15.2 != 0) (
  R ((⟨none, 0, 0⟩ : Sl), 0, false, r15.2) h16) (
  rdCells r15.1.a (r15.1.len * 1) h16 fun cs20 =>
  app [.int .u8 0] 5 1 1 s12.1.a s12.1.len s12.1.cap cs20 r15.1.len h16 fun o17 c18 h19 =>
  X13 ((⟨o17, (s12.1.len + r15.1.len), c18⟩ : Sl), (w64 (s12.2 + 1))) h19)) (
  lsl 1 s12.1.a s12.1.cap 0 r7.1 r7.1 fun o21 l21 c21 =>
  lsl 1 r1.1.a r1.1.cap 0 24 (r1.1.cap : Int) fun o22 l22 c22 =>
  b2s o22 l22 h14 fun s23 =>
  CallT Try.prog snap_head_no [.int .u64 r4.1, .slice o21 l21 c21] h14 [.sc (.sl)] fun (r24 : Sl) h25 =>
  (b2s o22 l22 h25 fun s26 =>
  (.string s26 : Value) = .string s23) ∧
  lsl 1 r24.a r24.cap 0 24 (r24.cap : Int) fun o27 l27 c27 =>
  b2s o27 l27 h25 fun s28 =>
  R ((⟨o21, l21, c21⟩ : Sl), r4.1, (seq s28 s23), 0) h25)) ((⟨none, 0, 0⟩ : Sl), 1) h11) (fun J10 =>
  withJ (σ := Bool) (fun s29 h31 => -- s29: t60
  cnd s29 (
  R ((⟨none, 0, 0⟩ : Sl), 0, false, 0) h31) (
  J10 () h31)) (fun J30 =>
  lsl 1 r1.1.a r1.1.cap 0 4 (r1.1.cap : Int) fun o32 l32 c32 =>
  b2s o32 l32 h8 fun s33 =>
  cnd (!seq s33 (⟨#[83, 78, 65, 80]⟩ : ByteArray)) (
  J30 true h8) (
  cnd ((r4.1.tmod 2) != x_3) (
  J30 true h8) (
  J30 (decide (r7.1 > (IntKind.u64.wrap ((w64 ((w64 (x_2 - 1)) * 256)))))) h8)))))
theorem snap_slot_eq (x_0 : Option Addr) (x_1 : Int) (x_2 : Int) (x_3 : Int) (R : Sl × Int × Bool × Int → Heap → Prop) (h : Heap) : fnX Try.prog Fns.fns Try.f55 (.s .n (.s .n (.s (.s .n (.s (.s .n .n) .n)) (.s .n (.s .n (.j [] (.j [(60, .bool)] .n (.s (.s .n .n) .n)) (.s .n (.s (.s .n (.b (.l [(18, .sl), (19, .int .i64)] (.s (.s .n (.s .n .n)) (.s (.b (.s .n (.s (.s .n (.s (.s .n .n) .n)) .n))) .n))))) (.s .n (.s .n .n)))))))))) [.sc (.sl), .sc (.int .u64), .sc (.bool), .sc (.int .i64)] [.pointer x_0, .int .i64 x_1, .int .i64 x_2, .int .u64 x_3] h R = snap_slot x_0 x_1 x_2 x_3 R h := by kernel_rfl
theorem snap_slot_call (x_0 : Option Addr) (x_1 : Int) (x_2 : Int) (x_3 : Int) {R : Sl × Int × Bool × Int → Heap → Prop} {h : Heap} (hx : snap_slot x_0 x_1 x_2 x_3 R h) : CallT Try.prog 55 [.pointer x_0, .int .i64 x_1, .int .i64 x_2, .int .u64 x_3] h [.sc (.sl), .sc (.int .u64), .sc (.bool), .sc (.int .i64)] R :=
  call_of_fnX fnsOk mixed Try.func55 (by kernel_rfl) (by rw [snap_slot_eq]; exact hx)

/-- stowage/snap.Load (20) -/
def snap_Load (d_0 : Option Addr) (from_1 : Int) (n_2 : Int) (R : Sl × Int × Int → Heap → Prop) (h : Heap) : Prop :=
  CallT Try.prog snap_check_no [.pointer d_0, .int .i64 from_1, .int .i64 n_2] h [.sc (.int .i64)] fun (r1 : Int) h2 =>
  cnd (r1 != 0) (
  R ((⟨none, 0, 0⟩ : Sl), 0, r1) h2) (
  LoopT (σ := Sl × Int × Bool × Int) (fun X4 s3 h5 => -- s3: best, top, has, t25
  cnd (decide (s3.2.2.2 < 2)) (
  withJ (σ := Sl × Int × Bool) (fun s6 h8 => -- s6: best, top, has
  X4 (s6.1, s6.2.1, s6.2.2, (w64 (s3.2.2.2 + 1))) h8) (fun J7 =>
  CallT Try.prog snap_slot_no [.pointer d_0, .int .i64 (w64 (from_1 + (w64 (s3.2.2.2 * n_2)))), .int .i64 n_2, .int .u64 (IntKind.u64.wrap (s3.2.2.2))] h5 [.sc (.sl), .sc (.int .u64), .sc (.bool), .sc (.int .i64)] fun (r9 : Sl × Int × Bool × Int) h10 =>
  cnd (r9.2.2.2 != 0) (
  R ((⟨none, 0, 0⟩ : Sl), 0, r9.2.2.2) h10) (
  withJ (σ := Bool) (fun s11 h13 => -- s11: t55
  cnd s11 (
  J7 (r9.1, r9.2.1, true) h13) (
  J7 (s3.1, s3.2.1, s3.2.2.1) h13)) (fun J12 =>
  cnd r9.2.2.1 (
  cnd (!s3.2.2.1) (
  J12 true h10) (
  J12 (decide (r9.2.1 > s3.2.1)) h10)) (
  J12 false h10))))) (
  cnd (!s3.2.2.1) (
  R ((⟨none, 0, 0⟩ : Sl), 0, 61) h5) (
  R (s3.1, s3.2.1, 0) h5))) ((⟨none, 0, 0⟩ : Sl), 0, false, 0) h2)
theorem snap_Load_eq (d_0 : Option Addr) (from_1 : Int) (n_2 : Int) (R : Sl × Int × Int → Heap → Prop) (h : Heap) : fnX Try.prog Fns.fns Try.f20 (.s .n (.s (.s .n (.s .n (.s (.s .n .n) .n))) (.s .n (.s .n (.s (.s .n (.b (.l [(10, .sl), (11, .int .u64), (12, .bool), (25, .int .i64)] (.s .n (.s (.s .n .n) (.j [(10, .sl), (11, .int .u64), (12, .bool)] (.b (.s .n (.s .n (.s (.s .n (.s (.s .n .n) .n)) (.j [(55, .bool)] .n (.s .n .n)))))) .n)))))) (.s (.s .n (.s (.s .n .n) .n)) (.s .n .n))))))) [.sc (.sl), .sc (.int .u64), .sc (.int .i64)] [.pointer d_0, .int .i64 from_1, .int .i64 n_2] h R = snap_Load d_0 from_1 n_2 R h := by kernel_rfl
theorem snap_Load_call (d_0 : Option Addr) (from_1 : Int) (n_2 : Int) {R : Sl × Int × Int → Heap → Prop} {h : Heap} (hx : snap_Load d_0 from_1 n_2 R h) : CallT Try.prog 20 [.pointer d_0, .int .i64 from_1, .int .i64 n_2] h [.sc (.sl), .sc (.int .u64), .sc (.int .i64)] R :=
  call_of_fnX fnsOk mixed Try.func20 (by kernel_rfl) (by rw [snap_Load_eq]; exact hx)

end Go.Proofs.Ytmkobpkdodgboaa
