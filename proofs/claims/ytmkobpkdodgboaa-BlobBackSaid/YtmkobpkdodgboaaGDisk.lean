/- Go functions as short texts over the heap, and that each is what the loaded function comes to (the kernel compares them); written by a program. -/
import Derived.Test.YtmkobpkdodgboaaGBase
set_option linter.unusedVariables false
set_option maxRecDepth 100000
namespace Go.Proofs.Ytmkobpkdodgboaa
open Go D
/-- stowage/disk.New (18) -/
def disk_New (n_0 : Int) (R : (Option Addr) × Int → Heap → Prop) (h : Heap) : Prop :=
  withJ (σ := Unit) (fun s1 h3 => -- s1: 
  mkSl [.slice none 0 0] 31 24 n_0 n_0 h3 fun a4 h5 =>
  newB [.slice (some a4) n_0.toNat n_0.toNat, .slice none 0 0, .int .i64 0, .int .i64 0] 100 h5 fun a6 h7 =>
  R ((some a6), 0) h7) (fun J2 =>
  withJ (σ := Bool) (fun s8 h10 => -- s8: t9
  cnd s8 (
  R (none, 1) h10) (
  J2 () h10)) (fun J9 =>
  cnd (decide (n_0 < 1)) (
  J9 true h) (
  J9 (decide (n_0 > 4096)) h)))
theorem disk_New_eq (n_0 : Int) (R : (Option Addr) × Int → Heap → Prop) (h : Heap) : fnX Try.prog Fns.fns Try.f18 (.s .n (.j [] (.j [(9, .bool)] .n (.s (.s .n .n) .n)) (.s .n .n))) [.sc (.ptr), .sc (.int .i64)] [.int .i64 n_0] h R = disk_New n_0 R h := by kernel_rfl
theorem disk_New_call (n_0 : Int) {R : (Option Addr) × Int → Heap → Prop} {h : Heap} (hx : disk_New n_0 R h) : CallT Try.prog 18 [.int .i64 n_0] h [.sc (.ptr), .sc (.int .i64)] R :=
  call_of_fnX fnsOk mixed Try.func18 (by kernel_rfl) (by rw [disk_New_eq]; exact hx)

/-- (*stowage/disk.Dev).Write (28) -/
def disk_Dev_Write (d_0 : Option Addr) (i_1 : Int) (b_2 : Sl) (R : Int → Heap → Prop) (h : Heap) : Prop :=
  nn d_0 fun a1 =>
  ldI .i64 (a1.add 2) h fun n2 =>
  cnd (n2 == 2) (
  R 50 h) (
  withJ (σ := Unit) (fun s3 h5 => -- s3: 
  CallT Try.prog disk_Dev_burn_no [.pointer d_0] h5 [.sc (.int .i64)] fun (r6 : Int) h7 =>
  cnd (r6 != 0) (
  R r6 h7) (
  nn d_0 fun a8 =>
  ldL (a8.add 1) h7 fun o9 l9 c9 =>
  CallT Try.prog slices_Clone_byte_no [.slice b_2.a b_2.len b_2.cap] h7 [.sc (.sl)] fun (r10 : Sl) h11 =>
  (ldL (a8.add 1) h11 fun o12 l12 c12 =>
  (.slice o12 l12 c12 : Value) = .slice o9 l9 c9) ∧
  newB [.int .i64 i_1, .slice r10.a r10.len r10.cap] 107 h11 fun a13 h14 =>
  (ldL (a8.add 1) h14 fun o15 l15 c15 =>
  (.slice o15 l15 c15 : Value) = .slice o9 l9 c9) ∧
  ldRow (1 * 2) a13 h14 fun cs19 =>
  app [.int .i64 0, .slice none 0 0] 107 2 32 o9 l9 c9 cs19 1 h14 fun o16 c17 h18 =>
  nn d_0 fun a20 =>
  stC (a20.add 1) (.slice o16 (l9 + 1) c17) h18 fun h21 =>
  R 0 h21)) (fun J4 =>
  withJ (σ := Bool) (fun s22 h24 => -- s22: t28
  cnd s22 (
  R 1 h24) (
  J4 () h24)) (fun J23 =>
  cnd (decide (i_1 < 0)) (
  J23 true h) (
  nn d_0 fun a25 =>
  ldL a25 h fun o26 l26 c26 =>
  cnd (decide (i_1 ≥ (l26 : Int))) (
  J23 true h) (
  J23 ((b_2.len : Int) != 256) h)))))
theorem disk_Dev_Write_eq (d_0 : Option Addr) (i_1 : Int) (b_2 : Sl) (R : Int → Heap → Prop) (h : Heap) : fnX Try.prog Fns.fns Try.f28 (.s .n (.s (.s .n (.s (.s .n .n) .n)) (.j [] (.j [(28, .bool)] .n (.s (.s .n .n) .n)) (.s (.s .n (.s .n (.s (.s .n .n) .n))) (.s .n (.s .n .n)))))) [.sc (.int .i64)] [.pointer d_0, .int .i64 i_1, .slice b_2.a b_2.len b_2.cap] h R = disk_Dev_Write d_0 i_1 b_2 R h := by kernel_rfl
theorem disk_Dev_Write_call (d_0 : Option Addr) (i_1 : Int) (b_2 : Sl) {R : Int → Heap → Prop} {h : Heap} (hx : disk_Dev_Write d_0 i_1 b_2 R h) : CallT Try.prog 28 [.pointer d_0, .int .i64 i_1, .slice b_2.a b_2.len b_2.cap] h [.sc (.int .i64)] R :=
  call_of_fnX fnsOk mixed Try.func28 (by kernel_rfl) (by rw [disk_Dev_Write_eq]; exact hx)

/-- (*stowage/disk.Dev).Flush (53) -/
def disk_Dev_Flush (d_0 : Option Addr) (R : Int → Heap → Prop) (h : Heap) : Prop :=
  nn d_0 fun a1 =>
  ldI .i64 (a1.add 2) h fun n2 =>
  cnd (n2 == 2) (
  R 50 h) (
  CallT Try.prog disk_Dev_burn_no [.pointer d_0] h [.sc (.int .i64)] fun (r3 : Int) h4 =>
  cnd (r3 != 0) (
  R r3 h4) (
  nn d_0 fun a5 =>
  ldL (a5.add 1) h4 fun o6 l6 c6 =>
  LoopT (σ := Int) (fun X8 s7 h9 => -- s7: t21
  cnd (decide (s7 < (l6 : Int))) (
  idx o6 l6 s7 fun a10 =>
  ldI .i64 (a10.add (s7.toNat * 2)) h9 fun n11 =>
  ldL ((a10.add (s7.toNat * 2)).add 1) h9 fun o12 l12 c12 =>
  newB [.int .i64 0, .slice none 0 0] 107 h9 fun a13 h14 =>
  stC a13 (.int .i64 n11) h14 fun h15 =>
  stC (a13.add 1) (.slice o12 l12 c12) h15 fun h16 =>
  nn d_0 fun a17 =>
  ldL a17 h16 fun o18 l18 c18 =>
  ldI .i64 a13 h16 fun n19 =>
  ldL (a13.add 1) h16 fun o20 l20 c20 =>
  idx o18 l18 n19 fun a21 =>
  stC (a21.add (n19.toNat * 1)) (.slice o20 l20 c20) h16 fun h22 =>
  X8 (w64 (s7 + 1)) h22) (
  nn d_0 fun a23 =>
  stC (a23.add 1) (.slice none 0 0) h9 fun h24 =>
  R 0 h24)) 0 h4))
theorem disk_Dev_Flush_eq (d_0 : Option Addr) (R : Int → Heap → Prop) (h : Heap) : fnX Try.prog Fns.fns Try.f53 (.s .n (.s (.s .n (.s (.s .n .n) .n)) (.s (.s .n (.s .n (.s (.s .n .n) .n))) (.s (.s .n (.b (.l [(21, .int .i64)] (.s .n (.s (.s .n .n) (.s (.b (.s .n .n)) .n)))))) (.s .n (.s .n .n)))))) [.sc (.int .i64)] [.pointer d_0] h R = disk_Dev_Flush d_0 R h := by kernel_rfl
theorem disk_Dev_Flush_call (d_0 : Option Addr) {R : Int → Heap → Prop} {h : Heap} (hx : disk_Dev_Flush d_0 R h) : CallT Try.prog 53 [.pointer d_0] h [.sc (.int .i64)] R :=
  call_of_fnX fnsOk mixed Try.func53 (by kernel_rfl) (by rw [disk_Dev_Flush_eq]; exact hx)

/-- (*stowage/disk.Dev).Crash (22) -/
def disk_Dev_Crash (d_0 : Option Addr) (keep_1 : Sl) (R : Unit → Heap → Prop) (h : Heap) : Prop :=
  nn d_0 fun a1 =>
  ldL (a1.add 1) h fun o2 l2 c2 =>
  LoopT (σ := Int) (fun X4 s3 h5 => -- s3: t11
  cnd (decide (s3 < (l2 : Int))) (
  withJ (σ := Unit) (fun s6 h8 => -- s6: 
  X4 (w64 (s3 + 1)) h8) (fun J7 =>
  idx o2 l2 s3 fun a9 =>
  ldI .i64 (a9.add (s3.toNat * 2)) h5 fun n10 =>
  ldL ((a9.add (s3.toNat * 2)).add 1) h5 fun o11 l11 c11 =>
  newB [.int .i64 0, .slice none 0 0] 107 h5 fun a12 h13 =>
  stC a12 (.int .i64 n10) h13 fun h14 =>
  stC (a12.add 1) (.slice o11 l11 c11) h14 fun h15 =>
  withJ (σ := Bool) (fun s16 h18 => -- s16: t25
  cnd s16 (
  nn d_0 fun a19 =>
  ldL a19 h18 fun o20 l20 c20 =>
  ldI .i64 a12 h18 fun n21 =>
  ldL (a12.add 1) h18 fun o22 l22 c22 =>
  idx o20 l20 n21 fun a23 =>
  stC (a23.add (n21.toNat * 1)) (.slice o22 l22 c22) h18 fun h24 =>
  J7 () h24) (
  J7 () h18)) (fun J17 =>
  cnd (decide (s3 < (keep_1.len : Int))) (
  idx keep_1.a keep_1.len s3 fun a25 =>
  ldB (a25.add (s3.toNat * 1)) h15 fun b26 =>
  J17 b26 h15) (
  J17 false h15)))) (
  nn d_0 fun a27 =>
  stC (a27.add 1) (.slice none 0 0) h5 fun h28 =>
  nn d_0 fun a29 =>
  stC (a29.add 2) (.int .i64 0) h28 fun h30 =>
  nn d_0 fun a31 =>
  stC (a31.add 3) (.int .i64 0) h30 fun h32 =>
  R () h32)) 0 h
theorem disk_Dev_Crash_eq (d_0 : Option Addr) (keep_1 : Sl) (R : Unit → Heap → Prop) (h : Heap) : fnX Try.prog Fns.fns Try.f22 (.s (.s .n (.b (.l [(11, .int .i64)] (.s .n (.s (.s .n .n) (.j [] (.b (.s .n (.j [(25, .bool)] .n (.s .n .n)))) .n)))))) .n) [] [.pointer d_0, .slice keep_1.a keep_1.len keep_1.cap] h R = disk_Dev_Crash d_0 keep_1 R h := by kernel_rfl
theorem disk_Dev_Crash_call (d_0 : Option Addr) (keep_1 : Sl) {R : Unit → Heap → Prop} {h : Heap} (hx : disk_Dev_Crash d_0 keep_1 R h) : CallT Try.prog 22 [.pointer d_0, .slice keep_1.a keep_1.len keep_1.cap] h [] R :=
  call_of_fnX fnsOk mixed Try.func22 (by kernel_rfl) (by rw [disk_Dev_Crash_eq]; exact hx)

/-- (*stowage/disk.Dev).Read (48) -/
def disk_Dev_Read (d_0 : Option Addr) (i_1 : Int) (R : Sl × Int → Heap → Prop) (h : Heap) : Prop :=
  nn d_0 fun a1 =>
  ldI .i64 (a1.add 2) h fun n2 =>
  cnd (n2 == 2) (
  R ((⟨none, 0, 0⟩ : Sl), 50) h) (
  withJ (σ := Unit) (fun s3 h5 => -- s3: 
  mkSl [.int .u8 0] 5 1 256 256 h5 fun a6 h7 =>
  nn d_0 fun a8 =>
  ldL a8 h7 fun o9 l9 c9 =>
  idx o9 l9 i_1 fun a10 =>
  ldL (a10.add (i_1.toNat * 1)) h7 fun o11 l11 c11 =>
  rdCells o11 ((Nat.min l11 ((256 : Int).toNat)) * 1) h7 fun cs13 =>
  wrRow cs13 (some a6) h7 fun h12 =>
  nn d_0 fun a14 =>
  ldL (a14.add 1) h12 fun o15 l15 c15 =>
  LoopT (σ := Int) (fun X17 s16 h18 => -- s16: t40
  cnd (decide (s16 < (l15 : Int))) (
  withJ (σ := Unit) (fun s19 h21 => -- s19: 
  X17 (w64 (s16 + 1)) h21) (fun J20 =>
  idx o15 l15 s16 fun a22 =>
  ldI .i64 (a22.add (s16.toNat * 2)) h18 fun n23 =>
  ldL ((a22.add (s16.toNat * 2)).add 1) h18 fun o24 l24 c24 =>
  newB [.int .i64 0, .slice none 0 0] 107 h18 fun a25 h26 =>
  stC a25 (.int .i64 n23) h26 fun h27 =>
  stC (a25.add 1) (.slice o24 l24 c24) h27 fun h28 =>
  ldI .i64 a25 h28 fun n29 =>
  cnd (n29 == i_1) (
  ldL (a25.add 1) h28 fun o30 l30 c30 =>
  rdCells o30 ((Nat.min l30 ((256 : Int).toNat)) * 1) h28 fun cs32 =>
  wrRow cs32 (some a6) h28 fun h31 =>
  J20 () h31) (
  J20 () h28))) (
  R ((⟨(some a6), (256 : Int).toNat, (256 : Int).toNat⟩ : Sl), 0) h18)) 0 h12) (fun J4 =>
  withJ (σ := Bool) (fun s33 h35 => -- s33: t24
  cnd s33 (
  R ((⟨none, 0, 0⟩ : Sl), 1) h35) (
  J4 () h35)) (fun J34 =>
  cnd (decide (i_1 < 0)) (
  J34 true h) (
  nn d_0 fun a36 =>
  ldL a36 h fun o37 l37 c37 =>
  J34 (decide (i_1 ≥ (l37 : Int))) h))))
theorem disk_Dev_Read_eq (d_0 : Option Addr) (i_1 : Int) (R : Sl × Int → Heap → Prop) (h : Heap) : fnX Try.prog Fns.fns Try.f48 (.s .n (.s (.s .n (.s (.s .n .n) .n)) (.j [] (.j [(24, .bool)] .n (.s (.s .n .n) .n)) (.s .n (.s .n (.s (.s .n (.b (.l [(40, .int .i64)] (.s .n (.s (.s .n .n) (.j [] (.b (.s .n (.s .n (.s .n .n)))) .n)))))) (.s .n .n))))))) [.sc (.sl), .sc (.int .i64)] [.pointer d_0, .int .i64 i_1] h R = disk_Dev_Read d_0 i_1 R h := by kernel_rfl
theorem disk_Dev_Read_call (d_0 : Option Addr) (i_1 : Int) {R : Sl × Int → Heap → Prop} {h : Heap} (hx : disk_Dev_Read d_0 i_1 R h) : CallT Try.prog 48 [.pointer d_0, .int .i64 i_1] h [.sc (.sl), .sc (.int .i64)] R :=
  call_of_fnX fnsOk mixed Try.func48 (by kernel_rfl) (by rw [disk_Dev_Read_eq]; exact hx)

/-- (*stowage/disk.Dev).Pending (38) -/
def disk_Dev_Pending (d_0 : Option Addr) (R : Int → Heap → Prop) (h : Heap) : Prop :=
  nn d_0 fun a1 =>
  ldL (a1.add 1) h fun o2 l2 c2 =>
  R (l2 : Int) h
theorem disk_Dev_Pending_eq (d_0 : Option Addr) (R : Int → Heap → Prop) (h : Heap) : fnX Try.prog Fns.fns Try.f38 (.s .n (.s .n .n)) [.sc (.int .i64)] [.pointer d_0] h R = disk_Dev_Pending d_0 R h := by kernel_rfl
theorem disk_Dev_Pending_call (d_0 : Option Addr) {R : Int → Heap → Prop} {h : Heap} (hx : disk_Dev_Pending d_0 R h) : CallT Try.prog 38 [.pointer d_0] h [.sc (.int .i64)] R :=
  call_of_fnX fnsOk mixed Try.func38 (by kernel_rfl) (by rw [disk_Dev_Pending_eq]; exact hx)

/-- (*stowage/disk.Dev).Fuse (21) -/
def disk_Dev_Fuse (d_0 : Option Addr) (k_1 : Int) (R : Unit → Heap → Prop) (h : Heap) : Prop :=
  nn d_0 fun a1 =>
  ldI .i64 (a1.add 2) h fun n2 =>
  cnd (n2 == 2) (
  R () h) (
  cnd (decide (k_1 < 0)) (
  nn d_0 fun a3 =>
  stC (a3.add 2) (.int .i64 0) h fun h4 =>
  R () h4) (
  nn d_0 fun a5 =>
  stC (a5.add 2) (.int .i64 1) h fun h6 =>
  nn d_0 fun a7 =>
  stC (a7.add 3) (.int .i64 k_1) h6 fun h8 =>
  R () h8))
theorem disk_Dev_Fuse_eq (d_0 : Option Addr) (k_1 : Int) (R : Unit → Heap → Prop) (h : Heap) : fnX Try.prog Fns.fns Try.f21 (.b (.s .n (.s .n (.s .n (.s .n .n))))) [] [.pointer d_0, .int .i64 k_1] h R = disk_Dev_Fuse d_0 k_1 R h := by kernel_rfl
theorem disk_Dev_Fuse_call (d_0 : Option Addr) (k_1 : Int) {R : Unit → Heap → Prop} {h : Heap} (hx : disk_Dev_Fuse d_0 k_1 R h) : CallT Try.prog 21 [.pointer d_0, .int .i64 k_1] h [] R :=
  call_of_fnX fnsOk mixed Try.func21 (by kernel_rfl) (by rw [disk_Dev_Fuse_eq]; exact hx)

/-- (*stowage/disk.Dev).Dead (67) -/
def disk_Dev_Dead (d_0 : Option Addr) (R : Bool → Heap → Prop) (h : Heap) : Prop :=
  nn d_0 fun a1 =>
  ldI .i64 (a1.add 2) h fun n2 =>
  R (n2 == 2) h
theorem disk_Dev_Dead_eq (d_0 : Option Addr) (R : Bool → Heap → Prop) (h : Heap) : fnX Try.prog Fns.fns Try.f67 (.s .n (.s .n .n)) [.sc (.bool)] [.pointer d_0] h R = disk_Dev_Dead d_0 R h := by kernel_rfl
theorem disk_Dev_Dead_call (d_0 : Option Addr) {R : Bool → Heap → Prop} {h : Heap} (hx : disk_Dev_Dead d_0 R h) : CallT Try.prog 67 [.pointer d_0] h [.sc (.bool)] R :=
  call_of_fnX fnsOk mixed Try.func67 (by kernel_rfl) (by rw [disk_Dev_Dead_eq]; exact hx)

/-- (*stowage/disk.Dev).Size (66) -/
def disk_Dev_Size (d_0 : Option Addr) (R : Int → Heap → Prop) (h : Heap) : Prop :=
  nn d_0 fun a1 =>
  ldL a1 h fun o2 l2 c2 =>
  R (l2 : Int) h
theorem disk_Dev_Size_eq (d_0 : Option Addr) (R : Int → Heap → Prop) (h : Heap) : fnX Try.prog Fns.fns Try.f66 (.s .n (.s .n .n)) [.sc (.int .i64)] [.pointer d_0] h R = disk_Dev_Size d_0 R h := by kernel_rfl
theorem disk_Dev_Size_call (d_0 : Option Addr) {R : Int → Heap → Prop} {h : Heap} (hx : disk_Dev_Size d_0 R h) : CallT Try.prog 66 [.pointer d_0] h [.sc (.int .i64)] R :=
  call_of_fnX fnsOk mixed Try.func66 (by kernel_rfl) (by rw [disk_Dev_Size_eq]; exact hx)

/-- (*stowage/disk.Dev).burn (62) -/
def disk_Dev_burn (d_0 : Option Addr) (R : Int → Heap → Prop) (h : Heap) : Prop :=
  withJ (σ := Unit) (fun s1 h3 => -- s1: 
  R 0 h3) (fun J2 =>
  withJ (σ := Bool) (fun s4 h6 => -- s4: t3
  cnd s4 (
  nn d_0 fun a7 =>
  stC (a7.add 2) (.int .i64 2) h6 fun h8 =>
  R 50 h8) (
  nn d_0 fun a9 =>
  ldI .i64 (a9.add 2) h6 fun n10 =>
  cnd (n10 == 1) (
  nn d_0 fun a11 =>
  ldI .i64 (a11.add 3) h6 fun n12 =>
  nn d_0 fun a13 =>
  stC (a13.add 3) (.int .i64 (w64 (n12 - 1))) h6 fun h14 =>
  J2 () h14) (
  J2 () h6))) (fun J5 =>
  nn d_0 fun a15 =>
  ldI .i64 (a15.add 2) h fun n16 =>
  cnd (n16 == 1) (
  nn d_0 fun a17 =>
  ldI .i64 (a17.add 3) h fun n18 =>
  J5 (n18 == 0) h) (
  J5 false h)))
theorem disk_Dev_burn_eq (d_0 : Option Addr) (R : Int → Heap → Prop) (h : Heap) : fnX Try.prog Fns.fns Try.f62 (.s .n (.j [] (.b (.j [(3, .bool)] .n (.s (.s .n (.s .n .n)) (.s .n (.s .n .n))))) (.s .n .n))) [.sc (.int .i64)] [.pointer d_0] h R = disk_Dev_burn d_0 R h := by kernel_rfl
theorem disk_Dev_burn_call (d_0 : Option Addr) {R : Int → Heap → Prop} {h : Heap} (hx : disk_Dev_burn d_0 R h) : CallT Try.prog 62 [.pointer d_0] h [.sc (.int .i64)] R :=
  call_of_fnX fnsOk mixed Try.func62 (by kernel_rfl) (by rw [disk_Dev_burn_eq]; exact hx)

/-- slices.Clone[[]byte,byte] (63) -/
def slices_Clone_byte (s_0 : Sl) (R : Sl → Heap → Prop) (h : Heap) : Prop :=
  cnd s_0.a.isNone (
  R (⟨none, 0, 0⟩ : Sl) h) (
  newB [] 5 h fun a1 h2 =>
  rdCells s_0.a (s_0.len * 1) h2 fun cs6 =>
  app [.int .u8 0] 5 1 1 (some a1) 0 0 cs6 s_0.len h2 fun o3 c4 h5 =>
  R (⟨o3, (0 + s_0.len), c4⟩ : Sl) h5)
theorem slices_Clone_byte_eq (s_0 : Sl) (R : Sl → Heap → Prop) (h : Heap) : fnX Try.prog Fns.fns Try.f63 (.s .n (.s (.s .n (.s (.s .n .n) .n)) (.s .n .n))) [.sc (.sl)] [.slice s_0.a s_0.len s_0.cap] h R = slices_Clone_byte s_0 R h := by kernel_rfl
theorem slices_Clone_byte_call (s_0 : Sl) {R : Sl → Heap → Prop} {h : Heap} (hx : slices_Clone_byte s_0 R h) : CallT Try.prog 63 [.slice s_0.a s_0.len s_0.cap] h [.sc (.sl)] R :=
  call_of_fnX fnsOk mixed Try.func63 (by kernel_rfl) (by rw [slices_Clone_byte_eq]; exact hx)

end Go.Proofs.Ytmkobpkdodgboaa
