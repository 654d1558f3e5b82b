/- Go functions as short texts over the heap, and that each is what the loaded function comes to (the kernel compares them); written by a program. -/
import Derived.Test.YtmkobpkdodgboaaGBase
set_option linter.unusedVariables false
set_option maxRecDepth 100000
namespace Go.Proofs.Ytmkobpkdodgboaa
open Go D
/-- stowage/alloc.New (79) -/
def alloc_New (n_0 : Int) (R : (Option Addr) × Int → Heap → Prop) (h : Heap) : Prop :=
  withJ (σ := Unit) (fun s1 h3 => -- s1: 
  mkSl [.int .u64 0] 25 8 (w64 ((w64 (n_0 + 63)).tdiv 64)) (w64 ((w64 (n_0 + 63)).tdiv 64)) h3 fun a4 h5 =>
  newB [.slice (some a4) ((w64 ((w64 (n_0 + 63)).tdiv 64)).toNat) ((w64 ((w64 (n_0 + 63)).tdiv 64)).toNat), .int .i64 n_0, .int .i64 n_0] 149 h5 fun a6 h7 =>
  R ((some a6), 0) h7) (fun J2 =>
  withJ (σ := Bool) (fun s8 h10 => -- s8: t9
  cnd s8 (
  R (none, 1) h10) (
  J2 () h10)) (fun J9 =>
  cnd (decide (n_0 < 0)) (
  J9 true h) (
  J9 (decide (n_0 > 4096)) h)))
theorem alloc_New_eq (n_0 : Int) (R : (Option Addr) × Int → Heap → Prop) (h : Heap) : fnX Try.prog Fns.fns Try.f79 (.s .n (.j [] (.j [(9, .bool)] .n (.s (.s .n .n) .n)) (.s .n .n))) [.sc (.ptr), .sc (.int .i64)] [.int .i64 n_0] h R = alloc_New n_0 R h := by kernel_rfl
theorem alloc_New_call (n_0 : Int) {R : (Option Addr) × Int → Heap → Prop} {h : Heap} (hx : alloc_New n_0 R h) : CallT Try.prog 79 [.int .i64 n_0] h [.sc (.ptr), .sc (.int .i64)] R :=
  call_of_fnX fnsOk mixed Try.func79 (by kernel_rfl) (by rw [alloc_New_eq]; exact hx)

/-- (*stowage/alloc.Space).taken (101) -/
def alloc_Space_taken (s_0 : Option Addr) (i_1 : Int) (R : Bool → Heap → Prop) (h : Heap) : Prop :=
  nn s_0 fun a1 =>
  ldL a1 h fun o2 l2 c2 =>
  idx o2 l2 (shrI .i64 i_1 6) fun a3 =>
  ldI .u64 (a3.add ((shrI .i64 i_1 6).toNat * 1)) h fun n4 =>
  geZ (andI .i64 i_1 63) (
  R ((andI .u64 (shrI .u64 n4 (andI .i64 i_1 63)) 1) == 1) h)
theorem alloc_Space_taken_eq (s_0 : Option Addr) (i_1 : Int) (R : Bool → Heap → Prop) (h : Heap) : fnX Try.prog Fns.fns Try.f101 (.s .n (.s .n .n)) [.sc (.bool)] [.pointer s_0, .int .i64 i_1] h R = alloc_Space_taken s_0 i_1 R h := by kernel_rfl
theorem alloc_Space_taken_call (s_0 : Option Addr) (i_1 : Int) {R : Bool → Heap → Prop} {h : Heap} (hx : alloc_Space_taken s_0 i_1 R h) : CallT Try.prog 101 [.pointer s_0, .int .i64 i_1] h [.sc (.bool)] R :=
  call_of_fnX fnsOk mixed Try.func101 (by kernel_rfl) (by rw [alloc_Space_taken_eq]; exact hx)

/-- (*stowage/alloc.Space).turn (100) -/
def alloc_Space_turn (s_0 : Option Addr) (start_1 : Int) (k_2 : Int) (R : Unit → Heap → Prop) (h : Heap) : Prop :=
  LoopT (σ := Int) (fun X2 s1 h3 => -- s1: i
  cnd (decide (s1 < (w64 (start_1 + k_2)))) (
  nn s_0 fun a4 =>
  ldL a4 h3 fun o5 l5 c5 =>
  idx o5 l5 (shrI .i64 s1 6) fun a6 =>
  ldI .u64 (a6.add ((shrI .i64 s1 6).toNat * 1)) h3 fun n7 =>
  geZ (andI .i64 s1 63) (
  idx o5 l5 (shrI .i64 s1 6) fun a8 =>
  stC (a8.add ((shrI .i64 s1 6).toNat * 1)) (.int .u64 (xorI .u64 n7 (shlI .u64 1 (andI .i64 s1 63)))) h3 fun h9 =>
  X2 (w64 (s1 + 1)) h9)) (
  R () h3)) start_1 h
theorem alloc_Space_turn_eq (s_0 : Option Addr) (start_1 : Int) (k_2 : Int) (R : Unit → Heap → Prop) (h : Heap) : fnX Try.prog Fns.fns Try.f100 (.s .n (.b (.l [(6, .int .i64)] (.s (.s .n (.s .n .n)) (.s (.b .n) .n))))) [] [.pointer s_0, .int .i64 start_1, .int .i64 k_2] h R = alloc_Space_turn s_0 start_1 k_2 R h := by kernel_rfl
theorem alloc_Space_turn_call (s_0 : Option Addr) (start_1 : Int) (k_2 : Int) {R : Unit → Heap → Prop} {h : Heap} (hx : alloc_Space_turn s_0 start_1 k_2 R h) : CallT Try.prog 100 [.pointer s_0, .int .i64 start_1, .int .i64 k_2] h [] R :=
  call_of_fnX fnsOk mixed Try.func100 (by kernel_rfl) (by rw [alloc_Space_turn_eq]; exact hx)

/-- (*stowage/alloc.Space).all (99) -/
def alloc_Space_all (s_0 : Option Addr) (start_1 : Int) (k_2 : Int) (taken_3 : Bool) (R : Bool → Heap → Prop) (h : Heap) : Prop :=
  withJ (σ := Unit) (fun s1 h3 => -- s1: 
  LoopT (σ := Int) (fun X5 s4 h6 => -- s4: i
  cnd (decide (s4 < (w64 (start_1 + k_2)))) (
  CallT Try.prog alloc_Space_taken_no [.pointer s_0, .int .i64 s4] h6 [.sc (.bool)] fun (r7 : Bool) h8 =>
  cnd (!(r7 == taken_3)) (
  R false h8) (
  X5 (w64 (s4 + 1)) h8)) (
  R true h6)) start_1 h3) (fun J2 =>
  withJ (σ := Bool) (fun s9 h11 => -- s9: t33
  cnd s9 (
  R false h11) (
  J2 () h11)) (fun J10 =>
  cnd (decide (k_2 < 1)) (
  J10 true h) (
  cnd (decide (start_1 < 0)) (
  J10 true h) (
  nn s_0 fun a12 =>
  ldI .i64 (a12.add 1) h fun n13 =>
  cnd (decide (start_1 > n13)) (
  J10 true h) (
  nn s_0 fun a14 =>
  ldI .i64 (a14.add 1) h fun n15 =>
  J10 (decide (k_2 > (w64 (n15 - start_1)))) h)))))
theorem alloc_Space_all_eq (s_0 : Option Addr) (start_1 : Int) (k_2 : Int) (taken_3 : Bool) (R : Bool → Heap → Prop) (h : Heap) : fnX Try.prog Fns.fns Try.f99 (.s .n (.j [] (.j [(33, .bool)] .n (.s (.s .n .n) .n)) (.s (.s .n (.b (.l [(9, .int .i64)] (.s (.s .n (.s .n .n)) (.s (.b (.s .n (.s (.s .n .n) .n))) .n))))) (.s .n .n)))) [.sc (.bool)] [.pointer s_0, .int .i64 start_1, .int .i64 k_2, .bool taken_3] h R = alloc_Space_all s_0 start_1 k_2 taken_3 R h := by kernel_rfl
theorem alloc_Space_all_call (s_0 : Option Addr) (start_1 : Int) (k_2 : Int) (taken_3 : Bool) {R : Bool → Heap → Prop} {h : Heap} (hx : alloc_Space_all s_0 start_1 k_2 taken_3 R h) : CallT Try.prog 99 [.pointer s_0, .int .i64 start_1, .int .i64 k_2, .bool taken_3] h [.sc (.bool)] R :=
  call_of_fnX fnsOk mixed Try.func99 (by kernel_rfl) (by rw [alloc_Space_all_eq]; exact hx)

/-- (*stowage/alloc.Space).Take (82) -/
def alloc_Space_Take (s_0 : Option Addr) (k_1 : Int) (R : Int × Int → Heap → Prop) (h : Heap) : Prop :=
  cnd (decide (k_1 < 1)) (
  R (0, 1) h) (
  LoopT (σ := Int) (fun X2 s1 h3 => -- s1: start
  nn s_0 fun a4 =>
  ldI .i64 (a4.add 1) h3 fun n5 =>
  cnd (decide (s1 ≤ (w64 (n5 - k_1)))) (
  LoopT (σ := Int × Int) (fun X7 s6 h8 => -- s6: start, i
  cnd (decide (s6.2 ≥ s6.1)) (
  CallT Try.prog alloc_Space_taken_no [.pointer s_0, .int .i64 s6.2] h8 [.sc (.bool)] fun (r9 : Bool) h10 =>
  cnd r9 (
  X2 (w64 (s6.2 + 1)) h10) (
  X7 (s6.1, (w64 (s6.2 - 1))) h10)) (
  CallT Try.prog alloc_Space_turn_no [.pointer s_0, .int .i64 s6.1, .int .i64 k_1] h8 [] fun (r11 : Unit) h12 =>
  nn s_0 fun a13 =>
  ldI .i64 (a13.add 2) h12 fun n14 =>
  nn s_0 fun a15 =>
  stC (a15.add 2) (.int .i64 (w64 (n14 - k_1))) h12 fun h16 =>
  R (s6.1, 0) h16)) (s1, (w64 ((w64 (s1 + k_1)) - 1))) h3) (
  R (0, 60) h3)) 0 h)
theorem alloc_Space_Take_eq (s_0 : Option Addr) (k_1 : Int) (R : Int × Int → Heap → Prop) (h : Heap) : fnX Try.prog Fns.fns Try.f82 (.s .n (.b (.s (.s .n (.s (.s .n .n) .n)) (.s .n (.s .n (.s (.b (.l [(6, .int .i64)] (.s (.s .n (.s .n .n)) (.b (.s (.s .n (.b (.l [(6, .int .i64), (7, .int .i64)] (.s (.s .n (.s .n .n)) (.s (.b (.s .n (.s (.s .n .n) .n))) .n))))) (.s .n (.s .n (.s .n .n)))))))) (.s .n .n))))))) [.sc (.int .i64), .sc (.int .i64)] [.pointer s_0, .int .i64 k_1] h R = alloc_Space_Take s_0 k_1 R h := by kernel_rfl
theorem alloc_Space_Take_call (s_0 : Option Addr) (k_1 : Int) {R : Int × Int → Heap → Prop} {h : Heap} (hx : alloc_Space_Take s_0 k_1 R h) : CallT Try.prog 82 [.pointer s_0, .int .i64 k_1] h [.sc (.int .i64), .sc (.int .i64)] R :=
  call_of_fnX fnsOk mixed Try.func82 (by kernel_rfl) (by rw [alloc_Space_Take_eq]; exact hx)

/-- (*stowage/alloc.Space).Give (84) -/
def alloc_Space_Give (s_0 : Option Addr) (start_1 : Int) (k_2 : Int) (R : Int → Heap → Prop) (h : Heap) : Prop :=
  CallT Try.prog alloc_Space_all_no [.pointer s_0, .int .i64 start_1, .int .i64 k_2, .bool true] h [.sc (.bool)] fun (r1 : Bool) h2 =>
  cnd (!r1) (
  R 1 h2) (
  CallT Try.prog alloc_Space_turn_no [.pointer s_0, .int .i64 start_1, .int .i64 k_2] h2 [] fun (r3 : Unit) h4 =>
  nn s_0 fun a5 =>
  ldI .i64 (a5.add 2) h4 fun n6 =>
  nn s_0 fun a7 =>
  stC (a7.add 2) (.int .i64 (w64 (n6 + k_2))) h4 fun h8 =>
  R 0 h8)
theorem alloc_Space_Give_eq (s_0 : Option Addr) (start_1 : Int) (k_2 : Int) (R : Int → Heap → Prop) (h : Heap) : fnX Try.prog Fns.fns Try.f84 (.s .n (.s (.s .n (.s (.s .n .n) .n)) (.s .n (.s .n (.s .n .n))))) [.sc (.int .i64)] [.pointer s_0, .int .i64 start_1, .int .i64 k_2] h R = alloc_Space_Give s_0 start_1 k_2 R h := by kernel_rfl
theorem alloc_Space_Give_call (s_0 : Option Addr) (start_1 : Int) (k_2 : Int) {R : Int → Heap → Prop} {h : Heap} (hx : alloc_Space_Give s_0 start_1 k_2 R h) : CallT Try.prog 84 [.pointer s_0, .int .i64 start_1, .int .i64 k_2] h [.sc (.int .i64)] R :=
  call_of_fnX fnsOk mixed Try.func84 (by kernel_rfl) (by rw [alloc_Space_Give_eq]; exact hx)

/-- (*stowage/alloc.Space).Mark (81) -/
def alloc_Space_Mark (s_0 : Option Addr) (start_1 : Int) (k_2 : Int) (R : Int → Heap → Prop) (h : Heap) : Prop :=
  CallT Try.prog alloc_Space_all_no [.pointer s_0, .int .i64 start_1, .int .i64 k_2, .bool false] h [.sc (.bool)] fun (r1 : Bool) h2 =>
  cnd (!r1) (
  R 1 h2) (
  CallT Try.prog alloc_Space_turn_no [.pointer s_0, .int .i64 start_1, .int .i64 k_2] h2 [] fun (r3 : Unit) h4 =>
  nn s_0 fun a5 =>
  ldI .i64 (a5.add 2) h4 fun n6 =>
  nn s_0 fun a7 =>
  stC (a7.add 2) (.int .i64 (w64 (n6 - k_2))) h4 fun h8 =>
  R 0 h8)
theorem alloc_Space_Mark_eq (s_0 : Option Addr) (start_1 : Int) (k_2 : Int) (R : Int → Heap → Prop) (h : Heap) : fnX Try.prog Fns.fns Try.f81 (.s .n (.s (.s .n (.s (.s .n .n) .n)) (.s .n (.s .n (.s .n .n))))) [.sc (.int .i64)] [.pointer s_0, .int .i64 start_1, .int .i64 k_2] h R = alloc_Space_Mark s_0 start_1 k_2 R h := by kernel_rfl
theorem alloc_Space_Mark_call (s_0 : Option Addr) (start_1 : Int) (k_2 : Int) {R : Int → Heap → Prop} {h : Heap} (hx : alloc_Space_Mark s_0 start_1 k_2 R h) : CallT Try.prog 81 [.pointer s_0, .int .i64 start_1, .int .i64 k_2] h [.sc (.int .i64)] R :=
  call_of_fnX fnsOk mixed Try.func81 (by kernel_rfl) (by rw [alloc_Space_Mark_eq]; exact hx)

/-- (*stowage/alloc.Space).Free (87) -/
def alloc_Space_Free (s_0 : Option Addr) (R : Int → Heap → Prop) (h : Heap) : Prop :=
  nn s_0 fun a1 =>
  ldI .i64 (a1.add 2) h fun n2 =>
  R n2 h
theorem alloc_Space_Free_eq (s_0 : Option Addr) (R : Int → Heap → Prop) (h : Heap) : fnX Try.prog Fns.fns Try.f87 (.s .n (.s .n .n)) [.sc (.int .i64)] [.pointer s_0] h R = alloc_Space_Free s_0 R h := by kernel_rfl
theorem alloc_Space_Free_call (s_0 : Option Addr) {R : Int → Heap → Prop} {h : Heap} (hx : alloc_Space_Free s_0 R h) : CallT Try.prog 87 [.pointer s_0] h [.sc (.int .i64)] R :=
  call_of_fnX fnsOk mixed Try.func87 (by kernel_rfl) (by rw [alloc_Space_Free_eq]; exact hx)

/-- (*stowage/alloc.Space).Copy (102) -/
def alloc_Space_Copy (s_0 : Option Addr) (R : (Option Addr) → Heap → Prop) (h : Heap) : Prop :=
  nn s_0 fun a1 =>
  ldL a1 h fun o2 l2 c2 =>
  ldI .i64 (a1.add 1) h fun n3 =>
  ldI .i64 (a1.add 2) h fun n4 =>
  newB [.slice none 0 0, .int .i64 0, .int .i64 0] 149 h fun a5 h6 =>
  stC a5 (.slice o2 l2 c2) h6 fun h7 =>
  stC (a5.add 1) (.int .i64 n3) h7 fun h8 =>
  stC (a5.add 2) (.int .i64 n4) h8 fun h9 =>
  nn s_0 fun a10 =>
  ldL a10 h9 fun o11 l11 c11 =>
  CallT Try.prog slices_Clone_uint64_no [.slice o11 l11 c11] h9 [.sc (.sl)] fun (r12 : Sl) h13 =>
  stC a5 (.slice r12.a r12.len r12.cap) h13 fun h14 =>
  R (some a5) h14
theorem alloc_Space_Copy_eq (s_0 : Option Addr) (R : (Option Addr) → Heap → Prop) (h : Heap) : fnX Try.prog Fns.fns Try.f102 (.s .n (.s .n (.s .n (.s .n .n)))) [.sc (.ptr)] [.pointer s_0] h R = alloc_Space_Copy s_0 R h := by kernel_rfl
theorem alloc_Space_Copy_call (s_0 : Option Addr) {R : (Option Addr) → Heap → Prop} {h : Heap} (hx : alloc_Space_Copy s_0 R h) : CallT Try.prog 102 [.pointer s_0] h [.sc (.ptr)] R :=
  call_of_fnX fnsOk mixed Try.func102 (by kernel_rfl) (by rw [alloc_Space_Copy_eq]; exact hx)

/-- slices.Clone[[]uint64,uint64] (103) -/
def slices_Clone_uint64 (s_0 : Sl) (R : Sl → Heap → Prop) (h : Heap) : Prop :=
  cnd s_0.a.isNone (
  R (⟨none, 0, 0⟩ : Sl) h) (
  newB [] 25 h fun a1 h2 =>
  rdCells s_0.a (s_0.len * 1) h2 fun cs6 =>
  app [.int .u64 0] 25 1 8 (some a1) 0 0 cs6 s_0.len h2 fun o3 c4 h5 =>
  R (⟨o3, (0 + s_0.len), c4⟩ : Sl) h5)
theorem slices_Clone_uint64_eq (s_0 : Sl) (R : Sl → Heap → Prop) (h : Heap) : fnX Try.prog Fns.fns Try.f103 (.s .n (.s (.s .n (.s (.s .n .n) .n)) (.s .n .n))) [.sc (.sl)] [.slice s_0.a s_0.len s_0.cap] h R = slices_Clone_uint64 s_0 R h := by kernel_rfl
theorem slices_Clone_uint64_call (s_0 : Sl) {R : Sl → Heap → Prop} {h : Heap} (hx : slices_Clone_uint64 s_0 R h) : CallT Try.prog 103 [.slice s_0.a s_0.len s_0.cap] h [.sc (.sl)] R :=
  call_of_fnX fnsOk mixed Try.func103 (by kernel_rfl) (by rw [slices_Clone_uint64_eq]; exact hx)

end Go.Proofs.Ytmkobpkdodgboaa
