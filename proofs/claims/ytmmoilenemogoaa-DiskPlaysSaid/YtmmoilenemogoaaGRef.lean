/- Go functions as short texts over the heap, and that each is what the loaded function comes to (the kernel compares them); written by a program. -/
import Derived.Test.YtmmoilenemogoaaGBase
set_option linter.unusedVariables false
set_option maxRecDepth 100000
namespace Go.Proofs.Ytmmoilenemogoaa
open Go D
/-- stowage/stowageref10.New (27) -/
def ref10_New (n_0 : Int) (R : (Option Addr) × Int → Heap → Prop) (h : Heap) : Prop :=
  withJ (σ := Unit) (fun s1 h3 => -- s1: 
  mkSl [.bool false] 4 1 n_0 n_0 h3 fun a4 h5 =>
  newB [.slice (some a4) n_0.toNat n_0.toNat] 100 h5 fun a6 h7 =>
  R ((some a6), 0) h7) (fun J2 =>
  withJ (σ := Bool) (fun s8 h10 => -- s8: t9
  cnd s8 (
  R (none, 1) h10) (
  J2 () h10)) (fun J9 =>
  cnd (decide (n_0 < 0)) (
  J9 true h) (
  J9 (decide (n_0 > 4096)) h)))
theorem ref10_New_eq (n_0 : Int) (R : (Option Addr) × Int → Heap → Prop) (h : Heap) : fnX Try.prog Fns.fns Try.f27 (.s .n (.j [] (.j [(9, .bool)] .n (.s (.s .n .n) .n)) (.s .n .n))) [.sc (.ptr), .sc (.int .i64)] [.int .i64 n_0] h R = ref10_New n_0 R h := by kernel_rfl
theorem ref10_New_call (n_0 : Int) {R : (Option Addr) × Int → Heap → Prop} {h : Heap} (hx : ref10_New n_0 R h) : CallT Try.prog 27 [.int .i64 n_0] h [.sc (.ptr), .sc (.int .i64)] R :=
  call_of_fnX fnsOk mixed Try.func27 (by kernel_rfl) (by rw [ref10_New_eq]; exact hx)

/-- (*stowage/stowageref10.Space).Copy (33) -/
def ref10_Space_Copy (s_0 : Option Addr) (R : (Option Addr) → Heap → Prop) (h : Heap) : Prop :=
  nn s_0 fun a1 =>
  ldL a1 h fun o2 l2 c2 =>
  rdCells o2 (l2 * 1) h fun cs6 =>
  app [.bool false] 4 1 1 none 0 0 cs6 l2 h fun o3 c4 h5 =>
  newB [.slice o3 (0 + l2) c4] 100 h5 fun a7 h8 =>
  R (some a7) h8
theorem ref10_Space_Copy_eq (s_0 : Option Addr) (R : (Option Addr) → Heap → Prop) (h : Heap) : fnX Try.prog Fns.fns Try.f33 (.s .n (.s .n (.s .n .n))) [.sc (.ptr)] [.pointer s_0] h R = ref10_Space_Copy s_0 R h := by kernel_rfl
theorem ref10_Space_Copy_call (s_0 : Option Addr) {R : (Option Addr) → Heap → Prop} {h : Heap} (hx : ref10_Space_Copy s_0 R h) : CallT Try.prog 33 [.pointer s_0] h [.sc (.ptr)] R :=
  call_of_fnX fnsOk mixed Try.func33 (by kernel_rfl) (by rw [ref10_Space_Copy_eq]; exact hx)

/-- (*stowage/stowageref10.Space).Free (34) -/
def ref10_Space_Free (s_0 : Option Addr) (R : Int → Heap → Prop) (h : Heap) : Prop :=
  LoopT (σ := Int × Int) (fun X2 s1 h3 => -- s1: n, i
  nn s_0 fun a4 =>
  ldL a4 h3 fun o5 l5 c5 =>
  cnd (decide (s1.2 < (l5 : Int))) (
  withJ (σ := Int) (fun s6 h8 => -- s6: n
  X2 (s6, (w64 (s1.2 + 1))) h8) (fun J7 =>
  nn s_0 fun a9 =>
  ldL a9 h3 fun o10 l10 c10 =>
  idx o10 l10 s1.2 fun a11 =>
  ldB (a11.add (s1.2.toNat * 1)) h3 fun b12 =>
  cnd (!b12) (
  J7 (w64 (s1.1 + 1)) h3) (
  J7 s1.1 h3))) (
  R s1.1 h3)) (0, 0) h
theorem ref10_Space_Free_eq (s_0 : Option Addr) (R : Int → Heap → Prop) (h : Heap) : fnX Try.prog Fns.fns Try.f34 (.s .n (.s .n (.s (.s .n (.b (.l [(3, .int .i64), (4, .int .i64)] (.s (.s .n (.s .n .n)) (.j [(3, .int .i64)] (.b (.s .n (.s .n .n))) .n))))) (.s .n .n)))) [.sc (.int .i64)] [.pointer s_0] h R = ref10_Space_Free s_0 R h := by kernel_rfl
theorem ref10_Space_Free_call (s_0 : Option Addr) {R : Int → Heap → Prop} {h : Heap} (hx : ref10_Space_Free s_0 R h) : CallT Try.prog 34 [.pointer s_0] h [.sc (.int .i64)] R :=
  call_of_fnX fnsOk mixed Try.func34 (by kernel_rfl) (by rw [ref10_Space_Free_eq]; exact hx)

/-- (*stowage/stowageref10.Space).Give (29) -/
def ref10_Space_Give (s_0 : Option Addr) (start_1 : Int) (k_2 : Int) (R : Int → Heap → Prop) (h : Heap) : Prop :=
  CallT Try.prog ref10_Space_all_no [.pointer s_0, .int .i64 start_1, .int .i64 k_2, .bool true] h [.sc (.bool)] fun (r1 : Bool) h2 =>
  cnd (!r1) (
  R 1 h2) (
  CallT Try.prog ref10_Space_put_no [.pointer s_0, .int .i64 start_1, .int .i64 k_2, .bool false] h2 [] fun (r3 : Unit) h4 =>
  R 0 h4)
theorem ref10_Space_Give_eq (s_0 : Option Addr) (start_1 : Int) (k_2 : Int) (R : Int → Heap → Prop) (h : Heap) : fnX Try.prog Fns.fns Try.f29 (.s .n (.s (.s .n (.s (.s .n .n) .n)) (.s .n (.s .n .n)))) [.sc (.int .i64)] [.pointer s_0, .int .i64 start_1, .int .i64 k_2] h R = ref10_Space_Give s_0 start_1 k_2 R h := by kernel_rfl
theorem ref10_Space_Give_call (s_0 : Option Addr) (start_1 : Int) (k_2 : Int) {R : Int → Heap → Prop} {h : Heap} (hx : ref10_Space_Give s_0 start_1 k_2 R h) : CallT Try.prog 29 [.pointer s_0, .int .i64 start_1, .int .i64 k_2] h [.sc (.int .i64)] R :=
  call_of_fnX fnsOk mixed Try.func29 (by kernel_rfl) (by rw [ref10_Space_Give_eq]; exact hx)

/-- (*stowage/stowageref10.Space).Mark (31) -/
def ref10_Space_Mark (s_0 : Option Addr) (start_1 : Int) (k_2 : Int) (R : Int → Heap → Prop) (h : Heap) : Prop :=
  CallT Try.prog ref10_Space_all_no [.pointer s_0, .int .i64 start_1, .int .i64 k_2, .bool false] h [.sc (.bool)] fun (r1 : Bool) h2 =>
  cnd (!r1) (
  R 1 h2) (
  CallT Try.prog ref10_Space_put_no [.pointer s_0, .int .i64 start_1, .int .i64 k_2, .bool true] h2 [] fun (r3 : Unit) h4 =>
  R 0 h4)
theorem ref10_Space_Mark_eq (s_0 : Option Addr) (start_1 : Int) (k_2 : Int) (R : Int → Heap → Prop) (h : Heap) : fnX Try.prog Fns.fns Try.f31 (.s .n (.s (.s .n (.s (.s .n .n) .n)) (.s .n (.s .n .n)))) [.sc (.int .i64)] [.pointer s_0, .int .i64 start_1, .int .i64 k_2] h R = ref10_Space_Mark s_0 start_1 k_2 R h := by kernel_rfl
theorem ref10_Space_Mark_call (s_0 : Option Addr) (start_1 : Int) (k_2 : Int) {R : Int → Heap → Prop} {h : Heap} (hx : ref10_Space_Mark s_0 start_1 k_2 R h) : CallT Try.prog 31 [.pointer s_0, .int .i64 start_1, .int .i64 k_2] h [.sc (.int .i64)] R :=
  call_of_fnX fnsOk mixed Try.func31 (by kernel_rfl) (by rw [ref10_Space_Mark_eq]; exact hx)

/-- (*stowage/stowageref10.Space).Runs (36) -/
def ref10_Space_Runs (s_0 : Option Addr) (R : Sl → Heap → Prop) (h : Heap) : Prop :=
  LoopT (σ := Sl × Int) (fun X2 s1 h3 => -- s1: out, i
  nn s_0 fun a4 =>
  ldL a4 h3 fun o5 l5 c5 =>
  cnd (decide (s1.2 < (l5 : Int))) (
  withJ (σ := Sl) (fun s6 h8 => -- s6: out
  X2 (s6, (w64 (s1.2 + 1))) h8) (fun J7 =>
  nn s_0 fun a9 =>
  ldL a9 h3 fun o10 l10 c10 =>
  idx o10 l10 s1.2 fun a11 =>
  ldB (a11.add (s1.2.toNat * 1)) h3 fun b12 =>
  cnd b12 (
  J7 s1.1 h3) (
  withJ (σ := Bool) (fun s13 h15 => -- s13: t27
  cnd s13 (
  idx s1.1.a s1.1.len (w64 ((s1.1.len : Int) - 1)) fun a16 =>
  ldI .i64 ((a16.add ((w64 ((s1.1.len : Int) - 1)).toNat * 2)).add 1) h15 fun n17 =>
  idx s1.1.a s1.1.len (w64 ((s1.1.len : Int) - 1)) fun a18 =>
  stC ((a18.add ((w64 ((s1.1.len : Int) - 1)).toNat * 2)).add 1) (.int .i64 (w64 (n17 + 1))) h15 fun h19 =>
  J7 s1.1 h19) (
  newB [.int .i64 s1.2, .int .i64 1] 105 h15 fun a20 h21 =>
  ldRow (1 * 2) a20 h21 fun cs25 =>
  app [.int .i64 0, .int .i64 0] 105 2 16 s1.1.a s1.1.len s1.1.cap cs25 1 h21 fun o22 c23 h24 =>
  J7 (⟨o22, (s1.1.len + 1), c23⟩ : Sl) h24)) (fun J14 =>
  cnd (decide (s1.2 > 0)) (
  nn s_0 fun a26 =>
  ldL a26 h3 fun o27 l27 c27 =>
  idx o27 l27 (w64 (s1.2 - 1)) fun a28 =>
  ldB (a28.add ((w64 (s1.2 - 1)).toNat * 1)) h3 fun b29 =>
  J14 (!b29) h3) (
  J14 false h3))))) (
  R s1.1 h3)) ((⟨none, 0, 0⟩ : Sl), 0) h
theorem ref10_Space_Runs_eq (s_0 : Option Addr) (R : Sl → Heap → Prop) (h : Heap) : fnX Try.prog Fns.fns Try.f36 (.s .n (.s .n (.s (.s .n (.b (.l [(3, .sl), (4, .int .i64)] (.s (.s .n (.s .n .n)) (.j [(3, .sl)] (.b (.b (.s .n (.s .n (.j [(27, .bool)] .n (.s .n .n)))))) .n))))) (.s .n .n)))) [.sc (.sl)] [.pointer s_0] h R = ref10_Space_Runs s_0 R h := by kernel_rfl
theorem ref10_Space_Runs_call (s_0 : Option Addr) {R : Sl → Heap → Prop} {h : Heap} (hx : ref10_Space_Runs s_0 R h) : CallT Try.prog 36 [.pointer s_0] h [.sc (.sl)] R :=
  call_of_fnX fnsOk mixed Try.func36 (by kernel_rfl) (by rw [ref10_Space_Runs_eq]; exact hx)

/-- (*stowage/stowageref10.Space).Take (28) -/
def ref10_Space_Take (s_0 : Option Addr) (k_1 : Int) (R : Int × Int → Heap → Prop) (h : Heap) : Prop :=
  cnd (decide (k_1 < 1)) (
  R (0, 1) h) (
  LoopT (σ := Int) (fun X2 s1 h3 => -- s1: i
  nn s_0 fun a4 =>
  ldL a4 h3 fun o5 l5 c5 =>
  cnd (decide (s1 < (l5 : Int))) (
  CallT Try.prog ref10_Space_all_no [.pointer s_0, .int .i64 s1, .int .i64 k_1, .bool false] h3 [.sc (.bool)] fun (r6 : Bool) h7 =>
  cnd r6 (
  CallT Try.prog ref10_Space_put_no [.pointer s_0, .int .i64 s1, .int .i64 k_1, .bool true] h7 [] fun (r8 : Unit) h9 =>
  R (s1, 0) h9) (
  X2 (w64 (s1 + 1)) h7)) (
  R (0, 60) h3)) 0 h)
theorem ref10_Space_Take_eq (s_0 : Option Addr) (k_1 : Int) (R : Int × Int → Heap → Prop) (h : Heap) : fnX Try.prog Fns.fns Try.f28 (.s .n (.s (.s .n (.s (.s .n .n) .n)) (.s (.s .n (.b (.l [(6, .int .i64)] (.s (.s .n (.s .n .n)) (.s (.b (.s .n (.s (.s .n (.s .n .n)) .n))) .n))))) (.s .n .n)))) [.sc (.int .i64), .sc (.int .i64)] [.pointer s_0, .int .i64 k_1] h R = ref10_Space_Take s_0 k_1 R h := by kernel_rfl
theorem ref10_Space_Take_call (s_0 : Option Addr) (k_1 : Int) {R : Int × Int → Heap → Prop} {h : Heap} (hx : ref10_Space_Take s_0 k_1 R h) : CallT Try.prog 28 [.pointer s_0, .int .i64 k_1] h [.sc (.int .i64), .sc (.int .i64)] R :=
  call_of_fnX fnsOk mixed Try.func28 (by kernel_rfl) (by rw [ref10_Space_Take_eq]; exact hx)

/-- (*stowage/stowageref10.Space).all (51) -/
def ref10_Space_all (s_0 : Option Addr) (start_1 : Int) (k_2 : Int) (taken_3 : Bool) (R : Bool → Heap → Prop) (h : Heap) : Prop :=
  withJ (σ := Unit) (fun s1 h3 => -- s1: 
  LoopT (σ := Int) (fun X5 s4 h6 => -- s4: i
  cnd (decide (s4 < (w64 (start_1 + k_2)))) (
  nn s_0 fun a7 =>
  ldL a7 h6 fun o8 l8 c8 =>
  idx o8 l8 s4 fun a9 =>
  ldB (a9.add (s4.toNat * 1)) h6 fun b10 =>
  cnd (!(b10 == taken_3)) (
  R false h6) (
  X5 (w64 (s4 + 1)) h6)) (
  R true h6)) start_1 h3) (fun J2 =>
  withJ (σ := Bool) (fun s11 h13 => -- s11: t35
  cnd s11 (
  R false h13) (
  J2 () h13)) (fun J12 =>
  cnd (decide (k_2 < 1)) (
  J12 true h) (
  cnd (decide (start_1 < 0)) (
  J12 true h) (
  nn s_0 fun a14 =>
  ldL a14 h fun o15 l15 c15 =>
  cnd (decide (start_1 > (l15 : Int))) (
  J12 true h) (
  nn s_0 fun a16 =>
  ldL a16 h fun o17 l17 c17 =>
  J12 (decide (k_2 > (w64 ((l17 : Int) - start_1)))) h)))))
theorem ref10_Space_all_eq (s_0 : Option Addr) (start_1 : Int) (k_2 : Int) (taken_3 : Bool) (R : Bool → Heap → Prop) (h : Heap) : fnX Try.prog Fns.fns Try.f51 (.s .n (.j [] (.j [(35, .bool)] .n (.s (.s .n .n) .n)) (.s (.s .n (.b (.l [(9, .int .i64)] (.s (.s .n (.s .n .n)) (.s (.b (.s .n (.s (.s .n .n) .n))) .n))))) (.s .n .n)))) [.sc (.bool)] [.pointer s_0, .int .i64 start_1, .int .i64 k_2, .bool taken_3] h R = ref10_Space_all s_0 start_1 k_2 taken_3 R h := by kernel_rfl
theorem ref10_Space_all_call (s_0 : Option Addr) (start_1 : Int) (k_2 : Int) (taken_3 : Bool) {R : Bool → Heap → Prop} {h : Heap} (hx : ref10_Space_all s_0 start_1 k_2 taken_3 R h) : CallT Try.prog 51 [.pointer s_0, .int .i64 start_1, .int .i64 k_2, .bool taken_3] h [.sc (.bool)] R :=
  call_of_fnX fnsOk mixed Try.func51 (by kernel_rfl) (by rw [ref10_Space_all_eq]; exact hx)

/-- (*stowage/stowageref10.Space).put (52) -/
def ref10_Space_put (s_0 : Option Addr) (start_1 : Int) (k_2 : Int) (taken_3 : Bool) (R : Unit → Heap → Prop) (h : Heap) : Prop :=
  LoopT (σ := Int) (fun X2 s1 h3 => -- s1: i
  cnd (decide (s1 < (w64 (start_1 + k_2)))) (
  nn s_0 fun a4 =>
  ldL a4 h3 fun o5 l5 c5 =>
  idx o5 l5 s1 fun a6 =>
  stC (a6.add (s1.toNat * 1)) (.bool taken_3) h3 fun h7 =>
  X2 (w64 (s1 + 1)) h7) (
  R () h3)) start_1 h
theorem ref10_Space_put_eq (s_0 : Option Addr) (start_1 : Int) (k_2 : Int) (taken_3 : Bool) (R : Unit → Heap → Prop) (h : Heap) : fnX Try.prog Fns.fns Try.f52 (.s .n (.b (.l [(8, .int .i64)] (.s (.s .n (.s .n .n)) (.s (.b .n) .n))))) [] [.pointer s_0, .int .i64 start_1, .int .i64 k_2, .bool taken_3] h R = ref10_Space_put s_0 start_1 k_2 taken_3 R h := by kernel_rfl
theorem ref10_Space_put_call (s_0 : Option Addr) (start_1 : Int) (k_2 : Int) (taken_3 : Bool) {R : Unit → Heap → Prop} {h : Heap} (hx : ref10_Space_put s_0 start_1 k_2 taken_3 R h) : CallT Try.prog 52 [.pointer s_0, .int .i64 start_1, .int .i64 k_2, .bool taken_3] h [] R :=
  call_of_fnX fnsOk mixed Try.func52 (by kernel_rfl) (by rw [ref10_Space_put_eq]; exact hx)

/-- (*stowage/stowageref5.Dev).Copy (43) -/
def ref5_Dev_Copy (d_0 : Option Addr) (R : (Option Addr) → Heap → Prop) (h : Heap) : Prop :=
  nn d_0 fun a1 =>
  ldI .i64 (a1.add 2) h fun n2 =>
  nn d_0 fun a3 =>
  ldB (a3.add 3) h fun b4 =>
  newB [.slice none 0 0, .slice none 0 0, .int .i64 n2, .bool b4] 80 h fun a5 h6 =>
  ldL a5 h6 fun o7 l7 c7 =>
  nn d_0 fun a8 =>
  ldL a8 h6 fun o9 l9 c9 =>
  rdCells o9 (l9 * 1) h6 fun cs13 =>
  app [.string (⟨#[]⟩ : ByteArray)] 9 1 16 o7 l7 c7 cs13 l9 h6 fun o10 c11 h12 =>
  stC a5 (.slice o10 (l7 + l9) c11) h12 fun h14 =>
  ldL (a5.add 1) h14 fun o15 l15 c15 =>
  nn d_0 fun a16 =>
  ldL (a16.add 1) h14 fun o17 l17 c17 =>
  rdCells o17 (l17 * 2) h14 fun cs21 =>
  app [.int .i64 0, .string (⟨#[]⟩ : ByteArray)] 108 2 24 o15 l15 c15 cs21 l17 h14 fun o18 c19 h20 =>
  stC (a5.add 1) (.slice o18 (l15 + l17) c19) h20 fun h22 =>
  R (some a5) h22
theorem ref5_Dev_Copy_eq (d_0 : Option Addr) (R : (Option Addr) → Heap → Prop) (h : Heap) : fnX Try.prog Fns.fns Try.f43 (.s .n (.s .n (.s .n (.s .n (.s .n .n))))) [.sc (.ptr)] [.pointer d_0] h R = ref5_Dev_Copy d_0 R h := by kernel_rfl
theorem ref5_Dev_Copy_call (d_0 : Option Addr) {R : (Option Addr) → Heap → Prop} {h : Heap} (hx : ref5_Dev_Copy d_0 R h) : CallT Try.prog 43 [.pointer d_0] h [.sc (.ptr)] R :=
  call_of_fnX fnsOk mixed Try.func43 (by kernel_rfl) (by rw [ref5_Dev_Copy_eq]; exact hx)

/-- (*stowage/stowageref5.Dev).Crash (41) -/
def ref5_Dev_Crash (d_0 : Option Addr) (keep_1 : Sl) (R : Unit → Heap → Prop) (h : Heap) : Prop :=
  LoopT (σ := Int) (fun X2 s1 h3 => -- s1: k
  nn d_0 fun a4 =>
  ldL (a4.add 1) h3 fun o5 l5 c5 =>
  cnd (decide (s1 < (l5 : Int))) (
  withJ (σ := Unit) (fun s6 h8 => -- s6: 
  X2 (w64 (s1 + 1)) h8) (fun J7 =>
  withJ (σ := Bool) (fun s9 h11 => -- s9: t23
  cnd s9 (
  nn d_0 fun a12 =>
  ldL a12 h11 fun o13 l13 c13 =>
  nn d_0 fun a14 =>
  ldL (a14.add 1) h11 fun o15 l15 c15 =>
  idx o15 l15 s1 fun a16 =>
  ldI .i64 (a16.add (s1.toNat * 2)) h11 fun n17 =>
  nn d_0 fun a18 =>
  ldL (a18.add 1) h11 fun o19 l19 c19 =>
  idx o19 l19 s1 fun a20 =>
  ldS ((a20.add (s1.toNat * 2)).add 1) h11 fun s21 =>
  idx o13 l13 n17 fun a22 =>
  stC (a22.add (n17.toNat * 1)) (.string s21) h11 fun h23 =>
  J7 () h23) (
  J7 () h11)) (fun J10 =>
  cnd (decide (s1 < (keep_1.len : Int))) (
  idx keep_1.a keep_1.len s1 fun a24 =>
  ldB (a24.add (s1.toNat * 1)) h3 fun b25 =>
  J10 b25 h3) (
  J10 false h3)))) (
  nn d_0 fun a26 =>
  stC (a26.add 1) (.slice none 0 0) h3 fun h27 =>
  nn d_0 fun a28 =>
  stC (a28.add 3) (.bool false) h27 fun h29 =>
  nn d_0 fun a30 =>
  stC (a30.add 2) (.int .i64 (-1)) h29 fun h31 =>
  R () h31)) 0 h
theorem ref5_Dev_Crash_eq (d_0 : Option Addr) (keep_1 : Sl) (R : Unit → Heap → Prop) (h : Heap) : fnX Try.prog Fns.fns Try.f41 (.s (.s .n (.b (.l [(4, .int .i64)] (.s (.s .n (.s .n .n)) (.j [] (.b (.j [(23, .bool)] .n (.s .n .n))) .n))))) (.s .n (.s .n .n))) [] [.pointer d_0, .slice keep_1.a keep_1.len keep_1.cap] h R = ref5_Dev_Crash d_0 keep_1 R h := by kernel_rfl
theorem ref5_Dev_Crash_call (d_0 : Option Addr) (keep_1 : Sl) {R : Unit → Heap → Prop} {h : Heap} (hx : ref5_Dev_Crash d_0 keep_1 R h) : CallT Try.prog 41 [.pointer d_0, .slice keep_1.a keep_1.len keep_1.cap] h [] R :=
  call_of_fnX fnsOk mixed Try.func41 (by kernel_rfl) (by rw [ref5_Dev_Crash_eq]; exact hx)

/-- (*stowage/stowageref5.Dev).Flush (40) -/
def ref5_Dev_Flush (d_0 : Option Addr) (R : Int → Heap → Prop) (h : Heap) : Prop :=
  nn d_0 fun a1 =>
  ldB (a1.add 3) h fun b2 =>
  cnd b2 (
  R 50 h) (
  CallT Try.prog ref5_Dev_burn_no [.pointer d_0] h [.sc (.int .i64)] fun (r3 : Int) h4 =>
  cnd (r3 != 0) (
  R r3 h4) (
  LoopT (σ := Int) (fun X6 s5 h7 => -- s5: k
  nn d_0 fun a8 =>
  ldL (a8.add 1) h7 fun o9 l9 c9 =>
  cnd (decide (s5 < (l9 : Int))) (
  nn d_0 fun a10 =>
  ldL a10 h7 fun o11 l11 c11 =>
  nn d_0 fun a12 =>
  ldL (a12.add 1) h7 fun o13 l13 c13 =>
  idx o13 l13 s5 fun a14 =>
  ldI .i64 (a14.add (s5.toNat * 2)) h7 fun n15 =>
  nn d_0 fun a16 =>
  ldL (a16.add 1) h7 fun o17 l17 c17 =>
  idx o17 l17 s5 fun a18 =>
  ldS ((a18.add (s5.toNat * 2)).add 1) h7 fun s19 =>
  idx o11 l11 n15 fun a20 =>
  stC (a20.add (n15.toNat * 1)) (.string s19) h7 fun h21 =>
  X6 (w64 (s5 + 1)) h21) (
  nn d_0 fun a22 =>
  stC (a22.add 1) (.slice none 0 0) h7 fun h23 =>
  R 0 h23)) 0 h4))
theorem ref5_Dev_Flush_eq (d_0 : Option Addr) (R : Int → Heap → Prop) (h : Heap) : fnX Try.prog Fns.fns Try.f40 (.s .n (.s (.s .n (.s (.s .n .n) .n)) (.s (.s .n (.s .n (.s (.s .n .n) .n))) (.s (.s .n (.b (.l [(4, .int .i64)] (.s (.s .n (.s .n .n)) (.s (.b .n) .n))))) (.s .n (.s .n .n)))))) [.sc (.int .i64)] [.pointer d_0] h R = ref5_Dev_Flush d_0 R h := by kernel_rfl
theorem ref5_Dev_Flush_call (d_0 : Option Addr) {R : Int → Heap → Prop} {h : Heap} (hx : ref5_Dev_Flush d_0 R h) : CallT Try.prog 40 [.pointer d_0] h [.sc (.int .i64)] R :=
  call_of_fnX fnsOk mixed Try.func40 (by kernel_rfl) (by rw [ref5_Dev_Flush_eq]; exact hx)

/-- (*stowage/stowageref5.Dev).Read (39) -/
def ref5_Dev_Read (d_0 : Option Addr) (i_1 : Int) (R : ByteArray × Int → Heap → Prop) (h : Heap) : Prop :=
  nn d_0 fun a1 =>
  ldB (a1.add 3) h fun b2 =>
  cnd b2 (
  R ((⟨#[]⟩ : ByteArray), 50) h) (
  withJ (σ := Unit) (fun s3 h5 => -- s3: 
  nn d_0 fun a6 =>
  ldL a6 h5 fun o7 l7 c7 =>
  idx o7 l7 i_1 fun a8 =>
  ldS (a8.add (i_1.toNat * 1)) h5 fun s9 =>
  LoopT (σ := ByteArray × Int) (fun X11 s10 h12 => -- s10: s, k
  nn d_0 fun a13 =>
  ldL (a13.add 1) h12 fun o14 l14 c14 =>
  cnd (decide (s10.2 < (l14 : Int))) (
  withJ (σ := ByteArray) (fun s15 h17 => -- s15: s
  X11 (s15, (w64 (s10.2 + 1))) h17) (fun J16 =>
  nn d_0 fun a18 =>
  ldL (a18.add 1) h12 fun o19 l19 c19 =>
  idx o19 l19 s10.2 fun a20 =>
  ldI .i64 (a20.add (s10.2.toNat * 2)) h12 fun n21 =>
  cnd (n21 == i_1) (
  nn d_0 fun a22 =>
  ldL (a22.add 1) h12 fun o23 l23 c23 =>
  idx o23 l23 s10.2 fun a24 =>
  ldS ((a24.add (s10.2.toNat * 2)).add 1) h12 fun s25 =>
  J16 s25 h12) (
  J16 s10.1 h12))) (
  R (s10.1, 0) h12)) (s9, 0) h5) (fun J4 =>
  withJ (σ := Bool) (fun s26 h28 => -- s26: t22
  cnd s26 (
  R ((⟨#[]⟩ : ByteArray), 1) h28) (
  J4 () h28)) (fun J27 =>
  cnd (decide (i_1 < 0)) (
  J27 true h) (
  nn d_0 fun a29 =>
  ldL a29 h fun o30 l30 c30 =>
  J27 (decide (i_1 ≥ (l30 : Int))) h))))
theorem ref5_Dev_Read_eq (d_0 : Option Addr) (i_1 : Int) (R : ByteArray × Int → Heap → Prop) (h : Heap) : fnX Try.prog Fns.fns Try.f39 (.s .n (.s (.s .n (.s (.s .n .n) .n)) (.j [] (.j [(22, .bool)] .n (.s (.s .n .n) .n)) (.s .n (.s (.s .n (.b (.l [(6, .str), (7, .int .i64)] (.s (.s .n (.s .n .n)) (.j [(6, .str)] (.b (.s .n (.s .n .n))) .n))))) (.s .n .n)))))) [.sc (.str), .sc (.int .i64)] [.pointer d_0, .int .i64 i_1] h R = ref5_Dev_Read d_0 i_1 R h := by kernel_rfl
theorem ref5_Dev_Read_call (d_0 : Option Addr) (i_1 : Int) {R : ByteArray × Int → Heap → Prop} {h : Heap} (hx : ref5_Dev_Read d_0 i_1 R h) : CallT Try.prog 39 [.pointer d_0, .int .i64 i_1] h [.sc (.str), .sc (.int .i64)] R :=
  call_of_fnX fnsOk mixed Try.func39 (by kernel_rfl) (by rw [ref5_Dev_Read_eq]; exact hx)

/-- (*stowage/stowageref5.Dev).Write (38) -/
def ref5_Dev_Write (d_0 : Option Addr) (i_1 : Int) (b_2 : ByteArray) (R : Int → Heap → Prop) (h : Heap) : Prop :=
  nn d_0 fun a1 =>
  ldB (a1.add 3) h fun b2 =>
  cnd b2 (
  R 50 h) (
  withJ (σ := Unit) (fun s3 h5 => -- s3: 
  CallT Try.prog ref5_Dev_burn_no [.pointer d_0] h5 [.sc (.int .i64)] fun (r6 : Int) h7 =>
  cnd (r6 != 0) (
  R r6 h7) (
  nn d_0 fun a8 =>
  ldL (a8.add 1) h7 fun o9 l9 c9 =>
  newB [.int .i64 i_1, .string b_2] 108 h7 fun a10 h11 =>
  ldRow (1 * 2) a10 h11 fun cs15 =>
  app [.int .i64 0, .string (⟨#[]⟩ : ByteArray)] 108 2 24 o9 l9 c9 cs15 1 h11 fun o12 c13 h14 =>
  nn d_0 fun a16 =>
  stC (a16.add 1) (.slice o12 (l9 + 1) c13) h14 fun h17 =>
  R 0 h17)) (fun J4 =>
  withJ (σ := Bool) (fun s18 h20 => -- s18: t27
  cnd s18 (
  R 1 h20) (
  J4 () h20)) (fun J19 =>
  cnd (decide (i_1 < 0)) (
  J19 true h) (
  nn d_0 fun a21 =>
  ldL a21 h fun o22 l22 c22 =>
  cnd (decide (i_1 ≥ (l22 : Int))) (
  J19 true h) (
  J19 ((b_2.size : Int) != 256) h)))))
theorem ref5_Dev_Write_eq (d_0 : Option Addr) (i_1 : Int) (b_2 : ByteArray) (R : Int → Heap → Prop) (h : Heap) : fnX Try.prog Fns.fns Try.f38 (.s .n (.s (.s .n (.s (.s .n .n) .n)) (.j [] (.j [(27, .bool)] .n (.s (.s .n .n) .n)) (.s (.s .n (.s .n (.s (.s .n .n) .n))) (.s .n (.s .n .n)))))) [.sc (.int .i64)] [.pointer d_0, .int .i64 i_1, .string b_2] h R = ref5_Dev_Write d_0 i_1 b_2 R h := by kernel_rfl
theorem ref5_Dev_Write_call (d_0 : Option Addr) (i_1 : Int) (b_2 : ByteArray) {R : Int → Heap → Prop} {h : Heap} (hx : ref5_Dev_Write d_0 i_1 b_2 R h) : CallT Try.prog 38 [.pointer d_0, .int .i64 i_1, .string b_2] h [.sc (.int .i64)] R :=
  call_of_fnX fnsOk mixed Try.func38 (by kernel_rfl) (by rw [ref5_Dev_Write_eq]; exact hx)

/-- (*stowage/stowageref5.Dev).burn (55) -/
def ref5_Dev_burn (d_0 : Option Addr) (R : Int → Heap → Prop) (h : Heap) : Prop :=
  nn d_0 fun a1 =>
  ldI .i64 (a1.add 2) h fun n2 =>
  cnd (n2 == 0) (
  nn d_0 fun a3 =>
  stC (a3.add 3) (.bool true) h fun h4 =>
  R 50 h4) (
  withJ (σ := Unit) (fun s5 h7 => -- s5: 
  R 0 h7) (fun J6 =>
  nn d_0 fun a8 =>
  ldI .i64 (a8.add 2) h fun n9 =>
  cnd (decide (n9 > 0)) (
  nn d_0 fun a10 =>
  ldI .i64 (a10.add 2) h fun n11 =>
  nn d_0 fun a12 =>
  stC (a12.add 2) (.int .i64 (w64 (n11 - 1))) h fun h13 =>
  J6 () h13) (
  J6 () h)))
theorem ref5_Dev_burn_eq (d_0 : Option Addr) (R : Int → Heap → Prop) (h : Heap) : fnX Try.prog Fns.fns Try.f55 (.s .n (.s (.s .n (.s (.s .n (.s .n .n)) .n)) (.j [] (.s .n (.s .n .n)) (.s .n .n)))) [.sc (.int .i64)] [.pointer d_0] h R = ref5_Dev_burn d_0 R h := by kernel_rfl
theorem ref5_Dev_burn_call (d_0 : Option Addr) {R : Int → Heap → Prop} {h : Heap} (hx : ref5_Dev_burn d_0 R h) : CallT Try.prog 55 [.pointer d_0] h [.sc (.int .i64)] R :=
  call_of_fnX fnsOk mixed Try.func55 (by kernel_rfl) (by rw [ref5_Dev_burn_eq]; exact hx)

/-- stowage/stowageref5.New (37) -/
def ref5_New (n_0 : Int) (R : (Option Addr) × Int → Heap → Prop) (h : Heap) : Prop :=
  withJ (σ := Unit) (fun s1 h3 => -- s1: 
  newB [.slice none 0 0, .slice none 0 0, .int .i64 (-1), .bool false] 80 h3 fun a4 h5 =>
  CallT Try.prog ref5_blank_no [] h5 [.sc (.str)] fun (r6 : ByteArray) h7 =>
  LoopT (σ := Int) (fun X9 s8 h10 => -- s8: i
  cnd (decide (s8 < n_0)) (
  ldL a4 h10 fun o11 l11 c11 =>
  newB [.string r6] 9 h10 fun a12 h13 =>
  ldRow (1 * 1) a12 h13 fun cs17 =>
  app [.string (⟨#[]⟩ : ByteArray)] 9 1 16 o11 l11 c11 cs17 1 h13 fun o14 c15 h16 =>
  stC a4 (.slice o14 (l11 + 1) c15) h16 fun h18 =>
  X9 (w64 (s8 + 1)) h18) (
  R ((some a4), 0) h10)) 0 h7) (fun J2 =>
  withJ (σ := Bool) (fun s19 h21 => -- s19: t12
  cnd s19 (
  R (none, 1) h21) (
  J2 () h21)) (fun J20 =>
  cnd (decide (n_0 < 1)) (
  J20 true h) (
  J20 (decide (n_0 > 4096)) h)))
theorem ref5_New_eq (n_0 : Int) (R : (Option Addr) × Int → Heap → Prop) (h : Heap) : fnX Try.prog Fns.fns Try.f37 (.s .n (.j [] (.j [(12, .bool)] .n (.s (.s .n .n) .n)) (.s .n (.s .n (.s (.s .n (.b (.l [(6, .int .i64)] (.s (.s .n (.s .n .n)) (.s (.b .n) .n))))) (.s .n .n)))))) [.sc (.ptr), .sc (.int .i64)] [.int .i64 n_0] h R = ref5_New n_0 R h := by kernel_rfl
theorem ref5_New_call (n_0 : Int) {R : (Option Addr) × Int → Heap → Prop} {h : Heap} (hx : ref5_New n_0 R h) : CallT Try.prog 37 [.int .i64 n_0] h [.sc (.ptr), .sc (.int .i64)] R :=
  call_of_fnX fnsOk mixed Try.func37 (by kernel_rfl) (by rw [ref5_New_eq]; exact hx)

/-- stowage/stowageref5.blank (54) -/
def ref5_blank (R : ByteArray → Heap → Prop) (h : Heap) : Prop :=
  mkSl [.int .u8 0] 5 1 256 256 h fun a1 h2 =>
  b2s (some a1) ((256 : Int).toNat) h2 fun s3 =>
  R s3 h2
theorem ref5_blank_eq (R : ByteArray → Heap → Prop) (h : Heap) : fnX Try.prog Fns.fns Try.f54 (.s .n (.s .n .n)) [.sc (.str)] [] h R = ref5_blank R h := by kernel_rfl
theorem ref5_blank_call {R : ByteArray → Heap → Prop} {h : Heap} (hx : ref5_blank R h) : CallT Try.prog 54 [] h [.sc (.str)] R :=
  call_of_fnX fnsOk mixed Try.func54 (by kernel_rfl) (by rw [ref5_blank_eq]; exact hx)

end Go.Proofs.Ytmmoilenemogoaa
