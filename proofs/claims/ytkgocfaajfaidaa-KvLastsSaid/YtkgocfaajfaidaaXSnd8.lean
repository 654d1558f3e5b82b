/- Soundness of regions that draw their order. -/
import Derived.Test.YtkgocfaajfaidaaXSnd7
namespace Go.Proofs.Ytkgocfaajfaidaa.D
open Go
set_option linter.unusedVariables false
set_option linter.unusedSimpArgs false

section
variable {P : Program} {ops : Array Oper} {Q : Exit → Act → World → Prop} {ro : Option Nat}
theorem noDefer_cons {o : Oper} {r : List Oper} (h : noDefer (o :: r) = true) : (∀ c, o.op ≠ .defer c) ∧ noDefer r = true := by
  constructor
  · intro c e
    have h2 : (match o.op with | .defer _ => false | _ => noDefer r) = true := h
    rw [e] at h2
    cases h2
  · have h2 : (match o.op with | .defer _ => false | _ => noDefer r) = true := h
    generalize o.op = q at h2
    cases q <;> first | exact h2 | cases h2
theorem noDefer_spec {l : List Oper} (h : noDefer l = true) : ∀ o ∈ l, ∀ c, o.op ≠ .defer c := by
  induction l with
  | nil => intro o ho; cases ho
  | cons q r ih =>
    obtain ⟨h1, h2⟩ := noDefer_cons h
    intro o ho
    rcases List.mem_cons.1 ho with rfl | ho
    · exact h1
    · exact ih h2 o ho

/-- in this state operation o leaves v in its slot, and the world alone -/
def Yl (P : Program) (ops : Array Oper) (o : Oper) (v : Value) (a : Act) (w : World) : Prop :=
  (Region.wanted o (yielded ops a.tmps) = true ∧ (execOp a.eval o).run P w = .ok (.value v) w) ∨
  (Region.wanted o (yielded ops a.tmps) = false ∧ v = undef)

theorem Yl.wpOp {i : Nat} {o : Oper} {v : Value} {a : Act} {w : World} (hnd : ∀ c, o.op ≠ .defer c) (hi : ops[i]? = some o) (hy : Yl P ops o v a w) {K : Act → World → Prop} (h : K (a.put o.dst v) w) : wpOpIn (Wf ro) 0 P ops Q i K a w := by
  unfold Go.wpOpIn
  simp only [hi]
  rcases hy with ⟨hw, hv⟩ | ⟨hw, rfl⟩
  · simp only [hw, if_true]
    refine wpIn_of hnd ?_
    rw [hv]; exact h
  · simp only [hw, Bool.false_eq_true, if_false]; exact ⟨fun _ _ => trivial, h⟩

/-- another slot makes no difference -/
theorem Yl.put {o : Oper} {v u : Value} {a : Act} {w : World} {dst : Option Tmp} (hs : ∀ cs b, o.op ≠ .select cs b) (h : ∀ d, dst = some d → d ∉ o.looksAt ops) :
    Yl P ops o v (a.put dst u) w ↔ Yl P ops o v a w := by
  unfold Yl
  rw [execOp_put o hs a dst u h, wanted_put o a dst u h]

theorem wpOp_put' {j : Nat} {oi oj : Oper} {v : Value} (hnd : ∀ c, oj.op ≠ .defer c) (hj : ops[j]? = some oj) (hap : oi.apart ops oj = true)
    (hsj : ∀ cs b, oj.op ≠ .select cs b) (hQ : ∀ c a w, ¬ Q (.panic c) a w) {K : Act → World → Prop} {a : Act} {w : World}
    (h : wpOpIn (Wf ro) 0 P ops Q j K (a.put oi.dst v) w) : wpOpIn (Wf ro) 0 P ops Q j (fun a' w' => K (a'.put oi.dst v) w') a w := by
  obtain ⟨h1, h2, h3⟩ := Oper.apart_spec hap
  unfold wpOpIn at *
  simp only [hj] at *
  rw [wanted_put oj a oi.dst v h1] at h
  split
  · rename_i hw
    simp only [hw, if_true] at h
    refine wpIn_of hnd ?_
    have h := h.2
    rw [show oj.semAt (Wf ro).round (a.put oi.dst v).eval = execOp (a.put oi.dst v).eval oj from Oper.semAt_eq _ _ _ hnd, execOp_put oj hsj a oi.dst v h1] at h
    generalize (execOp a.eval oj).run P w = r at *
    cases r with
    | ok n w' =>
      cases n <;> simp only [Oper.uponIn] at h ⊢
      case value u => rw [← Act.put_comm a v u h2]; exact h
      case skip => rw [← Act.put_comm a v undef h2]; exact h
      case defer d =>
        rw [← Act.put_comm _ v undef h2, ← Act.put_defers]
        exact h
      case enter f args =>
        refine ⟨h.1, CallsIn.mono h.2 fun e w'' he => ?_⟩
        cases e with
        | returned u => show K ((a.put oj.dst u).put oi.dst v) w''; rw [← Act.put_comm a v u h2]; exact he
        | panicked c => exact absurd he (hQ _ _ _)
        | outgrown => exact he
      case row row args => exact ⟨h.1, RowsIn.mono h.2 fun u w'' he => by rw [← Act.put_comm a v u h2]; exact he⟩
      case round l f tmps assign body =>
        refine ⟨h.1, RoundIn.mono h.2 fun e w'' he => ?_⟩
        cases e with
        | returned u => show K ((a.put oj.dst u).put oi.dst v) w''; rw [← Act.put_comm a v u h2]; exact he
        | panicked c => exact absurd he (hQ _ _ _)
        | outgrown => exact he
    | halt x w' =>
      cases x <;> simp only [Oper.uponIn] at h ⊢
      case panic u => exact absurd h (hQ _ _ _)
  · rename_i hw
    simp only [hw] at h
    rw [← Act.put_comm a v undef h2]; exact ⟨fun _ _ => trivial, h.2⟩

def YlAt (P : Program) (ops : Array Oper) (p : Nat × Value) (a : Act) (w : World) : Prop := ∃ o, ops[p.1]? = some o ∧ Yl P ops o p.2 a w

def keepP (b : Nat) (L : List (Nat × Value)) : List (Nat × Value) := L.filter fun p => !b.testBit p.1

/-- any order from here on, and what the operations in L yield stays as it is until one comes that waits for them -/
def wpAnyI (ro : Option Nat) (P : Program) (ops : Array Oper) (cl : List Nat) (Q : Exit → Act → World → Prop) : Nat → List (Nat × Value) → Array Bool → Act → World → Prop
  | 0, _, listed, a, w => Region.ready .any ops listed = [] ∧ Q .normal a w
  | fuel + 1, L, listed, a, w =>
    (Region.ready .any ops listed = [] → Q .normal a w) ∧
    ∀ j ∈ Region.ready .any ops listed, wpOpIn (Wf ro) 0 P ops Q j (fun a' w' => (∀ p ∈ keepP (cl.getD j 0) L, YlAt P ops p a' w') ∧ wpAnyI ro P ops cl Q fuel (keepP (cl.getD j 0) L) (listed.setIfInBounds j true) a' w') a w

theorem wpAnyI_any {cl : List Nat} : ∀ {fuel : Nat} {L : List (Nat × Value)} {listed : Array Bool} {a : Act} {w : World}, wpAnyI ro P ops cl Q fuel L listed a w → wpAnyIn (Wf ro) 0 P .any ops Q fuel listed a w
  | 0, _, _, _, _, h => h
  | fuel + 1, _, _, _, _, h => ⟨h.1, fun i hi => wpOpIn_mono (fun _ _ k => wpAnyI_any k.2) (h.2 i hi)⟩

theorem wpAnyI_sub {cl : List Nat} : ∀ {fuel : Nat} {L L' : List (Nat × Value)} {listed : Array Bool} {a : Act} {w : World}, (∀ p ∈ L', p ∈ L) → wpAnyI ro P ops cl Q fuel L listed a w → wpAnyI ro P ops cl Q fuel L' listed a w
  | 0, _, _, _, _, _, _, h => h
  | fuel + 1, L, L', _, _, _, hs, h => by
    refine ⟨h.1, fun i hi => wpOpIn_mono (fun a' w' k => ?_) (h.2 i hi)⟩
    have hs' : ∀ p ∈ keepP (cl.getD i 0) L', p ∈ keepP (cl.getD i 0) L := fun p hp => by
      unfold keepP at hp ⊢
      rw [List.mem_filter] at hp ⊢
      exact ⟨hs p hp.1, hp.2⟩
    exact ⟨fun p hp => k.1 p (hs' p hp), wpAnyI_sub hs' k.2⟩

/-- whoever is listed, what it waits for is listed -/
def Closed (ops : Array Oper) (listed : Array Bool) : Prop := ∀ j o, ops[j]? = some o → listed.getD j true = true → ∀ e ∈ o.after, Region.binds .any e = true → listed.getD e.on false = true

theorem Closed.step {listed : Array Bool} (h : Closed ops listed) {i : Nat} (hi : i ∈ Region.ready .any ops listed) : Closed ops (listed.setIfInBounds i true) := by
  intro j o ho hl e he hb
  by_cases hij : i = j
  · subst hij
    obtain ⟨_, o', ho', hall⟩ := mem_ready.1 hi
    rw [ho] at ho'; injection ho' with ho'; subst ho'
    exact getD_set_true (hall e he hb)
  · rw [getD_set_ne true hij] at hl
    exact getD_set_true (h j o ho hl e he hb)

/-- 'cl' tells for whom an operation waits (at most) -/
def ClosOk (ops : Array Oper) (cl : List Nat) : Prop := ∀ listed, Closed ops listed → listed.size = ops.size → ∀ j, j ∈ Region.ready .any ops listed → ∀ i, (cl.getD j 0).testBit i = true → listed.getD i false = true

theorem wpAnyI_first {cl : List Nat} (hcl : ClosOk ops cl) {i : Nat} {oi : Oper} {v : Value} (hi : ops[i]? = some oi) (hsel : ∀ (j : Nat) (o : Oper) cs b, ops[j]? = some o → o.op ≠ .select cs b) (hnd : ∀ (j : Nat) (o : Oper) c, ops[j]? = some o → o.op ≠ .defer c)
    (hself : ∀ d, oi.dst = some d → d ∉ oi.looksAt ops) (hQ : ∀ c a w, ¬ Q (.panic c) a w) :
    ∀ (fuel : Nat) (L : List (Nat × Value)) (listed : Array Bool) (a : Act) (w : World), Closed ops listed → listed.size = ops.size →
      (∀ j oj, ops[j]? = some oj → j ≠ i → listed.getD j true = false → (∀ e ∈ oj.after, Region.binds .any e = true → e.on ≠ i) → oi.apart ops oj = true) →
      i ∈ Region.ready .any ops listed → Yl P ops oi v a w →
      (∀ p ∈ L, ∀ o, ops[p.1]? = some o → ∀ d, oi.dst = some d → d ∉ o.looksAt ops) →
      (∀ p ∈ L, YlAt P ops p (a.put oi.dst v) w) →
      wpAnyI ro P ops cl Q fuel ((i, v) :: L) (listed.setIfInBounds i true) (a.put oi.dst v) w → wpAnyI ro P ops cl Q (fuel + 1) L listed a w := by
  intro fuel
  induction fuel with
  | zero =>
    intro L listed a w hclosed hsz hfree hr hy hfresh hL H
    refine ⟨fun h => (by rw [h] at hr; cases hr), fun j hj => ?_⟩
    by_cases hji : j = i
    · subst hji
      refine hy.wpOp (fun c => hnd _ _ c hi) hi ⟨fun p hp => hL p (List.mem_filter.1 hp).1, ?_⟩
      exact wpAnyI_sub (fun p hp => List.mem_cons_of_mem _ (List.mem_filter.1 hp).1) H
    · have := ready_mono hj hji
      rw [H.1] at this
      cases this
  | succ fuel ih =>
    intro L listed a w hclosed hsz hfree hr hy hfresh hL H
    refine ⟨fun h => (by rw [h] at hr; cases hr), fun j hj => ?_⟩
    by_cases hji : j = i
    · subst hji
      refine hy.wpOp (fun c => hnd _ _ c hi) hi ⟨fun p hp => hL p (List.mem_filter.1 hp).1, ?_⟩
      exact wpAnyI_sub (fun p hp => List.mem_cons_of_mem _ (List.mem_filter.1 hp).1) H
    · have h1 := H.2 j (ready_mono hj hji)
      obtain ⟨hjun, oj, hoj, hall⟩ := mem_ready.1 hj
      have hilt : i < ops.size := (Array.getElem?_eq_some_iff.1 hi).1
      have hiun : listed.getD i false = false := by
        have h0 := (mem_ready.1 hr).1
        simp [show i < listed.size by omega] at h0 ⊢
        exact h0
      have hnot : ∀ e ∈ oj.after, Region.binds .any e = true → e.on ≠ i := fun e he hb heq => by
        have h1 := hall e he hb
        rw [heq, hiun] at h1
        cases h1
      have hnw : (cl.getD j 0).testBit i = false := by
        cases hb : (cl.getD j 0).testBit i with
        | false => rfl
        | true => have := hcl listed hclosed hsz j hj i hb; rw [hiun] at this; cases this
      have hap := hfree j oj hoj hji hjun hnot
      have hap3 := (Oper.apart_spec hap).2.2
      have h2 := wpOp_put' (fun c => hnd j oj c hoj) hoj hap (fun cs b => hsel j oj cs b hoj) hQ h1
      have hkeep : keepP (cl.getD j 0) ((i, v) :: L) = (i, v) :: keepP (cl.getD j 0) L := by
        unfold keepP
        rw [List.filter_cons_of_pos (by show (!(cl.getD j 0).testBit i) = true; rw [hnw]; rfl)]
      rw [hkeep] at h2
      have hfree' : ∀ k ok, ops[k]? = some ok → k ≠ i → (listed.setIfInBounds j true).getD k true = false →
          (∀ e ∈ ok.after, Region.binds .any e = true → e.on ≠ i) → oi.apart ops ok = true := fun k ok hk hki hun hno => by
        refine hfree k ok hk hki ?_ hno
        by_cases hjk : j = k
        · subst hjk; exact hjun
        · rw [getD_set_ne true hjk] at hun; exact hun
      refine wpOpIn_mono (fun a' w' h3 => ?_) h2
      obtain ⟨h4, h5⟩ := h3
      have hy' : Yl P ops oi v a' w' := by
        obtain ⟨o, ho, hyo⟩ := h4 (i, v) (by simp)
        rw [hi] at ho; injection ho with ho; subst ho
        exact (Yl.put (fun cs b => hsel i oi cs b hi) hself).1 hyo
      have hfresh' : ∀ p ∈ keepP (cl.getD j 0) L, ∀ o, ops[p.1]? = some o → ∀ d, oi.dst = some d → d ∉ o.looksAt ops := fun p hp => hfresh p (List.mem_filter.1 hp).1
      have hL' : ∀ p ∈ keepP (cl.getD j 0) L, YlAt P ops p (a'.put oi.dst v) w' := fun p hp => h4 p (List.mem_cons_of_mem _ hp)
      refine ⟨fun p hp => ?_, ?_⟩
      · obtain ⟨o, ho, hyo⟩ := hL' p hp
        exact ⟨o, ho, (Yl.put (fun cs b => hsel p.1 o cs b ho) (hfresh' p hp o ho)).1 hyo⟩
      · refine ih (keepP (cl.getD j 0) L) (listed.setIfInBounds j true) a' w' (hclosed.step hj) (by simpa using hsz) hfree' (ready_mono hr (Ne.symm hji)) hy' hfresh' hL' ?_
        rw [Array.setIfInBounds_comm _ _ hji]
        exact h5

end
end Go.Proofs.Ytkgocfaajfaidaa.D
