/- A range over a function, on the heap's side: what an iterator owes, and what the loop around it gives. -/
import Derived.Test.YtopnljjfpfnhfaaXBytes
namespace Go.Proofs.Ytopnljjfpfnhfaa
open Go D
set_option linter.unusedVariables false
set_option linter.unusedSimpArgs false

theorem CallT.mono {P : Program} {f : FuncId} {args : List Value} {h : Heap} {l : List Sh} {K K' : Tup l → Heap → Prop} (hc : CallT P f args h l K) (hk : ∀ s h', K s h' → K' s h') : CallT P f args h l K' := fun w hw =>
  (hc w hw).mono (fun e w' ⟨os, s, e1, k⟩ => ⟨os, s, e1, hk s _ k⟩)
theorem YldT.mono {P : Program} {y : Nat} {args : List Value} {h : Heap} {K K' : Bool → Heap → Prop} (hc : YldT P y args h K) (hk : ∀ b h', K b h' → K' b h') : YldT P y args h K' := fun w hw => by
  obtain ⟨fn, tmps, a, b, h1, h2⟩ := hc w hw
  exact ⟨fn, tmps, a, b, h1, h2.mono (fun e w' ⟨os, b, e1, k⟩ => ⟨os, b, e1, hk b _ k⟩)⟩

/-- the blocks that a round may write to, grown: new ones alone come to them -/
def Grow (O O' : Nat → Prop) (h h' : Heap) : Prop := ∀ b, O' b → (O b ∨ h.size ≤ b) ∧ b < h'.size
/-- v's iterator gives xs: J g pre O: pre has come, g: on with it; O are the blocks of the rounds. D: what the iterator reads -/
def SeqC (P : Program) (v : Value) (l : List Sc) (h : Heap) (D : Nat → Prop) (xs : List (TupS l)) : Prop :=
  ∃ f first captured, v = .func (.func f) first captured ∧ bodyB P f = true ∧ shsOf P f = [] ∧
    ∀ (y : Nat) (J : Bool → List (TupS l) → (Nat → Prop) → Heap → Prop) (O : Nat → Prop) (h1 : Heap), Keep (fun b => ¬ D b) h h1 →
      (∀ g pre O h2 h3, J g pre O h2 → Keep (fun b => ¬ O b ∧ h1.size ≤ b) h2 h3 → J g pre O h3) → (∀ g pre O h2, J g pre O h2 → ∀ b, O b → h2[b]? ≠ some (.deferred (some []))) → J true [] O h1 → (∀ b, O b → ¬ D b ∧ b < h1.size) →
      (∀ pre x O h2, J true pre O h2 → pre ++ [x] <+: xs → YldT P y (mkS l x) h2 fun b h3 => ∃ O', J b (pre ++ [x]) O' h3 ∧ Keep O h2 h3 ∧ Grow O O' h2 h3) →
      CallT P f (first.toList ++ [.func (.yield y) #[] #[]] ++ captured.toList) h1 [] fun _ h4 => ∃ g pre O', J g pre O' h4 ∧ (g = true → pre = xs)

theorem keep_set {h : Heap} {k : Nat} {o : Obj} : Keep (· = k) h (h.setIfInBounds k o) := ⟨by simp, fun b hb hn => Array.getElem?_setIfInBounds_ne (fun e => hn e.symm)⟩

theorem shut_keep {lo : Nat} {h h' : Heap} {O : Nat → Prop} (hz : h'.size = h.size) (hs : ∀ b : Nat, h'[b]? = h[b]? ∨ (lo ≤ b ∧ h[b]? = some (.deferred (some [])) ∧ h'[b]? = some (.deferred none))) (hO : ∀ b, O b → h[b]? ≠ some (.deferred (some []))) : Keep (fun b => ¬ O b ∧ lo ≤ b) h h' := by
  refine ⟨by omega, fun b hb hn => ?_⟩
  rcases hs b with e | ⟨e1, e2, _⟩
  · exact e
  · exact absurd ⟨fun ho => hO b ho e2, e1⟩ hn
/-- the loop -/
theorem rngX_intro {P : Program} {v : Value} {l : List Sc} {rnd : TupS l → (Heap → (Heap → Prop) → Prop) → (Ex → Heap → Prop) → Heap → Prop} {Qn Qr : Heap → Prop} {Qx : List (Nat × (Heap → Prop))} {h : Heap} {D : Nat → Prop} {xs : List (TupS l)}
    (hs : SeqC P v l h D xs) (hD : ∀ b, D b → b < h.size) (I : Ex → List (TupS l) → (Nat → Prop) → Heap → Prop) (O : Nat → Prop) (h0 : I .nrm [] O h) (hO : ∀ b, O b → ¬ D b ∧ b < h.size)
    (stab : ∀ ex pre O h2 h3, I ex pre O h2 → Keep (fun b => ¬ O b ∧ h.size ≤ b) h2 h3 → I ex pre O h3) (ndf : ∀ ex pre O h2, I ex pre O h2 → ∀ b, O b → h2[b]? ≠ some (.deferred (some [])))
    (body : ∀ (rb : Obj) (lb : Nat) (pre : List (TupS l)) (x : TupS l) (O : Nat → Prop) (h2 : Heap) (M : Heap → (Heap → Prop) → Prop) (Qb : Ex → Heap → Prop), I .nrm pre O h2 → pre ++ [x] <+: xs → (∀ b, O b → b < h2.size) → ¬ O lb → h.size ≤ lb → lb < h2.size →
      (∀ (h3 : Heap) (K : Heap → Prop), Keep O h2 h3 → (∀ h4, h4.size = h3.size → Keep (· = lb) h3 h4 → h4[lb]? = some rb → K h4) → M h3 K) →
      (∀ ex h5, (∃ O', I ex (pre ++ [x]) O' h5 ∧ Keep (fun b => O b ∨ b = lb) h2 h5 ∧ h5[lb]? = some rb ∧ Grow O O' h2 h5) → Qb ex h5) → rnd x M Qb h2)
    (hn : ∀ O h', I .nrm xs O h' → Qn h') (hr : ∀ pre O h', I .ret pre O h' → Qr h') (hx : ∀ i pre O h', I (.exit i) pre O h' → ∃ p ∈ Qx, p.1 = i ∧ p.2 h') (hg : ∀ i pre O h', ¬ I (.goto i) pre O h') : rngX P v l rnd Qn Qr Qx h := by
  obtain ⟨f, first, captured, e1, e2, e3, hc⟩ := hs
  refine ⟨f, first, captured, e1, e2, e3, fun r hY => ?_⟩
  have k1 : Keep (fun _ => False) h ((h.push (.deferred (some []))).push (recO r .ready none)) := ⟨by simp; omega, fun b hb _ => by rw [Array.getElem?_push, if_neg (by simp; omega), Array.getElem?_push, if_neg (by omega)]⟩
  have hrec : ((h.push (.deferred (some []))).push (recO r .ready none))[h.size + 1]? = some (recO r .ready none) := by rw [Array.getElem?_push, if_pos (by simp)]
  have hsz : ((h.push (.deferred (some []))).push (recO r .ready none)).size = h.size + 2 := by simp
  generalize (h.push (.deferred (some []))).push (recO r .ready none) = hA at k1 hrec hsz
  have st : ∀ {ex pre O h2 h3} {S : Nat → Prop}, I ex pre O h2 → Keep S h2 h3 → (∀ b, S b → ¬ O b ∧ h.size ≤ b) → I ex pre O h3 := fun hi hk hS => stab _ _ _ _ _ hi (hk.mono (fun b _ hb => hS b hb))
  refine CallT.mono (hc (h.size + 1) (fun g pre O' hh => ∃ O0 ex, (∀ b, O' b ↔ O0 b ∨ b = h.size + 1) ∧ nrmB ex = g ∧ hh[h.size + 1]? = some (recO r (match nrmB ex with | true => .ready | false => .done) (jumpC ex)) ∧ (∀ b, O0 b → b < hh.size) ∧ ¬ O0 (h.size + 1) ∧ I ex pre O0 hh)
    (fun b => O b ∨ b = h.size + 1) hA (k1.mono (fun _ _ h => h.elim)) ?_ ?_ ?_ ?_ ?_) ?_
  · rintro g pre O' h2 h3 ⟨O0, ex, q1, q2, q3, q4, q5, q6⟩ hk
    have hlt := (Array.getElem?_eq_some_iff.1 q3).1
    refine ⟨O0, ex, q1, q2, ?_, fun b hb => by have := q4 b hb; have := hk.size; omega, q5, st q6 hk (fun b hb => ⟨fun hb2 => hb.1 ((q1 b).2 (.inl hb2)), by omega⟩)⟩
    rw [hk.same _ hlt (fun hb => hb.1 ((q1 _).2 (.inr rfl)))]
    exact q3
  · rintro g pre O' h2 ⟨O0, ex, q1, q2, q3, q4, q5, q6⟩ b hb
    rcases (q1 b).1 hb with hb | rfl
    · exact ndf _ _ _ _ q6 b hb
    · rw [q3]; intro e; injection e with e; cases e
  · exact ⟨O, .nrm, fun b => Iff.rfl, rfl, hrec, fun b hb => by have := (hO b hb).2; omega, fun hb => by have := (hO _ hb).2; omega, st h0 k1 (fun b hb => hb.elim)⟩
  · rintro b (hb | rfl)
    · exact ⟨(hO b hb).1, by have := (hO b hb).2; omega⟩
    · exact ⟨fun hd => by have := hD _ hd; omega, by omega⟩
  · rintro pre x O' h2 ⟨O0, ex, q1, q2, q3, q4, q5, q6⟩ hpre
    have hex : ex = .nrm := by cases ex <;> first | rfl | cases q2
    subst hex
    have hlt := (Array.getElem?_eq_some_iff.1 q3).1
    refine hY x h2 _ q3 (body (recO r .busy none) (h.size + 1) pre x O0 h2 _ _ q6 hpre q4 q5 (by omega) hlt ?_ ?_)
    · intro h3 K hk hK
      have e : h3[h.size + 1]? = some (recO r .ready none) := by rw [hk.same _ hlt q5]; exact q3
      exact ⟨e, hK _ (by simp) keep_set (by simp [(Array.getElem?_eq_some_iff.1 e).1])⟩
    · rintro ex h5 ⟨O2, i2, kp, rb, gr⟩
      refine ⟨rb, fun b => O2 b ∨ b = h.size + 1, ⟨O2, ex, fun b => Iff.rfl, rfl, ?_, ?_, ?_, ?_⟩, ?_, ?_⟩
      · have := (Array.getElem?_eq_some_iff.1 rb).1
        have e : ∀ o : Obj, (h5.setIfInBounds (h.size + 1) o)[h.size + 1]? = some o := fun o => by simp [this]
        rw [e]; cases ex <;> rfl
      · intro b hb; rw [Array.size_setIfInBounds]; exact (gr b hb).2
      · intro hb
        rcases (gr _ hb).1 with h1 | h1
        · exact q5 h1
        · omega
      · refine st i2 keep_set (fun b hb => ⟨fun hb2 => ?_, by omega⟩)
        subst hb
        rcases (gr _ hb2).1 with h1 | h1
        · exact q5 h1
        · omega
      · refine (kp.trans keep_set (fun b _ e => .inr e)).mono (fun b _ hb => (q1 b).2 hb)
      · intro b hb
        rw [Array.size_setIfInBounds]
        rcases hb with hb | rfl
        · exact ⟨(gr b hb).1.imp (fun h => (q1 b).2 (.inl h)) id, (gr b hb).2⟩
        · exact ⟨.inl ((q1 _).2 (.inr rfl)), (Array.getElem?_eq_some_iff.1 rb).1⟩
  · rintro _ h4 ⟨g, pre, O', ⟨O0, ex, q1, q2, q3, q4, q5, q6⟩, hpre⟩
    have fin : ∀ o, I ex pre O0 (h4.setIfInBounds (h.size + 1) o) := fun o => st q6 keep_set (fun b hb => ⟨fun hb2 => by subst hb; exact q5 hb2, by omega⟩)
    cases ex with
    | nrm =>
      have e := hpre q2.symm
      subst e
      exact .inl ⟨q3, hn _ _ (fin _)⟩
    | ret => exact .inr (.inl ⟨q3, hr _ _ _ (fin _)⟩)
    | exit i =>
      obtain ⟨p, hp, rfl, hk⟩ := hx _ _ _ _ (fin (recO r .exhausted (some (.exit i))))
      exact .inr (.inr ⟨p, hp, q3, hk⟩)
    | goto i => exact (hg _ _ _ _ q6).elim
end Go.Proofs.Ytopnljjfpfnhfaa
