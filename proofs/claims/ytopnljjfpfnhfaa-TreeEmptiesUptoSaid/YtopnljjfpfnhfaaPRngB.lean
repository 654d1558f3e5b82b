/- A range over a function whose rounds change some cells of the function around: the rule in short. -/
import Derived.Test.YtopnljjfpfnhfaaPRng
namespace Go.Proofs.Ytopnljjfpfnhfaa
open Go D
set_option linter.unusedVariables false
set_option linter.unusedSimpArgs false

theorem rng_cells {P : Program} {v : Value} {l : List Sc} {B : TupS l → (Ex → Heap → Prop) → Heap → Prop} {Qn Qr : Heap → Prop} {Qx : List (Nat × (Heap → Prop))} {h : Heap} {D : Nat → Prop} {xs : List (TupS l)}
    (hs : SeqC P v l h D xs) (hD : ∀ b, D b → b < h.size) (O : Nat → Prop) (hO : ∀ b, O b → ¬ D b ∧ b < h.size) (I : Ex → List (TupS l) → Heap → Prop) (h0 : I .nrm [] h)
    (stab : ∀ ex pre h2 h3, I ex pre h2 → Keep (fun b => ¬ O b ∧ h.size ≤ b) h2 h3 → I ex pre h3) (rows : ∀ ex pre h2, I ex pre h2 → ∀ b, O b → ∃ cs, Row h2 b cs)
    (body : ∀ (pre : List (TupS l)) (x : TupS l) (h4 : Heap) (Q : Ex → Heap → Prop), I .nrm pre h4 → Keep (fun b => O b ∨ h.size ≤ b) h h4 → pre ++ [x] <+: xs →
      (∀ ex h5, I ex (pre ++ [x]) h5 → Keep (fun b => O b ∨ h4.size ≤ b) h4 h5 → Q ex h5) → B x Q h4)
    (hn : ∀ h', I .nrm xs h' → Keep (fun b => O b ∨ h.size ≤ b) h h' → Qn h') (hr : ∀ pre h', I .ret pre h' → Keep (fun b => O b ∨ h.size ≤ b) h h' → Qr h')
    (hx : ∀ i pre h', I (.exit i) pre h' → Keep (fun b => O b ∨ h.size ≤ b) h h' → ∃ p ∈ Qx, p.1 = i ∧ p.2 h') (hg : ∀ i pre h', ¬ I (.goto i) pre h') :
    rngX P v l (fun s M Q h13 => M h13 fun h15 => B s Q h15) Qn Qr Qx h := by
  refine rngX_intro hs hD (fun ex pre O' hh => (∀ b, O' b ↔ O b) ∧ I ex pre hh ∧ Keep (fun b => O b ∨ h.size ≤ b) h hh) O ⟨fun b => Iff.rfl, h0, Keep.refl _ _⟩ hO ?_ ?_ ?_ ?_ ?_ ?_ ?_
  · rintro ex pre O' h2 h3 ⟨q1, q2, q3⟩ hk
    exact ⟨q1, stab _ _ _ _ q2 (hk.mono (fun b _ e => ⟨fun e2 => e.1 ((q1 b).2 e2), e.2⟩)), q3.trans hk (fun b _ e => .inr e.2)⟩
  · rintro ex pre O' h2 ⟨q1, q2, q3⟩ b hb
    obtain ⟨cs, t, lo, hi, e, _⟩ := rows _ _ _ q2 b ((q1 b).1 hb)
    rw [e]; intro c; injection c with c; cases c
  · rintro rb lb pre x O' h2 M Qb ⟨q1, q2, q3⟩ hpre hlt hlb hlb2 hlb3 hM hQ
    refine hM h2 _ (Keep.refl _ _) ?_
    intro h4 z4 k4 hrb
    have nlb : ¬ O lb := fun e => hlb ((q1 lb).2 e)
    have i4 := stab _ _ _ _ q2 (k4.mono (T := fun b => ¬ O b ∧ h.size ≤ b) (fun b _ e => by have e' : b = lb := e; subst e'; exact ⟨nlb, hlb2⟩))
    have k04 : Keep (fun b => O b ∨ h.size ≤ b) h h4 := q3.trans k4 (fun b _ e => .inr (by have e' : b = lb := e; omega))
    refine body pre x h4 (fun ex h5 => Qb ex h5) i4 k04 hpre ?_
    intro ex h5 i5 k5
    have z5 := k5.size
    refine hQ ex h5 ⟨O', ⟨q1, i5, k04.trans k5 (fun b _ e => e.imp id (fun e => by omega))⟩, ?_, ?_, ?_⟩
    · refine ⟨by omega, fun b hb hn' => ?_⟩
      rw [k5.same b (by omega) (fun e => by rcases e with e | e; exact hn' (.inl ((q1 b).2 e)); omega)]
      exact k4.same b hb (fun e => hn' (.inr e))
    · rw [k5.same lb (by omega) (fun e => by rcases e with e | e; exact nlb e; omega)]; exact hrb
    · intro b hb
      exact ⟨.inl hb, by have := hlt b hb; omega⟩
  · rintro O' h' ⟨q1, q2, q3⟩; exact hn h' q2 q3
  · rintro pre O' h' ⟨q1, q2, q3⟩; exact hr pre h' q2 q3
  · rintro i pre O' h' ⟨q1, q2, q3⟩; exact hx i pre h' q2 q3
  · rintro i pre O' h' ⟨q1, q2, q3⟩; exact hg i pre h' q2

/-- the same, where the rounds lay blocks of their own down and write to them later -/
theorem rng_grow {P : Program} {v : Value} {l : List Sc} {B : TupS l → (Ex → Heap → Prop) → Heap → Prop} {Qn Qr : Heap → Prop} {Qx : List (Nat × (Heap → Prop))} {h : Heap} {D : Nat → Prop} {xs : List (TupS l)}
    (hs : SeqC P v l h D xs) (hD : ∀ b, D b → b < h.size) (O0 : Nat → Prop) (hO : ∀ b, O0 b → ¬ D b ∧ b < h.size) (I : Ex → List (TupS l) → (Nat → Prop) → Heap → Prop) (h0 : I .nrm [] O0 h)
    (stab : ∀ ex pre O h2 h3, I ex pre O h2 → Keep (fun b => ¬ O b ∧ h.size ≤ b) h2 h3 → I ex pre O h3) (rows : ∀ ex pre O h2, I ex pre O h2 → ∀ b, O b → ∃ cs, Row h2 b cs)
    (body : ∀ (pre : List (TupS l)) (x : TupS l) (O : Nat → Prop) (h4 : Heap) (Q : Ex → Heap → Prop), I .nrm pre O h4 → Keep (fun b => O0 b ∨ h.size ≤ b) h h4 → pre ++ [x] <+: xs →
      (∀ ex O' h5, I ex (pre ++ [x]) O' h5 → Keep (fun b => O b ∨ h4.size ≤ b) h4 h5 → (∀ b, O' b → (O b ∨ h4.size ≤ b) ∧ b < h5.size) → Q ex h5) → B x Q h4)
    (hn : ∀ O h', I .nrm xs O h' → Keep (fun b => O0 b ∨ h.size ≤ b) h h' → Qn h') (hr : ∀ pre O h', I .ret pre O h' → Keep (fun b => O0 b ∨ h.size ≤ b) h h' → Qr h')
    (hx : ∀ i pre O h', I (.exit i) pre O h' → Keep (fun b => O0 b ∨ h.size ≤ b) h h' → ∃ p ∈ Qx, p.1 = i ∧ p.2 h') (hg : ∀ i pre O h', ¬ I (.goto i) pre O h') :
    rngX P v l (fun s M Q h13 => M h13 fun h15 => B s Q h15) Qn Qr Qx h := by
  refine rngX_intro hs hD (fun ex pre O' hh => (∀ b, O' b → O0 b ∨ h.size ≤ b) ∧ I ex pre O' hh ∧ Keep (fun b => O0 b ∨ h.size ≤ b) h hh) O0 ⟨fun b hb => .inl hb, h0, Keep.refl _ _⟩ hO ?_ ?_ ?_ ?_ ?_ ?_ ?_
  · rintro ex pre O' h2 h3 ⟨q1, q2, q3⟩ hk
    exact ⟨q1, stab _ _ _ _ _ q2 hk, q3.trans hk (fun b _ e => .inr e.2)⟩
  · rintro ex pre O' h2 ⟨q1, q2, q3⟩ b hb
    obtain ⟨cs, t, lo, hi, e, _⟩ := rows _ _ _ _ q2 b hb
    rw [e]; intro c; injection c with c; cases c
  · rintro rb lb pre x O' h2 M Qb ⟨q1, q2, q3⟩ hpre hlt hlb hlb2 hlb3 hM hQ
    refine hM h2 _ (Keep.refl _ _) ?_
    intro h4 z4 k4 hrb
    have i4 := stab _ _ _ _ _ q2 (k4.mono (T := fun b => ¬ O' b ∧ h.size ≤ b) (fun b _ e => by have e' : b = lb := e; subst e'; exact ⟨hlb, hlb2⟩))
    have k04 : Keep (fun b => O0 b ∨ h.size ≤ b) h h4 := q3.trans k4 (fun b _ e => .inr (by have e' : b = lb := e; omega))
    refine body pre x O' h4 (fun ex h5 => Qb ex h5) i4 k04 hpre ?_
    intro ex O2 h5 i5 k5 gr
    have z5 := k5.size
    refine hQ ex h5 ⟨O2, ⟨fun b hb => ?_, i5, k04.trans k5 (fun b _ e => ?_)⟩, ?_, ?_, ?_⟩
    · rcases (gr b hb).1 with e | e
      · exact q1 b e
      · exact .inr (by have := q3.size; omega)
    · rcases e with e | e
      · exact q1 b e
      · exact .inr (by have := q3.size; omega)
    · refine ⟨by omega, fun b hb hn' => ?_⟩
      rw [k5.same b (by omega) (fun e => by rcases e with e | e; exact hn' (.inl e); omega)]
      exact k4.same b hb (fun e => hn' (.inr e))
    · rw [k5.same lb (by omega) (fun e => by rcases e with e | e; exact hlb e; omega)]; exact hrb
    · intro b hb
      refine ⟨(gr b hb).1.imp id (fun e => by omega), (gr b hb).2⟩
  · rintro O' h' ⟨q1, q2, q3⟩; exact hn O' h' q2 q3
  · rintro pre O' h' ⟨q1, q2, q3⟩; exact hr pre O' h' q2 q3
  · rintro i pre O' h' ⟨q1, q2, q3⟩; exact hx i pre O' h' q2 q3
  · rintro i pre O' h' ⟨q1, q2, q3⟩; exact hg i pre O' h' q2
end Go.Proofs.Ytopnljjfpfnhfaa
