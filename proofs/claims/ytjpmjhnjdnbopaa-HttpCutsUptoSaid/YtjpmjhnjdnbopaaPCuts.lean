/- HttpCuts. -/
import Derived.Test.YtjpmjhnjdnbopaaPMono
import Derived.Test.YtjpmjhnjdnbopaaPStep
namespace Go.Proofs.Ytjpmjhnjdnbopaa
open Go D
set_option linter.unusedVariables false
set_option linter.unusedSimpArgs false

theorem httpCuts_spec {h : Heap} {x0 : Sl} {bs : List UInt8} {at_ : Int} (hg : MaxG h) (hb : Rb h x0.a x0.len bs) (hc : x0.len ≤ x0.cap) (hbl : x0.len ≤ 1000000000) {R : Bool → Heap → Prop} (hR : ∀ h', Nw h h' → R true h') :
    CallT Try.prog 3 [.slice x0.a x0.len x0.cap, .int .i64 at_] h [.sc .bool] R := by
  have hcall := law16_HttpCuts_call (x_0 := x0) (x_1 := at_) (R := R) (h := h)
  apply hcall
  unfold law16_HttpCuts
  have hlen := hb.len
  have aw : ∀ {h'} {K : Bool → Heap → Prop}, Nw h h' → (∀ h2, Nw h h2 → K true h2) → CallT Try.prog law16_awake_no [] h' [.sc .bool] K := fun k hK => awake_spec (hg.nw k) (fun h2 k2 => hK h2 (k.trans' k2))
  refine withJ.intro (fun _ h' => h' = h ∧ 0 ≤ at_ ∧ at_ ≤ x0.len) ?_ ?_
  · rintro _ h' ⟨rfl, p1, p2⟩
    refine parse_all hb hbl hg ?_
    intro s h5 st1 k5
    refine lay9_spec (t := 29) ?_
    intro h6 r6 k6
    have K6 := k5.trans' k6
    refine Rb.sub (hb.keep0 K6) (Int.le_refl 0) p1 p2 (by omega) (by omega) ?_
    intro a' rb' _
    have e1 : (at_ - 0).toNat = at_.toNat := by omega
    rw [e1] at rb' ⊢
    have e2 : (bs.drop (0 : Int).toNat).take at_.toNat = bs.take at_.toNat := rfl
    rw [e2] at rb'
    refine parse_all (x0 := ⟨a', at_.toNat, _⟩) rb' (by show at_.toNat ≤ _; omega) (hg.nw K6) ?_
    intro t h7 st2 k7
    refine lay9_spec (t := 29) ?_
    intro h8 r8 k8
    have K68 := k7.trans' k8
    have K8 := K6.trans' K68
    have R6 := K68.row r6 (fun h => h)
    obtain ⟨m1, m2, m3⟩ := requestF_app (a := bs.take at_.toNat) (b := bs.drop at_.toNat)
    rw [List.take_append_drop] at m1 m2 m3
    have tl : (bs.take at_.toNat).length = at_.toNat := by rw [List.length_take]; omega
    simp only [add_mk]
    cases ht : requestF (bs.take at_.toNat) with
    | ok y =>
      obtain ⟨rq, n⟩ := y
      have hs := m1 _ ht
      have hn := requestF_le ht
      obtain ⟨a1, b1, rfl, sm, o1, o2, d⟩ := st1.ok hs
      obtain ⟨a2, b2, rfl, _, o3, o4, d2⟩ := st2.ok ht
      have R6' := R6
      unfold row9 at R6 r8
      refine ldI_row (o := 0) r8 rfl (cnd_f rfl (cnd_t rfl ?_))
      refine withJ.intro (fun (q : Bool) h' => q = true ∧ Nw h' h' ∧ Nw h5 h' ) (fun q h' hh => ?_) ?_
      · obtain ⟨rfl, _, k⟩ := hh
        exact hR h' (k5.trans' k)
      · intro J hJ
        refine ldI_row (o := 0) R6 rfl (cnd_t rfl ?_)
        refine ldI_row (o := 0 + 1) R6 rfl (ldI_row (o := 0 + 1) r8 rfl (cnd_t (by simp [stOk]) ?_))
        refine ldI_row (o := 0 + 1) r8 rfl (cnd_t (decide_eq_true (by show (n : Int) ≤ at_; omega)) ?_)
        refine ldS_row (o := 0 + 2) R6 rfl (ldS_row (o := 0 + 2 + 1) R6 rfl (ldL_row (o := 0 + 2 + 2) R6 rfl (ldL_row (o := 0 + 2 + 3) R6 rfl ?_)))
        refine ldS_row (o := 0 + 2) r8 rfl (ldS_row (o := 0 + 2 + 1) r8 rfl (ldL_row (o := 0 + 2 + 2) r8 rfl (ldL_row (o := 0 + 2 + 3) r8 rfl ?_)))
        have H1 := SlR.hds (o1.nw (k6.trans' K68)).sl
        refine same_spec (a1 := a1) (b1 := b1) (a2 := a2) (b2 := b2) (hs1 := rq.hs) (hs2 := rq.hs) (bd1 := rq.body) (bd2 := rq.body) H1 ((o2.nw (k6.trans' K68)).rv) (SlR.hds (o3.nw k8).sl) ((o4.nw k8).rv) (by have := H1.1; have := sm.1; omega) ?_
        intro h9 k9
        refine cnd_t (decide_eq_true ⟨rfl, rfl, rfl, rfl⟩) ?_
        have R9 := k9.row R6 (fun h => h)
        have r9 := k9.row r8 (fun h => h)
        refine ldB_row (o := 0 + 7) R9 rfl (ldB_row (o := 0 + 7) r9 rfl (cnd_t (by simp [stOk]) ?_))
        refine ldB_row (o := 0 + 8) R9 rfl (ldB_row (o := 0 + 8) r9 rfl (cnd_t (by simp [stOk]) ?_))
        refine awake_spec (hg.nw (K8.trans' k9)) (fun h2 k2 => hJ _ _ ⟨rfl, .refl _ _, ((k6.trans' K68).trans' k9).trans' k2⟩)
    | error f =>
      by_cases hf : f = 0
      · subst hf
        rw [st2.more ht] at r8
        unfold row9 at r8
        refine ldI_row (o := 0) r8 rfl (cnd_t rfl ?_)
        refine withJ.intro (fun (q : Bool) h' => q = true ∧ Nw h5 h') (fun q h' hh => by obtain ⟨rfl, k⟩ := hh; exact hR h' (k5.trans' k)) ?_
        intro J hJ
        refine ldI_row (o := 0 + 1) r8 rfl (cnd_t rfl ?_)
        have fin : CallT Try.prog law16_awake_no [] h8 [.sc .bool] fun r h' => J r h' := awake_spec (hg.nw K8) (fun h2 k2 => hJ _ _ ⟨rfl, (k6.trans' K68).trans' k2⟩)
        cases hs : requestF bs with
        | ok y =>
          obtain ⟨rq, n⟩ := y
          have hn : ¬ n ≤ at_.toNat := fun hn => by
            rw [m3 rq n hs (by omega)] at ht; cases ht
          obtain ⟨a1, b1, rfl, sm, o1, o2, d⟩ := st1.ok hs
          unfold row9 at R6
          refine ldI_row (o := 0) R6 rfl (cnd_f rfl ?_)
          refine ldI_row (o := 0 + 1) R6 rfl (cnd_t (decide_eq_true (by show (n : Int) > at_; omega)) fin)
        | error f =>
          by_cases hf : f = 0
          · subst hf
            rw [st1.more hs] at R6
            unfold row9 at R6
            exact ldI_row (o := 0) R6 rfl (cnd_t rfl fin)
          · rw [st1.bad hs hf] at R6
            unfold row9 at R6
            exact ldI_row (o := 0) R6 rfl (cnd_t rfl fin)
      · rw [st2.bad ht hf] at r8
        rw [st1.bad (m2 f hf ht) hf] at R6
        unfold row9 at r8 R6
        refine ldI_row (o := 0) r8 rfl (cnd_f rfl (cnd_f rfl (cnd_t rfl ?_)))
        refine withJ.intro (fun (q : Bool) h' => q = true ∧ Nw h5 h') (fun q h' hh => by obtain ⟨rfl, k⟩ := hh; exact hR h' (k5.trans' k)) ?_
        intro J hJ
        refine ldI_row (o := 0) R6 rfl (cnd_t rfl ?_)
        refine ldI_row (o := 0 + 6) R6 rfl (ldI_row (o := 0 + 6) r8 rfl (cnd_t (by simp) ?_))
        exact awake_spec (hg.nw K8) (fun h2 k2 => hJ _ _ ⟨rfl, (k6.trans' K68).trans' k2⟩)
  · intro J hJ
    refine withJ.intro (fun (q : Bool) h' => h' = h ∧ (q = false → 0 ≤ at_ ∧ at_ ≤ x0.len)) ?_ ?_
    · rintro q h' ⟨rfl, hq⟩
      refine cnd_of (fun e => aw (.refl _ _) (fun h2 k2 => hR h2 k2)) (fun e => hJ _ _ ⟨rfl, hq e⟩)
    · intro J2 hJ2
      refine cnd_dec (fun e => hJ2 _ _ ⟨rfl, fun e => by cases e⟩) (fun e => hJ2 _ _ ⟨rfl, fun e2 => ?_⟩)
      have := of_decide_eq_false e2
      omega
end Go.Proofs.Ytjpmjhnjdnbopaa
