/- The free runs of a list of bits: they are apart, they add up, and every free stretch lies in one. -/
import Derived.Test.YtmmoilenemogoaaPAllocB
namespace Go.Proofs.Ytmmoilenemogoaa
open Go D
set_option linter.unusedVariables false
set_option linter.unusedSimpArgs false
namespace Alloc

structure RunsOk (bits : List Bool) (n : Nat) (l : List (Int × Int)) : Prop where
  each : ∀ x ∈ l, 1 ≤ x.2 ∧ 0 ≤ x.1 ∧ x.1 + x.2 ≤ n ∧ ∀ j : Nat, x.1 ≤ j → (j : Int) < x.1 + x.2 → bits.getD j false = false
  apart : l.Pairwise fun x y => x.1 + x.2 < y.1
  sum : (l.map (·.2)).sum = (((bits.take n).count false : Nat) : Int)
  last : n ≠ 0 → bits.getD (n - 1) false = false → ∃ (d : List (Int × Int)) (z : Int × Int), l = d ++ [z] ∧ z.1 + z.2 = (n : Int)
  whole : ∀ s k : Int, 1 ≤ k → 0 ≤ s → s + k ≤ n → (∀ j : Nat, s ≤ j → (j : Int) < s + k → bits.getD j false = false) → ∃ x ∈ l, x.1 ≤ s ∧ s + k ≤ x.1 + x.2

theorem sum_append (l r : List Int) : (l ++ r).sum = l.sum + r.sum := by
  induction l with
  | nil => simp
  | cons x l ih => simp only [List.cons_append, List.sum_cons, ih]; omega

theorem runs_ok (bits : List Bool) : ∀ n, n ≤ bits.length → RunsOk bits n (runs bits n)
  | 0, _ => ⟨by simp [runs], by simp [runs], by simp [runs], fun h => absurd rfl h, fun s k h1 h2 h3 => by omega⟩
  | n + 1, hn => by
    have ih := runs_ok bits n (by omega)
    have hb : bits[n]? = some (bits.getD n false) := by rw [List.getD_eq_getElem?_getD, List.getElem?_eq_getElem (by omega)]; rfl
    have ht : bits.take (n + 1) = bits.take n ++ [bits.getD n false] := by rw [List.take_add_one, hb]; rfl
    unfold runs
    split
    · rename_i h1
      refine ⟨fun x hx => ?_, ih.apart, ?_, fun _ h => ?_, fun s k a1 a2 a3 a4 => ?_⟩
      · obtain ⟨g1, g2, g3, g4⟩ := ih.each x hx
        exact ⟨g1, g2, by omega, g4⟩
      · rw [ih.sum, ht, h1, List.count_append]; simp
      · rw [show n + 1 - 1 = n from rfl, h1] at h; cases h
      · by_cases h2 : s + k ≤ n
        · exact ih.whole s k a1 a2 h2 a4
        · have := a4 n (by omega) (by omega)
          rw [h1] at this; cases this
    · rename_i h1
      have h1' : bits.getD n false = false := by simpa using h1
      split
      · rename_i h2
        obtain ⟨d, z, hl, hz⟩ := ih.last h2.1 h2.2
        have hd : (runs bits n).dropLast = d := by rw [hl]; simp
        have hg : (runs bits n).getLastD (0, 0) = z := by rw [hl]; simp
        rw [hd, hg]
        have hap := ih.apart
        rw [hl, List.pairwise_append] at hap
        obtain ⟨p1, p2, p3⟩ := hap
        have hzm : z ∈ runs bits n := by rw [hl]; simp
        obtain ⟨e1, e2, e3, e4⟩ := ih.each z hzm
        refine ⟨fun x hx => ?_, ?_, ?_, fun _ _ => ⟨d, _, rfl, by simp only; omega⟩, fun s k a1 a2 a3 a4 => ?_⟩
        · rcases List.mem_append.1 hx with hx | hx
          · obtain ⟨g1, g2, g3, g4⟩ := ih.each x (by rw [hl]; exact List.mem_append_left _ hx)
            exact ⟨g1, g2, by omega, g4⟩
          · simp only [List.mem_singleton] at hx
            subst hx
            refine ⟨by simp only; omega, e2, by simp only; omega, fun j hj1 hj2 => ?_⟩
            simp only at hj1 hj2
            by_cases hj : (j : Int) < z.1 + z.2
            · exact e4 j hj1 hj
            · have : j = n := by omega
              rw [this]; exact h1'
        · rw [List.pairwise_append]
          refine ⟨p1, by simp, fun x hx y hy => ?_⟩
          simp only [List.mem_singleton] at hy
          subst hy
          exact p3 x hx z (by simp)
        · have := ih.sum
          rw [hl, List.map_append, sum_append] at this
          rw [List.map_append, sum_append, ht, h1', List.count_append]
          simp only [List.map_cons, List.map_nil, List.sum_cons, List.sum_nil] at this ⊢
          simp only [List.count_singleton, beq_self_eq_true, if_true]
          omega
        · by_cases h3 : s + k ≤ n
          · obtain ⟨x, hx, q1, q2⟩ := ih.whole s k a1 a2 h3 a4
            rw [hl] at hx
            rcases List.mem_append.1 hx with hx | hx
            · exact ⟨x, List.mem_append_left _ hx, q1, q2⟩
            · simp only [List.mem_singleton] at hx
              subst hx
              exact ⟨_, List.mem_append_right _ (List.mem_singleton.2 rfl), q1, by simp only; omega⟩
          · refine ⟨_, List.mem_append_right _ (List.mem_singleton.2 rfl), ?_, by simp only; omega⟩
            simp only
            by_cases hk1 : k = 1
            · omega
            · obtain ⟨x, hx, q1, q2⟩ := ih.whole s (k - 1) (by omega) a2 (by omega) (fun j b1 b2 => a4 j b1 (by omega))
              rw [hl] at hx
              rcases List.mem_append.1 hx with hx | hx
              · have := p3 x hx z (by simp)
                omega
              · simp only [List.mem_singleton] at hx
                subst hx
                exact q1
      · rename_i h2
        refine ⟨fun x hx => ?_, ?_, ?_, fun _ _ => ⟨_, _, rfl, by simp only; omega⟩, fun s k a1 a2 a3 a4 => ?_⟩
        · rcases List.mem_append.1 hx with hx | hx
          · obtain ⟨g1, g2, g3, g4⟩ := ih.each x hx
            exact ⟨g1, g2, by omega, g4⟩
          · simp only [List.mem_singleton] at hx
            subst hx
            refine ⟨by simp only; omega, by simp only; omega, by simp only; omega, fun j hj1 hj2 => ?_⟩
            simp only at hj1 hj2
            have : j = n := by omega
            rw [this]; exact h1'
        · rw [List.pairwise_append]
          refine ⟨ih.apart, by simp, fun x hx y hy => ?_⟩
          simp only [List.mem_singleton] at hy
          subst hy
          obtain ⟨g1, g2, g3, g4⟩ := ih.each x hx
          simp only
          by_cases h4 : x.1 + x.2 < n
          · exact h4
          · have := g4 (n - 1) (by omega) (by omega)
            exact absurd ⟨by omega, this⟩ h2
        · rw [List.map_append, sum_append, ih.sum, ht, h1', List.count_append]
          simp
        · by_cases h3 : s + k ≤ n
          · obtain ⟨x, hx, q1, q2⟩ := ih.whole s k a1 a2 h3 a4
            exact ⟨x, List.mem_append_left _ hx, q1, q2⟩
          · by_cases hk1 : k = 1
            · exact ⟨_, List.mem_append_right _ (List.mem_singleton.2 rfl), by simp only; omega, by simp only; omega⟩
            · have := a4 (n - 1) (by omega) (by omega)
              exact absurd ⟨by omega, this⟩ h2

end Alloc
end Go.Proofs.Ytmmoilenemogoaa
