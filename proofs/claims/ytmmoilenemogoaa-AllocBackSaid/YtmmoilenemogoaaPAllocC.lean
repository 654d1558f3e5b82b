/- Contracts of package alloc, third part: 'awake'. -/
import Derived.Test.YtmmoilenemogoaaPAllocB
namespace Go.Proofs.Ytmmoilenemogoaa
open Go D
set_option linter.unusedVariables false
set_option linter.unusedSimpArgs false
namespace Alloc

theorem First.eq {bits : List Bool} {k s t : Int} (h1 : First bits k s) (h2 : First bits k t) : s = t := by
  rcases Int.lt_trichotomy s t with h | h | h
  · exact absurd h1.1 (h2.2 s h)
  · exact h
  · exact absurd h2.1 (h1.2 t h)

theorem first_a : First (List.replicate 8 false) 3 0 := by
  refine ⟨⟨by decide, by decide, by decide, fun i h1 h2 => ?_⟩, fun s hs ha => by have := ha.2.1; omega⟩
  have : i = 0 ∨ i = 1 ∨ i = 2 := by omega
  rcases this with rfl | rfl | rfl <;> rfl

theorem first_b : First [true, true, true, false, false, false, false, false] 2 3 := by
  refine ⟨⟨by decide, by decide, by decide, fun i h1 h2 => ?_⟩, fun s hs ha => ?_⟩
  · have : i = 3 ∨ i = 4 := by omega
    rcases this with rfl | rfl <;> rfl
  · have h0 := ha.2.1
    have := ha.2.2.2 s.toNat (by omega) (by omega)
    have h3 : s.toNat = 0 ∨ s.toNat = 1 ∨ s.toNat = 2 := by omega
    rcases h3 with h | h | h <;> rw [h] at this <;> simp at this

theorem awake_spec {h : Heap} {R : Bool → Heap → Prop} (hk : ∀ h', Keep (fun _ => False) h h' → R true h') : CallT Try.prog law10_awake_no [] h [.sc .bool] R := by
  apply law10_awake_call
  simp only [law10_awake, withJ]
  refine new_spec (by unfold InI; omega) (fun hb => by omega) ?_
  intro _ _ p q h1 hp hq hr hkeep
  refine cnd_f rfl (cnd_f rfl ?_)
  have e8 : List.replicate (8 : Int).toNat false = List.replicate 8 false := rfl
  rw [e8] at hr
  refine take_spec hr (by unfold InI; omega) ?_ (fun hh => by omega) (fun _ hh => absurd first_a.1 (hh 0))
  intro s hs h2 hr2 hk2 hs2
  have hs0 := hs.eq first_a
  subst hs0
  have e1 : flip (List.replicate 8 false) (0 : Int).toNat (3 : Int).toNat = [true, true, true, false, false, false, false, false] := by decide
  rw [e1] at hr2
  refine take_spec hr2 (by unfold InI; omega) ?_ (fun hh => by omega) (fun _ hh => absurd first_b.1 (hh 3))
  intro s hs h3 hr3 hk3 hs3
  have hs0 := hs.eq first_b
  subst hs0
  have e2 : flip [true, true, true, false, false, false, false, false] (3 : Int).toNat (2 : Int).toNat = [true, true, true, true, true, false, false, false] := by decide
  rw [e2] at hr3
  refine cnd_t rfl (cnd_t rfl (cnd_t rfl (cnd_t rfl ?_)))
  refine free_spec hr3 ?_
  refine cnd_t (by decide) ?_
  refine runs_spec hr3 ?_
  intro s h4 hs4 _ hk4
  have hl := hs4.len
  have e3 : ((runs [true, true, true, true, true, false, false, false] [true, true, true, true, true, false, false, false].length).flatMap pairV).length = 2 := by decide
  rw [e3] at hl
  have hs1 : s.len = 1 := by omega
  rw [hs1]
  refine hk h4 ?_
  have k3 : Keep (fun x => x = p ∨ x = q) h1 h3 := hk2.trans' hk3
  have k4 : Keep (fun x => x = p ∨ x = q) h1 h4 := k3.trans hk4 (fun _ _ hh => hh.elim)
  exact hkeep.trans k4 (fun x hx hxp => by rcases hxp with hxp | hxp <;> omega)

end Alloc
end Go.Proofs.Ytmmoilenemogoaa
