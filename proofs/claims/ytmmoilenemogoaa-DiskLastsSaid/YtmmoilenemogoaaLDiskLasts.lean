/- DiskLasts: for every input it returns true, and each argument reads as it did. No condition. -/
import Derived.Test.YtmmoilenemogoaaXLift
import Derived.Test.YtmmoilenemogoaaPLasts
namespace Go.Proofs.Ytmmoilenemogoaa.diskLasts
open Go D Go.ChangeShapes Go.WideShapes Go.ChangeAt Go.RowKit Go.Proofs.Ytmmoilenemogoaa.Disk
set_option linter.unusedVariables false

theorem own : ownKnob Try.prog.godebug = none := by kernel_rfl
theorem laidOut : laidOutB Try.prog = true := by kernel_rfl

set_option maxRecDepth 100000 in
theorem contract (H : Type) (enc : TypeId × Value → H) (W : World) (base : Nat) (vs : List Value) (ds : List (DataW H)) (p : List MemPlace) (hA : DataW.TrodAll enc Try.prog W 0 (fun _ => true) true Try.f5.params.toList vs ds p)
    (hval : ∀ (j : Nat) t v, Try.f5.params[j]? = some t → vs[j]? = some v → Value.okWide Try.prog W .any base t v) : CallT Try.prog 5 vs W.heap [.sc .bool] (fun b h' => b = true ∧ Keep (fun _ => False) W.heap h') := by
  rw [Try.params5] at hA hval
  obtain ⟨v0, vs0, d0, ds0, p0, q0, rfl, rfl, rfl, h0, r0⟩ := trodAll_cons hA
  obtain ⟨v1, vs1, d1, ds1, p1, q1, rfl, rfl, rfl, h1, r1⟩ := trodAll_cons r0
  obtain ⟨v2, vs2, d2, ds2, p2, q2, rfl, rfl, rfl, h2, r2⟩ := trodAll_cons r1
  obtain ⟨rfl, rfl, rfl⟩ := trodAll_nil r2
  obtain ⟨a1, l1, c1, rfl, i1⟩ := arg_sl Try.underlying39 (Rd.sl Try.underlying39 (m := 1) (by kernel_rfl) (Rd.int Try.underlying3)) (hval 0 39 v0 rfl rfl) h0
  obtain ⟨a2, l2, c2, rfl, i2⟩ := arg_sl Try.underlying39 (Rd.sl Try.underlying39 (m := 1) (by kernel_rfl) (Rd.int Try.underlying3)) (hval 1 39 v1 rfl rfl) h1
  obtain ⟨a3, l3, c3, rfl, i3⟩ := arg_sl Try.underlying40 (Rd.sl Try.underlying40 (m := 1) (by kernel_rfl) (Rd.bool Try.underlying4)) (hval 2 40 v2 rfl rfl) h2
  exact diskLasts_spec (x0 := ⟨a1, l1, c1⟩) (x1 := ⟨a2, l2, c2⟩) (x2 := ⟨a3, l3, c3⟩) (ints_of i1) (ints_of i2) (bools_of i3) (fun h' hk => ⟨rfl, hk⟩)

set_option maxRecDepth 100000 in
theorem lifted (os : Os) (started : os.Started) (H : Type) (enc : TypeId × Value → H) :
    ReturnsInHanded {} Try.checked os 5 .any (Rows.diskLastsSpec.pre6 enc Try.prog Try.f5 Rows.diskLastsRow.domain false) (Rows.diskLastsSpec.post enc Try.prog Try.f5 false true false false) := by
  refine returnsInHanded_of_change (C := Try.checked) own started (by kernel_rfl) Try.func5
    (ChangeSpec.witness6 (enc := enc) (C := Try.checked) false ⟨#[], #[.slice none 0 0, .slice none 0 0, .slice none 0 0], []⟩ 8 (by kernel_rfl) (by kernel_rfl) (by kernel_rfl) (by kernel_rfl)) ?_
  intro W base args ds gs before hval hW _ _
  exact lift (tb := 4) (fits := fun _ _ => true) laidOut rfl rfl Try.underlying4
    (fun H ds hl => by
      rw [Try.params5] at hl
      match ds, hl with
      | [d1, d2, d3], _ => rfl)
    (fun t ht => by
      rw [Try.params5] at ht
      simp only [List.mem_cons, List.not_mem_nil, or_false] at ht
      rcases ht with rfl | rfl | rfl
      · exact ⟨by kernel_rfl, of_decide_eq_true (by kernel_rfl)⟩
      · exact ⟨by kernel_rfl, of_decide_eq_true (by kernel_rfl)⟩
      · exact ⟨by kernel_rfl, of_decide_eq_true (by kernel_rfl)⟩)
    (fun H enc W base vs ds p hk hA hval => contract H enc W base vs ds p hA hval) W base args ds gs before hval hW rfl

theorem over : Rows.diskLastsRow.holds Try.pinned (OpenSpec.ofChange Rows.diskLastsSpec) :=
  OpenClaim.holds_of_wide 5 Try.f5 rfl rfl rfl rfl rfl rfl rfl ⟨rfl, rfl, rfl, rfl, rfl⟩ rfl rfl rfl rfl rfl (by kernel_rfl) Try.func5 (by kernel_rfl)
    (of_decide_eq_true (by kernel_rfl)) (by unfold Func.isWrapper; first | (rw [if_pos (by decide +kernel)]; kernel_rfl) | (rw [if_neg (by decide +kernel)]; exact ⟨rfl, rfl⟩))
    (fun os started H enc _ => lifted os started H enc)

theorem proved : Rows.DiskLastsSaid := over
end Go.Proofs.Ytmmoilenemogoaa.diskLasts
namespace Go.Proofs.Ytmmoilenemogoaa
theorem diskLasts_holds : Rows.DiskLastsSaid := diskLasts.proved
#print axioms diskLasts_holds
end Go.Proofs.Ytmmoilenemogoaa
