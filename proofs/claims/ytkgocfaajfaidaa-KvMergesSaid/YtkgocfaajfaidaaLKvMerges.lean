/- KvMerges: for every input it returns true, and each argument reads as it did. No condition. -/
import Derived.Test.YtkgocfaajfaidaaXLift
import Derived.HandedShaped
import Derived.SizedLaws
import Derived.Test.YtkgocfaajfaidaaKvM
namespace Go.Proofs.Ytkgocfaajfaidaa.kvMerges
open Go D Go.ChangeShapes Go.WideShapes Go.ChangeAt Go.RowKit
set_option linter.unusedVariables false

theorem own : ownKnob Try.prog.godebug = none := by kernel_rfl
theorem laidOut : laidOutB Try.prog = true := by kernel_rfl

set_option maxRecDepth 100000 in
theorem contract (H : Type) (enc : TypeId × Value → H) (W : World) (base : Nat) (vs : List Value) (ds : List (DataW H)) (p : List MemPlace) (hA : DataW.TrodAll enc Try.prog W 0 (fun _ => true) true Try.f6.params.toList vs ds p)
    (hval : ∀ (j : Nat) t v, Try.f6.params[j]? = some t → vs[j]? = some v → Value.okWide Try.prog W .any base t v) (hk : (DataW.weightsEach Try.prog Try.f6.params.toList ds).all (· ≤ reachBytes) = true) : CallT Try.prog 6 vs W.heap [.sc .bool] (fun b h' => b = true ∧ Keep (fun _ => False) W.heap h') := by
  rw [Try.params6] at hA hval hk
  obtain ⟨v0, vs0, d0, ds0, p0, q0, rfl, rfl, rfl, h0, r0⟩ := trodAll_cons hA
  obtain ⟨rfl, rfl, rfl⟩ := trodAll_nil r0
  have el : Rd Try.prog 49 Kv.ChP := Rd.struct Try.underlying49 (by kernel_rfl) (.cons (by kernel_rfl) (Rd.str Try.underlying9) (.cons (by kernel_rfl) (Rd.str Try.underlying9) (.cons (by kernel_rfl) (Rd.bool Try.underlying4) .nil)))
  have e2 := Kv.RdR.sl (m := 3) (B := 40) Try.underlying38 (by kernel_rfl) (by kernel_rfl) (Kv.RdR.of el)
  obtain ⟨a, l, c, rfl, i1⟩ := Kv.argR Try.underlying38 e2 (hval 0 38 v0 rfl rfl) h0 (reach_nth hk (j := 0) rfl rfl)
  obtain ⟨q1, q2, q3⟩ := Kv.chs_of i1
  exact Kv.kvMerges_spec (x0 := ⟨a, l, c⟩) q1 q3 q2 (fun h' hk => ⟨rfl, hk⟩)

set_option maxRecDepth 100000 in
theorem lifted (os : Os) (started : os.Started) (H : Type) (enc : TypeId × Value → H) :
    ReturnsInHanded {} Try.checked os 6 .any (Rows.kvMergesSpec.pre6 enc Try.prog Try.f6 Rows.kvMergesRow.domain false) (Rows.kvMergesSpec.post enc Try.prog Try.f6 false true false false) := by
  refine returnsInHanded_of_change_shaped (C := Try.checked) own started (by kernel_rfl) Try.func6
    (ChangeSpec.witness6 (enc := enc) (C := Try.checked) false ⟨#[], #[.slice none 0 0], []⟩ 8 (by kernel_rfl) (by kernel_rfl) (by kernel_rfl) (by kernel_rfl)) ?_
  intro W base args ds gs before hval hW _ hsz hsh _
  exact liftS (tb := 4) laidOut rfl rfl Try.underlying4
    (fun H ds hl => by
      rw [Try.params6] at hl
      match ds, hl with
      | [d1], _ => rfl)
    (fun t ht => by
      rw [Try.params6] at ht
      simp only [List.mem_cons, List.not_mem_nil, or_false] at ht
      subst ht
      exact ⟨by kernel_rfl, of_decide_eq_true (by kernel_rfl)⟩)
    (fun H enc W base vs ds p hk hA hval => contract H enc W base vs ds p hA hval hk) W base args ds gs before hval hW hsz

theorem over : Rows.kvMergesRow.holds Try.pinned (OpenSpec.ofChange Rows.kvMergesSpec) :=
  OpenClaim.holds_of_wide 6 Try.f6 rfl rfl rfl rfl rfl rfl rfl ⟨rfl, rfl, rfl, rfl, rfl⟩ rfl rfl rfl rfl rfl (by kernel_rfl) Try.func6 (by kernel_rfl)
    (of_decide_eq_true (by kernel_rfl)) (by unfold Func.isWrapper; first | (rw [if_pos (by decide +kernel)]; kernel_rfl) | (rw [if_neg (by decide +kernel)]; exact ⟨rfl, rfl⟩))
    (fun os started H enc _ => lifted os started H enc)

theorem proved : Rows.KvMergesSaid := over
end Go.Proofs.Ytkgocfaajfaidaa.kvMerges
namespace Go.Proofs.Ytkgocfaajfaidaa
theorem kvMerges_holds : Rows.KvMergesSaid := kvMerges.proved
#print axioms kvMerges_holds
end Go.Proofs.Ytkgocfaajfaidaa
