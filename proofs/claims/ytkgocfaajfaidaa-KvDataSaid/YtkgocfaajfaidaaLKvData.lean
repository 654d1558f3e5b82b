/- KvData: for every input it returns true, and each argument reads as it did. No condition. -/
import Derived.Test.YtkgocfaajfaidaaXLift
import Derived.Test.YtkgocfaajfaidaaKvH
namespace Go.Proofs.Ytkgocfaajfaidaa.kvData
open Go D Go.ChangeShapes Go.WideShapes Go.ChangeAt Go.RowKit
set_option linter.unusedVariables false

theorem own : ownKnob Try.prog.godebug = none := by kernel_rfl
theorem laidOut : laidOutB Try.prog = true := by kernel_rfl

set_option maxRecDepth 100000 in
theorem contract (H : Type) (enc : TypeId × Value → H) (W : World) (base : Nat) (vs : List Value) (ds : List (DataW H)) (p : List MemPlace) (hA : DataW.TrodAll enc Try.prog W 0 (fun _ => true) true Try.f3.params.toList vs ds p)
    (hval : ∀ (j : Nat) t v, Try.f3.params[j]? = some t → vs[j]? = some v → Value.okWide Try.prog W .any base t v) : CallT Try.prog 3 vs W.heap [.sc .bool] (fun b h' => b = true ∧ Keep (fun _ => False) W.heap h') := by
  rw [Try.params3] at hA hval
  obtain ⟨v0, vs0, d0, ds0, p0, q0, rfl, rfl, rfl, h0, r0⟩ := trodAll_cons hA
  obtain ⟨rfl, rfl, rfl⟩ := trodAll_nil r0
  obtain ⟨a, rfl, a1, a2⟩ := arg_int Try.underlying3 (hval 0 3 v0 rfl rfl) h0
  exact Kv.kvData_spec (fun h' hk => ⟨rfl, hk⟩)

set_option maxRecDepth 100000 in
theorem lifted (os : Os) (started : os.Started) (H : Type) (enc : TypeId × Value → H) :
    ReturnsInHanded {} Try.checked os 3 .any (Rows.kvDataSpec.pre6 enc Try.prog Try.f3 Rows.kvDataRow.domain false) (Rows.kvDataSpec.post enc Try.prog Try.f3 false true false false) := by
  refine returnsInHanded_of_change (C := Try.checked) own started (by kernel_rfl) Try.func3
    (ChangeSpec.witness6 (enc := enc) (C := Try.checked) false ⟨#[], #[.int .i64 0], []⟩ 8 (by kernel_rfl) (by kernel_rfl) (by kernel_rfl) (by kernel_rfl)) ?_
  intro W base args ds gs before hval hW _ _
  exact lift (tb := 4) (fits := fun _ _ => true) laidOut rfl rfl Try.underlying4
    (fun H ds hl => by
      rw [Try.params3] at hl
      match ds, hl with
      | [d1], _ => rfl)
    (fun t ht => by
      rw [Try.params3] at ht
      simp only [List.mem_cons, List.not_mem_nil, or_false] at ht
      subst ht
      exact ⟨by kernel_rfl, of_decide_eq_true (by kernel_rfl)⟩)
    (fun H enc W base vs ds p hk hA hval => contract H enc W base vs ds p hA hval) W base args ds gs before hval hW rfl

theorem over : Rows.kvDataRow.holds Try.pinned (OpenSpec.ofChange Rows.kvDataSpec) :=
  OpenClaim.holds_of_wide 3 Try.f3 rfl rfl rfl rfl rfl rfl rfl ⟨rfl, rfl, rfl, rfl, rfl⟩ rfl rfl rfl rfl rfl (by kernel_rfl) Try.func3 (by kernel_rfl)
    (of_decide_eq_true (by kernel_rfl)) (by unfold Func.isWrapper; first | (rw [if_pos (by decide +kernel)]; kernel_rfl) | (rw [if_neg (by decide +kernel)]; exact ⟨rfl, rfl⟩))
    (fun os started H enc _ => lifted os started H enc)

theorem proved : Rows.KvDataSaid := over
end Go.Proofs.Ytkgocfaajfaidaa.kvData
namespace Go.Proofs.Ytkgocfaajfaidaa
theorem kvData_holds : Rows.KvDataSaid := kvData.proved
#print axioms kvData_holds
end Go.Proofs.Ytkgocfaajfaidaa
