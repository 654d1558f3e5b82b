/- HashMacs: for every input it returns true, and each argument reads as it did. No condition. -/
import Derived.Test.YtecfcodildjnnaaXLift
import Derived.HandedShaped
import Derived.SizedLaws
import Derived.Test.YtecfcodildjnnaaPMacs
namespace Go.Proofs.Ytecfcodildjnnaa.hashMacs
open Go D Go.ChangeShapes Go.WideShapes Go.ChangeAt Go.RowKit Go.Proofs.Ytecfcodildjnnaa.Ref2
set_option linter.unusedVariables false

theorem own : ownKnob Try.prog.godebug = none := by kernel_rfl
theorem laidOut : laidOutB Try.prog = true := by kernel_rfl

set_option maxRecDepth 100000 in
theorem contract (H : Type) (enc : TypeId × Value → H) (W : World) (base : Nat) (vs : List Value) (ds : List (DataW H)) (p : List MemPlace) (hA : DataW.TrodAll enc Try.prog W 0 (fun _ => true) true Try.f7.params.toList vs ds p)
    (hval : ∀ (j : Nat) t v, Try.f7.params[j]? = some t → vs[j]? = some v → Value.okWide Try.prog W .any base t v) (hk : (DataW.weightsEach Try.prog Try.f7.params.toList ds).all (· ≤ reachBytes) = true) : CallT Try.prog 7 vs W.heap [.sc .bool] (fun b h' => b = true ∧ Keep (fun _ => False) W.heap h') := by
  rw [Try.params7] at hA hval hk
  obtain ⟨v0, vs0, d0, ds0, p0, q0, rfl, rfl, rfl, h0, r0⟩ := trodAll_cons hA
  obtain ⟨v1, vs1, d1, ds1, p1, q1, rfl, rfl, rfl, h1, r1⟩ := trodAll_cons r0
  obtain ⟨rfl, rfl, rfl⟩ := trodAll_nil r1
  obtain ⟨a1, l1, c1, rfl, i1⟩ := arg_sl Try.underlying22 (Rd.sl Try.underlying22 (m := 1) (by kernel_rfl) (Rd.int Try.underlying5)) (hval 0 22 v0 rfl rfl) h0
  obtain ⟨a2, l2, c2, rfl, i2⟩ := arg_sl Try.underlying22 (Rd.sl Try.underlying22 (m := 1) (by kernel_rfl) (Rd.int Try.underlying5)) (hval 1 22 v1 rfl rfl) h1
  have z1 := reach_bytes Try.underlying22 (by kernel_rfl) h0 (reach_nth hk (j := 0) rfl rfl)
  have z2 := reach_bytes Try.underlying22 (by kernel_rfl) h1 (reach_nth hk (j := 1) rfl rfl)
  exact hashMacs_spec (x0 := ⟨a1, l1, c1⟩) (x1 := ⟨a2, l2, c2⟩) (bytes_of i1).1 (bytes_of i1).2.1 (by simp only; omega) (bytes_of i2).1 (by simp only; omega) (fun h' hk => ⟨rfl, hk⟩)

set_option maxRecDepth 100000 in
theorem lifted (os : Os) (started : os.Started) (H : Type) (enc : TypeId × Value → H) :
    ReturnsInHanded {} Try.checked os 7 .any (Rows.hashMacsSpec.pre6 enc Try.prog Try.f7 Rows.hashMacsRow.domain false) (Rows.hashMacsSpec.post enc Try.prog Try.f7 false true false false) := by
  refine returnsInHanded_of_change_shaped (C := Try.checked) own started (by kernel_rfl) Try.func7
    (ChangeSpec.witness6 (enc := enc) (C := Try.checked) false ⟨#[], #[.slice none 0 0, .slice none 0 0], []⟩ 8 (by kernel_rfl) (by kernel_rfl) (by kernel_rfl) (by kernel_rfl)) ?_
  intro W base args ds gs before hval hW _ hsz _ _
  exact liftS (tb := 4) laidOut rfl rfl Try.underlying4
    (fun H ds hl => by
      rw [Try.params7] at hl
      match ds, hl with
      | [d1, d2], _ => rfl)
    (fun t ht => by
      rw [Try.params7] at ht
      simp only [List.mem_cons, List.not_mem_nil, or_false] at ht
      rcases ht with rfl | rfl
      · exact ⟨by kernel_rfl, of_decide_eq_true (by kernel_rfl)⟩
      · exact ⟨by kernel_rfl, of_decide_eq_true (by kernel_rfl)⟩)
    (fun H enc W base vs ds p hk hA hval => contract H enc W base vs ds p hA hval hk) W base args ds gs before hval hW hsz

theorem over : Rows.hashMacsRow.holds Try.pinned (OpenSpec.ofChange Rows.hashMacsSpec) :=
  OpenClaim.holds_of_wide 7 Try.f7 rfl rfl rfl rfl rfl rfl rfl ⟨rfl, rfl, rfl, rfl, rfl⟩ rfl rfl rfl rfl rfl (by kernel_rfl) Try.func7 (by kernel_rfl)
    (of_decide_eq_true (by kernel_rfl)) (by unfold Func.isWrapper; first | (rw [if_pos (by decide +kernel)]; kernel_rfl) | (rw [if_neg (by decide +kernel)]; exact ⟨rfl, rfl⟩))
    (fun os started H enc _ => lifted os started H enc)

theorem proved : Rows.HashMacsSaid := over
end Go.Proofs.Ytecfcodildjnnaa.hashMacs
namespace Go.Proofs.Ytecfcodildjnnaa
theorem hashMacs_holds : Rows.HashMacsSaid := hashMacs.proved
#print axioms hashMacs_holds
end Go.Proofs.Ytecfcodildjnnaa
