/- KvLasts: for every input it returns true, and each argument reads as it did. No condition. -/
import Derived.Test.YtkgocfaajfaidaaXLift
import Derived.HandedShaped
import Derived.SizedLaws
import Derived.Test.YtkgocfaajfaidaaKvP
namespace Go.Proofs.Ytkgocfaajfaidaa.kvLasts
open Go D Go.ChangeShapes Go.WideShapes Go.ChangeAt Go.RowKit
set_option linter.unusedVariables false

theorem own : ownKnob Try.prog.godebug = none := by kernel_rfl
theorem laidOut : laidOutB Try.prog = true := by kernel_rfl

set_option maxRecDepth 100000 in
theorem contract (H : Type) (enc : TypeId × Value → H) (W : World) (base : Nat) (vs : List Value) (ds : List (DataW H)) (p : List MemPlace) (hA : DataW.TrodAll enc Try.prog W 0 (fun _ => true) true Try.f9.params.toList vs ds p)
    (hval : ∀ (j : Nat) t v, Try.f9.params[j]? = some t → vs[j]? = some v → Value.okWide Try.prog W .any base t v) (hk : (DataW.weightsEach Try.prog Try.f9.params.toList ds).all (· ≤ reachBytes) = true) : CallT Try.prog 9 vs W.heap [.sc .bool] (fun b h' => b = true ∧ Keep (fun _ => False) W.heap h') := by
  rw [Try.params9] at hA hval hk
  obtain ⟨v0, vs0, d0, ds0, p0, q0, rfl, rfl, rfl, h0, r0⟩ := trodAll_cons hA
  obtain ⟨v1, vs1, d1, ds1, p1, q1, rfl, rfl, rfl, h1, r1⟩ := trodAll_cons r0
  obtain ⟨v2, vs2, d2, ds2, p2, q2, rfl, rfl, rfl, h2, r2⟩ := trodAll_cons r1
  obtain ⟨v3, vs3, d3, ds3, p3, q3, rfl, rfl, rfl, h3, r3⟩ := trodAll_cons r2
  obtain ⟨v4, vs4, d4, ds4, p4, q4, rfl, rfl, rfl, h4, r4⟩ := trodAll_cons r3
  obtain ⟨rfl, rfl, rfl⟩ := trodAll_nil r4
  have el : Rd Try.prog 49 Kv.ChP := Rd.struct Try.underlying49 (by kernel_rfl) (.cons (by kernel_rfl) (Rd.str Try.underlying9) (.cons (by kernel_rfl) (Rd.str Try.underlying9) (.cons (by kernel_rfl) (Rd.bool Try.underlying4) .nil)))
  have e2 := Kv.RdR.sl (m := 3) (B := 40) Try.underlying38 (by kernel_rfl) (by kernel_rfl) (Kv.RdR.of el)
  have e3 := Kv.RdR.sl (m := 1) (B := 24) Try.underlying26 (by kernel_rfl) (by kernel_rfl) e2
  obtain ⟨a, l, c, rfl, i1⟩ := Kv.argR Try.underlying26 e3 (hval 0 26 v0 rfl rfl) h0 (reach_nth hk (j := 0) rfl rfl)
  obtain ⟨a1, l1, c1, rfl, j1⟩ := arg_sl Try.underlying54 (Rd.sl Try.underlying54 (m := 1) (by kernel_rfl) (Rd.bool Try.underlying4)) (hval 1 54 v1 rfl rfl) h1
  obtain ⟨n2, rfl, n3, n4⟩ := arg_int Try.underlying3 (hval 2 3 v2 rfl rfl) h2
  obtain ⟨a3, l3, c3, rfl, j3⟩ := arg_sl Try.underlying54 (Rd.sl Try.underlying54 (m := 1) (by kernel_rfl) (Rd.bool Try.underlying4)) (hval 3 54 v3 rfl rfl) h3
  obtain ⟨n5, rfl, n6, n7⟩ := arg_int Try.underlying3 (hval 4 3 v4 rfl rfl) h4
  exact Kv.kvLasts_spec (x0 := ⟨a, l, c⟩) (x1 := ⟨a1, l1, c1⟩) (x3 := ⟨a3, l3, c3⟩) (Kv.css_of i1).1 (bools_of j1) (bools_of j3) ⟨n3, n4⟩ (fun h' hk => ⟨rfl, hk⟩)

set_option maxRecDepth 100000 in
theorem lifted (os : Os) (started : os.Started) (H : Type) (enc : TypeId × Value → H) :
    ReturnsInHanded {} Try.checked os 9 .any (Rows.kvLastsSpec.pre6 enc Try.prog Try.f9 Rows.kvLastsRow.domain false) (Rows.kvLastsSpec.post enc Try.prog Try.f9 false true false false) := by
  refine returnsInHanded_of_change_shaped (C := Try.checked) own started (by kernel_rfl) Try.func9
    (ChangeSpec.witness6 (enc := enc) (C := Try.checked) false ⟨#[], #[.slice none 0 0, .slice none 0 0, .int .i64 0, .slice none 0 0, .int .i64 0], []⟩ 8 (by kernel_rfl) (by kernel_rfl) (by kernel_rfl) (by kernel_rfl)) ?_
  intro W base args ds gs before hval hW _ hsz hsh _
  exact liftS (tb := 4) laidOut rfl rfl Try.underlying4
    (fun H ds hl => by
      rw [Try.params9] at hl
      match ds, hl with
      | [d1, d2, d3, d4, d5], _ => rfl)
    (fun t ht => by
      rw [Try.params9] at ht
      simp only [List.mem_cons, List.not_mem_nil, or_false] at ht
      rcases ht with rfl | rfl | rfl | rfl | rfl
      · exact ⟨by kernel_rfl, of_decide_eq_true (by kernel_rfl)⟩
      · exact ⟨by kernel_rfl, of_decide_eq_true (by kernel_rfl)⟩
      · exact ⟨by kernel_rfl, of_decide_eq_true (by kernel_rfl)⟩
      · exact ⟨by kernel_rfl, of_decide_eq_true (by kernel_rfl)⟩
      · exact ⟨by kernel_rfl, of_decide_eq_true (by kernel_rfl)⟩)
    (fun H enc W base vs ds p hk hA hval => contract H enc W base vs ds p hA hval hk) W base args ds gs before hval hW hsz

theorem over : Rows.kvLastsRow.holds Try.pinned (OpenSpec.ofChange Rows.kvLastsSpec) :=
  OpenClaim.holds_of_wide 9 Try.f9 rfl rfl rfl rfl rfl rfl rfl ⟨rfl, rfl, rfl, rfl, rfl⟩ rfl rfl rfl rfl rfl (by kernel_rfl) Try.func9 (by kernel_rfl)
    (of_decide_eq_true (by kernel_rfl)) (by unfold Func.isWrapper; first | (rw [if_pos (by decide +kernel)]; kernel_rfl) | (rw [if_neg (by decide +kernel)]; exact ⟨rfl, rfl⟩))
    (fun os started H enc _ => lifted os started H enc)

theorem proved : Rows.KvLastsSaid := over
end Go.Proofs.Ytkgocfaajfaidaa.kvLasts
namespace Go.Proofs.Ytkgocfaajfaidaa
theorem kvLasts_holds : Rows.KvLastsSaid := kvLasts.proved
#print axioms kvLasts_holds
end Go.Proofs.Ytkgocfaajfaidaa
