/- SnapPlays: for every input it returns true, and each argument reads as it did. No condition. -/
import Derived.Test.YtmkobpkdodgboaaXLift
import Derived.Test.YtmkobpkdodgboaaPSnapX
namespace Go.Proofs.Ytmkobpkdodgboaa.snapPlays
open Go D Go.ChangeShapes Go.WideShapes Go.ChangeAt Go.RowKit Go.Proofs.Ytmkobpkdodgboaa.Snap
set_option linter.unusedVariables false

theorem own : ownKnob Try.prog.godebug = none := by kernel_rfl
theorem laidOut : laidOutB Try.prog = true := by kernel_rfl

set_option maxRecDepth 100000 in
theorem contract (H : Type) (enc : TypeId × Value → H) (W : World) (base : Nat) (vs : List Value) (ds : List (DataW H)) (p : List MemPlace) (hA : DataW.TrodAll enc Try.prog W 0 (fun _ => true) true Try.f6.params.toList vs ds p)
    (hval : ∀ (j : Nat) t v, Try.f6.params[j]? = some t → vs[j]? = some v → Value.okWide Try.prog W .any base t v) : CallT Try.prog 6 vs W.heap [.sc .bool] (fun b h' => b = true ∧ Keep (fun _ => False) W.heap h') := by
  rw [Try.params6] at hA hval
  obtain ⟨v0, vs0, d0, ds0, p0, q0, rfl, rfl, rfl, h0, r0⟩ := trodAll_cons hA
  obtain ⟨v1, vs1, d1, ds1, p1, q1, rfl, rfl, rfl, h1, r1⟩ := trodAll_cons r0
  obtain ⟨v2, vs2, d2, ds2, p2, q2, rfl, rfl, rfl, h2, r2⟩ := trodAll_cons r1
  obtain ⟨v3, vs3, d3, ds3, p3, q3, rfl, rfl, rfl, h3, r3⟩ := trodAll_cons r2
  obtain ⟨rfl, rfl, rfl⟩ := trodAll_nil r3
  obtain ⟨a, rfl, a1, a2⟩ := arg_int Try.underlying3 (hval 0 3 v0 rfl rfl) h0
  obtain ⟨b, rfl, b1, b2⟩ := arg_int Try.underlying3 (hval 1 3 v1 rfl rfl) h1
  obtain ⟨c, rfl, c1, c2⟩ := arg_int Try.underlying3 (hval 2 3 v2 rfl rfl) h2
  have op : Rd Try.prog 44 (InAgg 6 [(0, 1, InInt .i64), (1, 1, InInt .i64), (2, 1, InInt .i64), (3, 1, InInt .u64), (4, 1, InSl 1 (InInt .u8)), (5, 1, InSl 1 InBool)]) :=
    Rd.struct Try.underlying44 (by kernel_rfl) (.cons (by kernel_rfl) (Rd.int Try.underlying3) (.cons (by kernel_rfl) (Rd.int Try.underlying3) (.cons (by kernel_rfl) (Rd.int Try.underlying3) (.cons (by kernel_rfl) (Rd.int Try.underlying25) (.cons (by kernel_rfl) (Rd.sl Try.underlying31 (m := 1) (by kernel_rfl) (Rd.int Try.underlying5)) (.cons (by kernel_rfl) (Rd.sl Try.underlying35 (m := 1) (by kernel_rfl) (Rd.bool Try.underlying4)) .nil))))))
  obtain ⟨o, l, k, rfl, i1⟩ := arg_sl Try.underlying39 (Rd.sl Try.underlying39 (m := 6) (by kernel_rfl) op) (hval 3 39 v3 rfl rfl) h3
  exact snapPlays_spec (x3 := ⟨o, l, k⟩) ⟨a1, a2⟩ ⟨b1, b2⟩ ⟨c1, c2⟩ (sops_of i1) (fun h' hk => ⟨rfl, hk⟩)

set_option maxRecDepth 100000 in
theorem lifted (os : Os) (started : os.Started) (H : Type) (enc : TypeId × Value → H) :
    ReturnsInHanded {} Try.checked os 6 .any (Rows.snapPlaysSpec.pre6 enc Try.prog Try.f6 Rows.snapPlaysRow.domain false) (Rows.snapPlaysSpec.post enc Try.prog Try.f6 false true false false) := by
  refine returnsInHanded_of_change (C := Try.checked) own started (by kernel_rfl) Try.func6
    (ChangeSpec.witness6 (enc := enc) (C := Try.checked) false ⟨#[], #[.int .i64 0, .int .i64 0, .int .i64 0, .slice none 0 0], []⟩ 8 (by kernel_rfl) (by kernel_rfl) (by kernel_rfl) (by kernel_rfl)) ?_
  intro W base args ds gs before hval hW _ _
  exact lift (tb := 4) (fits := fun _ _ => true) laidOut rfl rfl Try.underlying4
    (fun H ds hl => by
      rw [Try.params6] at hl
      match ds, hl with
      | [d1, d2, d3, d4], _ => rfl)
    (fun t ht => by
      rw [Try.params6] at ht
      simp only [List.mem_cons, List.not_mem_nil, or_false] at ht
      rcases ht with rfl | rfl | rfl | rfl
      · exact ⟨by kernel_rfl, of_decide_eq_true (by kernel_rfl)⟩
      · exact ⟨by kernel_rfl, of_decide_eq_true (by kernel_rfl)⟩
      · exact ⟨by kernel_rfl, of_decide_eq_true (by kernel_rfl)⟩
      · exact ⟨by kernel_rfl, of_decide_eq_true (by kernel_rfl)⟩)
    (fun H enc W base vs ds p hk hA hval => contract H enc W base vs ds p hA hval) W base args ds gs before hval hW rfl

theorem over : Rows.snapPlaysRow.holds Try.pinned (OpenSpec.ofChange Rows.snapPlaysSpec) :=
  OpenClaim.holds_of_wide 6 Try.f6 rfl rfl rfl rfl rfl rfl rfl ⟨rfl, rfl, rfl, rfl, rfl⟩ rfl rfl rfl rfl rfl (by kernel_rfl) Try.func6 (by kernel_rfl)
    (of_decide_eq_true (by kernel_rfl)) (by unfold Func.isWrapper; first | (rw [if_pos (by decide +kernel)]; kernel_rfl) | (rw [if_neg (by decide +kernel)]; exact ⟨rfl, rfl⟩))
    (fun os started H enc _ => lifted os started H enc)

theorem proved : Rows.SnapPlaysSaid := over
end Go.Proofs.Ytmkobpkdodgboaa.snapPlays
namespace Go.Proofs.Ytmkobpkdodgboaa
theorem snapPlays_holds : Rows.SnapPlaysSaid := snapPlays.proved
#print axioms snapPlays_holds
end Go.Proofs.Ytmkobpkdodgboaa
