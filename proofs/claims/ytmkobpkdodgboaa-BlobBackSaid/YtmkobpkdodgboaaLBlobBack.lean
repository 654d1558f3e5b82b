/- BlobBack: for every input it returns true, and each argument reads as it did. No condition. -/
import Derived.Test.YtmkobpkdodgboaaXLift
import Derived.Test.YtmkobpkdodgboaaPBlobK
namespace Go.Proofs.Ytmkobpkdodgboaa.blobBack
open Go D Go.ChangeShapes Go.WideShapes Go.ChangeAt Go.RowKit Go.Proofs.Ytmkobpkdodgboaa.Blob
set_option linter.unusedVariables false

theorem own : ownKnob Try.prog.godebug = none := by kernel_rfl
theorem laidOut : laidOutB Try.prog = true := by kernel_rfl

set_option maxRecDepth 100000 in
theorem contract (H : Type) (enc : TypeId × Value → H) (W : World) (base : Nat) (vs : List Value) (ds : List (DataW H)) (p : List MemPlace) (hA : DataW.TrodAll enc Try.prog W 0 (fun _ => true) true Try.f14.params.toList vs ds p)
    (hval : ∀ (j : Nat) t v, Try.f14.params[j]? = some t → vs[j]? = some v → Value.okWide Try.prog W .any base t v) : CallT Try.prog 14 vs W.heap [.sc .bool] (fun b h' => b = true ∧ Keep (fun _ => False) W.heap h') := by
  rw [Try.params14] at hA hval
  obtain ⟨v0, vs0, d0, ds0, p0, q0, rfl, rfl, rfl, h0, r0⟩ := trodAll_cons hA
  obtain ⟨v1, vs1, d1, ds1, p1, q1, rfl, rfl, rfl, h1, r1⟩ := trodAll_cons r0
  obtain ⟨v2, vs2, d2, ds2, p2, q2, rfl, rfl, rfl, h2, r2⟩ := trodAll_cons r1
  obtain ⟨rfl, rfl, rfl⟩ := trodAll_nil r2
  have el : Rd Try.prog 31 (InSl 1 (InInt .u8)) := Rd.sl Try.underlying31 (m := 1) (by kernel_rfl) (Rd.int Try.underlying5)
  obtain ⟨o, l, k, rfl, i1⟩ := arg_sl Try.underlying24 (Rd.sl Try.underlying24 (m := 1) (by kernel_rfl) el) (hval 0 24 v0 rfl rfl) h0
  obtain ⟨o2, l2, k2, rfl, i2⟩ := arg_sl Try.underlying35 (Rd.sl Try.underlying35 (m := 1) (by kernel_rfl) (Rd.bool Try.underlying4)) (hval 1 35 v1 rfl rfl) h1
  obtain ⟨b, rfl, b1, b2⟩ := arg_int Try.underlying3 (hval 2 3 v2 rfl rfl) h2
  exact blobBack_spec (x0 := ⟨o, l, k⟩) (x1 := ⟨o2, l2, k2⟩) (bls_of i1) (bools_of i2) ⟨b1, b2⟩ (fun h' hk => ⟨rfl, hk⟩)

set_option maxRecDepth 100000 in
theorem lifted (os : Os) (started : os.Started) (H : Type) (enc : TypeId × Value → H) :
    ReturnsInHanded {} Try.checked os 14 .any (Rows.blobBackSpec.pre6 enc Try.prog Try.f14 Rows.blobBackRow.domain false) (Rows.blobBackSpec.post enc Try.prog Try.f14 false true false false) := by
  refine returnsInHanded_of_change (C := Try.checked) own started (by kernel_rfl) Try.func14
    (ChangeSpec.witness6 (enc := enc) (C := Try.checked) false ⟨#[], #[.slice none 0 0, .slice none 0 0, .int .i64 0], []⟩ 8 (by kernel_rfl) (by kernel_rfl) (by kernel_rfl) (by kernel_rfl)) ?_
  intro W base args ds gs before hval hW _ _
  exact lift (tb := 4) (fits := fun _ _ => true) laidOut rfl rfl Try.underlying4
    (fun H ds hl => by
      rw [Try.params14] at hl
      match ds, hl with
      | [d1, d2, d3], _ => rfl)
    (fun t ht => by
      rw [Try.params14] at ht
      simp only [List.mem_cons, List.not_mem_nil, or_false] at ht
      rcases ht with rfl | rfl | rfl
      · exact ⟨by kernel_rfl, of_decide_eq_true (by kernel_rfl)⟩
      · exact ⟨by kernel_rfl, of_decide_eq_true (by kernel_rfl)⟩
      · exact ⟨by kernel_rfl, of_decide_eq_true (by kernel_rfl)⟩)
    (fun H enc W base vs ds p hk hA hval => contract H enc W base vs ds p hA hval) W base args ds gs before hval hW rfl

theorem over : Rows.blobBackRow.holds Try.pinned (OpenSpec.ofChange Rows.blobBackSpec) :=
  OpenClaim.holds_of_wide 14 Try.f14 rfl rfl rfl rfl rfl rfl rfl ⟨rfl, rfl, rfl, rfl, rfl⟩ rfl rfl rfl rfl rfl (by kernel_rfl) Try.func14 (by kernel_rfl)
    (of_decide_eq_true (by kernel_rfl)) (by unfold Func.isWrapper; first | (rw [if_pos (by decide +kernel)]; kernel_rfl) | (rw [if_neg (by decide +kernel)]; exact ⟨rfl, rfl⟩))
    (fun os started H enc _ => lifted os started H enc)

theorem proved : Rows.BlobBackSaid := over
end Go.Proofs.Ytmkobpkdodgboaa.blobBack
namespace Go.Proofs.Ytmkobpkdodgboaa
theorem blobBack_holds : Rows.BlobBackSaid := blobBack.proved
#print axioms blobBack_holds
end Go.Proofs.Ytmkobpkdodgboaa
