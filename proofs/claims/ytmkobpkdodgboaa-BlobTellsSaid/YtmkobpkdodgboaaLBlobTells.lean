/- BlobTells: for every input it returns true, and each argument reads as it did. No condition. -/
import Derived.Test.YtmkobpkdodgboaaXLift
import Derived.Test.YtmkobpkdodgboaaPBlobT
namespace Go.Proofs.Ytmkobpkdodgboaa.blobTells
open Go D Go.ChangeShapes Go.WideShapes Go.ChangeAt Go.RowKit Go.Proofs.Ytmkobpkdodgboaa.Blob
set_option linter.unusedVariables false

theorem own : ownKnob Try.prog.godebug = none := by kernel_rfl
theorem laidOut : laidOutB Try.prog = true := by kernel_rfl

set_option maxRecDepth 100000 in
theorem contract (H : Type) (enc : TypeId × Value → H) (W : World) (base : Nat) (vs : List Value) (ds : List (DataW H)) (p : List MemPlace) (hA : DataW.TrodAll enc Try.prog W 0 (fun _ => true) true Try.f12.params.toList vs ds p)
    (hval : ∀ (j : Nat) t v, Try.f12.params[j]? = some t → vs[j]? = some v → Value.okWide Try.prog W .any base t v) : CallT Try.prog 12 vs W.heap [.sc .bool] (fun b h' => b = true ∧ Keep (fun _ => False) W.heap h') := by
  rw [Try.params12] at hA hval
  obtain ⟨v0, vs0, d0, ds0, p0, q0, rfl, rfl, rfl, h0, r0⟩ := trodAll_cons hA
  obtain ⟨v1, vs1, d1, ds1, p1, q1, rfl, rfl, rfl, h1, r1⟩ := trodAll_cons r0
  obtain ⟨v2, vs2, d2, ds2, p2, q2, rfl, rfl, rfl, h2, r2⟩ := trodAll_cons r1
  obtain ⟨rfl, rfl, rfl⟩ := trodAll_nil r2
  obtain ⟨o, l, k, rfl, i1⟩ := arg_sl Try.underlying31 (Rd.sl Try.underlying31 (m := 1) (by kernel_rfl) (Rd.int Try.underlying5)) (hval 0 31 v0 rfl rfl) h0
  obtain ⟨w1, w2, _⟩ := bytes_of i1
  obtain ⟨b, rfl, b1, b2⟩ := arg_int Try.underlying3 (hval 1 3 v1 rfl rfl) h1
  obtain ⟨c, rfl, c1, c2⟩ := arg_int Try.underlying5 (hval 2 5 v2 rfl rfl) h2
  exact blobTells_spec (x0 := ⟨o, l, k⟩) w1 w2 ⟨b1, b2⟩ ⟨c1, c2⟩ (fun h' hk => ⟨rfl, hk⟩)

set_option maxRecDepth 100000 in
theorem lifted (os : Os) (started : os.Started) (H : Type) (enc : TypeId × Value → H) :
    ReturnsInHanded {} Try.checked os 12 .any (Rows.blobTellsSpec.pre6 enc Try.prog Try.f12 Rows.blobTellsRow.domain false) (Rows.blobTellsSpec.post enc Try.prog Try.f12 false true false false) := by
  refine returnsInHanded_of_change (C := Try.checked) own started (by kernel_rfl) Try.func12
    (ChangeSpec.witness6 (enc := enc) (C := Try.checked) false ⟨#[], #[.slice none 0 0, .int .i64 0, .int .u8 0], []⟩ 8 (by kernel_rfl) (by kernel_rfl) (by kernel_rfl) (by kernel_rfl)) ?_
  intro W base args ds gs before hval hW _ _
  exact lift (tb := 4) (fits := fun _ _ => true) laidOut rfl rfl Try.underlying4
    (fun H ds hl => by
      rw [Try.params12] at hl
      match ds, hl with
      | [d1, d2, d3], _ => rfl)
    (fun t ht => by
      rw [Try.params12] at ht
      simp only [List.mem_cons, List.not_mem_nil, or_false] at ht
      rcases ht with rfl | rfl | rfl
      · exact ⟨by kernel_rfl, of_decide_eq_true (by kernel_rfl)⟩
      · exact ⟨by kernel_rfl, of_decide_eq_true (by kernel_rfl)⟩
      · exact ⟨by kernel_rfl, of_decide_eq_true (by kernel_rfl)⟩)
    (fun H enc W base vs ds p hk hA hval => contract H enc W base vs ds p hA hval) W base args ds gs before hval hW rfl

theorem over : Rows.blobTellsRow.holds Try.pinned (OpenSpec.ofChange Rows.blobTellsSpec) :=
  OpenClaim.holds_of_wide 12 Try.f12 rfl rfl rfl rfl rfl rfl rfl ⟨rfl, rfl, rfl, rfl, rfl⟩ rfl rfl rfl rfl rfl (by kernel_rfl) Try.func12 (by kernel_rfl)
    (of_decide_eq_true (by kernel_rfl)) (by unfold Func.isWrapper; first | (rw [if_pos (by decide +kernel)]; kernel_rfl) | (rw [if_neg (by decide +kernel)]; exact ⟨rfl, rfl⟩))
    (fun os started H enc _ => lifted os started H enc)

theorem proved : Rows.BlobTellsSaid := over
end Go.Proofs.Ytmkobpkdodgboaa.blobTells
namespace Go.Proofs.Ytmkobpkdodgboaa
theorem blobTells_holds : Rows.BlobTellsSaid := blobTells.proved
#print axioms blobTells_holds
end Go.Proofs.Ytmkobpkdodgboaa
