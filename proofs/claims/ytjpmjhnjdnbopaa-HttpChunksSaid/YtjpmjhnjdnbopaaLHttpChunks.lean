/- HttpChunks: for every input it returns true, and each argument reads as it did. No condition. -/
import Derived.Test.YtjpmjhnjdnbopaaPWrapG
import Derived.Test.YtjpmjhnjdnbopaaPChnkB
namespace Go.Proofs.Ytjpmjhnjdnbopaa.httpChunks
open Go D Go.ChangeShapes Go.WideShapes Go.ChangeAt Go.RowKit
set_option linter.unusedVariables false

theorem own : ownKnob Try.prog.godebug = none := by kernel_rfl
theorem laidOut : laidOutB Try.prog = true := by kernel_rfl

set_option maxRecDepth 100000 in
theorem contract (H : Type) (enc : TypeId × Value → H) (W : World) (base : Nat) (vs : List Value) (ds : List (DataW H)) (p : List MemPlace) (hA : DataW.TrodAll enc Try.prog W 0 (fun _ => true) true Try.f4.params.toList vs ds p)
    (hval : ∀ (j : Nat) t v, Try.f4.params[j]? = some t → vs[j]? = some v → Value.okWide Try.prog W .any base t v) (hg : MaxG W.heap) : CallT Try.prog 4 vs W.heap [.sc .bool] (fun b h' => b = true ∧ Keep (fun _ => False) W.heap h') := by
  rw [Try.params4] at hA hval
  obtain ⟨v0, vs0, d0, ds0, p0, q0, rfl, rfl, rfl, h0, r0⟩ := trodAll_cons hA
  obtain ⟨v1, vs1, d1, ds1, p1, q1, rfl, rfl, rfl, h1, r1⟩ := trodAll_cons r0
  obtain ⟨v2, vs2, d2, ds2, p2, q2, rfl, rfl, rfl, h2, r2⟩ := trodAll_cons r1
  obtain ⟨rfl, rfl, rfl⟩ := trodAll_nil r2
  have el : Rd Try.prog 22 (InSl 1 (InInt .u8)) := Rd.sl Try.underlying22 (m := 1) (by kernel_rfl) (Rd.int Try.underlying5)
  obtain ⟨a, l, c, rfl, i0⟩ := arg_sl Try.underlying33 (Rd.sl Try.underlying33 (m := 1) (by kernel_rfl) el) (hval 0 33 v0 rfl rfl) h0
  obtain ⟨u, rfl⟩ := arg_bool Try.underlying4 (hval 1 4 v1 rfl rfl) h1
  obtain ⟨t, rfl⟩ := arg_bool Try.underlying4 (hval 2 4 v2 rfl rfl) h2
  exact httpChunks_spec (x0 := ⟨a, l, c⟩) hg (bls_of i0) (fun h' hk => ⟨rfl, hk⟩)

set_option maxRecDepth 100000 in
theorem lifted (os : Os) (started : os.Started) (H : Type) (enc : TypeId × Value → H) :
    ReturnsInHanded {} Try.checked os 4 .any (Rows.httpChunksSpec.pre6 enc Try.prog Try.f4 Rows.httpChunksRow.domain false) (Rows.httpChunksSpec.post enc Try.prog Try.f4 false true false false) := by
  refine returnsInHanded_of_change_shaped (C := Try.checked) own started (by kernel_rfl) Try.func4
    (ChangeSpec.witness6 (enc := enc) (C := Try.checked) false ⟨#[], #[.slice none 0 0, .bool false, .bool false], []⟩ 8 (by kernel_rfl) (by kernel_rfl) (by kernel_rfl) (by kernel_rfl)) ?_
  intro W base args ds gs before hval hW _ hsz hsh _
  exact liftW (Q := fun W => MaxG W.heap) (tb := 4) (fits := fun _ _ => true) laidOut rfl rfl Try.underlying4
    (fun H ds hl => by
      rw [Try.params4] at hl
      match ds, hl with
      | [d1, d2, d3], _ => rfl)
    (fun t ht => by
      rw [Try.params4] at ht
      simp only [List.mem_cons, List.not_mem_nil, or_false] at ht
      rcases ht with rfl | rfl | rfl
      · exact ⟨by kernel_rfl, of_decide_eq_true (by kernel_rfl)⟩
      · exact ⟨by kernel_rfl, of_decide_eq_true (by kernel_rfl)⟩
      · exact ⟨by kernel_rfl, of_decide_eq_true (by kernel_rfl)⟩)
    (fun H enc W base vs ds p hg hk hA hval => contract H enc W base vs ds p hA hval hg) W base args ds gs before (maxG_of hsh) hval hW rfl

theorem over : Rows.httpChunksRow.holds Try.pinned (OpenSpec.ofChange Rows.httpChunksSpec) :=
  OpenClaim.holds_of_wide 4 Try.f4 rfl rfl rfl rfl rfl rfl rfl ⟨rfl, rfl, rfl, rfl, rfl⟩ rfl rfl rfl rfl rfl (by kernel_rfl) Try.func4 (by kernel_rfl)
    (of_decide_eq_true (by kernel_rfl)) (by unfold Func.isWrapper; first | (rw [if_pos (by decide +kernel)]; kernel_rfl) | (rw [if_neg (by decide +kernel)]; exact ⟨rfl, rfl⟩))
    (fun os started H enc _ => lifted os started H enc)

theorem proved : Rows.HttpChunksSaid := over
end Go.Proofs.Ytjpmjhnjdnbopaa.httpChunks
namespace Go.Proofs.Ytjpmjhnjdnbopaa
theorem httpChunks_holds : Rows.HttpChunksSaid := httpChunks.proved
#print axioms httpChunks_holds
end Go.Proofs.Ytjpmjhnjdnbopaa
