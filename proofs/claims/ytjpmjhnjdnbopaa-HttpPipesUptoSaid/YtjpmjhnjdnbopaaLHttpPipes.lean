/- HttpPipes: for every input it returns true, and each argument reads as it did. Condition: what is read is of bulk at most 1048576. -/
import Derived.Test.YtjpmjhnjdnbopaaPWrapG
import Derived.JoinedCond
import Derived.Test.YtjpmjhnjdnbopaaPPipes
namespace Go.Proofs.Ytjpmjhnjdnbopaa.httpPipes
open Go D Go.ChangeShapes Go.WideShapes Go.ChangeAt Go.RowKit
set_option linter.unusedVariables false

theorem own : ownKnob Try.prog.godebug = none := by kernel_rfl
theorem laidOut : laidOutB Try.prog = true := by kernel_rfl

set_option maxRecDepth 100000 in
theorem contract (H : Type) (enc : TypeId × Value → H) (W : World) (base : Nat) (vs : List Value) (ds : List (DataW H)) (p : List MemPlace) (hA : DataW.TrodAll enc Try.prog W 0 (fun _ => true) true Try.f7.params.toList vs ds p)
    (hval : ∀ (j : Nat) t v, Try.f7.params[j]? = some t → vs[j]? = some v → Value.okWide Try.prog W .any base t v) (hg : MaxG W.heap) (hk : Rows.uptoSmall H ds = true) : CallT Try.prog 7 vs W.heap [.sc .bool] (fun b h' => b = true ∧ Keep (fun _ => False) W.heap h') := by
  rw [Try.params7] at hA hval
  obtain ⟨v0, vs0, d0, ds0, p0, q0, rfl, rfl, rfl, h0, r0⟩ := trodAll_cons hA
  obtain ⟨rfl, rfl, rfl⟩ := trodAll_nil r0
  have hb : Rows.uptoBulkAll [d0] ≤ 1048576 := of_decide_eq_true hk
  simp only [Rows.uptoBulkAll] at hb
  obtain ⟨a, l, c, rfl, i0⟩ := arg_sl Try.underlying43 (Rd.sl Try.underlying43 (m := 4) (by kernel_rfl) reqRd) (hval 0 43 v0 rfl rfl) h0
  exact httpPipes_spec (x0 := ⟨a, l, c⟩) hg (reqs_of (by omega) i0) (fun h' hk => ⟨rfl, hk⟩)

set_option maxRecDepth 100000 in
theorem lifted (os : Os) (started : os.Started) (H : Type) (enc : TypeId × Value → H) (F : Stop.Interp) :
    ReturnsInHanded {} Try.checked os 7 .any ((Rows.OpenSpec.upto Rows.httpPipesSpec).pre6 enc Try.prog Try.f7 Rows.httpPipesUptoRow.domain false) (((Rows.OpenSpec.upto Rows.httpPipesSpec).at F).post enc Try.prog Try.f7 false true false false) := by
  refine ret_cond_shaped (C := Try.checked) (s := Rows.OpenSpec.upto Rows.httpPipesSpec) (k := Rows.uptoSmall) rfl own started (by kernel_rfl) Try.func7
    (OpenSpec.witness (enc := enc) (C := Try.checked) (s := Rows.OpenSpec.upto Rows.httpPipesSpec) (k := Rows.uptoSmall) rfl false ⟨#[], #[.slice none 0 0], []⟩ 8 (by kernel_rfl) (by kernel_rfl) (by kernel_rfl)
      (x := ([.nil], [], [])) (by kernel_rfl) rfl (by kernel_rfl)) ?_
  intro W base args ds gs before hval hW hf hsh
  have hgs : gs = [] := by
    obtain ⟨p, q, hA0, hV, hrest⟩ := hW
    exact (trodVars_none hV).1
  subst hgs
  rw [List.append_nil] at hf
  exact liftW (Q := fun W => MaxG W.heap) (tb := 4) (fits := fun H ds => Rows.uptoSmall H ds) laidOut rfl rfl Try.underlying4
    (fun H ds hl => by
      rw [Try.params7] at hl
      match ds, hl with
      | [d1], _ => rfl)
    (fun t ht => by
      rw [Try.params7] at ht
      simp only [List.mem_cons, List.not_mem_nil, or_false] at ht
      subst ht
      exact ⟨by kernel_rfl, of_decide_eq_true (by kernel_rfl)⟩)
    (fun H enc W base vs ds p hg hk hA hval => contract H enc W base vs ds p hA hval hg hk) W base args ds [] before (maxG_of hsh) hval hW hf

theorem over : Rows.httpPipesUptoRow.holds Try.pinned (Rows.OpenSpec.upto Rows.httpPipesSpec) :=
  OpenClaim.holds_of_cond 7 Try.f7 rfl rfl rfl rfl rfl rfl rfl ⟨rfl, rfl, rfl, rfl, rfl⟩ rfl rfl rfl rfl rfl (by kernel_rfl) Try.func7 (by kernel_rfl)
    (of_decide_eq_true (by kernel_rfl)) (by unfold Func.isWrapper; first | (rw [if_pos (by decide +kernel)]; kernel_rfl) | (rw [if_neg (by decide +kernel)]; exact ⟨rfl, rfl⟩))
    (fun os started H enc _ F => lifted os started H enc F)

theorem proved : Rows.HttpPipesUptoSaid := over
end Go.Proofs.Ytjpmjhnjdnbopaa.httpPipes
namespace Go.Proofs.Ytjpmjhnjdnbopaa
theorem httpPipes_holds : Rows.HttpPipesUptoSaid := httpPipes.proved
#print axioms httpPipes_holds
end Go.Proofs.Ytjpmjhnjdnbopaa
