/- HttpQueries: for every input it returns true, and each argument reads as it did. Condition: what is read is of bulk at most 1048576. -/
import Derived.Test.YtjpmjhnjdnbopaaPWrapG
import Derived.JoinedCond
import Derived.Test.YtjpmjhnjdnbopaaPQuery
import Derived.Test.YtjpmjhnjdnbopaaPReqs
namespace Go.Proofs.Ytjpmjhnjdnbopaa.httpQueries
open Go D Go.ChangeShapes Go.WideShapes Go.ChangeAt Go.RowKit
set_option linter.unusedVariables false

theorem own : ownKnob Try.prog.godebug = none := by kernel_rfl
theorem laidOut : laidOutB Try.prog = true := by kernel_rfl

set_option maxRecDepth 100000 in
theorem contract (H : Type) (enc : TypeId × Value → H) (W : World) (base : Nat) (vs : List Value) (ds : List (DataW H)) (p : List MemPlace) (hA : DataW.TrodAll enc Try.prog W 0 (fun _ => true) true Try.f9.params.toList vs ds p)
    (hval : ∀ (j : Nat) t v, Try.f9.params[j]? = some t → vs[j]? = some v → Value.okWide Try.prog W .any base t v) (hg : MaxG W.heap) (hk : Rows.uptoSmall H ds = true) : CallT Try.prog 9 vs W.heap [.sc .bool] (fun b h' => b = true ∧ Keep (fun _ => False) W.heap h') := by
  rw [Try.params9] at hA hval
  obtain ⟨v0, vs0, d0, ds0, p0, q0, rfl, rfl, rfl, h0, r0⟩ := trodAll_cons hA
  obtain ⟨v1, vs1, d1, ds1, p1, q1, rfl, rfl, rfl, h1, r1⟩ := trodAll_cons r0
  obtain ⟨v2, vs2, d2, ds2, p2, q2, rfl, rfl, rfl, h2, r2⟩ := trodAll_cons r1
  obtain ⟨rfl, rfl, rfl⟩ := trodAll_nil r2
  have hb : Rows.uptoBulkAll [d0, d1, d2] ≤ 1048576 := of_decide_eq_true hk
  simp only [Rows.uptoBulkAll] at hb
  obtain ⟨t, rfl, t1, t2⟩ := arg_str Try.underlying9 (hval 0 9 v0 rfl rfl) h0
  obtain ⟨a, l, c, rfl, i1⟩ := arg_slP Try.underlying24 hdsRd (hval 1 24 v1 rfl rfl) h1
  obtain ⟨s, rfl, s1, s2⟩ := arg_str Try.underlying9 (hval 2 9 v2 rfl rfl) h2
  obtain ⟨g1, g2, g3, g4⟩ := hds_of i1
  exact httpQueries_spec (x1 := ⟨a, l, c⟩) hg (by omega) g1 (by show l ≤ _; omega) (fun h' hk => ⟨rfl, hk⟩)

set_option maxRecDepth 100000 in
theorem lifted (os : Os) (started : os.Started) (H : Type) (enc : TypeId × Value → H) (F : Stop.Interp) :
    ReturnsInHanded {} Try.checked os 9 .any ((Rows.OpenSpec.upto Rows.httpQueriesSpec).pre6 enc Try.prog Try.f9 Rows.httpQueriesUptoRow.domain false) (((Rows.OpenSpec.upto Rows.httpQueriesSpec).at F).post enc Try.prog Try.f9 false true false false) := by
  refine ret_cond_shaped (C := Try.checked) (s := Rows.OpenSpec.upto Rows.httpQueriesSpec) (k := Rows.uptoSmall) rfl own started (by kernel_rfl) Try.func9
    (OpenSpec.witness (enc := enc) (C := Try.checked) (s := Rows.OpenSpec.upto Rows.httpQueriesSpec) (k := Rows.uptoSmall) rfl false ⟨#[], #[.string ⟨#[]⟩, .slice none 0 0, .string ⟨#[]⟩], []⟩ 8 (by kernel_rfl) (by kernel_rfl) (by kernel_rfl)
      (x := ([.lit (.string []), .nil, .lit (.string [])], [], [])) (by kernel_rfl) rfl (by kernel_rfl)) ?_
  intro W base args ds gs before hval hW hf hsh
  have hgs : gs = [] := by
    obtain ⟨p, q, hA0, hV, hrest⟩ := hW
    exact (trodVars_none hV).1
  subst hgs
  rw [List.append_nil] at hf
  exact liftW (Q := fun W => MaxG W.heap) (tb := 4) (fits := fun H ds => Rows.uptoSmall H ds) laidOut rfl rfl Try.underlying4
    (fun H ds hl => by
      rw [Try.params9] at hl
      match ds, hl with
      | [d1, d2, d3], _ => rfl)
    (fun t ht => by
      rw [Try.params9] at ht
      simp only [List.mem_cons, List.not_mem_nil, or_false] at ht
      rcases ht with rfl | rfl | rfl
      · exact ⟨by kernel_rfl, of_decide_eq_true (by kernel_rfl)⟩
      · exact ⟨by kernel_rfl, of_decide_eq_true (by kernel_rfl)⟩
      · exact ⟨by kernel_rfl, of_decide_eq_true (by kernel_rfl)⟩)
    (fun H enc W base vs ds p hg hk hA hval => contract H enc W base vs ds p hA hval hg hk) W base args ds [] before (maxG_of hsh) hval hW hf

theorem over : Rows.httpQueriesUptoRow.holds Try.pinned (Rows.OpenSpec.upto Rows.httpQueriesSpec) :=
  OpenClaim.holds_of_cond 9 Try.f9 rfl rfl rfl rfl rfl rfl rfl ⟨rfl, rfl, rfl, rfl, rfl⟩ rfl rfl rfl rfl rfl (by kernel_rfl) Try.func9 (by kernel_rfl)
    (of_decide_eq_true (by kernel_rfl)) (by unfold Func.isWrapper; first | (rw [if_pos (by decide +kernel)]; kernel_rfl) | (rw [if_neg (by decide +kernel)]; exact ⟨rfl, rfl⟩))
    (fun os started H enc _ F => lifted os started H enc F)

theorem proved : Rows.HttpQueriesUptoSaid := over
end Go.Proofs.Ytjpmjhnjdnbopaa.httpQueries
namespace Go.Proofs.Ytjpmjhnjdnbopaa
theorem httpQueries_holds : Rows.HttpQueriesUptoSaid := httpQueries.proved
#print axioms httpQueries_holds
end Go.Proofs.Ytjpmjhnjdnbopaa
