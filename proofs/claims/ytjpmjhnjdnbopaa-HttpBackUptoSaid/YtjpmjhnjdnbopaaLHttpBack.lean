/- HttpBack: for every input it returns true, and each argument reads as it did. Condition: what is read is of bulk at most 1048576. -/
import Derived.Test.YtjpmjhnjdnbopaaPWrapG
import Derived.JoinedCond
import Derived.Test.YtjpmjhnjdnbopaaPBackH
namespace Go.Proofs.Ytjpmjhnjdnbopaa.httpBack
open Go D Go.ChangeShapes Go.WideShapes Go.ChangeAt Go.RowKit
set_option linter.unusedVariables false

theorem own : ownKnob Try.prog.godebug = none := by kernel_rfl
theorem laidOut : laidOutB Try.prog = true := by kernel_rfl

set_option maxRecDepth 100000 in
theorem contract (H : Type) (enc : TypeId × Value → H) (W : World) (base : Nat) (vs : List Value) (ds : List (DataW H)) (p : List MemPlace) (hA : DataW.TrodAll enc Try.prog W 0 (fun _ => true) true Try.f10.params.toList vs ds p)
    (hval : ∀ (j : Nat) t v, Try.f10.params[j]? = some t → vs[j]? = some v → Value.okWide Try.prog W .any base t v) (hg : MaxG W.heap) (hk : Rows.uptoSmall H ds = true) : CallT Try.prog 10 vs W.heap [.sc .bool] (fun b h' => b = true ∧ Keep (fun _ => False) W.heap h') := by
  rw [Try.params10] at hA hval
  obtain ⟨v0, vs0, d0, ds0, p0, q0, rfl, rfl, rfl, h0, r0⟩ := trodAll_cons hA
  obtain ⟨v1, vs1, d1, ds1, p1, q1, rfl, rfl, rfl, h1, r1⟩ := trodAll_cons r0
  obtain ⟨rfl, rfl, rfl⟩ := trodAll_nil r1
  have hb : Rows.uptoBulkAll [d0, d1] ≤ 1048576 := of_decide_eq_true hk
  simp only [Rows.uptoBulkAll] at hb
  obtain ⟨cs, rfl, i0⟩ := arg_structP Try.underlying26 reqRd (hval 0 26 v0 rfl rfl) h0
  obtain ⟨m, t, hl, bo, hds, body, e, ra⟩ := req_of i0
  obtain ⟨a, l, c, rfl, i1⟩ := arg_sl Try.underlying22 (Rd.sl Try.underlying22 (m := 1) (by kernel_rfl) (Rd.int Try.underlying5)) (hval 1 22 v1 rfl rfl) h1
  obtain ⟨b1, b2, b3⟩ := bytes_of i1
  have e2 : cs = #[.string m, .string t, .slice hl.a hl.len hl.cap, .slice bo.a bo.len bo.cap] := by rw [← e]
  subst e2
  exact httpBack_spec (x1 := ⟨a, l, c⟩) hg ra (by omega) b1 (by show l ≤ _; omega) (fun h' hk => ⟨rfl, hk⟩)

set_option maxRecDepth 100000 in
theorem lifted (os : Os) (started : os.Started) (H : Type) (enc : TypeId × Value → H) (F : Stop.Interp) :
    ReturnsInHanded {} Try.checked os 10 .any ((Rows.OpenSpec.upto Rows.httpBackSpec).pre6 enc Try.prog Try.f10 Rows.httpBackUptoRow.domain false) (((Rows.OpenSpec.upto Rows.httpBackSpec).at F).post enc Try.prog Try.f10 false true false false) := by
  refine ret_cond_shaped (C := Try.checked) (s := Rows.OpenSpec.upto Rows.httpBackSpec) (k := Rows.uptoSmall) rfl own started (by kernel_rfl) Try.func10
    (OpenSpec.witness (enc := enc) (C := Try.checked) (s := Rows.OpenSpec.upto Rows.httpBackSpec) (k := Rows.uptoSmall) rfl false ⟨#[], #[.agg #[.string ⟨#[]⟩, .string ⟨#[]⟩, .slice none 0 0, .slice none 0 0], .slice none 0 0], []⟩ 8 (by kernel_rfl) (by kernel_rfl) (by kernel_rfl)
      (x := ([.agg [.lit (.string []), .lit (.string []), .nil, .nil], .nil], [], [])) (by kernel_rfl) rfl (by kernel_rfl)) ?_
  intro W base args ds gs before hval hW hf hsh
  have hgs : gs = [] := by
    obtain ⟨p, q, hA0, hV, hrest⟩ := hW
    exact (trodVars_none hV).1
  subst hgs
  rw [List.append_nil] at hf
  exact liftW (Q := fun W => MaxG W.heap) (tb := 4) (fits := fun H ds => Rows.uptoSmall H ds) laidOut rfl rfl Try.underlying4
    (fun H ds hl => by
      rw [Try.params10] at hl
      match ds, hl with
      | [d1, d2], _ => rfl)
    (fun t ht => by
      rw [Try.params10] at ht
      simp only [List.mem_cons, List.not_mem_nil, or_false] at ht
      rcases ht with rfl | rfl
      · exact ⟨by kernel_rfl, of_decide_eq_true (by kernel_rfl)⟩
      · exact ⟨by kernel_rfl, of_decide_eq_true (by kernel_rfl)⟩)
    (fun H enc W base vs ds p hg hk hA hval => contract H enc W base vs ds p hA hval hg hk) W base args ds [] before (maxG_of hsh) hval hW hf

theorem over : Rows.httpBackUptoRow.holds Try.pinned (Rows.OpenSpec.upto Rows.httpBackSpec) :=
  OpenClaim.holds_of_cond 10 Try.f10 rfl rfl rfl rfl rfl rfl rfl ⟨rfl, rfl, rfl, rfl, rfl⟩ rfl rfl rfl rfl rfl (by kernel_rfl) Try.func10 (by kernel_rfl)
    (of_decide_eq_true (by kernel_rfl)) (by unfold Func.isWrapper; first | (rw [if_pos (by decide +kernel)]; kernel_rfl) | (rw [if_neg (by decide +kernel)]; exact ⟨rfl, rfl⟩))
    (fun os started H enc _ F => lifted os started H enc F)

theorem proved : Rows.HttpBackUptoSaid := over
end Go.Proofs.Ytjpmjhnjdnbopaa.httpBack
namespace Go.Proofs.Ytjpmjhnjdnbopaa
theorem httpBack_holds : Rows.HttpBackUptoSaid := httpBack.proved
#print axioms httpBack_holds
end Go.Proofs.Ytjpmjhnjdnbopaa
