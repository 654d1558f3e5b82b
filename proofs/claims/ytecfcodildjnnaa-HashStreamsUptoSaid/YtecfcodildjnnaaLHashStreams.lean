/- HashStreams: for every input it returns true, and each argument reads as it did. Condition: what is read is of bulk at most 1048576. -/
import Derived.Test.YtecfcodildjnnaaXLift
import Derived.JoinedCond
import Derived.Test.YtecfcodildjnnaaPStreams
namespace Go.Proofs.Ytecfcodildjnnaa.hashStreams
open Go D Go.ChangeShapes Go.WideShapes Go.ChangeAt Go.RowKit Go.Proofs.Ytecfcodildjnnaa.Hash
set_option linter.unusedVariables false

theorem own : ownKnob Try.prog.godebug = none := by kernel_rfl
theorem laidOut : laidOutB Try.prog = true := by kernel_rfl

set_option maxRecDepth 100000 in
theorem contract (H : Type) (enc : TypeId × Value → H) (W : World) (base : Nat) (vs : List Value) (ds : List (DataW H)) (p : List MemPlace) (hA : DataW.TrodAll enc Try.prog W 0 (fun _ => true) true Try.f5.params.toList vs ds p)
    (hval : ∀ (j : Nat) t v, Try.f5.params[j]? = some t → vs[j]? = some v → Value.okWide Try.prog W .any base t v) (hk : Rows.uptoSmall H ds = true) : CallT Try.prog 5 vs W.heap [.sc .bool] (fun b h' => b = true ∧ Keep (fun _ => False) W.heap h') := by
  rw [Try.params5] at hA hval
  obtain ⟨v0, vs0, d0, ds0, p0, q0, rfl, rfl, rfl, h0, r0⟩ := trodAll_cons hA
  obtain ⟨v1, vs1, d1, ds1, p1, q1, rfl, rfl, rfl, h1, r1⟩ := trodAll_cons r0
  obtain ⟨v2, vs2, d2, ds2, p2, q2, rfl, rfl, rfl, h2, r2⟩ := trodAll_cons r1
  obtain ⟨rfl, rfl, rfl⟩ := trodAll_nil r2
  have hb : Rows.uptoBulkAll [d0, d1, d2] ≤ 1048576 := of_decide_eq_true hk
  simp only [Rows.uptoBulkAll] at hb
  have el : Rd Try.prog 22 (InSl 1 (InInt .u8)) := Rd.sl Try.underlying22 (m := 1) (by kernel_rfl) (Rd.int Try.underlying5)
  obtain ⟨a, rfl, a1, a2⟩ := arg_int Try.underlying3 (hval 0 3 v0 rfl rfl) h0
  obtain ⟨o, l, k, rfl, i1⟩ := arg_sl Try.underlying30 (Rd.sl Try.underlying30 (m := 1) (by kernel_rfl) el) (hval 1 30 v1 rfl rfl) h1
  obtain ⟨c, rfl, c1, c2⟩ := arg_int Try.underlying3 (hval 2 3 v2 rfl rfl) h2
  have hs : BlsAt 1048576 W.heap o l := fun i hi => by
    obtain ⟨x, a', l', c', e1, e2, e3, e4, e5⟩ := bls_of i1 i hi
    exact ⟨x, a', l', c', e1, e2, e3, e4, by omega⟩
  exact hashStreams_spec (x1 := ⟨o, l, k⟩) ⟨a1, a2⟩ hs (fun h' hk => ⟨rfl, hk⟩)

set_option maxRecDepth 100000 in
theorem lifted (os : Os) (started : os.Started) (H : Type) (enc : TypeId × Value → H) (F : Stop.Interp) :
    ReturnsInHanded {} Try.checked os 5 .any ((Rows.OpenSpec.upto Rows.hashStreamsSpec).pre6 enc Try.prog Try.f5 Rows.hashStreamsUptoRow.domain false) (((Rows.OpenSpec.upto Rows.hashStreamsSpec).at F).post enc Try.prog Try.f5 false true false false) := by
  refine returnsInHanded_of_cond (C := Try.checked) (s := Rows.OpenSpec.upto Rows.hashStreamsSpec) (k := Rows.uptoSmall) rfl own started (by kernel_rfl) Try.func5
    (OpenSpec.witness (enc := enc) (C := Try.checked) (s := Rows.OpenSpec.upto Rows.hashStreamsSpec) (k := Rows.uptoSmall) rfl false ⟨#[], #[.int .i64 0, .slice none 0 0, .int .i64 0], []⟩ 8 (by kernel_rfl) (by kernel_rfl) (by kernel_rfl)
      (x := ([.lit (.int .i64 0), .nil, .lit (.int .i64 0)], [], [])) (by kernel_rfl) rfl (by kernel_rfl)) ?_
  intro W base args ds gs before hval hW _ hf _
  have hgs : gs = [] := by
    obtain ⟨p, q, hA0, hV, hrest⟩ := hW
    exact (trodVars_none hV).1
  subst hgs
  rw [List.append_nil] at hf
  exact lift (tb := 4) (fits := fun H ds => Rows.uptoSmall H ds) laidOut rfl rfl Try.underlying4
    (fun H ds hl => by
      rw [Try.params5] at hl
      match ds, hl with
      | [d1, d2, d3], _ => rfl)
    (fun t ht => by
      rw [Try.params5] at ht
      simp only [List.mem_cons, List.not_mem_nil, or_false] at ht
      rcases ht with rfl | rfl | rfl
      · exact ⟨by kernel_rfl, of_decide_eq_true (by kernel_rfl)⟩
      · exact ⟨by kernel_rfl, of_decide_eq_true (by kernel_rfl)⟩
      · exact ⟨by kernel_rfl, of_decide_eq_true (by kernel_rfl)⟩)
    (fun H enc W base vs ds p hk hA hval => contract H enc W base vs ds p hA hval hk) W base args ds [] before hval hW hf

theorem over : Rows.hashStreamsUptoRow.holds Try.pinned (Rows.OpenSpec.upto Rows.hashStreamsSpec) :=
  OpenClaim.holds_of_cond 5 Try.f5 rfl rfl rfl rfl rfl rfl rfl ⟨rfl, rfl, rfl, rfl, rfl⟩ rfl rfl rfl rfl rfl (by kernel_rfl) Try.func5 (by kernel_rfl)
    (of_decide_eq_true (by kernel_rfl)) (by unfold Func.isWrapper; first | (rw [if_pos (by decide +kernel)]; kernel_rfl) | (rw [if_neg (by decide +kernel)]; exact ⟨rfl, rfl⟩))
    (fun os started H enc _ F => lifted os started H enc F)

theorem proved : Rows.HashStreamsUptoSaid := over
end Go.Proofs.Ytecfcodildjnnaa.hashStreams
namespace Go.Proofs.Ytecfcodildjnnaa
theorem hashStreams_holds : Rows.HashStreamsUptoSaid := hashStreams.proved
#print axioms hashStreams_holds
end Go.Proofs.Ytecfcodildjnnaa
