/- TreeEmpties: for every input it returns true, and each argument reads as it did. Condition: what is read is of bulk at most 1048576. -/
import Derived.Test.YtopnljjfpfnhfaaXLift
import Derived.JoinedCond
import Derived.Test.YtopnljjfpfnhfaaPShapeF
namespace Go.Proofs.Ytopnljjfpfnhfaa.treeEmpties
open Go D Go.ChangeShapes Go.WideShapes Go.ChangeAt Go.RowKit
set_option linter.unusedVariables false

theorem own : ownKnob Try.prog.godebug = none := by kernel_rfl
theorem laidOut : laidOutB Try.prog = true := by kernel_rfl

set_option maxRecDepth 100000 in
theorem contract (H : Type) (enc : TypeId × Value → H) (W : World) (base : Nat) (vs : List Value) (ds : List (DataW H)) (p : List MemPlace) (hA : DataW.TrodAll enc Try.prog W 0 (fun _ => true) true Try.f7.params.toList vs ds p)
    (hval : ∀ (j : Nat) t v, Try.f7.params[j]? = some t → vs[j]? = some v → Value.okWide Try.prog W .any base t v) (hk : Rows.uptoSmall H ds = true) : CallT Try.prog 7 vs W.heap [.sc .bool] (fun b h' => b = true ∧ Keep (fun _ => False) W.heap h') := by
  rw [Try.params7] at hA hval
  obtain ⟨v0, vs0, d0, ds0, p0, q0, rfl, rfl, rfl, h0, r0⟩ := trodAll_cons hA
  obtain ⟨v1, vs1, d1, ds1, p1, q1, rfl, rfl, rfl, h1, r1⟩ := trodAll_cons r0
  obtain ⟨rfl, rfl, rfl⟩ := trodAll_nil r1
  have hb : Rows.uptoBulkAll [d0, d1] ≤ 1048576 := of_decide_eq_true hk
  simp only [Rows.uptoBulkAll] at hb
  have el : Rd Try.prog 28 (InAgg 3 [(0, 1, InStr), (1, 1, InStr), (2, 1, InBool)]) := Rd.struct Try.underlying28 (by kernel_rfl) (.cons (by kernel_rfl) (Rd.str Try.underlying9) (.cons (by kernel_rfl) (Rd.str Try.underlying9) (.cons (by kernel_rfl) (Rd.bool Try.underlying4) .nil)))
  obtain ⟨a, l, c, rfl, i1⟩ := arg_sl Try.underlying22 (Rd.sl Try.underlying22 (m := 3) (by kernel_rfl) el) (hval 0 22 v0 rfl rfl) h0
  obtain ⟨a2, l2, c2, rfl, i2⟩ := arg_sl Try.underlying23 (Rd.sl Try.underlying23 (m := 1) (by kernel_rfl) (Rd.int Try.underlying3)) (hval 1 23 v1 rfl rfl) h1
  have hl2 : l2 ≤ 4611686018427387904 := by
    rcases i2 with e | ⟨x, l', c', e, g1, g2, g3, _⟩
    · injection e with e; injection e with _ e; omega
    · injection e with e; injection e with _ e; omega
  exact treeEmpties_spec (x0 := ⟨a, l, c⟩) (x1 := ⟨a2, l2, c2⟩) (opS_of i1) (ints_of i2) hl2 (fun h' hk => ⟨rfl, hk⟩)

set_option maxRecDepth 100000 in
theorem lifted (os : Os) (started : os.Started) (H : Type) (enc : TypeId × Value → H) (F : Stop.Interp) :
    ReturnsInHanded {} Try.checked os 7 .any ((Rows.OpenSpec.upto Rows.treeEmptiesSpec).pre6 enc Try.prog Try.f7 Rows.treeEmptiesUptoRow.domain false) (((Rows.OpenSpec.upto Rows.treeEmptiesSpec).at F).post enc Try.prog Try.f7 false true false false) := by
  refine returnsInHanded_of_cond (C := Try.checked) (s := Rows.OpenSpec.upto Rows.treeEmptiesSpec) (k := Rows.uptoSmall) rfl own started (by kernel_rfl) Try.func7
    (OpenSpec.witness (enc := enc) (C := Try.checked) (s := Rows.OpenSpec.upto Rows.treeEmptiesSpec) (k := Rows.uptoSmall) rfl false ⟨#[], #[.slice none 0 0, .slice none 0 0], []⟩ 8 (by kernel_rfl) (by kernel_rfl) (by kernel_rfl)
      (x := ([.nil, .nil], [], [])) (by kernel_rfl) rfl (by kernel_rfl)) ?_
  intro W base args ds gs before hval hW _ hf _
  have hgs : gs = [] := by
    obtain ⟨p, q, hA0, hV, hrest⟩ := hW
    exact (trodVars_none hV).1
  subst hgs
  rw [List.append_nil] at hf
  exact lift (tb := 4) (fits := fun H ds => Rows.uptoSmall H ds) laidOut rfl rfl Try.underlying4
    (fun H ds hl => by
      rw [Try.params7] at hl
      match ds, hl with
      | [d1, d2], _ => rfl)
    (fun t ht => by
      rw [Try.params7] at ht
      simp only [List.mem_cons, List.not_mem_nil, or_false] at ht
      rcases ht with rfl | rfl
      · exact ⟨by kernel_rfl, of_decide_eq_true (by kernel_rfl)⟩
      · exact ⟨by kernel_rfl, of_decide_eq_true (by kernel_rfl)⟩)
    (fun H enc W base vs ds p hk hA hval => contract H enc W base vs ds p hA hval hk) W base args ds [] before hval hW hf

theorem over : Rows.treeEmptiesUptoRow.holds Try.pinned (Rows.OpenSpec.upto Rows.treeEmptiesSpec) :=
  OpenClaim.holds_of_cond 7 Try.f7 rfl rfl rfl rfl rfl rfl rfl ⟨rfl, rfl, rfl, rfl, rfl⟩ rfl rfl rfl rfl rfl (by kernel_rfl) Try.func7 (by kernel_rfl)
    (of_decide_eq_true (by kernel_rfl)) (by unfold Func.isWrapper; first | (rw [if_pos (by decide +kernel)]; kernel_rfl) | (rw [if_neg (by decide +kernel)]; exact ⟨rfl, rfl⟩))
    (fun os started H enc _ F => lifted os started H enc F)

theorem proved : Rows.TreeEmptiesUptoSaid := over
end Go.Proofs.Ytopnljjfpfnhfaa.treeEmpties
namespace Go.Proofs.Ytopnljjfpfnhfaa
theorem treeEmpties_holds : Rows.TreeEmptiesUptoSaid := treeEmpties.proved
#print axioms treeEmpties_holds
end Go.Proofs.Ytopnljjfpfnhfaa
