/- WalPlays: for every input it returns true, and each argument reads as it did. Condition: what is read is of bulk at most 1048576. -/
import Derived.Test.YtmkobpkdodgboaaXLift
import Derived.JoinedCond
import Derived.Test.YtmkobpkdodgboaaPWalX
namespace Go.Proofs.Ytmkobpkdodgboaa.walPlays
open Go D Go.ChangeShapes Go.WideShapes Go.ChangeAt Go.RowKit Go.Proofs.Ytmkobpkdodgboaa.Wal
set_option linter.unusedVariables false

theorem own : ownKnob Try.prog.godebug = none := by kernel_rfl
theorem laidOut : laidOutB Try.prog = true := by kernel_rfl

set_option maxRecDepth 100000 in
theorem contract (H : Type) (enc : TypeId × Value → H) (W : World) (base : Nat) (vs : List Value) (ds : List (DataW H)) (p : List MemPlace) (hA : DataW.TrodAll enc Try.prog W 0 (fun _ => true) true Try.f10.params.toList vs ds p)
    (hval : ∀ (j : Nat) t v, Try.f10.params[j]? = some t → vs[j]? = some v → Value.okWide Try.prog W .any base t v) (hk : Rows.uptoSmall H ds = true) : CallT Try.prog 10 vs W.heap [.sc .bool] (fun b h' => b = true ∧ Keep (fun _ => False) W.heap h') := by
  rw [Try.params10] at hA hval
  obtain ⟨v0, vs0, d0, ds0, p0, q0, rfl, rfl, rfl, h0, r0⟩ := trodAll_cons hA
  obtain ⟨v1, vs1, d1, ds1, p1, q1, rfl, rfl, rfl, h1, r1⟩ := trodAll_cons r0
  obtain ⟨v2, vs2, d2, ds2, p2, q2, rfl, rfl, rfl, h2, r2⟩ := trodAll_cons r1
  obtain ⟨v3, vs3, d3, ds3, p3, q3, rfl, rfl, rfl, h3, r3⟩ := trodAll_cons r2
  obtain ⟨v4, vs4, d4, ds4, p4, q4, rfl, rfl, rfl, h4, r4⟩ := trodAll_cons r3
  obtain ⟨rfl, rfl, rfl⟩ := trodAll_nil r4
  have hb : Rows.uptoBulkAll [d0, d1, d2, d3, d4] ≤ 1048576 := of_decide_eq_true hk
  simp only [Rows.uptoBulkAll] at hb
  obtain ⟨a, rfl, a1, a2⟩ := arg_int Try.underlying3 (hval 0 3 v0 rfl rfl) h0
  obtain ⟨b, rfl, b1, b2⟩ := arg_int Try.underlying3 (hval 1 3 v1 rfl rfl) h1
  obtain ⟨c, rfl, c1, c2⟩ := arg_int Try.underlying3 (hval 2 3 v2 rfl rfl) h2
  obtain ⟨e, rfl, e1, e2⟩ := arg_int Try.underlying25 (hval 3 25 v3 rfl rfl) h3
  have op : Rd Try.prog 77 (InAgg 5 [(0, 1, InInt .i64), (1, 1, InInt .i64), (2, 1, InInt .i64), (3, 1, InSl 1 InStr), (4, 1, InSl 1 InBool)]) :=
    Rd.struct Try.underlying77 (by kernel_rfl) (.cons (by kernel_rfl) (Rd.int Try.underlying3) (.cons (by kernel_rfl) (Rd.int Try.underlying3) (.cons (by kernel_rfl) (Rd.int Try.underlying3) (.cons (by kernel_rfl) (Rd.sl Try.underlying50 (m := 1) (by kernel_rfl) (Rd.str Try.underlying9)) (.cons (by kernel_rfl) (Rd.sl Try.underlying35 (m := 1) (by kernel_rfl) (Rd.bool Try.underlying4)) .nil)))))
  obtain ⟨o, l, k, rfl, i1⟩ := arg_sl Try.underlying72 (Rd.sl Try.underlying72 (m := 5) (by kernel_rfl) op) (hval 4 72 v4 rfl rfl) h4
  exact walPlays_spec (x4 := ⟨o, l, k⟩) ⟨a1, a2⟩ ⟨b1, b2⟩ ⟨c1, c2⟩ ⟨e1, e2⟩ (wops_of (by omega) i1) (fun h' hk => ⟨rfl, hk⟩)

set_option maxRecDepth 100000 in
theorem lifted (os : Os) (started : os.Started) (H : Type) (enc : TypeId × Value → H) (F : Stop.Interp) :
    ReturnsInHanded {} Try.checked os 10 .any ((Rows.OpenSpec.upto Rows.walPlaysSpec).pre6 enc Try.prog Try.f10 Rows.walPlaysUptoRow.domain false) (((Rows.OpenSpec.upto Rows.walPlaysSpec).at F).post enc Try.prog Try.f10 false true false false) := by
  refine returnsInHanded_of_cond (C := Try.checked) (s := Rows.OpenSpec.upto Rows.walPlaysSpec) (k := Rows.uptoSmall) rfl own started (by kernel_rfl) Try.func10
    (OpenSpec.witness (enc := enc) (C := Try.checked) (s := Rows.OpenSpec.upto Rows.walPlaysSpec) (k := Rows.uptoSmall) rfl false ⟨#[], #[.int .i64 0, .int .i64 0, .int .i64 0, .int .u64 0, .slice none 0 0], []⟩ 8 (by kernel_rfl) (by kernel_rfl) (by kernel_rfl)
      (x := ([.lit (.int .i64 0), .lit (.int .i64 0), .lit (.int .i64 0), .lit (.int .u64 0), .nil], [], [])) (by kernel_rfl) rfl (by kernel_rfl)) ?_
  intro W base args ds gs before hval hW _ hf _
  have hgs : gs = [] := by
    obtain ⟨p, q, hA0, hV, hrest⟩ := hW
    exact (trodVars_none hV).1
  subst hgs
  rw [List.append_nil] at hf
  exact lift (tb := 4) (fits := fun H ds => Rows.uptoSmall H ds) laidOut rfl rfl Try.underlying4
    (fun H ds hl => by
      rw [Try.params10] at hl
      match ds, hl with
      | [d1, d2, d3, d4, d5], _ => rfl)
    (fun t ht => by
      rw [Try.params10] at ht
      simp only [List.mem_cons, List.not_mem_nil, or_false] at ht
      rcases ht with rfl | rfl | rfl | rfl | rfl
      · exact ⟨by kernel_rfl, of_decide_eq_true (by kernel_rfl)⟩
      · exact ⟨by kernel_rfl, of_decide_eq_true (by kernel_rfl)⟩
      · exact ⟨by kernel_rfl, of_decide_eq_true (by kernel_rfl)⟩
      · exact ⟨by kernel_rfl, of_decide_eq_true (by kernel_rfl)⟩
      · exact ⟨by kernel_rfl, of_decide_eq_true (by kernel_rfl)⟩)
    (fun H enc W base vs ds p hk hA hval => contract H enc W base vs ds p hA hval hk) W base args ds [] before hval hW hf

theorem over : Rows.walPlaysUptoRow.holds Try.pinned (Rows.OpenSpec.upto Rows.walPlaysSpec) :=
  OpenClaim.holds_of_cond 10 Try.f10 rfl rfl rfl rfl rfl rfl rfl ⟨rfl, rfl, rfl, rfl, rfl⟩ rfl rfl rfl rfl rfl (by kernel_rfl) Try.func10 (by kernel_rfl)
    (of_decide_eq_true (by kernel_rfl)) (by unfold Func.isWrapper; first | (rw [if_pos (by decide +kernel)]; kernel_rfl) | (rw [if_neg (by decide +kernel)]; exact ⟨rfl, rfl⟩))
    (fun os started H enc _ F => lifted os started H enc F)

theorem proved : Rows.WalPlaysUptoSaid := over
end Go.Proofs.Ytmkobpkdodgboaa.walPlays
namespace Go.Proofs.Ytmkobpkdodgboaa
theorem walPlays_holds : Rows.WalPlaysUptoSaid := walPlays.proved
#print axioms walPlays_holds
end Go.Proofs.Ytmkobpkdodgboaa
