/- ChunkBodies, the second form's card: for every input it returns true, and each argument reads as it did. Condition: what is read is of bulk at most 1048576; the two listed tables of unicode/utf8 hold what the program's text lays. -/
import Derived.Test.YtncffbocmpmejaaDoorPCard
import Derived.SevenTiedAt
import Derived.Test.YtncffbocmpmejaaDoorPBodiesB
namespace Go.Proofs.YtncffbocmpmejaaDoor.chunkBodies
open Go D Go.ChangeShapes Go.WideShapes Go.ChangeAt Go.RowKit Go.Proofs.YtncffbocmpmejaaDoor.Chunk
set_option linter.unusedVariables false

set_option maxRecDepth 100000 in
theorem contract (H : Type) (enc : TypeId × Value → H) (W : World) (base : Nat) (vs : List Value) (ds : List (DataW H)) (p : List MemPlace) (hA : DataW.TrodAll enc Tryd.prog W 0 (fun _ => true) true Tryd.f8.params.toList vs ds p)
    (hval : ∀ (j : Nat) t v, Tryd.f8.params[j]? = some t → vs[j]? = some v → Value.okWide Tryd.prog W .any base t v) (hk : Rows.uptoSmall H ds = true) : CallT Tryd.prog 8 vs W.heap [.sc .bool] (fun b h' => b = true ∧ Keep (fun _ => False) W.heap h') := by
  rw [Tryd.params8] at hA hval
  obtain ⟨v0, vs0, d0, ds0, p0, q0, rfl, rfl, rfl, h0, r0⟩ := trodAll_cons hA
  obtain ⟨v1, vs1, d1, ds1, p1, q1, rfl, rfl, rfl, h1, r1⟩ := trodAll_cons r0
  obtain ⟨rfl, rfl, rfl⟩ := trodAll_nil r1
  have hb : Rows.uptoBulkAll [d0, d1] ≤ 1048576 := of_decide_eq_true hk
  simp only [Rows.uptoBulkAll] at hb
  have rw0 : Rd Tryd.prog 24 InWho := Rd.struct (fs := _) Tryd.underlying24 (by kernel_rfl) (.cons (by kernel_rfl) (Rd.str Tryd.underlying9) (.cons (by kernel_rfl) (Rd.str Tryd.underlying9) (.cons (by kernel_rfl) (Rd.str Tryd.underlying9) (.cons (by kernel_rfl) (Rd.str Tryd.underlying9) (.cons (by kernel_rfl) (Rd.sl Tryd.underlying22 (m := 1) (by kernel_rfl) (Rd.int Tryd.underlying5)) (.cons (by kernel_rfl) (Rd.str Tryd.underlying9) .nil))))))
  obtain ⟨cs, rfl, iw⟩ := arg_struct Tryd.underlying24 rw0 (hval 0 24 v0 rfl rfl) h0
  obtain ⟨w, ka, kl, kc, ecs, wa⟩ := who_of iw (by omega)
  have hcs : cs = #[.string w.id, .string w.date, .string w.scope, .string w.sig, .slice ka kl kc, .string w.pay] := Array.toList_inj.1 ecs
  subst hcs
  have rh : Rd Tryd.prog 101 (InAgg 2 [(0, 1, InStr), (1, 1, InStr)]) := Rd.struct (fs := _) Tryd.underlying101 (by kernel_rfl) (.cons (by kernel_rfl) (Rd.str Tryd.underlying9) (.cons (by kernel_rfl) (Rd.str Tryd.underlying9) .nil))
  have rq : Rd Tryd.prog 45 InReq := Rd.struct (fs := _) Tryd.underlying45 (by kernel_rfl) (.cons (by kernel_rfl) (Rd.str Tryd.underlying9) (.cons (by kernel_rfl) (Rd.str Tryd.underlying9) (.cons (by kernel_rfl) (Rd.sl Tryd.underlying43 (m := 2) (by kernel_rfl) rh) (.cons (by kernel_rfl) (Rd.sl Tryd.underlying22 (m := 1) (by kernel_rfl) (Rd.int Tryd.underlying5)) .nil))))
  obtain ⟨cr, rfl, ir⟩ := arg_struct Tryd.underlying45 rq (hval 1 45 v1 rfl rfl) h1
  obtain ⟨m, t, ha, hl, hc, ba, blen, bc, hds, body, ecr, g1, g2, g3, g4, g5⟩ := req_of ir (by omega)
  have hcr : cr = #[.string m, .string t, .slice ha hl hc, .slice ba blen bc] := Array.toList_inj.1 ecr
  subst hcr
  exact chunkBodies_spec wa g1 g2 g3 g4 g5 (fun h' hk => ⟨rfl, hk⟩)

theorem reads (os : Os) {H : Type} (enc : TypeId × Value → H) : ∃ places, DataW.whole enc Tryd.prog ((laidWorld os).forCall (fun _ _ => 0) ⟨#[], #[.agg #[.string ⟨#[]⟩, .string ⟨#[]⟩, .string ⟨#[]⟩, .string ⟨#[]⟩, .slice none 0 0, .string ⟨#[]⟩], .agg #[.string ⟨#[]⟩, .string ⟨#[]⟩, .slice none 0 0, .slice none 0 0]], []⟩).memory Tryd.f8.params.toList Rows.chunkBodiesSpec.vars false (#[.agg #[.string ⟨#[]⟩, .string ⟨#[]⟩, .string ⟨#[]⟩, .string ⟨#[]⟩, .slice none 0 0, .string ⟨#[]⟩], .agg #[.string ⟨#[]⟩, .string ⟨#[]⟩, .slice none 0 0, .slice none 0 0]] : Array Value).toList 8 = some ([.agg [.lit (.string []), .lit (.string []), .lit (.string []), .lit (.string []), .nil, .lit (.string [])], .agg [.lit (.string []), .lit (.string []), .nil, .nil]], [], places) :=
  ⟨[], by kernel_rfl⟩
set_option maxRecDepth 100000 in
theorem lifted (os : Os) (started : os.Started) (H : Type) (enc : TypeId × Value → H) (F : Stop.Interp) :
    ReturnsInHanded {} Tryd.checked os 8 .any ((Rows.OpenSpec.upto Rows.chunkBodiesSpec).preRow enc Tryd.prog Tryd.f8 Rows.chunkBodiesUptoRow.domain false Rows.chunkBodiesUptoRow.laid) (((Rows.OpenSpec.upto Rows.chunkBodiesSpec).at F).post enc Tryd.prog Tryd.f8 false true false false) := by
  obtain ⟨places, hx⟩ := reads os enc
  refine returnsInHanded_of_row (C := Tryd.checked) (s := Rows.OpenSpec.upto Rows.chunkBodiesSpec) own started (by kernel_rfl) Tryd.func8
    (witness_row_at (enc := enc) (C := Tryd.checked) false (laidWorld os) #[.agg #[.string ⟨#[]⟩, .string ⟨#[]⟩, .string ⟨#[]⟩, .string ⟨#[]⟩, .slice none 0 0, .string ⟨#[]⟩], .agg #[.string ⟨#[]⟩, .string ⟨#[]⟩, .slice none 0 0, .slice none 0 0]] rfl (world_vars os _) (world_rest os _) (by kernel_rfl)
      (OpenSpec.preRow_of_cond 8 hx (by kernel_rfl) (fun k hk => by cases hk; kernel_rfl) (by kernel_rfl) (laid_met os _))) ?_
  intro W base args ds gs before hval hW _ hcond _ hL _ _
  have hgs : gs = [] := by
    obtain ⟨p, q, hA0, hV, hrest⟩ := hW
    exact (trodVars_none hV).1
  subst hgs
  have hf := hcond _ rfl
  rw [List.append_nil] at hf
  exact lift (tb := 4) (fits := fun H ds => Rows.uptoSmall H ds) laidOut rfl rfl Tryd.underlying4
    (fun H ds hl => by
      rw [Tryd.params8] at hl
      match ds, hl with
      | [d1, d2], _ => rfl)
    (fun t ht => by
      rw [Tryd.params8] at ht
      simp only [List.mem_cons, List.not_mem_nil, or_false] at ht
      rcases ht with rfl | rfl
      · exact ⟨by kernel_rfl, of_decide_eq_true (by kernel_rfl)⟩
      · exact ⟨by kernel_rfl, of_decide_eq_true (by kernel_rfl)⟩)
    (fun H enc W base vs ds p hk hA hval => contract H enc W base vs ds p hA hval hk) W base args ds [] before hval hW hf

theorem saidUpto : Rows.ChunkBodiesUptoSaid :=
  OpenClaim.holds_of_cond 8 Tryd.f8 rfl rfl rfl rfl rfl rfl rfl ⟨rfl, rfl, rfl, rfl, rfl⟩ rfl rfl rfl rfl rfl (by kernel_rfl) Tryd.func8 (by kernel_rfl)
    (of_decide_eq_true (by kernel_rfl)) (by unfold Func.isWrapper; first | (rw [if_pos (by decide +kernel)]; kernel_rfl) | (rw [if_neg (by decide +kernel)]; exact ⟨rfl, rfl⟩))
    (fun os started H enc _ F => by rw [OpenClaim.pre_eq_preRow]; exact lifted os started H enc F)

theorem plain (f : FuncId) (fn : Func) (hf : Tryd.pinned.checked.prog.funcNamed "stowage/stowagelaw19.ChunkBodies" = some f) (hfn : Tryd.pinned.checked.prog.funcs[f]? = some fn) :
    false = Tryd.pinned.checked.prog.looks [] ∧ ∀ (j : Nat) t, fn.params[j]? = some t → Tryd.pinned.checked.prog.wantsStandIn t = false := by
  obtain rfl : f = 8 := Option.some.inj ((show Tryd.prog.funcNamed "stowage/stowagelaw19.ChunkBodies" = some 8 by kernel_rfl).symm.trans hf) |>.symm
  obtain rfl : fn = Tryd.f8 := (Option.some.inj (Tryd.func8.symm.trans hfn)).symm
  refine ⟨by kernel_rfl, fun j t ht => ?_⟩
  rw [Tryd.params8] at ht
  have hm : t ∈ ([24, 45] : List TypeId) := by simpa using Array.mem_of_getElem? ht
  have hall : (([24, 45] : List TypeId).all fun u => !Tryd.prog.wantsStandIn u) = true := by kernel_rfl
  exact (show Tryd.prog.wantsStandIn t = false by simpa using List.all_eq_true.1 hall t hm)

theorem card : Rows.ChunkBodiesUptoCardSaid :=
  Claim7.holds_tied_plain_at .later [] _ _ _ _ saidUpto (fun _ h => by cases h) (by kernel_rfl) (fun _ h => by cases h) chunkBodiesUpto_row_tie rfl ⟨rfl, rfl⟩ (by kernel_rfl) rfl plain (by kernel_rfl)
end Go.Proofs.YtncffbocmpmejaaDoor.chunkBodies
namespace Go.Proofs.YtncffbocmpmejaaDoor
theorem chunkBodies_holds : Rows.ChunkBodiesUptoCardSaid := chunkBodies.card
#print axioms chunkBodies_holds
end Go.Proofs.YtncffbocmpmejaaDoor
