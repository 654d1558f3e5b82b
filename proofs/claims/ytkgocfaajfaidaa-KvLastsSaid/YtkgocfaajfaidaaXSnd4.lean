/- Soundness of the quiet operations, all at once; that what they yield is one value; that they look at their operands alone. -/
import Derived.Test.YtkgocfaajfaidaaXSnd3
namespace Go.Proofs.Ytkgocfaajfaidaa.D
open Go
set_option linter.unusedVariables false
set_option linter.unusedSimpArgs false

section
variable {P : Program} {w : World}

theorem run_value {s : Sem Value} {v : Value} (h : s.run P w = .ok v w) : (do pure (Next.value (← s)) : Sem Next).run P w = .ok (.value v) w := by
  simp only [Sem.run_bind, h, Result.andThen_ok, Sem.run_pure]

theorem toArray_map (ρ : Operand → Value) (xs : Array Operand) : (xs.toList.map ρ).toArray = xs.map ρ := by
  apply Array.toList_inj.1; simp

theorem qx_sound {n : Nat} {env : Env} {a : Act} (ha : Agrees n env a) {o : Oper} {K : Value → Prop} (h : qx P o.op env w.heap K) :
    ∃ u, (execOp a.eval o).run P w = .ok (.value u) w ∧ K u := by
  unfold qx at h
  split at h
  · rename_i x ho
    exact ⟨_, by simp only [execOp, ho, Sem.run_pure], ev1_eval ha h⟩
  · rename_i x ho
    exact ⟨_, by simp only [execOp, ho, Sem.run_pure], ev1_eval ha h⟩
  · rename_i c x y ho
    have h1 := ev1_eval ha (ev1_eval ha (ev1_eval ha h))
    unfold pickD at h1
    split at h1
    · rename_i t hc
      rcases cnd_inv h1 with ⟨rfl, h2⟩ | ⟨rfl, h2⟩
      · exact ⟨_, by simp [execOp, ho, hc, asBool], h2⟩
      · exact ⟨_, by simp [execOp, ho, hc, asBool], h2⟩
    · exact h1.elim
  · rename_i x ho
    exact nilD_run ho rfl (ev1_eval ha h)
  · rename_i op t x y yt ho
    have h1 := ev1_eval ha (ev1_eval ha h)
    split at h1
    · rename_i hp
      obtain ⟨u, h2, h3⟩ := sameD_run (P := P) (w := w) (x := x) (y := y) hp h1
      refine ⟨u, ?_, h3⟩
      simp only [execOp, ho]
      exact run_value h2
    split at h1
    · rename_i hp
      obtain ⟨hy, u, h2, h3⟩ := nilX_run (P := P) (w := w) (x := x) (y := y) hp h1
      refine ⟨u, ?_, h3⟩
      subst hy
      simp only [execOp, ho]
      exact run_value h2
    obtain ⟨u, h2, h3⟩ := binD_run (P := P) (w := w) (x := x) (y := y) (fun hc k n hb => by
      obtain ⟨k', m, rfl, hm⟩ := constOk_pos hc
      simp only [Act.eval, Value.int.injEq] at hb
      omega) h1
    refine ⟨u, ?_, h3⟩
    simp only [execOp, ho]
    exact run_value h2
  · rename_i op t x ho
    obtain ⟨u, h2, h3⟩ := unD_run (P := P) (w := w) (ev1_eval ha h)
    exact ⟨u, by simp only [execOp, ho]; exact run_value h2, h3⟩
  · rename_i src dst x ho
    obtain ⟨u, h2, h3⟩ := convD_run (P := P) (w := w) (ev1_eval ha h)
    exact ⟨u, by simp only [execOp, ho]; exact run_value h2, h3⟩
  · rename_i t x ho
    split at h
    · exact h.elim
    · rename_i d hni hd
      refine ⟨.iface t (a.eval x), ?_, (ev1_eval ha h :)⟩
      simp only [execOp, ho]
      refine run_value ?_
      cases d <;> first | exact absurd rfl (hni _) | simp [Instr.makeInterface, run_underlying_some hd]
    · exact h.elim
  · rename_i fn first captured ho
    have h1 := evs_eval ha (evs_eval ha h)
    refine ⟨_, ?_, h1⟩
    simp only [execOp, ho, toArray_map]
    exact run_value rfl
  · rename_i s x f ho
    obtain ⟨u, h2, h3⟩ := fieldD_run (P := P) (w := w) (ev1_eval ha h)
    exact ⟨u, by simp only [execOp, ho]; exact run_value h2, h3⟩
  · rename_i s x f ho
    obtain ⟨u, h2, h3⟩ := fieldV_run (P := P) (w := w) (ev1_eval ha h)
    exact ⟨u, by simp only [execOp, ho]; exact run_value h2, h3⟩
  · rename_i t x i ho
    obtain ⟨u, h2, h3⟩ := indexAD_run (P := P) (w := w) (ev1_eval ha (ev1_eval ha h))
    exact ⟨u, by simp only [execOp, ho]; exact run_value h2, h3⟩
  · rename_i t x i ho
    obtain ⟨u, h2, h3⟩ := indexVD_run (P := P) (w := w) (ev1_eval ha (ev1_eval ha h))
    exact ⟨u, by simp only [execOp, ho]; exact run_value h2, h3⟩
  · rename_i t x lo hi mx ho
    obtain ⟨u, h2, h3⟩ := sliceD_run (P := P) (w := w) ha (ev1_eval ha h)
    exact ⟨u, by simp only [execOp, ho]; exact run_value h2, h3⟩
  · rename_i t x ho
    split at h
    · rename_i d hu
      have h1 := ev1_eval ha h
      split at h1
      · rename_i q hq
        cases q with
        | none => exact h1.elim
        | some ad =>
          obtain ⟨u, h2, h3⟩ := ldT_run (P := P) (w := w) h1 hu
          refine ⟨u, ?_, h3⟩
          simp only [execOp, ho]
          refine run_value ?_
          simp [Instr.loadAt, hq, Instr.sureAddr, h2]
      · exact h1.elim
    · exact h.elim
  · rename_i x i ho
    obtain ⟨u, h2, h3⟩ := extractD_run (P := P) (w := w) (ev1_eval ha h)
    exact ⟨u, by simp only [execOp, ho]; exact run_value h2, h3⟩
  · rename_i x xt asserted ok ho
    obtain ⟨u, h2, h3⟩ := assertD_run (P := P) (w := w) (xt := xt) (ev1_eval ha h)
    exact ⟨u, by simp only [execOp, ho]; exact run_value h2, h3⟩
  · rename_i t parts ho
    obtain ⟨u, h2, h3⟩ := buildD_run (P := P) (w := w) (evParts_eval ha h)
    refine ⟨u, ?_, h3⟩
    simp only [execOp, ho]
    refine run_value ?_
    have e : (parts.map fun p => (p.1, a.eval p.2)) = (parts.toList.map fun p => (p.1, a.eval p.2)).toArray := by apply Array.toList_inj.1; simp
    rw [e]; exact h2
  · rename_i c ho
    split at h
    · rename_i b hb
      have h1 := evs_eval ha h
      unfold builtinQ at h1
      have key : ∀ {s : Sem Value} {u : Value}, s.run P w = .ok u w → (∀ consts, builtin b c.argTypes o.type consts (c.args.map a.eval) = (do pure (Next.value (← s)) : Sem Next)) → (execOp a.eval o).run P w = .ok (.value u) w := by
        intro s u h2 h3
        simp only [execOp, ho, resolve, hb, Sem.run_bind, Sem.run_pure, Result.andThen_ok]
        refine Eq.trans ?_ (run_value h2)
        rw [← h3 (c.args.map fun | .const _ => true | _ => false)]
        rfl
      have ea : c.args.map a.eval = (c.args.toList.map a.eval).toArray := (toArray_map _ _).symm
      split at h1
      · rename_i t ts x r ht hx
        obtain ⟨u, h2, h3⟩ := lenD_run (P := P) (w := w) (ts := c.argTypes) (ty := o.type) (args := c.args.map a.eval) (by rw [← Array.getElem?_toList, ht]; rfl) (by rw [ea, List.getElem?_toArray, hx]; rfl) h1
        exact ⟨u, key h2 (fun _ => rfl), h3⟩
      · rename_i t ts x r ht hx
        obtain ⟨u, h2, h3⟩ := capD_run (P := P) (w := w) (ts := c.argTypes) (ty := o.type) (args := c.args.map a.eval) (by rw [← Array.getElem?_toList, ht]; rfl) (by rw [ea, List.getElem?_toArray, hx]; rfl) h1
        exact ⟨u, key h2 (fun _ => rfl), h3⟩
      · rename_i x r hx
        obtain ⟨u, h2, h3⟩ := minD_run (P := P) (w := w) h1
        refine ⟨u, key (s := Builtin.min_ c.argTypes o.type (c.args.map a.eval)) ?_ (fun _ => rfl), h3⟩
        unfold Builtin.min_
        rw [ea, List.toList_toArray, hx]; exact h2
      · rename_i x r hx
        obtain ⟨u, h2, h3⟩ := maxD_run (P := P) (w := w) h1
        refine ⟨u, key (s := Builtin.max_ c.argTypes o.type (c.args.map a.eval)) ?_ (fun _ => rfl), h3⟩
        unfold Builtin.max_
        rw [ea, List.toList_toArray, hx]; exact h2
      · exact h1.elim
    · exact h.elim
  · exact h.elim

/-! ### what they yield is one value -/
/-- of a quiet operation's word: one value serves -/
def Det (q : (Value → Prop) → Prop) : Prop := ∀ K, q K → ∃ v, K v ∧ ∀ K', K' v → q K'

theorem Det.ev1 {env : Env} {x : Operand} {q : Value → (Value → Prop) → Prop} (h : ∀ v, Det (q v)) : Det (fun K => ev1 env x fun v => q v K) := by
  intro K hk
  obtain ⟨v, hv, hk⟩ := ev1_inv hk
  obtain ⟨u, h1, h2⟩ := h v K hk
  exact ⟨u, h1, fun K' hk' => by unfold D.ev1; rw [hv]; exact h2 K' hk'⟩

theorem Det.pure (v : Value) : Det (fun K => K v) := fun K h => ⟨v, h, fun _ h => h⟩
theorem Det.false : Det (fun _ => False) := fun _ h => h.elim
theorem Det.and {p : Prop} {q : (Value → Prop) → Prop} (h : Det q) : Det (fun K => p ∧ q K) := fun K ⟨hp, hq⟩ =>
  let ⟨v, h1, h2⟩ := h K hq
  ⟨v, h1, fun K' hk => ⟨hp, h2 K' hk⟩⟩
theorem Det.ex {α : Sort _} {q : α → (Value → Prop) → Prop} (h : ∀ x, Det (q x)) : Det (fun K => ∃ x, q x K) := fun K ⟨x, hq⟩ =>
  let ⟨v, h1, h2⟩ := h x K hq
  ⟨v, h1, fun K' hk => ⟨x, h2 K' hk⟩⟩
theorem Det.cnd {b : Bool} {q r : (Value → Prop) → Prop} (h : Det q) (h' : Det r) : Det (fun K => cnd b (q K) (r K)) := by
  cases b
  · exact h'
  · exact h
theorem Det.nn {o : Option Addr} {q : Addr → (Value → Prop) → Prop} (h : ∀ a, Det (q a)) : Det (fun K => nn o fun a => q a K) := by
  cases o
  · exact Det.false
  · exact h _
/-- behind an intermediate value of whatever kind -/
theorem Det.val {α : Type} {f : (α → Prop) → Prop} (hf : ∀ K, f K → ∃ v, K v ∧ ∀ K', K' v → f K') {q : α → (Value → Prop) → Prop} (h : ∀ x, Det (q x)) : Det (fun K => f fun x => q x K) := fun K hk =>
  let ⟨x, h1, h2⟩ := hf _ hk
  let ⟨v, h3, h4⟩ := h x K h1
  ⟨v, h3, fun K' hk' => h2 _ (h4 K' hk')⟩

theorem det_ldSc {s : Sc} {a : Addr} {h : Heap} : Det (ldSc s a h) := by
  cases s <;> simp only [Det, ldSc, ldI, ldB, ldS, ldP, ldL, ldM, ldV]
  case sl => rintro K ⟨x, l, c, h1, h2⟩; exact ⟨_, h2, fun K' h => ⟨x, l, c, h1, h⟩⟩
  all_goals (rintro K ⟨x, h1, h2⟩; exact ⟨_, h2, fun K' h => ⟨x, h1, h⟩⟩)

theorem det_ldAgg {a : Addr} {h : Heap} : ∀ {l : List Sc} {i : Nat} (K : List Value → Prop), ldAgg l i a h K → ∃ vs, K vs ∧ ∀ K', K' vs → ldAgg l i a h K'
  | [], _, K, hk => ⟨[], hk, fun _ h => h⟩
  | s :: r, i, K, hk => by
    obtain ⟨v, h1, h2⟩ := det_ldSc _ hk
    obtain ⟨vs, h3, h4⟩ := det_ldAgg _ h1
    exact ⟨v :: vs, h3, fun K' h => h2 _ (h4 _ h)⟩

theorem det_ldT {t : TypeId} {a : Addr} {h : Heap} : Det (ldT P t a h) := by
  intro K hk
  unfold ldT at hk ⊢
  cases hb : isAggT P t with
  | false => simp only [hb] at hk ⊢; exact det_ldSc K hk
  | true =>
    simp only [hb] at hk ⊢
    cases hc : cellSc P 8 t with
    | none =>
      simp only [hc] at hk ⊢
      obtain ⟨cs, h1, h2, h3⟩ := hk
      exact ⟨_, h3, fun K' h => ⟨cs, h1, h2, h⟩⟩
    | some l =>
      simp only [hc] at hk ⊢
      cases hn : Nat.beq l.length (P.cellsOf t) with
      | false => simp [hn] at hk
      | true =>
        simp only [hn] at hk ⊢
        obtain ⟨vs, h1, h2⟩ := det_ldAgg _ hk
        exact ⟨_, h1, fun K' h => h2 _ h⟩

theorem det_evs {env : Env} : ∀ {xs : List Operand} (K : List Value → Prop), evs env xs K → ∃ vs, K vs ∧ ∀ K', K' vs → evs env xs K'
  | [], K, h => ⟨[], h, fun _ h => h⟩
  | x :: r, K, h => by
    obtain ⟨v, hv, h1⟩ := ev1_inv h
    obtain ⟨vs, h2, h3⟩ := det_evs _ h1
    exact ⟨v :: vs, h2, fun K' h => by unfold evs ev1; rw [hv]; exact h3 _ h⟩
theorem det_evParts {env : Env} : ∀ {xs : List (Nat × Operand)} (K : List (Nat × Value) → Prop), evParts env xs K → ∃ vs, K vs ∧ ∀ K', K' vs → evParts env xs K'
  | [], K, h => ⟨[], h, fun _ h => h⟩
  | (i, x) :: r, K, h => by
    obtain ⟨v, hv, h1⟩ := ev1_inv h
    obtain ⟨vs, h2, h3⟩ := det_evParts _ h1
    exact ⟨(i, v) :: vs, h2, fun K' h => by unfold evParts ev1; rw [hv]; exact h3 _ h⟩
theorem det_bnd {env : Env} {x : Option Operand} {d : Int} (K : Int → Prop) (h : bnd env x d K) : ∃ v, K v ∧ ∀ K', K' v → bnd env x d K' := by
  unfold bnd at h ⊢
  cases x with
  | none => exact ⟨d, h, fun _ h => h⟩
  | some x =>
    obtain ⟨v, hv, h1⟩ := ev1_inv h
    split at h1
    · exact ⟨_, h1, fun K' h => by simp only [ev1, hv]; exact h⟩
    · exact h1.elim
theorem det_fillD {place : Nat → Option (Nat × Nat)} {raw : Nat → Bool} : ∀ {ps : List (Nat × Value)} {cs : List Value} (K : List Value → Prop), fillD place raw ps cs K → ∃ v, K v ∧ ∀ K', K' v → fillD place raw ps cs K'
  | [], cs, K, h => ⟨cs, h, fun _ h => h⟩
  | (i, v) :: r, cs, K, h => by
    unfold fillD at h ⊢
    split at h
    · exact h.elim
    · split at h
      · split at h
        · obtain ⟨v, h1, h2⟩ := det_fillD _ h.2
          exact ⟨v, h1, fun K' hk => ⟨h.1, h2 K' hk⟩⟩
        · exact h.elim
      · split at h
        · exact det_fillD _ h
        · exact h.elim

theorem det_intD {op : BinOp} {yc : Bool} {k k' : IntKind} {x y : Int} : Det (intD op yc k x k' y) := by
  unfold intD
  split
  · cases yc
    · exact Det.and (Det.pure _)
    · exact Det.pure _
  · cases yc
    · exact Det.and (Det.pure _)
    · exact Det.pure _
  · cases kEq k k'
    · exact Det.false
    · cases op <;> first | exact Det.pure _ | exact Det.false | (cases yc; exact Det.and (Det.pure _); exact Det.pure _)

theorem det_strD {op : BinOp} {x y : ByteArray} : Det (strD op x y) := by
  unfold strD
  cases op <;> first | exact Det.pure _ | exact Det.false | exact Det.and (Det.pure _)

theorem det_outB {neg b : Bool} : Det (outB neg b) := by
  unfold outB
  cases neg
  · exact Det.pure _
  · exact Det.pure _

theorem eqS_inv {t : TypeId} {x y : Value} {K : Bool → Prop} (h : eqS P t x y K) : ∃ r, K r ∧ ∀ K' : Bool → Prop, K' r → eqS P t x y K' := by
  unfold eqS at h ⊢
  (repeat' (split at h)) <;> first | exact h.elim | exact ⟨_, h, fun K' hk => hk⟩

theorem eqCells_inv : ∀ {l : List TypeId} {xs ys : List Value} {K : Bool → Prop}, eqCells P l xs ys K → ∃ r, K r ∧ ∀ K' : Bool → Prop, K' r → eqCells P l xs ys K'
  | [], [], [], K, h => ⟨true, h, fun K' hk => hk⟩
  | t :: ts, x :: xs, y :: ys, K, h => by
    simp only [eqCells] at h ⊢
    obtain ⟨r, h1, h2⟩ := eqS_inv h
    obtain ⟨s, h3, h4⟩ := eqCells_inv h1
    exact ⟨r && s, h3, fun K' hk => h2 _ (h4 _ hk)⟩
  | [], [], _ :: _, K, h => h.elim
  | [], _ :: _, _, K, h => h.elim
  | _ :: _, [], _, K, h => h.elim
  | _ :: _, _ :: _, [], K, h => h.elim

theorem det_eqCells {l : List TypeId} {xs ys : List Value} {neg : Bool} : Det (fun K => eqCells P l xs ys fun r => outB neg r K) := by
  intro K h
  obtain ⟨r, h1, h2⟩ := eqCells_inv h
  obtain ⟨v, h3, h4⟩ := det_outB K h1
  exact ⟨v, h3, fun K' hk => h2 _ (h4 K' hk)⟩

theorem det_eqD {neg : Bool} {t : TypeId} {x y : Value} : Det (eqD P neg t x y) := by
  intro K h
  unfold eqD at h ⊢
  (repeat' (split at h)) <;> first | exact h.elim | exact det_outB K h | exact det_eqCells K h

theorem det_binD {op : BinOp} {yc : Bool} {t : TypeId} {x y : Value} : Det (binD P op yc t x y) := by
  intro K h
  unfold binD at h ⊢
  split at h
  · exact det_intD K h
  · exact det_strD K h
  · split at h
    · exact det_eqD K h
    · exact det_eqD K h
    · exact h.elim

theorem det_nilX {op : BinOp} {v : Value} : Det (nilX op v) := by
  intro K h
  unfold nilX at h ⊢
  split at h
  · cases v <;> first | exact h.elim | exact Det.pure _ K h
  · cases v <;> first | exact h.elim | exact Det.pure _ K h
  · exact h.elim
theorem det_sameD {op : BinOp} {x y : Value} : Det (sameD op x y) := by
  intro K h
  unfold sameD at h ⊢
  (repeat' (split at h)) <;> first | exact h.elim | exact (Det.and (Det.pure _)) K h

theorem det_nilD {v : Value} : Det (nilD v) := by
  intro K h
  unfold nilD at h ⊢
  split at h
  · exact (Det.nn fun a => Det.pure _) K h
  · exact Det.pure _ K h
  · exact Det.pure _ K h
  · exact Det.pure _ K h
  · exact h.elim

theorem det_pickD {c a b : Value} : Det (pickD c a b) := by
  intro K h
  unfold pickD at h ⊢
  split at h
  · exact Det.cnd (Det.pure _) (Det.pure _) K h
  · exact h.elim

theorem det_unD {op : UnOp} {x : Value} : Det (unD op x) := by
  intro K h
  unfold unD at h ⊢
  split at h <;> first | exact h.elim | exact Det.pure _ K h

theorem det_fieldD {s : TypeId} {x : Value} {f : Nat} : Det (fieldD P s x f) := by
  intro K h
  unfold fieldD at h ⊢
  (repeat' (split at h)) <;> first | exact h.elim | exact (Det.nn fun a => Det.pure _) K h

theorem det_partD {t : TypeId} {cs : List Value} {off : Nat} : Det (partD P t cs off) := by
  intro K h
  unfold partD at h ⊢
  (repeat' (split at h)) <;> first | exact h.elim | exact Det.pure _ K h

theorem det_fieldV {s : TypeId} {x : Value} {f : Nat} : Det (fieldV P s x f) := by
  intro K h
  unfold fieldV at h ⊢
  (repeat' (split at h)) <;> first | exact h.elim | exact det_partD K h

theorem det_indexAD {t : TypeId} {x i : Value} : Det (indexAD P t x i) := by
  intro K h
  unfold indexAD at h ⊢
  (repeat' (split at h)) <;> first
    | exact h.elim
    | exact (Det.nn fun a => Det.and (Det.and (Det.pure _))) K h
    | exact (Det.ex fun a => Det.and (Det.and (Det.and (Det.pure _)))) K h

theorem det_aidxSc {s : Sc} {cs : List Value} {i : Int} : Det (aidxSc s cs i) := by
  intro K h
  cases s with
  | int k => exact (Det.ex fun a => Det.and (Det.and (Det.pure _))) K h
  | _ => exact (Det.ex fun a => Det.and (Det.and (Det.pure _))) K h

theorem det_indexVD {t : TypeId} {x i : Value} : Det (indexVD P t x i) := by
  intro K h
  unfold indexVD at h ⊢
  (repeat' (split at h)) <;> first
    | exact h.elim
    | exact (Det.ex fun a => Det.and (Det.and (Det.pure _))) K h
    | exact (Det.and (Det.and det_aidxSc)) K h

theorem det_sliceD {env : Env} {t : TypeId} {x : Value} {lo hi mx : Option Operand} : Det (sliceD P env t x lo hi mx) := by
  intro K h
  unfold sliceD at h ⊢
  (repeat' (split at h)) <;> first
    | exact h.elim
    | exact (Det.val det_bnd fun l => Det.val det_bnd fun h => Det.and (Det.and (Det.and (Det.pure _)))) K h
    | exact (Det.val det_bnd fun l => Det.val det_bnd fun h => Det.val det_bnd fun m => Det.and (Det.and (Det.and (Det.and (Det.pure _))))) K h
    | exact (Det.nn fun a => Det.val det_bnd fun l => Det.val det_bnd fun h => Det.val det_bnd fun m => Det.and (Det.and (Det.and (Det.and (Det.pure _))))) K h

theorem det_b2s {o : Option Addr} {l : Nat} {h : Heap} : Det (fun K => b2s o l h fun s => K (.string s)) := by
  intro K hk
  unfold b2s at hk ⊢
  cases o with
  | none => exact ⟨_, hk, fun _ h => h⟩
  | some a =>
    obtain ⟨bs, h1, h2, h3⟩ := hk
    exact ⟨_, h3, fun K' h => ⟨bs, h1, h2, h⟩⟩

theorem det_convD {src dst : TypeId} {x : Value} {h : Heap} : Det (convD P src dst x h) := by
  intro K hk
  unfold convD at hk ⊢
  (repeat' (split at hk)) <;> first
    | exact hk.elim
    | exact Det.pure _ K hk
    | exact det_b2s K hk

theorem det_extractD {x : Value} {i : Nat} : Det (extractD x i) := by
  intro K h
  unfold extractD at h ⊢
  (repeat' (split at h)) <;> first | exact h.elim | exact Det.pure _ K h

theorem det_assertD {x : Value} {t : TypeId} {ok : Bool} : Det (assertD P x t ok) := by
  intro K h
  unfold assertD asX isP isT isZ at h ⊢
  (repeat' (split at h)) <;> first | exact h.elim | exact Det.pure _ K h | exact (Det.and (Det.pure _)) K h

theorem det_buildD {t : TypeId} {ps : List (Nat × Value)} : Det (buildD P t ps) := by
  intro K h
  unfold buildD at h ⊢
  (repeat' (split at h)) <;> first | exact h.elim | exact (Det.val det_fillD fun cs => Det.pure _) K h

theorem det_lenD {t : TypeId} {x : Value} : Det (lenD P t x) := by
  intro K h
  unfold lenD at h ⊢
  split at h <;> first | exact h.elim | exact Det.pure _ K h
theorem det_capD {t : TypeId} {x : Value} : Det (capD P t x) := by
  intro K h
  unfold capD at h ⊢
  split at h <;> first | exact h.elim | exact Det.pure _ K h
theorem det_minD : ∀ {r : List Value} {x : Value}, Det (minD x r)
  | [], x => Det.pure _
  | y :: r, x => by
    intro K h
    unfold minD at h ⊢
    (repeat' (split at h)) <;> first | exact h.elim | exact det_minD K h
theorem det_maxD : ∀ {r : List Value} {x : Value}, Det (maxD x r)
  | [], x => Det.pure _
  | y :: r, x => by
    intro K h
    unfold maxD at h ⊢
    (repeat' (split at h)) <;> first | exact h.elim | exact det_maxD K h
theorem det_builtinQ {b : Builtin} {ts : Array TypeId} {vs : List Value} : Det (builtinQ P b ts vs) := by
  intro K h
  unfold builtinQ at h ⊢
  split at h <;> first | exact h.elim | exact det_lenD K h | exact det_capD K h | exact det_minD K h | exact det_maxD K h

theorem det_qx {op : Op} {env : Env} {h : Heap} : Det (qx P op env h) := by
  unfold qx
  split
  · exact Det.ev1 fun v => Det.pure v
  · exact Det.ev1 fun v => Det.pure v
  · exact Det.ev1 fun c => Det.ev1 fun a => Det.ev1 fun b => det_pickD
  · exact Det.ev1 fun v => det_nilD
  · refine Det.ev1 fun a => Det.ev1 fun b => ?_
    split
    · exact det_sameD
    · split
      · exact det_nilX
      · exact det_binD
  · exact Det.ev1 fun v => det_unD
  · exact Det.ev1 fun v => det_convD
  · split
    · exact Det.false
    · exact Det.ev1 fun v => Det.pure _
    · exact Det.false
  · exact Det.val det_evs fun a => Det.val det_evs fun b => Det.pure _
  · exact Det.ev1 fun v => det_fieldD
  · exact Det.ev1 fun v => det_fieldV
  · exact Det.ev1 fun a => Det.ev1 fun b => det_indexAD
  · exact Det.ev1 fun a => Det.ev1 fun b => det_indexVD
  · exact Det.ev1 fun a => det_sliceD
  · split
    · refine Det.ev1 fun v => ?_
      cases v <;> first | exact Det.false | exact Det.nn fun a => det_ldT
    · exact Det.false
  · exact Det.ev1 fun a => det_extractD
  · exact Det.ev1 fun a => det_assertD
  · exact Det.val det_evParts fun a => det_buildD
  · split
    · exact Det.val det_evs fun a => det_builtinQ
    · exact Det.false
  · exact Det.false

/-! ### they look at their operands alone -/
theorem ev1_congr {env env' : Env} {x : Operand} {K : Value → Prop} (h : ev env x = ev env' x) : ev1 env x K = ev1 env' x K := by unfold ev1; rw [h]
theorem evs_congr {env env' : Env} : ∀ {xs : List Operand} {K : List Value → Prop}, (∀ x ∈ xs, ev env x = ev env' x) → evs env xs K = evs env' xs K
  | [], _, _ => rfl
  | x :: r, K, h => by
    unfold evs
    rw [ev1_congr (h x (by simp))]
    congr 1; funext v
    exact evs_congr fun y hy => h y (by simp [hy])
theorem evParts_congr {env env' : Env} : ∀ {xs : List (Nat × Operand)} {K : List (Nat × Value) → Prop}, (∀ x ∈ xs.map (·.2), ev env x = ev env' x) → evParts env xs K = evParts env' xs K
  | [], _, _ => rfl
  | (i, x) :: r, K, h => by
    unfold evParts
    rw [ev1_congr (h x (by simp))]
    congr 1; funext v
    exact evParts_congr fun y hy => h y (by simp at hy ⊢; exact .inr hy)
theorem bnd_congr {env env' : Env} {x : Option Operand} {d : Int} {K : Int → Prop} (h : ∀ y, x = some y → ev env y = ev env' y) : bnd env x d K = bnd env' x d K := by
  cases x with
  | none => rfl
  | some y => unfold bnd; exact ev1_congr (h y rfl)
theorem sliceD_congr {env env' : Env} {t : TypeId} {x : Value} {lo hi mx : Option Operand} {K : Value → Prop} (h1 : ∀ y, lo = some y → ev env y = ev env' y) (h2 : ∀ y, hi = some y → ev env y = ev env' y)
    (h3 : ∀ y, mx = some y → ev env y = ev env' y) : sliceD P env t x lo hi mx K = sliceD P env' t x lo hi mx K := by
  unfold sliceD
  simp only [bnd_congr h1, bnd_congr h2, bnd_congr h3]

theorem qx_congr {env env' : Env} {op : Op} {h : Heap} {K : Value → Prop} (hc : ∀ x ∈ op.operands, ev env x = ev env' x) : qx P op env h K = qx P op env' h K := by
  cases op <;> simp only [qx] <;> simp only [Op.operands, Call.operands] at hc
  case move x => exact ev1_congr (hc x (by simp))
  case assign x => exact ev1_congr (hc x (by simp))
  case pick c a b => rw [ev1_congr (hc c (by simp))]; congr 1; funext v; rw [ev1_congr (hc a (by simp))]; congr 1; funext v; rw [ev1_congr (hc b (by simp))]
  case nilCheck x => exact ev1_congr (hc x (by simp))
  case binOp op t x y yt => rw [ev1_congr (hc x (by simp))]; congr 1; funext v; rw [ev1_congr (hc y (by simp))]
  case unOp op t x => exact ev1_congr (hc x (by simp))
  case convert s d x => exact ev1_congr (hc x (by simp))
  case makeInterface t x => rw [ev1_congr (hc x (by simp))]
  case makeFunc fn first captured =>
    rw [evs_congr (env := env) (env' := env') (xs := first.toList) (fun x hx => hc x (by simp at hx ⊢; exact .inl hx))]
    congr 1; funext v
    exact evs_congr (fun x hx => hc x (by simp at hx ⊢; exact .inr hx))
  case fieldAddr s x f => exact ev1_congr (hc x (by simp))
  case field s x f => exact ev1_congr (hc x (by simp))
  case indexAddr t x i => rw [ev1_congr (hc x (by simp))]; congr 1; funext v; rw [ev1_congr (hc i (by simp))]
  case index t x i => rw [ev1_congr (hc x (by simp))]; congr 1; funext v; rw [ev1_congr (hc i (by simp))]
  case slice t x lo hi mx =>
    rw [ev1_congr (hc x (by simp))]; congr 1; funext v
    exact sliceD_congr (fun y hy => hc y (by simp [hy])) (fun y hy => hc y (by simp [hy])) (fun y hy => hc y (by simp [hy]))
  case load t a => rw [ev1_congr (hc a (by simp))]
  case extract x i => exact ev1_congr (hc x (by simp))
  case typeAssert x xt t ok => exact ev1_congr (hc x (by simp))
  case build t ps =>
    exact evParts_congr fun x hx => hc x (by simpa using hx)
  case call c =>
    split
    · rename_i b hb
      rw [hb] at hc
      exact evs_congr fun x hx => hc x (by simpa using hx)
    · rfl

/-- a pure one does not look at the heap -/
theorem qx_pure {op : Op} {env : Env} {h h' : Heap} {K : Value → Prop} (hp : isPure P op = true) (hq : qx P op env h K) : qx P op env h' K := by
  cases op <;> simp only [isPure, isQuiet] at hp <;> first | exact hq | cases hp | skip
  case convert src dst x =>
    simp only [qx] at hq ⊢
    obtain ⟨v, hv, hk⟩ := ev1_inv hq
    unfold ev1; rw [hv]
    simp only
    split at hp
    · cases hp
    · rename_i k hd hn
      unfold convD at hk ⊢
      rw [hd] at hk ⊢
      generalize P.underlying src = su at hk ⊢
      cases su with
      | none => exact hk
      | some d => cases d <;> cases v <;> exact hk
    · cases hp

end
end Go.Proofs.Ytkgocfaajfaidaa.D
