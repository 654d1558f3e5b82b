/- Soundness of the quiet operations, operation by operation. -/
import Derived.Test.YtkgocfaajfaidaaXSnd1
import Derived.ChangeKeysEq
namespace Go.Proofs.Ytkgocfaajfaidaa.D
open Go
set_option linter.unusedVariables false
set_option linter.unusedSimpArgs false

section
variable {P : Program} {w : World}

theorem kEq_eq {k k' : IntKind} (h : kEq k k' = true) : k = k' := by
  cases k <;> cases k' <;> first | rfl | (simp [kEq] at h)

theorem nilD_run {v : Value} {K : Value → Prop} {o : Oper} {ρ : Operand → Value} {x : Operand} (ho : o.op = .nilCheck x) (hx : ρ x = v) (h : nilD v K) :
    ∃ u, (execOp ρ o).run P w = .ok (.value u) w ∧ K u := by
  unfold nilD at h
  simp only [execOp, ho, hx]
  split at h
  · rename_i o'
    unfold nn at h
    cases o' with
    | none => simp at h
    | some a => exact ⟨_, rfl, h⟩
  · exact ⟨_, rfl, h⟩
  · exact ⟨_, rfl, h⟩
  · exact ⟨_, rfl, h⟩
  · exact h.elim

theorem cnd_inv {b : Bool} {A B : Prop} (h : cnd b A B) : (b = true ∧ A) ∨ (b = false ∧ B) := by
  cases b
  · exact .inr ⟨rfl, h⟩
  · exact .inl ⟨rfl, h⟩

theorem constOk_pos {y : Operand} (h : constOk y = true) : ∃ k n, y = .const (.int k n) ∧ 0 < n := by
  unfold constOk at h
  split at h
  · rename_i k n
    split at h
    · rename_i m; exact ⟨_, _, rfl, by show (0 : Int) < ((m + 1 : Nat) : Int); omega⟩
    · cases h
    · cases h
  · cases h

theorem run_intArith {op : BinOp} {k : IntKind} {x y r : Int} (h : (op = .add ∧ r = k.wrap (x + y)) ∨ (op = .sub ∧ r = k.wrap (x - y)) ∨ (op = .mul ∧ r = k.wrap (x * y))) :
    (Op.intArith op k x y).run P w = .ok (.int k r) w := by
  rcases h with ⟨rfl, rfl⟩ | ⟨rfl, rfl⟩ | ⟨rfl, rfl⟩ <;> rfl

theorem intD_run {op : BinOp} {yc : Bool} {t : TypeId} {k k' : IntKind} {x y : Int} {K : Value → Prop} (hy : yc = true → 0 < y) (h : intD op yc k x k' y K) :
    ∃ u, (binOp op t (.int k x) (.int k' y)).run P w = .ok u w ∧ K u := by
  have hy' : yc = true → ¬ y < 0 ∧ y ≠ 0 := fun e => by have := hy e; omega
  cases op <;> simp only [intD] at h
  case shl =>
    cases yc with
    | true => exact ⟨_, by simp [binOp, Op.shift, (hy' rfl).1, shlI], h⟩
    | false => obtain ⟨h1, h2⟩ := h; exact ⟨_, by simp [binOp, Op.shift, show ¬ y < 0 by omega, shlI], h2⟩
  case shr =>
    cases yc with
    | true => exact ⟨_, by simp [binOp, Op.shift, (hy' rfl).1, shrI], h⟩
    | false => obtain ⟨h1, h2⟩ := h; exact ⟨_, by simp [binOp, Op.shift, show ¬ y < 0 by omega, shrI], h2⟩
  all_goals
    cases hk : kEq k k' with
    | false => simp [hk] at h
    | true =>
      simp only [hk] at h
      obtain rfl := kEq_eq hk
      first
        | (cases yc with
           | true => exact ⟨_, by simp [binOp, Op.intDiv, (hy' rfl).2], h⟩
           | false => obtain ⟨h1, h2⟩ := h; exact ⟨_, by simp [binOp, Op.intDiv, h1], h2⟩)
        | exact ⟨_, by simp [binOp, Op.intArith, Op.intBits, Op.intCmp, andI, orI, xorI, andNotI], h⟩
        | exact h.elim

theorem strD_run {op : BinOp} {t : TypeId} {x y : ByteArray} {K : Value → Prop} (h : strD op x y K) :
    ∃ u, (binOp op t (.string x) (.string y)).run P w = .ok u w ∧ K u := by
  cases op <;> simp only [strD] at h
  case add =>
    obtain ⟨h1, h2⟩ := h
    exact ⟨_, by simp [binOp, Op.stringOp, IntKind.max, IntKind.signed, IntKind.bits]; omega, h2⟩
  all_goals first
    | exact h.elim
    | exact ⟨_, by simp [binOp, Op.stringOp, seq, slt], h⟩

theorem outB_inv {neg b : Bool} {K : Value → Prop} (h : outB neg b K) : (neg = true → K (.bool (!b))) ∧ (neg = false → K (.bool b)) := by
  cases neg
  · exact ⟨fun e => (by cases e), fun _ => h⟩
  · exact ⟨fun _ => h, fun e => (by cases e)⟩

theorem eqS_run {t : TypeId} {x y : Value} {K : Bool → Prop} (d : Nat) (h : eqS P t x y K) : ∃ r, (Op.equalIn (d + 1) t x y).run P w = .ok r w ∧ K r := by
  unfold eqS at h
  split at h
  · split at h
    · split at h
      · obtain rfl := kEq_eq ‹_›
        exact ⟨_, by simp [Op.equalIn, run_underlying_some ‹P.underlying t = _›], h⟩
      · exact h.elim
    · exact h.elim
  · split at h
    · exact ⟨_, by simp [Op.equalIn, run_underlying_some ‹P.underlying t = _›], h⟩
    · exact h.elim
  · split at h
    · exact ⟨_, by simp [Op.equalIn, run_underlying_some ‹P.underlying t = _›, seq, beq_toListBytes], h⟩
    · exact h.elim
  · exact h.elim

theorem eqS_type {t : TypeId} {x y : Value} {K : Bool → Prop} (h : eqS P t x y K) : ∃ d, P.underlying t = some d := by
  unfold eqS at h
  cases hd : P.underlying t with
  | none => rw [hd] at h; exact h.elim
  | some d => exact ⟨d, rfl⟩

theorem part_run {e : TypeId} {xs : Array Value} {k : Nat} {v : Value} (ha : isAggT P e = false) {d : TypeDesc} (hd : P.underlying e = some d) (hv : xs[k]? = some v) : (part e xs k).run P w = .ok v w := by
  simp [part, isAggT_run ha hd, hv]

theorem eqCells_items {e : TypeId} (ha : isAggT P e = false) {xs ys : Array Value} (d : Nat) : ∀ (n k : Nat) {K : Bool → Prop}, eqCells P (List.replicate n e) (xs.toList.drop k) (ys.toList.drop k) K →
    ∃ r, (Op.eqItems (d + 1) e 1 xs ys (List.range' k n)).run P w = .ok r w ∧ K r
  | 0, k, K, h => by
    rw [List.replicate_zero] at h
    revert h
    cases xs.toList.drop k <;> cases ys.toList.drop k <;> intro h
    · exact ⟨true, by simp [Op.eqItems], h⟩
    all_goals exact h.elim
  | n + 1, k, K, h => by
    rw [List.replicate_succ] at h
    cases hx : xs.toList.drop k with
    | nil => rw [hx] at h; exact h.elim
    | cons x rx =>
      cases hy : ys.toList.drop k with
      | nil => rw [hx, hy] at h; exact h.elim
      | cons y ry =>
        rw [hx, hy] at h
        simp only [eqCells] at h
        have gx : xs[k]? = some x := by
          have := congrArg (·[0]?) hx
          simpa using this
        have gy : ys[k]? = some y := by
          have := congrArg (·[0]?) hy
          simpa using this
        have hx' : xs.toList.drop (k + 1) = rx := by rw [← List.drop_drop, hx]; rfl
        have hy' : ys.toList.drop (k + 1) = ry := by rw [← List.drop_drop, hy]; rfl
        obtain ⟨dd, hdd⟩ := eqS_type h
        obtain ⟨r, h1, h2⟩ := eqS_run (w := w) d h
        rw [← hx', ← hy'] at h2
        obtain ⟨s, h3, h4⟩ := eqCells_items ha d n (k + 1) h2
        refine ⟨r && s, ?_, h4⟩
        rw [List.range'_succ]
        simp only [Op.eqItems, Sem.run_bind, Nat.mul_one, part_run ha hdd gx, part_run ha hdd gy, Result.andThen_ok, h1]
        cases r
        · simp
        · simpa using h3

theorem eqCells_fields {xs ys : Array Value} (d : Nat) : ∀ (fs : List Field) (n : Nat) (l : List TypeId) {K : Bool → Prop}, fldTys n fs = some l → (∀ u ∈ l, isAggT P u = false) → eqCells P l (xs.toList.drop n) (ys.toList.drop n) K →
    ∃ r, (Op.eqFields (d + 1) xs ys fs).run P w = .ok r w ∧ K r
  | [], n, l, K, hl, _, h => by
    simp only [fldTys, Option.some.injEq] at hl
    subst hl
    revert h
    cases xs.toList.drop n <;> cases ys.toList.drop n <;> intro h
    · exact ⟨true, by simp [Op.eqFields], h⟩
    all_goals exact h.elim
  | f :: fs, k, l, K, hl, hag, h => by
    unfold fldTys at hl
    split at hl
    · rename_i hb
      split at hl
      · rename_i l' hl'
        injection hl with hl
        subst hl
        simp only [Bool.and_eq_true, Bool.not_eq_true', beq_eq_false_iff_ne] at hb
        obtain ⟨hb1, hb2⟩ := hb
        have hoff : f.offset = k := Nat.eq_of_beq_eq_true hb1
        cases hx : xs.toList.drop k with
        | nil => rw [hx] at h; exact h.elim
        | cons x rx =>
          cases hy : ys.toList.drop k with
          | nil => rw [hx, hy] at h; exact h.elim
          | cons y ry =>
            rw [hx, hy] at h
            simp only [eqCells] at h
            have gx : xs[k]? = some x := by
              have := congrArg (·[0]?) hx
              simpa using this
            have gy : ys[k]? = some y := by
              have := congrArg (·[0]?) hy
              simpa using this
            have hx' : xs.toList.drop (k + 1) = rx := by rw [← List.drop_drop, hx]; rfl
            have hy' : ys.toList.drop (k + 1) = ry := by rw [← List.drop_drop, hy]; rfl
            obtain ⟨dd, hdd⟩ := eqS_type h
            obtain ⟨r, h1, h2⟩ := eqS_run (w := w) d h
            rw [← hx', ← hy'] at h2
            obtain ⟨s, h3, h4⟩ := eqCells_fields d fs (k + 1) l' hl' (fun u hu => hag u (List.mem_cons_of_mem _ hu)) h2
            have ha := hag f.type (List.mem_cons_self ..)
            refine ⟨r && s, ?_, h4⟩
            simp only [Op.eqFields, hb2, ne_eq, not_false_eq_true, if_true, Sem.run_bind, hoff, part_run ha hdd gx, part_run ha hdd gy, Result.andThen_ok, h1]
            cases r
            · simp
            · simpa using h3
      · cases hl
    · cases hl

/-- == of a struct or an array of cells -/
theorem eqAgg_run {t : TypeId} {xs ys : Array Value} {l : List TypeId} {K : Bool → Prop} (d : Nat) (hl : aggTys P t = some l) (h : eqCells P l xs.toList ys.toList K) :
    P.eqGuardType P.depth t = false ∧ ∃ r, (Op.equalIn (d + 2) t (.agg xs) (.agg ys)).run P w = .ok r w ∧ K r := by
  unfold aggTys at hl
  split at hl
  · cases hl
  · rename_i hg
    refine ⟨hg, ?_⟩
    split at hl
    · rename_i n e hu
      split at hl
      · rename_i i hi
        split at hl
        · rename_i hb
          injection hl with hl
          subst hl
          simp only [Bool.and_eq_true, Bool.not_eq_true'] at hb
          have hc : P.cellsOf e = 1 := Nat.eq_of_beq_eq_true hb.1
          obtain ⟨r, h1, h2⟩ := eqCells_items (w := w) (xs := xs) (ys := ys) hb.2 d n 0 (by simpa using h)
          refine ⟨r, ?_, h2⟩
          rw [run_equalIn_array w (d + 1) xs ys hu hi, hc, List.range_eq_range']
          exact h1
        · cases hl
      · cases hl
    · rename_i fs hu
      split at hl
      · cases hl
      · rename_i hs
        split at hl
        · rename_i l' hl'
          split at hl
          · rename_i hall
            injection hl with hl
            subst hl
            have hfs : P.fieldsOf t = fs := by simp [Program.fieldsOf, hu]
            obtain ⟨r, h1, h2⟩ := eqCells_fields (w := w) (xs := xs) (ys := ys) d fs.toList 0 l' hl' (fun u hu' => by
              have := List.all_eq_true.1 hall u hu'
              simpa using this) (by simpa using h)
            refine ⟨r, ?_, h2⟩
            rw [run_equalIn_struct w (d + 1) t xs ys (by rw [hfs]; exact hu) hs, hfs]
            exact h1
          · cases hl
        · cases hl
    · cases hl

theorem eqD_runN {neg : Bool} {t : TypeId} {x y : Value} {K : Value → Prop} (d : Nat) (hd : ∃ d', d = d' + 1) (h : eqD P neg t x y K) :
    ∃ b : Bool, (Op.equalIn (d + 1) t x y).run P w = .ok b w ∧ (neg = true → K (.bool (!b))) ∧ (neg = false → K (.bool b)) := by
  unfold eqD at h
  split at h
  · split at h
    · exact ⟨_, by simp [Op.equalIn, run_underlying_some ‹P.underlying t = _›], outB_inv h⟩
    · exact h.elim
  · split at h
    · split at h
      · rename_i a _ _
        exact ⟨_, by cases a <;> simp [Op.equalIn, run_underlying_some ‹P.underlying t = _›], outB_inv h⟩
      · exact h.elim
    · exact h.elim
  · split at h
    · split at h
      · rename_i a
        exact ⟨_, by cases a <;> simp [Op.equalIn, run_underlying_some ‹P.underlying t = _›], outB_inv h⟩
      · exact h.elim
    · exact h.elim
  · split at h
    · split at h
      · rename_i a
        exact ⟨_, by cases a <;> simp [Op.equalIn, run_underlying_some ‹P.underlying t = _›], outB_inv h⟩
      · exact h.elim
    · exact h.elim
  · split at h
    · split at h
      · exact ⟨_, by simp [Op.equalIn, run_underlying_some ‹P.underlying t = _›], outB_inv h⟩
      · exact ⟨_, by simp [Op.equalIn, run_underlying_some ‹P.underlying t = _›], outB_inv h⟩
      · exact h.elim
    · exact h.elim
  · split at h
    · split at h
      · exact ⟨_, by simp [Op.equalIn, run_underlying_some ‹P.underlying t = _›], outB_inv h⟩
      · exact h.elim
    · exact h.elim
  · split at h
    · split at h
      · obtain ⟨d', rfl⟩ := hd
        obtain ⟨_, r, h1, h2⟩ := eqAgg_run (w := w) d' ‹_› h
        exact ⟨r, h1, outB_inv h2⟩
      · exact h.elim
    · exact h.elim
  · split at h
    · split at h
      · obtain ⟨d', rfl⟩ := hd
        obtain ⟨_, r, h1, h2⟩ := eqAgg_run (w := w) d' ‹_› h
        exact ⟨r, h1, outB_inv h2⟩
      · exact h.elim
    · exact h.elim
  · exact h.elim

theorem eqD_agg {neg : Bool} {t : TypeId} {xs ys : Array Value} {K : Value → Prop} (h : eqD P neg t (.agg xs) (.agg ys) K) : P.eqGuardType P.depth t = false := by
  unfold eqD at h
  (repeat' (split at h)) <;> first | exact h.elim | (injections; done) | (injections; subst_vars; exact (eqAgg_run (w := default) 0 ‹_› h).1)

theorem eqGuard_eql {t : TypeId} {x y : Operand} {xs ys : Array Value} (h : P.eqGuardType P.depth t = false) : (eqGuard .eql t x y (.agg xs) (.agg ys)).run P w = .ok () w := by
  simp [eqGuard, h]
theorem eqGuard_neq {t : TypeId} {x y : Operand} {xs ys : Array Value} (h : P.eqGuardType P.depth t = false) : (eqGuard .neq t x y (.agg xs) (.agg ys)).run P w = .ok () w := by
  simp [eqGuard, h]

theorem eqD_run {neg : Bool} {t : TypeId} {x y : Value} {K : Value → Prop} (h : eqD P neg t x y K) :
    ∃ b : Bool, (Op.equal t x y).run P w = .ok b w ∧ (neg = true → K (.bool (!b))) ∧ (neg = false → K (.bool b)) := eqD_runN 9999 ⟨9998, rfl⟩ h

/-- the guard ahead of == and != does nothing at what 'binD' takes -/
theorem binD_run {op : BinOp} {t : TypeId} {x y : Operand} {a b : Value} {K : Value → Prop} (hy : constOk y = true → ∀ k n, b = .int k n → 0 < n) (h : binD P op (constOk y) t a b K) :
    ∃ u, (do eqGuard op t x y a b; binOp op t a b : Sem Value).run P w = .ok u w ∧ K u := by
  unfold binD at h
  split at h
  · rename_i k m k' n
    obtain ⟨u, h1, h2⟩ := intD_run (P := P) (w := w) (t := t) (fun e => hy e k' n rfl) h
    exact ⟨u, by cases op <;> simpa [eqGuard] using h1, h2⟩
  · obtain ⟨u, h1, h2⟩ := strD_run (P := P) (w := w) (t := t) h
    exact ⟨u, by cases op <;> simpa [eqGuard] using h1, h2⟩
  · rename_i hn1 hn2
    split at h
    · obtain ⟨c, h1, _, h2⟩ := eqD_run (w := w) h
      refine ⟨_, ?_, h2 rfl⟩
      have hg : (eqGuard .eql t x y a b).run P w = .ok () w := by
        cases a <;> cases b <;> first | rfl | exact eqGuard_eql (eqD_agg h) | exact eqGuard_neq (eqD_agg h) | (unfold eqD at h; (repeat' (split at h)) <;> simp_all)
      have hb : (binOp .eql t a b).run P w = .ok (.bool c) w := by
        cases a <;> cases b <;> first | (simp only [binOp, Sem.run_bind, h1, Result.andThen_ok]; rfl) | (unfold eqD at h; (repeat' (split at h)) <;> simp_all)
      simp only [Sem.run_bind, hg, Result.andThen_ok, hb]
    · obtain ⟨c, h1, h2, _⟩ := eqD_run (w := w) h
      refine ⟨_, ?_, h2 rfl⟩
      have hg : (eqGuard .neq t x y a b).run P w = .ok () w := by
        cases a <;> cases b <;> first | rfl | exact eqGuard_eql (eqD_agg h) | exact eqGuard_neq (eqD_agg h) | (unfold eqD at h; (repeat' (split at h)) <;> simp_all)
      have hb : (binOp .neq t a b).run P w = .ok (.bool !c) w := by
        cases a <;> cases b <;> first | (simp only [binOp, Sem.run_bind, h1, Result.andThen_ok]; rfl) | (unfold eqD at h; (repeat' (split at h)) <;> simp_all)
      simp only [Sem.run_bind, hg, Result.andThen_ok, hb]
    · exact h.elim

theorem unD_run {op : UnOp} {x : Value} {K : Value → Prop} (h : unD op x K) : ∃ u, (Op.unary op x).run P w = .ok u w ∧ K u := by
  unfold unD at h
  split at h
  · exact ⟨_, rfl, h⟩
  · exact ⟨_, rfl, h⟩
  · exact ⟨_, rfl, h⟩
  · exact h.elim

theorem fieldD_run {s : TypeId} {x : Value} {f : Nat} {K : Value → Prop} (h : fieldD P s x f K) : ∃ u, (Instr.fieldAt s x f).run P w = .ok u w ∧ K u := by
  unfold fieldD at h
  split at h
  · rename_i fs hfs
    split at h
    · rename_i fd hfd
      cases hz : Nat.beq (P.cellsOf fd.type) 0 with
      | true => simp [hz] at h
      | false =>
        simp only [hz] at h
        have hne : P.cellsOf fd.type ≠ 0 := fun e => by rw [e] at hz; simp at hz
        obtain ⟨i, hi⟩ := cells_pos_info hne
        split at h
        · rename_i o
          cases o with
          | none => exact h.elim
          | some a =>
            refine ⟨_, ?_, h⟩
            simp [Instr.fieldAt, run_underlying_some hfs, hfd, Instr.sureAddr, fieldPlace, run_sizeOf hi, hne]
        · exact h.elim
    · exact h.elim
  · exact h.elim

theorem partD_run {t : TypeId} {cs : List Value} {off : Nat} {K : Value → Prop} (h : partD P t cs off K) {d : TypeDesc} (hd : P.underlying t = some d) :
    ∃ u, (part t cs.toArray off).run P w = .ok u w ∧ K u := by
  unfold partD at h
  obtain ⟨i, hi⟩ := info_of_underlying hd
  cases hb : isAggT P t with
  | true =>
    simp only [hb] at h
    refine ⟨_, ?_, h⟩
    simp [part, isAggT_run hb hd, run_sizeOf hi, List.extract_toArray, List.extract_eq_take_drop]
  | false =>
    simp only [hb] at h
    split at h
    · rename_i v hv
      exact ⟨v, by simp [part, isAggT_run hb hd, hv], h⟩
    · exact h.elim

end
end Go.Proofs.Ytkgocfaajfaidaa.D
