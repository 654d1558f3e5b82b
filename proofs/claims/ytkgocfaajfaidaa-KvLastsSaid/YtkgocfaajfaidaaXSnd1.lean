/- Soundness of the quiet operations: what 'qx' says of an operation is what the model's own run of it gives, in a world that stays as it is. -/
import Derived.Test.YtkgocfaajfaidaaXCore
namespace Go.Proofs.Ytkgocfaajfaidaa.D
open Go
set_option linter.unusedVariables false
set_option linter.unusedSimpArgs false

theorem cell_heap (w : World) (a : Addr) : w.cell? a = cellH w.heap a := rfl
theorem froz_heap (w : World) (a : Addr) : w.frozen? a = frozH w.heap a := rfl
theorem heap_setCell (w : World) (a : Addr) (v : Value) : (w.setCell a v).heap = setH w.heap a v := rfl

/-- what is known of the frame holds -/
def Agrees (n : Nat) (env : Env) (a : Act) : Prop := a.tmps.size = n ∧ ∀ d v, look d env = some v → d < n ∧ a.tmps[d]? = some v

theorem beq_true_of_eq {a b : Nat} (h : a = b) : Nat.beq a b = true := by subst h; exact Nat.beq_refl a

theorem look_cons (d k : Nat) (v : Value) (r : Env) : look d ((k, v) :: r) = if k = d then some v else look d r := by
  by_cases h : k = d
  · simp [look, h]
  · have : Nat.beq k d = false := by
      cases hb : Nat.beq k d with
      | true => exact absurd (Nat.eq_of_beq_eq_true hb) h
      | false => rfl
    simp [look, this, h]

theorem ev_eval {n : Nat} {env : Env} {a : Act} {x : Operand} {v : Value} (h : Agrees n env a) (hx : ev env x = some v) : a.eval x = v := by
  cases x with
  | tmp t =>
    have := (h.2 t v hx).2
    simp [Act.eval, this]
  | const u => simpa [ev, Act.eval] using hx
  | global g => simpa [ev, Act.eval] using hx
  | func f => simpa [ev, Act.eval] using hx

theorem ev1_inv {env : Env} {x : Operand} {K : Value → Prop} (h : ev1 env x K) : ∃ v, ev env x = some v ∧ K v := by
  unfold ev1 at h
  cases hx : ev env x with
  | none => simp [hx] at h
  | some v => exact ⟨v, rfl, by simpa [hx] using h⟩

theorem ev1_eval {n : Nat} {env : Env} {a : Act} {x : Operand} {K : Value → Prop} (ha : Agrees n env a) (h : ev1 env x K) : K (a.eval x) := by
  obtain ⟨v, hv, hk⟩ := ev1_inv h
  rw [ev_eval ha hv]; exact hk

theorem evs_eval {n : Nat} {env : Env} {a : Act} (ha : Agrees n env a) : ∀ {xs : List Operand} {K : List Value → Prop}, evs env xs K → K (xs.map a.eval)
  | [], _, h => h
  | x :: r, K, h => by
    have h1 := ev1_eval ha h
    have h2 := evs_eval ha h1
    simpa using h2

theorem evParts_eval {n : Nat} {env : Env} {a : Act} (ha : Agrees n env a) : ∀ {xs : List (Nat × Operand)} {K : List (Nat × Value) → Prop}, evParts env xs K → K (xs.map fun p => (p.1, a.eval p.2))
  | [], _, h => h
  | (i, x) :: r, K, h => by
    have h1 := ev1_eval ha h
    have h2 := evParts_eval ha h1
    simpa using h2

section
variable {P : Program} {w : World}

theorem run_underlying_some {t : TypeId} {d : TypeDesc} (h : P.underlying t = some d) : (underlying t).run P w = .ok d w := by
  simp [underlying, h]

theorem info_of_underlying {t : TypeId} {d : TypeDesc} (h : P.underlying t = some d) : ∃ i, P.info? t = some i := by
  unfold Program.underlying at h
  cases hi : P.info? t with
  | none => simp [hi] at h
  | some i => exact ⟨i, rfl⟩

theorem run_sizeOf {t : TypeId} {i : TypeInfo} (h : P.info? t = some i) : (sizeOf t).run P w = .ok (P.cellsOf t) w := by
  simp [sizeOf, typeInfo, h, Program.cellsOf]

theorem cellsOf_of_info {t : TypeId} {i : TypeInfo} (h : P.info? t = some i) : P.cellsOf t = i.size := by simp [Program.cellsOf, h]
theorem bytesOf_of_info {t : TypeId} {i : TypeInfo} (h : P.info? t = some i) : P.bytesOf t = i.bytes := by simp [Program.bytesOf, h]

theorem run_typeInfo {t : TypeId} {i : TypeInfo} (h : P.info? t = some i) : (typeInfo t).run P w = .ok i w := by
  simp [typeInfo, h]

theorem cells_pos_info {t : TypeId} (h : P.cellsOf t ≠ 0) : ∃ i, P.info? t = some i := by
  unfold Program.cellsOf at h
  cases hi : P.info? t with
  | none => simp [hi] at h
  | some i => exact ⟨i, rfl⟩

theorem zeroL_info {t : TypeId} {zs : List Value} (h : zeroL P t = some zs) : ∃ i v, P.info? t = some i ∧ i.zero = some v ∧ v.cells.toList = zs := by
  unfold zeroL at h
  split at h
  · rename_i i hi
    split at h
    · rename_i v hv
      exact ⟨i, v, hi, hv, by simpa using h⟩
    · simp at h
  · simp at h

theorem run_zeroValue {t : TypeId} {i : TypeInfo} {v : Value} (h : P.info? t = some i) (hz : i.zero = some v) : (zeroValue t).run P w = .ok v w := by
  simp [zeroValue, typeInfo, h, hz]

theorem run_load_some {a : Addr} {v : Value} (h : w.cell? a = some v) (m : Mode) : (load a m).run P w = .ok v w := by
  simp [h]

theorem isAggT_run {t : TypeId} {b : Bool} (h : isAggT P t = b) {d : TypeDesc} (hd : P.underlying t = some d) : (isAgg t).run P w = .ok b w := by
  unfold isAggT at h
  simp only [hd] at h
  simp only [isAgg, Sem.run_bind, run_underlying_some hd, Result.andThen_ok]
  subst h
  cases d <;> rfl

theorem isAggT_true {t : TypeId} (h : isAggT P t = true) : ∃ d, P.underlying t = some d := by
  unfold isAggT at h
  split at h
  · exact ⟨_, ‹_›⟩
  · exact ⟨_, ‹_›⟩
  · cases h

/-! ### loads -/
theorem ldSc_inv {s : Sc} {a : Addr} {h : Heap} {K : Value → Prop} (hl : ldSc s a h K) : ∃ v, cellH h a = some v ∧ K v := by
  cases s <;> simp only [ldSc, ldI, ldB, ldS, ldP, ldL, ldM, ldV] at hl
  case sl => obtain ⟨x, l, c, h1, h2⟩ := hl; exact ⟨_, h1, h2⟩
  all_goals (obtain ⟨x, h1, h2⟩ := hl; exact ⟨_, h1, h2⟩)

theorem ldAgg_inv {h : Heap} {a : Addr} : ∀ {l : List Sc} {i : Nat} {K : List Value → Prop}, ldAgg l i a h K →
    ∃ vs : List Value, vs.length = l.length ∧ (∀ j v, vs[j]? = some v → cellH h (a.add (i + j)) = some v) ∧ K vs
  | [], i, K, hl => ⟨[], rfl, by simp, hl⟩
  | s :: r, i, K, hl => by
    obtain ⟨v, hv, hk⟩ := ldSc_inv hl
    obtain ⟨vs, hlen, hcell, hK⟩ := ldAgg_inv hk
    refine ⟨v :: vs, by simp [hlen], ?_, hK⟩
    intro j u hu
    cases j with
    | zero => simp at hu; subst hu; simpa using hv
    | succ j =>
      have := hcell j u (by simpa using hu)
      rw [show i + (j + 1) = i + 1 + j from by omega]; exact this

theorem run_loadCellsFrom {a : Addr} : ∀ (vs : List Value) (i : Nat) (acc : Array Value),
    (∀ j v, vs[j]? = some v → w.cell? (a.add (i + j)) = some v) → (loadCellsFrom a i vs.length acc).run P w = .ok (acc ++ vs.toArray) w
  | [], i, acc, _ => by simp [loadCellsFrom]
  | v :: r, i, acc, hc => by
    have h0 : w.cell? (a.add i) = some v := by simpa using hc 0 v rfl
    have ih := run_loadCellsFrom (a := a) r (i + 1) (acc.push v) (fun j u hu => by
      have := hc (j + 1) u (by simpa using hu)
      rw [show i + 1 + j = i + (j + 1) from by omega]; exact this)
    simp only [List.length_cons, loadCellsFrom, Sem.run_bind, run_load_some h0, Result.andThen_ok, ih]
    simp

theorem run_loadCells {a : Addr} {vs : List Value} {n : Nat} (hn : vs.length = n) (hc : ∀ j v, vs[j]? = some v → w.cell? (a.add j) = some v) :
    (loadCells a n).run P w = .ok vs.toArray w := by
  subst hn
  have := run_loadCellsFrom (P := P) (w := w) (a := a) vs 0 #[] (by simpa using hc)
  simpa [loadCells] using this

theorem ldT_run {t : TypeId} {a : Addr} {K : Value → Prop} (hl : ldT P t a w.heap K) {d : TypeDesc} (hd : P.underlying t = some d) :
    ∃ v, (loadVar t a).run P w = .ok v w ∧ K v := by
  unfold ldT at hl
  obtain ⟨i, hi⟩ := info_of_underlying hd
  cases hb : isAggT P t with
  | false =>
    simp only [hb] at hl
    obtain ⟨v, hv, hk⟩ := ldSc_inv hl
    exact ⟨v, by simp [loadVar, isAggT_run hb hd, cell_heap, hv], hk⟩
  | true =>
    simp only [hb] at hl
    cases hc : cellSc P 8 t with
    | none =>
      simp only [hc] at hl
      obtain ⟨cs, hlen, hcell, hk⟩ := hl
      exact ⟨_, by simp [loadVar, isAggT_run hb hd, run_sizeOf hi, run_loadCells (w := w) (P := P) hlen hcell], hk⟩
    | some l =>
      simp only [hc] at hl
      cases hn : Nat.beq l.length (P.cellsOf t) with
      | false => simp [hn] at hl
      | true =>
        simp only [hn] at hl
        obtain ⟨vs, hlen, hcell, hk⟩ := ldAgg_inv hl
        have hlen' : vs.length = P.cellsOf t := by rw [hlen]; exact Nat.eq_of_beq_eq_true hn
        exact ⟨_, by simp [loadVar, isAggT_run hb hd, run_sizeOf hi, run_loadCells (w := w) (P := P) hlen' (fun j v hj => by have := hcell j v hj; rw [Nat.zero_add] at this; exact this)], hk⟩

end
end Go.Proofs.Ytkgocfaajfaidaa.D
