/- Soundness of the operations that write, make memory or call. -/
import Derived.Test.YtkgocfaajfaidaaXSnd4
namespace Go.Proofs.Ytkgocfaajfaidaa.D
open Go
set_option linter.unusedVariables false
set_option linter.unusedSimpArgs false

theorem DefKept.refl (h : Heap) : DefKept h h := ⟨Nat.le_refl _, fun _ h => h⟩
theorem DefKept.trans {a b c : Heap} (h : DefKept a b) (k : DefKept b c) : DefKept a c := ⟨Nat.le_trans h.1 k.1, fun i hi => k.2 i (h.2 i hi)⟩
theorem DefKept.push (h : Heap) (o : Obj) : DefKept h (h.push o) := ⟨by simp, fun b hb => by
  have := (Array.getElem?_eq_some_iff.1 hb).1
  rw [Array.getElem?_push, if_neg (by omega)]; exact hb⟩
theorem DefKept.modify (h : Heap) (k : Nat) (f : Obj → Obj) (hf : f (.deferred (some [])) = .deferred (some [])) : DefKept h (h.modify k f) := ⟨by simp, fun b hb => by
  rw [Array.getElem?_modify]
  by_cases e : k = b
  · rw [if_pos e, hb]; simp [hf]
  · rw [if_neg e]; exact hb⟩
theorem DefKept.set (h : Heap) (k : Nat) (o x : Obj) (hk : h[k]? = some x) (hx : x ≠ .deferred (some [])) : DefKept h (h.setIfInBounds k o) := ⟨by simp, fun b hb => by
  by_cases e : k = b
  · subst e; rw [hk] at hb; injection hb with hb; exact absurd hb hx
  · rw [Array.getElem?_setIfInBounds_ne e]; exact hb⟩
theorem SameOs.refl (w : World) : SameOs w w := ⟨rfl, rfl, rfl, .refl _⟩
theorem SameOs.trans {a b c : World} (h : SameOs a b) (k : SameOs b c) : SameOs a c := ⟨k.1.trans h.1, k.2.1.trans h.2.1, k.2.2.1.trans h.2.2.1, h.2.2.2.trans k.2.2.2⟩
theorem SameOs.heap (w : World) (g : Array Obj) (hd : DefKept w.heap g) : SameOs w { w with heap := g } := ⟨rfl, rfl, rfl, hd⟩
theorem SameOs.setCell (w : World) (a : Addr) (v : Value) : SameOs w (w.setCell a v) := ⟨rfl, rfl, rfl, .modify _ _ _ rfl⟩

theorem setH_get (h : Heap) (a : Addr) (v : Value) (b : Nat) : (setH h a v)[b]? = if a.block = b then (h[b]?).map (fun
    | .cells c elem frozen => .cells (if a.spot.isSome then c else c.setIfInBounds a.off v) elem frozen
    | o => o) else h[b]? := by
  unfold setH
  rw [Array.getElem?_modify]
  rfl

theorem cellH_setH_isSome (h : Heap) (a b : Addr) (v : Value) : (cellH (setH h a v) b).isSome = (cellH h b).isSome := by
  unfold cellH
  rw [setH_get]
  by_cases e : a.block = b.block
  · rw [if_pos e]
    cases hb : h[b.block]? with
    | none => rfl
    | some o =>
      cases o
      case cells c e f => by_cases hs : b.spot.isSome <;> by_cases hs' : a.spot.isSome <;> simp [hs, hs', Array.getElem?_setIfInBounds] <;> (try (split <;> (try split) <;> simp_all))
      all_goals rfl
  · rw [if_neg e]

theorem frozH_setH (h : Heap) (a b : Addr) (v : Value) : frozH (setH h a v) b = frozH h b := by
  unfold frozH
  rw [setH_get]
  by_cases e : a.block = b.block
  · rw [if_pos e]
    cases hb : h[b.block]? with
    | none => rfl
    | some o => cases o <;> rfl
  · rw [if_neg e]

section
variable {P : Program} {w : World}

theorem run_store_ok {a : Addr} {v : Value} (h1 : v.oneCell' = true) (h2 : (cellH w.heap a).isSome = true) (h3 : frozH w.heap a = false) : (store a v).run P w = .ok () (w.setCell a v) := by
  rw [run_store P w a v .plain h1, cell_heap, froz_heap, h3]
  cases hc : cellH w.heap a with
  | none => rw [hc] at h2; cases h2
  | some x => rfl

theorem stN_run : ∀ {vs : List Value} {w : World} {i : Nat} {a : Addr} {K : Heap → Prop}, stN vs i a w.heap K →
    ∃ w', (storeCells a vs i).run P w = .ok () w' ∧ SameOs w w' ∧ K w'.heap
  | [], w, i, a, K, h => ⟨w, rfl, .refl w, h⟩
  | v :: r, w, i, a, K, h => by
    obtain ⟨h1, h2, h3, h4⟩ := h
    obtain ⟨w', h5, h6, h7⟩ := stN_run (w := w.setCell (a.add i) v) h4
    refine ⟨w', ?_, (SameOs.setCell _ _ _).trans h6, h7⟩
    simp only [storeCells, Sem.run_bind, run_store_ok h1 h2 h3, Result.andThen_ok, h5]

theorem stRow_run_aux : ∀ {vs : List Value} {w : World} {i : Nat} {a : Addr}, (∀ v ∈ vs, v.oneCell' = true) →
    (∀ j, j < vs.length → (cellH w.heap (a.add (i + j))).isSome = true ∧ frozH w.heap (a.add (i + j)) = false) →
    ∃ w', (storeCells a vs i).run P w = .ok () w' ∧ SameOs w w' ∧ w'.heap = setRow w.heap a vs i
  | [], w, i, a, _, _ => ⟨w, rfl, .refl w, rfl⟩
  | v :: r, w, i, a, h1, h2 => by
    have h0 := h2 0 (by simp)
    obtain ⟨w', h5, h6, h7⟩ := stRow_run_aux (vs := r) (w := w.setCell (a.add i) v) (i := i + 1) (a := a) (fun u hu => h1 u (by simp [hu])) (fun j hj => by
      have := h2 (j + 1) (by simp; omega)
      rw [heap_setCell, cellH_setH_isSome, frozH_setH, show i + 1 + j = i + (j + 1) from by omega]; exact this)
    refine ⟨w', ?_, (SameOs.setCell _ _ _).trans h6, h7⟩
    simp only [storeCells, Sem.run_bind, run_store_ok (h1 v (by simp)) (by simpa using h0.1) (by simpa using h0.2), Result.andThen_ok, h5]

theorem stRow_run {vs : List Value} {a : Addr} {K : Heap → Prop} (h : stRow vs a w.heap K) : ∃ w', (storeCells a vs).run P w = .ok () w' ∧ SameOs w w' ∧ K w'.heap := by
  obtain ⟨h1, h2, h3⟩ := h
  obtain ⟨w', h4, h5, h6⟩ := stRow_run_aux (P := P) (vs := vs) (w := w) (i := 0) (a := a) h1 (fun j hj => by simpa using h2 j hj)
  exact ⟨w', h4, h5, by rw [h6]; exact h3⟩

theorem wrRow_run {vs : List Value} {o : Option Addr} {K : Heap → Prop} (h : wrRow vs o w.heap K) :
    ∃ w', (match o with | some a => storeCells a vs | none => pure () : Sem Unit).run P w = .ok () w' ∧ SameOs w w' ∧ K w'.heap := by
  unfold wrRow at h
  cases o with
  | none => exact ⟨w, rfl, .refl w, h⟩
  | some a => exact stRow_run h

theorem stT_run {t : TypeId} {a : Addr} {v : Value} {K : Heap → Prop} (h : stT P t a v w.heap K) : ∃ w', (storeVar t a v).run P w = .ok () w' ∧ SameOs w w' ∧ K w'.heap := by
  unfold stT at h
  split at h
  · rename_i hb
    obtain ⟨d, hd⟩ := isAggT_true hb
    obtain ⟨i, hi⟩ := info_of_underlying hd
    split at h
    · split at h
      · rename_i cs
        split at h
        · rename_i hn
          obtain ⟨w', h1, h2, h3⟩ := stN_run (P := P) h
          have e : cs.size = P.cellsOf t := by have := Nat.eq_of_beq_eq_true hn; simpa using this
          exact ⟨w', by simp [storeVar, run_sizeOf hi, Value.cells, e, h1], h2, h3⟩
        · exact h.elim
      · exact h.elim
    · unfold agD at h
      split at h
      · rename_i cs
        obtain ⟨hn, h⟩ := h
        obtain ⟨w', h1, h2, h3⟩ := stRow_run (P := P) h
        have e : cs.size = P.cellsOf t := by simpa using hn
        exact ⟨w', by simp [storeVar, run_sizeOf hi, Value.cells, e, h1], h2, h3⟩
      · exact h.elim
  · split at h
    · rename_i hn
      have e : P.cellsOf t = 1 := Nat.eq_of_beq_eq_true hn
      obtain ⟨i, hi⟩ := cells_pos_info (P := P) (t := t) (by omega)
      have hc : v.cells = #[v] := by
        have := h.1
        cases v <;> first | rfl | cases this
      have h' : stN [v] 0 a w.heap K := by
        unfold stN stN
        simpa [Addr.add] using h
      obtain ⟨w', h1, h2, h3⟩ := stN_run (P := P) h'
      exact ⟨w', by simp [storeVar, run_sizeOf hi, hc, e, h1], h2, h3⟩
    · exact h.elim

theorem run_newRow {t : TypeId} {cs : Array Value} : (newRow t cs).run P w = .ok ⟨w.heap.size, 0, none⟩ { w with heap := w.heap.push (.cells cs t) } := by
  simp [newRow]

theorem zerosL_get {zs : List Value} (hz : zs ≠ []) (n : Nat) : ((Array.range (n * zs.length)).map fun i => zs.toArray[i % zs.toArray.size]!) = (zerosL zs n).toArray := by
  have e : zerosL zs n = (List.replicate n zs).flatten := by
    unfold zerosL
    split
    · rename_i z; induction n with
      | zero => rfl
      | succ n ih => simp [List.replicate_succ]
    · rfl
  rw [e]
  apply Array.toList_inj.1
  have hl : 0 < zs.length := by cases zs with | nil => exact absurd rfl hz | cons => simp
  apply List.ext_getElem?
  intro i
  simp only [Array.toList_map, Array.toList_range, List.getElem?_map, List.size_toArray]
  by_cases hi : i < n * zs.length
  · rw [List.getElem?_range hi]
    have h1 : i % zs.length < zs.length := Nat.mod_lt _ hl
    simp only [Option.map_some]
    have h2 : (List.replicate n zs).flatten[i]? = some zs[i % zs.length] := by
      clear e
      induction n generalizing i with
      | zero => omega
      | succ n ih =>
        rw [List.replicate_succ, List.flatten_cons, List.getElem?_append]
        by_cases hlt : i < zs.length
        · rw [if_pos hlt]
          have e : i % zs.length = i := Nat.mod_eq_of_lt hlt
          simp only [e]
          exact List.getElem?_eq_getElem hlt
        · rw [if_neg hlt]
          have h3 : i - zs.length < n * zs.length := by rw [Nat.add_mul] at hi; omega
          have h4 : (i - zs.length) % zs.length = i % zs.length := by
            conv => rhs; rw [show i = (i - zs.length) + zs.length from by omega, Nat.add_mod_right]
          have := ih (i - zs.length) h3 (by rw [h4]; exact h1)
          rw [this]
          congr 1
          simp only [h4]
    rw [h2]
    congr 1
    rw [getElem!_pos zs.toArray (i % zs.length) (by simpa using h1)]
    simp
  · rw [List.getElem?_eq_none (by simp; omega), List.getElem?_eq_none (by simp; omega)]
    rfl

theorem zeroCells_eq {zs : List Value} (hz : zs ≠ []) (n : Nat) : Builtin.zeroCells zs.toArray n = (zerosL zs n).toArray := by
  unfold Builtin.zeroCells
  exact zerosL_get hz n

theorem zs_ne {e : TypeId} {zs : List Value} (h0 : P.cellsOf e ≠ 0) (h : zs.length = P.cellsOf e) : zs ≠ [] := by
  intro h1; rw [h1] at h; simp at h; omega

def rdS (o : Option Addr) (n : Nat) : Sem (Array Value) :=
  match o with
  | some a => loadCells a n
  | none => pure #[]
theorem rdCells_inv {o : Option Addr} {n : Nat} {K : List Value → Prop} (h : rdCells o n w.heap K) :
    ∃ cs : List Value, (rdS o n).run P w = .ok cs.toArray w ∧ K cs := by
  unfold rdCells at h
  cases o with
  | none => exact ⟨[], rfl, h⟩
  | some a =>
    obtain ⟨cs, h1, h2, h3⟩ := h
    exact ⟨cs, run_loadCells h1 h2, h3⟩

/-- what a run of a value hands back, in a world that has gone on -/
def Gives (P : Program) (s : Sem Value) (w : World) (K : Value → Heap → Prop) : Prop := ∃ v w', s.run P w = .ok v w' ∧ SameOs w w' ∧ K v w'.heap

theorem mkSl_run {t e : TypeId} {zs : List Value} {k k' : IntKind} {l c : Int} {K : Value → Heap → Prop} (hu : P.underlying t = some (.slice e)) (hz : zeroL P e = some zs) (h0 : P.cellsOf e ≠ 0) (hl : zs.length = P.cellsOf e)
    (h : mkSl zs e (P.bytesOf e) l c w.heap fun a h' => K (.slice (some a) l.toNat c.toNat) h') : Gives P (Instr.makeSlice t (.int k l) (.int k' c)) w K := by
  obtain ⟨g0, g1, g2, g3, g4⟩ := h
  obtain ⟨i, v, hi, hv, hzs⟩ := zeroL_info hz
  have wl : IntKind.i64.wrap l = l := by simp [IntKind.wrap, IntKind.bits, IntKind.signed]; omega
  have wc : IntKind.i64.wrap c = c := by simp [IntKind.wrap, IntKind.bits, IntKind.signed]; omega
  have hb : (i.bytes : Int) * c ≤ 281474976710656 := by rw [← bytesOf_of_info hi]; exact g3
  have hvz : v.cells = zs.toArray := by rw [← hzs]
  have hnb : ¬ (c < 0) := by omega
  refine ⟨_, { w with heap := w.heap.push (.cells (zerosL zs c.toNat).toArray e) }, ?_, .heap _ _ (.push _ _), g4⟩
  have hmap : ((Array.range (c.toNat * P.cellsOf e)).map fun i => zs.toArray[i % zs.toArray.size]!) = (zerosL zs c.toNat).toArray := by
    rw [← hl]; exact zerosL_get (zs_ne h0 hl) _
  by_cases hc : c = 0
  · subst hc
    have e0 : zerosL zs 0 = [] := by
      unfold zerosL
      split <;> simp
    have hz2 : l = 0 := by omega
    subst hz2
    simp [Instr.makeSlice, run_underlying_some hu, asInt, asIntOf, run_typeInfo hi, IntKind.wrap, run_sizeOf hi, run_newRow, e0, IntKind.bits]
    rw [show Array.range 0 = #[] from Array.eq_empty_of_size_eq_zero (by simp), Array.map_empty]
  · have hc' : c.toNat * P.cellsOf e ≠ 0 := by
      have : 0 < c.toNat := by omega
      exact Nat.mul_ne_zero (by omega) h0
    simp only [Instr.makeSlice, Sem.run_bind, run_underlying_some hu, Result.andThen_ok, asInt, asIntOf, Sem.run_pure, run_typeInfo hi, wl, wc]
    have hcond : ((decide (c < 0) || decide ((i.bytes : Int) * c > 2 ^ 48)) || decide (l < 0) || decide (l > c)) = false := by
      simp; omega
    simp only [hcond]
    simp only [Bool.false_eq_true, if_false, Sem.run_bind, run_askRoom, Result.andThen_ok, run_sizeOf hi, if_neg hc', run_zeroValue hi hv, Sem.run_pure, hvz, hmap, run_newRow]

theorem app_run {t u : TypeId} {argTypes : Array TypeId} {ty e : TypeId} {zs : List Value} {o : Option Addr} {l c m : Nat} {x : Value} {new : List Value} {K : Value → Heap → Prop} {d : TypeDesc}
    (ht : argTypes[0]? = some t) (hu1 : argTypes[1]? = some u) (hd : P.underlying u = some d) (hni : ∀ k, d ≠ .int k)
    (hu : P.underlying t = some (.slice e)) (hz : zeroL P e = some zs) (h0 : P.bytesOf e ≠ 0) (hl : zs.length = P.cellsOf e)
    (hlen : (Builtin.lenOf x).run P w = .ok m w) (hnew : ∀ w' : World, w'.heap = w.heap → (Builtin.firstCells (P.cellsOf e) m x).run P w' = .ok new.toArray w')
    (h : app zs e (P.cellsOf e) (P.bytesOf e) o l c new m w.heap fun o'' c' h' => K (.slice o'' (l + m) c') h') :
    Gives P (Builtin.append_ argTypes ty #[.slice o l c, x]) w K := by
  obtain ⟨i, v, hi, hv, hzs⟩ := zeroL_info hz
  have hvz : v.cells = zs.toArray := by rw [← hzs]
  have hb : i.bytes ≠ 0 := by rw [← bytesOf_of_info hi]; exact h0
  have hmatch : (match d with | .int _ => true | _ => false) = false := by cases d <;> first | rfl | exact absurd rfl (hni _)
  unfold app at h
  by_cases hc : l + m ≤ c
  · rw [if_pos hc] at h
    cases o with
    | some a =>
      obtain ⟨w', h1, h2, h3⟩ := stRow_run (P := P) h
      refine ⟨_, w', ?_, h2, h3⟩
      simp only [Builtin.append_, ht, hu1, List.getElem?_toArray, List.getElem?_cons_zero, List.getElem?_cons_succ, Sem.run_bind, run_underlying_some hu, Result.andThen_ok, run_sizeOf hi, run_underlying_some hd, Sem.run_pure, hmatch]
      simp only [Bool.false_eq_true, if_false, hlen, Result.andThen_ok, hc, if_true, Bool.not_false, hnew w rfl, Sem.run_bind, h1, Sem.run_pure]
    | none =>
      refine ⟨_, w, ?_, .refl w, h⟩
      simp only [Builtin.append_, ht, hu1, List.getElem?_toArray, List.getElem?_cons_zero, List.getElem?_cons_succ, Sem.run_bind, run_underlying_some hu, Result.andThen_ok, run_sizeOf hi, run_underlying_some hd, Sem.run_pure, hmatch]
      simp only [Bool.false_eq_true, if_false, hlen, Result.andThen_ok, hc, if_true, Bool.not_false, hnew w rfl, Sem.run_bind, Sem.run_pure]
  · rw [if_neg hc] at h
    obtain ⟨g1, g2⟩ := h
    obtain ⟨old, g3, g4⟩ := rdCells_inv (P := P) g2
    have hb1 : ¬ (Builtin.nextslicecap (l + m) c * i.bytes > 2 ^ 48) := by rw [← bytesOf_of_info hi]; omega
    have hzc : Builtin.zeroCells zs.toArray = fun n => (zerosL zs n).toArray := by
      funext n
      by_cases hz0 : zs = []
      · subst hz0
        unfold Builtin.zeroCells zerosL
        simp
      · exact zeroCells_eq hz0 n
    -- the new capacity: whatever the tape says
    obtain ⟨c', w1, hch, hle, hmx, hos, hheap⟩ : ∃ c' w1, (choose (.appendCap (l + m) c e)).run P w = .ok c' w1 ∧ l + m ≤ c' ∧ c' ≤ 9223372036854775807 ∧ SameOs w w1 ∧ w1.heap = w.heap := by
      have hcap : l + m < 2 ^ 63 := by
        have : l + m ≤ Builtin.nextslicecap (l + m) c := by
          unfold Builtin.nextslicecap
          split
          · omega
          · split
            · omega
            · have key : ∀ (r x : Nat), x ≤ Builtin.growBy (l + m) r x := by
                intro r
                induction r with
                | zero => intro x; exact Nat.le_refl _
                | succ r ih => intro x; unfold Builtin.growBy; split
                               · exact Nat.le_refl _
                               · have := ih (x + (x + 768) / 4); omega
              unfold Builtin.growBy
              split
              · omega
              · unfold Builtin.growBy
                split
                · omega
                · unfold Builtin.growBy
                  split
                  · omega
                  · unfold Builtin.growBy
                    split
                    · omega
                    · unfold Builtin.growBy; omega
        have h1 : Builtin.nextslicecap (l + m) c ≤ Builtin.nextslicecap (l + m) c * i.bytes := Nat.le_mul_of_pos_right _ (by omega)
        have h2 : Builtin.nextslicecap (l + m) c * i.bytes ≤ 2 ^ 48 := by omega
        have h3 : (2 : Nat) ^ 48 < 2 ^ 63 := by decide
        omega
      refine ⟨(Question.appendCap (l + m) c e).cut (w.tape w.drawn (.appendCap (l + m) c e)), { w with drawn := w.drawn + 1 }, by rw [run_choose]; exact if_neg Bool.false_ne_true, ?_, ?_, ⟨rfl, rfl, rfl, .refl _⟩, rfl⟩
      · show l + m ≤ l + m + _; omega
      · show l + m + w.tape w.drawn _ % (2 ^ 63 - (l + m)) ≤ _
        have := Nat.mod_lt (w.tape w.drawn (.appendCap (l + m) c e)) (show 0 < 2 ^ 63 - (l + m) by omega)
        omega
    have hold : (Builtin.firstCells (P.cellsOf e) l (.slice o l c)).run P w1 = .ok old.toArray w1 := by
      cases o with
      | none =>
        have e1 : (Result.ok #[] w : Result (Array Value)) = .ok old.toArray w := g3
        have : old.toArray = #[] := by injection e1 with e1; exact e1.symm
        rw [this]; rfl
      | some a =>
        have e2 : (loadCells a (l * P.cellsOf e)).run P w = .ok old.toArray w := g3
        have gg := g2
        unfold rdCells at gg
        obtain ⟨cs, q1, q2, _⟩ := gg
        have q3 := run_loadCells (P := P) (w := w) q1 q2
        have q4 := run_loadCells (P := P) (w := w1) q1 (by intro j v hj; rw [cell_heap, hheap]; exact q2 j v hj)
        rw [q3] at e2
        have : cs.toArray = old.toArray := by injection e2
        show (loadCells a (l * P.cellsOf e)).run P w1 = _
        rw [q4, this]
    refine ⟨.slice (some ⟨w1.heap.size, 0, none⟩) (l + m) c', { w1 with heap := w1.heap.push (.cells (old ++ new ++ zerosL zs (c' - (l + m))).toArray e) }, ?_, hos.trans (.heap _ _ (.push _ _)), ?_⟩
    rotate_left
    · have := g4 c' hle hmx
      rw [← hheap] at this
      exact this
    · simp only [Builtin.append_, ht, hu1, List.getElem?_toArray, List.getElem?_cons_zero, List.getElem?_cons_succ, Sem.run_bind, run_underlying_some hu, Result.andThen_ok, run_sizeOf hi, run_underlying_some hd, Sem.run_pure, hmatch]
      simp only [Bool.false_eq_true, if_false, hlen, Result.andThen_ok, hc, if_true, Bool.not_false, Sem.run_bind, run_typeInfo hi, Sem.run_pure, hb, or_self, and_false, hb1, hch, run_askRoom, hold, hnew w1 hheap, run_zeroValue hi hv, hvz, hzc, run_newRow]
      simp

theorem appz_run {t u : TypeId} {argTypes : Array TypeId} {ty e : TypeId} {zs : List Value} {o : Option Addr} {l c : Nat} {n : Int} {kx ku : IntKind} {K : Value → Heap → Prop}
    (ht : argTypes[0]? = some t) (hu1 : argTypes[1]? = some u) (hd : P.underlying u = some (.int ku)) (hn0 : 0 ≤ n) (hn1 : n * P.bytesOf e ≤ 281474976710656)
    (hu : P.underlying t = some (.slice e)) (hz : zeroL P e = some zs) (h0 : P.bytesOf e ≠ 0) (hl : zs.length = P.cellsOf e)
    (h : app zs e (P.cellsOf e) (P.bytesOf e) o l c (zerosL zs n.toNat) n.toNat w.heap fun o'' c' h' => K (.slice o'' (l + n.toNat) c') h') :
    Gives P (Builtin.append_ argTypes ty #[.slice o l c, .int kx n]) w K := by
  obtain ⟨i, v, hi, hv, hzs⟩ := zeroL_info hz
  have hvz : v.cells = zs.toArray := by rw [← hzs]
  have hb : i.bytes ≠ 0 := by rw [← bytesOf_of_info hi]; exact h0
  obtain ⟨m, hm⟩ : ∃ m, m = n.toNat := ⟨_, rfl⟩
  obtain ⟨new, hnw⟩ : ∃ new, new = zerosL zs n.toNat := ⟨_, rfl⟩
  rw [← hnw, ← hm] at h
  have hbz : (n : Int) * i.bytes ≤ 281474976710656 := by rw [← bytesOf_of_info hi]; exact hn1
  have hnb : n ≤ 281474976710656 := by
    have : n * 1 ≤ n * i.bytes := Int.mul_le_mul_of_nonneg_left (by omega) hn0
    omega
  have hwn : IntKind.i64.wrap n = n := by simp [IntKind.wrap, IntKind.bits, IntKind.signed]; omega
  have hmatch : (match (TypeDesc.int ku) with | .int _ => true | _ => false) = true := rfl
  have hneg : ¬ (n < 0) := by omega
  have hbig : ¬ (n * (i.bytes : Int) > 2 ^ 48) := by omega
  have hzc : Builtin.zeroCells zs.toArray = fun n => (zerosL zs n).toArray := by
    funext n
    by_cases hz0 : zs = []
    · subst hz0
      unfold Builtin.zeroCells zerosL
      simp
    · exact zeroCells_eq hz0 n
  have hnew : ∀ w' : World, ((if m * P.cellsOf e = 0 then pure #[] else do pure (Builtin.zeroCells (← zeroValue e).cells m)) : Sem (Array Value)).run P w' = .ok new.toArray w' := by
    intro w'
    by_cases h0 : m * P.cellsOf e = 0
    · rw [if_pos h0]
      have : new = [] := by
        rw [hnw, ← hm]
        apply List.length_eq_zero_iff.1
        rcases Nat.mul_eq_zero.1 h0 with h0 | h0
        · rw [h0]; unfold zerosL; split <;> simp
        · have : zs = [] := List.length_eq_zero_iff.1 (hl.trans h0)
          subst this
          unfold zerosL; simp
      rw [this]; rfl
    · rw [if_neg h0]
      simp only [Sem.run_bind, run_zeroValue hi hv, Result.andThen_ok, Sem.run_pure, hvz, hzc, hnw, hm]
  unfold app at h
  by_cases hc : l + m ≤ c
  · rw [if_pos hc] at h
    cases o with
    | some a =>
      obtain ⟨w', h1, h2, h3⟩ := stRow_run (P := P) h
      refine ⟨_, w', ?_, h2, h3⟩
      simp only [Builtin.append_, ht, hu1, List.getElem?_toArray, List.getElem?_cons_zero, List.getElem?_cons_succ, Sem.run_bind, run_underlying_some hu, Result.andThen_ok, run_sizeOf hi, run_underlying_some hd, Sem.run_pure, hmatch]
      simp only [if_true, asInt, asIntOf, hwn, hneg, hbig, if_false, Sem.run_bind, Sem.run_pure, Result.andThen_ok, run_typeInfo hi, ← hm, hc, Bool.not_true, Bool.false_eq_true, hnew w, h1]
    | none =>
      refine ⟨_, w, ?_, .refl w, h⟩
      simp only [Builtin.append_, ht, hu1, List.getElem?_toArray, List.getElem?_cons_zero, List.getElem?_cons_succ, Sem.run_bind, run_underlying_some hu, Result.andThen_ok, run_sizeOf hi, run_underlying_some hd, Sem.run_pure, hmatch]
      simp only [if_true, asInt, asIntOf, hwn, hneg, hbig, if_false, Sem.run_bind, Sem.run_pure, Result.andThen_ok, run_typeInfo hi, ← hm, hc, Bool.not_true, Bool.false_eq_true, hnew w]
  · rw [if_neg hc] at h
    obtain ⟨g1, g2⟩ := h
    obtain ⟨old, g3, g4⟩ := rdCells_inv (P := P) g2
    have hb1 : ¬ (Builtin.nextslicecap (l + m) c * i.bytes > 2 ^ 48) := by rw [← bytesOf_of_info hi]; omega
    -- the new capacity: whatever the tape says
    obtain ⟨c', w1, hch, hle, hmx, hos, hheap⟩ : ∃ c' w1, (choose (.appendCap (l + m) c e)).run P w = .ok c' w1 ∧ l + m ≤ c' ∧ c' ≤ 9223372036854775807 ∧ SameOs w w1 ∧ w1.heap = w.heap := by
      have hcap : l + m < 2 ^ 63 := by
        have : l + m ≤ Builtin.nextslicecap (l + m) c := by
          unfold Builtin.nextslicecap
          split
          · omega
          · split
            · omega
            · have key : ∀ (r x : Nat), x ≤ Builtin.growBy (l + m) r x := by
                intro r
                induction r with
                | zero => intro x; exact Nat.le_refl _
                | succ r ih => intro x; unfold Builtin.growBy; split
                               · exact Nat.le_refl _
                               · have := ih (x + (x + 768) / 4); omega
              unfold Builtin.growBy
              split
              · omega
              · unfold Builtin.growBy
                split
                · omega
                · unfold Builtin.growBy
                  split
                  · omega
                  · unfold Builtin.growBy
                    split
                    · omega
                    · unfold Builtin.growBy; omega
        have h1 : Builtin.nextslicecap (l + m) c ≤ Builtin.nextslicecap (l + m) c * i.bytes := Nat.le_mul_of_pos_right _ (by omega)
        have h2 : Builtin.nextslicecap (l + m) c * i.bytes ≤ 2 ^ 48 := by omega
        have h3 : (2 : Nat) ^ 48 < 2 ^ 63 := by decide
        omega
      refine ⟨(Question.appendCap (l + m) c e).cut (w.tape w.drawn (.appendCap (l + m) c e)), { w with drawn := w.drawn + 1 }, by rw [run_choose]; exact if_neg Bool.false_ne_true, ?_, ?_, ⟨rfl, rfl, rfl, .refl _⟩, rfl⟩
      · show l + m ≤ l + m + _; omega
      · show l + m + w.tape w.drawn _ % (2 ^ 63 - (l + m)) ≤ _
        have := Nat.mod_lt (w.tape w.drawn (.appendCap (l + m) c e)) (show 0 < 2 ^ 63 - (l + m) by omega)
        omega
    have hold : (Builtin.firstCells (P.cellsOf e) l (.slice o l c)).run P w1 = .ok old.toArray w1 := by
      cases o with
      | none =>
        have e1 : (Result.ok #[] w : Result (Array Value)) = .ok old.toArray w := g3
        have : old.toArray = #[] := by injection e1 with e1; exact e1.symm
        rw [this]; rfl
      | some a =>
        have e2 : (loadCells a (l * P.cellsOf e)).run P w = .ok old.toArray w := g3
        have gg := g2
        unfold rdCells at gg
        obtain ⟨cs, q1, q2, _⟩ := gg
        have q3 := run_loadCells (P := P) (w := w) q1 q2
        have q4 := run_loadCells (P := P) (w := w1) q1 (by intro j v hj; rw [cell_heap, hheap]; exact q2 j v hj)
        rw [q3] at e2
        have : cs.toArray = old.toArray := by injection e2
        show (loadCells a (l * P.cellsOf e)).run P w1 = _
        rw [q4, this]
    refine ⟨.slice (some ⟨w1.heap.size, 0, none⟩) (l + m) c', { w1 with heap := w1.heap.push (.cells (old ++ new ++ zerosL zs (c' - (l + m))).toArray e) }, ?_, hos.trans (.heap _ _ (.push _ _)), ?_⟩
    rotate_left
    · have := g4 c' hle hmx
      rw [← hheap] at this
      exact this
    · have hcap : ¬ (((l + m : Nat) : Int) > IntKind.i64.max) := by
        show ¬ (((l + m : Nat) : Int) > 9223372036854775807)
        omega
      simp only [Builtin.append_, ht, hu1, List.getElem?_toArray, List.getElem?_cons_zero, List.getElem?_cons_succ, Sem.run_bind, run_underlying_some hu, Result.andThen_ok, run_sizeOf hi, run_underlying_some hd, Sem.run_pure, hmatch]
      simp only [if_true, asInt, asIntOf, hwn, hneg, hbig, if_false, Sem.run_bind, Sem.run_pure, Result.andThen_ok, run_typeInfo hi, ← hm, hc, hcap, false_and, hb1, hch, run_askRoom, hold, Bool.not_true, Bool.false_eq_true, hnew w1, run_zeroValue hi hv, hvz, hzc, run_newRow]
      simp

end
end Go.Proofs.Ytkgocfaajfaidaa.D
