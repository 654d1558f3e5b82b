/- Soundness of the operations that write, make memory or call, all at once ('lx_sound'). -/
import Derived.Test.YtkgocfaajfaidaaXSnd5
import Derived.OrdersIn
import Derived.Lib.Overlaps
import Derived.Lib.UnsafeStr
import Derived.Room.MakeNoZero
import Derived.Laws.Externs
import Derived.Lib.IndexEntry
import Derived.Laws.RangeString
namespace Go.Proofs.Ytkgocfaajfaidaa.D
open Go
set_option linter.unusedVariables false
set_option linter.unusedSimpArgs false

/-- the functions on the list have bodies of Go -/
def FnsOk (P : Program) (F : List Nat) : Prop := ∀ f, memN f F = true → ∃ fn, P.funcs[f]? = some fn ∧ fn.body.isSome = true ∧ (fn.name == "runtime.NumGoroutine") = false

section
variable {P : Program} {w : World}

theorem rowOf_copy {size n : Nat} {o : Option Addr} {l c : Nat} : Builtin.firstCells size n (.slice o l c) = rdS o (n * size) := by
  cases o <;> rfl

theorem bytesV_take (b : ByteArray) (n : Nat) : (b.extract 0 n).data.map (fun x => Value.int .u8 (x.toNat : Int)) = ((bytesV b).take n).toArray := by
  apply Array.toList_inj.1
  simp [bytesV]

theorem copyD_run {argTypes : Array TypeId} {t ty : TypeId} {s x : Value} {K : Value → Heap → Prop} {vs : Array Value} (ht : argTypes[0]? = some t) (h0 : vs[0]? = some s) (h1 : vs[1]? = some x)
    (h : copyD P t s x w.heap K) : Gives P (Builtin.copy_ argTypes ty vs) w K := by
  unfold copyD at h
  split at h
  · rename_i e o l _ hu
    split at h
    · rename_i o' m _ hz
      obtain ⟨j, hj⟩ := beq_zero_info hz
      obtain ⟨new, g1, g2⟩ := rdCells_inv (P := P) h
      obtain ⟨w', g3, g4, g5⟩ := wrRow_run (P := P) g2
      refine ⟨_, w', ?_, g4, g5⟩
      simp only [Builtin.copy_, ht, h0, h1, Sem.run_bind, run_underlying_some hu, Result.andThen_ok, Builtin.lenOf, Sem.run_pure, run_sizeOf hj, rowOf_copy, g1]
      cases o with
      | none => simp only [Sem.run_pure] at g3 ⊢; injection g3 with _ e; rw [e]; rfl
      | some a => simp only at g3 ⊢; simp only [Sem.run_bind, g3, Result.andThen_ok, Sem.run_pure]; rfl
    · rename_i b hz
      obtain ⟨j, hj⟩ := beq_zero_info hz
      obtain ⟨w', g3, g4, g5⟩ := wrRow_run (P := P) h
      refine ⟨_, w', ?_, g4, g5⟩
      simp only [Builtin.copy_, ht, h0, h1, Sem.run_bind, run_underlying_some hu, Result.andThen_ok, Builtin.lenOf, Sem.run_pure, run_sizeOf hj, Builtin.firstCells, bytesV_take]
      cases o with
      | none => simp only [Sem.run_pure] at g3 ⊢; injection g3 with _ e; rw [e]; rfl
      | some a => simp only at g3 ⊢; simp only [Sem.run_bind, g3, Result.andThen_ok, Sem.run_pure]; rfl
    · exact h.elim
  · exact h.elim

theorem modify_push (h : Heap) (o : Obj) (f : Obj → Obj) : (h.push o).modify h.size f = h.push (f o) := by
  apply Array.ext_getElem?
  intro i
  rw [Array.getElem?_modify, Array.getElem?_push, Array.getElem?_push]
  by_cases hi : i = h.size
  · subst hi; simp
  · simp [hi]; intro h1; exact absurd h1.symm hi

theorem s2b_run {e : TypeId} {s : ByteArray} {K : Value → Heap → Prop} (h : s2b s e w.heap fun a c h' => K (.slice (some a) s.size c) h') : Gives P (Conv.stringToBytes e s) w K := by
  obtain ⟨hsz, h⟩ := h
  have hch : (choose (.appendCap s.size 0 e)).run P w = .ok ((Question.appendCap s.size 0 e).cut (w.tape w.drawn (.appendCap s.size 0 e))) { w with drawn := w.drawn + 1 } := by
    rw [run_choose]; exact if_neg Bool.false_ne_true
  generalize hc : (Question.appendCap s.size 0 e).cut (w.tape w.drawn (.appendCap s.size 0 e)) = c at hch
  have hcut : (Question.appendCap s.size 0 e).cut (w.tape w.drawn (.appendCap s.size 0 e)) = s.size + w.tape w.drawn (.appendCap s.size 0 e) % (2 ^ 63 - s.size) := rfl
  have hle : s.size ≤ c := by rw [← hc, hcut]; omega
  have hmx : c ≤ 9223372036854775807 := by
    rw [← hc, hcut]
    have := Nat.mod_lt (w.tape w.drawn (.appendCap s.size 0 e)) (show 0 < 2 ^ 63 - s.size by omega)
    omega
  have hk := h c hle hmx
  have hcells : (s.data.map (fun b => Value.int .u8 (b.toNat : Int)) ++ Array.replicate (c - s.size) (Value.int .u8 0)) = (bytesV s ++ List.replicate (c - s.size) (Value.int .u8 0)).toArray := by
    apply Array.toList_inj.1
    simp [bytesV]
  have hlen : (bytesV s ++ List.replicate (c - s.size) (Value.int .u8 0)).length = c := by
    simp [bytesV]; omega
  refine ⟨_, { w with drawn := w.drawn + 1, heap := w.heap.push (.cells (bytesV s ++ List.replicate (c - s.size) (Value.int .u8 0)).toArray e (c, c + 1)) }, ?_, ⟨rfl, rfl, rfl, .push _ _⟩, hk⟩
  simp only [Conv.stringToBytes, Sem.run_bind, hch, Result.andThen_ok, hcells, run_newRow, markStringish, run_shape]
  have hsh : World.shape? { w with drawn := w.drawn + 1, heap := w.heap.push (.cells (bytesV s ++ List.replicate (c - s.size) (Value.int .u8 0)).toArray e) } w.heap.size = some (e, c) := by
    simp only [World.shape?, Array.getElem?_push_size, List.size_toArray, hlen]
  simp only [hsh, run_freeze, Sem.run_bind, Result.andThen_ok, Sem.run_pure]
  congr 1
  simp only [World.freeze, Nat.one_ne_zero, if_false]
  congr 1
  exact modify_push _ _ _

theorem buildSlD_run {t : TypeId} {n : Nat} {ps : List (Nat × Value)} {K : Value → Heap → Prop} (h : buildSlD P t n ps w.heap K) : Gives P (Instr.buildSlice t n ps.toArray) w K := by
  unfold buildSlD at h
  split at h
  · rename_i e hu
    split at h
    · rename_i zs hz hle hne
      split at h
      · rename_i hlen
        obtain ⟨i, v, hi, hv, hzs⟩ := zeroL_info hz
        have hvz : v.cells = zs.toArray := by rw [← hzs]
        have h0 : P.cellsOf e ≠ 0 := fun e => by rw [e] at hne; simp at hne
        have hl : zs.length = P.cellsOf e := Nat.eq_of_beq_eq_true hlen
        have hle' : n * P.cellsOf e ≤ 16777216 := Nat.le_of_ble_eq_true hle
        obtain ⟨cs, g1, g2⟩ := fillD_run h
        have hmap : ((Array.range (n * P.cellsOf e)).map fun i => zs.toArray[i % zs.toArray.size]!) = (zerosL zs n).toArray := by
          rw [← hl]; exact zerosL_get (zs_ne h0 hl) _
        refine ⟨.slice (some ⟨w.heap.size, 0, none⟩) n n, { w with heap := w.heap.push (.cells cs.toArray e) }, ?_, .heap _ _ (.push _ _), g2⟩
        have hgt : ¬ (n * P.cellsOf e > 2 ^ 24) := by omega
        by_cases hn : n * P.cellsOf e = 0
        · have hn0 : n = 0 := by cases Nat.mul_eq_zero.1 hn with | inl h => exact h | inr h => exact absurd h h0
          subst hn0
          have e0 : zerosL zs 0 = [] := by unfold zerosL; split <;> simp
          rw [e0] at g1
          have er : Array.range 0 = #[] := Array.eq_empty_of_size_eq_zero (by simp)
          simp only [Instr.buildSlice, Sem.run_bind, run_underlying_some hu, Result.andThen_ok, run_sizeOf hi, Nat.zero_mul, if_true, Sem.run_pure, er, Array.map_empty, g1, run_newRow]
          simp [g1, run_newRow]
        · simp only [Instr.buildSlice, Sem.run_bind, run_underlying_some hu, Result.andThen_ok, run_sizeOf hi, if_neg hgt, if_neg hn, Sem.run_pure, run_zeroValue hi hv, hvz, hmap, g1, run_newRow]
      · exact h.elim
    · exact h.elim
  · exact h.elim

theorem toUnsafe_run {src dst t : TypeId} {b : Addr} {cs : Array Value} {e : TypeId} {f : Nat × Nat} (hs : P.underlying src = some (.pointer t)) (hd : P.underlying dst = some .unsafePointer) (hz : Nat.beq (P.cellsOf t) 0 = false) (hc : w.heap[b.block]? = some (.cells cs e f)) (ho : b.off < cs.size) :
    (convert src dst (.pointer (some b))).run P w = .ok (.pointer (some b)) w := by
  obtain ⟨j, hj⟩ := beq_zero_info hz
  have hsh : w.shape? b.block = some (e, cs.size) := by simp only [World.shape?, hc]
  have hn : ¬ P.cellsOf t = 0 := fun e => by rw [e] at hz; simp at hz
  have hlt : ¬ b.off ≥ cs.size := by omega
  simp only [convert, Sem.run_bind, run_underlying_some hs, run_underlying_some hd, Result.andThen_ok, Conv.unsafePointer, Conv.seenAt, viewAt, cellsIn, run_shape, hsh, Option.isSome_some, if_true, Sem.run_pure, run_sizeOf hj]
  simp [hn, hlt]
theorem ofUnsafe_run {src dst t : TypeId} {b : Addr} {cs : Array Value} {e : TypeId} {f : Nat × Nat} (hs : P.underlying src = some .unsafePointer) (hd : P.underlying dst = some (.pointer t)) (hz : Nat.beq (P.cellsOf t) 0 = false) (hc : w.heap[b.block]? = some (.cells cs e f)) (hl : liesAt P P.depth e (cs.size / P.cellsOf e) b.off t 1 = true) :
    (convert src dst (.pointer (some b))).run P w = .ok (.pointer (some b)) w := by
  obtain ⟨j, hj⟩ := beq_zero_info hz
  have hsh : w.shape? b.block = some (e, cs.size) := by simp only [World.shape?, hc]
  simp only [convert, Sem.run_bind, run_underlying_some hs, run_underlying_some hd, Result.andThen_ok, Conv.unsafePointer, Conv.seenAt, viewAt, run_shape, hsh, Option.isSome_some, if_true, Sem.run_pure, run_sizeOf hj, variablesAt, run_program, hl]
  simp
theorem sdata_run {ats : Array TypeId} {ty : TypeId} {q : Option Addr} {l k : Nat} {K : Value → Heap → Prop} (h : sdata q k fun o => K (.pointer o) w.heap) : Gives P (Builtin.unsafeSliceData_ ats ty #[.slice q l k]) w K := by
  unfold sdata at h
  cases q with
  | none => exact ⟨_, w, rfl, ⟨rfl, rfl, rfl, .refl _⟩, h⟩
  | some a =>
    obtain ⟨h1, h2⟩ := h
    refine ⟨_, w, ?_, ⟨rfl, rfl, rfl, .refl _⟩, h2⟩
    show (if k ≠ 0 then (pure (Value.pointer (some a)) : Sem Value) else _).run P w = _
    rw [if_pos h1]
    rfl
theorem ustr_run {ty pt it u : TypeId} {q : Option Addr} {n : Int} {K : Value → Heap → Prop} (hu : P.underlying pt = some (.pointer u)) (hc : P.cellsOf u = 1) (h : ustr u q n w.heap fun s h' => K (.string s) h') : Gives P (Builtin.unsafeString_ #[pt, it] ty #[.pointer q, .int .i64 n]) w K := by
  rcases h with ⟨rfl, hk⟩ | ⟨g, bs, rfl, h0, rfl, h1, ⟨cs, f, hg, hle⟩, hb, hk⟩
  · exact ⟨_, w, Lib.run_unsafeString_none w pt it ty q, ⟨rfl, rfl, rfl, .refl _⟩, hk⟩
  · have hsh : w.shape? g = some (u, cs.size) := by simp only [World.shape?, hg]
    refine ⟨_, { w with heap := frzR w.heap ⟨g, 0, none⟩ bs.length }, ?_, .heap w _ (.modify _ _ _ rfl), hk⟩
    rw [Lib.run_unsafeString_row w pt it ty u hu hc g cs.size hsh bs h0 hle h1 hb]
    congr 1
    have hz : bs.length ≠ 0 := by simpa using h0
    simp only [World.freeze, if_neg hz]
    rfl
theorem ext1 {fn : Func} (hn : fn.name = "internal/abi.NoEscape") (ho : fn.origin = "") : Extern.findNext fn = none ∧ Extern.find fn = some Extern.AbiNoEscape.same := by
  have h1 : Extern.allNextRows.lookup "internal/abi.NoEscape" = none := by kernel_rfl
  have h2 : Extern.allNextRows.lookup "" = none := by kernel_rfl
  have h3 : Extern.allGenericRows.lookup "internal/abi.NoEscape" = none := by kernel_rfl
  have h4 : Extern.allTypedRows.lookup "internal/abi.NoEscape" = none := by kernel_rfl
  have h5 : Extern.allRows.lookup "internal/abi.NoEscape" = some Extern.AbiNoEscape.same := by kernel_rfl
  constructor
  · simp only [Extern.findNext, hn, ho, h1, h2]; rfl
  · simp only [Extern.find, hn, h3, h4, h5]; rfl
theorem ext2 {fn : Func} (hn : fn.name = "internal/bytealg.IndexByteString") (ho : fn.origin = "") : Extern.findNext fn = none ∧ Extern.find fn = some Extern.BytealgIndexByte.indexByte := by
  have h1 : Extern.allNextRows.lookup "internal/bytealg.IndexByteString" = none := by kernel_rfl
  have h2 : Extern.allNextRows.lookup "" = none := by kernel_rfl
  have h3 : Extern.allGenericRows.lookup "internal/bytealg.IndexByteString" = none := by kernel_rfl
  have h4 : Extern.allTypedRows.lookup "internal/bytealg.IndexByteString" = none := by kernel_rfl
  have h5 : Extern.allRows.lookup "internal/bytealg.IndexByteString" = some Extern.BytealgIndexByte.indexByte := by kernel_rfl
  constructor
  · simp only [Extern.findNext, hn, ho, h1, h2]; rfl
  · simp only [Extern.find, hn, h3, h4, h5]; rfl
theorem ext3 {fn : Func} (hn : fn.name = "internal/bytealg.MakeNoZero") (ho : fn.origin = "") : Extern.findNext fn = none ∧ Extern.find fn = some (Extern.BytealgMakeNoZero.makeNoZero fn.params fn.resultTypes) := by
  have h1 : Extern.allNextRows.lookup "internal/bytealg.MakeNoZero" = none := by kernel_rfl
  have h2 : Extern.allNextRows.lookup "" = none := by kernel_rfl
  have h3 : Extern.allGenericRows.lookup "internal/bytealg.MakeNoZero" = none := by kernel_rfl
  have h4 : Extern.allTypedRows.lookup "internal/bytealg.MakeNoZero" = some Extern.BytealgMakeNoZero.makeNoZero := by kernel_rfl
  constructor
  · simp only [Extern.findNext, hn, ho, h1, h2]; rfl
  · simp only [Extern.find, hn, h3, h4]; rfl
theorem ext4 {fn : Func} (hn : fn.name = "internal/bytealg.IndexString") (ho : fn.origin = "") : Extern.findNext fn = none ∧ Extern.find fn = some Extern.BytealgIndex.index := by
  have h1 : Extern.allNextRows.lookup "internal/bytealg.IndexString" = none := by kernel_rfl
  have h2 : Extern.allNextRows.lookup "" = none := by kernel_rfl
  have h3 : Extern.allGenericRows.lookup "internal/bytealg.IndexString" = none := by kernel_rfl
  have h4 : Extern.allTypedRows.lookup "internal/bytealg.IndexString" = none := by kernel_rfl
  have h5 : Extern.allRows.lookup "internal/bytealg.IndexString" = some Extern.BytealgIndex.index := by kernel_rfl
  constructor
  · simp only [Extern.findNext, hn, ho, h1, h2]; rfl
  · simp only [Extern.find, hn, h3, h4, h5]; rfl
theorem ext5 {fn : Func} (hn : fn.name = "slices.overlaps[string]" ∨ fn.name = "slices.overlaps[stowage/btree.node]") (ho : fn.origin = "slices.overlaps") : Extern.findNext fn = none ∧ Extern.find fn = some (Extern.SlicesOverlaps.overlaps fn.params fn.resultTypes) := by
  have g1 : Extern.allNextRows.lookup "slices.overlaps" = none := by kernel_rfl
  have g2 : Extern.allGenericRows.lookup "slices.overlaps" = none := by kernel_rfl
  have g3 : Extern.allTypedRows.lookup "slices.overlaps" = some Extern.SlicesOverlaps.overlaps := by kernel_rfl
  rcases hn with hn | hn
  · have h1 : Extern.allNextRows.lookup "slices.overlaps[string]" = none := by kernel_rfl
    have h3 : Extern.allGenericRows.lookup "slices.overlaps[string]" = none := by kernel_rfl
    have h4 : Extern.allTypedRows.lookup "slices.overlaps[string]" = none := by kernel_rfl
    have h5 : Extern.allRows.lookup "slices.overlaps[string]" = none := by kernel_rfl
    constructor
    · simp only [Extern.findNext, hn, ho, h1, g1]; rfl
    · simp only [Extern.find, hn, ho, h3, h4, h5, g2, g3]; rfl
  · have h1 : Extern.allNextRows.lookup "slices.overlaps[stowage/btree.node]" = none := by kernel_rfl
    have h3 : Extern.allGenericRows.lookup "slices.overlaps[stowage/btree.node]" = none := by kernel_rfl
    have h4 : Extern.allTypedRows.lookup "slices.overlaps[stowage/btree.node]" = none := by kernel_rfl
    have h5 : Extern.allRows.lookup "slices.overlaps[stowage/btree.node]" = none := by kernel_rfl
    constructor
    · simp only [Extern.findNext, hn, ho, h1, g1]; rfl
    · simp only [Extern.find, hn, ho, h3, h4, h5, g2, g3]; rfl
theorem ovlD_run {f : FuncId} {args : List Value} {K : Value → Heap → Prop} (hk : ovlK P f = true) (h : ovlD P f args w.heap K) : ∃ v w', (callFunc f args.toArray).run P w = .ok (.value v) w' ∧ SameOs w w' ∧ K v w'.heap := by
  unfold ovlK at hk
  unfold ovlD at h
  split at h
  · rename_i o l c o' l' c' fn hfn
    rw [hfn] at hk
    simp only at hk
    split at hk
    · rename_i hb
      split at h
      · rename_i t t2 hp
        split at h
        · rename_i e hu
          split at h
          · rename_i hz
            obtain ⟨j, hj⟩ := beq_zero_info hz
            have hn0 : P.cellsOf e ≠ 0 := fun e => by rw [e] at hz; simp at hz
            simp only [Bool.and_eq_true, Bool.or_eq_true, beq_iff_eq] at hk
            obtain ⟨ho, hn⟩ := hk
            obtain ⟨e1, e2⟩ := ext5 hn ho
            have hng : (fn.name == "runtime.NumGoroutine") = false := by rcases hn with hn | hn <;> rw [hn] <;> rfl
            have hp0 : fn.params[0]? = some t := by rw [← Array.getElem?_toList, hp]; rfl
            obtain ⟨hor, hK⟩ := h
            refine ⟨.bool false, w, ?_, .refl w, hK⟩
            rw [run_callFunc_extern hfn hng (by rw [hb]; rfl) e1 e2]
            have key : (Extern.SlicesOverlaps.overlaps fn.params fn.resultTypes #[.slice o l c, .slice o' l' c']).run P w = .ok (.bool false) w := by
              change Sem.run P (α := Value) (do
                let some t := fn.params[0]? | stuck "slices.overlaps: no parameter types"
                let .slice elem ← underlying t | stuck "slices.overlaps: slice type expected"
                let size ← sizeOf elem
                match o, o' with
                | some a, some b =>
                  if l = 0 ∨ l' = 0 ∨ size = 0 then pure (Value.bool false)
                  else if a.block != b.block && (← frozen a) && (← frozen b) then unsupported .addressObserved
                  else do
                    if a.block != b.block then do
                      noView a; noView b
                      if ← mayBeOne a b then return Value.bool ((← choose (.extern "sameAddr.stringBytes" 2)) == 1)
                    pure (Value.bool (a.block == b.block && a.off < b.off + l' * size && b.off < a.off + l * size))
                | _, _ => pure (Value.bool false)) w = _
              rcases hor with hor | ⟨a, b, cs, ta, fa, cs', tb, fb, rfl, rfl, hne, ha, hf1, hf2, hb2, hnz⟩
              · cases o with
                | none => simp only [hp0, Sem.run_bind, run_underlying_some hu, Result.andThen_ok, run_sizeOf hj, Sem.run_pure]
                | some a =>
                  cases o' with
                  | none => simp only [hp0, Sem.run_bind, run_underlying_some hu, Result.andThen_ok, run_sizeOf hj, Sem.run_pure]
                  | some b =>
                    have h0 : l = 0 ∨ l' = 0 ∨ P.cellsOf e = 0 := by
                      rcases hor with h | h | h | h
                      · cases h
                      · cases h
                      · exact .inl h
                      · exact .inr (.inl h)
                    simp only [hp0, Sem.run_bind, run_underlying_some hu, Result.andThen_ok, run_sizeOf hj, if_pos h0, Sem.run_pure]
              · by_cases h0 : l = 0 ∨ l' = 0 ∨ P.cellsOf e = 0
                · simp only [hp0, Sem.run_bind, run_underlying_some hu, Result.andThen_ok, run_sizeOf hj, if_pos h0, Sem.run_pure]
                · have hnb : (a.block != b.block) = true := by simpa using hne
                  have hnb' : (a.block == b.block) = false := by simpa using hne
                  have hsa : w.shape? a.block = some (ta, cs.size) := by simp only [World.shape?, ha]
                  have hsb : w.shape? b.block = some (tb, cs'.size) := by simp only [World.shape?, hb2]
                  have hfa : w.frozen? a = false := by rw [froz_heap]; exact hf1
                  have hfe : w.frozen? { block := a.block, off := cs.size } = false := by rw [froz_heap]; exact hf2
                  cases hkB : cs'.size with
                  | zero => exact absurd hkB hnz
                  | succ kB =>
                    rw [hkB] at hsb
                    simp [hp0, run_underlying_some hu, run_sizeOf hj, h0, hnb, hnb', frozen, noView, viewAt, mayBeOne, stringish, shape, Sem.run, hsa, hsb, hfa, hfe]
            have e3 : ([Value.slice o l c, Value.slice o' l' c'] : List Value).toArray = #[.slice o l c, .slice o' l' c'] := rfl
            rw [e3, key]
            rfl
          · exact h.elim
        · exact h.elim
      · exact h.elim
    · cases hk
  · exact h.elim

theorem extK_inv {f : FuncId} {k : Nat} (h : extK P f = k) (hk : k ≠ 0) : ∃ fn, P.funcs[f]? = some fn ∧ fn.body.isNone = true ∧ fn.origin = "" ∧ (fn.name == "runtime.NumGoroutine") = false ∧
    ((k = 1 ∧ fn.name = "internal/abi.NoEscape") ∨ (k = 2 ∧ fn.name = "internal/bytealg.IndexByteString") ∨ (k = 3 ∧ fn.name = "internal/bytealg.MakeNoZero") ∨ (k = 4 ∧ fn.name = "internal/bytealg.IndexString")) := by
  unfold extK at h
  split at h
  · rename_i fn hf
    split at h
    · rename_i hb
      split at h
      · rename_i hc
        have hc' : fn.origin = "" ∧ (fn.name == "runtime.NumGoroutine") = false := by simpa using hc
        refine ⟨fn, hf, by rw [hb]; rfl, hc'.1, hc'.2, ?_⟩
        split at h
        · rename_i h1; exact .inl ⟨h.symm, by simpa using h1⟩
        · rename_i h1 _; exact .inr (.inl ⟨h.symm, by simpa using h1⟩)
        · rename_i h1 _ _; exact .inr (.inr (.inl ⟨h.symm, by simpa using h1⟩))
        · rename_i h1 _ _ _; exact .inr (.inr (.inr ⟨h.symm, by simpa using h1⟩))
        · exact absurd h.symm hk
      · exact absurd h.symm hk
    · exact absurd h.symm hk
  · exact absurd h.symm hk
theorem extD_run {f : FuncId} {args : List Value} {K : Value → Heap → Prop} (h : extD P f args w.heap K) : ∃ v w', (callFunc f args.toArray).run P w = .ok (.value v) w' ∧ SameOs w w' ∧ K v w'.heap := by
  unfold extD at h
  split at h
  · rename_i x hk
    obtain ⟨fn, g1, g2, g3, g4, g5⟩ := extK_inv hk (by decide)
    rcases g5 with ⟨_, g5⟩ | ⟨g5, _⟩ | ⟨g5, _⟩ | ⟨g5, _⟩
    · obtain ⟨e1, e2⟩ := ext1 g5 g3
      refine ⟨x, w, ?_, ⟨rfl, rfl, rfl, .refl _⟩, h⟩
      rw [run_callFunc_extern g1 g4 g2 e1 e2]
      rfl
    · cases g5
    · cases g5
    · cases g5
  · rename_i s c hk
    obtain ⟨fn, g1, g2, g3, g4, g5⟩ := extK_inv hk (by decide)
    rcases g5 with ⟨g5, _⟩ | ⟨_, g5⟩ | ⟨g5, _⟩ | ⟨g5, _⟩
    · cases g5
    · obtain ⟨e1, e2⟩ := ext2 g5 g3
      refine ⟨_, w, ?_, ⟨rfl, rfl, rfl, .refl _⟩, h⟩
      rw [run_callFunc_extern g1 g4 g2 e1 e2]
      have := run_indexByte_string (P := P) s c w
      rw [show ([Value.string s, Value.int .u8 c] : List Value).toArray = #[.string s, .int .u8 c] from rfl, this]
      rfl
    · cases g5
    · cases g5
  · rename_i n hk
    obtain ⟨fn, g1, g2, g3, g4, g5⟩ := extK_inv hk (by decide)
    rw [g1] at h
    simp only at h
    rcases g5 with ⟨g5, _⟩ | ⟨g5, _⟩ | ⟨_, g5⟩ | ⟨g5, _⟩
    · cases g5
    · cases g5
    · obtain ⟨e1, e2⟩ := ext3 g5 g3
      split at h
      · rename_i t ht
        split at h
        · rename_i e hu
          obtain ⟨h0, h1, hq⟩ := h
          obtain ⟨m, rfl⟩ := Int.eq_ofNat_of_zero_le h0
          obtain ⟨cs, c1, c2, c3, _⟩ := Lib.run_makeNoZero_cap (P := P) w fn.params t e hu m (by omega)
          have hres : fn.resultTypes = #[t] := by apply Array.toList_inj.1; exact ht
          have hml : (maxLen : Nat) = 9223372036854775807 := rfl
          have hk2 := hq cs.toList (by simp; omega) (by simp; have := c3 (by omega); omega)
          refine ⟨_, w.drew.drew.alloc (.cells cs e), ?_, ⟨rfl, rfl, rfl, .push _ _⟩, hk2⟩
          rw [run_callFunc_extern g1 g4 g2 e1 e2, hres]
          rw [show ([Value.int .i64 (m : Int)] : List Value).toArray = #[.int .i64 (m : Int)] from rfl, c1]
          simp
        · exact h.elim
      · exact h.elim
    · cases g5
  · rename_i s b hk
    obtain ⟨fn, g1, g2, g3, g4, g5⟩ := extK_inv hk (by decide)
    rcases g5 with ⟨g5, _⟩ | ⟨g5, _⟩ | ⟨g5, _⟩ | ⟨_, g5⟩
    · cases g5
    · cases g5
    · cases g5
    · obtain ⟨e1, e2⟩ := ext4 g5 g3
      split at h
      · rename_i g hg
        obtain ⟨⟨m, hm, hle⟩, h2, h3, hk2⟩ := h
        have hm' : w.cell? ⟨g, 0, none⟩ = some (.int .i64 m) := by rw [cell_heap]; exact hm
        have hrun := Lib.run_indexString (P := P) s b w g m hg hm' h2 hle h3
        rw [← Lib.find_index s b (by omega)] at hrun
        refine ⟨_, w, ?_, ⟨rfl, rfl, rfl, .refl _⟩, hk2⟩
        rw [run_callFunc_extern g1 g4 g2 e1 e2]
        rw [show ([Value.string s, Value.string b] : List Value).toArray = #[.string s, .string b] from rfl, hrun]
        rfl
      · exact h.elim
  · exact h.elim

/-- a method of a type, found by its name -/
theorem mrow_run {t : TypeId} {name : String} {f : FuncId} {p : Value} (h : mrow P t name = some f) (n : Nat) : (method (n + 1) t p name).run P w = .ok (f, p) w := by
  unfold mrow at h
  split at h
  · rename_i i d hi hd
    split at h
    · rename_i m hm
      have hm' : i.methods.find? (fun m => m.name == name) = some m := by rw [← Array.find?_toList]; exact hm
      have ht : (typeInfo t).run P w = .ok i w := by
        simp only [typeInfo, Sem.run_bind, run_program, Result.andThen_ok, hi, Sem.run_pure]
      split at h
      · rename_i hp hf
        injection h with h
        subst h
        simp only [method, Sem.run_bind, ht, Result.andThen_ok, hm', hp, follow, Sem.run_pure, hf, receiverAt, run_underlying_some hd, Place.get]
      · cases h
      · cases h
      · rename_i hp hf hn
        injection h with h
        subst h
        simp only [method, Sem.run_bind, ht, Result.andThen_ok, hm', hp, follow, Sem.run_pure, hf, receiverAt, run_underlying_some hd, Place.get]
      · cases h
    · cases h
  · cases h

theorem cands_in {F : List Nat} {name : String} : ∀ (n : Nat) (acc : List (TypeId × FuncId)), (∀ x ∈ acc, mrow P x.1 name = some x.2 ∧ memN x.2 F = true) → ∀ x ∈ cands P F name n acc, mrow P x.1 name = some x.2 ∧ memN x.2 F = true
  | 0, acc, h => h
  | t + 1, acc, h => by
    unfold cands
    split
    · rename_i f hf
      split
      · rename_i hm
        refine cands_in t _ fun x hx => ?_
        rcases List.mem_cons.1 hx with rfl | hx
        · exact ⟨hf, hm⟩
        · exact h x hx
      · exact cands_in t acc h
    · exact cands_in t acc h

theorem invC_inv {F : List Nat} {name : String} {vs : List Value} {v : Value} {h : Heap} {K : Value → Heap → Prop} : ∀ {l : List (TypeId × FuncId)}, (∀ x ∈ l, mrow P x.1 name = some x.2 ∧ memN x.2 F = true) → invC P F vs v h K l →
    ∃ t f p, v = .iface t p ∧ mrow P t name = some f ∧ memN f F = true ∧ CallT P f (p :: vs) h (shsOf P f) fun s h' => K (retOf (mkT (shsOf P f) s)) h'
  | [], _, hi => hi.elim
  | (t, f) :: r, hl, hi => by
    rcases asX_inv hi with ⟨p, e, hk⟩ | ⟨_, hk⟩
    · obtain ⟨h1, h2⟩ := hl (t, f) (by simp)
      refine ⟨t, f, p, e, h1, h2, ?_⟩
      unfold callD at hk
      rw [h2] at hk
      exact hk
    · exact invC_inv (fun x hx => hl x (List.mem_cons_of_mem _ hx)) hk

/-- the wide fence, in a round or outside -/
def Wf (ro : Option Nat) : Fence := { fn := fun _ => True, depth := none, alive := false, round := ro }
theorem wpIn_of {ro : Option Nat} {o : Oper} {a : Act} {w : World} {next : Act → World → Prop} {Q : Exit → Act → World → Prop} (hnd : ∀ c, o.op ≠ .defer c)
    (h : o.uponIn (Wf ro) 0 P a next Q ((execOp a.eval o).run P w)) : o.wpIn (Wf ro) 0 P a w next Q :=
  ⟨fun _ _ => trivial, by rw [show o.semAt (Wf ro).round a.eval = execOp a.eval o from Oper.semAt_eq _ _ _ hnd]; exact h⟩
theorem callsW {ro : Option Nat} {n : Nat} {f : FuncId} {args : Array Value} {w : World} {R : Ending → World → Prop} (h : Calls P f args w R) : CallsIn (Wf ro) n P f args w R := by
  have h2 : CallsIn Fence.wide n P f args w R := callsIn_wide.2 h
  exact h2

theorem clr_run {t ty e : TypeId} {zs : List Value} {o : Option Addr} {l c : Nat} {K : Value → Heap → Prop} (hu : P.underlying t = some (.slice e)) (hz : zeroL P e = some zs) (hcz : Nat.beq (P.cellsOf e) 0 = false) (hln : Nat.beq zs.length (P.cellsOf e) = true)
    (h : clrX zs o l w.heap fun h' => K (.tuple #[]) h') : Gives P (Builtin.clear_ #[t] ty #[.slice o l c]) w K := by
  obtain ⟨i, v, hi, hv, hzs⟩ := zeroL_info hz
  have hvz : v.cells = zs.toArray := by rw [← hzs]
  have h0 : P.cellsOf e ≠ 0 := fun e => by rw [e] at hcz; simp at hcz
  have hne : zs ≠ [] := zs_ne h0 (Nat.eq_of_beq_eq_true hln)
  unfold clrX at h
  cases o with
  | none => exact ⟨_, w, by simp [Builtin.clear_, run_underlying_some hu], .refl w, h⟩
  | some a =>
    cases l with
    | zero => exact ⟨_, w, by simp [Builtin.clear_, run_underlying_some hu], .refl w, h⟩
    | succ l =>
      obtain ⟨w', g1, g2, g3⟩ := stRow_run (P := P) (w := w) h
      refine ⟨_, w', ?_, g2, g3⟩
      have hzc := zeroCells_eq hne (l + 1)
      simp [Builtin.clear_, run_underlying_some hu, Sem.run_bind, run_zeroValue hi hv, hvz, hzc, g1]

theorem roundW {ro : Option Nat} {n l fn : Nat} {tmps : Array Value} {asg body : Code} {w : World} {R : Ending → World → Prop} (h : RoundIn Fence.wide n P l fn tmps asg body w R) : RoundIn (Wf ro) n P l fn tmps asg body w R := h
theorem bodyB_ok {f : FuncId} (h : bodyB P f = true) : ∃ fn, P.funcs[f]? = some fn ∧ fn.body.isSome = true ∧ (fn.name == "runtime.NumGoroutine") = false := by
  unfold bodyB at h
  split at h
  · rename_i fn hfn
    split at h
    · rename_i c hc
      refine ⟨fn, hfn, by rw [hc]; rfl, ?_⟩
      cases hh : (fn.name == "runtime.NumGoroutine") with
      | true => rw [hh] at h; cases h
      | false => rfl
    · cases h
  · cases h

theorem upon_value {ro : Option Nat} {o : Oper} {a : Act} {next : Act → World → Prop} {Q : Exit → Act → World → Prop} {K : Value → Heap → Prop} {s : Sem Value} (hs : Gives P s w K)
    (hn : ∀ v w', SameOs w w' → K v w'.heap → next (a.put o.dst v) w') (he : (execOp a.eval o).run P w = (do pure (Next.value (← s)) : Sem Next).run P w) : o.uponIn (Wf ro) 0 P a next Q ((execOp a.eval o).run P w) := by
  obtain ⟨v, w', h1, h2, h3⟩ := hs
  rw [he, Sem.run_bind, h1]
  exact hn v w' h2 h3

theorem lx_sound {F : List Nat} (hF : FnsOk P F) {n : Nat} {env : Env} {a : Act} (ha : Agrees n env a) {o : Oper} {K : Value → Heap → Prop} (h : lx P F o.type o.op env w.heap K) (ro : Option Nat) (Q : Exit → Act → World → Prop) :
    o.wpIn (Wf ro) 0 P a w (fun a' w' => ∃ v, a' = a.put o.dst v ∧ SameOs w w' ∧ K v w'.heap) Q := by
  refine wpIn_of (fun c e => by rw [e] at h; exact h) ?_
  have hn : ∀ v w', SameOs w w' → K v w'.heap → (fun a' w' => ∃ v, a' = a.put o.dst v ∧ SameOs w w' ∧ K v w'.heap) (a.put o.dst v) w' := fun v w' h1 h2 => ⟨v, rfl, h1, h2⟩
  unfold lx at h
  split at h
  · rename_i t ad x ho
    have h1 := ev1_eval ha (ev1_eval ha h)
    split at h1
    · rename_i q hq
      cases q with
      | none => exact h1.elim
      | some b =>
        obtain ⟨w', h2, h3, h4⟩ := stT_run (P := P) h1
        have he : (execOp a.eval o).run P w = .ok .skip w' := by
          simp only [execOp, ho, Instr.storeAt, hq, Instr.sureAddr, Sem.run_bind, Sem.run_pure, Result.andThen_ok, h2]
        rw [he]
        exact hn undef w' h3 h4
    · exact h1.elim
  · rename_i t ho
    split at h
    · rename_i zs hz
      obtain ⟨i, v, hi, hv, hzs⟩ := zeroL_info hz
      refine upon_value (s := Instr.alloc t true (.tuple #[])) ⟨_, _, ?_, .heap w _ (.push _ _), h⟩ hn (by simp only [execOp, ho])
      have hc : v.cells = zs.toArray := by rw [← hzs]
      simp only [Instr.alloc, Sem.run_bind, run_zeroValue hi hv, Result.andThen_ok, newVar, run_newRow, Sem.run_pure, hc]
    · exact h.elim
  · rename_i t x ho
    have h1 : newB (a.eval x).cells.toList t w.heap fun a h' => K (.pointer (some a)) h' := by
      have h0 := ev1_eval ha h
      unfold boxD at h0
      split at h0
      · obtain ⟨h2, h3⟩ := h0
        rw [h2]; exact h3
      · exact h0
    refine upon_value (s := Instr.box t (a.eval x)) ⟨_, _, ?_, .heap w _ (.push _ _), h1⟩ hn (by simp only [execOp, ho])
    simp only [Instr.box, Sem.run_bind, newVar, run_newRow, Result.andThen_ok, Sem.run_pure]
  · rename_i t k parts ho
    have h1 := buildSlD_run (P := P) (evParts_eval ha h)
    have e : (parts.map fun p => (p.1, a.eval p.2)) = (parts.toList.map fun p => (p.1, a.eval p.2)).toArray := by apply Array.toList_inj.1; simp
    rw [← e] at h1
    exact upon_value h1 hn (by simp only [execOp, ho])
  · rename_i t l c ho
    have h1 := ev1_eval ha (ev1_eval ha h)
    unfold makeSlD at h1
    split at h1
    · rename_i e k l' k' c' hu hl hc
      split at h1
      · rename_i zs hz hne
        split at h1
        · rename_i hlen
          have h0 : P.cellsOf e ≠ 0 := fun e => by rw [e] at hne; simp at hne
          have h2 := mkSl_run (k := k) (k' := k') hu hz h0 (Nat.eq_of_beq_eq_true hlen) h1
          rw [← hl, ← hc] at h2
          exact upon_value h2 hn (by simp only [execOp, ho])
        · exact h1.elim
      · exact h1.elim
    · exact h1.elim
  · rename_i src dst x ho
    have h1 := ev1_eval ha h
    split at h1
    · rename_i d e s hs hd hx
      split at h1
      · rename_i he
        have h2 := s2b_run (P := P) h1
        refine upon_value h2 hn ?_
        simp only [execOp, ho]
        rw [Sem.run_bind, Sem.run_bind]
        congr 1
        cases d <;> simp only [convert, hx, Sem.run_bind, run_underlying_some hs, run_underlying_some hd, run_underlying_some he, Result.andThen_ok]
      · exact h1.elim
    · rename_i sd e q l cp hs hd hx
      split at h1
      · rename_i hbq he
        obtain ⟨cc, ec, fc, hcell, hk⟩ := h1
        have hsame : (src == dst) = true := by rw [Nat.eq_of_beq_eq_true hbq]; simp
        refine upon_value (s := convert src dst (a.eval x)) ⟨_, { w with heap := frzH w.heap q.block cc.size }, ?_, .heap w _ (.modify _ _ _ rfl), hk⟩ hn (by simp only [execOp, ho])
        have hsh : w.shape? q.block = some (ec, cc.size) := by simp only [World.shape?, hcell]
        simp only [convert, hx, Sem.run_bind, run_underlying_some hs, run_underlying_some hd, run_underlying_some he, Result.andThen_ok, hsame, markStringish, run_shape, hsh, run_freeze, Sem.run_pure]
        rfl
      · exact h1.elim
    · rename_i t q hs hd hx
      split at h1
      · rename_i hz
        cases q with
        | none => exact h1.elim
        | some b =>
          obtain ⟨⟨cs, e, f, hcell, hoff⟩, hk⟩ := h1
          refine upon_value (s := convert src dst (a.eval x)) ⟨_, w, ?_, ⟨rfl, rfl, rfl, .refl _⟩, hk⟩ hn (by simp only [execOp, ho])
          rw [hx]
          exact toUnsafe_run hs hd hz hcell hoff
      · exact h1.elim
    · rename_i t q hs hd hx
      split at h1
      · rename_i hz
        cases q with
        | none => exact h1.elim
        | some b =>
          obtain ⟨⟨cs, e, f, hcell, hl⟩, hk⟩ := h1
          refine upon_value (s := convert src dst (a.eval x)) ⟨_, w, ?_, ⟨rfl, rfl, rfl, .refl _⟩, hk⟩ hn (by simp only [execOp, ho])
          rw [hx]
          exact ofUnsafe_run hs hd hz hcell hl
      · exact h1.elim
    · exact h1.elim
  · rename_i c ho
    have hres : ∀ b, c.callee = .builtin b → (execOp a.eval o).run P w = (builtin b c.argTypes o.type (c.args.map fun | .const _ => true | _ => false) (c.args.map a.eval)).run P w := by
      intro b hb
      simp only [execOp, ho, resolve, hb, Sem.run_bind, Sem.run_pure, Result.andThen_ok]
      rfl
    have ea : c.args.map a.eval = (c.args.toList.map a.eval).toArray := (toArray_map _ _).symm
    split at h
    · rename_i hb
      have h1 := evs_eval ha h
      split at h1
      · rename_i t u s x hts hvs
        split at h1
        · rename_i ku hd
          unfold appendZ at h1
          split at h1
          · rename_i e q l cp kx n hu
            split at h1
            · rename_i zs hz hne
              split at h1
              · rename_i hlen
                have h0 : P.bytesOf e ≠ 0 := fun e => by rw [e] at hne; simp at hne
                have hl := Nat.eq_of_beq_eq_true hlen
                have ht0 : c.argTypes[0]? = some t := by rw [← Array.getElem?_toList, hts]; rfl
                have ht1 : c.argTypes[1]? = some u := by rw [← Array.getElem?_toList, hts]; rfl
                have hva : c.args.map a.eval = #[.slice q l cp, .int kx n] := by rw [ea, hvs]
                obtain ⟨g0, g1, g2⟩ := h1
                have h2 := appz_run (P := P) (ty := o.type) (kx := kx) ht0 ht1 hd g0 g1 hu hz h0 hl g2
                refine upon_value h2 hn ?_
                rw [hres _ hb, hva]; rfl
              · exact h1.elim
            · exact h1.elim
          · exact h1.elim
        · rename_i d hni hd
          unfold appendD at h1
          split at h1
          · rename_i e q l cp hu
            split at h1
            · rename_i zs hz hne
              split at h1
              · rename_i hlen
                have h0 : P.bytesOf e ≠ 0 := fun e => by rw [e] at hne; simp at hne
                have hl := Nat.eq_of_beq_eq_true hlen
                have ht0 : c.argTypes[0]? = some t := by rw [← Array.getElem?_toList, hts]; rfl
                have ht1 : c.argTypes[1]? = some u := by rw [← Array.getElem?_toList, hts]; rfl
                have hva : c.args.map a.eval = #[.slice q l cp, x] := by rw [ea, hvs]
                split at h1
                · rename_i o' m cp'
                  obtain ⟨new, g1, g2⟩ := rdCells_inv (P := P) h1
                  have hnew : ∀ w' : World, w'.heap = w.heap → (Builtin.firstCells (P.cellsOf e) m (.slice o' m cp')).run P w' = .ok new.toArray w' := by
                    intro w' hw'
                    rw [rowOf_copy]
                    cases o' with
                    | none =>
                      have e1 : (Result.ok #[] w : Result (Array Value)) = .ok new.toArray w := g1
                      have : new.toArray = #[] := by injection e1 with e1; exact e1.symm
                      rw [this]; rfl
                    | some ad =>
                      have gg := h1
                      unfold rdCells at gg
                      obtain ⟨cs, q1, q2, _⟩ := gg
                      have q3 := run_loadCells (P := P) (w := w) q1 q2
                      have q4 := run_loadCells (P := P) (w := w') q1 (by intro j v hj; rw [cell_heap, hw']; exact q2 j v hj)
                      have e2 : (loadCells ad (m * P.cellsOf e)).run P w = .ok new.toArray w := g1
                      rw [q3] at e2
                      have : cs.toArray = new.toArray := by injection e2
                      show (loadCells ad (m * P.cellsOf e)).run P w' = _
                      rw [q4, this]
                  have h2 := app_run (P := P) (ty := o.type) ht0 ht1 hd hni hu hz h0 hl (x := .slice o' m cp') (m := m) rfl hnew g2
                  refine upon_value h2 hn ?_
                  rw [hres _ hb, hva]; rfl
                · rename_i b
                  have hnew : ∀ w' : World, w'.heap = w.heap → (Builtin.firstCells (P.cellsOf e) b.size (.string b)).run P w' = .ok (bytesV b).toArray w' := by
                    intro w' _
                    simp only [Builtin.firstCells, Sem.run_pure, bytesV_take]
                    rw [List.take_of_length_le (by simp [bytesV])]
                  have h2 := app_run (P := P) (ty := o.type) ht0 ht1 hd hni hu hz h0 hl (x := .string b) (m := b.size) rfl hnew h1
                  refine upon_value h2 hn ?_
                  rw [hres _ hb, hva]; rfl
                · exact h1.elim
              · exact h1.elim
            · exact h1.elim
          · exact h1.elim
        · exact h1.elim
      · exact h1.elim
    · rename_i hb
      have h1 := evs_eval ha h
      split at h1
      · rename_i t o l c' hts hvs
        split at h1
        · rename_i e hu
          split at h1
          · rename_i zs hz hcz
            split at h1
            · rename_i hln
              have e1 : c.args.map a.eval = #[.slice o l c'] := by apply Array.toList_inj.1; rw [Array.toList_map]; exact hvs
              have ht0 : c.argTypes = #[t] := by apply Array.toList_inj.1; exact hts
              have h2 := clr_run (P := P) (ty := ‹Oper›.type) (c := c') hu hz hcz hln h1
              rw [← e1, ← ht0] at h2
              refine upon_value h2 hn ?_
              rw [hres _ hb]; rfl
            · exact h1.elim
          · exact h1.elim
        · exact h1.elim
      · exact h1.elim
    · rename_i hb
      have h1 := evs_eval ha h
      split at h1
      · rename_i t ts s x r hts hvs
        have ht0 : c.argTypes[0]? = some t := by rw [← Array.getElem?_toList, hts]; rfl
        have hv0 : (c.args.map a.eval)[0]? = some s := by rw [ea, List.getElem?_toArray, hvs]; rfl
        have hv1 : (c.args.map a.eval)[1]? = some x := by rw [ea, List.getElem?_toArray, hvs]; rfl
        have h2 := copyD_run (P := P) (ty := o.type) (vs := c.args.map a.eval) ht0 hv0 hv1 h1
        refine upon_value h2 hn ?_
        rw [hres _ hb]; rfl
      · exact h1.elim
    · rename_i hb
      have h1 := evs_eval ha h
      split at h1
      · rename_i q l k hvs
        have e1 : c.args.map a.eval = #[.slice q l k] := by apply Array.toList_inj.1; rw [Array.toList_map]; exact hvs
        have h2 := sdata_run (P := P) (w := w) (ats := c.argTypes) (ty := o.type) (l := l) h1
        rw [← e1] at h2
        refine upon_value h2 hn ?_
        rw [hres _ hb]; rfl
      · exact h1.elim
    · rename_i hb
      have h1 := evs_eval ha h
      split at h1
      · rename_i pt pts q k ht hvs
        split at h1
        · rename_i u hu
          split at h1
          · rename_i hcu
            have e1 : c.args.map a.eval = #[.pointer q, .int .i64 k] := by apply Array.toList_inj.1; rw [Array.toList_map]; exact hvs
            have ht0 : c.argTypes = #[pt, pts] := by apply Array.toList_inj.1; exact ht
            have h2 := ustr_run (P := P) (w := w) (it := pts) (ty := o.type) hu (Nat.eq_of_beq_eq_true hcu) h1
            rw [← e1, ← ht0] at h2
            refine upon_value h2 hn ?_
            rw [hres _ hb]; rfl
          · exact h1.elim
        · exact h1.elim
      · exact h1.elim
    · rename_i f hb
      have h1 := evs_eval ha (ev1_eval ha h)
      have hcv : ∀ {l : Sh} {K' : l.T → Heap → Prop}, callV P l (a.eval f) (c.args.toList.map a.eval) w.heap K' → (∀ s h', K' s h' → K (l.mk s) h') →
          o.uponIn (Wf ro) 0 P a (fun a' w' => ∃ v, a' = a.put o.dst v ∧ SameOs w w' ∧ K v w'.heap) Q ((execOp a.eval o).run P w) := by
        rintro l K' ⟨g, first, captured, hf, hbd, hsh, hcall⟩ hK
        obtain ⟨fn, hfn, hbody, hname⟩ := bodyB_ok hbd
        have h2 := hcall w rfl
        have he : (execOp a.eval o).run P w = .ok (.enter g ((first.toList ++ c.args.toList.map a.eval ++ captured.toList).toArray)) w := by
          have e1 : first ++ Array.map a.eval c.args ++ captured = (first.toList ++ c.args.toList.map a.eval ++ captured.toList).toArray := by
            apply Array.toList_inj.1; simp
          have hnone : fn.body.isNone = false := by cases hb2 : fn.body with | none => rw [hb2] at hbody; cases hbody | some _ => rfl
          simp only [execOp, ho, resolve, hb, hf, Deferred.ofValue, invoke, callFunc, Sem.run_bind, Sem.run_pure, Result.andThen_ok, run_program, hfn, hname, hnone, Bool.false_eq_true, if_false, e1]
        rw [he]
        refine ⟨(fun e => by cases e), (callsW h2).mono ?_⟩
        rintro e w' ⟨hos, s, rfl, hk⟩
        exact hn _ w' hos (hK s _ hk)
      split at h1
      · rcases h1 with h1 | ⟨y, hy, h1⟩
        · exact hcv h1 (fun s h' hk => hk)
        · obtain ⟨fn, tmps, asg, body, hrun, hrd⟩ := h1 w rfl
          have he : (execOp a.eval o).run P w = .ok (.round y fn tmps asg body) w := by
            have e1 : #[] ++ Array.map a.eval c.args = (c.args.toList.map a.eval).toArray := by
              apply Array.toList_inj.1; simp
            simp only [execOp, ho, resolve, hb, hy, Deferred.ofValue, invoke, Sem.run_bind, Sem.run_pure, Result.andThen_ok, e1, hrun]
          rw [he]
          refine ⟨(fun e => by cases e), (roundW hrd).mono ?_⟩
          rintro e w' ⟨hos, b, rfl, hk⟩
          exact hn _ w' hos hk
      · exact hcv h1 (fun s h' hk => hk)
      split at h1
      · rename_i g first captured hf
        unfold callD at h1
        split at h1
        · rename_i hm
          obtain ⟨fn, hfn, hbody, hname⟩ := hF g hm
          have h2 := h1 w rfl
          have he : (execOp a.eval o).run P w = .ok (.enter g ((first.toList ++ c.args.toList.map a.eval ++ captured.toList).toArray)) w := by
            have e1 : first ++ Array.map a.eval c.args ++ captured = (first.toList ++ c.args.toList.map a.eval ++ captured.toList).toArray := by
              apply Array.toList_inj.1; simp
            have hnone : fn.body.isNone = false := by cases hb2 : fn.body with | none => rw [hb2] at hbody; cases hbody | some _ => rfl
            simp only [execOp, ho, resolve, hb, hf, Deferred.ofValue, invoke, callFunc, Sem.run_bind, Sem.run_pure, Result.andThen_ok, run_program, hfn, hname, hnone, Bool.false_eq_true, if_false, e1]
          rw [he]
          refine ⟨(fun e => by cases e), (callsW h2).mono ?_⟩
          rintro e w' ⟨hos, s, rfl, hk⟩
          exact hn _ w' hos hk
        · obtain ⟨v, w', h2, h3, h4⟩ : ∃ v w', (callFunc g (first.toList ++ c.args.toList.map a.eval ++ captured.toList).toArray).run P w = .ok (.value v) w' ∧ SameOs w w' ∧ K v w'.heap := by
            split at h1
            · rename_i hov; exact ovlD_run hov h1
            · exact extD_run (P := P) (w := w) h1
          have he : (execOp a.eval o).run P w = .ok (.value v) w' := by
            have e1 : first ++ Array.map a.eval c.args ++ captured = (first.toList ++ c.args.toList.map a.eval ++ captured.toList).toArray := by
              apply Array.toList_inj.1; simp
            simp only [execOp, ho, resolve, hb, hf, Deferred.ofValue, invoke, Sem.run_bind, Sem.run_pure, Result.andThen_ok, e1, h2]
          rw [he]
          exact hn v w' h3 h4
      · exact h1.elim
    · rename_i x name hb
      have h1 := evs_eval ha (ev1_eval ha h)
      obtain ⟨t, g, p, e1, e2, e3, e4⟩ := invC_inv (cands_in P.types.size [] (fun _ hx => by cases hx)) h1
      obtain ⟨fn, hfn, hbody, hname⟩ := hF g e3
      have h2 := e4 w rfl
      have he : (execOp a.eval o).run P w = .ok (.enter g ((p :: c.args.toList.map a.eval).toArray)) w := by
        have e5 : (#[a.eval x] ++ Array.map a.eval c.args)[0]? = some (Value.iface t p) := by rw [← Array.getElem?_toList]; simp [e1]
        have e6 : #[p] ++ (#[a.eval x] ++ Array.map a.eval c.args).extract 1 (#[a.eval x] ++ Array.map a.eval c.args).size = (p :: c.args.toList.map a.eval).toArray := by
          apply Array.toList_inj.1
          simp
          exact List.take_of_length_le (by simp)
        have hnone : fn.body.isNone = false := by cases hb2 : fn.body with | none => rw [hb2] at hbody; cases hbody | some _ => rfl
        have e7 : (method (P.types.size + Made.depth) t p name).run P w = .ok (g, p) w := mrow_run (w := w) (p := p) e2 (P.types.size + 99)
        simp only [execOp, ho, resolve, hb, invoke, e5, callMethod, callFunc, Sem.run_bind, Sem.run_pure, Result.andThen_ok, run_program, e7, hfn, hname, hnone, Bool.false_eq_true, if_false, e6]
      rw [he]
      refine ⟨(fun e => by cases e), (callsW h2).mono ?_⟩
      rintro e w' ⟨hos, s, rfl, hk⟩
      exact hn _ w' hos hk
    · exact h.elim
  · rename_i t x ho
    have h1 := ev1_eval ha h
    split at h1
    · rename_i s hu hx
      refine upon_value (s := Instr.range t (a.eval x)) ⟨_, _, ?_, .heap w _ (.push _ _), h1⟩ hn (by simp only [execOp, ho])
      rw [hx]
      exact run_range_string w t s hu
    · exact h1.elim
  · rename_i x b ho
    have h1 := ev1_eval ha h
    split at h1
    · rename_i q hx
      obtain ⟨s, pos, h0, hb, hy, hn0⟩ := h1
      have hq : ∃ sp, q = ⟨q.block, 0, sp⟩ := ⟨q.spot, by cases q; simp at h0; subst h0; rfl⟩
      obtain ⟨sp, hq⟩ := hq
      by_cases hlt : pos < s.size
      · refine upon_value (s := Instr.next (a.eval x) true o.type) ⟨_, { w with heap := w.heap.setIfInBounds q.block (.stringIter s (pos + (Utf8.decode s pos).2)) }, ?_, .heap w _ (.set _ _ _ _ hb (by simp)), hy hlt⟩ hn (by simp only [execOp, ho])
        rw [hx, hq]
        simp only [Instr.next, getObj, setObj, Sem.run_bind, Sem.run, hb, Result.andThen, hlt, if_true]
        simp [goInt, Sem.run]
      · refine upon_value (s := Instr.next (a.eval x) true o.type) ⟨_, w, ?_, ⟨rfl, rfl, rfl, .refl _⟩, hn0 hlt⟩ hn (by simp only [execOp, ho])
        rw [hx, hq]
        simp [Instr.next, getObj, Sem.run, hb, hlt]
    · exact h1.elim
  · exact h.elim

end
end Go.Proofs.Ytkgocfaajfaidaa.D
