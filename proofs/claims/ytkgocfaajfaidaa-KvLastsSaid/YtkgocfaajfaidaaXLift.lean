/- From a call's contract over the heap to the given row: what arguments read as, and the step of the row. -/
import Derived.Test.YtkgocfaajfaidaaRows
import Derived.Test.YtkgocfaajfaidaaXHeap
import Derived.WalkKit
import Derived.ProofKit
import Derived.OpenShut
import Derived.ShutString
import Derived.ChangeOld
import Derived.Below
import Derived.Carry
namespace Go.Proofs.Ytkgocfaajfaidaa.D
open Go Go.ChangeShapes Go.WideShapes Go.ChangeAt Go.RowKit
set_option linter.unusedVariables false
set_option linter.unusedSimpArgs false

/-- what cells read as: a law over the heap, the reading's bulk and the cells -/
abbrev RP := Heap → Nat → List Value → Prop

def Rd (P : Program) (t : TypeId) (p : RP) : Prop :=
  ∀ (H : Type) (enc : TypeId × Value → H) (w : World) (base fuel : Nat) (cs : List Value) (d : DataW H) (ps : List MemPlace), DataW.trod enc P w base (fun _ => true) true fuel t cs = some (d, ps) → p w.heap (Rows.uptoBulk d) cs

def InInt (k : IntKind) : RP := fun _ n cs => ∃ x, cs = [.int k x] ∧ k.min ≤ x ∧ x ≤ k.max ∧ 1 ≤ n
def InBool : RP := fun _ n cs => ∃ x, cs = [.bool x] ∧ 1 ≤ n
def InStr : RP := fun _ n cs => ∃ s : ByteArray, cs = [.string s] ∧ s.size ≤ maxLen ∧ s.size + 1 ≤ n
def InSl (m : Nat) (p : RP) : RP := fun h n cs => cs = [.slice none 0 0] ∨
  ∃ a len cap, cs = [.slice (some a) len cap] ∧ len ≤ cap ∧ cap ≤ maxLen ∧ cap + 1 ≤ n ∧ ∀ i, i < cap → ∃ r b, r.length = m ∧ b ≤ n ∧ (∀ j, j < m → cellH h ((a.add (i * m)).add j) = r[j]?) ∧ p h b r
def InAgg (c : Nat) (l : List (Nat × Nat × RP)) : RP := fun h n cs => cs.length = c ∧ ∀ x ∈ l, ∃ b, b ≤ n ∧ x.2.2 h b ((cs.drop x.1).take x.2.1)

section
variable {P : Program} {t : TypeId}

theorem bulk_part {H : Type} : ∀ {l : List (DataW H)} {d : DataW H}, d ∈ l → Rows.uptoBulk d ≤ Rows.uptoBulkAll l
  | [], d, h => by cases h
  | x :: r, d, h => by
    simp only [Rows.uptoBulkAll]
    rcases List.mem_cons.1 h with e | e
    · subst e; omega
    · have := bulk_part e; omega

theorem bulk_one {H : Type} (d : DataW H) : 1 ≤ Rows.uptoBulk d := by
  cases d with
  | lit l => cases l <;> simp [Rows.uptoBulk]
  | nil => simp [Rows.uptoBulk]
  | ptr d => simp [Rows.uptoBulk]
  | slice elems spare => simp [Rows.uptoBulk]
  | agg parts => simp [Rows.uptoBulk]
  | iface t d => simp [Rows.uptoBulk]
  | map entries => simp [Rows.uptoBulk]
  | held h => simp [Rows.uptoBulk]

theorem bulk_len {H : Type} : ∀ (l : List (DataW H)), l.length ≤ Rows.uptoBulkAll l
  | [] => by simp [Rows.uptoBulkAll]
  | x :: r => by
    have := bulk_one x
    have := bulk_len r
    simp only [Rows.uptoBulkAll, List.length_cons]; omega

theorem wf_int {k : IntKind} {n : Int} (h : (Lit.int k n).wf = true) : k.min ≤ n ∧ n ≤ k.max := by
  simpa [Lit.wf] using h

theorem Rd.int {k : IntKind} (ht : P.underlying t = some (.int k)) : Rd P t (InInt k) := by
  intro H enc w base fuel cs d ps h
  obtain ⟨n, rfl, hx, hw⟩ := DataW.trod_int ht h
  obtain ⟨h1, h2⟩ := wf_int hw
  exact ⟨n, rfl, h1, h2, bulk_one d⟩

theorem Rd.bool (ht : P.underlying t = some .bool) : Rd P t InBool := by
  intro H enc w base fuel cs d ps h
  obtain ⟨n, rfl, hx⟩ := DataW.trod_bool ht h
  exact ⟨n, rfl, bulk_one d⟩

theorem Rd.str (ht : P.underlying t = some .string) : Rd P t InStr := by
  intro H enc w base fuel cs d ps h
  obtain ⟨s, rfl, hx, hs⟩ := DataW.trod_string ht h
  injection hx with hx _
  subst hx
  refine ⟨s, rfl, hs, ?_⟩
  simp [Rows.uptoBulk]

theorem Rd.sl {e : TypeId} {m : Nat} {p : RP} (ht : P.underlying t = some (.slice e)) (hm : P.cellsOf e = m) (hp : Rd P e p) : Rd P t (InSl m p) := by
  intro H enc w base fuel cs d ps h
  rcases DataW.trod_slice ht h with ⟨h0, _⟩ | ⟨a, len, cap, elems, rest, n, _, rfl, hx, hb, hl, hc, hlen, hel, hsp, _⟩
  · exact .inl h0
  · injection hx with hx _
    subst hx
    obtain ⟨hr, hrest⟩ := hsp rfl
    have b1 := bulk_len (elems.map (·.1))
    have b2 := bulk_len (rest.map (·.1))
    simp only [List.length_map] at b1 b2
    refine .inr ⟨a, len, cap, rfl, hl, hc, by simp only [Rows.uptoBulk]; omega, fun i hi => ?_⟩
    have key : ∃ y, (y ∈ elems ∨ y ∈ rest) ∧ (w.cells? base (a.add (i * P.cellsOf e)) (P.cellsOf e)).bind (DataW.trod enc P w base (fun _ => true) true n e) = some y := by
      by_cases h1 : i < len
      · refine ⟨elems[i]'(by omega), .inl (List.getElem_mem _), ?_⟩
        rw [hel i h1, List.getElem?_eq_getElem]
      · refine ⟨rest[i - len]'(by omega), .inr (List.getElem_mem _), ?_⟩
        have := hrest (i - len) (by omega)
        rw [show len + (i - len) = i by omega] at this
        rw [this, List.getElem?_eq_getElem]
    obtain ⟨y, hy, he⟩ := key
    rw [Option.bind_eq_some_iff] at he
    obtain ⟨r, hr1, hr2⟩ := he
    obtain ⟨_, q1, q2⟩ := World.cells?_some hr1
    have := hp H enc w base n r y.1 y.2 hr2
    refine ⟨r, Rows.uptoBulk y.1, by rw [q1, hm], ?_, fun j hj => ?_, this⟩
    · simp only [Rows.uptoBulk]
      rcases hy with hy | hy
      · have := bulk_part (List.mem_map_of_mem (f := (·.1)) hy); omega
      · have := bulk_part (List.mem_map_of_mem (f := (·.1)) hy); omega
    · have := q2 j (by omega)
      rw [hm] at this
      rw [← this, cell_heap]

/-- what the fields of a struct read as -/
inductive Flds (P : Program) : List Field → List (Nat × Nat × RP) → Prop
  | nil : Flds P [] []
  | cons {f : Field} {r : List Field} {m : Nat} {p : RP} {l : List (Nat × Nat × RP)} (hm : P.cellsOf f.type = m) (hp : Rd P f.type p) (hr : Flds P r l) : Flds P (f :: r) ((f.offset, m, p) :: l)

theorem Flds.get {l1 : List Field} {l2 : List (Nat × Nat × RP)} (h : Flds P l1 l2) : l2.length = l1.length ∧ ∀ (i : Nat) (x : Nat × Nat × RP), l2[i]? = some x → ∃ f, l1[i]? = some f ∧ x.1 = f.offset ∧ x.2.1 = P.cellsOf f.type ∧ Rd P f.type x.2.2 := by
  induction h with
  | nil => exact ⟨rfl, fun i x h => by simp at h⟩
  | cons hm hp _ ih =>
    refine ⟨by simp [ih.1], fun i x h => ?_⟩
    cases i with
    | zero =>
      simp only [List.getElem?_cons_zero, Option.some.injEq] at h
      subst h
      exact ⟨_, rfl, rfl, hm.symm, hp⟩
    | succ i =>
      simp only [List.getElem?_cons_succ] at h ⊢
      exact ih.2 i x h

theorem Rd.struct {fs : Array Field} {c : Nat} {l : List (Nat × Nat × RP)} (ht : P.underlying t = some (.struct fs)) (hc : P.cellsOf t = c)
    (hl : Flds P fs.toList l) : Rd P t (InAgg c l) := by
  intro H enc w base fuel cs d ps h
  obtain ⟨xs, n, _, hx, hlen, hsz, hf⟩ := DataW.trod_struct ht h
  injection hx with hx _
  subst hx
  refine ⟨by rw [hlen, hc], fun x hxm => ?_⟩
  obtain ⟨i, hi⟩ := List.mem_iff_getElem?.1 hxm
  obtain ⟨f, hfi, g1, g2, g3⟩ := hl.get.2 i x hi
  have := hf i f (by simpa using hfi)
  have hxi : i < xs.length := by
    have := (List.getElem?_eq_some_iff.1 hfi).1
    simp at this; omega
  rw [List.getElem?_eq_getElem hxi] at this
  refine ⟨Rows.uptoBulk xs[i].1, ?_, ?_⟩
  · simp only [Rows.uptoBulk]
    have := bulk_part (List.mem_map_of_mem (f := (·.1)) (List.getElem_mem hxi)); omega
  · rw [g1, g2]
    exact g3 H enc w base n _ xs[i].1 xs[i].2 this

theorem Rd.array {n : Nat} {e : TypeId} {c m : Nat} {p : RP} (ht : P.underlying t = some (.array n e)) (hc : P.cellsOf t = c) (hm : P.cellsOf e = m) (hp : Rd P e p) : Rd P t (InAgg c ((List.range n).map fun i => (i * m, m, p))) := by
  intro H enc w base fuel cs d ps h
  obtain ⟨xs, q, _, hx, hlen, hsz, hf⟩ := DataW.trod_array ht h
  injection hx with hx _
  subst hx
  refine ⟨by rw [hlen, hc], fun x hxm => ?_⟩
  obtain ⟨i, hi, rfl⟩ := List.mem_map.1 hxm
  rw [List.mem_range] at hi
  have := hf i hi
  have hxi : i < xs.length := by omega
  rw [List.getElem?_eq_getElem hxi, hm] at this
  refine ⟨Rows.uptoBulk xs[i].1, ?_, hp H enc w base q _ xs[i].1 xs[i].2 this⟩
  simp only [Rows.uptoBulk]
  have := bulk_part (List.mem_map_of_mem (f := (·.1)) (List.getElem_mem hxi)); omega
end

/-- a value that came in -/
theorem arg_of {P : Program} {t : TypeId} {p : RP} (hr : Rd P t p) {H : Type} {enc : TypeId × Value → H} {w : World} {base : Nat} {v : Value} {d : DataW H} {ps : List MemPlace}
    (h : DataW.Trod enc P w base (fun _ => true) true t v d ps) : p w.heap (Rows.uptoBulk d) v.cells.toList := by
  obtain ⟨fuel, hf⟩ := h
  exact hr H enc w base fuel _ d ps hf

theorem liftW {Q : World → Prop} {P : Program} {f : FuncId} {fn : Func} {s : ChangeSpec} {tb : TypeId} {fits : (H : Type) → List (DataW H) → Bool} (hl : laidOutB P = true) (hvars : s.vars = []) (hres : fn.resultTypes = #[tb]) (htb : P.underlying tb = some .bool)
    (hs : ∀ (H : Type) (ds : List (DataW H)), ds.length = fn.params.toList.length → s.fn H ds = { results := [.lit (.bool true)], args := ds })
    (hread : ∀ t ∈ fn.params.toList, P.readableRec t = true ∧ t < P.types.size)
    (call : ∀ (H : Type) (enc : TypeId × Value → H) (W : World) (base : Nat) (vs : List Value) (ds : List (DataW H)) (p : List MemPlace), Q W → fits H ds = true → DataW.TrodAll enc P W 0 (fun _ => true) true fn.params.toList vs ds p →
      (∀ (j : Nat) t v, fn.params[j]? = some t → vs[j]? = some v → Value.okWide P W .any base t v) → CallT P f vs W.heap [.sc .bool] (fun b h' => b = true ∧ Keep (fun _ => False) W.heap h'))
    {H : Type} {enc : TypeId × Value → H} (W : World) (base : Nat) (args : Array Value) (ds gs : List (DataW H)) (before : List MemPlace)
    (hq : Q W) (hval : ∀ (j : Nat) t v, fn.params[j]? = some t → args[j]? = some v → Value.okWide P W .any base t v) (hW : DataW.Whole enc P fn.params.toList s.vars false W args.toList ds gs before) (hf : fits H ds = true) :
    Calls P f args W fun e W' => ∃ v, e = .returned v ∧ s.post enc P fn false true false false W args v W' := by
  have hW' := hW
  obtain ⟨p, q, hA, hV, rfl, hfz, hnd⟩ := hW
  rw [hvars] at hV
  obtain ⟨rfl, rfl⟩ := trodVars_none hV
  have hc := call H enc W base args.toList ds p hq hf hA (by simpa using hval) W rfl
  simp only [Array.toArray_toList] at hc
  refine hc.mono fun e W' hh => ?_
  obtain ⟨so, b, he, hb, hk⟩ := hh
  subst hb he
  have bel : Below W.heap.size W W' := ⟨so.1, so.2.1, so.2.2.1, hk.size, fun k hk' => hk.same k hk' (fun h => h)⟩
  have stays : ∀ {ts : List TypeId} {vs : List Value} {ds : List (DataW H)} {p : List MemPlace}, (∀ t ∈ ts, P.readableRec t = true ∧ t < P.types.size) → DataW.TrodAll enc P W 0 (fun _ => true) true ts vs ds p →
      DataW.TrodAll enc P W' 0 (fun b => decide (b < W.heap.size)) true ts vs ds p ∧ ds.length = ts.length := by
    intro ts
    induction ts with
    | nil =>
      intro vs ds p _ h
      obtain ⟨rfl, rfl, rfl⟩ := trodAll_nil h
      exact ⟨trodAll_mk0, rfl⟩
    | cons t ts ih =>
      intro vs ds p hr h
      obtain ⟨v, vs', d, ds', p1, q1, rfl, rfl, rfl, h1, h2⟩ := trodAll_cons h
      obtain ⟨g1, g2⟩ := ih (fun t ht => hr t (List.mem_cons_of_mem _ ht)) h2
      have hlt : ∀ x ∈ p1, x.block < W.heap.size := by obtain ⟨m, hm⟩ := h1; exact DataW.trod_lt m _ _ _ hm
      have hrt := hr t (List.mem_cons_self ..)
      exact ⟨trodAll_cons_mk (Below.trod hl hrt.1 hrt.2 h1 bel hlt) g1, by simp [g2]⟩
  obtain ⟨g1, g2⟩ := stays hread hA
  have hsp := hs H ds g2
  refine ⟨_, rfl, ds, [], _, [], p, [], hW', ?_, ?_, ?_, bel.frame _, fun h => by cases h⟩
  · rw [List.append_nil, hsp, hres]
    exact trodAll_mk1 (shut_bool htb _)
  · rw [List.append_nil, hsp]
    exact g1
  · rw [List.append_nil, hsp, hvars]
    rfl

theorem lift {P : Program} {f : FuncId} {fn : Func} {s : ChangeSpec} {tb : TypeId} {fits : (H : Type) → List (DataW H) → Bool} (hl : laidOutB P = true) (hvars : s.vars = []) (hres : fn.resultTypes = #[tb]) (htb : P.underlying tb = some .bool)
    (hs : ∀ (H : Type) (ds : List (DataW H)), ds.length = fn.params.toList.length → s.fn H ds = { results := [.lit (.bool true)], args := ds })
    (hread : ∀ t ∈ fn.params.toList, P.readableRec t = true ∧ t < P.types.size)
    (call : ∀ (H : Type) (enc : TypeId × Value → H) (W : World) (base : Nat) (vs : List Value) (ds : List (DataW H)) (p : List MemPlace), fits H ds = true → DataW.TrodAll enc P W 0 (fun _ => true) true fn.params.toList vs ds p →
      (∀ (j : Nat) t v, fn.params[j]? = some t → vs[j]? = some v → Value.okWide P W .any base t v) → CallT P f vs W.heap [.sc .bool] (fun b h' => b = true ∧ Keep (fun _ => False) W.heap h'))
    {H : Type} {enc : TypeId × Value → H} (W : World) (base : Nat) (args : Array Value) (ds gs : List (DataW H)) (before : List MemPlace)
    (hval : ∀ (j : Nat) t v, fn.params[j]? = some t → args[j]? = some v → Value.okWide P W .any base t v) (hW : DataW.Whole enc P fn.params.toList s.vars false W args.toList ds gs before) (hf : fits H ds = true) :
    Calls P f args W fun e W' => ∃ v, e = .returned v ∧ s.post enc P fn false true false false W args v W' :=
  liftW (Q := fun _ => True) (fits := fits) hl hvars hres htb hs hread (fun H enc W base vs ds p _ hf hA hv => call H enc W base vs ds p hf hA hv) W base args ds gs before trivial hval hW hf

/-- an int that came in -/
theorem arg_int {P : Program} {t : TypeId} {k : IntKind} (ht : P.underlying t = some (.int k)) {H : Type} {enc : TypeId × Value → H} {w : World} {b1 base : Nat} {v : Value} {d : DataW H} {ps : List MemPlace}
    (hv : Value.okWide P w .any b1 t v) (h : DataW.Trod enc P w base (fun _ => true) true t v d ps) : ∃ x, v = .int k x ∧ k.min ≤ x ∧ x ≤ k.max := by
  obtain ⟨x, rfl, _, _, hw⟩ := open_int ht hv h
  exact ⟨x, rfl, wf_int hw⟩
theorem arg_bool {P : Program} {t : TypeId} (ht : P.underlying t = some .bool) {H : Type} {enc : TypeId × Value → H} {w : World} {b1 base : Nat} {v : Value} {d : DataW H} {ps : List MemPlace}
    (hv : Value.okWide P w .any b1 t v) (h : DataW.Trod enc P w base (fun _ => true) true t v d ps) : ∃ x, v = .bool x := by
  obtain ⟨x, rfl, _⟩ := open_bool ht hv h
  exact ⟨x, rfl⟩
theorem arg_sl {P : Program} {t e : TypeId} {m : Nat} {p : RP} (ht : P.underlying t = some (.slice e)) (hr : Rd P t (InSl m p)) {H : Type} {enc : TypeId × Value → H} {w : World} {b1 base : Nat} {v : Value} {d : DataW H} {ps : List MemPlace}
    (hv : Value.okWide P w .any b1 t v) (h : DataW.Trod enc P w base (fun _ => true) true t v d ps) : ∃ a l c, v = .slice a l c ∧ InSl m p w.heap (Rows.uptoBulk d) [.slice a l c] := by
  obtain ⟨a, l, c, rfl⟩ := okWide_slice ht hv
  exact ⟨a, l, c, rfl, arg_of hr h⟩
theorem arg_str {P : Program} {t : TypeId} (ht : P.underlying t = some .string) {H : Type} {enc : TypeId × Value → H} {w : World} {b1 base : Nat} {v : Value} {d : DataW H} {ps : List MemPlace}
    (hv : Value.okWide P w .any b1 t v) (h : DataW.Trod enc P w base (fun _ => true) true t v d ps) : ∃ s : ByteArray, v = .string s ∧ s.size ≤ maxLen ∧ s.size + 1 ≤ Rows.uptoBulk d := by
  obtain ⟨s, rfl, rfl, _, hs⟩ := Go.ChangeMaps.open_string ht hv h
  exact ⟨s, rfl, hs, by simp [Rows.uptoBulk]⟩
theorem arg_struct {P : Program} {t : TypeId} {fs : Array Field} {c : Nat} {l : List (Nat × Nat × RP)} (ht : P.underlying t = some (.struct fs)) (hr : Rd P t (InAgg c l)) {H : Type} {enc : TypeId × Value → H} {w : World} {b1 base : Nat} {v : Value} {d : DataW H} {ps : List MemPlace}
    (hv : Value.okWide P w .any b1 t v) (h : DataW.Trod enc P w base (fun _ => true) true t v d ps) : ∃ cs : Array Value, v = .agg cs ∧ InAgg c l w.heap (Rows.uptoBulk d) cs.toList := by
  unfold Value.okWide at hv
  rw [ht] at hv
  obtain ⟨cs, rfl, _⟩ := hv
  exact ⟨cs, rfl, arg_of hr h⟩

/-- bytes that came in -/
def bytesAt (h : Heap) (a : Option Addr) (l : Nat) : List UInt8 := (List.range l).map fun i => match a with | some x => (match cellH h (x.add i) with | some (.int _ z) => UInt8.ofNat z.toNat | _ => 0) | none => 0

/-- 'lift' where the form's own reach is used: no argument takes more than reachBytes -/
theorem liftS {P : Program} {f : FuncId} {fn : Func} {s : ChangeSpec} {tb : TypeId} (hl : laidOutB P = true) (hvars : s.vars = []) (hres : fn.resultTypes = #[tb]) (htb : P.underlying tb = some .bool)
    (hs : ∀ (H : Type) (ds : List (DataW H)), ds.length = fn.params.toList.length → s.fn H ds = { results := [.lit (.bool true)], args := ds })
    (hread : ∀ t ∈ fn.params.toList, P.readableRec t = true ∧ t < P.types.size)
    (call : ∀ (H : Type) (enc : TypeId × Value → H) (W : World) (base : Nat) (vs : List Value) (ds : List (DataW H)) (p : List MemPlace), (DataW.weightsEach P fn.params.toList ds).all (· ≤ reachBytes) = true → DataW.TrodAll enc P W 0 (fun _ => true) true fn.params.toList vs ds p →
      (∀ (j : Nat) t v, fn.params[j]? = some t → vs[j]? = some v → Value.okWide P W .any base t v) → CallT P f vs W.heap [.sc .bool] (fun b h' => b = true ∧ Keep (fun _ => False) W.heap h'))
    {H : Type} {enc : TypeId × Value → H} (W : World) (base : Nat) (args : Array Value) (ds gs : List (DataW H)) (before : List MemPlace)
    (hval : ∀ (j : Nat) t v, fn.params[j]? = some t → args[j]? = some v → Value.okWide P W .any base t v) (hW : DataW.Whole enc P fn.params.toList s.vars false W args.toList ds gs before)
    (hsz : (DataW.weightsEach P (fn.params.toList ++ s.plain.varTypes P) (ds ++ gs)).all (· ≤ reachBytes) = true) :
    Calls P f args W fun e W' => ∃ v, e = .returned v ∧ s.post enc P fn false true false false W args v W' := by
  classical
  refine lift (fits := fun H' ds' => decide ((DataW.weightsEach P fn.params.toList ds').all (· ≤ reachBytes) = true)) hl hvars hres htb hs hread
    (fun H enc W base vs ds p hk hA hval => call H enc W base vs ds p (of_decide_eq_true hk) hA hval) W base args ds gs before hval hW ?_
  have hW' := hW
  obtain ⟨p, q, hA, hV, e1, _⟩ := hW'
  rw [hvars] at hV
  obtain ⟨rfl, rfl⟩ := trodVars_none hV
  refine decide_eq_true ?_
  have e : s.plain.varTypes P = [] := by
    unfold ChangeSpec.plain DataSpec.varTypes
    simp [hvars]
  rw [e, List.append_nil, List.append_nil] at hsz
  exact hsz

/-- of the j-th argument each weight is in reach -/
theorem reach_nth {P : Program} {H : Type} : ∀ {ts : List TypeId} {ds : List (DataW H)}, (DataW.weightsEach P ts ds).all (· ≤ reachBytes) = true → ∀ {j : Nat} {t : TypeId} {d : DataW H}, ts[j]? = some t → ds[j]? = some d → (d.weights P t).all (· ≤ reachBytes) = true
  | [], _, _, _, _, _, h, _ => by simp at h
  | _ :: _, [], _, _, _, _, _, h => by simp at h
  | t :: ts, d :: ds, hk, 0, _, _, h1, h2 => by
    simp only [List.getElem?_cons_zero, Option.some.injEq] at h1 h2
    subst h1 h2
    simp only [DataW.weightsEach, List.all_append, Bool.and_eq_true] at hk
    exact hk.1
  | t :: ts, d :: ds, hk, j + 1, _, _, h1, h2 => by
    simp only [DataW.weightsEach, List.all_append, Bool.and_eq_true] at hk
    simp only [List.getElem?_cons_succ] at h1 h2
    exact reach_nth hk.2 h1 h2

/-- a slice's length, in reach -/
theorem reach_bytes {P : Program} {t e : TypeId} (ht : P.underlying t = some (.slice e)) (hb : P.bytesOf e = 1) {H : Type} {enc : TypeId × Value → H} {w : World} {base : Nat} {a : Option Addr} {l c : Nat} {d : DataW H} {ps : List MemPlace}
    (h : DataW.Trod enc P w base (fun _ => true) true t (.slice a l c) d ps) (hk : (d.weights P t).all (· ≤ reachBytes) = true) : l ≤ 140737488351232 := by
  obtain ⟨fuel, hf⟩ := h
  cases fuel with
  | zero => simp [DataW.trod] at hf
  | succ fuel =>
  rcases DataW.trod_slice ht hf with ⟨h0, _⟩ | ⟨a', len, cap, elems, rest, n, _, h0, hx, hb', hl, hc, hlen, hel, hsp, _⟩
  · simp [Value.cells] at h0
    omega
  · injection hx with hx _
    subst hx
    have e1 : l = len := by
      simp [Value.cells] at h0
      exact h0.2.1
    simp only [DataW.weights, ht, List.all_cons, Bool.and_eq_true, decide_eq_true_eq, hb, Nat.mul_one] at hk
    have h1 := hk.1
    have e2 : reachBytes = 140737488351232 := rfl
    rw [e2] at h1
    simp only [List.length_map] at h1
    omega

end Go.Proofs.Ytkgocfaajfaidaa.D
