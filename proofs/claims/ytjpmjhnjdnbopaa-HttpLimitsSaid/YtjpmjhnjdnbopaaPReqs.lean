/- Headers and requests that came in, with the sum of what they hold. -/
import Derived.Test.YtjpmjhnjdnbopaaXLift
import Derived.Test.YtjpmjhnjdnbopaaPHds
namespace Go.Proofs.Ytjpmjhnjdnbopaa
open Go D Go.ChangeShapes Go.WideShapes Go.ChangeAt Go.RowKit
set_option linter.unusedVariables false
set_option linter.unusedSimpArgs false

def InSlS (m : Nat) (p : RP) : RP := fun h n cs => cs = [.slice none 0 0] ∨
  ∃ a len cap, cs = [.slice (some a) len cap] ∧ len ≤ cap ∧ ∃ bs : List Nat, bs.length = cap ∧ bs.sum + 1 ≤ n ∧ ∀ (i b : Nat), bs[i]? = some b → ∃ r, r.length = m ∧ (∀ j, j < m → cellH h ((a.add (i * m)).add j) = r[j]?) ∧ p h b r
def InAggS (c : Nat) (l : List (Nat × Nat × RP)) : RP := fun h n cs => cs.length = c ∧ ∃ bs : List Nat, bs.length = l.length ∧ bs.sum + 1 ≤ n ∧ ∀ (i : Nat) x (b : Nat), l[i]? = some x → bs[i]? = some b → x.2.2 h b ((cs.drop x.1).take x.2.1)

theorem bulkAll_sum {H : Type} : ∀ l : List (DataW H), Rows.uptoBulkAll l = (l.map Rows.uptoBulk).sum
  | [] => rfl
  | d :: r => by simp [Rows.uptoBulkAll, bulkAll_sum r]

theorem Rd.slS {P : Program} {t e : TypeId} {m : Nat} {p : RP} (ht : P.underlying t = some (.slice e)) (hm : P.cellsOf e = m) (hp : Rd P e p) : Rd P t (InSlS m p) := by
  intro H enc w base fuel cs d ps h
  rcases DataW.trod_slice ht h with ⟨h0, _⟩ | ⟨a, len, cap, elems, rest, n, _, rfl, hx, hb, hl, hc, hlen, hel, hsp, _⟩
  · exact .inl h0
  · injection hx with hx _
    subst hx
    obtain ⟨hr, hrest⟩ := hsp rfl
    refine .inr ⟨a, len, cap, rfl, hl, (elems.map (·.1) ++ rest.map (·.1)).map Rows.uptoBulk, by simp; omega, ?_, fun i b hib => ?_⟩
    · simp only [Rows.uptoBulk, bulkAll_sum, List.map_append, List.sum_append]
      omega
    · have hi : i < cap := by
        have := (List.getElem?_eq_some_iff.1 hib).1
        simp at this; omega
      have key : ∃ y, (elems ++ rest)[i]? = some y ∧ (w.cells? base (a.add (i * P.cellsOf e)) (P.cellsOf e)).bind (DataW.trod enc P w base (fun _ => true) true n e) = some y := by
        by_cases h1 : i < len
        · refine ⟨elems[i]'(by omega), ?_, ?_⟩
          · rw [List.getElem?_append_left (by omega), List.getElem?_eq_getElem]
          · rw [hel i h1, List.getElem?_eq_getElem]
        · refine ⟨rest[i - len]'(by omega), ?_, ?_⟩
          · rw [List.getElem?_append_right (by omega), hlen, List.getElem?_eq_getElem]
          · have := hrest (i - len) (by omega)
            rw [show len + (i - len) = i by omega] at this
            rw [this, List.getElem?_eq_getElem]
      obtain ⟨y, hy, he⟩ := key
      rw [Option.bind_eq_some_iff] at he
      obtain ⟨r, hr1, hr2⟩ := he
      obtain ⟨_, q1, q2⟩ := World.cells?_some hr1
      have := hp H enc w base n r y.1 y.2 hr2
      rw [← List.map_append, List.map_map, List.getElem?_map, hy] at hib
      injection hib with hib
      subst hib
      refine ⟨r, by rw [q1, hm], fun j hj => ?_, this⟩
      have := q2 j (by omega)
      rw [hm] at this
      rw [← this, cell_heap]

theorem Rd.structS {P : Program} {t : TypeId} {fs : Array Field} {c : Nat} {l : List (Nat × Nat × RP)} (ht : P.underlying t = some (.struct fs)) (hc : P.cellsOf t = c)
    (hl : Flds P fs.toList l) : Rd P t (InAggS c l) := by
  intro H enc w base fuel cs d ps h
  obtain ⟨xs, n, _, hx, hlen, hsz, hf⟩ := DataW.trod_struct ht h
  injection hx with hx _
  subst hx
  have hll := hl.get.1
  refine ⟨by rw [hlen, hc], xs.map (fun x => Rows.uptoBulk x.1), by simp at hll ⊢; omega, ?_, fun i x b hi hb => ?_⟩
  · simp only [Rows.uptoBulk, bulkAll_sum, List.map_map]
    exact Nat.le_refl _
  · obtain ⟨f, hfi, g1, g2, g3⟩ := hl.get.2 i x hi
    have := hf i f (by simpa using hfi)
    have hxi : i < xs.length := by
      have := (List.getElem?_eq_some_iff.1 hfi).1
      simp at this; omega
    rw [List.getElem?_eq_getElem hxi] at this
    rw [List.getElem?_map, List.getElem?_eq_getElem hxi] at hb
    injection hb with hb
    subst hb
    rw [g1, g2]
    exact g3 H enc w base n _ xs[i].1 xs[i].2 this

abbrev hdRP : RP := InAggS 2 [(0, 1, InStr), (1, 1, InStr)]
abbrev hdsRP : RP := InSlS 2 hdRP
abbrev reqRP : RP := InAggS 4 [(0, 1, InStr), (1, 1, InStr), (2, 1, hdsRP), (3, 1, InSl 1 (InInt .u8))]
theorem hdRd : Rd Try.prog 37 hdRP := Rd.structS (fs := _) Try.underlying37 (by kernel_rfl) (.cons (by kernel_rfl) (Rd.str Try.underlying9) (.cons (by kernel_rfl) (Rd.str Try.underlying9) .nil))
theorem hdsRd : Rd Try.prog 24 hdsRP := Rd.slS Try.underlying24 (by kernel_rfl) hdRd
theorem reqRd : Rd Try.prog 26 reqRP := Rd.structS (fs := _) Try.underlying26 (by kernel_rfl) (.cons (by kernel_rfl) (Rd.str Try.underlying9) (.cons (by kernel_rfl) (Rd.str Try.underlying9) (.cons (by kernel_rfl) hdsRd (.cons (by kernel_rfl) (Rd.sl Try.underlying22 (m := 1) (by kernel_rfl) (Rd.int Try.underlying5)) .nil))))

theorem arg_slP {P : Program} {t e : TypeId} {p : RP} (ht : P.underlying t = some (.slice e)) (hr : Rd P t p) {H : Type} {enc : TypeId × Value → H} {w : World} {b1 base : Nat} {v : Value} {d : DataW H} {ps : List MemPlace}
    (hv : Value.okWide P w .any b1 t v) (h : DataW.Trod enc P w base (fun _ => true) true t v d ps) : ∃ a l c, v = .slice a l c ∧ p w.heap (Rows.uptoBulk d) [.slice a l c] := by
  obtain ⟨a, l, c, rfl⟩ := okWide_slice ht hv
  exact ⟨a, l, c, rfl, arg_of hr h⟩
theorem arg_structP {P : Program} {t : TypeId} {fs : Array Field} {p : RP} (ht : P.underlying t = some (.struct fs)) (hr : Rd P t p) {H : Type} {enc : TypeId × Value → H} {w : World} {b1 base : Nat} {v : Value} {d : DataW H} {ps : List MemPlace}
    (hv : Value.okWide P w .any b1 t v) (h : DataW.Trod enc P w base (fun _ => true) true t v d ps) : ∃ cs : Array Value, v = .agg cs ∧ p w.heap (Rows.uptoBulk d) cs.toList := by
  unfold Value.okWide at hv
  rw [ht] at hv
  obtain ⟨cs, rfl, _⟩ := hv
  exact ⟨cs, rfl, arg_of hr h⟩

def hdTot (hs : List (ByteArray × ByteArray)) : Nat := (hs.map fun p => p.1.size + p.2.size + 3).sum
def hdsAt (h : Heap) (a : Option Addr) (l : Nat) : List (ByteArray × ByteArray) := (List.range l).map fun i => match a with
  | some x => (match cellH h (x.add (i * 2)), cellH h ((x.add (i * 2)).add 1) with | some (.string n), some (.string v) => (n, v) | _, _ => (⟨#[]⟩, ⟨#[]⟩))
  | none => (⟨#[]⟩, ⟨#[]⟩)

theorem sum_le_of {f : Nat → Nat} : ∀ {l : List Nat} {n : Nat}, n ≤ l.length → (∀ i b, i < n → l[i]? = some b → f i ≤ b) → ((List.range n).map f).sum ≤ l.sum
  | l, 0, _, _ => by simp
  | l, n + 1, hn, hf => by
    have hlt : n < l.length := by omega
    have h1 := sum_le_of (f := f) (l := l.take n) (n := n) (by simp; omega) (fun i b hi hb => hf i b (by omega) (by rw [List.getElem?_take, if_pos hi] at hb; exact hb))
    have h2 := hf n l[n] (by omega) (List.getElem?_eq_getElem hlt)
    have h3 : (l.take (n + 1)).sum ≤ l.sum := by
      have := List.take_append_drop (n + 1) l
      have h4 : l.sum = (l.take (n + 1)).sum + (l.drop (n + 1)).sum := by
        rw [← List.sum_append, this]
      omega
    rw [List.take_add_one, List.getElem?_eq_getElem hlt] at h3
    simp only [Option.toList_some, List.sum_append, List.sum_cons, List.sum_nil] at h3
    rw [List.range_succ]
    simp only [List.map_append, List.sum_append, List.map_cons, List.map_nil, List.sum_cons, List.sum_nil]
    omega

theorem hds_of {h : Heap} {a : Option Addr} {l c n : Nat} (hs : hdsRP h n [.slice a l c]) : HdsAt h a l (hdsAt h a l) ∧ l ≤ c ∧ c ≤ n ∧ hdTot (hdsAt h a l) ≤ n := by
  rcases hs with h1 | ⟨x, l', c', h1, h2, bs, hbl, hbs, h5⟩
  · injection h1 with h1
    injection h1 with h1 h2 h3
    subst h1 h2 h3
    exact ⟨⟨by simp [hdsAt], fun i v hv => by simp [hdsAt] at hv⟩, Nat.le_refl _, by omega, by simp [hdTot, hdsAt]⟩
  · injection h1 with h1
    injection h1 with e1 e2 e3
    subst e1 e2 e3
    have cell : ∀ i, i < l → ∃ s0 s1 : ByteArray, cellH h (x.add (i * 2)) = some (.string s0) ∧ cellH h ((x.add (i * 2)).add 1) = some (.string s1) ∧ ∀ b, bs[i]? = some b → s0.size + s1.size + 3 ≤ b := fun i hi => by
      have hib : bs[i]? = some bs[i] := List.getElem?_eq_getElem (by omega)
      obtain ⟨r, g1, g2, g3, b2, g4, g5, g6⟩ := h5 i _ hib
      match b2, g4 with
      | [q0, q1], _ =>
        obtain ⟨s0, f0, _, m0⟩ := g6 0 _ q0 rfl rfl
        obtain ⟨s1, f1, _, m1⟩ := g6 1 _ q1 rfl rfl
        match r, g1, f0, f1 with
        | [y0, y1], _, f0, f1 =>
          simp at f0 f1 g5
          subst f0 f1
          have w0 := g2 0 (by omega)
          have w1 := g2 1 (by omega)
          rw [add_zero] at w0
          refine ⟨s0, s1, w0, w1, fun b hb => ?_⟩
          rw [hib] at hb
          injection hb with hb
          omega
    have hget : ∀ i, i < l → ∃ s0 s1 : ByteArray, (hdsAt h (some x) l)[i]? = some (s0, s1) ∧ cellH h (x.add (i * 2)) = some (.string s0) ∧ cellH h ((x.add (i * 2)).add 1) = some (.string s1) ∧ ∀ b, bs[i]? = some b → s0.size + s1.size + 3 ≤ b := fun i hi => by
      obtain ⟨s0, s1, c0, c1, c2⟩ := cell i hi
      refine ⟨s0, s1, ?_, c0, c1, c2⟩
      unfold hdsAt
      rw [List.getElem?_map, List.getElem?_range hi]
      simp only [Option.map_some, c0, c1]
    have hlen : (hdsAt h (some x) l).length = l := by simp [hdsAt]
    have hcle : c ≤ bs.sum := by
      have : ((List.range c).map fun _ => 1).sum ≤ bs.sum := sum_le_of (by omega) (fun i b hi hb => by
        obtain ⟨r, g1, g2, g3, b2, g4, g5, g6⟩ := h5 i _ hb
        omega)
      have hr : ∀ k, ((List.range k).map fun _ => 1).sum = k := by
        intro k
        induction k with
        | zero => rfl
        | succ k ih => rw [List.range_succ, List.map_append, List.sum_append, ih]; rfl
      rw [hr] at this
      exact this
    refine ⟨⟨hlen.symm, fun i p hp => ?_⟩, h2, by omega, ?_⟩
    · have hi : i < l := by
        have := (List.getElem?_eq_some_iff.1 hp).1
        omega
      obtain ⟨s0, s1, e0, c0, c1, _⟩ := hget i hi
      rw [e0] at hp
      injection hp with hp
      subst hp
      exact ⟨x, rfl, c0, c1⟩
    · have e : (hdsAt h (some x) l).map (fun p => p.1.size + p.2.size + 3) = (List.range l).map fun i => ((hdsAt h (some x) l).map (fun p => p.1.size + p.2.size + 3))[i]?.getD 0 := by
        apply List.ext_getElem?
        intro i
        rw [List.getElem?_map, List.getElem?_map]
        by_cases hi : i < l
        · rw [List.getElem?_range hi]
          obtain ⟨s0, s1, e0, _⟩ := hget i hi
          simp [e0]
        · rw [List.getElem?_eq_none (by omega), List.getElem?_eq_none (by simp; omega)]
          rfl
      unfold hdTot
      rw [e]
      have := sum_le_of (f := fun i => ((hdsAt h (some x) l).map (fun p => p.1.size + p.2.size + 3))[i]?.getD 0) (l := bs) (n := l) (by omega) (fun i b hi hb => by
        obtain ⟨s0, s1, e0, _, _, c2⟩ := hget i hi
        have := c2 b hb
        simp [e0]
        exact this)
      omega

/-- a request as it came in -/
structure ReqA (h : Heap) (n : Nat) (m t : ByteArray) (hl bo : Sl) (hs : List (ByteArray × ByteArray)) (body : List UInt8) : Prop where
  hd : HdsAt h hl.a hl.len hs
  hc : hl.len ≤ hl.cap
  rb : Rb h bo.a bo.len body
  bc : bo.len ≤ bo.cap
  tot : m.size + t.size + hdTot hs + bo.len ≤ n
theorem req_of {h : Heap} {n : Nat} {cs : List Value} (hs : reqRP h n cs) : ∃ m t hl bo hds body, cs = [.string m, .string t, .slice hl.a hl.len hl.cap, .slice bo.a bo.len bo.cap] ∧ ReqA h n m t hl bo hds body := by
  obtain ⟨h0, bs, g4, g5, g6⟩ := hs
  match bs, g4 with
  | [q0, q1, q2, q3], _ =>
    match cs, h0 with
    | [v0, v1, v2, v3], _ =>
      obtain ⟨s0, f0, _, m0⟩ := g6 0 _ q0 rfl rfl
      obtain ⟨s1, f1, _, m1⟩ := g6 1 _ q1 rfl rfl
      have f2 : hdsRP h q2 [v2] := g6 2 _ q2 rfl rfl
      have f3 : InSl 1 (InInt .u8) h q3 [v3] := g6 3 _ q3 rfl rfl
      simp at f0 f1 g5
      subst f0 f1
      obtain ⟨ha, hl, hc, rfl⟩ : ∃ a l c, v2 = .slice a l c := by
        rcases f2 with e | ⟨x, l, c, e, _⟩
        · exact ⟨_, _, _, List.singleton_inj.1 e⟩
        · exact ⟨_, _, _, List.singleton_inj.1 e⟩
      obtain ⟨ba, blen, bc, rfl⟩ : ∃ a l c, v3 = .slice a l c := by
        rcases f3 with e | ⟨x, l, c, e, _⟩
        · exact ⟨_, _, _, List.singleton_inj.1 e⟩
        · exact ⟨_, _, _, List.singleton_inj.1 e⟩
      obtain ⟨k1, k2, k3⟩ := bytes_of f3
      obtain ⟨p1, p2, p3, p4⟩ := hds_of f2
      exact ⟨s0, s1, ⟨ha, hl, hc⟩, ⟨ba, blen, bc⟩, _, _, rfl, p1, p2, k1, k2, by show s0.size + s1.size + hdTot (hdsAt h ha hl) + blen ≤ n; omega⟩
end Go.Proofs.Ytjpmjhnjdnbopaa
