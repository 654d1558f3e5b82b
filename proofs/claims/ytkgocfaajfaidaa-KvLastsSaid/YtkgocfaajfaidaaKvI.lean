/- Changes that came in; a store that is at work on a device of its own. -/
import Derived.Test.YtkgocfaajfaidaaKvH
import Derived.Test.YtkgocfaajfaidaaXLift
namespace Go.Proofs.Ytkgocfaajfaidaa
open Go D Go.ChangeShapes Go.WideShapes Go.ChangeAt Go.RowKit
set_option linter.unusedVariables false
set_option linter.unusedSimpArgs false
namespace Kv
open Wal (packL unpackL Holds appM lg0 Lg secs LRow)
open Snap (KT fitsM saveM loadM okAt)
open Disk (M readAt crash)

/-! ### arguments -/
def sAt (h : Heap) (a : Addr) : Key := match cellH h a with | some (.string s) => s | _ => ⟨#[]⟩
def bAt (h : Heap) (a : Addr) : Bool := match cellH h a with | some (.bool b) => b | _ => false
def slAt (h : Heap) (a : Addr) : Sl := match cellH h a with | some (.slice a l c) => ⟨a, l, c⟩ | _ => ⟨none, 0, 0⟩
def csOf (h : Heap) (a : Option Addr) (l : Nat) : List Ch := (List.range l).map fun i => match a with | some x => (sAt h (x.add (i * 3)), sAt h ((x.add (i * 3)).add 1), bAt h ((x.add (i * 3)).add 2)) | none => (⟨#[]⟩, ⟨#[]⟩, false)
abbrev ChP : RP := InAgg 3 [(0, 1, InStr), (1, 1, InStr), (2, 1, InBool)]
/-- a slice within reach: B bytes an element -/
def InSlB (m B : Nat) (p : RP) : RP := fun h n cs => cs = [.slice none 0 0] ∨
  ∃ a len cap, cs = [.slice (some a) len cap] ∧ len ≤ cap ∧ cap * B ≤ 140737488351232 ∧ ∀ i, i < cap → ∃ r b, r.length = m ∧ (∀ j, j < m → cellH h ((a.add (i * m)).add j) = r[j]?) ∧ p h b r
def RdR (P : Program) (t : TypeId) (p : RP) : Prop :=
  ∀ (H : Type) (enc : TypeId × Value → H) (w : World) (base fuel : Nat) (cs : List Value) (d : DataW H) (ps : List MemPlace), DataW.trod enc P w base (fun _ => true) true fuel t cs = some (d, ps) → (d.weights P t).all (· ≤ reachBytes) = true → p w.heap (Rows.uptoBulk d) cs
theorem RdR.of {P : Program} {t : TypeId} {p : RP} (h : Rd P t p) : RdR P t p := fun H enc w base fuel cs d ps ht _ => h H enc w base fuel cs d ps ht
theorem weights_mem {P : Program} {e : TypeId} {H : Type} : ∀ {l : List (DataW H)} {d : DataW H}, (DataW.weightsAll P e l).all (· ≤ reachBytes) = true → d ∈ l → (d.weights P e).all (· ≤ reachBytes) = true
  | [], d, _, h => by cases h
  | x :: r, d, hk, h => by
    simp only [DataW.weightsAll, List.all_append, Bool.and_eq_true] at hk
    rcases List.mem_cons.1 h with rfl | h
    · exact hk.1
    · exact weights_mem hk.2 h
theorem RdR.sl {P : Program} {t e : TypeId} {m B : Nat} {p : RP} (ht : P.underlying t = some (.slice e)) (hm : P.cellsOf e = m) (hB : P.bytesOf e = B) (hp : RdR P e p) : RdR P t (InSlB m B p) := by
  intro H enc w base fuel cs d ps h hk
  rcases DataW.trod_slice ht h with ⟨h0, _⟩ | ⟨a, len, cap, elems, rest, n, _, rfl, hx, hb, hl, hc, hlen, hel, hsp, _⟩
  · exact .inl h0
  · injection hx with hx _
    subst hx
    obtain ⟨hr, hrest⟩ := hsp rfl
    simp only [DataW.weights, ht, List.all_cons, Bool.and_eq_true, decide_eq_true_eq, hB, List.all_append, List.length_map] at hk
    obtain ⟨hk1, hk2, hk3⟩ := hk
    have e2 : reachBytes = 140737488351232 := rfl
    rw [e2] at hk1
    have ec : elems.length + rest.length = cap := by omega
    rw [ec] at hk1
    refine .inr ⟨a, len, cap, rfl, hl, hk1, fun i hi => ?_⟩
    have key : ∃ y, (y ∈ elems ∨ y ∈ rest) ∧ (w.cells? base (a.add (i * P.cellsOf e)) (P.cellsOf e)).bind (DataW.trod enc P w base (fun _ => true) true n e) = some y := by
      by_cases h1 : i < len
      · refine ⟨elems[i]'(by omega), .inl (List.getElem_mem _), ?_⟩
        rw [hel i h1, List.getElem?_eq_getElem]
      · refine ⟨rest[i - len]'(by omega), .inr (List.getElem_mem _), ?_⟩
        have := hrest (i - len) (by omega)
        rw [show len + (i - len) = i by omega] at this
        rw [this, List.getElem?_eq_getElem]
    obtain ⟨y, hy, he⟩ := key
    rw [Option.bind_eq_some_iff] at he
    obtain ⟨r, hr1, hr2⟩ := he
    obtain ⟨_, q1, q2⟩ := World.cells?_some hr1
    have := hp H enc w base n r y.1 y.2 hr2 (by
      rcases hy with hy | hy
      · exact weights_mem hk2 (List.mem_map_of_mem hy)
      · exact weights_mem hk3 (List.mem_map_of_mem hy))
    refine ⟨r, Rows.uptoBulk y.1, by rw [q1, hm], fun j hj => ?_, this⟩
    have := q2 j (by omega)
    rw [hm] at this
    rw [← this, cell_heap]
theorem argR {P : Program} {t e : TypeId} {m B : Nat} {p : RP} (ht : P.underlying t = some (.slice e)) (hr : RdR P t (InSlB m B p)) {H : Type} {enc : TypeId × Value → H} {w : World} {b1 base : Nat} {v : Value} {d : DataW H} {ps : List MemPlace}
    (hv : Value.okWide P w .any b1 t v) (h : DataW.Trod enc P w base (fun _ => true) true t v d ps) (hk : (d.weights P t).all (· ≤ reachBytes) = true) : ∃ a l c, v = .slice a l c ∧ InSlB m B p w.heap (Rows.uptoBulk d) [.slice a l c] := by
  obtain ⟨a, l, c, rfl⟩ := okWide_slice ht hv
  obtain ⟨fuel, hf⟩ := h
  exact ⟨a, l, c, rfl, hr H enc w base fuel _ d ps hf hk⟩
theorem chs_of {h : Heap} {a : Option Addr} {l c n : Nat} (hs : InSlB 3 40 ChP h n [.slice a l c]) : Chs h a l (csOf h a l) ∧ l ≤ 4000000000000 ∧ l ≤ c := by
  rcases hs with h1 | ⟨x, l', c', h1, h2, h3, h5⟩
  · injection h1 with h1
    injection h1 with h1 h2 h3
    subst h2 h3
    exact ⟨⟨rfl, fun i c hi => by simp [csOf] at hi⟩, Nat.zero_le _, Nat.le_refl _⟩
  · injection h1 with h1
    injection h1 with e1 e2 e3
    subst e1 e2 e3
    refine ⟨⟨by simp [csOf], fun i ch hi => ?_⟩, by omega, h2⟩
    have hil : i < l := by have := (List.getElem?_eq_some_iff.1 hi).1; simpa [csOf] using this
    have hch : ch = (sAt h (x.add (i * 3)), sAt h ((x.add (i * 3)).add 1), bAt h ((x.add (i * 3)).add 2)) := by
      unfold csOf at hi
      rw [List.getElem?_map, List.getElem?_range hil] at hi
      injection hi with hi
      exact hi.symm
    obtain ⟨r, b, g1, g2, g3, g4⟩ := h5 i (by omega)
    obtain ⟨b0, _, n0, f0, _⟩ := g4 (0, 1, InStr) (by simp)
    obtain ⟨b1, _, n1, f1, _⟩ := g4 (1, 1, InStr) (by simp)
    obtain ⟨b2, _, n2, f2, _⟩ := g4 (2, 1, InBool) (by simp)
    match r, g1, f0, f1, f2 with
    | [y0, y1, y2], _, f0, f1, f2 =>
      simp at f0 f1 f2
      subst f0 f1 f2
      have w0 := g2 0 (by omega)
      rw [add_zero] at w0
      have w1 := g2 1 (by omega)
      have w2 := g2 2 (by omega)
      subst hch
      refine ⟨x, rfl, ?_, ?_, ?_⟩
      · rw [w0]; simp only [sAt, w0]; rfl
      · rw [w1]; simp only [sAt, w1]; rfl
      · rw [w2]; simp only [bAt, w2]; rfl

/-- a slice of slices of changes -/
def Css (h : Heap) (a : Option Addr) (l : Nat) (css : List (List Ch)) : Prop := l = css.length ∧ ∀ i cs, css[i]? = some cs → ∃ (x : Addr) (o : Option Addr) (l' c' : Nat), a = some x ∧ cellH h (x.add (i * 1)) = some (.slice o l' c') ∧ Chs h o l' cs ∧ l' ≤ 4000000000000
theorem Css.nw {h h' : Heap} {a : Option Addr} {l : Nat} {css : List (List Ch)} (hc : Css h a l css) (hk : Nw h h') : Css h' a l css := by
  refine ⟨hc.1, fun i cs hi => ?_⟩
  obtain ⟨x, o, l', c', e1, e2, e3, e4⟩ := hc.2 i cs hi
  exact ⟨x, o, l', c', e1, hk.cell e2 (fun h => h), e3.nw hk, e4⟩
theorem Css.at {h : Heap} {a : Option Addr} {l : Nat} {css : List (List Ch)} (hc : Css h a l css) {i : Nat} (hi : i < css.length) {K : Option Addr → Nat → Nat → Prop}
    (hk : ∀ o l' c', Chs h o l' css[i] → l' ≤ 4000000000000 → K o l' c') : idx a l (i : Int) fun y => ldL (y.add ((i : Int).toNat * 1)) h K := by
  obtain ⟨x, o, l', c', e1, e2, e3, e4⟩ := hc.2 i css[i] (List.getElem?_eq_getElem hi)
  have := hc.1
  refine ⟨x, e1, by omega, by omega, ?_⟩
  rw [Int.toNat_natCast]
  exact ldL_at e2 (hk o l' c' e3 e4)
def cssOf (h : Heap) (a : Option Addr) (l : Nat) : List (List Ch) := (List.range l).map fun i => match a with | some x => csOf h (slAt h (x.add (i * 1))).a (slAt h (x.add (i * 1))).len | none => []
theorem css_of {h : Heap} {a : Option Addr} {l c n : Nat} (hs : InSlB 1 24 (InSlB 3 40 ChP) h n [.slice a l c]) : Css h a l (cssOf h a l) ∧ l ≤ 6000000000000 := by
  rcases hs with h1 | ⟨x, l', c', h1, h2, h3, h5⟩
  · injection h1 with h1
    injection h1 with h1 h2 h3
    subst h2
    exact ⟨⟨rfl, fun i c hi => by simp [cssOf] at hi⟩, Nat.zero_le _⟩
  · injection h1 with h1
    injection h1 with e1 e2 e3
    subst e1 e2 e3
    refine ⟨⟨by simp [cssOf], fun i cs hi => ?_⟩, by omega⟩
    have hil : i < l := by have := (List.getElem?_eq_some_iff.1 hi).1; simpa [cssOf] using this
    have hcs : cs = csOf h (slAt h (x.add (i * 1))).a (slAt h (x.add (i * 1))).len := by
      unfold cssOf at hi
      rw [List.getElem?_map, List.getElem?_range hil] at hi
      injection hi with hi
      exact hi.symm
    obtain ⟨r, b, g1, g2, g3⟩ := h5 i (by omega)
    have w0 := g2 0 (by omega)
    rw [add_zero] at w0
    have key : ∃ o l' c', r = [.slice o l' c'] := by
      rcases g3 with e | ⟨a', l', c', e, _⟩
      · exact ⟨_, _, _, e⟩
      · exact ⟨_, _, _, e⟩
    obtain ⟨o, l', c', er⟩ := key
    subst er
    obtain ⟨q1, q2, _⟩ := chs_of g3
    have w0' : cellH h (x.add (i * 1)) = some (.slice o l' c') := w0
    refine ⟨x, o, l', c', rfl, w0', ?_, by omega⟩
    rw [hcs]
    simp only [slAt, w0']
    exact q1

/-! ### a store at work -/
structure Run (h h' : Heap) (W : Nat → Prop) (d s : Nat) (x : St) : Prop where
  ex : ∃ mu im F g t, At h' mu im F d s g t x ∧ ∀ b, W b ↔ Wr mu s g b
  new : ∀ b, W b → h.size ≤ b
  nw : Nw h h'
  inv : Inv x
  st : x.m.st = 0
section
variable {h h' : Heap} {W : Nat → Prop} {d s : Nat} {x : St}
theorem Run.lt (hr : Run h h' W d s x) : ∀ b, W b → b < h'.size := fun b hb => by
  obtain ⟨mu, im, F, g, t, ha, hw⟩ := hr.ex
  exact ha.wr_lt b ((hw b).1 hb)
theorem Run.nw' {h2 : Heap} (hr : Run h h' W d s x) (hk : Nw h' h2) : Run h h2 W d s x := by
  obtain ⟨mu, im, F, g, t, ha, hw⟩ := hr.ex
  exact ⟨⟨mu, im, F, g, t, ha.nw hk, hw⟩, hr.new, hr.nw.trans' hk, hr.inv, hr.st⟩
theorem Run.len (hr : Run h h' W d s x) : x.l.length ≤ 100000 := by have := hr.inv.szl; have := szL_len x.l; omega
theorem Run.pairs (hr : Run h h' W d s x) {R : Sl → Heap → Prop} (hk : ∀ r h2, Run h h2 W d s x → Nw h' h2 → Pr h2 r x.l → (∀ b, blk r.a b → h'.size ≤ b) → R r h2) : CallT Try.prog law9_pairs_no [.pointer (some ⟨s, 0, none⟩)] h' [.sc .sl] R := by
  obtain ⟨mu, im, F, g, t, ha, hw⟩ := hr.ex
  have := hr.len
  refine pairs_spec ha (by omega) ?_
  intro r h2 n2 o2
  exact hk r h2 (hr.nw' n2) n2 o2.pr o2.fresh
theorem Run.commits (hr : Run h h' W d s x) {R : Int → Heap → Prop} (hk : R (x.n : Int) h') : CallT Try.prog kv_Store_Commits_no [.pointer (some ⟨s, 0, none⟩)] h' [.sc (.int .i64)] R := by
  obtain ⟨mu, im, F, g, t, ha, hw⟩ := hr.ex
  exact commits_spec ha hk
theorem Run.epoch (hr : Run h h' W d s x) {R : Int → Heap → Prop} (hk : R (x.E : Int) h') : CallT Try.prog kv_Store_Epoch_no [.pointer (some ⟨s, 0, none⟩)] h' [.sc (.int .i64)] R := by
  obtain ⟨mu, im, F, g, t, ha, hw⟩ := hr.ex
  exact epoch_spec ha hr.inv.eb.1 hk
theorem Run.room (hr : Run h h' W d s x) {R : Int → Heap → Prop} (hk : R (x.L.n - x.L.pos) h') : CallT Try.prog kv_Store_Room_no [.pointer (some ⟨s, 0, none⟩)] h' [.sc (.int .i64)] R := by
  obtain ⟨mu, im, F, g, t, ha, hw⟩ := hr.ex
  exact room_spec ha hr.inv hk
theorem Run.tree (hr : Run h h' W d s x) {R : Option Addr → Heap → Prop} (hk : ∀ t F, TreeAt h' F t x.l → (∀ b, F b → b < h'.size ∧ ¬ W b) → R (some ⟨t, 0, none⟩) h') : CallT Try.prog kv_Store_Tree_no [.pointer (some ⟨s, 0, none⟩)] h' [.sc .ptr] R := by
  obtain ⟨mu, im, F, g, t, ha, hw⟩ := hr.ex
  exact tree_spec ha (hk t F ha.tree (fun b hb => ⟨(ha.f b hb).1, fun hb2 => ha.F_wr b hb ((hw b).1 hb2)⟩))

/-- after a step -/
theorem Run.step {h2 : Heap} {mu im F mu' im' F' : Nat → Prop} {g g' t' : Nat} {x' : St} (hr : Run h h' W d s x) (hw : ∀ b, W b ↔ Wr mu s g b) (ha : At h2 mu' im' F' d s g' t' x') (hi : Inv x') (hst : x'.m.st = 0) (st : Step h' h2 mu im F mu' im' F' s g g') :
    Run h h2 (Wr mu' s g') d s x' ∧ Keep W h' h2 ∧ ∀ b, Wr mu' s g' b → W b ∨ h'.size ≤ b := by
  have kw : Keep W h' h2 := st.keep.mono (fun b _ hb => (hw b).2 hb)
  have z := hr.nw.size
  have gw : ∀ b, Wr mu' s g' b → W b ∨ h'.size ≤ b := fun b hb => by
    rcases hb with hb | hb | hb
    · exact (st.gm b hb).imp (fun h => (hw b).2 (.inl h)) id
    · exact .inl ((hw b).2 (.inr (.inl hb)))
    · rcases st.gg with e | e
      · exact .inl ((hw b).2 (.inr (.inr (by rw [hb, e]))))
      · exact .inr (by omega)
  refine ⟨⟨⟨mu', im', F', g', t', ha, fun b => Iff.rfl⟩, fun b hb => ?_, hr.nw.trans kw (fun b hb hw' => by have := hr.new b hw'; omega), hi, hst⟩, kw, gw⟩
  rcases gw b hb with h1 | h1
  · exact hr.new b h1
  · omega

/-- what a commit of cs answers, and leaves -/
structure Did (x x' : St) (cs : List Ch) (e : Int) : Prop where
  out : (e = 1 ∧ (¬ ∀ c ∈ cs, mayC c = true) ∧ x' = x) ∨ (e = 60 ∧ (∀ c ∈ cs, mayC c = true) ∧ (fitsM x.q (12 + szL (addC x.l cs) : Nat) = false ∨ 2 * x.q < secs (packL (recsL cs)).length) ∧ x'.l = x.l ∧ x'.n = x.n) ∨ (e = 0 ∧ (∀ c ∈ cs, mayC c = true) ∧ x'.l = addC x.l cs ∧ x'.n = x.n + 1)
  q : x'.q = x.q
  e1 : x'.E ≤ x.E + 1
  n1 : x'.n ≤ x.n + 1
theorem Run.commit (hr : Run h h' W d s x) (hE : x.E < 999999999) (hn : x.n < 999999999) {a : Option Addr} {l c : Nat} {cs : List Ch} (hcs : Chs h' a l cs) (hl : l ≤ 4000000000000) {R : Int → Heap → Prop}
    (hk : ∀ e x' W' h2, Did x x' cs e → Run h h2 W' d s x' → Keep W h' h2 → (∀ b, W' b → W b ∨ h'.size ≤ b) → R e h2) : CallT Try.prog kv_Store_Commit_no [.pointer (some ⟨s, 0, none⟩), .slice a l c] h' [.sc (.int .i64)] R := by
  obtain ⟨mu, im, F, g, t, ha, hw⟩ := hr.ex
  refine commit_spec ha hr.inv hE hn hcs hl ?_ ?_ ?_ ?_
  · intro hno h2 n2
    exact hk 1 x W h2 ⟨.inl ⟨rfl, hno, rfl⟩, rfl, by omega, by omega⟩ (hr.nw' n2) (n2.mono (fun _ _ h => h.elim)) (fun b hb => .inl hb)
  · intro hm hbad mu' im' g' x' h2 a2 i2 sm st
    obtain ⟨r1, r2, r3⟩ := hr.step hw a2 i2 (sm.st hr.st) st
    exact hk 60 x' _ h2 ⟨.inr (.inl ⟨rfl, hm, hbad, sm.l, sm.n⟩), sm.q, sm.e2, by rw [sm.n]; omega⟩ r1 r2 r3
  · intro hm mu' im' F' g' t' x' h2 a2 i2 eq el en e1 e2 est _ st
    obtain ⟨r1, r2, r3⟩ := hr.step hw a2 i2 (est hr.st) st
    exact hk 0 x' _ h2 ⟨.inr (.inr ⟨rfl, hm, el, en⟩), eq, e2, by omega⟩ r1 r2 r3
  · intro hst; exact absurd hr.st hst
theorem Run.check (hr : Run h h' W d s x) (hE : x.E < 1000000000) {R : Int → Heap → Prop}
    (hk : ∀ m' W' h2, Run h h2 W' d s ⟨m', x.q, x.E + 1, lg0 (2 * x.q) (2 * x.q) (x.E + 1), x.l, x.n⟩ → Keep W h' h2 → (∀ b, W' b → W b ∨ h'.size ≤ b) → R 0 h2) : CallT Try.prog kv_Store_Checkpoint_no [.pointer (some ⟨s, 0, none⟩)] h' [.sc (.int .i64)] R := by
  obtain ⟨mu, im, F, g, t, ha, hw⟩ := hr.ex
  refine check_spec ha hr.inv hE ?_ ?_
  · intro mu' im' g' m' h2 a2 i2 est st
    obtain ⟨r1, r2, r3⟩ := hr.step hw a2 i2 (est hr.st) st
    exact hk m' _ h2 r1 r2 r3
  · intro hst; exact absurd hr.st hst
theorem Run.open (hr : Run h h' W d s x) {R : Option Addr × Int → Heap → Prop}
    (hk : ∀ s2 W2 h2, Run h h2 W d s x → Run h h2 W2 d s2 x → Nw h' h2 → R (some ⟨s2, 0, none⟩, 0) h2) : CallT Try.prog kv_Open_no [.pointer (some ⟨d, 0, none⟩)] h' [.sc .ptr, .sc (.int .i64)] R := by
  obtain ⟨mu, im, F, g, t, ha, hw⟩ := hr.ex
  have hst : x.m.st ≠ 2 := by rw [hr.st]; omega
  have z := hr.nw.size
  refine open_spec ha.dev (hr.inv.ops hst) hst ?_
  intro s2 g2 t2 F2 h2 a2 n2 hs hg hF
  refine hk s2 (Wr mu s2 g2) h2 (hr.nw' n2) ⟨⟨mu, im, F2, g2, t2, a2, fun b => Iff.rfl⟩, fun b hb => ?_, hr.nw.trans' n2, hr.inv, hr.st⟩ n2
  rcases hb with hb | hb | hb
  · exact hr.new b ((hw b).2 (.inl hb))
  · omega
  · omega
end
theorem run_new {h : Heap} {n : Nat} (h0 : 32 ≤ n) (h1 : n ≤ 4096) {K : Option Addr × Int → Option Addr × Int → Heap → Prop}
    (hk : ∀ d s W h', Run h h' W d s (new0 n) → K (some ⟨d, 0, none⟩, 0) (some ⟨s, 0, none⟩, 0) h') :
    CallT Try.prog disk_New_no [.int .i64 (n : Int)] h [.sc .ptr, .sc (.int .i64)] fun (r1 : Option Addr × Int) h2 => CallT Try.prog kv_Open_no [.pointer r1.1] h2 [.sc .ptr, .sc (.int .i64)] fun (r3 : Option Addr × Int) h4 => K r1 r3 h4 := by
  refine new_open h0 h1 ?_
  intro d mu im F s g t h' ha hi nw hmu hs hg
  refine hk d s (Wr mu s g) h' ⟨⟨mu, im, F, g, t, ha, fun b => Iff.rfl⟩, fun b hb => ?_, nw, hi, rfl⟩
  rcases hb with hb | hb | hb
  · exact hmu b hb
  · omega
  · omega

end Kv
end Go.Proofs.Ytkgocfaajfaidaa
