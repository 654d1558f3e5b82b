/- Contracts of the document's answer for layer 5: a device as lists of strings. -/
import Derived.Test.YtmkobpkdodgboaaPDiskC
import Derived.Test.YtmkobpkdodgboaaGRef
namespace Go.Proofs.Ytmkobpkdodgboaa
open Go D
set_option linter.unusedVariables false
set_option linter.unusedSimpArgs false
namespace Ref5
open Disk

def entS (x : Int × ByteArray) : List Value := [.int .i64 x.1, .string x.2]

/-- the document's fuse beside the device's state -/
def RF (m : M) (f : Int) : Prop := (m.st = 0 → f = -1) ∧ (m.st = 1 → f = m.fuse) ∧ (m.st = 0 ∨ m.st = 1 ∨ m.st = 2) ∧ InI f ∧ 0 ≤ m.fuse

structure Rep (h : Heap) (p : Nat) (mu : Nat → Prop) (m : M) : Prop where
  ex : ∃ (a : Option Addr) (lc : Nat) (ca : Option Addr) (cc : Nat) (f : Int),
    Row h p [.slice a m.l.length lc, .slice ca m.c.length cc, .int .i64 f, .bool (m.st == 2)] ∧
    SlR h 1 a m.l.length lc (m.l.map .string) ∧ SlR h 2 ca m.c.length cc (m.c.flatMap entS) ∧ RF m f ∧
    mu p ∧ (∀ b, blk a b → mu b) ∧ (∀ b, blk ca b → mu b) ∧ ¬ blk a p ∧ ¬ blk ca p ∧ (∀ b, blk a b → ¬ blk ca b)
  lt : ∀ b, mu b → b < h.size
  bnd : ∀ x ∈ m.c, 0 ≤ x.1 ∧ x.1 < (m.l.length : Int)
  le : m.l.length ≤ 4096

theorem nob (b : Nat) : ¬ blk none b := fun hb => by obtain ⟨x, hx, _⟩ := hb; cases hx

theorem Rep.keep {S mu : Nat → Prop} {h h' : Heap} {p : Nat} {m : M} (hr : Rep h p mu m) (hk : Keep S h h') (hm : ∀ b, mu b → ¬ S b) : Rep h' p mu m := by
  obtain ⟨⟨a, lc, ca, cc, f, r1, r2, r3, rf, g1, g2, g3, g4⟩, lt, bnd, le⟩ := hr
  exact ⟨⟨a, lc, ca, cc, f, hk.row r1 (hm _ g1), r2.keep hk (fun b hb => hm _ (g2 b hb)), r3.keep hk (fun b hb => hm _ (g3 b hb)), rf, g1, g2, g3, g4⟩, fun b hb => Nat.lt_of_lt_of_le (lt b hb) hk.size, bnd, le⟩

theorem Rep.own {mu : Nat → Prop} {h : Heap} {p : Nat} {m : M} (hr : Rep h p mu m) : mu p := by
  obtain ⟨⟨a, lc, ca, cc, f, r1, r2, r3, rf, g1, _⟩, _⟩ := hr
  exact g1

theorem Rep.mono {mu mu' : Nat → Prop} {h : Heap} {p : Nat} {m : M} (hr : Rep h p mu m) (hm : ∀ b, mu b → mu' b) (hl : ∀ b, mu' b → b < h.size) : Rep h p mu' m := by
  obtain ⟨⟨a, lc, ca, cc, f, r1, r2, r3, rf, g1, g2, g3, g4⟩, lt, bnd, le⟩ := hr
  exact ⟨⟨a, lc, ca, cc, f, r1, r2, r3, rf, hm _ g1, fun b hb => hm _ (g2 b hb), fun b hb => hm _ (g3 b hb), g4⟩, hl, bnd, le⟩

theorem Rep.cells {mu : Nat → Prop} {h : Heap} {p : Nat} {m : M} (hr : Rep h p mu m) :
    (∃ a c, cellH h ⟨p, 0, none⟩ = some (.slice a m.l.length c)) ∧ (∃ a c, cellH h ⟨p, 1, none⟩ = some (.slice a m.c.length c)) ∧ (∃ f, RF m f ∧ cellH h ⟨p, 2, none⟩ = some (.int .i64 f)) ∧ cellH h ⟨p, 3, none⟩ = some (.bool (m.st == 2)) := by
  obtain ⟨⟨a, lc, ca, cc, f, r1, r2, r3, rf, _⟩, _⟩ := hr
  exact ⟨⟨_, _, by rw [r1.cells]; rfl⟩, ⟨_, _, by rw [r1.cells]; rfl⟩, ⟨f, rf, by rw [r1.cells]; rfl⟩, by rw [r1.cells]; rfl⟩

/-- the fuse is laid -/
theorem Rep.setFuse {mu : Nat → Prop} {h : Heap} {p : Nat} {m m' : M} (hr : Rep h p mu m) {n : Int} (e1 : m'.l = m.l) (e2 : m'.c = m.c) (e3 : m'.st = 2 ↔ m.st = 2) (hn : RF m' n) {K : Heap → Prop}
    (hk : ∀ h', Rep h' p mu m' → Keep (· = p) h h' → h'.size = h.size → K h') : stC ⟨p, 2, none⟩ (.int .i64 n) h K := by
  obtain ⟨⟨a, lc, ca, cc, f, r1, r2, r3, rf, g1, g2, g3, g4, g5, g6⟩, lt, bnd, le⟩ := hr
  refine stC_row r1 (by simp) rfl ?_
  intro h' s1 row k1
  have e4 : (m'.st == 2) = (m.st == 2) := by
    rw [Bool.eq_iff_iff]; simpa using e3
  refine hk h' ⟨⟨a, lc, ca, cc, n, ?_, ?_, ?_, hn, g1, g2, g3, g4, g5, g6⟩, fun b hb => by rw [s1]; exact lt b hb, by rw [e1, e2]; exact bnd, by rw [e1]; exact le⟩ k1 s1
  · rw [e1, e2, e4]; exact row
  · rw [e1]; exact r2.keep k1 (fun b hb e => g4 (by have : b = p := e; rwa [← this]))
  · rw [e2]; exact r3.keep k1 (fun b hb e => g5 (by have : b = p := e; rwa [← this]))

/-- dead or not is laid -/
theorem Rep.setDead {mu : Nat → Prop} {h : Heap} {p : Nat} {m m' : M} (hr : Rep h p mu m) {b : Bool} (e1 : m'.l = m.l) (e2 : m'.c = m.c) (e3 : b = (m'.st == 2)) (hn : ∀ f, RF m f → RF m' f) {K : Heap → Prop}
    (hk : ∀ h', Rep h' p mu m' → Keep (· = p) h h' → h'.size = h.size → K h') : stC ⟨p, 3, none⟩ (.bool b) h K := by
  obtain ⟨⟨a, lc, ca, cc, f, r1, r2, r3, rf, g1, g2, g3, g4, g5, g6⟩, lt, bnd, le⟩ := hr
  refine stC_row r1 (by simp) rfl ?_
  intro h' s1 row k1
  subst e3
  refine hk h' ⟨⟨a, lc, ca, cc, f, ?_, ?_, ?_, hn f rf, g1, g2, g3, g4, g5, g6⟩, fun b hb => by rw [s1]; exact lt b hb, by rw [e1, e2]; exact bnd, by rw [e1]; exact le⟩ k1 s1
  · rw [e1, e2]; exact row
  · rw [e1]; exact r2.keep k1 (fun b hb e => g4 (by have : b = p := e; rwa [← this]))
  · rw [e2]; exact r3.keep k1 (fun b hb e => g5 (by have : b = p := e; rwa [← this]))

/-- a device works again -/
theorem Rep.revive {mu : Nat → Prop} {h : Heap} {p : Nat} {m : M} {l : List ByteArray} (hr : Rep h p mu m) (hl : l = m.l) {K : Heap → Prop}
    (hk : ∀ h', Rep h' p mu ⟨l, m.c, 0, 0⟩ → Keep (· = p) h h' → h'.size = h.size → K h') : stC ⟨p, 3, none⟩ (.bool false) h fun h' => stC ⟨p, 2, none⟩ (.int .i64 (-1)) h' K := by
  subst hl
  obtain ⟨⟨a, lc, ca, cc, f, r1, r2, r3, rf, g1, g2, g3, g4, g5, g6⟩, lt, bnd, le⟩ := hr
  refine stC_row r1 (by simp) rfl ?_
  intro h1 s1 row1 k1
  refine stC_row row1 (by simp) rfl ?_
  intro h2 s2 row2 k2
  have k12 := k1.trans' k2
  refine hk h2 ⟨⟨a, lc, ca, cc, -1, row2, r2.keep k12 (fun b hb e => g4 (by have : b = p := e; rwa [← this])), r3.keep k12 (fun b hb e => g5 (by have : b = p := e; rwa [← this])), ⟨fun _ => rfl, fun e => by simp at e, .inl rfl, by unfold InI; omega, by simp⟩, g1, g2, g3, g4, g5, g6⟩, fun b hb => by rw [s2, s1]; exact lt b hb, bnd, le⟩ k12 (by omega)

/-- what waits is dropped -/
theorem Rep.noCache {mu : Nat → Prop} {h : Heap} {p : Nat} {m : M} (hr : Rep h p mu m) {K : Heap → Prop}
    (hk : ∀ h', Rep h' p mu { m with c := [] } → Keep (· = p) h h' → h'.size = h.size → K h') : stC ⟨p, 1, none⟩ (.slice none 0 0) h K := by
  obtain ⟨⟨a, lc, ca, cc, f, r1, r2, r3, rf, g1, g2, g3, g4, g5, g6⟩, lt, bnd, le⟩ := hr
  refine stC_row r1 (by simp) rfl ?_
  intro h' s1 row k1
  refine hk h' ⟨⟨a, lc, none, 0, f, row, r2.keep k1 (fun b hb e => g4 (by have : b = p := e; rwa [← this])), SlR.nil _ _, rf, g1, g2, fun b hb => absurd hb (nob b), g4, nob _, fun b _ => nob b⟩, fun b hb => by rw [s1]; exact lt b hb, fun x hx => (by cases hx), le⟩ k1 s1

/-- an entry that waits is read -/
theorem ent_ld {mu : Nat → Prop} {h : Heap} {p : Nat} {m : M} (hr : Rep h p mu m) {j : Int} (h0 : 0 ≤ j) (h1 : j < m.c.length) {K : Addr → Prop}
    (hk : ∀ x : Addr, x.spot = none → cellH h (x.add (j.toNat * 2)) = some (.int .i64 (ent m j).1) → cellH h ((x.add (j.toNat * 2)).add 1) = some (.string (ent m j).2) → K x) :
    ldL ⟨p, 1, none⟩ h fun o l c => idx o l j K := by
  obtain ⟨⟨a, lc, ca, cc, f, r1, r2, r3, rf, g1, g2, g3, g4, g5, g6⟩, lt, bnd, le⟩ := hr
  refine ldL_row r1 rfl ?_
  have hj : j.toNat < m.c.length := by omega
  have hg : m.c[j.toNat]? = some m.c[j.toNat] := List.getElem?_eq_getElem hj
  have hent : ent m j = m.c[j.toNat] := by unfold ent; rw [List.getD_eq_getElem?_getD, hg]; rfl
  refine r3.idx h0 h1 fun x hx hsp => hk x hsp ?_ ?_
  · subst hx
    have c0 := flat2_get entS (fun _ => rfl) m.c j.toNat _ hg 0 (by decide)
    rw [r3.cell (by omega), show j.toNat * 2 = j.toNat * 2 + 0 from rfl, c0, hent]; rfl
  · subst hx
    have c1 := flat2_get entS (fun _ => rfl) m.c j.toNat _ hg 1 (by decide)
    rw [add_add hsp, r3.cell (by omega), c1, hent]; rfl

/-- a sector is laid -/
theorem lay_wr {mu : Nat → Prop} {h : Heap} {p : Nat} {m : M} (hr : Rep h p mu m) {i : Int} {s : ByteArray} (h0 : 0 ≤ i) (h1 : i < m.l.length) {o : Option Addr} {l : Nat} {c : Nat} (ho : cellH h ⟨p, 0, none⟩ = some (.slice o l c)) {K : Heap → Prop}
    (hk : ∀ h', Rep h' p mu { m with l := m.l.set i.toNat s } → Keep mu h h' → h'.size = h.size → K h') :
    idx o l i fun a => stC (a.add (i.toNat * 1)) (.string s) h K := by
  obtain ⟨⟨a, lc, ca, cc, f, r1, r2, r3, rf, g1, g2, g3, g4, g5, g6⟩, lt, bnd, le⟩ := hr
  have hcell : cellH h ⟨p, 0, none⟩ = some (.slice a m.l.length lc) := by rw [r1.cells]; rfl
  rw [hcell] at ho
  injection ho with ho
  injection ho with w1 w2 w3
  subst w1 w2 w3
  refine r2.idx h0 h1 fun x hx hsp => ?_
  subst hx
  rw [Nat.mul_one]
  refine r2.set (by omega) rfl ?_
  intro h' s1 q1 q2
  have hb : ∀ b, b = x.block → blk (some x) b := fun b e => blk_some.2 e.symm
  refine hk h' ⟨⟨some x, lc, ca, cc, f, ?_, ?_, ?_, rf, g1, g2, g3, g4, g5, g6⟩, fun b hb => by rw [s1]; exact lt b hb, by simpa using bnd, by simpa using le⟩ (q2.mono (fun b _ e => g2 b (hb b e))) s1
  · simp only [List.length_set]
    exact q2.row r1 (fun e => g4 (hb _ e))
  · simp only [List.length_set, List.map_set]
    exact q1
  · exact r3.keep q2 (fun b h2 e => g6 b (hb b e) h2)

theorem blank_spec {h : Heap} {R : ByteArray → Heap → Prop} (hk : ∀ h', Keep (fun _ => False) h h' → R (noughts 256) h') : CallT Try.prog ref5_blank_no [] h [.sc .str] R := by
  apply ref5_blank_call
  simp only [ref5_blank]
  refine mkBytes (by decide) (by decide) ?_
  intro h1 s1 b1 k1
  exact b1.str (hk h1 k1)

theorem new_spec {h : Heap} {n : Int} (hn : InI n) {R : (Option Addr) × Int → Heap → Prop} (hno : (n < 1 ∨ 4096 < n) → R (none, 1) h)
    (hyes : 1 ≤ n → n ≤ 4096 → ∀ p mu h', (∀ b, mu b → h.size ≤ b) → Rep h' p mu ⟨List.replicate n.toNat (noughts 256), [], 0, 0⟩ → Keep (fun _ => False) h h' → R (some ⟨p, 0, none⟩, 0) h') :
    CallT Try.prog ref5_New_no [.int .i64 n] h [.sc .ptr, .sc (.int .i64)] R := by
  apply ref5_New_call
  unfold InI at hn
  simp only [ref5_New]
  refine withJ.inl (withJ.inl ?_)
  refine cnd_dec (fun h1 => cnd_t rfl (hno (.inl h1))) (fun h1 => ?_)
  refine cnd_of (fun h2 => hno (.inr (by simpa using h2))) (fun h2 => ?_)
  replace h2 : n ≤ 4096 := by simpa using h2
  refine newB_row ?_
  intro h3 s3 r3 k3
  refine blank_spec ?_
  intro h4 k4
  have k4' := k3.trans' k4
  refine LoopT.intro (fun j h' => 0 ≤ j ∧ j ≤ n ∧ ∃ a c, Row h' h.size [.slice a j.toNat c, .slice none 0 0, .int .i64 (-1), .bool false] ∧ SlR h' 1 a j.toNat c ((List.replicate j.toNat (noughts 256)).map .string) ∧ (∀ b, blk a b → h.size < b) ∧ Keep (fun _ => False) h h') (fun j _ => (n - j).toNat)
    ⟨by omega, by omega, none, 0, k4.row r3 (fun h => h), SlR.nil _ _, fun b hb => absurd hb (nob b), k4'⟩ ?_
  rintro j h5 ⟨q1, q2, a, c, q3, q4, q5, q6⟩
  refine cnd_dec (fun hj => ?_) (fun hj => ?_)
  · refine ldL_row q3 rfl ?_
    refine newB_row ?_
    intro h6 s6 r6 k6
    refine ldRow_row r6 (by simp) ?_
    have hlt5 := q3.lt
    refine (q4.keep k6 (fun _ _ h => h)).app rfl (by simp) (by simp [Value.oneCell']) (by omega) ?_
    intro a' c' h7 w1 w2 w3
    have w2' : Keep (blk a) h6 h7 := w2
    refine stC_row (w2.row (k6.row q3 (fun h => h)) (fun hb => by have := q5 _ hb; omega)) (by simp) rfl ?_
    intro h8 s8 r8 k8
    have hblk : ∀ b, blk a' b → h.size < b := by
      intro b hb
      rcases w3 with ⟨rfl, _⟩ | ⟨rfl, _⟩
      · exact q5 b hb
      · rw [blk_some] at hb; simp only at hb; omega
    rw [w64_id (x := j + 1) (by omega) (by omega)]
    have ej : (j + 1).toNat = j.toNat + 1 := by omega
    refine ⟨⟨by omega, by omega, a', c', ?_, ?_, hblk, ?_⟩, by omega⟩
    · rw [ej]; exact r8
    · rw [ej, List.replicate_succ', List.map_append]
      exact w1.keep k8 (fun b hb e => by
        have := hblk b hb
        have e' : b = h.size := e
        omega)
    · refine (q6.trans' k6).trans ((w2.mono (T := fun y => h.size ≤ y) (fun b _ hb => Nat.le_of_lt (q5 b hb))).trans k8 ?_) ?_
      · intro y hy e
        have e' : y = h.size := e
        show h.size ≤ y
        omega
      · intro y hy e
        have e' : h.size ≤ y := e
        omega
  · have : j = n := by omega
    subst this
    refine hyes (by omega) h2 h.size (fun b => b = h.size ∨ blk a b) h5 ?_ ⟨⟨a, c, none, 0, -1, ?_, ?_, SlR.nil _ _, ⟨fun _ => rfl, fun e => by simp at e, .inl rfl, by unfold InI; omega, by simp⟩, .inl rfl, fun b hb => .inr hb, fun b hb => absurd hb (nob b), fun hb => by have := q5 _ hb; omega, nob _, fun b _ => nob b⟩, ?_, fun x hx => (by cases hx), by simp; omega⟩ q6
    · rintro b (rfl | hb)
      · exact Nat.le_refl _
      · have := q5 b hb; omega
    · simpa using q3
    · simpa using q4
    · rintro b (rfl | hb)
      · exact q3.lt
      · exact q4.blk_lt hb

theorem burn_spec {mu : Nat → Prop} {h : Heap} {p : Nat} {m : M} (hr : Rep h p mu m) (ha : m.st ≠ 2) {R : Int → Heap → Prop}
    (hk : ∀ h', Rep h' p mu (burn m).2 → Keep (· = p) h h' → h'.size = h.size → R (burn m).1 h') : CallT Try.prog ref5_Dev_burn_no [.pointer (some ⟨p, 0, none⟩)] h [.sc (.int .i64)] R := by
  apply ref5_Dev_burn_call
  obtain ⟨_, _, ⟨f, rf, c2⟩, c3⟩ := hr.cells
  have rf0 := rf
  obtain ⟨f0, f1, f2, f3, f4⟩ := rf
  unfold InI at f3
  simp only [ref5_Dev_burn, nn_eq, add_mk, Nat.zero_add, withJ]
  refine ldI_at c2 ?_
  by_cases h1 : m.st = 1
  · have hf := f1 h1
    by_cases h2 : m.fuse = 0
    · have e : burn m = (50, { m with st := 2 }) := by unfold burn; rw [if_pos h1, if_pos h2]
      rw [e] at hk
      refine cnd_t (by simp; omega) ?_
      exact hr.setDead (m' := { m with st := 2 }) rfl rfl rfl (fun f hf => ⟨fun e => by simp at e, fun e => by simp at e, .inr (.inr rfl), hf.2.2.2.1, hf.2.2.2.2⟩) hk
    · have e : burn m = (0, { m with fuse := m.fuse - 1 }) := by unfold burn; rw [if_pos h1, if_neg h2]
      rw [e] at hk
      refine cnd_f (by simp; omega) (ldI_at c2 (cnd_pos (by omega) (ldI_at c2 ?_)))
      rw [w64_id (by omega) (by omega)]
      refine hr.setFuse (m' := { m with fuse := m.fuse - 1 }) rfl rfl Iff.rfl ⟨fun e => f0 e |>.symm ▸ by simp only at e; omega, fun _ => by simp only; omega, f2, by unfold InI; omega, by simp only; omega⟩ hk
  · have e : burn m = (0, m) := by unfold burn; rw [if_neg h1]
    rw [e] at hk
    have hf : f = -1 := f0 (by omega)
    refine cnd_f (by simp; omega) (ldI_at c2 (cnd_neg (by omega) ?_))
    exact hk h hr (.refl _ _) rfl

theorem write_spec {mu : Nat → Prop} {h : Heap} {p : Nat} {m : M} (hr : Rep h p mu m) {i : Int} (hi : InI i) {s : ByteArray} (hc : m.c.length ≤ 1000000) {R : Int → Heap → Prop}
    (hk : ∀ mu' h', Rep h' p mu' (write m i s).2 → Keep mu h h' → (∀ b, mu' b → mu b ∨ h.size ≤ b) → R (write m i s).1 h') :
    CallT Try.prog ref5_Dev_Write_no [.pointer (some ⟨p, 0, none⟩), .int .i64 i, .string s] h [.sc (.int .i64)] R := by
  have hcall := ref5_Dev_Write_call (d_0 := some ⟨p, 0, none⟩) (i_1 := i) (b_2 := s) (R := R) (h := h)
  apply hcall
  obtain ⟨⟨la, lc, c0⟩, _, _, c3⟩ := hr.cells
  simp only [ref5_Dev_Write, nn_eq, add_mk, Nat.zero_add]
  refine ldB_at c3 ?_
  unfold write at hk
  by_cases h2 : m.st = 2
  · rw [if_pos h2] at hk
    exact cnd_t (by simp [h2]) (hk mu h hr (.refl _ _) (fun _ h => .inl h))
  · rw [if_neg h2] at hk
    refine cnd_f (by simp [h2]) (withJ.inl (withJ.inl ?_))
    by_cases hbad : i < 0 ∨ (m.l.length : Int) ≤ i ∨ s.size ≠ 256
    · rw [if_pos hbad] at hk
      have fin := hk mu h hr (.refl _ _) (fun _ h => .inl h)
      refine cnd_dec (fun _ => cnd_t rfl fin) (fun h3 => ?_)
      refine ldL_at c0 (cnd_dec (fun _ => cnd_t rfl fin) (fun h4 => ?_))
      exact cnd_t (by simp; omega) fin
    · rw [if_neg hbad] at hk
      refine cnd_neg (by omega) (ldL_at c0 (cnd_neg (by omega) (cnd_f (by simp; omega) ?_)))
      refine burn_spec hr h2 ?_
      intro h3 r3 k3 s3
      by_cases hbz : (burn m).1 ≠ 0
      · rw [if_pos hbz] at hk
        exact cnd_t (by simpa using hbz) (hk mu h3 r3 (k3.mono (fun y _ hy => by
          have : y = p := hy
          rw [this]; exact hr.own)) (fun _ h => .inl h))
      · rw [if_neg hbz] at hk
        refine cnd_f (by simpa using hbz) ?_
        obtain ⟨bl, bc⟩ := burn_l m
        have hown := hr.own
        obtain ⟨⟨a, lcap, ca, cc, f, r1, r2, rw3, rf, g1, g2, g3, g4, g5, g6⟩, lt, bnd, le⟩ := r3
        refine ldL_row r1 rfl ?_
        refine newB_row ?_
        intro h4 s4 row4 k4
        refine ldRow_row row4 (by simp) ?_
        refine (rw3.keep k4 (fun _ _ h => h)).app rfl (by simp) (by simp [Value.oneCell']) (by rw [bc]; omega) ?_
        intro a' c' h5 q1 q2 q3
        refine stC_row (q2.row (k4.row r1 (fun h => h)) g5) (by simp) rfl ?_
        intro h6 s6 row6 k6
        have s5 := q2.size
        have hblk : ∀ b, blk a' b → blk ca b ∨ b = h4.size := by
          intro b hb'
          rcases q3 with ⟨rfl, _⟩ | ⟨rfl, _⟩
          · exact .inl hb'
          · rw [blk_some] at hb'
            exact .inr hb'.symm
        have hlta : ∀ b, mu b → b < h3.size := lt
        have kk : Keep mu h3 h6 := (k4.mono (fun _ _ h => h.elim)).trans ((q2.mono (T := mu) (fun b _ hb' => g3 b hb')).trans k6 (fun b _ hb' => by
          have : b = p := hb'
          rw [this]; exact g1)) (fun _ _ h => h)
        have hl1 : (burn m).1 = 0 := by
          rcases burn_r m with h | h
          · exact h
          · exact absurd h (by omega)
        refine hk (fun b => mu b ∨ blk a' b) h6 ⟨⟨a, lcap, a', c', f, ?_, ?_, ?_, rf, .inl g1, fun b hb => .inl (g2 b hb), fun b hb => .inr hb, g4, ?_, ?_⟩, ?_, ?_, le⟩ ?_ ?_
        · rw [List.length_append, List.length_singleton]
          exact row6
        · exact ((r2.keep k4 (fun _ _ h => h)).keep q2 (fun b hb hb' => g6 b hb hb')).keep k6 (fun b hb e => g4 (by have : b = p := e; rwa [← this]))
        · rw [List.length_append, List.length_singleton, List.flatMap_append]
          have := q1.keep k6 (fun b hb' e => by
            have e' : b = p := e
            rcases hblk b hb' with hc' | hc'
            · exact g5 (e' ▸ hc')
            · have := lt p g1; omega)
          simpa [entS] using this
        · intro hb'
          rcases hblk _ hb' with hc' | hc'
          · exact g5 hc'
          · have := lt p g1; omega
        · intro b hb hb'
          rcases hblk _ hb' with hc' | hc'
          · exact g6 b hb hc'
          · have := lt b (g2 b hb); omega
        · rintro b (hb | hb)
          · have := lt b hb; omega
          · have := q1.blk_lt hb; omega
        · intro y hy
          rcases List.mem_append.1 hy with hy | hy
          · exact bnd y hy
          · simp only [List.mem_singleton] at hy
            subst hy
            rw [bl]
            exact ⟨by simp only; omega, by simp only; omega⟩
        · exact (k3.mono (T := mu) (fun y _ hy => by
            have : y = p := hy
            rw [this]; exact hown)).trans kk (fun _ _ h => h)
        · rintro b (hb | hb)
          · exact .inl hb
          · rcases hblk b hb with hc' | hc'
            · exact .inl (g3 b hc')
            · exact .inr (by omega)

theorem flush_spec {mu : Nat → Prop} {h : Heap} {p : Nat} {m : M} (hr : Rep h p mu m) (hc : m.c.length ≤ 1000000) {R : Int → Heap → Prop}
    (hk : ∀ h', Rep h' p mu (flush m).2 → Keep mu h h' → R (flush m).1 h') :
    CallT Try.prog ref5_Dev_Flush_no [.pointer (some ⟨p, 0, none⟩)] h [.sc (.int .i64)] R := by
  apply ref5_Dev_Flush_call
  obtain ⟨_, _, _, c3⟩ := hr.cells
  simp only [ref5_Dev_Flush, nn_eq, add_mk, Nat.zero_add]
  refine ldB_at c3 ?_
  unfold flush at hk
  by_cases h2 : m.st = 2
  · rw [if_pos h2] at hk
    exact cnd_t (by simp [h2]) (hk h hr (.refl _ _))
  · rw [if_neg h2] at hk
    refine cnd_f (by simp [h2]) ?_
    refine burn_spec hr h2 ?_
    intro h3 r3 k3 s3
    have k3' : Keep mu h h3 := k3.mono (fun y _ hy => by
      have : y = p := hy
      rw [this]; exact hr.own)
    by_cases hbz : (burn m).1 ≠ 0
    · rw [if_pos hbz] at hk
      exact cnd_t (by simpa using hbz) (hk h3 r3 k3')
    · rw [if_neg hbz] at hk
      refine cnd_f (by simpa using hbz) ?_
      obtain ⟨bl, bc⟩ := burn_l m
      refine LoopT.intro (fun j h' => 0 ≤ j ∧ j ≤ m.c.length ∧ Rep h' p mu { (burn m).2 with l := lays m.l (m.c.take j.toNat) } ∧ Keep mu h3 h') (fun j _ => (m.c.length - j).toNat) ⟨by omega, by omega, ?_, .refl _ _⟩ ?_
      · rw [show (0 : Int).toNat = 0 from rfl, List.take_zero]
        have : ({ (burn m).2 with l := lays m.l [] } : M) = (burn m).2 := by
          show ({ (burn m).2 with l := m.l } : M) = _
          rw [← bl]
        rw [this]; exact r3
      · rintro j h4 ⟨q1, q2, q3, q4⟩
        obtain ⟨⟨la, lc, c0⟩, ⟨ca, cc, c1⟩, _⟩ := q3.cells
        simp only [bc] at c1
        refine ldL_at c1 ?_
        refine cnd_dec (fun hj => ?_) (fun hj => ?_)
        · refine ldL_at c0 ?_
          have hjl : j.toNat < m.c.length := by omega
          have he : ent { (burn m).2 with l := lays m.l (m.c.take j.toNat) } j = m.c[j.toNat] := by
            unfold ent
            simp only [bc]
            rw [List.getD_eq_getElem?_getD, List.getElem?_eq_getElem hjl]; rfl
          have hb := q3.bnd m.c[j.toNat] (by simp only [bc]; exact List.getElem_mem hjl)
          refine ent_ld q3 q1 (by simp only [bc]; exact hj) ?_
          intro x hsp e1 e2
          rw [he] at e1
          refine ldI_at e1 ?_
          refine ent_ld q3 q1 (by simp only [bc]; exact hj) ?_
          intro x' hsp' e1' e2'
          rw [he] at e2'
          refine ldS_at e2' ?_
          refine lay_wr q3 hb.1 hb.2 c0 ?_
          intro h5 r5 k5 s5
          rw [w64_id (x := j + 1) (by omega) (by omega)]
          refine ⟨⟨by omega, by omega, ?_, q4.trans' k5⟩, by omega⟩
          have : m.c.take (j + 1).toNat = m.c.take j.toNat ++ [m.c[j.toNat]] := by
            rw [show (j + 1).toNat = j.toNat + 1 by omega, List.take_add_one, List.getElem?_eq_getElem hjl]; rfl
          rw [this, lays_snoc]
          exact r5
        · have hjl : j = m.c.length := by omega
          subst hjl
          rw [Int.toNat_natCast, List.take_length] at q3
          refine q3.noCache ?_
          intro h5 r5 k5 s5
          refine hk h5 r5 ((k3'.trans' q4).trans' (k5.mono (fun y _ hy => by
            have : y = p := hy
            rw [this]; exact hr.own)))

theorem crash_spec {mu : Nat → Prop} {h : Heap} {p : Nat} {m : M} (hr : Rep h p mu m) (hc : m.c.length ≤ 1000000) {a : Option Addr} {l c : Nat} {ks : List Bool} (hks : BoolsIs h a l ks) (hfar : 0 < l → ∀ b, blk a b → ¬ mu b) {R : Unit → Heap → Prop}
    (hk : ∀ h', Rep h' p mu (crash m ks) → Keep mu h h' → R () h') :
    CallT Try.prog ref5_Dev_Crash_no [.pointer (some ⟨p, 0, none⟩), .slice a l c] h [] R := by
  have hcall := ref5_Dev_Crash_call (d_0 := some ⟨p, 0, none⟩) (keep_1 := ⟨a, l, c⟩) (R := R) (h := h)
  apply hcall
  simp only [ref5_Dev_Crash, nn_eq, add_mk, Nat.zero_add]
  have keepp : ∀ {h1 h2 : Heap}, Keep (· = p) h1 h2 → Keep mu h1 h2 := fun k => k.mono (fun y _ hy => by
    have : y = p := hy
    rw [this]; exact hr.own)
  refine LoopT.intro (fun j h' => 0 ≤ j ∧ j ≤ m.c.length ∧ Rep h' p mu { m with l := lays m.l (kept (m.c.take j.toNat) ks) } ∧ Keep mu h h') (fun j _ => (m.c.length - j).toNat) ⟨by omega, by omega, ?_, .refl _ _⟩ ?_
  · rw [show (0 : Int).toNat = 0 from rfl, List.take_zero]
    have : ({ m with l := lays m.l (kept [] ks) } : M) = m := by
      cases ks <;> rfl
    rw [this]; exact hr
  · rintro j h4 ⟨q1, q2, q3, q4⟩
    obtain ⟨⟨la, lc, c0⟩, ⟨ca, cc, c1⟩, _⟩ := q3.cells
    simp only at c1
    refine ldL_at c1 ?_
    refine cnd_dec (fun hj => ?_) (fun hj => ?_)
    · refine withJ.inl ?_
      have hjl : j.toNat < m.c.length := by omega
      have he : ent { m with l := lays m.l (kept (m.c.take j.toNat) ks) } j = m.c[j.toNat] := by
        unfold ent
        rw [List.getD_eq_getElem?_getD, List.getElem?_eq_getElem hjl]; rfl
      have ks5 := hks.keep q4 hfar
      have stp : m.c.take (j + 1).toNat = m.c.take (j.toNat + 1) := by rw [show (j + 1).toNat = j.toNat + 1 by omega]
      have hw : w64 (j + 1) = j + 1 := w64_id (by omega) (by omega)
      have hb := q3.bnd m.c[j.toNat] (List.getElem_mem hjl)
      refine withJ.intro (fun s h' => h' = h4 ∧ s = ks.getD j.toNat false) ?_ ?_
      · rintro s h' ⟨rfl, hs⟩
        cases s
        · refine cnd_f rfl ?_
          show (0 ≤ w64 (j + 1) ∧ _) ∧ _
          rw [hw]
          refine ⟨⟨by omega, by omega, ?_, q4⟩, by omega⟩
          rw [stp, kept_succ _ _ _ hjl, ← hs]
          simpa using q3
        · refine cnd_t rfl ?_
          refine ldL_at c0 ?_
          refine ent_ld q3 q1 hj ?_
          intro x hsp e1 e2
          rw [he] at e1
          refine ldI_at e1 ?_
          refine ent_ld q3 q1 hj ?_
          intro x' hsp' e1' e2'
          rw [he] at e2'
          refine ldS_at e2' ?_
          refine lay_wr q3 hb.1 hb.2 c0 ?_
          intro h5 r5 k5 s5
          show (0 ≤ w64 (j + 1) ∧ _) ∧ _
          rw [hw]
          refine ⟨⟨by omega, by omega, ?_, q4.trans' k5⟩, by omega⟩
          rw [stp, kept_succ _ _ _ hjl, ← hs]
          rw [if_pos rfl, lays_snoc]
          exact r5
      · intro J hJ
        refine cnd_dec (fun hjk => ?_) (fun hjk => ?_)
        · obtain ⟨x, hx, hcell⟩ := ks5.2 j.toNat (by have : j < (l : Int) := hjk; omega)
          show idx a l j _
          rw [hx]
          refine idx_some q1 hjk (ldB_at hcell ?_)
          exact hJ _ _ ⟨rfl, rfl⟩
        · refine hJ _ _ ⟨rfl, ?_⟩
          have hlk : ks.length ≤ j.toNat := by
            have : ¬ j < (l : Int) := hjk
            have := hks.1
            omega
          rw [List.getD_eq_getElem?_getD, List.getElem?_eq_none hlk]; rfl
    · have hjl : j = m.c.length := by omega
      subst hjl
      rw [Int.toNat_natCast, List.take_length] at q3
      refine q3.noCache ?_
      intro h5 r5 k5 s5
      refine r5.revive rfl ?_
      intro h7 r7 k7 s7
      exact hk h7 r7 (q4.trans' ((keepp k5).trans' (keepp k7)))

theorem read_spec {mu : Nat → Prop} {h : Heap} {p : Nat} {m : M} (hr : Rep h p mu m) (hc : m.c.length ≤ 1000000) {i : Int} {R : ByteArray × Int → Heap → Prop}
    (hbad : readErr m i ≠ 0 → R (⟨#[]⟩, readErr m i) h) (hk : readErr m i = 0 → R (readAt m i, 0) h) :
    CallT Try.prog ref5_Dev_Read_no [.pointer (some ⟨p, 0, none⟩), .int .i64 i] h [.sc .str, .sc (.int .i64)] R := by
  apply ref5_Dev_Read_call
  obtain ⟨⟨la, lc, c0⟩, ⟨ca, cc, c1⟩, _, c3⟩ := hr.cells
  simp only [ref5_Dev_Read, nn_eq, add_mk, Nat.zero_add]
  refine ldB_at c3 ?_
  unfold readErr at hbad hk
  by_cases h2 : m.st = 2
  · rw [if_pos h2] at hbad
    exact cnd_t (by simp [h2]) (hbad (by decide))
  · rw [if_neg h2] at hbad hk
    refine cnd_f (by simp [h2]) (withJ.inl (withJ.inl ?_))
    by_cases hb : i < 0 ∨ (m.l.length : Int) ≤ i
    · rw [if_pos hb] at hbad
      have fin := hbad (by decide)
      refine cnd_dec (fun _ => cnd_t rfl fin) (fun h3 => ldL_at c0 (cnd_t ?_ fin))
      simp only [decide_eq_true_eq]; omega
    · rw [if_neg hb] at hk
      have hk := hk rfl
      refine cnd_neg (by omega) (ldL_at c0 (cnd_neg (by omega) (ldL_at c0 ?_)))
      have hr0 := hr
      obtain ⟨⟨a, lcap, ca', cc', f, r1, r2, rw3, rf, g1, g2, g3, g4, g5, g6⟩, lt, bnd, le⟩ := hr
      have hcell : cellH h ⟨p, 0, none⟩ = some (.slice a m.l.length lcap) := by rw [r1.cells]; rfl
      rw [c0] at hcell
      injection hcell with hcell
      injection hcell with w1 w2 w3
      subst w1 w3
      refine r2.idx (by omega) (by omega) fun x hx hsp => ?_
      subst hx
      have hil : i.toNat < m.l.length := by omega
      refine ldS_at (n := m.l.getD i.toNat (noughts 256)) (by rw [Nat.mul_one, r2.cell (by omega), List.getElem?_map, List.getElem?_eq_getElem hil, List.getD_eq_getElem?_getD, List.getElem?_eq_getElem hil]; rfl) ?_
      refine LoopT.intro (fun s h' => 0 ≤ s.2 ∧ s.2 ≤ m.c.length ∧ s.1 = ((m.c.take s.2.toNat).foldl (fun s x => if x.1 = i then x.2 else s) (m.l.getD i.toNat (noughts 256))) ∧ h' = h) (fun s _ => (m.c.length - s.2).toNat) ⟨by simp, by simp, rfl, rfl⟩ ?_
      rintro ⟨s, j⟩ h5 ⟨q1, q2, q3, rfl⟩
      replace q1 : 0 ≤ j := q1
      replace q2 : j ≤ m.c.length := q2
      replace q3 : s = (m.c.take j.toNat).foldl (fun s x => if x.1 = i then x.2 else s) (m.l.getD i.toNat (noughts 256)) := q3
      refine ldL_at c1 ?_
      refine cnd_dec (fun hj => ?_) (fun hj => ?_)
      · replace hj : j < m.c.length := hj
        have hjl : j.toNat < m.c.length := by omega
        have he : ent m j = m.c[j.toNat] := by
          unfold ent
          rw [List.getD_eq_getElem?_getD, List.getElem?_eq_getElem hjl]; rfl
        have stp : m.c.take (j + 1).toNat = m.c.take j.toNat ++ [m.c[j.toNat]] := by
          rw [show (j + 1).toNat = j.toNat + 1 by omega, List.take_add_one, List.getElem?_eq_getElem hjl]; rfl
        have hw : w64 (j + 1) = j + 1 := w64_id (by omega) (by omega)
        refine withJ.inl ?_
        refine ent_ld hr0 q1 hj ?_
        intro x' hsp e1 e2
        rw [he] at e1
        refine ldI_at e1 ?_
        by_cases hji : m.c[j.toNat].1 = i
        · refine cnd_t (by simp [hji]) ?_
          refine ent_ld hr0 q1 hj ?_
          intro x'' hsp' e1' e2'
          rw [he] at e2'
          refine ldS_at e2' ?_
          show (0 ≤ w64 (j + 1) ∧ w64 (j + 1) ≤ m.c.length ∧ _ = List.foldl _ _ (List.take (w64 (j + 1)).toNat m.c) ∧ _) ∧ (m.c.length - w64 (j + 1)).toNat < (m.c.length - j).toNat
          rw [hw, stp, List.foldl_append]
          exact ⟨⟨by omega, by omega, by simp [hji], rfl⟩, by omega⟩
        · refine cnd_f (by simp [hji]) ?_
          show (0 ≤ w64 (j + 1) ∧ w64 (j + 1) ≤ m.c.length ∧ _ = List.foldl _ _ (List.take (w64 (j + 1)).toNat m.c) ∧ _) ∧ (m.c.length - w64 (j + 1)).toNat < (m.c.length - j).toNat
          rw [hw, stp, List.foldl_append]
          exact ⟨⟨by omega, by omega, by simp [hji, q3], rfl⟩, by omega⟩
      · have hjl : j = m.c.length := by
          have : ¬ j < m.c.length := hj
          omega
        subst hjl
        rw [Int.toNat_natCast, List.take_length] at q3
        rw [q3]
        exact hk

end Ref5
end Go.Proofs.Ytmkobpkdodgboaa
