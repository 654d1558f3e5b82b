/- Contracts of package disk: a device as lists of sectors. -/
import Derived.Test.YtmkobpkdodgboaaGDisk
import Derived.Test.YtmkobpkdodgboaaXBytes
import Derived.Test.YtmkobpkdodgboaaPArgs
namespace Go.Proofs.Ytmkobpkdodgboaa
open Go D
set_option linter.unusedVariables false
set_option linter.unusedSimpArgs false
namespace Disk

/-- a device: what lasts, what waits, its state (0 alive, 1 burning, 2 dead), its fuse -/
structure M where
  l : List ByteArray
  c : List (Int × ByteArray)
  st : Int
  fuse : Int

/-- a value that holds a sector -/
def Sec (h : Heap) (im : Nat → Prop) (v : Value) (s : ByteArray) : Prop :=
  s.size = 256 ∧ ((v = .slice none 0 0 ∧ s = noughts 256) ∨ ∃ b c, v = .slice (some ⟨b, 0, none⟩) 256 c ∧ im b ∧ Bs h (some ⟨b, 0, none⟩) 256 c s)

theorem Sec.keep {S im : Nat → Prop} {h h' : Heap} {v : Value} {s : ByteArray} (hs : Sec h im v s) (hk : Keep S h h') (hn : ∀ b, im b → ¬ S b) : Sec h' im v s := by
  obtain ⟨h1, h2 | ⟨b, c, h2, h3, h4⟩⟩ := hs
  · exact ⟨h1, .inl h2⟩
  · exact ⟨h1, .inr ⟨b, c, h2, h3, h4.keep hk (fun b' hb => by rw [blk_some] at hb; subst hb; exact hn _ h3)⟩⟩
theorem Sec.mono {im im' : Nat → Prop} {h : Heap} {v : Value} {s : ByteArray} (hs : Sec h im v s) (hi : ∀ b, im b → im' b) : Sec h im' v s := by
  obtain ⟨h1, h2 | ⟨b, c, h2, h3, h4⟩⟩ := hs
  · exact ⟨h1, .inl h2⟩
  · exact ⟨h1, .inr ⟨b, c, h2, hi _ h3, h4⟩⟩

def entV (x : Int × Value × ByteArray) : List Value := [.int .i64 x.1, x.2.1]

/-- a device at block p; the blocks that it writes to; the blocks of its sectors -/
structure Rep (h : Heap) (p : Nat) (mu im : Nat → Prop) (m : M) : Prop where
  ex : ∃ (ql lc : Nat) (secs : List (Value × ByteArray)) (ca : Option Addr) (cc : Nat) (cv : List (Int × Value × ByteArray)),
    m.l = secs.map (·.2) ∧ m.c = cv.map (fun x => (x.1, x.2.2)) ∧
    Row h p [.slice (some ⟨ql, 0, none⟩) secs.length lc, .slice ca cv.length cc, .int .i64 m.st, .int .i64 m.fuse] ∧
    SlR h 1 (some ⟨ql, 0, none⟩) secs.length lc (secs.map (·.1)) ∧ SlR h 2 ca cv.length cc (cv.flatMap entV) ∧
    (∀ x ∈ secs, Sec h im x.1 x.2) ∧ (∀ x ∈ cv, 0 ≤ x.1 ∧ x.1 < (secs.length : Int) ∧ Sec h im x.2.1 x.2.2 ∧ x.2.1 ≠ .slice none 0 0) ∧
    mu p ∧ mu ql ∧ (∀ b, blk ca b → mu b) ∧ p ≠ ql ∧ ¬ blk ca p ∧ ¬ blk ca ql
  dis : ∀ b, mu b → ¬ im b
  lt : ∀ b, mu b ∨ im b → b < h.size
  le : m.l.length ≤ 4096
  fz : 0 ≤ m.fuse ∧ m.fuse ≤ 9223372036854775807

theorem Rep.keep {S mu im : Nat → Prop} {h h' : Heap} {p : Nat} {m : M} (hr : Rep h p mu im m) (hk : Keep S h h') (hm : ∀ b, mu b → ¬ S b) (hi : ∀ b, im b → ¬ S b) : Rep h' p mu im m := by
  obtain ⟨⟨ql, lc, secs, ca, cc, cv, e1, e2, r1, r2, r3, g1, g2, g3, g4, g5, g6⟩, d, lt, le, fz⟩ := hr
  refine ⟨⟨ql, lc, secs, ca, cc, cv, e1, e2, hk.row r1 (hm _ g3), r2.keep hk (fun b hb => by rw [blk_some] at hb; subst hb; exact hm _ g4), r3.keep hk (fun b hb => hm _ (g5 b hb)),
    fun x hx => (g1 x hx).keep hk hi, fun x hx => ?_, g3, g4, g5, g6⟩, d, fun b hb => Nat.lt_of_lt_of_le (lt b hb) hk.size, le, fz⟩
  obtain ⟨w1, w2, w3, w4⟩ := g2 x hx
  exact ⟨w1, w2, w3.keep hk hi, w4⟩

theorem Rep.own {mu im : Nat → Prop} {h : Heap} {p : Nat} {m : M} (hr : Rep h p mu im m) : mu p := by
  obtain ⟨⟨ql, lc, secs, ca, cc, cv, e1, e2, r1, r2, r3, g1, g2, g3, _⟩, _⟩ := hr
  exact g3

/-- the device's own four cells -/
theorem Rep.cells {mu im : Nat → Prop} {h : Heap} {p : Nat} {m : M} (hr : Rep h p mu im m) :
    (∃ a c, cellH h ⟨p, 0, none⟩ = some (.slice a m.l.length c)) ∧ (∃ a c, cellH h ⟨p, 1, none⟩ = some (.slice a m.c.length c)) ∧ cellH h ⟨p, 2, none⟩ = some (.int .i64 m.st) ∧ cellH h ⟨p, 3, none⟩ = some (.int .i64 m.fuse) := by
  obtain ⟨⟨ql, lc, secs, ca, cc, cv, e1, e2, r1, _⟩, _⟩ := hr
  refine ⟨⟨_, _, by rw [r1.cells, e1, List.length_map]; rfl⟩, ⟨_, _, by rw [r1.cells, e2, List.length_map]; rfl⟩, by rw [r1.cells]; rfl, by rw [r1.cells]; rfl⟩

theorem Rep.setSt {mu im : Nat → Prop} {h : Heap} {p : Nat} {m : M} (hr : Rep h p mu im m) {n : Int} {K : Heap → Prop}
    (hk : ∀ h', Rep h' p mu im { m with st := n } → Keep (· = p) h h' → h'.size = h.size → K h') : stC ⟨p, 2, none⟩ (.int .i64 n) h K := by
  obtain ⟨⟨ql, lc, secs, ca, cc, cv, e1, e2, r1, r2, r3, g1, g2, g3, g4, g5, g6, g7, g8⟩, d, lt, le, fz⟩ := hr
  refine stC_row r1 (by simp) rfl ?_
  intro h' s1 row k1
  have hi : ∀ b, im b → ¬ (b = p) := fun b hb e => d p g3 (e ▸ hb)
  refine hk h' ⟨⟨ql, lc, secs, ca, cc, cv, e1, e2, row, r2.keep k1 (fun b hb => by rw [blk_some] at hb; subst hb; exact fun e => g6 e.symm), r3.keep k1 (fun b hb e => g7 (e ▸ hb)),
    fun x hx => (g1 x hx).keep k1 hi, fun x hx => ?_, g3, g4, g5, g6, g7, g8⟩, d, fun b hb => by rw [s1]; exact lt b hb, le, fz⟩ k1 s1
  obtain ⟨w1, w2, w3, w4⟩ := g2 x hx
  exact ⟨w1, w2, w3.keep k1 hi, w4⟩

theorem Rep.setFuse {mu im : Nat → Prop} {h : Heap} {p : Nat} {m : M} (hr : Rep h p mu im m) {n : Int} (hn : 0 ≤ n ∧ n ≤ 9223372036854775807) {K : Heap → Prop}
    (hk : ∀ h', Rep h' p mu im { m with fuse := n } → Keep (· = p) h h' → h'.size = h.size → K h') : stC ⟨p, 3, none⟩ (.int .i64 n) h K := by
  obtain ⟨⟨ql, lc, secs, ca, cc, cv, e1, e2, r1, r2, r3, g1, g2, g3, g4, g5, g6, g7, g8⟩, d, lt, le, fz⟩ := hr
  refine stC_row r1 (by simp) rfl ?_
  intro h' s1 row k1
  have hi : ∀ b, im b → ¬ (b = p) := fun b hb e => d p g3 (e ▸ hb)
  refine hk h' ⟨⟨ql, lc, secs, ca, cc, cv, e1, e2, row, r2.keep k1 (fun b hb => by rw [blk_some] at hb; subst hb; exact fun e => g6 e.symm), r3.keep k1 (fun b hb e => g7 (e ▸ hb)),
    fun x hx => (g1 x hx).keep k1 hi, fun x hx => ?_, g3, g4, g5, g6, g7, g8⟩, d, fun b hb => by rw [s1]; exact lt b hb, le, hn⟩ k1 s1
  obtain ⟨w1, w2, w3, w4⟩ := g2 x hx
  exact ⟨w1, w2, w3.keep k1 hi, w4⟩

/-- the cache is dropped -/
theorem Rep.noCache {mu im : Nat → Prop} {h : Heap} {p : Nat} {m : M} (hr : Rep h p mu im m) {K : Heap → Prop}
    (hk : ∀ h', Rep h' p mu im { m with c := [] } → Keep (· = p) h h' → h'.size = h.size → K h') : stC ⟨p, 1, none⟩ (.slice none 0 0) h K := by
  obtain ⟨⟨ql, lc, secs, ca, cc, cv, e1, e2, r1, r2, r3, g1, g2, g3, g4, g5, g6, g7, g8⟩, d, lt, le, fz⟩ := hr
  refine stC_row r1 (by simp) rfl ?_
  intro h' s1 row k1
  have hi : ∀ b, im b → ¬ (b = p) := fun b hb e => d p g3 (e ▸ hb)
  have nob : ∀ b, ¬ blk none b := fun b hb => by obtain ⟨x, hx, _⟩ := hb; cases hx
  exact hk h' ⟨⟨ql, lc, secs, none, 0, [], e1, rfl, row, r2.keep k1 (fun b hb => by rw [blk_some] at hb; subst hb; exact fun e => g6 e.symm), SlR.nil _ _,
    fun x hx => (g1 x hx).keep k1 hi, fun x hx => (by cases hx), g3, g4, fun b hb => absurd hb (nob b), g6, nob _, nob _⟩, d, fun b hb => by rw [s1]; exact lt b hb, le, fz⟩ k1 s1

def burn (m : M) : Int × M := if m.st = 1 then (if m.fuse = 0 then (50, { m with st := 2 }) else (0, { m with fuse := m.fuse - 1 })) else (0, m)

theorem burn_spec {mu im : Nat → Prop} {h : Heap} {p : Nat} {m : M} (hr : Rep h p mu im m) {R : Int → Heap → Prop}
    (hk : ∀ h', Rep h' p mu im (burn m).2 → Keep (· = p) h h' → h'.size = h.size → R (burn m).1 h') : CallT Try.prog disk_Dev_burn_no [.pointer (some ⟨p, 0, none⟩)] h [.sc (.int .i64)] R := by
  apply disk_Dev_burn_call
  obtain ⟨_, _, c2, c3⟩ := hr.cells
  have fz := hr.fz
  simp only [disk_Dev_burn, nn_eq, add_mk, Nat.zero_add, withJ]
  refine ldI_at c2 ?_
  by_cases h1 : m.st = 1
  · refine cnd_t (by simp [h1]) (ldI_at c3 ?_)
    by_cases h2 : m.fuse = 0
    · refine cnd_t (by simp [h2]) ?_
      refine hr.setSt ?_
      intro h' w1 w2 w3
      have e : burn m = (50, { m with st := 2 }) := by unfold burn; rw [if_pos h1, if_pos h2]
      rw [e] at hk
      exact hk h' w1 w2 w3
    · refine cnd_f (by simp [h2]) (ldI_at c2 (cnd_t (by simp [h1]) (ldI_at c3 ?_)))
      rw [w64_id (by omega) (by omega)]
      refine hr.setFuse (by omega) ?_
      intro h' w1 w2 w3
      have e : burn m = (0, { m with fuse := m.fuse - 1 }) := by unfold burn; rw [if_pos h1, if_neg h2]
      rw [e] at hk
      exact hk h' w1 w2 w3
  · have e : burn m = (0, m) := by unfold burn; rw [if_neg h1]
    rw [e] at hk
    refine cnd_f (by simp [h1]) (cnd_f rfl (ldI_at c2 (cnd_f (by simp [h1]) ?_)))
    exact hk h hr (.refl _ _) rfl

theorem pending_spec {mu im : Nat → Prop} {h : Heap} {p : Nat} {m : M} (hr : Rep h p mu im m) {R : Int → Heap → Prop} (hk : R (m.c.length : Int) h) : CallT Try.prog disk_Dev_Pending_no [.pointer (some ⟨p, 0, none⟩)] h [.sc (.int .i64)] R := by
  apply disk_Dev_Pending_call
  obtain ⟨_, ⟨a, c, c1⟩, _⟩ := hr.cells
  exact ldL_at c1 hk
theorem size_spec {mu im : Nat → Prop} {h : Heap} {p : Nat} {m : M} (hr : Rep h p mu im m) {R : Int → Heap → Prop} (hk : R (m.l.length : Int) h) : CallT Try.prog disk_Dev_Size_no [.pointer (some ⟨p, 0, none⟩)] h [.sc (.int .i64)] R := by
  apply disk_Dev_Size_call
  obtain ⟨⟨a, c, c0⟩, _⟩ := hr.cells
  exact ldL_at c0 hk
theorem dead_spec {mu im : Nat → Prop} {h : Heap} {p : Nat} {m : M} (hr : Rep h p mu im m) {R : Bool → Heap → Prop} (hk : R (m.st == 2) h) : CallT Try.prog disk_Dev_Dead_no [.pointer (some ⟨p, 0, none⟩)] h [.sc .bool] R := by
  apply disk_Dev_Dead_call
  obtain ⟨_, _, c2, _⟩ := hr.cells
  exact ldI_at c2 hk

def fuse (m : M) (k : Int) : M := if m.st = 2 then m else if k < 0 then { m with st := 0 } else { m with st := 1, fuse := k }

theorem fuse_spec {mu im : Nat → Prop} {h : Heap} {p : Nat} {m : M} (hr : Rep h p mu im m) {k : Int} (hki : InI k) {R : Unit → Heap → Prop}
    (hk : ∀ h', Rep h' p mu im (fuse m k) → Keep (· = p) h h' → h'.size = h.size → R () h') : CallT Try.prog disk_Dev_Fuse_no [.pointer (some ⟨p, 0, none⟩), .int .i64 k] h [] R := by
  apply disk_Dev_Fuse_call
  obtain ⟨_, _, c2, _⟩ := hr.cells
  simp only [disk_Dev_Fuse, nn_eq, add_mk, Nat.zero_add]
  refine ldI_at c2 ?_
  unfold fuse at hk
  by_cases h2 : m.st = 2
  · rw [if_pos h2] at hk
    exact cnd_t (by simp [h2]) (hk h hr (.refl _ _) rfl)
  · rw [if_neg h2] at hk
    refine cnd_f (by simp [h2]) (cnd_dec (fun h3 => ?_) (fun h3 => ?_))
    · rw [if_pos h3] at hk
      exact hr.setSt hk
    · rw [if_neg h3] at hk
      refine hr.setSt ?_
      intro h1 w1 w2 w3
      refine w1.setFuse ⟨by omega, hki.2⟩ ?_
      intro h' v1 v2 v3
      exact hk h' v1 (w2.trans' v2) (by omega)

theorem cloneB_spec {h : Heap} {a : Option Addr} {l c : Nat} {s : ByteArray} {x : Addr} (ha : a = some x) (hs : Bs h a l c s) (hl : l ≤ 1000000000) {R : Sl → Heap → Prop}
    (hk : ∀ c' b h', h.size ≤ b → b < h'.size → Bs h' (some ⟨b, 0, none⟩) l c' s → Keep (fun _ => False) h h' → R ⟨some ⟨b, 0, none⟩, l, c'⟩ h') :
    CallT Try.prog slices_Clone_byte_no [.slice a l c] h [.sc .sl] R := by
  have hx := slices_Clone_byte_call (s_0 := ⟨a, l, c⟩) (R := R) (h := h)
  apply hx
  simp only [slices_Clone_byte]
  refine cnd_f (by rw [ha]; rfl) ?_
  refine newB_row ?_
  intro h1 s1 r1 k1
  have hs1 := hs.keep k1 (fun _ _ h => h)
  refine SlR.rd hs1 ?_
  have e0 : SlR h1 1 (some ⟨h.size, 0, none⟩) 0 0 [] := .inr ⟨h.size, 0, _, rfl, r1, by simp, by simp, by simp, by simp⟩
  refine e0.app rfl (by rw [SlR.len hs]) (bytesV_one s) (by omega) ?_
  intro a' c' h2 q1 q2 q3
  rw [Nat.zero_add, List.nil_append] at q1
  rw [Nat.zero_add]
  have hk2 : Keep (fun _ => False) h h2 := k1.trans q2 (fun y hy hb => by rw [blk_some] at hb; simp only at hb; omega)
  rcases q3 with ⟨rfl, e⟩ | ⟨rfl, e⟩
  · exact hk c' h.size h2 (Nat.le_refl _) (by omega) q1 hk2
  · exact hk c' h1.size h2 (by omega) (by omega) q1 hk2

theorem new_spec {h : Heap} {n : Int} (hn : InI n) {R : (Option Addr) × Int → Heap → Prop} (hno : (n < 1 ∨ 4096 < n) → R (none, 1) h)
    (hyes : 1 ≤ n → n ≤ 4096 → ∀ p mu im h', (∀ b, mu b ∨ im b → h.size ≤ b) → Rep h' p mu im ⟨List.replicate n.toNat (noughts 256), [], 0, 0⟩ → Keep (fun _ => False) h h' → R (some ⟨p, 0, none⟩, 0) h') :
    CallT Try.prog disk_New_no [.int .i64 n] h [.sc .ptr, .sc (.int .i64)] R := by
  apply disk_New_call
  unfold InI at hn
  simp only [disk_New, withJ]
  refine cnd_dec (fun h1 => hno (.inl h1)) (fun h1 => ?_)
  refine cnd_dec (fun h2 => hno (.inr (by omega))) (fun h2 => ?_)
  refine mkSl_row (by omega) (by omega) (by omega) (by omega) ?_
  intro h1 s1 r1 k1
  rw [zerosL_one] at r1
  refine newB_row ?_
  intro h2 s2 r2 k2
  have nob : ∀ b, ¬ blk none b := fun b hb => by obtain ⟨x, hx, _⟩ := hb; cases hx
  refine hyes (by omega) (by omega) h1.size (fun b => b = h1.size ∨ b = h.size) (fun _ => False) h2 (fun b hb => by rcases hb with (hb | hb) | hb; omega; omega; exact hb.elim) ?_ (k1.trans' k2)
  refine ⟨⟨h.size, n.toNat, List.replicate n.toNat (.slice none 0 0, noughts 256), none, 0, [], by simp, rfl, ?_, ?_, SlR.nil _ _, ?_, fun x hx => (by cases hx), .inl rfl, .inr rfl, fun b hb => absurd hb (nob b), by omega, nob _, nob _⟩,
    fun _ _ h => h, fun b hb => by rcases hb with (hb | hb) | hb; omega; omega; exact hb.elim, by simp; omega, by simp⟩
  · simpa using r2
  · refine .inr ⟨h.size, 0, _, rfl, k2.row r1 (fun h => h), by simp, by simp, by simp, by simp⟩
  · intro x hx
    have := List.eq_of_mem_replicate hx
    subst this
    exact ⟨noughts_size 256, .inl ⟨rfl, rfl⟩⟩

def write (m : M) (i : Int) (s : ByteArray) : Int × M :=
  if m.st = 2 then (50, m) else if i < 0 ∨ (m.l.length : Int) ≤ i ∨ s.size ≠ 256 then (1, m) else if (burn m).1 ≠ 0 then burn m else (0, { (burn m).2 with c := (burn m).2.c ++ [(i, s)] })

theorem burn_l (m : M) : (burn m).2.l = m.l ∧ (burn m).2.c = m.c := by
  unfold burn
  split
  · split <;> exact ⟨rfl, rfl⟩
  · exact ⟨rfl, rfl⟩

theorem burn_r (m : M) : (burn m).1 = 0 ∨ (burn m).1 = 50 := by
  unfold burn
  split
  · split
    · exact .inr rfl
    · exact .inl rfl
  · exact .inl rfl

/-- a device that went on: its blocks are old ones of its own or new -/
def Grew (h : Heap) (mu im mu' im' : Nat → Prop) : Prop := (∀ b, mu' b → mu b ∨ h.size ≤ b) ∧ (∀ b, im' b → im b ∨ h.size ≤ b)

theorem Grew.same (h : Heap) (mu im : Nat → Prop) : Grew h mu im mu im := ⟨fun _ h => .inl h, fun _ h => .inl h⟩

theorem write_spec {mu im : Nat → Prop} {h : Heap} {p : Nat} {m : M} (hr : Rep h p mu im m) {i : Int} (hi : InI i) {a : Option Addr} {l c : Nat} {s : ByteArray} (hb : Bs h a l c s) (hs : s.size ≤ 1000000000) (hc : m.c.length ≤ 1000000)
    (hfar : ∀ b, blk a b → ¬ mu b) {R : Int → Heap → Prop}
    (hk : ∀ mu' im' h', Rep h' p mu' im' (write m i s).2 → Keep mu h h' → Grew h mu im mu' im' → R (write m i s).1 h') :
    CallT Try.prog disk_Dev_Write_no [.pointer (some ⟨p, 0, none⟩), .int .i64 i, .slice a l c] h [.sc (.int .i64)] R := by
  have hcall := disk_Dev_Write_call (d_0 := some ⟨p, 0, none⟩) (i_1 := i) (b_2 := ⟨a, l, c⟩) (R := R) (h := h)
  apply hcall
  obtain ⟨⟨la, lc, c0⟩, _, c2, _⟩ := hr.cells
  have hlen := hb.len
  simp only [disk_Dev_Write, nn_eq, add_mk, Nat.zero_add, withJ]
  refine ldI_at c2 ?_
  unfold write at hk
  by_cases h2 : m.st = 2
  · rw [if_pos h2] at hk
    exact cnd_t (by simp [h2]) (hk mu im h hr (.refl _ _) (.same _ _ _))
  · rw [if_neg h2] at hk
    refine cnd_f (by simp [h2]) ?_
    by_cases hbad : i < 0 ∨ (m.l.length : Int) ≤ i ∨ s.size ≠ 256
    · rw [if_pos hbad] at hk
      have fin := hk mu im h hr (.refl _ _) (.same _ _ _)
      refine cnd_dec (fun _ => fin) (fun h3 => ?_)
      refine ldL_at c0 (cnd_dec (fun _ => fin) (fun h4 => ?_))
      exact cnd_t (by simp; omega) fin
    · rw [if_neg hbad] at hk
      refine cnd_neg (by omega) (ldL_at c0 (cnd_neg (by omega) (cnd_f (by simp; omega) ?_)))
      refine burn_spec hr ?_
      intro h3 r3 k3 s3
      by_cases hbz : (burn m).1 ≠ 0
      · rw [if_pos hbz] at hk
        exact cnd_t (by simpa using hbz) (hk mu im h3 r3 (k3.mono (fun y _ hy => by subst hy; exact hr.own)) (.same _ _ _))
      · rw [if_neg hbz] at hk
        refine cnd_f (by simpa using hbz) ?_
        obtain ⟨bl, bc⟩ := burn_l m
        obtain ⟨⟨ql, lcap, secs, ca, cc, cv, e1, e2, row, sl1, sl2, g1, g2, g3, g4, g5, g6, g7, g8⟩, dis, lt, le, fz⟩ := r3
        have hcv : cv.length = m.c.length := by rw [← bc, e2, List.length_map]
        have hsl : secs.length = m.l.length := by rw [← bl, e1, List.length_map]
        have hltp := lt p (.inl g3)
        have hltq := lt ql (.inl g4)
        have hltc : ∀ b, blk ca b → b < h3.size := fun b hb => lt b (.inl (g5 b hb))
        refine ldL_row row rfl ?_
        have hb3 : Bs h3 a l c s := hb.keep k3 (fun b hb' e => hfar b hb' (e ▸ hr.own))
        have hx : ∃ x, a = some x := by
          cases a with
          | none =>
            rcases hb with ⟨_, e, _⟩ | ⟨_, _, _, e, _⟩
            · omega
            · cases e
          | some x => exact ⟨x, rfl⟩
        obtain ⟨x, hx⟩ := hx
        refine cloneB_spec hx hb3 (by omega) ?_
        intro cap' bb h4 hbb1 hbb2 hbs4 k4
        have row4 := k4.row row (fun h => h)
        refine ⟨ldL_row row4 rfl rfl, ?_⟩
        refine newB_row ?_
        intro h5 s5 row5 k5
        have rowp5 := k5.row row4 (fun h => h)
        refine ⟨ldL_row rowp5 rfl rfl, ?_⟩
        refine ldRow_row row5 (by simp) ?_
        have hs34 := k4.size
        have sl2' := (sl2.keep k4 (fun _ _ h => h)).keep k5 (fun _ _ h => h)
        refine sl2'.app rfl (by simp) (by simp [Value.oneCell']) (by omega) ?_
        intro a' c' h6 q1 q2 q3
        have rowp6 := q2.row rowp5 g7
        refine stC_row rowp6 (by simp) rfl ?_
        intro h7 s7 row7 k7
        have hblk : ∀ b, blk a' b → blk ca b ∨ b = h5.size := by
          intro b hb'
          rcases q3 with ⟨rfl, _⟩ | ⟨rfl, _⟩
          · exact .inl hb'
          · rw [blk_some] at hb'
            exact .inr hb'.symm
        have hlt' : ∀ b, blk a' b → b < h7.size := by
          intro b hb'
          have := q1.blk_lt hb'
          omega
        have s6 := q2.size
        have kk : Keep mu h3 h7 := ((k4.trans' k5).mono (fun _ _ h => h.elim)).trans ((q2.mono (T := mu) (fun b _ hb' => g5 b hb')).trans k7 (fun b _ hb' => by
          have : b = p := hb'
          rw [this]; exact g3)) (fun _ _ h => h)
        have hbp : bb ≠ p := by omega
        have hl1 : (burn m).1 = 0 := by
          rcases burn_r m with h | h
          · exact h
          · exact absurd h (by omega)
        refine hk (fun b => mu b ∨ blk a' b) (fun b => im b ∨ b = bb) h7 ⟨⟨ql, lcap, secs, a', c', cv ++ [(i, .slice (some ⟨bb, 0, none⟩) l cap', s)], e1, by simp [e2], ?_, ?_, ?_, ?_, ?_, .inl g3, .inl g4, fun b hb' => .inr hb', g6, ?_, ?_⟩, ?_, ?_, le, fz⟩ ?_ ?_
        · rw [List.length_append, List.length_singleton]
          exact row7
        · exact (((sl1.keep k4 (fun _ _ h => h)).keep k5 (fun _ _ h => h)).keep q2 (fun b hb' hc' => by rw [blk_some] at hb'; subst hb'; exact g8 hc')).keep k7 (fun b hb' e => by rw [blk_some] at hb'; subst hb'; exact g6 e.symm)
        · rw [List.length_append, List.length_singleton, List.flatMap_append]
          have := q1.keep k7 (fun b hb' e => by
            have e' : b = p := e
            rcases hblk b hb' with hc' | hc'
            · exact g7 (e' ▸ hc')
            · omega)
          simpa [entV] using this
        · intro y hy
          exact ((g1 y hy).keep kk (fun b hb' hm => dis b hm hb')).mono (fun b hb' => .inl hb')
        · intro y hy
          rcases List.mem_append.1 hy with hy | hy
          · obtain ⟨w1, w2, w3, w4⟩ := g2 y hy
            exact ⟨w1, w2, (w3.keep kk (fun b hb' hm => dis b hm hb')).mono (fun b hb' => .inl hb'), w4⟩
          · simp only [List.mem_singleton] at hy
            subst hy
            have hl256 : l = 256 := by omega
            refine ⟨by simp only; omega, by simp only; omega, ⟨by simp only; omega, .inr ⟨bb, cap', by simp only [hl256], .inr rfl, ?_⟩⟩, by simp⟩
            rw [hl256] at hbs4
            exact ((hbs4.keep k5 (fun _ _ h => h)).keep q2 (fun b hb' hc' => by
              rw [blk_some] at hb'
              have := hltc b hc'
              simp only at hb'
              omega)).keep k7 (fun b hb' e => by
                rw [blk_some] at hb'
                have e' : b = p := e
                simp only at hb'
                omega)
        · intro hb'
          rcases hblk _ hb' with hc' | hc'
          · exact g7 hc'
          · omega
        · intro hb'
          rcases hblk _ hb' with hc' | hc'
          · exact g8 hc'
          · omega
        · rintro b (hm | hm) (hi' | hi')
          · exact dis b hm hi'
          · have := lt b (.inl hm); omega
          · rcases hblk b hm with hc' | hc'
            · exact dis b (g5 b hc') hi'
            · have := lt b (.inr hi'); omega
          · rcases hblk b hm with hc' | hc'
            · have := hltc b hc'; omega
            · omega
        · rintro b ((hm | hm) | (hi' | hi'))
          · have := lt b (.inl hm); omega
          · exact hlt' b hm
          · have := lt b (.inr hi'); omega
          · omega
        · exact (k3.mono (T := mu) (fun y _ hy => by
            have : y = p := hy
            rw [this]; exact hr.own)).trans kk (fun _ _ h => h)
        · have hs3 := k3.size
          refine ⟨fun b hb' => ?_, fun b hb' => ?_⟩
          · rcases hb' with hm | hm
            · exact .inl hm
            · rcases hblk b hm with hc' | hc'
              · exact .inl (g5 b hc')
              · exact .inr (by omega)
          · rcases hb' with hm | hm
            · exact .inl hm
            · exact .inr (by omega)

end Disk
end Go.Proofs.Ytmkobpkdodgboaa
