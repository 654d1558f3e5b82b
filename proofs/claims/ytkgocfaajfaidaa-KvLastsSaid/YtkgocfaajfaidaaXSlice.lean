/- Slices as lists of cells: reading, writing, appending. -/
import Derived.Test.YtkgocfaajfaidaaXHeap
namespace Go.Proofs.Ytkgocfaajfaidaa.D
open Go
set_option linter.unusedVariables false
set_option linter.unusedSimpArgs false

theorem withJ.inl {σ : Type} {Y : σ → Heap → Prop} {X : (σ → Heap → Prop) → Prop} (h : X Y) : withJ Y X := h
theorem withJ.intro {σ : Type} {Y : σ → Heap → Prop} {X : (σ → Heap → Prop) → Prop} (I : σ → Heap → Prop) (hY : ∀ s h, I s h → Y s h) (hX : ∀ J : σ → Heap → Prop, (∀ s h, I s h → J s h) → X J) : withJ Y X := hX Y hY

/-- the slice (a, l, c), its elements of n cells, holds the cells vs -/
def SlR (h : Heap) (n : Nat) (a : Option Addr) (l c : Nat) (vs : List Value) : Prop :=
  (a = none ∧ l = 0 ∧ c = 0 ∧ vs = []) ∨ ∃ b o cs, a = some ⟨b, o, none⟩ ∧ Row h b cs ∧ l ≤ c ∧ o + c * n ≤ cs.length ∧ vs.length = l * n ∧ (cs.drop o).take (l * n) = vs

def blk (a : Option Addr) (b : Nat) : Prop := ∃ x, a = some x ∧ x.block = b

theorem blk_some {x : Addr} {b : Nat} : blk (some x) b ↔ x.block = b := ⟨fun ⟨y, h1, h2⟩ => by injection h1 with h1; subst h1; exact h2, fun h => ⟨x, rfl, h⟩⟩

section
variable {h h' : Heap} {n : Nat} {a : Option Addr} {l c : Nat} {vs : List Value}

theorem SlR.nil (h : Heap) (n : Nat) : SlR h n none 0 0 [] := .inl ⟨rfl, rfl, rfl, rfl⟩

theorem SlR.keep {S : Nat → Prop} (hs : SlR h n a l c vs) (hk : Keep S h h') (hn : ∀ b, blk a b → ¬ S b) : SlR h' n a l c vs := by
  rcases hs with h1 | ⟨b, o, cs, rfl, h2, h3⟩
  · exact .inl h1
  · exact .inr ⟨b, o, cs, rfl, hk.row h2 (hn b ⟨_, rfl, rfl⟩), h3⟩

theorem SlR.len (hs : SlR h n a l c vs) : vs.length = l * n := by
  rcases hs with ⟨rfl, rfl, rfl, rfl⟩ | ⟨b, o, cs, rfl, h2, h3, h4, h5, h6⟩
  · simp
  · exact h5

theorem SlR.le (hs : SlR h n a l c vs) : l ≤ c := by
  rcases hs with ⟨rfl, rfl, rfl, rfl⟩ | ⟨b, o, cs, rfl, h2, h3, h4, h5, h6⟩
  · simp
  · exact h3

theorem SlR.blk_lt (hs : SlR h n a l c vs) {b : Nat} (hb : blk a b) : b < h.size := by
  rcases hs with ⟨rfl, rfl, rfl, rfl⟩ | ⟨b', o, cs, rfl, h2, h3, h4, h5, h6⟩
  · obtain ⟨x, h1, _⟩ := hb; cases h1
  · rw [blk_some] at hb; subst hb; exact h2.lt

theorem SlR.row {x : Addr} (hs : SlR h n (some x) l c vs) : x.spot = none := by
  rcases hs with ⟨h1, _⟩ | ⟨b', o, cs, h1, _⟩
  · cases h1
  · injection h1 with h1; subst h1; rfl

theorem SlR.cell {x : Addr} (hs : SlR h n (some x) l c vs) {i : Nat} (hi : i < l * n) : cellH h (x.add i) = vs[i]? := by
  rcases hs with ⟨h1, _⟩ | ⟨b, o, cs, h1, h2, h3, h4, h5, h6⟩
  · cases h1
  · injection h1 with h1
    subst h1
    rw [add_mk, h2.cells, ← h6, List.getElem?_take, if_pos hi, List.getElem?_drop]

theorem add_add {x : Addr} (hx : x.spot = none) (i j : Nat) : (x.add i).add j = x.add (i + j) := by
  obtain ⟨b, o, s⟩ := x
  simp only at hx
  subst hx
  rw [add_mk, add_mk, add_mk, Nat.add_assoc]

/-- an element is looked up -/
theorem SlR.idx (hs : SlR h n a l c vs) {i : Int} {K : Addr → Prop} (h0 : 0 ≤ i) (h1 : i < l) (hk : ∀ x, a = some x → x.spot = none → K x) : idx a l i K := by
  rcases hs with ⟨rfl, rfl, rfl, rfl⟩ | ⟨b, o, cs, rfl, h2, h3, h4, h5, h6⟩
  · simp at h1; omega
  · exact idx_some h0 h1 (hk _ rfl rfl)

/-- all cells are read -/
theorem SlR.rd (hs : SlR h n a l c vs) {K : List Value → Prop} (hk : K vs) : rdCells a (l * n) h K := by
  rcases hs with ⟨rfl, rfl, rfl, rfl⟩ | ⟨b, o, cs, rfl, h2, h3, h4, h5, h6⟩
  · exact hk
  · have hln : l * n ≤ c * n := Nat.mul_le_mul_right _ h3
    show ldRow (l * n) _ h K
    refine ldRow_row h2 (by omega) ?_
    rw [h6]; exact hk

theorem putL_length {cs new : List Value} {o : Nat} (ho : o + new.length ≤ cs.length) : (putL cs o new).length = cs.length := by
  unfold putL
  simp
  omega

theorem getElem?_putL {cs new : List Value} {o : Nat} (ho : o + new.length ≤ cs.length) (i : Nat) : (putL cs o new)[i]? = if i < o then cs[i]? else if i < o + new.length then new[i - o]? else cs[i]? := by
  unfold putL
  have e1 : (cs.take o).length = o := by rw [List.length_take]; omega
  by_cases h1 : i < o
  · rw [if_pos h1, List.append_assoc, List.getElem?_append_left (by omega), List.getElem?_take, if_pos h1]
  · rw [if_neg h1, List.append_assoc, List.getElem?_append_right (by omega), e1]
    by_cases h2 : i < o + new.length
    · rw [if_pos h2, List.getElem?_append_left (by omega)]
    · rw [if_neg h2, List.getElem?_append_right (by omega), List.getElem?_drop]
      congr 1
      omega

theorem take_drop_get (cs : List Value) (o m i : Nat) : ((cs.drop o).take m)[i]? = if i < m then cs[o + i]? else none := by
  rw [List.getElem?_take, List.getElem?_drop]

/-- a cell of an element is written -/
theorem SlR.set {x : Addr} (hs : SlR h n (some x) l c vs) {i : Nat} (hi : i < l * n) {v : Value} {K : Heap → Prop} (hv : v.oneCell' = true)
    (hk : ∀ h', h'.size = h.size → SlR h' n (some x) l c (vs.set i v) → Keep (· = x.block) h h' → K h') : stC (x.add i) v h K := by
  rcases hs with ⟨h1, _⟩ | ⟨b, o, cs, h1, h2, h3, h4, h5, h6⟩
  · cases h1
  · injection h1 with h1
    subst h1
    rw [add_mk]
    have hln : l * n ≤ c * n := Nat.mul_le_mul_right _ h3
    refine stC_row h2 (by omega) hv ?_
    intro h' q1 q2 q3
    refine hk h' q1 (.inr ⟨b, o, _, rfl, q2, h3, by simpa using h4, by simpa using h5, ?_⟩) q3
    subst h6
    apply List.ext_getElem?
    intro j
    rw [take_drop_get, List.getElem?_set, List.getElem?_set, List.length_take, List.length_drop, take_drop_get]
    by_cases hj : j < l * n
    · rw [if_pos hj, if_pos hj]
      by_cases hij : i = j
      · subst hij
        rw [if_pos rfl, if_pos rfl, if_pos (by omega), if_pos (by omega)]
      · rw [if_neg (by omega), if_neg hij]
    · rw [if_neg hj, if_neg (by omega), if_neg hj]

theorem zerosL_length {zs : List Value} (k : Nat) (hz : zs.length = n) : (zerosL zs k).length = k * n := by
  unfold zerosL
  split
  · simp at hz; subst hz; simp
  · subst hz
    simp [List.length_flatten, List.map_replicate, List.sum_replicate_nat]

/-- append -/
theorem SlR.app (hs : SlR h n a l c vs) {zs new : List Value} {e : TypeId} {bytes m : Nat} {K : Option Addr → Nat → Heap → Prop} (hz : zs.length = n) (hm : new.length = m * n) (hv : ∀ v ∈ new, v.oneCell' = true)
    (hb : (2 * (l + m) + 1024) * bytes ≤ 281474976710656)
    (hk : ∀ a' c' h', SlR h' n a' (l + m) c' (vs ++ new) → Keep (blk a) h h' → (a' = a ∧ h'.size = h.size ∨ a' = some ⟨h.size, 0, none⟩ ∧ h'.size = h.size + 1 ∧ Keep (fun _ => False) h h') → K a' c' h') :
    app zs e n bytes a l c new m h K := by
  unfold D.app
  by_cases hle : l + m ≤ c
  · rw [if_pos hle]
    rcases hs with ⟨rfl, rfl, rfl, rfl⟩ | ⟨b, o, cs, rfl, h2, h3, h4, h5, h6⟩
    · have hm0 : m = 0 := by omega
      subst hm0
      have hn0 : new = [] := List.length_eq_zero_iff.1 (by rw [hm]; simp)
      subst hn0
      exact hk none 0 h (SlR.nil _ _) (.refl _ _) (.inl ⟨rfl, rfl⟩)
    · have hln : (l + m) * n ≤ c * n := Nat.mul_le_mul_right _ hle
      rw [Nat.add_mul] at hln
      show stRow new ((⟨b, o, none⟩ : Addr).add (l * n)) h _
      rw [add_mk]
      refine stRow_row h2 (by omega) hv ?_
      intro h' q1 q2 q3
      refine hk _ c h' (.inr ⟨b, o, _, rfl, q2, hle, ?_, ?_, ?_⟩) (q3.mono (fun x _ hx => blk_some.2 hx.symm)) (.inl ⟨rfl, q1⟩)
      · rw [putL_length (by omega)]; exact h4
      · rw [List.length_append, h5, hm, Nat.add_mul]
      · subst h6
        apply List.ext_getElem?
        intro j
        rw [take_drop_get, getElem?_putL (by omega), Nat.add_mul]
        by_cases hj : j < l * n
        · rw [if_pos (by omega), if_pos (by omega), List.getElem?_append_left (by rw [h5]; exact hj), take_drop_get, if_pos hj]
        · rw [List.getElem?_append_right (by rw [h5]; omega), h5]
          by_cases hj2 : j < l * n + m * n
          · rw [if_pos hj2, if_neg (by omega), if_pos (by omega)]
            congr 1
            omega
          · rw [if_neg hj2, List.getElem?_eq_none (by omega)]
  · rw [if_neg hle]
    refine ⟨?_, ?_⟩
    · have h1 := nextslicecap_le (n := l + m) (c := c) (by omega)
      exact Nat.le_trans (Nat.mul_le_mul_right _ h1) hb
    · have old : rdCells a (l * n) h fun old => old = vs ∧ ∀ c', l + m ≤ c' → c' ≤ 9223372036854775807 →
          K (some ⟨h.size, 0, none⟩) c' (h.push (.cells (old ++ new ++ zerosL zs (c' - (l + m))).toArray e)) := by
        have fin : ∀ c', l + m ≤ c' → c' ≤ 9223372036854775807 → K (some ⟨h.size, 0, none⟩) c' (h.push (.cells (vs ++ new ++ zerosL zs (c' - (l + m))).toArray e)) := by
          intro c' hc1 hc2
          have hlen := hs.len
          refine hk _ c' _ (.inr ⟨h.size, 0, _, rfl, row_push h _ e, hc1, ?_, ?_, ?_⟩) ((keep_push h _).mono (fun _ _ hx => hx.elim)) (.inr ⟨rfl, by simp, keep_push h _⟩)
          · rw [List.length_append, List.length_append, zerosL_length _ hz, hlen, hm, Nat.zero_add]
            have : c' * n = l * n + m * n + (c' - (l + m)) * n := by
              rw [← Nat.add_mul, ← Nat.add_mul]
              congr 1; omega
            omega
          · rw [List.length_append, hlen, hm, Nat.add_mul]
          · rw [List.drop_zero, Nat.add_mul]
            have : l * n + m * n = (vs ++ new).length := by rw [List.length_append, hlen, hm]
            rw [this, List.take_left']
            rfl
        rcases hs with ⟨rfl, rfl, rfl, rfl⟩ | ⟨b, o, cs, rfl, h2, h3, h4, h5, h6⟩
        · rw [Nat.zero_mul]
          exact ⟨rfl, fin⟩
        · have hln : l * n ≤ c * n := Nat.mul_le_mul_right _ h3
          show ldRow (l * n) _ h _
          refine ldRow_row h2 (by omega) ?_
          rw [h6]
          exact ⟨rfl, fin⟩
      revert old
      unfold rdCells
      intro old
      cases a with
      | none => exact old.2
      | some x =>
        obtain ⟨v1, v2, v3, v4⟩ := old
        exact ⟨v1, v2, v3, v4.2⟩
end

end Go.Proofs.Ytkgocfaajfaidaa.D
