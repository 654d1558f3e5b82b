/- Slices of texts, and slices of those, that came in. -/
import Derived.Test.YtmkobpkdodgboaaPWalG
namespace Go.Proofs.Ytmkobpkdodgboaa
open Go D
set_option linter.unusedVariables false
set_option linter.unusedSimpArgs false

def textOf (h : Heap) (a : Option Addr) (i : Nat) : ByteArray := match a with
  | none => ⟨#[]⟩
  | some x => match cellH h (x.add (i * 1)) with
    | some (.string s) => s
    | _ => ⟨#[]⟩
def textsOf (h : Heap) (a : Option Addr) (l : Nat) : List ByteArray := (List.range l).map (textOf h a)

theorem pack_bound (n : Nat) : ∀ rs : List ByteArray, (∀ s ∈ rs, s.size ≤ n) → (Wal.packL rs).length ≤ rs.length * (4 + n)
  | [], _ => by simp [Wal.packL]
  | s :: rs, h => by
    have e : Wal.packL (s :: rs) = Wal.four s.size ++ (s.data.toList ++ Wal.packL rs) := by simp [Wal.packL]
    have ih := pack_bound n rs (fun t ht => h t (by simp [ht]))
    have h1 := h s (by simp)
    have h2 : s.data.toList.length = s.size := rfl
    rw [e, List.length_append, List.length_append, Wal.four_length, h2, List.length_cons, Nat.add_mul, Nat.one_mul]
    omega

theorem texts_of {h : Heap} {a : Option Addr} {l c n : Nat} (hs : InSl 1 InStr h n [.slice a l c]) : Ts h a l (textsOf h a l) ∧ l ≤ c ∧ l ≤ n ∧ (∀ s ∈ textsOf h a l, s.size ≤ n) := by
  rcases hs with h1 | ⟨x, l', c', h1, h2, h3, h4, h5⟩
  · injection h1 with h1
    injection h1 with h1 h2 h3
    subst h1 h2 h3
    refine ⟨⟨by simp [textsOf], fun i v hv => by simp [textsOf] at hv⟩, Nat.le_refl _, Nat.zero_le _, fun s hs => by simp [textsOf] at hs⟩
  · injection h1 with h1
    injection h1 with e1 e2 e3
    subst e1 e2 e3
    have cell : ∀ i, i < l → cellH h (x.add (i * 1)) = some (.string (textOf h (some x) i)) ∧ (textOf h (some x) i).size ≤ n := fun i hi => by
      obtain ⟨r, b, g1, gb, g2, s, rfl, g4, g5⟩ := h5 i (by omega)
      have hc := g2 0 (by omega)
      rw [add_zero] at hc
      have hc' : cellH h (x.add (i * 1)) = some (.string s) := hc
      have e : textOf h (some x) i = s := by
        unfold textOf
        simp only [hc']
      rw [e]
      exact ⟨hc', by omega⟩
    refine ⟨⟨by simp [textsOf], fun i v hv => ?_⟩, h2, by omega, fun s hs => ?_⟩
    · have hi : i < l := by
        have := (List.getElem?_eq_some_iff.1 hv).1
        simpa [textsOf] using this
      obtain ⟨hc, _⟩ := cell i hi
      rw [Nat.mul_one] at hc
      have hsp : x.spot = none := by
        cases hx : x.spot with
        | none => rfl
        | some t =>
          obtain ⟨hc0, _⟩ := cell 0 (by omega)
          rw [Nat.zero_mul, add_zero] at hc0
          unfold cellH at hc0
          rw [hx] at hc0
          split at hc0
          · simp at hc0
          · cases hc0
      refine ⟨x, rfl, hsp, ?_⟩
      rw [hc]
      unfold textsOf at hv
      rw [List.getElem?_map, List.getElem?_map, List.getElem?_range hi] at hv
      simp only [Option.map_some] at hv
      exact hv
    · unfold textsOf at hs
      obtain ⟨i, hi, rfl⟩ := List.mem_map.1 hs
      exact (cell i (List.mem_range.1 hi)).2

/-- the i-th of such slices -/
def frOf (h : Heap) (a : Option Addr) (i : Nat) : List ByteArray := match a with
  | none => []
  | some x => match cellH h (x.add (i * 1)) with
    | some (.slice a' l' _) => textsOf h a' l'
    | _ => []
def FramesAt (h : Heap) (a : Option Addr) (l : Nat) : Prop := ∀ i : Nat, i < l → ∃ x a' l' c', a = some x ∧ cellH h (x.add (i * 1)) = some (.slice a' l' c') ∧ Ts h a' l' (frOf h a i) ∧ (Wal.packL (frOf h a i)).length ≤ 8796093022208 ∧ l' ≤ 1048576

theorem frames_of {h : Heap} {a : Option Addr} {l c n : Nat} (hn : n ≤ 1048576) (hs : InSl 1 (InSl 1 InStr) h n [.slice a l c]) : FramesAt h a l := by
  rcases hs with h1 | ⟨x, l', c', h1, h2, h3, h4, h5⟩
  · injection h1 with h1
    injection h1 with h1 h2 h3
    subst h2
    intro i hi
    omega
  · injection h1 with h1
    injection h1 with e1 e2 e3
    subst e1 e2 e3
    intro i hi
    obtain ⟨r, b, g1, gb, g2, g3⟩ := h5 i (by omega)
    have hg := g2 0 (by omega)
    rw [add_zero] at hg
    obtain ⟨a', l', c', hr⟩ : ∃ a' l' c', r = [.slice a' l' c'] := by
      rcases g3 with e | ⟨y, l', c', e, _⟩
      · exact ⟨none, 0, 0, e⟩
      · exact ⟨_, _, _, e⟩
    subst hr
    obtain ⟨b1, b2, b3, b4⟩ := texts_of g3
    replace hg : cellH h (x.add (i * 1)) = some (.slice a' l' c') := hg
    have e : frOf h (some x) i = textsOf h a' l' := by
      unfold frOf
      simp only [hg]
    have hlen : (textsOf h a' l').length = l' := by simp [textsOf]
    have hb := pack_bound b (textsOf h a' l') b4
    rw [hlen] at hb
    have hm : l' * (4 + b) ≤ 1048576 * (4 + 1048576) := Nat.mul_le_mul (by omega) (by omega)
    exact ⟨x, a', l', c', rfl, hg, by rw [e]; exact b1, by rw [e]; omega, by omega⟩

theorem Ts.blk_lt {h : Heap} {a : Option Addr} {l : Nat} {rs : List ByteArray} (ht : Ts h a l rs) (hl : 0 < l) {b : Nat} (hb : blk a b) : b < h.size := Rv.lt ht hl hb

/-- one of them, later -/
theorem FramesAt.get {h h' : Heap} {a : Option Addr} {l : Nat} (hs : FramesAt h a l) (hk : Keep (fun y => h.size ≤ y) h h') {i : Int} (h0 : 0 ≤ i) (h1 : i < l) {K : Option Addr → Nat → Nat → Prop}
    (hK : ∀ a' l' c', TsB h' (fun b => b < h.size) a' l' (frOf h a i.toNat) → (Wal.packL (frOf h a i.toNat)).length ≤ 8796093022208 → l' ≤ 1048576 → K a' l' c') : idx a l i fun x => ldL (x.add (i.toNat * 1)) h' K := by
  obtain ⟨x, a', l', c', e1, e2, e3, e4, e5⟩ := hs i.toNat (by omega)
  rw [e1]
  have hx : x.block < h.size := by
    have := cell_lt e2
    rwa [add_block] at this
  refine idx_some h0 h1 (ldL_at (hk.cell e2 (fun hh => ?_)) (hK a' l' c' ⟨Rv.keep e3 hk (fun hl b hb hh => by have := Ts.blk_lt e3 hl hb; have hh' : h.size ≤ b := hh; omega), fun hl b hb => Ts.blk_lt e3 hl hb⟩ e4 e5))
  have hh' : h.size ≤ (x.add (i.toNat * 1)).block := hh
  rw [add_block] at hh'
  omega
/-- the same cell, read again -/
theorem FramesAt.cell {h h' : Heap} {a : Option Addr} {l : Nat} (hs : FramesAt h a l) (hk : Keep (fun y => h.size ≤ y) h h') {i : Int} (h0 : 0 ≤ i) (h1 : i < l) : ∃ x a' l' c', a = some x ∧ (∀ h'', Keep (fun y => h.size ≤ y) h h'' → cellH h'' (x.add (i.toNat * 1)) = some (.slice a' l' c')) ∧ TsB h' (fun b => b < h.size) a' l' (frOf h a i.toNat) ∧ (Wal.packL (frOf h a i.toNat)).length ≤ 8796093022208 ∧ l' ≤ 1048576 := by
  obtain ⟨x, a', l', c', e1, e2, e3, e4, e5⟩ := hs i.toNat (by omega)
  have hx : x.block < h.size := by
    have := cell_lt e2
    rwa [add_block] at this
  refine ⟨x, a', l', c', e1, fun h'' hk' => hk'.cell e2 (fun hh => ?_), ⟨Rv.keep e3 hk (fun hl b hb hh => by have := Ts.blk_lt e3 hl hb; have hh' : h.size ≤ b := hh; omega), fun hl b hb => Ts.blk_lt e3 hl hb⟩, e4, e5⟩
  have hh' : h.size ≤ (x.add (i.toNat * 1)).block := hh
  rw [add_block] at hh'
  omega
end Go.Proofs.Ytmkobpkdodgboaa
