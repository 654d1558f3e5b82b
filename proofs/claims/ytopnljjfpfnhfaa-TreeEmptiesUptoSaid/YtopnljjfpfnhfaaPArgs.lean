/- Slices of ints and of bools that came in. -/
import Derived.Test.YtopnljjfpfnhfaaXLift
import Derived.Test.YtopnljjfpfnhfaaXBytes
namespace Go.Proofs.Ytopnljjfpfnhfaa
open Go D
set_option linter.unusedVariables false

/-- an int of 64 bits -/
def InI (x : Int) : Prop := -9223372036854775808 ≤ x ∧ x ≤ 9223372036854775807

/-- a slice of ints, of bools, that came in -/
def IntsAt (h : Heap) (a : Option Addr) (l : Nat) : Prop := ∀ i : Nat, i < l → ∃ x z, a = some x ∧ cellH h (x.add (i * 1)) = some (.int .i64 z) ∧ InI z
def BoolsAt (h : Heap) (a : Option Addr) (l : Nat) : Prop := ∀ i : Nat, i < l → ∃ x z, a = some x ∧ cellH h (x.add (i * 1)) = some (.bool z)

theorem cell_lt {h : Heap} {a : Addr} {v : Value} (hc : cellH h a = some v) : a.block < h.size := by
  unfold cellH at hc
  rcases Nat.lt_or_ge a.block h.size with h1 | h1
  · exact h1
  · rw [Array.getElem?_eq_none h1] at hc; cases hc

theorem IntsAt.ld {h h' : Heap} {a : Option Addr} {l : Nat} (hs : IntsAt h a l) (hk : Keep (fun y => h.size ≤ y) h h') {i : Int} {K : Int → Prop} (h0 : 0 ≤ i) (h1 : i < l) (hK : ∀ z, InI z → K z) :
    idx a l i fun x => ldI .i64 (x.add (i.toNat * 1)) h' K := by
  obtain ⟨x, z, rfl, h2, h3⟩ := hs i.toNat (by omega)
  refine idx_some h0 h1 (ldI_at (hk.cell h2 ?_) (hK z h3))
  have := cell_lt h2
  omega

theorem BoolsAt.ld {h h' : Heap} {a : Option Addr} {l : Nat} (hs : BoolsAt h a l) (hk : Keep (fun y => h.size ≤ y) h h') {i : Int} {K : Bool → Prop} (h0 : 0 ≤ i) (h1 : i < l) (hK : ∀ z, K z) :
    idx a l i fun x => ldB (x.add (i.toNat * 1)) h' K := by
  obtain ⟨x, z, rfl, h2⟩ := hs i.toNat (by omega)
  refine idx_some h0 h1 (ldB_at (hk.cell h2 ?_) (hK z))
  have := cell_lt h2
  omega

theorem add_zero (a : Addr) : a.add 0 = a := by unfold Addr.add; rw [if_pos rfl]

theorem ints_of {h : Heap} {a : Option Addr} {l c n : Nat} (hs : InSl 1 (InInt .i64) h n [.slice a l c]) : IntsAt h a l := by
  rcases hs with h1 | ⟨x, l', c', h1, h2, h3, h4, h5⟩
  · injection h1 with h1
    injection h1 with h1 h2 h3
    subst h2
    intro i hi
    omega
  · injection h1 with h1
    injection h1 with e1 e2 e3
    subst e1 e2 e3
    intro i hi
    obtain ⟨r, b, g1, _, g2, z, rfl, g4, g5, _⟩ := h5 i (by omega)
    have := g2 0 (by omega)
    rw [add_zero] at this
    exact ⟨x, z, rfl, this, g4, g5⟩

theorem bools_of {h : Heap} {a : Option Addr} {l c n : Nat} (hs : InSl 1 InBool h n [.slice a l c]) : BoolsAt h a l := by
  rcases hs with h1 | ⟨x, l', c', h1, h2, h3, h4, h5⟩
  · injection h1 with h1
    injection h1 with h1 h2 h3
    subst h2
    intro i hi
    omega
  · injection h1 with h1
    injection h1 with e1 e2 e3
    subst e1 e2 e3
    intro i hi
    obtain ⟨r, b, g1, _, g2, z, rfl, g4⟩ := h5 i (by omega)
    have := g2 0 (by omega)
    rw [add_zero] at this
    exact ⟨x, z, rfl, this⟩

/-- a slice of triples of ints that came in -/
def OpsAt (h : Heap) (a : Option Addr) (l : Nat) : Prop := ∀ i : Nat, i < l → ∃ x n0 n1 n2, a = some x ∧ cellH h (x.add (i * 3)) = some (.int .i64 n0) ∧ cellH h ((x.add (i * 3)).add 1) = some (.int .i64 n1) ∧ cellH h ((x.add (i * 3)).add 2) = some (.int .i64 n2) ∧ InI n0 ∧ InI n1 ∧ InI n2

theorem ops_of {h : Heap} {a : Option Addr} {l c n : Nat} (hs : InSl 3 (InAgg 3 [(0, 1, InInt .i64), (1, 1, InInt .i64), (2, 1, InInt .i64)]) h n [.slice a l c]) : OpsAt h a l := by
  rcases hs with h1 | ⟨x, l', c', h1, h2, h3, h4, h5⟩
  · injection h1 with h1
    injection h1 with h1 h2 h3
    subst h2
    intro i hi
    omega
  · injection h1 with h1
    injection h1 with e1 e2 e3
    subst e1 e2 e3
    intro i hi
    obtain ⟨r, b, g1, _, g2, g3, g4⟩ := h5 i (by omega)
    obtain ⟨b0, _, n0, f0, u0, v0, _⟩ := g4 (0, 1, InInt .i64) (by simp)
    obtain ⟨b1, _, n1, f1, u1, v1, _⟩ := g4 (1, 1, InInt .i64) (by simp)
    obtain ⟨b2, _, n2, f2, u2, v2, _⟩ := g4 (2, 1, InInt .i64) (by simp)
    match r, g1, f0, f1, f2 with
    | [y0, y1, y2], _, f0, f1, f2 =>
      simp at f0 f1 f2
      subst f0 f1 f2
      have w0 := g2 0 (by omega)
      rw [add_zero] at w0
      exact ⟨x, n0, n1, n2, rfl, w0, g2 1 (by omega), g2 2 (by omega), ⟨u0, v0⟩, ⟨u1, v1⟩, ⟨u2, v2⟩⟩

/-- bytes that came in -/
theorem bytes_of {h : Heap} {a : Option Addr} {l c n : Nat} (hs : InSl 1 (InInt .u8) h n [.slice a l c]) : Rb h a l (bytesAt h a l) ∧ l ≤ c ∧ c + 1 ≤ n + 1 := by
  rcases hs with h1 | ⟨x, l', c', h1, h2, h3, h4, h5⟩
  · injection h1 with h1
    injection h1 with h1 h2 h3
    subst h1 h2 h3
    refine ⟨⟨by simp [bytesAt], fun i v hv => ?_⟩, Nat.le_refl _, by omega⟩
    simp [bytesAt] at hv
  · injection h1 with h1
    injection h1 with e1 e2 e3
    subst e1 e2 e3
    refine ⟨⟨by simp [bytesAt], fun i v hv => ?_⟩, h2, by omega⟩
    have hi : i < l := by
      have := (List.getElem?_eq_some_iff.1 hv).1
      simpa [bytesAt] using this
    obtain ⟨r, b, g1, _, g2, z, rfl, g4, g5, _⟩ := h5 i (by omega)
    have hc := g2 0 (by omega)
    rw [add_zero, Nat.mul_one] at hc
    have hc' : cellH h (x.add i) = some (.int .u8 z) := hc
    have hsp : x.spot = none := by
      cases hx : x.spot with
      | none => rfl
      | some t =>
        obtain ⟨r', b', g1', _, g2', z', rfl, _⟩ := h5 0 (by omega)
        have := g2' 0 (by omega)
        rw [add_zero, Nat.zero_mul, add_zero] at this
        unfold cellH at this
        rw [hx] at this
        split at this
        · simp at this
        · cases this
    refine ⟨x, rfl, hsp, ?_⟩
    rw [hc']
    unfold bytesAt at hv
    rw [List.getElem?_map, List.getElem?_map, List.getElem?_range hi] at hv
    simp only [Option.map_some, hc'] at hv
    rw [← hv]
    unfold byteV
    have e1 : IntKind.u8.min = 0 := rfl
    have e2 : IntKind.u8.max = 255 := rfl
    rw [e1] at g4
    rw [e2] at g5
    congr 2
    rw [UInt8.toNat_ofNat']
    omega

end Go.Proofs.Ytopnljjfpfnhfaa
