/- Slices of slices of bytes that came in. -/
import Derived.Test.YtmkobpkdodgboaaPArgs
namespace Go.Proofs.Ytmkobpkdodgboaa
open Go D
set_option linter.unusedVariables false
set_option linter.unusedSimpArgs false

def stateOf (h : Heap) (a : Option Addr) (i : Nat) : List UInt8 := match a with
  | none => []
  | some x => match cellH h (x.add (i * 1)) with
    | some (.slice a' l' _) => bytesAt h a' l'
    | _ => []
def StatesAt (h : Heap) (a : Option Addr) (l : Nat) : Prop := ∀ i : Nat, i < l → ∃ x a' l' c', a = some x ∧ cellH h (x.add (i * 1)) = some (.slice a' l' c') ∧ Rb h a' l' (stateOf h a i) ∧ l' ≤ c' ∧ (c' : Int) ≤ 9223372036854775807

theorem states_of {h : Heap} {a : Option Addr} {l c n : Nat} (hs : InSl 1 (InSl 1 (InInt .u8)) h n [.slice a l c]) : StatesAt h a l := by
  rcases hs with h1 | ⟨x, l', c', h1, h2, h3, h4, h5⟩
  · injection h1 with h1
    injection h1 with h1 h2 h3
    subst h2
    intro i hi
    omega
  · injection h1 with h1
    injection h1 with e1 e2 e3
    subst e1 e2 e3
    intro i hi
    obtain ⟨r, b, g1, _, g2, g3⟩ := h5 i (by omega)
    have hg := g2 0 (by omega)
    rw [add_zero] at hg
    obtain ⟨a', l', c', hr⟩ : ∃ a' l' c', r = [.slice a' l' c'] := by
      rcases g3 with e | ⟨y, l', c', e, _⟩
      · exact ⟨none, 0, 0, e⟩
      · exact ⟨_, _, _, e⟩
    have hcap : c' ≤ maxLen := by
      rcases g3 with e | ⟨y, l'', c'', e, _, e2, _⟩
      · rw [hr] at e
        injection e with e
        injection e with e1 e2 e3
        subst e3
        exact Nat.zero_le _
      · rw [hr] at e
        injection e with e
        injection e with e1 e2' e3
        subst e3
        exact e2
    subst hr
    obtain ⟨b1, b2, _⟩ := bytes_of g3
    replace hg : cellH h (x.add (i * 1)) = some (.slice a' l' c') := hg
    have e : stateOf h (some x) i = bytesAt h a' l' := by
      unfold stateOf
      simp only [hg]
    exact ⟨x, a', l', c', rfl, hg, by rw [e]; exact b1, b2, by unfold maxLen at hcap; omega⟩

/-- one of them, later -/
theorem StatesAt.get {h h' : Heap} {a : Option Addr} {l : Nat} (hs : StatesAt h a l) (hk : Keep (fun y => h.size ≤ y) h h') {i : Int} (h0 : 0 ≤ i) (h1 : i < l) {K : Option Addr → Nat → Nat → Prop}
    (hK : ∀ a' l' c', Rb h' a' l' (stateOf h a i.toNat) → l' ≤ c' → (c' : Int) ≤ 9223372036854775807 → (∀ b, 0 < l' → blk a' b → b < h.size) → K a' l' c') : idx a l i fun x => ldL (x.add (i.toNat * 1)) h' K := by
  obtain ⟨x, a', l', c', e1, e2, e3, e4, e5⟩ := hs i.toNat (by omega)
  rw [e1]
  have far : ∀ b, 0 < l' → blk a' b → b < h.size := fun b hl hb => e3.lt hl hb
  have hx : x.block < h.size := by
    have := cell_lt e2
    rwa [add_block] at this
  refine idx_some h0 h1 (ldL_at (hk.cell e2 (fun hh => ?_)) (hK a' l' c' (by exact e3.keep hk (fun hl b hb hh => by have := far b hl hb; have hh' : h.size ≤ b := hh; omega)) e4 e5 far))
  have hh' : h.size ≤ (x.add (i.toNat * 1)).block := hh
  rw [add_block] at hh'
  omega
end Go.Proofs.Ytmkobpkdodgboaa
