/- Keys: their order; binary searches. -/
import Derived.Test.YtopnljjfpfnhfaaXBytes
namespace Go.Proofs.Ytopnljjfpfnhfaa
open Go D
set_option linter.unusedVariables false
set_option linter.unusedSimpArgs false

abbrev Key := ByteArray
theorem bless_irrefl : ∀ a : List UInt8, Op.bytesLess a a = false
  | [] => rfl
  | a :: x => by
    unfold Op.bytesLess
    rw [bless_irrefl x, decide_eq_false (UInt8.lt_irrefl a)]
    simp
theorem bless_nil (a : List UInt8) : Op.bytesLess a [] = false := by cases a <;> rfl
theorem bless_trans : ∀ {a b c : List UInt8}, Op.bytesLess a b = true → Op.bytesLess b c = true → Op.bytesLess a c = true
  | a, [], _, h, _ => by rw [bless_nil] at h; cases h
  | _, _ :: _, [], _, h => by cases h
  | [], _ :: _, _ :: _, _, _ => rfl
  | a :: x, b :: y, c :: z, h1, h2 => by
    unfold Op.bytesLess at h1 h2 ⊢
    simp only [Bool.or_eq_true, Bool.and_eq_true, decide_eq_true_eq, beq_iff_eq] at h1 h2 ⊢
    rcases h1 with h1 | ⟨rfl, h1⟩
    · rcases h2 with h2 | ⟨rfl, h2⟩
      · exact .inl (UInt8.lt_trans h1 h2)
      · exact .inl h1
    · rcases h2 with h2 | ⟨rfl, h2⟩
      · exact .inl h2
      · exact .inr ⟨rfl, bless_trans h1 h2⟩
theorem bless_tri : ∀ {a b : List UInt8}, Op.bytesLess a b = false → Op.bytesLess b a = false → a = b
  | [], [], _, _ => rfl
  | [], _ :: _, h, _ => by cases h
  | _ :: _, [], _, h => by cases h
  | a :: x, b :: y, h1, h2 => by
    unfold Op.bytesLess at h1 h2
    simp only [Bool.or_eq_false_iff, Bool.and_eq_false_imp, decide_eq_false_iff_not, beq_iff_eq] at h1 h2
    have e : a = b := by
      apply UInt8.toNat_inj.1
      have q1 : ¬ a.toNat < b.toNat := fun e => h1.1 (UInt8.lt_iff_toNat_lt.2 e)
      have q2 : ¬ b.toNat < a.toNat := fun e => h2.1 (UInt8.lt_iff_toNat_lt.2 e)
      omega
    subst e
    rw [bless_tri (h1.2 rfl) (h2.2 rfl)]

def klt (a b : Key) : Prop := slt a b = true
instance (a b : Key) : Decidable (klt a b) := inferInstanceAs (Decidable (_ = true))
theorem klt_irrefl (a : Key) : ¬ klt a a := fun h => by
  unfold klt slt at h
  rw [bless_irrefl] at h; cases h
theorem klt_trans {a b c : Key} (h : klt a b) (k : klt b c) : klt a c := bless_trans h k
theorem klt_asymm {a b : Key} (h : klt a b) : ¬ klt b a := fun k => klt_irrefl _ (klt_trans h k)
theorem klt_tri {a b : Key} (h : ¬ klt a b) (k : ¬ klt b a) : a = b := by
  have h1 : Op.bytesLess a.toList b.toList = false := by
    cases e : Op.bytesLess a.toList b.toList with
    | false => rfl
    | true => exact absurd e h
  have h2 : Op.bytesLess b.toList a.toList = false := by
    cases e : Op.bytesLess b.toList a.toList with
    | false => rfl
    | true => exact absurd e k
  have e := bless_tri h1 h2
  rw [ByteArray.toList_eq, ByteArray.toList_eq] at e
  cases a with | mk x => cases b with | mk y => congr; exact Array.toList_inj.1 e
theorem klt_of_nlt {a b c : Key} (h : ¬ klt b a) (k : klt b c) : klt a c := by
  by_cases e : klt a b
  · exact klt_trans e k
  · rw [klt_tri e h]; exact k
theorem slt_dec (a b : Key) : slt a b = decide (klt a b) := by
  cases e : slt a b with
  | true => exact (decide_eq_true (show klt a b from e)).symm
  | false => exact (decide_eq_false (fun h : klt a b => by unfold klt at h; rw [e] at h; cases h)).symm
theorem seq_dec (s t : ByteArray) : seq s t = decide (s = t) := by
  by_cases h : s = t
  · subst h; rw [seq_self]; simp
  · rw [seq_false h, decide_eq_false h]

/-- keys that rise -/
def Asc : List Key → Prop
  | [] => True
  | a :: r => (∀ b ∈ r, klt a b) ∧ Asc r
/-- how many are below k -/
def below (k : Key) : List Key → Nat
  | [] => 0
  | a :: r => if klt a k then below k r + 1 else 0
theorem below_le (k : Key) : ∀ l : List Key, below k l ≤ l.length
  | [] => Nat.le_refl _
  | a :: r => by
    unfold below
    split
    · have := below_le k r; simp; omega
    · simp
theorem below_lt {k : Key} : ∀ {l : List Key} {i : Nat} {x : Key}, i < below k l → l[i]? = some x → klt x k
  | a :: r, i, x, hi, hx => by
    unfold below at hi
    split at hi
    · rename_i h
      cases i with
      | zero => simp at hx; subst hx; exact h
      | succ i => exact below_lt (l := r) (i := i) (by omega) (by simpa using hx)
    · omega
theorem below_ge {k : Key} : ∀ {l : List Key}, Asc l → ∀ {i : Nat} {x : Key}, below k l ≤ i → l[i]? = some x → ¬ klt x k
  | a :: r, hs, i, x, hi, hx => by
    unfold below at hi
    split at hi
    · rename_i h
      cases i with
      | zero => omega
      | succ i => exact below_ge hs.2 (i := i) (by omega) (by simpa using hx)
    · rename_i h
      cases i with
      | zero => simp at hx; subst hx; exact h
      | succ i =>
        have hm : x ∈ r := List.mem_of_getElem? (by simpa using hx)
        intro hk
        exact h (klt_trans (hs.1 x hm) hk)
/-- a place that parts the list is that number -/
theorem below_is {k : Key} {l : List Key} {n : Nat} (hn : n ≤ l.length) (h1 : ∀ (i : Nat) x, i < n → l[i]? = some x → klt x k) (h2 : ∀ x, l[n]? = some x → ¬ klt x k) : below k l = n := by
  induction l generalizing n with
  | nil => simp at hn; subst hn; rfl
  | cons a r ih =>
    unfold below
    cases n with
    | zero => rw [if_neg (h2 a rfl)]
    | succ n =>
      rw [if_pos (h1 0 a (by omega) rfl), ih (n := n) (by simpa using hn) (fun i x hi hx => h1 (i + 1) x (by omega) (by simpa using hx)) (fun x hx => h2 x (by simpa using hx))]

theorem asc_get : ∀ {l : List Key} {i j : Nat} {x y : Key}, Asc l → i < j → l[i]? = some x → l[j]? = some y → klt x y
  | a :: r, 0, j + 1, x, y, ha, _, hx, hy => by
    simp at hx; subst hx
    exact ha.1 y (List.mem_of_getElem? (by simpa using hy))
  | a :: r, i + 1, j + 1, x, y, ha, hij, hx, hy => asc_get (l := r) (i := i) (j := j) ha.2 (by omega) (by simpa using hx) (by simpa using hy)

/-- the middle, as the code reckons it -/
theorem mid_is {i j : Nat} (hij : i < j) (hj : j ≤ 4611686018427387904) : w64 (shrI .u64 (IntKind.u64.wrap (w64 ((i : Int) + (j : Int)))) 1) = (((i + j) / 2 : Nat) : Int) := by
  have e1 : w64 ((i : Int) + (j : Int)) = ((i + j : Nat) : Int) := by rw [w64_id (by omega) (by omega)]; push_cast; rfl
  have e2 : IntKind.u64.wrap ((i + j : Nat) : Int) = ((i + j : Nat) : Int) := by
    have : IntKind.u64.wrap ((i + j : Nat) : Int) = ((i + j : Nat) : Int) % 18446744073709551616 := by
      simp only [IntKind.wrap, IntKind.bits, IntKind.signed, Bool.false_and]
      simp
    omega
  have e3 : shrI .u64 ((i + j : Nat) : Int) 1 = (((i + j) / 2 : Nat) : Int) := by
    have : shrI .u64 ((i + j : Nat) : Int) ((1 : Nat) : Int) = (((i + j) >>> 1 : Nat) : Int) := shrI_nat (by decide)
    rw [Nat.shiftRight_eq_div_pow] at this
    exact this
  rw [e1, e2, e3, w64_id (by omega) (by omega)]
end Go.Proofs.Ytopnljjfpfnhfaa
