/- Strings: a byte's place, the place of 0D 0A. -/
import Derived.Test.YtjpmjhnjdnbopaaPStr
namespace Go.Proofs.Ytjpmjhnjdnbopaa
open Go D
set_option linter.unusedVariables false
set_option linter.unusedSimpArgs false

theorem get_bang (s : ByteArray) {i : Nat} (hi : i < s.size) : (bl s)[i]? = some s[i]! := by
  have h : i < (bl s).length := by rw [bl_len]; exact hi
  rw [List.getElem?_eq_getElem h]
  congr 1
  rw [getElem!_pos s i hi]
  rfl

theorem ixB_is (s : ByteArray) (c : UInt8) : (ixB s (c.toNat : Int) = -1 ∧ ∀ (j : Nat) (b : UInt8), (bl s)[j]? = some b → b ≠ c) ∨
    ∃ i : Nat, ixB s (c.toNat : Int) = (i : Int) ∧ (bl s)[i]? = some c ∧ ∀ (j : Nat) (b : UInt8), j < i → (bl s)[j]? = some b → b ≠ c := by
  have hc : ((c.toNat : Int)).toNat.toUInt8 = c := by simp
  unfold ixB
  rw [hc]
  cases hf : (List.range s.size).find? (fun i => s[i]! == c) with
  | none =>
    left
    refine ⟨rfl, fun j b hb e => ?_⟩
    have hj : j < s.size := (List.getElem?_eq_some_iff.1 hb).1
    have := List.find?_range_eq_none.1 hf j hj
    rw [get_bang s hj] at hb
    injection hb with hb
    rw [hb, e] at this
    simp at this
  | some i =>
    right
    obtain ⟨h1, h2, h3⟩ := List.find?_range_eq_some.1 hf
    have hi : i < s.size := List.mem_range.1 h2
    refine ⟨i, rfl, ?_, fun j b hj hb e => ?_⟩
    · rw [get_bang s hi, eq_of_beq h1]
    · have hjs : j < s.size := by omega
      have := h3 j hj
      rw [get_bang s hjs] at hb
      injection hb with hb
      rw [hb, e] at this
      simp at this

/-- is it the place of 0D 0A? -/
def At2 (s : List UInt8) (i : Nat) : Prop := s[i]? = some 13 ∧ s[i + 1]? = some 10
instance (s : List UInt8) (i : Nat) : Decidable (At2 s i) := by unfold At2; infer_instance
/-- where 0D 0A stands -/
def crlf : List UInt8 → Option Nat
  | [] => none
  | a :: r => if a = 13 ∧ r.head? = some 10 then some 0 else (crlf r).map (· + 1)
def oI : Option Nat → Int
  | some i => (i : Int)
  | none => -1

theorem crlf_is : ∀ s : List UInt8, (crlf s = none ∧ ∀ j, ¬ At2 s j) ∨ ∃ i, crlf s = some i ∧ At2 s i ∧ ∀ j, j < i → ¬ At2 s j
  | [] => .inl ⟨rfl, fun j h => by simp [At2] at h⟩
  | a :: r => by
    have h0 : At2 (a :: r) 0 ↔ a = 13 ∧ r.head? = some 10 := by
      unfold At2
      simp [List.head?_eq_getElem?]
    have hs : ∀ j, At2 (a :: r) (j + 1) ↔ At2 r j := fun j => by unfold At2; simp
    unfold crlf
    by_cases h : a = 13 ∧ r.head? = some 10
    · right
      rw [if_pos h]
      exact ⟨0, rfl, h0.2 h, fun j hj => by omega⟩
    · rw [if_neg h]
      rcases crlf_is r with ⟨e, hn⟩ | ⟨i, e, hi, hn⟩
      · left
        rw [e]
        refine ⟨rfl, fun j hj => ?_⟩
        cases j with
        | zero => exact h (h0.1 hj)
        | succ j => exact hn j ((hs j).1 hj)
      · right
        rw [e]
        refine ⟨i + 1, rfl, (hs i).2 hi, fun j hj hj2 => ?_⟩
        cases j with
        | zero => exact h (h0.1 hj2)
        | succ j => exact hn j (by omega) ((hs j).1 hj2)
theorem crlf_none {s : List UInt8} (h : ∀ j, ¬ At2 s j) : crlf s = none := by
  rcases crlf_is s with ⟨e, _⟩ | ⟨i, _, hi, _⟩
  · exact e
  · exact absurd hi (h i)
theorem crlf_some {s : List UInt8} {i : Nat} (hi : At2 s i) (h : ∀ j, j < i → ¬ At2 s j) : crlf s = some i := by
  rcases crlf_is s with ⟨e, hn⟩ | ⟨k, e, hk, hn⟩
  · exact absurd hi (hn i)
  · have : k = i := by
      rcases Nat.lt_trichotomy k i with h1 | h1 | h1
      · exact absurd hk (h k h1)
      · exact h1
      · exact absurd hi (hn i h1)
    rw [e, this]
theorem crlf_drop {s : List UInt8} {k : Nat} (h : ∀ j, j < k → ¬ At2 s j) : crlf s = (crlf (s.drop k)).map (· + k) := by
  have hd : ∀ j, At2 (s.drop k) j ↔ At2 s (k + j) := fun j => by
    unfold At2
    rw [List.getElem?_drop, List.getElem?_drop]
    rfl
  rcases crlf_is (s.drop k) with ⟨e, hn⟩ | ⟨i, e, hi, hn⟩
  · rw [e]
    refine crlf_none (fun j hj => ?_)
    by_cases hjk : j < k
    · exact h j hjk hj
    · exact hn (j - k) ((hd _).2 (by rw [show k + (j - k) = j by omega]; exact hj))
  · rw [e]
    show crlf s = some (i + k)
    refine crlf_some (by rw [Nat.add_comm]; exact (hd i).1 hi) (fun j hj hj2 => ?_)
    by_cases hjk : j < k
    · exact h j hjk hj2
    · exact hn (j - k) (by omega) ((hd _).2 (by rw [show k + (j - k) = j by omega]; exact hj2))

def crT : ByteArray := ⟨#[13, 10]⟩
theorem crT_size : crT.size = 2 := rfl
theorem piece_is (s : ByteArray) (i : Nat) : (s.extract i (i + 2) == crT) = decide (At2 (bl s) i) := by
  have e1 : (s.extract i (i + 2) == crT) = decide (bl (s.extract i (i + 2)) = [13, 10]) := by
    rw [beq_toListBytes, ByteArray.toList_eq, ByteArray.toList_eq, Bool.eq_iff_iff, beq_iff_eq, decide_eq_true_eq]
    rfl
  rw [e1, Bool.eq_iff_iff, decide_eq_true_eq, decide_eq_true_eq, bl_ext, show i + 2 - i = 2 by omega]
  unfold At2
  generalize bl s = l
  constructor
  · intro h
    have h0 := congrArg (fun x => x[0]?) h
    have h1 := congrArg (fun x => x[1]?) h
    simp [List.getElem?_take, List.getElem?_drop] at h0 h1
    exact ⟨h0, h1⟩
  · rintro ⟨h0, h1⟩
    apply List.ext_getElem?
    intro j
    rw [List.getElem?_take, List.getElem?_drop]
    match j with
    | 0 => simpa using h0
    | 1 => simpa using h1
    | j + 2 =>
      simp
      intro hh
      omega
theorem ixT_is (s : ByteArray) : ixT s crT = oI (crlf (bl s)) := by
  unfold ixT
  rw [crT_size]
  simp only [piece_is]
  cases hf : (List.range (s.size + 1 - 2)).find? (fun i => decide (At2 (bl s) i)) with
  | none =>
    have := List.find?_range_eq_none.1 hf
    rw [crlf_none (fun j hj => ?_)]
    · rfl
    · have hj1 : j + 1 < (bl s).length := (List.getElem?_eq_some_iff.1 hj.2).1
      rw [bl_len] at hj1
      have := this j (by omega)
      simp [hj] at this
  | some i =>
    obtain ⟨h1, h2, h3⟩ := List.find?_range_eq_some.1 hf
    rw [crlf_some (i := i) (of_decide_eq_true h1) (fun j hj hj2 => by
      have := h3 j hj
      simp [hj2] at this)]
    rfl

/-- the variable that holds how long a text IndexString takes -/
def MaxG (h : Heap) : Prop := ∃ m, cellH h ⟨0, 0, none⟩ = some (.int .i64 m)
theorem MaxG.keep {S : Nat → Prop} {h h' : Heap} (hg : MaxG h) (hk : Keep S h h') (hn : ¬ S 0) : MaxG h' := by
  obtain ⟨m, hm⟩ := hg
  exact ⟨m, hk.cell hm hn⟩

theorem indexByteI_spec {h : Heap} {s : ByteArray} {c : Int} {R : Int → Heap → Prop} (hk : R (ixB s c) h) : CallT Try.prog internal_stringslite_IndexByte_no [.string s, .int .u8 c] h [.sc (.int .i64)] R := by
  have hcall := internal_stringslite_IndexByte_call (s_0 := s) (c_1 := c) (R := R) (h := h)
  exact hcall hk
theorem indexByteH_spec {h : Heap} {s : ByteArray} {c : Int} {R : Int → Heap → Prop} (hk : R (ixB s c) h) : CallT Try.prog strings_IndexByte_no [.string s, .int .u8 c] h [.sc (.int .i64)] R := by
  apply strings_IndexByte_call
  unfold strings_IndexByte
  exact indexByteI_spec hk

/-! ### the search by sums -/
theorem hash_spec {h : Heap} {R : Int × Int → Heap → Prop} (hk : R (218109057, 637696617) h) : CallT Try.prog internal_bytealg_hashStr_string_no [.string crT] h [.sc (.int .u32), .sc (.int .u32)] R := by
  apply internal_bytealg_hashStr_string_call
  unfold internal_bytealg_hashStr_string
  refine LoopT.intro (fun (t : Int × Int) h' => h' = h ∧ (t = (0, 0) ∨ t = (13, 1) ∨ t = (218109057, 2))) (fun t _ => (2 - t.2).toNat) ⟨rfl, .inl rfl⟩ ?_
  rintro t h' ⟨rfl, ht⟩
  rcases ht with rfl | rfl | rfl
  · refine cnd_pos (by decide) ⟨13, by decide, rfl, ?_⟩
    exact ⟨⟨rfl, .inr (.inl (by decide))⟩, by decide⟩
  · refine cnd_pos (by decide) ⟨10, by decide, rfl, ?_⟩
    exact ⟨⟨rfl, .inr (.inr (by decide))⟩, by decide⟩
  · refine cnd_neg (by decide) ?_
    refine LoopT.intro (fun (t : Int × Int × Int) h2 => h2 = h' ∧ (t = (1, 16777619, 2) ∨ t = (1, 637696617, 1) ∨ t = (637696617, 1345077009, 0))) (fun t _ => t.2.2.toNat) ⟨rfl, .inl (by decide)⟩ ?_
    rintro t h2 ⟨rfl, ht⟩
    rcases ht with rfl | rfl | rfl
    · refine cnd_pos (by decide) (withJ.inl (withJ.inl ?_))
      refine cnd_f (by decide) ?_
      exact ⟨⟨rfl, .inr (.inl (by decide))⟩, by decide⟩
    · refine cnd_pos (by decide) (withJ.inl (withJ.inl ?_))
      refine cnd_t (by decide) ?_
      exact ⟨⟨rfl, .inr (.inr (by decide))⟩, by decide⟩
    · exact cnd_neg (by decide) hk
end Go.Proofs.Ytjpmjhnjdnbopaa
