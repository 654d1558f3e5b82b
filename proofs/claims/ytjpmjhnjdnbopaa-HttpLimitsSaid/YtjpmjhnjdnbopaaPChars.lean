/- Characters: tokens, values, blanks, small letters, cutting and splitting: the program's and the document's. -/
import Derived.Test.YtjpmjhnjdnbopaaPStrK
import Derived.Test.YtjpmjhnjdnbopaaGHttp
import Derived.Test.YtjpmjhnjdnbopaaGRef
namespace Go.Proofs.Ytjpmjhnjdnbopaa
open Go D
set_option linter.unusedVariables false
set_option linter.unusedSimpArgs false

theorem sidx_at {s : ByteArray} {i : Nat} {b : UInt8} {K : UInt8 → Prop} (hb : (bl s)[i]? = some b) (hk : K b) : sidx s (i : Int) K := ⟨b, by omega, by rw [Int.toNat_natCast]; exact hb, hk⟩

theorem sidx_i {s : ByteArray} {i : Int} {b : UInt8} {K : UInt8 → Prop} (h0 : 0 ≤ i) (hb : (bl s)[i.toNat]? = some b) (hk : K b) : sidx s i K := ⟨b, h0, hb, hk⟩

/-- a loop that looks at one byte after the other -/
theorem scan {s : ByteArray} {h : Heap} {F : (Int → Heap → Prop) → Int → Heap → Prop} (p : UInt8 → Bool) (hs : s.size ≤ 4611686018427387904)
    (hb : ∀ (X : Int → Heap → Prop) (i : Nat) (b : UInt8), i < s.size → (bl s)[i]? = some b → (p b = true → X (w64 ((i : Int) + 1)) h) → (p b = false → (bl s).all p = false) → F X (i : Int) h)
    (he : (bl s).all p = true → ∀ X, F X (s.size : Int) h) : LoopT F 0 h := by
  refine LoopT.intro (fun (i : Int) h' => h' = h ∧ 0 ≤ i ∧ i ≤ s.size ∧ ∀ (j : Nat) (b : UInt8), j < i.toNat → (bl s)[j]? = some b → p b = true) (fun i _ => (s.size - i).toNat) ⟨rfl, by omega, by omega, fun j b hj => by omega⟩ ?_
  rintro i h' ⟨rfl, p1, p2, p3⟩
  obtain ⟨n, rfl⟩ : ∃ n : Nat, i = (n : Int) := ⟨i.toNat, by omega⟩
  have hl := bl_len s
  by_cases hn : n < s.size
  · have hlt : n < (bl s).length := by omega
    have hg : (bl s)[n]? = some (bl s)[n] := List.getElem?_eq_getElem hlt
    generalize (bl s)[n] = b at hg
    refine hb _ n b hn hg (fun hy => ?_) (fun hn2 => ?_)
    · rw [w64_id (by omega) (by omega)]
      refine ⟨⟨rfl, by omega, by omega, fun j c hj hc => ?_⟩, by omega⟩
      by_cases hjn : j < n
      · exact p3 j c (by omega) hc
      · have : j = n := by omega
        subst this
        rw [hg] at hc
        injection hc with hc
        rw [← hc]; exact hy
    · rw [List.all_eq_false]
      exact ⟨b, List.mem_of_getElem? hg, by simp [hn2]⟩
  · have : n = s.size := by omega
    subst this
    refine he ?_ _
    rw [List.all_eq_true]
    intro b hb'
    obtain ⟨j, hj, e⟩ := List.getElem_of_mem hb'
    exact p3 j b (by omega) (by rw [List.getElem?_eq_getElem hj, e])

/-! ### letters, tokens, values -/
def letB (b : UInt8) : Bool := (decide (65 ≤ b.toNat) && decide (b.toNat ≤ 90)) || ((decide (97 ≤ b.toNat) && decide (b.toNat ≤ 122)) || (decide (48 ≤ b.toNat) && decide (b.toNat ≤ 57)))
def digB (b : UInt8) : Bool := decide (48 ≤ b.toNat) && decide (b.toNat ≤ 57)
def markTk : ByteArray := ⟨#[33, 35, 36, 37, 38, 39, 42, 43, 45, 46, 94, 95, 96, 124, 126]⟩
def tokB (b : UInt8) : Bool := letB b || (bl markTk).contains b
def tokenL (s : List UInt8) : Bool := s.all tokB && !decide (s = [])
def valB (b : UInt8) : Bool := !((decide (b.toNat < 32) && !decide (b.toNat = 9)) || decide (b.toNat = 127))
def valueL (s : List UInt8) : Bool := s.all valB
def blankB (b : UInt8) : Bool := b == 32 || b == 9
def trimL (s : List UInt8) : List UInt8 := ((s.dropWhile blankB).reverse.dropWhile blankB).reverse
def lowB (b : UInt8) : UInt8 := if 65 ≤ b.toNat ∧ b.toNat ≤ 90 then b + 32 else b
def lowerL (s : List UInt8) : List UInt8 := s.map lowB
def tarB (b : UInt8) : Bool := !(decide (b.toNat < 33) || decide (126 < b.toNat))
def targetL (s : List UInt8) : Bool := s.all tarB && !decide (s = [])

theorem letter_spec {h : Heap} {b : UInt8} {R : Bool → Heap → Prop} (hk : R (letB b) h) : CallT Try.prog chars_letter_no [.int .u8 (b.toNat : Int)] h [.sc .bool] R := by
  apply chars_letter_call
  unfold chars_letter
  refine withJ.intro (fun (r : Bool) h' => h' = h ∧ r = letB b) (by rintro r h' ⟨rfl, rfl⟩; exact hk) ?_
  intro J hJ
  have key : ∀ {r : Bool}, (r = true ↔ (65 ≤ b.toNat ∧ b.toNat ≤ 90) ∨ (97 ≤ b.toNat ∧ b.toNat ≤ 122) ∨ (48 ≤ b.toNat ∧ b.toNat ≤ 57)) → J r h := fun e => hJ _ _ ⟨rfl, by rw [Bool.eq_iff_iff, e]; simp [letB]⟩
  refine cnd_dec (fun h1 => cnd_dec (fun h2 => key (by simp; omega)) (fun h2 => cnd_dec (fun h3 => cnd_dec (fun h4 => key (by simp; omega)) (fun h4 => cnd_dec (fun h5 => key (by simp; omega)) (fun h5 => key (by simp; omega)))) (fun h3 => cnd_dec (fun h5 => key (by simp; omega)) (fun h5 => key (by simp; omega))))) (fun h1 => cnd_dec (fun h3 => cnd_dec (fun h4 => key (by simp; omega)) (fun h4 => cnd_dec (fun h5 => key (by simp; omega)) (fun h5 => key (by simp; omega)))) (fun h3 => cnd_dec (fun h5 => key (by simp; omega)) (fun h5 => key (by simp; omega))))
theorem alnum_spec {h : Heap} {b : UInt8} {R : Bool → Heap → Prop} (hk : R (letB b) h) : CallT Try.prog ref3_Alnum_no [.int .u8 (b.toNat : Int)] h [.sc .bool] R := by
  apply ref3_Alnum_call
  unfold ref3_Alnum
  refine withJ.intro (fun (r : Bool) h' => h' = h ∧ r = letB b) (by rintro r h' ⟨rfl, rfl⟩; exact hk) ?_
  intro J hJ
  have key : ∀ {r : Bool}, (r = true ↔ (65 ≤ b.toNat ∧ b.toNat ≤ 90) ∨ (97 ≤ b.toNat ∧ b.toNat ≤ 122) ∨ (48 ≤ b.toNat ∧ b.toNat ≤ 57)) → J r h := fun e => hJ _ _ ⟨rfl, by rw [Bool.eq_iff_iff, e]; simp [letB]⟩
  refine cnd_dec (fun h1 => cnd_dec (fun h2 => key (by simp; omega)) (fun h2 => cnd_dec (fun h3 => cnd_dec (fun h4 => key (by simp; omega)) (fun h4 => cnd_dec (fun h5 => key (by simp; omega)) (fun h5 => key (by simp; omega)))) (fun h3 => cnd_dec (fun h5 => key (by simp; omega)) (fun h5 => key (by simp; omega))))) (fun h1 => cnd_dec (fun h3 => cnd_dec (fun h4 => key (by simp; omega)) (fun h4 => cnd_dec (fun h5 => key (by simp; omega)) (fun h5 => key (by simp; omega)))) (fun h3 => cnd_dec (fun h5 => key (by simp; omega)) (fun h5 => key (by simp; omega))))

theorem digit_spec {h : Heap} {b : UInt8} {R : Bool → Heap → Prop} (hk : R (digB b) h) : CallT Try.prog http_version_1_no [.int .u8 (b.toNat : Int)] h [.sc .bool] R := by
  apply http_version_1_call
  unfold http_version_1
  refine withJ.intro (fun (r : Bool) h' => h' = h ∧ r = digB b) (by rintro r h' ⟨rfl, rfl⟩; exact hk) ?_
  intro J hJ
  have key : ∀ {r : Bool}, (r = true ↔ (48 ≤ b.toNat ∧ b.toNat ≤ 57)) → J r h := fun e => hJ _ _ ⟨rfl, by rw [Bool.eq_iff_iff, e]; simp [digB]⟩
  exact cnd_dec (fun h1 => key (by simp; omega)) (fun h1 => key (by simp; omega))
theorem digit16_spec {h : Heap} {b : UInt8} {R : Bool → Heap → Prop} (hk : R (digB b) h) : CallT Try.prog ref16_digit_no [.int .u8 (b.toNat : Int)] h [.sc .bool] R := by
  apply ref16_digit_call
  unfold ref16_digit
  refine withJ.intro (fun (r : Bool) h' => h' = h ∧ r = digB b) (by rintro r h' ⟨rfl, rfl⟩; exact hk) ?_
  intro J hJ
  have key : ∀ {r : Bool}, (r = true ↔ (48 ≤ b.toNat ∧ b.toNat ≤ 57)) → J r h := fun e => hJ _ _ ⟨rfl, by rw [Bool.eq_iff_iff, e]; simp [digB]⟩
  exact cnd_dec (fun h1 => key (by simp; omega)) (fun h1 => key (by simp; omega))

theorem contains_iff {l : List UInt8} {c : UInt8} : l.contains c = true ↔ ∃ i : Nat, l[i]? = some c := by
  rw [List.contains_iff_mem, List.mem_iff_getElem?]
theorem ixB_neg (s : ByteArray) (c : UInt8) : decide (ixB s (c.toNat : Int) < 0) = !(bl s).contains c := by
  rcases ixB_is s c with ⟨e, hn⟩ | ⟨i, e, hi, hn⟩
  · rw [e]
    have : (bl s).contains c = false := by
      rw [Bool.eq_false_iff]
      intro h
      obtain ⟨i, hi⟩ := contains_iff.1 h
      exact hn i c hi rfl
    rw [this]; rfl
  · rw [e, contains_iff.2 ⟨i, hi⟩]
    simp
theorem seq_nilB (s : ByteArray) : seq s (⟨#[]⟩ : ByteArray) = decide (bl s = []) := by
  rw [seq_bl]
  rfl

theorem tokenP {s : List UInt8} (h : s.all tokB = false) : tokenL s = false := by unfold tokenL; rw [h]; rfl
theorem tokenQ {s : List UInt8} (h : s.all tokB = true) : tokenL s = !decide (s = []) := by unfold tokenL; rw [h]; rfl

theorem token_spec {h : Heap} {s : ByteArray} (hs : s.size ≤ 4611686018427387904) {R : Bool → Heap → Prop} (hk : R (tokenL (bl s)) h) : CallT Try.prog chars_Token_no [.string s] h [.sc .bool] R := by
  apply chars_Token_call
  unfold chars_Token
  refine scan tokB hs (fun X i b hi hb hy hn => ?_) (fun hall X => ?_)
  · refine cnd_pos (by omega) ?_
    refine withJ.intro (fun _ h' => h' = h ∧ tokB b = true) (by rintro _ _ ⟨rfl, ht⟩; exact hy ht) ?_
    intro J hJ
    refine withJ.intro (fun (q : Bool) h' => h' = h ∧ q = !tokB b) ?_ ?_
    · rintro q h' ⟨rfl, rfl⟩
      refine cnd_of (fun e => ?_) (fun e => hJ _ _ ⟨rfl, by simpa using e⟩)
      rw [tokenP (hn (by simpa using e))] at hk
      exact hk
    · intro J2 hJ2
      refine sidx_at hb (letter_spec ?_)
      refine cnd_of (fun e => ?_) (fun e => ?_)
      · refine sidx_at hb (indexByteH_spec ?_)
        refine hJ2 _ _ ⟨rfl, ?_⟩
        rw [show (⟨#[33, 35, 36, 37, 38, 39, 42, 43, 45, 46, 94, 95, 96, 124, 126]⟩ : ByteArray) = markTk from rfl, ixB_neg]
        unfold tokB
        have : letB b = false := by simpa using e
        rw [this]; rfl
      · refine hJ2 _ _ ⟨rfl, ?_⟩
        unfold tokB
        have : letB b = true := by simpa using e
        rw [this]; rfl
  · refine cnd_neg (by omega) ?_
    rw [seq_nilB]
    rw [tokenQ hall] at hk
    exact hk

theorem in_spec {h : Heap} {s : ByteArray} {c : UInt8} (hs : s.size ≤ 4611686018427387904) {R : Bool → Heap → Prop} (hk : R ((bl s).contains c) h) : CallT Try.prog ref3_in_no [.string s, .int .u8 (c.toNat : Int)] h [.sc .bool] R := by
  apply ref3_in_call
  unfold ref3_in
  refine scan (fun b => !(b == c)) hs (fun X i b hi hb hy hn => ?_) (fun hall X => ?_)
  · refine cnd_pos (by omega) ?_
    refine sidx_at hb ?_
    refine cnd_of (fun e => ?_) (fun e => ?_)
    · have : b = c := UInt8.toNat_inj.1 (by have := eq_of_beq e; omega)
      subst this
      rw [contains_iff.2 ⟨i, hb⟩] at hk
      exact hk
    · refine hy ?_
      have : b ≠ c := fun e2 => by subst e2; simp at e
      simpa using this
  · refine cnd_neg (by omega) ?_
    have : (bl s).contains c = false := by
      rw [Bool.eq_false_iff]
      intro h
      rw [List.contains_iff_mem] at h
      have := List.all_eq_true.1 hall c h
      simp at this
    rw [this] at hk
    exact hk

theorem token3_spec {h : Heap} {s : ByteArray} (hs : s.size ≤ 4611686018427387904) {R : Bool → Heap → Prop} (hk : R (tokenL (bl s)) h) : CallT Try.prog ref3_Token_no [.string s] h [.sc .bool] R := by
  apply ref3_Token_call
  unfold ref3_Token
  refine scan tokB hs (fun X i b hi hb hy hn => ?_) (fun hall X => ?_)
  · refine cnd_pos (by omega) ?_
    refine withJ.intro (fun _ h' => h' = h ∧ tokB b = true) (by rintro _ _ ⟨rfl, ht⟩; exact hy ht) ?_
    intro J hJ
    refine withJ.intro (fun (q : Bool) h' => h' = h ∧ q = !tokB b) ?_ ?_
    · rintro q h' ⟨rfl, rfl⟩
      refine cnd_of (fun e => ?_) (fun e => hJ _ _ ⟨rfl, by simpa using e⟩)
      rw [tokenP (hn (by simpa using e))] at hk
      exact hk
    · intro J2 hJ2
      refine sidx_at hb (alnum_spec ?_)
      refine cnd_of (fun e => ?_) (fun e => ?_)
      · refine sidx_at hb (in_spec (by decide) ?_)
        refine hJ2 _ _ ⟨rfl, ?_⟩
        unfold tokB
        have : letB b = false := by simpa using e
        rw [this]; rfl
      · refine hJ2 _ _ ⟨rfl, ?_⟩
        unfold tokB
        have : letB b = true := by simpa using e
        rw [this]; rfl
  · refine cnd_neg (by omega) ?_
    rw [tokenQ hall] at hk
    have e : decide ((s.size : Int) > 0) = !decide (bl s = []) := by
      rw [Bool.eq_iff_iff]
      have := bl_len s
      simp [← List.length_eq_zero_iff]
      omega
    rw [e]
    exact hk

theorem value_spec {h : Heap} {s : ByteArray} (hs : s.size ≤ 4611686018427387904) {R : Bool → Heap → Prop} (hk : R (valueL (bl s)) h) : CallT Try.prog chars_Value_no [.string s] h [.sc .bool] R := by
  apply chars_Value_call
  unfold chars_Value
  unfold valueL at hk
  refine scan valB hs (fun X i b hi hb hy hn => ?_) (fun hall X => ?_)
  · refine cnd_pos (by omega) ?_
    refine withJ.intro (fun _ h' => h' = h ∧ valB b = true) (by rintro _ _ ⟨rfl, ht⟩; exact hy ht) ?_
    intro J hJ
    refine withJ.intro (fun (q : Bool) h' => h' = h ∧ q = !valB b) ?_ ?_
    · rintro q h' ⟨rfl, rfl⟩
      refine cnd_of (fun e => ?_) (fun e => hJ _ _ ⟨rfl, by simpa using e⟩)
      rw [hn (by simpa using e)] at hk
      exact hk
    · intro J2 hJ2
      have key : ∀ {r : Bool}, (r = true ↔ (b.toNat < 32 ∧ ¬ b.toNat = 9) ∨ b.toNat = 127) → J2 r h := fun e => hJ2 _ _ ⟨rfl, by rw [Bool.eq_iff_iff, e]; simp [valB]⟩
      refine sidx_at hb ?_
      refine cnd_dec (fun e => ?_) (fun e => ?_)
      · refine sidx_at hb ?_
        refine cnd_of (fun e2 => key (by simp at e2 ⊢; omega)) (fun e2 => ?_)
        refine sidx_at hb (key (by simp at e2 ⊢; omega))
      · refine sidx_at hb (key (by simp; omega))
  · refine cnd_neg (by omega) ?_
    rw [hall] at hk
    exact hk
theorem value3_spec {h : Heap} {s : ByteArray} (hs : s.size ≤ 4611686018427387904) {R : Bool → Heap → Prop} (hk : R (valueL (bl s)) h) : CallT Try.prog ref3_Value_no [.string s] h [.sc .bool] R := by
  apply ref3_Value_call
  unfold ref3_Value
  unfold valueL at hk
  refine scan valB hs (fun X i b hi hb hy hn => ?_) (fun hall X => ?_)
  · refine cnd_pos (by omega) ?_
    refine withJ.intro (fun _ h' => h' = h ∧ valB b = true) (by rintro _ _ ⟨rfl, ht⟩; exact hy ht) ?_
    intro J hJ
    refine withJ.intro (fun (q : Bool) h' => h' = h ∧ q = !valB b) ?_ ?_
    · rintro q h' ⟨rfl, rfl⟩
      refine cnd_of (fun e => ?_) (fun e => hJ _ _ ⟨rfl, by simpa using e⟩)
      rw [hn (by simpa using e)] at hk
      exact hk
    · intro J2 hJ2
      have key : ∀ {r : Bool}, (r = true ↔ (b.toNat < 32 ∧ ¬ b.toNat = 9) ∨ b.toNat = 127) → J2 r h := fun e => hJ2 _ _ ⟨rfl, by rw [Bool.eq_iff_iff, e]; simp [valB]⟩
      refine sidx_at hb ?_
      refine cnd_of (fun e => ?_) (fun e => key (by simp at e ⊢; omega))
      refine sidx_at hb ?_
      refine cnd_dec (fun e2 => key (by simp at e ⊢; omega)) (fun e2 => ?_)
      refine sidx_at hb (key (by simp at e ⊢; omega))
  · refine cnd_neg (by omega) ?_
    rw [hall] at hk
    exact hk
theorem target_spec {h : Heap} {s : ByteArray} (hs : s.size ≤ 4611686018427387904) {R : Bool → Heap → Prop} (hk : R (targetL (bl s)) h) : CallT Try.prog http_target_no [.string s] h [.sc .bool] R := by
  apply http_target_call
  unfold http_target
  unfold targetL at hk
  refine scan tarB hs (fun X i b hi hb hy hn => ?_) (fun hall X => ?_)
  · refine cnd_pos (by omega) ?_
    refine withJ.intro (fun _ h' => h' = h ∧ tarB b = true) (by rintro _ _ ⟨rfl, ht⟩; exact hy ht) ?_
    intro J hJ
    refine withJ.intro (fun (q : Bool) h' => h' = h ∧ q = !tarB b) ?_ ?_
    · rintro q h' ⟨rfl, rfl⟩
      refine cnd_of (fun e => ?_) (fun e => hJ _ _ ⟨rfl, by simpa using e⟩)
      rw [hn (by simpa using e)] at hk
      exact hk
    · intro J2 hJ2
      have key : ∀ {r : Bool}, (r = true ↔ b.toNat < 33 ∨ 126 < b.toNat) → J2 r h := fun e => hJ2 _ _ ⟨rfl, by rw [Bool.eq_iff_iff, e]; simp [tarB]⟩
      refine sidx_at hb ?_
      refine cnd_dec (fun e => key (by simp; omega)) (fun e => ?_)
      refine sidx_at hb (key (by simp; omega))
  · refine cnd_neg (by omega) ?_
    rw [seq_nilB]
    rw [hall] at hk
    exact hk

/-! ### blanks -/
theorem blank_spec {h : Heap} {b : UInt8} {R : Bool → Heap → Prop} (hk : R (blankB b) h) : CallT Try.prog chars_blank_no [.int .u8 (b.toNat : Int)] h [.sc .bool] R := by
  apply chars_blank_call
  unfold chars_blank
  refine withJ.intro (fun (r : Bool) h' => h' = h ∧ r = blankB b) (by rintro r h' ⟨rfl, rfl⟩; exact hk) ?_
  intro J hJ
  have e1 : ((b.toNat : Int) == 32) = (b == 32) := by
    rw [Bool.eq_iff_iff, beq_iff_eq, beq_iff_eq, ← UInt8.toNat_inj]
    show _ ↔ b.toNat = 32
    omega
  have e2 : ((b.toNat : Int) == 9) = (b == 9) := by
    rw [Bool.eq_iff_iff, beq_iff_eq, beq_iff_eq, ← UInt8.toNat_inj]
    show _ ↔ b.toNat = 9
    omega
  rw [e1, e2]
  refine cnd_of (fun e => hJ _ _ ⟨rfl, by unfold blankB; rw [e]; rfl⟩) (fun e => hJ _ _ ⟨rfl, by unfold blankB; rw [e]; rfl⟩)

theorem bl_nil_of {s : ByteArray} (h : s.size = 0) : bl s = [] := List.length_eq_zero_iff.1 (by rw [bl_len]; exact h)
theorem rtrim_cons {l : List UInt8} {b : UInt8} (hb : blankB b = true) : ((l ++ [b]).reverse.dropWhile blankB).reverse = (l.reverse.dropWhile blankB).reverse := by
  simp [List.dropWhile_cons, hb]
theorem rtrim_stop {l : List UInt8} {b : UInt8} (hb : blankB b = false) : ((l ++ [b]).reverse.dropWhile blankB).reverse = l ++ [b] := by
  simp [List.dropWhile_cons, hb]
theorem snoc_of {s : ByteArray} (h : s.size ≠ 0) : ∃ l b, bl s = l ++ [b] := by
  have : bl s ≠ [] := fun e => h (by rw [← bl_len, e]; rfl)
  exact ⟨_, _, (List.dropLast_concat_getLast this).symm⟩

def endTrim (s_0 : ByteArray) (R : ByteArray → Heap → Prop) (h : Heap) : Prop :=
  LoopT (σ := ByteArray) (fun X12 s11 h13 =>
  withJ (σ := ByteArray × ByteArray × Int × Int × Int × Bool) (fun s14 h16 =>
  ssl s11 0 (w64 ((s11.size : Int) - 1)) fun s17 =>
  X12 s17 h16) (fun J15 =>
  cnd (!seq s11 (⟨#[]⟩ : ByteArray)) (
  sidx s11 (w64 ((s11.size : Int) - 1)) fun u18 =>
  CallT Try.prog chars_blank_no [.int .u8 (u18.toNat : Int)] h13 [.sc (.bool)] fun (r19 : Bool) h20 =>
  cnd r19 (
  J15 (s11, s11, (s11.size : Int), (w64 ((s11.size : Int) - 1)), (u18.toNat : Int), r19) h20) (
  R s11 h20)) (
  R s11 h13))) s_0 h

theorem endTrim_spec {h : Heap} {s : ByteArray} (hs : s.size ≤ 4611686018427387904) {R : ByteArray → Heap → Prop} (hk : R (ofL ((bl s).reverse.dropWhile blankB).reverse) h) : endTrim s R h := by
  unfold endTrim
  refine LoopT.intro (fun (t : ByteArray) h' => h' = h ∧ t.size ≤ 4611686018427387904 ∧ ((bl t).reverse.dropWhile blankB).reverse = ((bl s).reverse.dropWhile blankB).reverse) (fun t _ => t.size) ⟨rfl, hs, rfl⟩ ?_
  rintro t h' ⟨rfl, ht, e⟩
  rw [← e] at hk ⊢
  refine withJ.intro (fun _ h2 => h2 = h' ∧ ∃ l b, bl t = l ++ [b] ∧ blankB b = true) ?_ ?_
  · rintro _ h2 ⟨rfl, l, b, el, hb⟩
    have hl : t.size = l.length + 1 := by rw [← bl_len, el]; simp
    rw [w64_id (by omega) (by omega)]
    refine ssl_bl (by omega) (by omega) (by omega) ?_
    have e2 : ((bl t).drop (0 : Int).toNat).take (((t.size : Int) - 1).toNat - (0 : Int).toNat) = l := by
      rw [el, show ((t.size : Int) - 1).toNat = l.length by omega]
      simp
    rw [e2]
    refine ⟨⟨rfl, by rw [ofL_size]; omega, ?_⟩, by rw [ofL_size]; omega⟩
    rw [bl_ofL, el, rtrim_cons hb]
  · intro J hJ
    rw [seq_nilB]
    by_cases h0 : t.size = 0
    · have e0 := bl_nil_of h0
      refine cnd_f (by rw [e0]; rfl) ?_
      rw [e0] at hk
      rw [← ofL_bl t, e0]
      exact hk
    · obtain ⟨l, b, el⟩ := snoc_of h0
      have hl : t.size = l.length + 1 := by rw [← bl_len, el]; simp
      refine cnd_t (by rw [el]; simp) ?_
      rw [w64_id (x := (t.size : Int) - 1) (by omega) (by omega), show (t.size : Int) - 1 = (l.length : Int) by omega]
      refine sidx_at (b := b) (by rw [el]; simp) (blank_spec ?_)
      refine cnd_of (fun hb => hJ _ _ ⟨rfl, l, b, el, hb⟩) (fun hb => ?_)
      rw [el, rtrim_stop hb, ← el, ofL_bl] at hk
      exact hk

theorem trim_spec {h : Heap} {s : ByteArray} (hs : s.size ≤ 4611686018427387904) {R : ByteArray → Heap → Prop} (hk : R (ofL (trimL (bl s))) h) : CallT Try.prog chars_Trim_no [.string s] h [.sc .str] R := by
  apply chars_Trim_call
  unfold chars_Trim
  unfold trimL at hk
  refine LoopT.intro (fun (t : ByteArray) h' => h' = h ∧ t.size ≤ 4611686018427387904 ∧ (bl t).dropWhile blankB = (bl s).dropWhile blankB) (fun t _ => t.size) ⟨rfl, hs, rfl⟩ ?_
  rintro t h' ⟨rfl, ht, e⟩
  rw [← e] at hk ⊢
  refine withJ.intro (fun _ h2 => h2 = h' ∧ ∃ b l, bl t = b :: l ∧ blankB b = true) ?_ ?_
  · rintro _ h2 ⟨rfl, b, l, el, hb⟩
    have hl : t.size = l.length + 1 := by rw [← bl_len, el]; simp
    refine ssl_bl (by omega) (by omega) (by omega) ?_
    have e2 : ((bl t).drop (1 : Int).toNat).take ((t.size : Int).toNat - (1 : Int).toNat) = l := by
      rw [el]
      show l.take _ = l
      exact List.take_of_length_le (by omega)
    rw [e2]
    refine ⟨⟨rfl, by rw [ofL_size]; omega, ?_⟩, by rw [ofL_size]; omega⟩
    rw [bl_ofL, el, List.dropWhile_cons, if_pos hb]
  · intro J hJ
    rw [seq_nilB]
    have fin : (bl t).dropWhile blankB = bl t → endTrim t R h' := fun e2 => by
      rw [e2] at hk
      exact endTrim_spec ht hk
    by_cases h0 : t.size = 0
    · have e0 := bl_nil_of h0
      exact cnd_f (by rw [e0]; rfl) (fin (by rw [e0]; rfl))
    · cases el : bl t with
      | nil => exact absurd (by rw [← bl_len, el]; rfl) h0
      | cons b l =>
        refine cnd_t (by simp) ?_
        refine sidx_at (i := 0) (b := b) (by rw [el]; rfl) (blank_spec ?_)
        refine cnd_of (fun hb => hJ _ _ ⟨rfl, b, l, el, hb⟩) (fun hb => ?_)
        exact fin (by rw [el, List.dropWhile_cons, if_neg (by simp [hb])])
end Go.Proofs.Ytjpmjhnjdnbopaa
