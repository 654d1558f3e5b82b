/- Contracts of package alloc: units that are taken, as a list of bits. -/
import Derived.Test.YtmkobpkdodgboaaGAlloc
import Derived.Test.YtmkobpkdodgboaaPArgs
namespace Go.Proofs.Ytmkobpkdodgboaa
open Go D
set_option linter.unusedVariables false
set_option linter.unusedSimpArgs false

namespace Alloc
def bitW (ws : List Nat) (i : Nat) : Bool := (ws.getD (i / 64) 0).testBit (i % 64)
def wv (w : Nat) : Value := .int .u64 (w : Int)
def freeOf (bits : List Bool) : Int := (bits.count false : Nat)

/-- a space at block p, its words in block q -/
structure Rep0 (h : Heap) (p q : Nat) (bits : List Bool) (free : Int) : Prop where
  ex : ∃ (ws : List Nat) (extra : List Value) (cap : Nat), Row h p [.slice (some ⟨q, 0, none⟩) ws.length cap, .int .i64 (bits.length : Int), .int .i64 free] ∧ Row h q (ws.map wv ++ extra) ∧
    ws.length = (bits.length + 63) / 64 ∧ ws.length ≤ cap ∧ cap ≤ ws.length + extra.length ∧ (∀ w ∈ ws, w < 2 ^ 64) ∧ (∀ i, i < bits.length → bits[i]? = some (bitW ws i))
  ne : p ≠ q
  le : bits.length ≤ 4096

abbrev Rep (h : Heap) (p q : Nat) (bits : List Bool) : Prop := Rep0 h p q bits (freeOf bits)

theorem Rep0.keep {S : Nat → Prop} {h h' : Heap} {p q : Nat} {bits : List Bool} {free : Int} (hr : Rep0 h p q bits free) (hk : Keep S h h') (hp : ¬ S p) (hq : ¬ S q) : Rep0 h' p q bits free := by
  obtain ⟨⟨ws, extra, cap, h1, h2, h3⟩, h4, h5⟩ := hr
  exact ⟨⟨ws, extra, cap, hk.row h1 hp, hk.row h2 hq, h3⟩, h4, h5⟩

theorem Rep0.lt {h : Heap} {p q : Nat} {bits : List Bool} {free : Int} (hr : Rep0 h p q bits free) : p < h.size ∧ q < h.size := by
  obtain ⟨⟨ws, extra, cap, r1, r2, _⟩, _, _⟩ := hr
  exact ⟨r1.lt, r2.lt⟩

theorem two63 : (2 : Nat) ^ 63 = 9223372036854775808 := by decide

theorem shr6 {i : Int} (h0 : 0 ≤ i) : shrI .i64 i 6 = ((i.toNat / 64 : Nat) : Int) := by
  obtain ⟨n, rfl⟩ := Int.eq_ofNat_of_zero_le h0
  have := shrI_nat (k := .i64) (x := n) (n := 6) (by decide)
  rw [show ((6 : Nat) : Int) = 6 from rfl] at this
  rw [this, Nat.shiftRight_eq_div_pow]; rfl

theorem and63 {i : Int} (h0 : 0 ≤ i) (h1 : i < 9223372036854775808) : andI .i64 i 63 = ((i.toNat % 64 : Nat) : Int) := by
  obtain ⟨n, rfl⟩ := Int.eq_ofNat_of_zero_le h0
  have := andI_i64 (x := n) (y := 63) (by rw [two63]; omega) (by decide)
  rw [show ((63 : Nat) : Int) = 63 from rfl] at this
  rw [this, show (63 : Nat) = 2 ^ 6 - 1 from rfl, Nat.and_two_pow_sub_one_eq_mod]; rfl

theorem bit_read {w j : Nat} (hw : w < 2 ^ 64) (hj : j < 64) : (andI .u64 (shrI .u64 (w : Int) (j : Int)) 1 == 1) = w.testBit j := by
  rw [shrI_nat (by show j ≤ 64; omega)]
  have hlt : w >>> j < 2 ^ 64 := by rw [Nat.shiftRight_eq_div_pow]; exact Nat.lt_of_le_of_lt (Nat.div_le_self _ _) hw
  have := andI_u64 (x := w >>> j) (y := 1) hlt (by decide)
  rw [show ((1 : Nat) : Int) = 1 from rfl] at this
  rw [this, Nat.testBit, Nat.and_comm]
  by_cases h : (1 &&& w >>> j) = 1
  · rw [h]; rfl
  · have h2 : 1 &&& w >>> j = 0 := by
      have : 1 &&& w >>> j ≤ 1 := Nat.and_le_left
      omega
    rw [h2]; rfl

theorem bit_turn {w j : Nat} (hw : w < 2 ^ 64) (hj : j < 64) : xorI .u64 (w : Int) (shlI .u64 1 (j : Int)) = ((w ^^^ 2 ^ j : Nat) : Int) := by
  have h2 : (2 : Nat) ^ j < 2 ^ 64 := Nat.pow_lt_pow_right (by decide) hj
  have e : shlI .u64 1 (j : Int) = ((2 ^ j : Nat) : Int) := by
    unfold shlI
    rw [Int.toNat_natCast, Nat.min_eq_left (by show j ≤ 64; omega)]
    have e2 : (2 : Nat) ^ 64 = 18446744073709551616 := by decide
    have := wrap_u64_id (x := ((2 ^ j : Nat) : Int)) (Int.natCast_nonneg _) (by omega)
    simpa using this
  rw [e, xorI_u64 hw h2]

theorem taken_spec {h : Heap} {p q : Nat} {bits : List Bool} {free : Int} (hr : Rep0 h p q bits free) {i : Int} (h0 : 0 ≤ i) (h1 : i < bits.length) {R : Bool → Heap → Prop} (hk : R (bits.getD i.toNat false) h) :
    CallT Try.prog alloc_Space_taken_no [.pointer (some ⟨p, 0, none⟩), .int .i64 i] h [.sc .bool] R := by
  apply alloc_Space_taken_call
  obtain ⟨⟨ws, extra, cap, r1, r2, g1, g2, g3, g4, g5⟩, hne, hle⟩ := hr
  simp only [alloc_Space_taken, nn_eq, add_mk, Nat.zero_add]
  have hj : i.toNat / 64 < ws.length := by omega
  have hw : ws.getD (i.toNat / 64) 0 < 2 ^ 64 := by
    rw [List.getD_eq_getElem?_getD, List.getElem?_eq_getElem hj]
    exact g4 _ (List.getElem_mem _)
  refine ldL_row r1 rfl ?_
  rw [shr6 h0, and63 h0 (by omega)]
  refine idx_some (by omega) (by omega) ?_
  rw [Int.toNat_natCast, Nat.mul_one, add_mk, Nat.zero_add]
  refine ldI_row (n := ((ws.getD (i.toNat / 64) 0 : Nat) : Int)) r2 ?_ ?_
  · rw [List.getElem?_append_left (by simpa using hj), List.getElem?_map, List.getD_eq_getElem?_getD, List.getElem?_eq_getElem hj]
    rfl
  · refine geZ_of (by omega) ?_
    rw [bit_read hw (by omega)]
    have := g5 i.toNat (by omega)
    rw [List.getD_eq_getElem?_getD, this] at hk
    exact hk

/-- some bits turned -/
def flip (bits : List Bool) (s k : Nat) : List Bool := bits.mapIdx fun i b => if s ≤ i ∧ i < s + k then !b else b

theorem flip_length (bits : List Bool) (s k : Nat) : (flip bits s k).length = bits.length := by simp [flip]
theorem flip_get (bits : List Bool) (s k i : Nat) : (flip bits s k)[i]? = (bits[i]?).map fun b => if s ≤ i ∧ i < s + k then !b else b := by simp [flip, List.getElem?_mapIdx]
theorem flip_zero (bits : List Bool) (s : Nat) : flip bits s 0 = bits := by
  apply List.ext_getElem?
  intro i
  rw [flip_get]
  cases bits[i]? with
  | none => rfl
  | some b => simp only [Option.map_some, Nat.add_zero]; rw [if_neg (by omega)]
theorem flip_succ (bits : List Bool) (s k : Nat) : flip (flip bits s k) (s + k) 1 = flip bits s (k + 1) := by
  apply List.ext_getElem?
  intro i
  simp only [flip_get]
  cases bits[i]? with
  | none => rfl
  | some b =>
    simp only [Option.map_some]
    by_cases h1 : s ≤ i ∧ i < s + k
    · rw [if_pos h1, if_neg (by omega), if_pos (by omega)]
    · rw [if_neg h1]
      by_cases h2 : i = s + k
      · rw [if_pos (by omega), if_pos (by omega)]
      · rw [if_neg (by omega), if_neg (by omega)]

theorem turn_one {h : Heap} {p q : Nat} {bits : List Bool} {free : Int} (hr : Rep0 h p q bits free) {i : Int} (h0 : 0 ≤ i) (h1 : i < bits.length) {K : Heap → Prop}
    (hk : ∀ h', Rep0 h' p q (flip bits i.toNat 1) free → Keep (· = q) h h' → h'.size = h.size → K h') :
    ldL ⟨p, 0, none⟩ h fun o5 l5 c5 => idx o5 l5 (shrI .i64 i 6) fun a6 => ldI .u64 (a6.add ((shrI .i64 i 6).toNat * 1)) h fun n7 => geZ (andI .i64 i 63) <| idx o5 l5 (shrI .i64 i 6) fun a8 =>
      stC (a8.add ((shrI .i64 i 6).toNat * 1)) (.int .u64 (xorI .u64 n7 (shlI .u64 1 (andI .i64 i 63)))) h K := by
  obtain ⟨⟨ws, extra, cap, r1, r2, g1, g2, g3, g4, g5⟩, hne, hle⟩ := hr
  have hj : i.toNat / 64 < ws.length := by omega
  have hw : ws.getD (i.toNat / 64) 0 < 2 ^ 64 := by
    rw [List.getD_eq_getElem?_getD, List.getElem?_eq_getElem hj]
    exact g4 _ (List.getElem_mem _)
  refine ldL_row r1 rfl ?_
  rw [shr6 h0, and63 h0 (by omega)]
  refine idx_some (by omega) (by omega) ?_
  rw [Int.toNat_natCast, Nat.mul_one, add_mk, Nat.zero_add]
  refine ldI_row (n := ((ws.getD (i.toNat / 64) 0 : Nat) : Int)) r2 ?_ ?_
  · rw [List.getElem?_append_left (by simpa using hj), List.getElem?_map, List.getD_eq_getElem?_getD, List.getElem?_eq_getElem hj]
    rfl
  · refine geZ_of (by omega) ?_
    refine idx_some (by omega) (by omega) ?_
    rw [add_mk, Nat.zero_add]
    rw [bit_turn hw (by omega)]
    refine stC_row r2 (by simp; omega) rfl ?_
    intro h' hs hrow hkeep
    refine hk h' ?_ hkeep hs
    refine ⟨⟨ws.set (i.toNat / 64) (ws.getD (i.toNat / 64) 0 ^^^ 2 ^ (i.toNat % 64)), extra, cap, ?_, ?_, ?_, ?_, ?_, ?_, ?_⟩, hne, by rw [flip_length]; exact hle⟩
    · rw [flip_length, List.length_set]
      exact hkeep.row r1 hne
    · have e : (ws.set (i.toNat / 64) (ws.getD (i.toNat / 64) 0 ^^^ 2 ^ (i.toNat % 64))).map wv ++ extra = (ws.map wv ++ extra).set (i.toNat / 64) (.int .u64 ((ws.getD (i.toNat / 64) 0 ^^^ 2 ^ (i.toNat % 64) : Nat) : Int)) := by
        rw [List.set_append_left _ _ (by simpa using hj), List.map_set]
        rfl
      rw [e]; exact hrow
    · rw [flip_length, List.length_set]; exact g1
    · rw [List.length_set]; exact g2
    · rw [List.length_set]; exact g3
    · intro w hm
      rcases List.mem_or_eq_of_mem_set hm with hm | rfl
      · exact g4 w hm
      · exact Nat.xor_lt_two_pow hw (Nat.pow_lt_pow_right (by decide) (by omega))
    · intro j hjl
      rw [flip_length] at hjl
      rw [flip_get, g5 j hjl]
      simp only [Option.map_some]
      congr 1
      unfold bitW
      by_cases hd : j / 64 = i.toNat / 64
      · have e1 : (ws.set (i.toNat / 64) (ws.getD (i.toNat / 64) 0 ^^^ 2 ^ (i.toNat % 64))).getD (j / 64) 0 = ws.getD (i.toNat / 64) 0 ^^^ 2 ^ (i.toNat % 64) := by
          rw [hd, List.getD_eq_getElem?_getD, List.getElem?_set]
          simp [hj]
        rw [e1, hd, Nat.testBit_xor, Nat.testBit_two_pow]
        by_cases hij : i.toNat = j
        · subst hij
          rw [if_pos (by omega)]
          simp
        · rw [if_neg (by omega)]
          have : ¬ (i.toNat % 64 = j % 64) := by omega
          simp [this]
      · have e1 : (ws.set (i.toNat / 64) (ws.getD (i.toNat / 64) 0 ^^^ 2 ^ (i.toNat % 64))).getD (j / 64) 0 = ws.getD (j / 64) 0 := by
          rw [List.getD_eq_getElem?_getD, List.getElem?_set_ne (fun e => hd e.symm), ← List.getD_eq_getElem?_getD]
        rw [e1, if_neg (by omega)]

theorem turn_spec {h : Heap} {p q : Nat} {bits : List Bool} {free : Int} (hr : Rep0 h p q bits free) {s k : Int} (h0 : 0 ≤ s) (hk0 : 0 ≤ k) (h1 : s + k ≤ bits.length) {R : Unit → Heap → Prop}
    (hk : ∀ h', Rep0 h' p q (flip bits s.toNat k.toNat) free → Keep (· = q) h h' → h'.size = h.size → R () h') :
    CallT Try.prog alloc_Space_turn_no [.pointer (some ⟨p, 0, none⟩), .int .i64 s, .int .i64 k] h [] R := by
  apply alloc_Space_turn_call
  simp only [alloc_Space_turn, nn_eq, add_mk, Nat.zero_add]
  have hle := hr.le
  rw [w64_id (x := s + k) (by omega) (by omega)]
  refine LoopT.intro (fun i h' => s ≤ i ∧ i ≤ s + k ∧ Rep0 h' p q (flip bits s.toNat (i - s).toNat) free ∧ Keep (· = q) h h' ∧ h'.size = h.size) (fun i _ => (s + k - i).toNat) ?_ ?_
  · refine ⟨by omega, by omega, ?_, .refl _ _, rfl⟩
    rw [show (s - s).toNat = 0 by omega, flip_zero]; exact hr
  · rintro i h' ⟨g1, g2, g3, g4, g5⟩
    refine cnd_dec (fun hlt => ?_) (fun hge => ?_)
    · refine turn_one g3 (by omega) (by rw [flip_length]; omega) ?_
      intro h2 q1 q2 q3
      rw [w64_id (x := i + 1) (by omega) (by omega)]
      refine ⟨⟨by omega, by omega, ?_, g4.trans' q2, by omega⟩, by omega⟩
      have := flip_succ bits s.toNat (i - s).toNat
      rw [show s.toNat + (i - s).toNat = i.toNat by omega] at this
      rw [this] at q1
      rw [show (i + 1 - s).toNat = (i - s).toNat + 1 by omega]
      exact q1
    · refine hk h' ?_ g4 g5
      rw [show (i - s).toNat = k.toNat by omega] at g3
      exact g3

/-- k units from s on, all of them of kind t -/
def AllOf (bits : List Bool) (s k : Int) (t : Bool) : Prop := 1 ≤ k ∧ 0 ≤ s ∧ s + k ≤ bits.length ∧ ∀ i : Nat, s ≤ i → (i : Int) < s + k → bits[i]? = some t

theorem all_spec {h : Heap} {p q : Nat} {bits : List Bool} {free : Int} (hr : Rep0 h p q bits free) {s k : Int} {t : Bool} (hs : InI s) (hki : InI k) {R : Bool → Heap → Prop}
    (hyes : AllOf bits s k t → R true h) (hno : ¬ AllOf bits s k t → R false h) :
    CallT Try.prog alloc_Space_all_no [.pointer (some ⟨p, 0, none⟩), .int .i64 s, .int .i64 k, .bool t] h [.sc .bool] R := by
  apply alloc_Space_all_call
  have hle := hr.le
  obtain ⟨r1, r2⟩ : (∃ l c, cellH h ⟨p, 0, none⟩ = some (.slice (some ⟨q, 0, none⟩) l c)) ∧ cellH h ⟨p, 1, none⟩ = some (.int .i64 (bits.length : Int)) := by
    obtain ⟨⟨ws, extra, cap, r1, _⟩, _, _⟩ := hr
    exact ⟨⟨_, _, by rw [r1.cells]; rfl⟩, by rw [r1.cells]; rfl⟩
  unfold InI at hs hki
  simp only [alloc_Space_all, nn_eq, add_mk, Nat.zero_add]
  unfold withJ
  refine cnd_dec (fun hk => hno (fun ha => by have := ha.1; omega)) (fun hk => ?_)
  refine cnd_dec (fun hk => hno (fun ha => by have := ha.2.1; omega)) (fun hk => ?_)
  refine ldI_at r2 ?_
  refine cnd_dec (fun hk => hno (fun ha => by have := ha.2.2.1; omega)) (fun hk => ?_)
  refine ldI_at r2 ?_
  rw [w64_id (x := (bits.length : Int) - s) (by omega) (by omega)]
  refine cnd_dec (fun hk => hno (fun ha => by have := ha.2.2.1; omega)) (fun hk => ?_)
  rw [w64_id (x := s + k) (by omega) (by omega)]
  refine LoopT.intro (fun i h' => h' = h ∧ s ≤ i ∧ i ≤ s + k ∧ ∀ j : Nat, s ≤ j → (j : Int) < i → bits[j]? = some t) (fun i _ => (s + k - i).toNat) ⟨rfl, by omega, by omega, fun j _ _ => by omega⟩ ?_
  rintro i h' ⟨rfl, g1, g2, g3⟩
  refine cnd_dec (fun hlt => ?_) (fun hge => ?_)
  · refine taken_spec hr (by omega) (by omega) ?_
    have hi : bits[i.toNat]? = some (bits.getD i.toNat false) := by
      rw [List.getD_eq_getElem?_getD, List.getElem?_eq_getElem (by omega)]; rfl
    refine cnd_of (fun hb => hno ?_) (fun hb => ?_)
    · intro ha
      have := ha.2.2.2 i.toNat (by omega) (by omega)
      rw [hi] at this
      injection this with this
      rw [this] at hb
      simp at hb
    · have hb' : bits.getD i.toNat false = t := by simpa using hb
      rw [w64_id (x := i + 1) (by omega) (by omega)]
      refine ⟨⟨rfl, by omega, by omega, fun j hj1 hj2 => ?_⟩, by omega⟩
      by_cases hji : (j : Int) < i
      · exact g3 j hj1 hji
      · have : j = i.toNat := by omega
        rw [this, hi, hb']
  · exact hyes ⟨by omega, by omega, by omega, fun j hj1 hj2 => g3 j hj1 (by omega)⟩

theorem split_all {bits : List Bool} {s k : Nat} {t : Bool} (hl : s + k ≤ bits.length) (h : ∀ i, s ≤ i → i < s + k → bits[i]? = some t) :
    bits = bits.take s ++ (List.replicate k t ++ bits.drop (s + k)) ∧ flip bits s k = bits.take s ++ (List.replicate k (!t) ++ bits.drop (s + k)) := by
  have hlen : (bits.take s).length = s := by rw [List.length_take]; omega
  have key : ∀ (u : Bool) (i : Nat), (bits.take s ++ (List.replicate k u ++ bits.drop (s + k)))[i]? = if s ≤ i ∧ i < s + k then some u else bits[i]? := by
    intro u i
    by_cases h1 : i < s
    · rw [List.getElem?_append_left (by omega), List.getElem?_take, if_pos h1, if_neg (by omega)]
    · rw [List.getElem?_append_right (by omega), hlen]
      by_cases h2 : i < s + k
      · rw [List.getElem?_append_left (by rw [List.length_replicate]; omega), List.getElem?_replicate, if_pos (by omega), if_pos (by omega)]
      · rw [List.getElem?_append_right (by rw [List.length_replicate]; omega), List.length_replicate, List.getElem?_drop, if_neg (by omega)]
        congr 1; omega
  constructor
  · apply List.ext_getElem?
    intro i
    rw [key]
    by_cases h1 : s ≤ i ∧ i < s + k
    · rw [if_pos h1, h i h1.1 h1.2]
    · rw [if_neg h1]
  · apply List.ext_getElem?
    intro i
    rw [key, flip_get]
    by_cases h1 : s ≤ i ∧ i < s + k
    · rw [if_pos h1, h i h1.1 h1.2]; simp only [Option.map_some]; rw [if_pos h1]
    · rw [if_neg h1]
      cases bits[i]? with
      | none => rfl
      | some b => simp only [Option.map_some]; rw [if_neg h1]

theorem freeOf_flip {bits : List Bool} {s k : Int} {t : Bool} (h : AllOf bits s k t) : freeOf (flip bits s.toNat k.toNat) = if t then freeOf bits + k else freeOf bits - k := by
  obtain ⟨h1, h2, h3, h4⟩ := h
  obtain ⟨e1, e2⟩ := split_all (bits := bits) (s := s.toNat) (k := k.toNat) (t := t) (by omega) (fun i hi1 hi2 => h4 i (by omega) (by omega))
  unfold freeOf
  rw [e2]
  conv => rhs; rw [e1]
  simp only [List.count_append, List.count_replicate]
  cases t <;> simp <;> omega

theorem freeOf_le (bits : List Bool) : 0 ≤ freeOf bits ∧ freeOf bits ≤ bits.length := by
  unfold freeOf
  have := List.count_le_length (a := false) (l := bits)
  omega

theorem Rep0.setFree {h : Heap} {p q : Nat} {bits : List Bool} {free : Int} (hr : Rep0 h p q bits free) {n : Int} {K : Heap → Prop}
    (hk : ∀ h', Rep0 h' p q bits n → Keep (· = p) h h' → h'.size = h.size → K h') : stC ⟨p, 2, none⟩ (.int .i64 n) h K := by
  obtain ⟨⟨ws, extra, cap, r1, r2, hrest⟩, hne, hle⟩ := hr
  refine stC_row r1 (by simp) rfl ?_
  intro h' hs hrow hkeep
  exact hk h' ⟨⟨ws, extra, cap, hrow, hkeep.row r2 (fun e => hne e.symm), hrest⟩, hne, hle⟩ hkeep hs

theorem Rep0.free {h : Heap} {p q : Nat} {bits : List Bool} {free : Int} (hr : Rep0 h p q bits free) : cellH h ⟨p, 2, none⟩ = some (.int .i64 free) ∧ cellH h ⟨p, 1, none⟩ = some (.int .i64 (bits.length : Int)) := by
  obtain ⟨⟨ws, extra, cap, r1, _⟩, _, _⟩ := hr
  exact ⟨by rw [r1.cells]; rfl, by rw [r1.cells]; rfl⟩

theorem give_spec {h : Heap} {p q : Nat} {bits : List Bool} (hr : Rep h p q bits) {s k : Int} (hs : InI s) (hki : InI k) {R : Int → Heap → Prop}
    (hyes : AllOf bits s k true → ∀ h', Rep h' p q (flip bits s.toNat k.toNat) → Keep (fun x => x = p ∨ x = q) h h' → h'.size = h.size → R 0 h') (hno : ¬ AllOf bits s k true → R 1 h) :
    CallT Try.prog alloc_Space_Give_no [.pointer (some ⟨p, 0, none⟩), .int .i64 s, .int .i64 k] h [.sc (.int .i64)] R := by
  apply alloc_Space_Give_call
  have hle := hr.le
  simp only [alloc_Space_Give, nn_eq, add_mk, Nat.zero_add]
  refine all_spec hr hs hki (fun ha => cnd_f rfl ?_) (fun hn => cnd_t rfl (hno hn))
  obtain ⟨g1, g2, g3, _⟩ := id ha
  refine turn_spec hr g2 (by omega) g3 ?_
  intro h1 q1 q2 q3
  refine ldI_at q1.free.1 ?_
  have hb := freeOf_le bits
  rw [w64_id (x := freeOf bits + k) (by omega) (by omega)]
  refine q1.setFree ?_
  intro h2 w1 w2 w3
  refine hyes ha h2 ?_ ((q2.mono (fun _ _ h => .inr h)).trans' (w2.mono (fun _ _ h => .inl h))) (by omega)
  have := freeOf_flip ha
  unfold Rep
  rw [this]; exact w1

theorem mark_spec {h : Heap} {p q : Nat} {bits : List Bool} (hr : Rep h p q bits) {s k : Int} (hs : InI s) (hki : InI k) {R : Int → Heap → Prop}
    (hyes : AllOf bits s k false → ∀ h', Rep h' p q (flip bits s.toNat k.toNat) → Keep (fun x => x = p ∨ x = q) h h' → h'.size = h.size → R 0 h') (hno : ¬ AllOf bits s k false → R 1 h) :
    CallT Try.prog alloc_Space_Mark_no [.pointer (some ⟨p, 0, none⟩), .int .i64 s, .int .i64 k] h [.sc (.int .i64)] R := by
  apply alloc_Space_Mark_call
  have hle := hr.le
  simp only [alloc_Space_Mark, nn_eq, add_mk, Nat.zero_add]
  refine all_spec hr hs hki (fun ha => cnd_f rfl ?_) (fun hn => cnd_t rfl (hno hn))
  obtain ⟨g1, g2, g3, _⟩ := id ha
  refine turn_spec hr g2 (by omega) g3 ?_
  intro h1 q1 q2 q3
  refine ldI_at q1.free.1 ?_
  have hb := freeOf_le bits
  rw [w64_id (x := freeOf bits - k) (by omega) (by omega)]
  refine q1.setFree ?_
  intro h2 w1 w2 w3
  refine hyes ha h2 ?_ ((q2.mono (fun _ _ h => .inr h)).trans' (w2.mono (fun _ _ h => .inl h))) (by omega)
  have := freeOf_flip ha
  unfold Rep
  rw [this]; exact w1

/-- the first k free units that follow one another -/
def First (bits : List Bool) (k s : Int) : Prop := AllOf bits s k false ∧ ∀ s' : Int, s' < s → ¬ AllOf bits s' k false

theorem take_spec {h : Heap} {p q : Nat} {bits : List Bool} (hr : Rep h p q bits) {k : Int} (hki : InI k) {R : Int × Int → Heap → Prop}
    (hyes : ∀ s, First bits k s → ∀ h', Rep h' p q (flip bits s.toNat k.toNat) → Keep (fun x => x = p ∨ x = q) h h' → h'.size = h.size → R (s, 0) h')
    (harg : k < 1 → R (0, 1) h) (hfull : 1 ≤ k → (∀ s, ¬ AllOf bits s k false) → R (0, 60) h) :
    CallT Try.prog alloc_Space_Take_no [.pointer (some ⟨p, 0, none⟩), .int .i64 k] h [.sc (.int .i64), .sc (.int .i64)] R := by
  apply alloc_Space_Take_call
  have hle := hr.le
  obtain ⟨r2, r1⟩ := hr.free
  unfold InI at hki
  simp only [alloc_Space_Take, nn_eq, add_mk, Nat.zero_add]
  refine cnd_dec harg (fun hk => ?_)
  refine LoopT.intro (fun s h' => h' = h ∧ 0 ≤ s ∧ s ≤ bits.length ∧ ∀ s' : Int, s' < s → ¬ AllOf bits s' k false) (fun s _ => ((bits.length : Int) + 1 - s).toNat) ⟨rfl, by omega, by omega, fun s' hs' ha => by have := ha.2.1; omega⟩ ?_
  rintro s h' ⟨rfl, g1, g2, g3⟩
  refine ldI_at r1 ?_
  rw [w64_id (x := (bits.length : Int) - k) (by omega) (by omega)]
  refine cnd_dec (fun hin => ?_) (fun hout => ?_)
  · rw [w64_id (x := s + k) (by omega) (by omega), w64_id (x := s + k - 1) (by omega) (by omega)]
    refine LoopT.intro (fun x h2 => h2 = h' ∧ x.1 = s ∧ s - 1 ≤ x.2 ∧ x.2 ≤ s + k - 1 ∧ ∀ j : Nat, x.2 < j → (j : Int) < s + k → bits[j]? = some false) (fun x _ => (x.2 - s + 1).toNat) ⟨rfl, rfl, by omega, by omega, fun j _ _ => by omega⟩ ?_
    rintro ⟨x1, i⟩ h2 ⟨rfl, rfl, q2, q3, q4⟩
    simp only at q2 q3 q4
    refine cnd_dec (fun hge => ?_) (fun hlt => ?_)
    · simp only at hge
      refine taken_spec hr (by omega) (by omega) ?_
      have hi : bits[i.toNat]? = some (bits.getD i.toNat false) := by
        rw [List.getD_eq_getElem?_getD, List.getElem?_eq_getElem (by omega)]; rfl
      refine cnd_of (fun hb => ?_) (fun hb => ?_)
      · show _ ∧ _
        rw [w64_id (x := i + 1) (by omega) (by omega)]
        refine ⟨⟨rfl, by omega, by omega, fun s' hs' ha => ?_⟩, by omega⟩
        by_cases h3 : s' < x1
        · exact g3 s' h3 ha
        · have := ha.2.2.2 i.toNat (by omega) (by omega)
          rw [hi, hb] at this
          cases this
      · show _ ∧ _
        rw [w64_id (x := i - 1) (by omega) (by omega)]
        refine ⟨⟨rfl, rfl, by show _ ≤ i - 1; omega, by show i - 1 ≤ _; omega, fun j hj1 hj2 => ?_⟩, by show (i - 1 - _ + 1).toNat < (i - _ + 1).toNat; omega⟩
        replace hj1 : i - 1 < (j : Int) := hj1
        by_cases hji : i < j
        · exact q4 j hji hj2
        · have : j = i.toNat := by omega
          rw [this, hi, hb]
    · simp only at hlt
      have hall : AllOf bits x1 k false := ⟨by omega, by omega, by omega, fun j hj1 hj2 => q4 j (by omega) hj2⟩
      refine turn_spec hr (by omega) (by omega) (by omega) ?_
      intro h3 w1 w2 w3
      refine ldI_at w1.free.1 ?_
      have hb := freeOf_le bits
      rw [w64_id (x := freeOf bits - k) (by omega) (by omega)]
      refine w1.setFree ?_
      intro h4 v1 v2 v3
      refine hyes x1 ⟨hall, g3⟩ h4 ?_ ((w2.mono (fun _ _ h => .inr h)).trans' (v2.mono (fun _ _ h => .inl h))) (by omega)
      have := freeOf_flip hall
      unfold Rep
      rw [this]; exact v1
  · refine hfull (by omega) (fun s' ha => ?_)
    by_cases h3 : s' < s
    · exact g3 s' h3 ha
    · have := ha.2.2.1
      omega

theorem free_spec {h : Heap} {p q : Nat} {bits : List Bool} {free : Int} (hr : Rep0 h p q bits free) {R : Int → Heap → Prop} (hk : R free h) :
    CallT Try.prog alloc_Space_Free_no [.pointer (some ⟨p, 0, none⟩)] h [.sc (.int .i64)] R := by
  apply alloc_Space_Free_call
  simp only [alloc_Space_Free, nn_eq, add_mk, Nat.zero_add]
  exact ldI_at hr.free.1 hk

theorem new_spec {h : Heap} {n : Int} (hn : InI n) {R : (Option Addr) × Int → Heap → Prop} (hno : (n < 0 ∨ 4096 < n) → R (none, 1) h)
    (hyes : 0 ≤ n → n ≤ 4096 → ∀ p q h', h.size ≤ p → h.size ≤ q → Rep h' p q (List.replicate n.toNat false) → Keep (fun _ => False) h h' → R (some ⟨p, 0, none⟩, 0) h') :
    CallT Try.prog alloc_New_no [.int .i64 n] h [.sc .ptr, .sc (.int .i64)] R := by
  apply alloc_New_call
  unfold InI at hn
  simp only [alloc_New, withJ]
  refine cnd_dec (fun h1 => hno (.inl h1)) (fun h1 => ?_)
  refine cnd_dec (fun h2 => hno (.inr (by omega))) (fun h2 => ?_)
  have e1 : w64 ((w64 (n + 63)).tdiv 64) = ((n.toNat + 63) / 64 : Nat) := by
    rw [w64_id (x := n + 63) (by omega) (by omega), Int.tdiv_eq_ediv_of_nonneg (by omega), w64_id (by omega) (by omega)]
    omega
  rw [e1]
  refine mkSl_row (by omega) (by omega) (by omega) (by omega) ?_
  intro h' s1 r1 k1
  rw [Int.toNat_natCast]
  refine newB_row ?_
  intro h2 s2 r2 k2
  refine hyes (by omega) (by omega) h'.size h.size h2 (by omega) (by omega) ?_ (k1.trans' k2)
  refine ⟨⟨List.replicate ((n.toNat + 63) / 64) 0, [], (n.toNat + 63) / 64, ?_, ?_, by simp, by simp, by simp, ?_, ?_⟩, by omega, by simp; omega⟩
  · have e : freeOf (List.replicate n.toNat false) = n := by simp [freeOf]; omega
    rw [e]
    simp only [List.length_replicate]
    rw [show ((n.toNat : Nat) : Int) = n by omega]
    exact r2
  · have := k2.row r1 (by simp)
    rw [zerosL_one, Int.toNat_natCast] at this
    simpa [wv] using this
  · intro w hw
    have := List.eq_of_mem_replicate hw
    subst this; decide
  · intro i hi
    rw [List.length_replicate] at hi
    rw [List.getElem?_replicate, if_pos hi]
    unfold bitW
    rw [List.getD_eq_getElem?_getD, List.getElem?_replicate]
    split <;> simp

end Alloc
end Go.Proofs.Ytmkobpkdodgboaa
