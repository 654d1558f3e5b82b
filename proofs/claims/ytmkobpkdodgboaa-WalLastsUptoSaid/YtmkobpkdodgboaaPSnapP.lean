/- Plain laws of the two slots: the newest that was saved is loaded, through failures and crashes. -/
import Derived.Test.YtmkobpkdodgboaaPSnapC
import Derived.Test.YtmkobpkdodgboaaPView
namespace Go.Proofs.Ytmkobpkdodgboaa
open Go D
set_option linter.unusedVariables false
set_option linter.unusedSimpArgs false
namespace Enc
theorem g64_append (a b : List UInt8) : g64 (a ++ b) = b.foldl (fun n b => n * 256 + b.toNat) (g64 a) := by simp [g64]
theorem g64_p64 {n : Nat} (h : n < 18446744073709551616) : g64 (p64 n) = n := by
  simp only [g64, p64, b64, List.range, List.range.loop, List.map_cons, List.map_nil, List.foldl_cons, List.foldl_nil, UInt8.toNat_ofNat', Nat.shiftRight_eq_div_pow]
  simp only [Nat.reduceMul, Nat.reduceSub, Nat.reducePow, Nat.zero_mul, Nat.zero_add, Nat.div_one]
  omega
end Enc
namespace Snap
open Disk Enc Hash

theorem data_ofL (l : List UInt8) : (ofL l).data.toList = l := by simp [ofL]

/-- the writes of a state's sectors -/
def dat (at_ : Int) (st : List UInt8) (n : Nat) : List (Int × ByteArray) := (List.range n).map fun (j : Nat) => (at_ + 1 + (j : Int), ofL (secL st j))
theorem dat_succ (at_ : Int) (st : List UInt8) (n : Nat) : dat at_ st (n + 1) = dat at_ st n ++ [(at_ + 1 + (n : Int), ofL (secL st n))] := by
  unfold dat
  rw [List.range_succ, List.map_append]
  rfl
theorem dat_mem {at_ : Int} {st : List UInt8} {n : Nat} {x : Int × ByteArray} (h : x ∈ dat at_ st n) : ∃ j, j < n ∧ x = (at_ + 1 + (j : Int), ofL (secL st j)) := by
  unfold dat at h
  obtain ⟨j, hj, rfl⟩ := List.mem_map.1 h
  exact ⟨j, by simpa using hj, rfl⟩
theorem lk_dat (at_ : Int) (st : List UInt8) (i : Int) (z : ByteArray) : ∀ n : Nat, lk (dat at_ st n) i z = if at_ < i ∧ i < at_ + 1 + n then ofL (secL st (i - at_ - 1).toNat) else z
  | 0 => by
    rw [if_neg (by omega)]; rfl
  | n + 1 => by
    rw [dat_succ, lk_append, lk_one, lk_dat at_ st i z n]
    by_cases e : at_ + 1 + (n : Int) = i
    · rw [if_pos e, if_pos (by omega)]
      have : (i - at_ - 1).toNat = n := by omega
      rw [this]
    · rw [if_neg e]
      by_cases e2 : at_ < i ∧ i < at_ + 1 + n
      · rw [if_pos e2, if_pos (by omega)]
      · rw [if_neg e2, if_neg (by omega)]

theorem wr_c (at_ : Int) (st : List UInt8) (m : M) : ∀ i : Nat, (wr at_ st i m).2.l = m.l ∧ ((wr at_ st i m).1 = 0 → (wr at_ st i m).2.c = m.c ++ dat at_ st i) ∧ ∃ j, j ≤ i ∧ (wr at_ st i m).2.c = m.c ++ dat at_ st j
  | 0 => ⟨rfl, fun _ => (by simp [dat, wr]), 0, Nat.le_refl _, by simp [dat, wr]⟩
  | i + 1 => by
    obtain ⟨h1, h2, j, h3, h4⟩ := wr_c at_ st m i
    by_cases e : (wr at_ st i m).1 = 0
    · have ew : wr at_ st (i + 1) m = write (wr at_ st i m).2 (at_ + 1 + i) (ofL (secL st i)) := by
        show (if _ then _ else _) = _
        rw [if_neg (by simpa using e)]
      rw [ew]
      obtain ⟨w1, w2, w3⟩ := write_c (wr at_ st i m).2 (at_ + 1 + i) (ofL (secL st i))
      have hc := h2 e
      refine ⟨by rw [w1, h1], fun h => by rw [w2 h, hc, dat_succ, List.append_assoc], ?_⟩
      by_cases ez : (write (wr at_ st i m).2 (at_ + 1 + i) (ofL (secL st i))).1 = 0
      · exact ⟨i + 1, Nat.le_refl _, by rw [w2 ez, hc, dat_succ, List.append_assoc]⟩
      · exact ⟨i, by omega, by rw [w3 ez, hc]⟩
    · have ew : wr at_ st (i + 1) m = wr at_ st i m := by
        show (if _ then _ else _) = _
        rw [if_pos e]
      rw [ew]
      exact ⟨h1, fun h => absurd h e, j, by omega, h4⟩

/-- what is seen once all is written -/
def newS (at_ : Int) (e : Nat) (st : List UInt8) (i : Int) (z : ByteArray) : ByteArray := if i = at_ then headS e st else if at_ < i ∧ i < at_ + 1 + (parts st.length : Int) then ofL (secL st (i - at_ - 1).toNat) else z

theorem dat_pos {at_ : Int} (h : 0 ≤ at_) {st : List UInt8} {n : Nat} : ∀ x ∈ dat at_ st n, 0 ≤ x.1 := fun x hx => by
  obtain ⟨j, _, rfl⟩ := dat_mem hx
  show 0 ≤ at_ + 1 + (j : Int)
  omega

theorem saveAt_eq (m : M) (at_ : Int) (e : Nat) (st : List UInt8) : saveAt m at_ e st = (if (wr at_ st (parts st.length) m).1 ≠ 0 then wr at_ st (parts st.length) m else
  if (flush (wr at_ st (parts st.length) m).2).1 ≠ 0 then flush (wr at_ st (parts st.length) m).2 else
  if (write (flush (wr at_ st (parts st.length) m).2).2 at_ (headS e st)).1 ≠ 0 then write (flush (wr at_ st (parts st.length) m).2).2 at_ (headS e st) else flush (write (flush (wr at_ st (parts st.length) m).2).2 at_ (headS e st)).2) := rfl

theorem save_plain {m : M} (hc : m.c = []) {at_ : Int} (h0 : 0 ≤ at_) (e : Nat) (st : List UInt8) (h1 : at_ + parts st.length < m.l.length) :
    (saveAt m at_ e st).2.l.length = m.l.length ∧ ((saveAt m at_ e st).1 = 0 → (saveAt m at_ e st).2.c = [] ∧ ∀ i : Int, 0 ≤ i → i < m.l.length → readAt (saveAt m at_ e st).2 i = newS at_ e st i (readAt m i)) ∧
    ((saveAt m at_ e st).1 ≠ 0 → ∀ ks, (∀ i : Int, 0 ≤ i → i < m.l.length → (i < at_ ∨ at_ + parts st.length < i) → readAt (crash (saveAt m at_ e st).2 ks) i = readAt m i) ∧
      (readAt (crash (saveAt m at_ e st).2 ks) at_ = readAt m at_ ∨ ∀ i : Int, at_ ≤ i → i ≤ at_ + parts st.length → readAt (crash (saveAt m at_ e st).2 ks) i = newS at_ e st i (readAt m i))) := by
  have hrd : ∀ i, readAt m i = sec m.l i := fun i => by rw [readAt_lk, hc]; rfl
  obtain ⟨w1, w2, j, w3, w4⟩ := wr_c at_ st m (parts st.length)
  rw [hc, List.nil_append] at w4
  -- a device of which only some sectors were written
  have part : ∀ m' : M, m'.l = m.l → m'.c = dat at_ st j → ∀ ks, (∀ i : Int, 0 ≤ i → i < m.l.length → (i < at_ ∨ at_ + parts st.length < i) → readAt (crash m' ks) i = readAt m i) ∧
      (readAt (crash m' ks) at_ = readAt m at_ ∨ ∀ i : Int, at_ ≤ i → i ≤ at_ + parts st.length → readAt (crash m' ks) i = newS at_ e st i (readAt m i)) := by
    intro m' e1 e2 ks
    have key : ∀ i : Int, 0 ≤ i → i < m.l.length → (i ≤ at_ ∨ at_ + parts st.length < i) → readAt (crash m' ks) i = readAt m i := fun i g0 g1 g2 => by
      rcases crash_poss (m := m') ks g0 (by rw [e1]; exact g1) (by rw [e2]; exact dat_pos h0) with h | ⟨x, hx, h2, h3⟩
      · rw [h, e1, hrd]
      · rw [e2] at hx
        obtain ⟨k, hk, rfl⟩ := dat_mem hx
        replace h2 : at_ + 1 + (k : Int) = i := h2
        omega
    exact ⟨fun i g0 g1 g2 => key i g0 g1 (by omega), .inl (key at_ h0 (by omega) (by omega))⟩
  by_cases e1 : (wr at_ st (parts st.length) m).1 = 0
  rotate_left
  · rw [show saveAt m at_ e st = wr at_ st (parts st.length) m by rw [saveAt_eq, if_pos e1]]
    exact ⟨by rw [w1], fun h => absurd h e1, fun _ ks => part _ w1 w4 ks⟩
  have hc1 := w2 e1
  rw [hc, List.nil_append] at hc1
  obtain ⟨r, hr⟩ : ∃ r, r = (wr at_ st (parts st.length) m).2 := ⟨_, rfl⟩
  rw [← hr] at w1 w4 hc1
  have hl1 : r.l.length = m.l.length := by rw [w1]
  have rpos : ∀ x ∈ r.c, 0 ≤ x.1 := by rw [hc1]; exact dat_pos h0
  have rrd : ∀ i, readAt r i = if at_ < i ∧ i < at_ + 1 + (parts st.length : Int) then ofL (secL st (i - at_ - 1).toNat) else readAt m i := fun i => by
    rw [readAt_lk, hc1, lk_dat, w1, hrd]
  by_cases e2 : (flush r).1 = 0
  rotate_left
  · rw [show saveAt m at_ e st = flush r by rw [saveAt_eq, if_neg (Classical.not_not.2 e1), ← hr, if_pos e2]]
    obtain ⟨f1, f2⟩ := (flush_c r).2 e2
    exact ⟨by rw [f1, hl1], fun h => absurd h e2, fun _ ks => part _ (by rw [f1, w1]) (by rw [f2, w4]) ks⟩
  obtain ⟨f1, f2⟩ := (flush_c r).1 e2
  obtain ⟨f, hf⟩ : ∃ f, f = (flush r).2 := ⟨_, rfl⟩
  rw [← hf] at f1 f2
  have hl2 : f.l.length = m.l.length := by rw [f1, lays_length, hl1]
  have frd : ∀ i : Int, 0 ≤ i → i < m.l.length → sec f.l i = if at_ < i ∧ i < at_ + 1 + (parts st.length : Int) then ofL (secL st (i - at_ - 1).toNat) else readAt m i := fun i g0 g1 => by
    rw [hf, flush_view e2 g0 (by rw [hl1]; exact g1) rpos, rrd]
  obtain ⟨v1, v2, v3⟩ := write_c f at_ (headS e st)
  -- a device of which all is flushed but the head
  have late : ∀ m' : M, m'.l = f.l → (m'.c = [] ∨ m'.c = [(at_, headS e st)]) → ∀ ks, (∀ i : Int, 0 ≤ i → i < m.l.length → (i < at_ ∨ at_ + parts st.length < i) → readAt (crash m' ks) i = readAt m i) ∧
      (readAt (crash m' ks) at_ = readAt m at_ ∨ ∀ i : Int, at_ ≤ i → i ≤ at_ + parts st.length → readAt (crash m' ks) i = newS at_ e st i (readAt m i)) := by
    intro m' g1 g2 ks
    have pos : ∀ x ∈ m'.c, 0 ≤ x.1 := by
      rcases g2 with g | g <;> rw [g] <;> intro x hx
      · cases hx
      · simp only [List.mem_singleton] at hx
        subst hx
        exact h0
    have key : ∀ i : Int, 0 ≤ i → i < m.l.length → i ≠ at_ → readAt (crash m' ks) i = sec f.l i := fun i q0 q1 q2 => by
      rcases crash_poss (m := m') ks q0 (by rw [g1, hl2]; exact q1) pos with h | ⟨x, hx, h2, h3⟩
      · rw [h, g1]
      · rcases g2 with g | g <;> rw [g] at hx
        · cases hx
        · simp only [List.mem_singleton] at hx
          subst hx
          exact absurd h2 (fun e => q2 e.symm)
    refine ⟨fun i q0 q1 q2 => by rw [key i q0 q1 (by omega), frd i q0 q1, if_neg (by omega)], ?_⟩
    have hat : readAt (crash m' ks) at_ = readAt m at_ ∨ readAt (crash m' ks) at_ = headS e st := by
      rcases crash_poss (m := m') ks h0 (by rw [g1, hl2]; omega) pos with h | ⟨x, hx, h2, h3⟩
      · left
        rw [h, g1, frd at_ h0 (by omega), if_neg (by omega)]
      · right
        rcases g2 with g | g <;> rw [g] at hx
        · cases hx
        · simp only [List.mem_singleton] at hx
          subst hx
          exact h3.symm
    rcases hat with h | h
    · exact .inl h
    · refine .inr (fun i q1 q2 => ?_)
      unfold newS
      by_cases ei : i = at_
      · rw [if_pos ei, ei, h]
      · rw [if_neg ei, key i (by omega) (by omega) ei, frd i (by omega) (by omega)]
  by_cases e3 : (write f at_ (headS e st)).1 = 0
  rotate_left
  · rw [show saveAt m at_ e st = write f at_ (headS e st) by rw [saveAt_eq, if_neg (Classical.not_not.2 e1), ← hr, if_neg (Classical.not_not.2 e2), ← hf, if_pos e3]]
    exact ⟨by rw [v1, hl2], fun h => absurd h e3, fun _ ks => late _ v1 (.inl (by rw [v3 e3, f2])) ks⟩
  have hc3 := v2 e3
  rw [f2, List.nil_append] at hc3
  obtain ⟨g, hg⟩ : ∃ g, g = (write f at_ (headS e st)).2 := ⟨_, rfl⟩
  rw [← hg] at v1 hc3
  rw [show saveAt m at_ e st = flush g by rw [saveAt_eq, if_neg (Classical.not_not.2 e1), ← hr, if_neg (Classical.not_not.2 e2), ← hf, if_neg (Classical.not_not.2 e3), ← hg]]
  by_cases e4 : (flush g).1 = 0
  rotate_left
  · obtain ⟨q1, q2⟩ := (flush_c g).2 e4
    exact ⟨by rw [q1, v1, hl2], fun h => absurd h e4, fun _ ks => late _ (by rw [q1, v1]) (.inr (by rw [q2, hc3])) ks⟩
  obtain ⟨q1, q2⟩ := (flush_c g).1 e4
  refine ⟨by rw [q1, lays_length, v1, hl2], fun _ => ⟨q2, fun i p0 p1 => ?_⟩, fun h => absurd e4 h⟩
  rw [readAt_lk, q2]
  show sec (flush g).2.l i = _
  rw [flush_view e4 p0 (by rw [v1, hl2]; exact p1) (by rw [hc3]; intro x hx; simp only [List.mem_singleton] at hx; subst hx; exact h0), readAt_lk, hc3, lk_one, v1, frd i p0 p1]
  unfold newS
  by_cases ei : at_ = i
  · rw [if_pos ei, if_pos ei.symm]
  · rw [if_neg ei, if_neg (show ¬ i = at_ from fun h => ei h.symm)]
    try omega

/-! ### a slot -/
theorem slot_congr {m m' : M} {at_ n : Int} (h : ∀ i, at_ ≤ i → i < at_ + n → readAt m' i = readAt m i) (hn : 1 ≤ n) (odd : Nat) : slotM m' at_ n odd = slotM m at_ n odd := by
  have h0 : hdr m' at_ = hdr m at_ := by unfold hdr; rw [h at_ (by omega) (by omega)]
  have hE' : hE m' at_ = hE m at_ := by unfold hE; rw [h0]
  have hN' : hN m' at_ = hN m at_ := by unfold hN; rw [h0]
  have hB : hBad m' at_ n odd = hBad m at_ n odd := by unfold hBad; rw [h0, hE', hN']
  unfold slotM
  rw [hB]
  by_cases hb : hBad m at_ n odd = true
  · rw [if_pos hb, if_pos hb]
  · rw [if_neg hb, if_neg hb]
    have hle : ¬ ((n - 1) * 256 < (hN m at_ : Int)) := by
      unfold hBad at hb
      simp only [Bool.or_eq_true, decide_eq_true_eq, not_or] at hb
      exact hb.2.2
    have hR : ∀ k, k ≤ parts (hN m at_) → rdN m' at_ k = rdN m at_ k := by
      intro k
      induction k with
      | zero => intro _; rfl
      | succ k ih =>
        intro hk
        show rdN m' at_ k ++ _ = rdN m at_ k ++ _
        have hkn : (k : Int) + 1 ≤ n - 1 := by unfold parts at hk; omega
        rw [ih (by omega), h _ (by omega) (by omega)]
    have hS : hSt m' at_ = hSt m at_ := by unfold hSt; rw [hN', hR _ (Nat.le_refl _)]
    rw [hE', hS, h0]

/-- whose head it is -/
theorem slot_head {m m' : M} {at_ n : Int} (h : readAt m' at_ = readAt m at_) (odd : Nat) : ((slotM m' at_ n odd).2.2 = true → hBad m at_ n odd = false ∧ (slotM m' at_ n odd).2.1 = hE m at_) := by
  have h0 : hdr m' at_ = hdr m at_ := by unfold hdr; rw [h]
  have hE' : hE m' at_ = hE m at_ := by unfold hE; rw [h0]
  have hN' : hN m' at_ = hN m at_ := by unfold hN; rw [h0]
  have hB : hBad m' at_ n odd = hBad m at_ n odd := by unfold hBad; rw [h0, hE', hN']
  unfold slotM
  rw [hB]
  cases hb : hBad m at_ n odd
  · intro _
    rw [if_neg (by simp)]
    exact ⟨rfl, hE'⟩
  · rw [if_pos rfl]
    intro h
    cases h

theorem secL_join (st : List UInt8) : ∀ k, 256 * k ≤ st.length + 255 → ∃ z, (List.range k).flatMap (secL st) = st.take (256 * k) ++ z ∧ (256 * k ≤ st.length → z = [])
  | 0, _ => ⟨[], by simp, fun _ => rfl⟩
  | k + 1, h => by
    obtain ⟨z, h1, h2⟩ := secL_join st k (by omega)
    have hz := h2 (by omega)
    subst hz
    rw [List.append_nil] at h1
    refine ⟨List.replicate (256 - ((st.drop (256 * k)).take 256).length) 0, ?_, fun hk => ?_⟩
    · rw [List.range_succ, List.flatMap_append, h1, List.flatMap_singleton]
      unfold secL
      rw [← List.append_assoc, show 256 * (k + 1) = 256 * k + 256 by omega, List.take_add]
    · have : ((st.drop (256 * k)).take 256).length = 256 := by rw [List.length_take, List.length_drop]; omega
      rw [this]; rfl

theorem slot_whole {m : M} {at_ n : Int} {e : Nat} {st : List UInt8} {odd : Nat} (he : e < 18446744073709551616) (ho : e % 2 = odd) (hl : st.length ≤ (n - 1) * 256) (hlb : st.length < 18446744073709551616)
    (h : ∀ i : Int, at_ ≤ i → i ≤ at_ + parts st.length → ∃ z, readAt m i = newS at_ e st i z) : slotM m at_ n odd = (st, e, true) := by
  have h0 : hdr m at_ = headL e st ++ List.replicate 232 0 := by
    obtain ⟨z, hz⟩ := h at_ (by omega) (by omega)
    unfold hdr
    rw [hz]
    unfold newS headS
    rw [if_pos rfl, data_ofL]
  have hmid : ∀ r, (headL e st ++ r).drop 8 = mid e st.length ++ r := fun r => by simp [headL, be4W]
  have hE' : hE m at_ = e := by
    unfold hE
    rw [h0, hmid]
    unfold mid
    rw [List.append_assoc, List.take_left' (p64_length _), g64_p64 he]
  have hN' : hN m at_ = st.length := by
    unfold hN
    have : (headL e st ++ List.replicate 232 (0 : UInt8)).drop 16 = p64 st.length ++ List.replicate 232 0 := by
      rw [show (16 : Nat) = 8 + 8 by rfl, ← List.drop_drop, hmid]
      unfold mid
      rw [List.append_assoc, List.drop_left' (p64_length _)]
    rw [h0, this, List.take_left' (p64_length _), g64_p64 hlb]
  have hB : hBad m at_ n odd = false := by
    unfold hBad
    rw [hE', hN', h0]
    have : (headL e st ++ List.replicate 232 (0 : UInt8)).take 4 = [83, 78, 65, 80] := by simp [headL]
    rw [this]
    simp only [decide_true, Bool.not_true, Bool.false_or, Bool.or_eq_false_iff, decide_eq_false_iff_not]
    exact ⟨by simpa using ho, by omega⟩
  have hR : ∀ k, k ≤ parts st.length → rdN m at_ k = (List.range k).flatMap (secL st) := by
    intro k
    induction k with
    | zero => intro _; rfl
    | succ k ih =>
      intro hk
      rw [List.range_succ, List.flatMap_append, List.flatMap_singleton, ← ih (by omega)]
      show rdN m at_ k ++ _ = _
      obtain ⟨z, hz⟩ := h (at_ + 1 + k) (by omega) (by omega)
      rw [hz]
      unfold newS
      rw [if_neg (by omega), if_pos (by omega), data_ofL]
      have : (at_ + 1 + (k : Int) - at_ - 1).toNat = k := by omega
      rw [this]
  have hS : hSt m at_ = st := by
    unfold hSt
    rw [hN', hR _ (Nat.le_refl _)]
    obtain ⟨z, h1, h2⟩ := secL_join st (parts st.length) (by unfold parts; omega)
    rw [h1, List.take_of_length_le (l := st) (by unfold parts; omega), List.take_left' rfl]
  unfold slotM
  rw [hB, hE', hS, h0, List.take_left' (headL_length e st)]
  simp

/-- no slot where noughts are -/
theorem slot_blank {m : M} {at_ n : Int} (h : readAt m at_ = noughts 256) (odd : Nat) : hBad m at_ n odd = true := by
  have h0 : (hdr m at_).take 4 = [0, 0, 0, 0] := by unfold hdr; rw [h]; rfl
  unfold hBad
  rw [h0]
  rfl

/-! ### what is loaded -/
theorem load_newest {m : M} {fr n : Int} (hok : okAt m.l.length fr n) (hst : m.st ≠ 2) {E : Nat} {st : List UInt8} (h1 : slotM m (fr + ((E % 2 : Nat) : Int) * n) n (E % 2) = (st, E, true))
    (h2 : (slotM m (fr + (((E + 1) % 2 : Nat) : Int) * n) n ((E + 1) % 2)).2.2 = true → (slotM m (fr + (((E + 1) % 2 : Nat) : Int) * n) n ((E + 1) % 2)).2.1 < E) : loadM m fr n = (st, E, 0) := by
  have hb : bestM m fr n = (st, E, true) := by
    unfold bestM
    rcases Nat.mod_two_eq_zero_or_one E with e | e
    · have e' : (E + 1) % 2 = 1 := by omega
      rw [e] at h1
      rw [e'] at h2
      have q1 : fr + ((0 : Nat) : Int) * n = fr := by omega
      have q2 : fr + ((1 : Nat) : Int) * n = fr + n := by omega
      rw [q1] at h1
      rw [q2] at h2
      rw [h1]
      show better (st, E, true) _ = _
      unfold better
      rw [if_neg]
      simp only [Bool.and_eq_true, Bool.not_true, Bool.false_or, decide_eq_true_eq]
      rintro ⟨g1, g2⟩
      have := h2 g1
      omega
    · have e' : (E + 1) % 2 = 0 := by omega
      rw [e] at h1
      rw [e'] at h2
      have q1 : fr + ((0 : Nat) : Int) * n = fr := by omega
      have q2 : fr + ((1 : Nat) : Int) * n = fr + n := by omega
      rw [q2] at h1
      rw [q1] at h2
      rw [h1]
      show (if (true && (!(better ([], 0, false) (slotM m fr n 0)).2.2 || decide ((better ([], 0, false) (slotM m fr n 0)).2.1 < E))) = true then (st, E, true) else _) = _
      rw [if_pos]
      unfold better
      cases hs : (slotM m fr n 0).2.2
      · simp
      · have := h2 hs
        simp [this]
  unfold loadM
  rw [if_neg (Classical.not_not.2 hok), if_neg hst, hb]
  rfl

theorem load_none {m : M} {fr n : Int} (hok : okAt m.l.length fr n) (hst : m.st ≠ 2) (h1 : (slotM m fr n 0).2.2 = false) (h2 : (slotM m (fr + n) n 1).2.2 = false) : loadM m fr n = ([], 0, 61) := by
  have e1 : better ([], 0, false) (slotM m fr n 0) = ([], 0, false) := by unfold better; rw [h1]; rfl
  have hb : bestM m fr n = ([], 0, false) := by
    unfold bestM
    rw [e1]
    unfold better
    rw [h2]
    rfl
  unfold loadM
  rw [if_neg (Classical.not_not.2 hok), if_neg hst, hb]
  rfl

end Snap
end Go.Proofs.Ytmkobpkdodgboaa
