/- Writes, a flush, a last write, a flush: what lasts, and what may be there behind a crash. -/
import Derived.Test.YtmkobpkdodgboaaPMix
namespace Go.Proofs.Ytmkobpkdodgboaa
open Go D
set_option linter.unusedVariables false
set_option linter.unusedSimpArgs false

/-- a part of a slice -/
theorem SlR.sub {h : Heap} {a : Option Addr} {l c : Nat} {vs : List Value} (hs : SlR h 1 a l c vs) {lo hi mx : Int} (h0 : 0 ≤ lo) (h1 : lo ≤ hi) (h2 : hi ≤ l) (h3 : hi ≤ mx) (h4 : mx ≤ c) {K : Option Addr → Nat → Nat → Prop}
    (hk : ∀ a' : Option Addr, SlR h 1 a' (hi - lo).toNat (mx - lo).toNat ((vs.drop lo.toNat).take (hi - lo).toNat) → (∀ b, blk a' b → blk a b) → K a' (hi - lo).toNat (mx - lo).toNat) : lsl 1 a c lo hi mx K := by
  refine ⟨h0, h1, h3, h4, ?_⟩
  rcases hs with ⟨rfl, rfl, rfl, rfl⟩ | ⟨b, o, cs, rfl, q2, q3, q4, q5, q6⟩
  · have e1 : lo = 0 := by omega
    have e2 : hi = 0 := by omega
    have e3 : mx = 0 := by omega
    subst e1 e2 e3
    exact hk none (SlR.nil h 1) (fun b hb => hb)
  · refine hk _ ?_ ?_
    · by_cases e : mx = lo
      · rw [if_pos e]
        have e2 : hi = lo := by omega
        subst e2 e
        refine .inr ⟨b, o, cs, rfl, q2, by simp, by omega, by simp, by simp⟩
      · rw [if_neg e]
        refine .inr ⟨b, o + lo.toNat, cs, ?_, q2, by omega, by omega, ?_, ?_⟩
        · show some ((⟨b, o, none⟩ : Addr).add (lo.toNat * 1)) = _
          rw [add_mk, Nat.mul_one]
        · rw [List.length_take, List.length_drop, q5]; omega
        · rw [← q6, List.drop_take, List.drop_drop, List.take_take]
          congr 1
          omega
    · intro y hy
      by_cases e : mx = lo
      · rw [if_pos e] at hy
        exact hy
      · rw [if_neg e, Option.map_some, blk_some, add_block] at hy
        rw [blk_some]
        exact hy

namespace Disk

def wrs : List (Int × ByteArray) → M → Int × M
  | [], m => (0, m)
  | x :: ws, m => if (write m x.1 x.2).1 ≠ 0 then write m x.1 x.2 else wrs ws (write m x.1 x.2).2
theorem wrs_append : ∀ (ws vs : List (Int × ByteArray)) (m : M), wrs (ws ++ vs) m = if (wrs ws m).1 ≠ 0 then wrs ws m else wrs vs (wrs ws m).2
  | [], vs, m => by
    rw [List.nil_append]
    show wrs vs m = if (0 : Int) ≠ 0 then _ else wrs vs m
    rw [if_neg (by decide)]
  | x :: ws, vs, m => by
    rw [List.cons_append]
    show (if (write m x.1 x.2).1 ≠ 0 then write m x.1 x.2 else wrs (ws ++ vs) (write m x.1 x.2).2) = if (if (write m x.1 x.2).1 ≠ 0 then write m x.1 x.2 else wrs ws (write m x.1 x.2).2).1 ≠ 0 then (if (write m x.1 x.2).1 ≠ 0 then write m x.1 x.2 else wrs ws (write m x.1 x.2).2) else wrs vs (if (write m x.1 x.2).1 ≠ 0 then write m x.1 x.2 else wrs ws (write m x.1 x.2).2).2
    by_cases h : (write m x.1 x.2).1 ≠ 0
    · rw [if_pos h, if_pos h, if_pos h]
    · rw [if_neg h, if_neg h, wrs_append ws vs]
theorem wrs_snoc (ws : List (Int × ByteArray)) (x : Int × ByteArray) (m : M) (h : (wrs ws m).1 = 0) : wrs (ws ++ [x]) m = write (wrs ws m).2 x.1 x.2 := by
  rw [wrs_append, if_neg (Classical.not_not.2 h)]
  show (if _ then _ else wrs [] _) = _
  by_cases e : (write (wrs ws m).2 x.1 x.2).1 ≠ 0
  · rw [if_pos e]
  · rw [if_neg e]
    show ((0 : Int), (write (wrs ws m).2 x.1 x.2).2) = _
    have : (write (wrs ws m).2 x.1 x.2).1 = 0 := Classical.not_not.1 e
    exact Prod.ext this.symm rfl
theorem wrs_stop {ws vs : List (Int × ByteArray)} {m : M} (h : (wrs ws m).1 ≠ 0) : wrs (ws ++ vs) m = wrs ws m := by rw [wrs_append, if_pos h]
theorem wrs_len : ∀ (ws : List (Int × ByteArray)) (m : M), (wrs ws m).2.l.length = m.l.length ∧ (wrs ws m).2.c.length ≤ m.c.length + ws.length
  | [], m => ⟨rfl, Nat.le_refl _⟩
  | x :: ws, m => by
    have h1 := write_len m x.1 x.2
    show (if _ then _ else _ : Int × M).2.l.length = _ ∧ (if _ then _ else _ : Int × M).2.c.length ≤ _
    rw [List.length_cons]
    split
    · omega
    · have h2 := wrs_len ws (write m x.1 x.2).2
      omega
theorem wrs_c : ∀ (ws : List (Int × ByteArray)) (m : M), (wrs ws m).2.l = m.l ∧ ((wrs ws m).1 = 0 → (wrs ws m).2.c = m.c ++ ws) ∧ ∃ vs us, ws = vs ++ us ∧ (wrs ws m).2.c = m.c ++ vs
  | [], m => ⟨rfl, fun _ => (by simp [wrs]), [], [], rfl, by simp [wrs]⟩
  | x :: ws, m => by
    obtain ⟨w1, w2, w3⟩ := write_c m x.1 x.2
    have e : wrs (x :: ws) m = if (write m x.1 x.2).1 ≠ 0 then write m x.1 x.2 else wrs ws (write m x.1 x.2).2 := rfl
    rw [e]
    by_cases h : (write m x.1 x.2).1 ≠ 0
    · rw [if_pos h]
      exact ⟨w1, fun e => absurd e h, [], x :: ws, rfl, by rw [w3 h]; simp⟩
    · rw [if_neg h]
      have hz := Classical.not_not.1 h
      obtain ⟨h1, h2, vs, us, h3, h4⟩ := wrs_c ws (write m x.1 x.2).2
      refine ⟨by rw [h1, w1], fun e => by rw [h2 e, w2 hz]; simp, x :: vs, us, by rw [h3]; rfl, by rw [h4, w2 hz]; simp⟩
theorem wrs_alive : ∀ (ws : List (Int × ByteArray)) (m : M), m.st = 0 → (∀ x ∈ ws, 0 ≤ x.1 ∧ x.1 < m.l.length ∧ x.2.size = 256) → (wrs ws m).1 = 0 ∧ (wrs ws m).2.st = 0
  | [], m, h0, _ => ⟨rfl, h0⟩
  | x :: ws, m, h0, hw => by
    obtain ⟨q1, q2, q3⟩ := hw x (by simp)
    have e := write_alive h0 q1 q2 q3
    show (if _ then _ else _ : Int × M).1 = 0 ∧ (if _ then _ else _ : Int × M).2.st = 0
    rw [e, if_neg (by simp)]
    exact wrs_alive ws _ h0 (fun y hy => hw y (by simp [hy]))

def commitM (m : M) (ws : List (Int × ByteArray)) (x : Int × ByteArray) : Int × M :=
  if (wrs ws m).1 ≠ 0 then wrs ws m else
  if (flush (wrs ws m).2).1 ≠ 0 then flush (wrs ws m).2 else
  if (write (flush (wrs ws m).2).2 x.1 x.2).1 ≠ 0 then write (flush (wrs ws m).2).2 x.1 x.2 else flush (write (flush (wrs ws m).2).2 x.1 x.2).2

theorem commit_len (m : M) (ws : List (Int × ByteArray)) (x : Int × ByteArray) : (commitM m ws x).2.l.length = m.l.length ∧ (commitM m ws x).2.c.length ≤ m.c.length + ws.length + 3 := by
  have h1 := wrs_len ws m
  unfold commitM
  split
  · omega
  · have h2 := flush_len (wrs ws m).2
    split
    · omega
    · have h3 := write_len (flush (wrs ws m).2).2 x.1 x.2
      split
      · omega
      · have h4 := flush_len (write (flush (wrs ws m).2).2 x.1 x.2).2
        omega

theorem commit_alive {m : M} {ws : List (Int × ByteArray)} {x : Int × ByteArray} (h0 : m.st = 0) (hw : ∀ y ∈ ws, 0 ≤ y.1 ∧ y.1 < m.l.length ∧ y.2.size = 256) (hx : 0 ≤ x.1 ∧ x.1 < m.l.length ∧ x.2.size = 256) : (commitM m ws x).1 = 0 ∧ (commitM m ws x).2.st = 0 := by
  obtain ⟨h1, h2⟩ := wrs_alive ws m h0 hw
  have hl := (wrs_len ws m).1
  obtain ⟨q, hq⟩ : ∃ q, q = (wrs ws m).2 := ⟨_, rfl⟩
  have fl : ∀ q : M, q.st = 0 → (flush q).1 = 0 ∧ (flush q).2.st = 0 ∧ (flush q).2.l.length = q.l.length := fun q hq => by
    rw [flush_alive0 hq]
    exact ⟨rfl, hq, by simp [lays_length]⟩
  unfold commitM
  rw [if_neg (Classical.not_not.2 h1), ← hq]
  rw [← hq] at h2 hl
  obtain ⟨f1, f2, f3⟩ := fl q h2
  rw [if_neg (Classical.not_not.2 f1)]
  have e := write_alive (m := (flush q).2) (i := x.1) (s := x.2) f2 hx.1 (by rw [f3, hl]; exact hx.2.1) hx.2.2
  rw [e, if_neg (by simp)]
  refine ⟨(fl _ ?_).1, (fl _ ?_).2.1⟩ <;> exact f2

/-- what is seen once all is written -/
def newV (ws : List (Int × ByteArray)) (x : Int × ByteArray) (i : Int) (z : ByteArray) : ByteArray := if x.1 = i then x.2 else lk ws i z

theorem commit_plain {m : M} (hc : m.c = []) {ws : List (Int × ByteArray)} {x : Int × ByteArray} (hws : ∀ y ∈ ws, 0 ≤ y.1) (hx : 0 ≤ x.1) (hxl : x.1 < m.l.length) (hd : ∀ y ∈ ws, y.1 ≠ x.1) :
    ((commitM m ws x).1 = 0 → (commitM m ws x).2.c = [] ∧ ∀ i : Int, 0 ≤ i → i < m.l.length → readAt (commitM m ws x).2 i = newV ws x i (readAt m i)) ∧
    ((commitM m ws x).1 ≠ 0 → ∀ ks, (∀ i : Int, 0 ≤ i → i < m.l.length → i ≠ x.1 → (∀ y ∈ ws, y.1 ≠ i) → readAt (crash (commitM m ws x).2 ks) i = readAt m i) ∧
      (readAt (crash (commitM m ws x).2 ks) x.1 = readAt m x.1 ∨ ∀ i : Int, 0 ≤ i → i < m.l.length → readAt (crash (commitM m ws x).2 ks) i = newV ws x i (readAt m i))) := by
  have hrd : ∀ i, readAt m i = sec m.l i := fun i => by rw [readAt_lk, hc]; rfl
  obtain ⟨w1, w2, vs, us, w3, w4⟩ := wrs_c ws m
  rw [hc, List.nil_append] at w4
  have vsub : ∀ y ∈ vs, y ∈ ws := fun y hy => by rw [w3]; exact List.mem_append_left _ hy
  -- a device of which only some sectors were written
  have part : ∀ m' : M, m'.l = m.l → m'.c = vs → ∀ ks, (∀ i : Int, 0 ≤ i → i < m.l.length → i ≠ x.1 → (∀ y ∈ ws, y.1 ≠ i) → readAt (crash m' ks) i = readAt m i) ∧
      (readAt (crash m' ks) x.1 = readAt m x.1 ∨ ∀ i : Int, 0 ≤ i → i < m.l.length → readAt (crash m' ks) i = newV ws x i (readAt m i)) := by
    intro m' e1 e2 ks
    have key : ∀ i : Int, 0 ≤ i → i < m.l.length → (∀ y ∈ ws, y.1 ≠ i) → readAt (crash m' ks) i = readAt m i := fun i g0 g1 g2 => by
      rcases crash_poss (m := m') ks g0 (by rw [e1]; exact g1) (by rw [e2]; exact fun y hy => hws y (vsub y hy)) with h | ⟨y, hy, h2, h3⟩
      · rw [h, e1, hrd]
      · rw [e2] at hy
        exact absurd h2 (g2 y (vsub y hy))
    exact ⟨fun i g0 g1 _ g2 => key i g0 g1 g2, .inl (key x.1 hx hxl hd)⟩
  by_cases e1 : (wrs ws m).1 = 0
  rotate_left
  · rw [show commitM m ws x = wrs ws m by unfold commitM; rw [if_pos e1]]
    exact ⟨fun h => absurd h e1, fun _ ks => part _ w1 w4 ks⟩
  have hc1 := w2 e1
  rw [hc, List.nil_append] at hc1
  obtain ⟨r, hr⟩ : ∃ r, r = (wrs ws m).2 := ⟨_, rfl⟩
  rw [← hr] at w1 w4 hc1
  have hl1 : r.l.length = m.l.length := by rw [w1]
  have rpos : ∀ y ∈ r.c, 0 ≤ y.1 := by rw [hc1]; exact hws
  have rrd : ∀ i, readAt r i = lk ws i (readAt m i) := fun i => by
    rw [readAt_lk, hc1, w1, hrd]
  by_cases e2 : (flush r).1 = 0
  rotate_left
  · rw [show commitM m ws x = flush r by unfold commitM; rw [if_neg (Classical.not_not.2 e1), ← hr, if_pos e2]]
    obtain ⟨f1, f2⟩ := (flush_c r).2 e2
    exact ⟨fun h => absurd h e2, fun _ ks => part _ (by rw [f1, w1]) (by rw [f2, w4]) ks⟩
  obtain ⟨f1, f2⟩ := (flush_c r).1 e2
  obtain ⟨f, hf⟩ : ∃ f, f = (flush r).2 := ⟨_, rfl⟩
  rw [← hf] at f1 f2
  have hl2 : f.l.length = m.l.length := by rw [f1, lays_length, hl1]
  have frd : ∀ i : Int, 0 ≤ i → i < m.l.length → sec f.l i = lk ws i (readAt m i) := fun i g0 g1 => by
    rw [hf, flush_view e2 g0 (by rw [hl1]; exact g1) rpos, rrd]
  obtain ⟨v1, v2, v3⟩ := write_c f x.1 x.2
  -- a device of which all is flushed but the last
  have late : ∀ m' : M, m'.l = f.l → (m'.c = [] ∨ m'.c = [x]) → ∀ ks, (∀ i : Int, 0 ≤ i → i < m.l.length → i ≠ x.1 → (∀ y ∈ ws, y.1 ≠ i) → readAt (crash m' ks) i = readAt m i) ∧
      (readAt (crash m' ks) x.1 = readAt m x.1 ∨ ∀ i : Int, 0 ≤ i → i < m.l.length → readAt (crash m' ks) i = newV ws x i (readAt m i)) := by
    intro m' g1 g2 ks
    have pos : ∀ y ∈ m'.c, 0 ≤ y.1 := by
      rcases g2 with g | g <;> rw [g] <;> intro y hy
      · cases hy
      · simp only [List.mem_singleton] at hy
        subst hy
        exact hx
    have key : ∀ i : Int, 0 ≤ i → i < m.l.length → i ≠ x.1 → readAt (crash m' ks) i = sec f.l i := fun i q0 q1 q2 => by
      rcases crash_poss (m := m') ks q0 (by rw [g1, hl2]; exact q1) pos with h | ⟨y, hy, h2, h3⟩
      · rw [h, g1]
      · rcases g2 with g | g <;> rw [g] at hy
        · cases hy
        · simp only [List.mem_singleton] at hy
          subst hy
          exact absurd h2 (fun e => q2 e.symm)
    refine ⟨fun i q0 q1 q2 q3 => by rw [key i q0 q1 q2, frd i q0 q1, lk_far q3], ?_⟩
    have hat : readAt (crash m' ks) x.1 = readAt m x.1 ∨ readAt (crash m' ks) x.1 = x.2 := by
      rcases crash_poss (m := m') ks hx (by rw [g1, hl2]; omega) pos with h | ⟨y, hy, h2, h3⟩
      · left
        rw [h, g1, frd x.1 hx hxl, lk_far hd]
      · right
        rcases g2 with g | g <;> rw [g] at hy
        · cases hy
        · simp only [List.mem_singleton] at hy
          subst hy
          exact h3.symm
    rcases hat with h | h
    · exact .inl h
    · refine .inr (fun i q0 q1 => ?_)
      unfold newV
      by_cases ei : x.1 = i
      · rw [if_pos ei, ← ei, h]
      · rw [if_neg ei, key i q0 q1 (fun e => ei e.symm), frd i q0 q1]
  by_cases e3 : (write f x.1 x.2).1 = 0
  rotate_left
  · rw [show commitM m ws x = write f x.1 x.2 by unfold commitM; rw [if_neg (Classical.not_not.2 e1), ← hr, if_neg (Classical.not_not.2 e2), ← hf, if_pos e3]]
    exact ⟨fun h => absurd h e3, fun _ ks => late _ v1 (.inl (by rw [v3 e3, f2])) ks⟩
  have hc3 := v2 e3
  rw [f2, List.nil_append] at hc3
  obtain ⟨g, hg⟩ : ∃ g, g = (write f x.1 x.2).2 := ⟨_, rfl⟩
  rw [← hg] at v1 hc3
  rw [show commitM m ws x = flush g by unfold commitM; rw [if_neg (Classical.not_not.2 e1), ← hr, if_neg (Classical.not_not.2 e2), ← hf, if_neg (Classical.not_not.2 e3), ← hg]]
  by_cases e4 : (flush g).1 = 0
  rotate_left
  · obtain ⟨q1, q2⟩ := (flush_c g).2 e4
    exact ⟨fun h => absurd h e4, fun _ ks => late _ (by rw [q1, v1]) (.inr (by rw [q2, hc3])) ks⟩
  obtain ⟨q1, q2⟩ := (flush_c g).1 e4
  refine ⟨fun _ => ⟨q2, fun i p0 p1 => ?_⟩, fun h => absurd e4 h⟩
  rw [readAt_lk, q2]
  show sec (flush g).2.l i = _
  rw [flush_view e4 p0 (by rw [v1, hl2]; exact p1) (by rw [hc3]; intro y hy; simp only [List.mem_singleton] at hy; subst hy; exact hx), readAt_lk, hc3, v1, frd i p0 p1]
  rfl

end Disk
end Go.Proofs.Ytmkobpkdodgboaa
