/- The two slots of a store: what is loaded, between saves and behind crashes. -/
import Derived.Test.YtkgocfaajfaidaaKMidB
namespace Go.Proofs.Ytkgocfaajfaidaa
open Go D
set_option linter.unusedVariables false
set_option linter.unusedSimpArgs false
namespace Snap
open Disk Enc Hash

/-- state S of epoch E is the newest (E = 0: there is none); the next goes into the other slot -/
def KT (S : List UInt8) (m : M) (fr n : Int) (E : Nat) : Prop := Old m fr n (E + 1) ∧ (0 < E → slotM m (fr + ((E % 2 : Nat) : Int) * n) n (E % 2) = (S, E, true)) ∧ (E = 0 → hBad m fr n 0 = true)

theorem kt_load {S : List UInt8} {m : M} {fr n : Int} {E : Nat} (ht : KT S m fr n E) (hok : okAt m.l.length fr n) (hst : m.st ≠ 2) : loadM m fr n = if E = 0 then ([], 0, 61) else (S, E, 0) := by
  obtain ⟨h1, h2, h3⟩ := ht
  by_cases e : E = 0
  · rw [if_pos e]
    subst e
    refine load_none hok hst (by rw [slot_bad (h3 rfl)]) ?_
    have q : fr + (((0 + 1) % 2 : Nat) : Int) * n = fr + n := by simp
    unfold Old at h1
    rw [q] at h1
    cases hb : hBad m (fr + n) n 1
    · exact absurd (h1 hb) (by omega)
    · rw [slot_bad hb]
  · rw [if_neg e]
    refine load_newest hok hst (h2 (by omega)) ?_
    intro hw
    obtain ⟨w1, w2⟩ := slot_head (m := m) (m' := m) rfl _ hw
    have := h1 w1
    rw [w2]
    omega
theorem kt_save {S S' : List UInt8} {m : M} {fr n : Int} {E : Nat} (ht : KT S m fr n E) (hc : m.c = []) (hok : okAt m.l.length fr n) (hE : E + 1 < 18446744073709551615) (hf : fitsM n S'.length = true) (hn : n ≤ 4096) (hs : (saveM m fr n (E + 1) S').1 = 0) :
    KT S' (saveM m fr n (E + 1) S').2 fr n (E + 1) ∧ (saveM m fr n (E + 1) S').2.c = [] ∧ (saveM m fr n (E + 1) S').2.l.length = m.l.length := by
  obtain ⟨h1, h2, h3⟩ := ht
  obtain ⟨w1, w2, w3, w4, w5⟩ := save_whole hc hok hE hf hn hs
  have e2 : (E + 1 + 1) % 2 = E % 2 := by omega
  rw [e2] at w4 w5
  refine ⟨⟨fun hb => ?_, fun _ => w3, fun h => by omega⟩, w1, w2⟩
  rw [e2] at hb ⊢
  obtain ⟨m', hm'⟩ : ∃ m', m' = (saveM m fr n (E + 1) S').2 := ⟨_, rfl⟩
  rw [← hm'] at w5 hb ⊢
  obtain ⟨c1, c2⟩ := hBad_congr (n := n) (odd := E % 2) w5
  rw [c1] at hb
  rw [c2]
  by_cases e : E = 0
  · subst e
    have q : fr + ((0 % 2 : Nat) : Int) * n = fr := by simp
    rw [q] at hb
    have := h3 rfl
    rw [show 0 % 2 = 0 by rfl, this] at hb
    cases hb
  · rw [hE_of (h2 (by omega))]
    omega
theorem kt_congr {S : List UInt8} {m m' : M} {fr n : Int} {E : Nat} (h : ∀ i, fr ≤ i → i < fr + 2 * n → readAt m' i = readAt m i) (hn : 1 ≤ n) (ht : KT S m fr n E) : KT S m' fr n E := by
  obtain ⟨h1, h2, h3⟩ := ht
  have q := places fr n E
  have q1 := places fr n (E + 1)
  have e2 : (E + 1 + 1) % 2 = E % 2 := by omega
  rw [e2] at q1
  refine ⟨?_, fun h0 => ?_, fun h0 => ?_⟩
  · unfold Old at h1 ⊢
    have hh := h (fr + (((E + 1) % 2 : Nat) : Int) * n) (by omega) (by omega)
    rw [(hBad_congr hh).1, (hBad_congr (n := n) (odd := 0) hh).2]
    exact h1
  · rw [slot_congr (fun i a b => h i (by omega) (by omega)) hn]
    exact h2 h0
  · rw [(hBad_congr (h fr (by omega) (by omega))).1]
    exact h3 h0
/-- a save that failed, and a crash -/
theorem kt_crash {S S' : List UInt8} {m : M} {fr n : Int} {E : Nat} (ht : KT S m fr n E) (hc : m.c = []) (hok : okAt m.l.length fr n) (hE : E + 1 < 18446744073709551615) (hf : fitsM n S'.length = true) (hn : n ≤ 4096) (hs : (saveM m fr n (E + 1) S').1 ≠ 0) (ks : List Bool) :
    loadM (crash (saveM m fr n (E + 1) S').2 ks) fr n = (S', E + 1, 0) ∨ loadM (crash (saveM m fr n (E + 1) S').2 ks) fr n = if E = 0 then ([], 0, 61) else (S, E, 0) := by
  obtain ⟨h1, h2, h3⟩ := ht
  have es : saveM m fr n (E + 1) S' = saveAt m (fr + (((E + 1) % 2 : Nat) : Int) * n) (E + 1) S' := by
    unfold saveM
    rw [if_neg (Classical.not_not.2 hok), if_neg (by simp [hf])]
  rw [es] at hs ⊢
  have hok' := hok
  obtain ⟨o1, o2, o3, o4⟩ := hok
  obtain ⟨f1, f2, f3⟩ := fits_parts hf
  have q := places fr n (E + 1)
  have e2 : (E + 1 + 1) % 2 = E % 2 := by omega
  rw [e2] at q
  unfold Old at h1
  obtain ⟨at_, ha⟩ : ∃ at_, at_ = fr + (((E + 1) % 2 : Nat) : Int) * n := ⟨_, rfl⟩
  obtain ⟨bt, hb⟩ : ∃ bt, bt = fr + ((E % 2 : Nat) : Int) * n := ⟨_, rfl⟩
  rw [← ha, ← hb] at q
  rw [← ha] at hs h1
  rw [← hb] at h2
  rw [← ha]
  obtain ⟨p1, _, p2⟩ := save_plain hc (at_ := at_) (by omega) (E + 1) S' (by omega)
  obtain ⟨p3, p4⟩ := p2 hs ks
  obtain ⟨m', hm'⟩ : ∃ m', m' = crash (saveAt m at_ (E + 1) S').2 ks := ⟨_, rfl⟩
  have hl : m'.l.length = m.l.length := by rw [hm', (crash_len _ _).1, p1]
  have hst : m'.st ≠ 2 := by rw [hm']; show (0 : Int) ≠ 2; decide
  rw [← hm'] at p3 p4 ⊢
  have far : ∀ i, bt ≤ i → i < bt + n → readAt m' i = readAt m i := fun i g1 g2 => p3 i (by omega) (by omega) (by omega)
  have hother := slot_congr (m := m) (m' := m') far o1 (E % 2)
  have hbb := (hBad_congr (m := m) (m' := m') (n := n) (odd := E % 2) (far bt (by omega) (by omega))).1
  rcases p4 with p4 | p4
  · right
    have hhead := slot_head (n := n) p4 ((E + 1) % 2)
    by_cases e : E = 0
    · rw [if_pos e]
      have w1 : (slotM m' at_ n ((E + 1) % 2)).2.2 = false := by
        cases hw : (slotM m' at_ n ((E + 1) % 2)).2.2
        · rfl
        · have := h1 (hhead hw).1
          omega
      have w2 : (slotM m' bt n (E % 2)).2.2 = false := by
        subst e
        have hbt : bt = fr := by omega
        rw [slot_bad]
        rw [hbb, hbt]
        exact h3 rfl
      subst e
      have hbt : bt = fr := by omega
      have hat : at_ = fr + n := by omega
      rw [hat] at w1
      rw [hbt] at w2
      exact load_none (by rw [hl]; exact hok') hst w2 w1
    · rw [if_neg e]
      refine load_newest (by rw [hl]; exact hok') hst (by rw [← hb, hother]; exact h2 (by omega)) ?_
      rw [← ha]
      intro hw
      obtain ⟨w1, w2⟩ := hhead hw
      have := h1 w1
      rw [w2]
      omega
  · left
    refine load_newest (by rw [hl]; exact hok') hst (by rw [← ha]; exact slot_whole (by omega) rfl (by omega) (by omega) (fun i g1 g2 => ⟨_, p4 i g1 g2⟩)) ?_
    rw [e2, ← hb, hother]
    by_cases e : E = 0
    · subst e
      have hbt : bt = fr := by omega
      rw [slot_bad (by rw [hbt]; exact h3 rfl)]
      intro hh
      cases hh
    · rw [h2 (by omega)]
      intro _
      show E < E + 1
      omega
/-- sectors that a save leaves alone -/
theorem save_far {m : M} (hc : m.c = []) {fr n : Int} (hok : okAt m.l.length fr n) {E : Nat} {S' : List UInt8} (hf : fitsM n S'.length = true) {i : Int} (h0 : 0 ≤ i) (h1 : i < m.l.length) (hi : i < fr ∨ fr + 2 * n ≤ i) :
    ((saveM m fr n E S').1 = 0 → readAt (saveM m fr n E S').2 i = readAt m i) ∧ ((saveM m fr n E S').1 ≠ 0 → ∀ ks, readAt (crash (saveM m fr n E S').2 ks) i = readAt m i) := by
  have es : saveM m fr n E S' = saveAt m (fr + ((E % 2 : Nat) : Int) * n) E S' := by
    unfold saveM
    rw [if_neg (Classical.not_not.2 hok), if_neg (by simp [hf])]
  rw [es]
  obtain ⟨o1, o2, o3, o4⟩ := hok
  obtain ⟨f1, f2, f3⟩ := fits_parts hf
  have q := places fr n E
  obtain ⟨at_, ha⟩ : ∃ at_, at_ = fr + ((E % 2 : Nat) : Int) * n := ⟨_, rfl⟩
  rw [← ha] at q
  rw [← ha]
  obtain ⟨p1, p2, p3⟩ := save_plain hc (at_ := at_) (by omega) E S' (by omega)
  refine ⟨fun hz => ?_, fun hz ks => (p3 hz ks).1 i h0 h1 (by omega)⟩
  rw [(p2 hz).2 i h0 h1]
  unfold newS
  rw [if_neg (by omega), if_neg (by omega)]
end Snap
end Go.Proofs.Ytkgocfaajfaidaa
