/- SnapWhole. -/
import Derived.Test.YtmkobpkdodgboaaPSnapT
namespace Go.Proofs.Ytmkobpkdodgboaa
open Go D
set_option linter.unusedVariables false
set_option linter.unusedSimpArgs false

def boolsOf (h : Heap) (a : Option Addr) (l : Nat) : List Bool := (List.range l).map fun i => match a with | some x => (match cellH h (x.add (i * 1)) with | some (.bool z) => z | _ => false) | none => false
theorem BoolsAt.is {h : Heap} {a : Option Addr} {l : Nat} (hs : BoolsAt h a l) : BoolsIs h a l (boolsOf h a l) := by
  refine ⟨by simp [boolsOf], fun i hi => ?_⟩
  obtain ⟨x, z, h2, h3⟩ := hs i hi
  refine ⟨x, h2, ?_⟩
  unfold boolsOf
  rw [List.getD_eq_getElem?_getD, List.getElem?_map, List.getElem?_range hi, h2]
  simp only [Option.map_some, Option.getD_some, h3]
theorem BoolsAt.lt {h : Heap} {a : Option Addr} {l : Nat} (hs : BoolsAt h a l) (hl : 0 < l) {b : Nat} (hb : blk a b) : b < h.size := by
  obtain ⟨x, z, h2, h3⟩ := hs 0 hl
  have := cell_lt h3
  rw [add_block] at this
  rw [h2, blk_some] at hb
  omega

namespace Snap
open Disk Enc Hash

/-- the slot that is to be written next has an older head, or none -/
def Old (m : M) (fr n : Int) (E : Nat) : Prop := hBad m (fr + ((E % 2 : Nat) : Int) * n) n (E % 2) = false → hE m (fr + ((E % 2 : Nat) : Int) * n) + 1 < E
/-- what is there before state E is saved: the state before, in the other slot -/
def Turn (S : Nat → List UInt8) (m : M) (fr n : Int) (E : Nat) : Prop := Old m fr n E ∧
  (0 < E → slotM m (fr + (((E + 1) % 2 : Nat) : Int) * n) n ((E + 1) % 2) = (S (E - 1), E - 1, true)) ∧ (E = 0 → hBad m (fr + n) n 1 = true)

theorem slot_bad {m : M} {at_ n : Int} {odd : Nat} (h : hBad m at_ n odd = true) : slotM m at_ n odd = ([], 0, false) := by
  unfold slotM
  rw [if_pos h]
theorem hE_of {m : M} {at_ n : Int} {odd e : Nat} {st : List UInt8} (h : slotM m at_ n odd = (st, e, true)) : hE m at_ = e := by
  unfold slotM at h
  split at h
  · injection h with _ h
    injection h with _ h
    cases h
  · injection h with _ h
    injection h with h _

/-- where the two slots lie -/
theorem places (fr n : Int) (E : Nat) : fr + ((E % 2 : Nat) : Int) * n = fr ∧ fr + (((E + 1) % 2 : Nat) : Int) * n = fr + n ∧ E % 2 = 0 ∧ (E + 1) % 2 = 1 ∨ fr + ((E % 2 : Nat) : Int) * n = fr + n ∧ fr + (((E + 1) % 2 : Nat) : Int) * n = fr ∧ E % 2 = 1 ∧ (E + 1) % 2 = 0 := by
  rcases Nat.mod_two_eq_zero_or_one E with e | e
  · have e' : (E + 1) % 2 = 1 := by omega
    rw [e, e']
    left
    refine ⟨?_, ?_, rfl, rfl⟩ <;> omega
  · have e' : (E + 1) % 2 = 0 := by omega
    rw [e, e']
    right
    refine ⟨?_, ?_, rfl, rfl⟩ <;> omega

/-- what is loaded between two saves -/
theorem turn_load {S : Nat → List UInt8} {m : M} {fr n : Int} {E : Nat} (ht : Turn S m fr n E) (hok : okAt m.l.length fr n) (hst : m.st ≠ 2) :
    loadM m fr n = if E = 0 then ([], 0, 61) else (S (E - 1), E - 1, 0) := by
  obtain ⟨h1, h2, h3⟩ := ht
  by_cases e : E = 0
  · rw [if_pos e]
    subst e
    refine load_none hok hst ?_ (by rw [slot_bad (h3 rfl)])
    have q : fr + ((0 % 2 : Nat) : Int) * n = fr := by simp
    unfold Old at h1
    rw [q] at h1
    cases hb : hBad m fr n 0
    · exact absurd (h1 hb) (by omega)
    · rw [slot_bad hb]
  · rw [if_neg e]
    have e1 : (E - 1) % 2 = (E + 1) % 2 := by omega
    have e2 : (E - 1 + 1) % 2 = E % 2 := by omega
    refine load_newest hok hst (by rw [e1]; exact h2 (by omega)) ?_
    rw [e2]
    intro hw
    obtain ⟨w1, w2⟩ := slot_head (m := m) (m' := m) rfl _ hw
    have := h1 w1
    rw [w2]
    omega

theorem hBad_congr {m m' : M} {at_ n : Int} {odd : Nat} (h : readAt m' at_ = readAt m at_) : hBad m' at_ n odd = hBad m at_ n odd ∧ hE m' at_ = hE m at_ := by
  have h0 : hdr m' at_ = hdr m at_ := by unfold hdr; rw [h]
  have hE' : hE m' at_ = hE m at_ := by unfold hE; rw [h0]
  have hN' : hN m' at_ = hN m at_ := by unfold hN; rw [h0]
  exact ⟨by unfold hBad; rw [h0, hE', hN'], hE'⟩

theorem turn_save {S : Nat → List UInt8} {m : M} {fr n : Int} {E : Nat} (ht : Turn S m fr n E) (hc : m.c = []) (hok : okAt m.l.length fr n) (hE : E < 18446744073709551615) (hf : fitsM n (S E).length = true) (hn : n ≤ 4096) (hs : (saveM m fr n E (S E)).1 = 0) :
    Turn S (saveM m fr n E (S E)).2 fr n (E + 1) ∧ (saveM m fr n E (S E)).2.c = [] ∧ (saveM m fr n E (S E)).2.l.length = m.l.length := by
  obtain ⟨h1, h2, h3⟩ := ht
  obtain ⟨w1, w2, w3, w4, w5⟩ := save_whole hc hok hE hf hn hs
  have e2 : (E + 1 + 1) % 2 = E % 2 := by omega
  refine ⟨⟨fun hb => ?_, fun _ => by rw [e2, Nat.add_sub_cancel]; exact w3, fun h => by omega⟩, w1, w2⟩
  obtain ⟨m', hm'⟩ : ∃ m', m' = (saveM m fr n E (S E)).2 := ⟨_, rfl⟩
  rw [← hm'] at w5 hb ⊢
  obtain ⟨c1, c2⟩ := hBad_congr (n := n) (odd := (E + 1) % 2) w5
  rw [c1] at hb
  rw [c2]
  by_cases e : E = 0
  · subst e
    have q : fr + (((0 + 1) % 2 : Nat) : Int) * n = fr + n := by simp
    rw [q] at hb
    have := h3 rfl
    rw [show (0 + 1) % 2 = 1 by rfl, this] at hb
    cases hb
  · rw [hE_of (h2 (by omega))]
    omega

theorem turn_crash {S : Nat → List UInt8} {m : M} {fr n : Int} {E : Nat} (ht : Turn S m fr n E) (hc : m.c = []) (hok : okAt m.l.length fr n) (hE : E < 18446744073709551615) (hf : fitsM n (S E).length = true) (hn : n ≤ 4096) (hs : (saveM m fr n E (S E)).1 ≠ 0) (ks : List Bool) :
    loadM (crash (saveM m fr n E (S E)).2 ks) fr n = (S E, E, 0) ∨ loadM (crash (saveM m fr n E (S E)).2 ks) fr n = if E = 0 then ([], 0, 61) else (S (E - 1), E - 1, 0) := by
  obtain ⟨h1, h2, h3⟩ := ht
  have es : saveM m fr n E (S E) = saveAt m (fr + ((E % 2 : Nat) : Int) * n) E (S E) := by
    unfold saveM
    rw [if_neg (Classical.not_not.2 hok), if_neg (by simp [hf])]
  rw [es] at hs ⊢
  have hok' := hok
  obtain ⟨o1, o2, o3, o4⟩ := hok
  obtain ⟨f1, f2, f3⟩ := fits_parts hf
  have q := places fr n E
  unfold Old at h1
  obtain ⟨at_, ha⟩ : ∃ at_, at_ = fr + ((E % 2 : Nat) : Int) * n := ⟨_, rfl⟩
  obtain ⟨bt, hb⟩ : ∃ bt, bt = fr + (((E + 1) % 2 : Nat) : Int) * n := ⟨_, rfl⟩
  rw [← ha, ← hb] at q
  rw [← ha] at hs h1
  rw [← hb] at h2
  rw [← ha]
  obtain ⟨p1, _, p2⟩ := save_plain hc (at_ := at_) (by omega) E (S E) (by omega)
  obtain ⟨p3, p4⟩ := p2 hs ks
  obtain ⟨m', hm'⟩ : ∃ m', m' = crash (saveAt m at_ E (S E)).2 ks := ⟨_, rfl⟩
  have hl : m'.l.length = m.l.length := by rw [hm', (crash_len _ _).1, p1]
  have hst : m'.st ≠ 2 := by rw [hm']; show (0 : Int) ≠ 2; decide
  rw [← hm'] at p3 p4 ⊢
  have far : ∀ i, bt ≤ i → i < bt + n → readAt m' i = readAt m i := fun i g1 g2 => p3 i (by omega) (by omega) (by omega)
  have hother := slot_congr (m := m) (m' := m') far o1 ((E + 1) % 2)
  have hbb := (hBad_congr (m := m) (m' := m') (n := n) (odd := (E + 1) % 2) (far bt (by omega) (by omega))).1
  rcases p4 with p4 | p4
  · right
    have hhead := slot_head (n := n) p4 (E % 2)
    by_cases e : E = 0
    · rw [if_pos e]
      have w1 : (slotM m' at_ n (E % 2)).2.2 = false := by
        cases hw : (slotM m' at_ n (E % 2)).2.2
        · rfl
        · have := h1 (hhead hw).1
          omega
      have w2 : (slotM m' bt n ((E + 1) % 2)).2.2 = false := by
        subst e
        have hbt : bt = fr + n := by omega
        rw [slot_bad]
        rw [hbb, hbt]
        exact h3 rfl
      subst e
      have hbt : bt = fr + n := by omega
      have hat : at_ = fr := by omega
      rw [hat] at w1
      rw [hbt] at w2
      exact load_none (by rw [hl]; exact hok') hst w1 w2
    · rw [if_neg e]
      have e1 : (E - 1) % 2 = (E + 1) % 2 := by omega
      have e2 : (E - 1 + 1) % 2 = E % 2 := by omega
      refine load_newest (by rw [hl]; exact hok') hst (by rw [e1, ← hb, hother]; exact h2 (by omega)) ?_
      rw [e2, ← ha]
      intro hw
      obtain ⟨w1, w2⟩ := hhead hw
      have := h1 w1
      rw [w2]
      omega
  · left
    refine load_newest (by rw [hl]; exact hok') hst (by rw [← ha]; exact slot_whole (by omega) rfl (by omega) (by omega) (fun i g1 g2 => ⟨_, p4 i g1 g2⟩)) ?_
    rw [← hb, hother]
    by_cases e : E = 0
    · subst e
      have hbt : bt = fr + n := by omega
      rw [slot_bad (by rw [hbt]; exact h3 rfl)]
      intro hh
      cases hh
    · rw [h2 (by omega)]
      intro _
      show E - 1 < E
      omega

theorem crash_none {m : M} (hc : m.c = []) (ks : List Bool) : crash m ks = ⟨m.l, [], 0, 0⟩ := by
  unfold crash
  rw [hc]
  cases ks <;> rfl

theorem turn_congr {S : Nat → List UInt8} {m m' : M} {fr n : Int} {E : Nat} (h : ∀ i, readAt m' i = readAt m i) (hn : 1 ≤ n) (ht : Turn S m fr n E) : Turn S m' fr n E := by
  obtain ⟨h1, h2, h3⟩ := ht
  refine ⟨?_, ?_, ?_⟩
  · unfold Old at h1 ⊢
    rw [(hBad_congr (h _)).1, (hBad_congr (n := n) (odd := 0) (h (fr + ((E % 2 : Nat) : Int) * n))).2]
    exact h1
  · rw [slot_congr (fun i _ _ => h i) hn]
    exact h2
  · rw [(hBad_congr (h _)).1]
    exact h3

theorem save_len (m : M) (fr n : Int) (e : Nat) (st : List UInt8) : (saveM m fr n e st).2.c.length ≤ m.c.length + parts st.length + 3 := by
  unfold saveM
  split
  · show m.c.length ≤ _
    omega
  · split
    · show m.c.length ≤ _
      omega
    · rw [saveAt_eq]
      have h1 := (wr_len (fr + ((e % 2 : Nat) : Int) * n) st m (parts st.length)).2
      split
      · omega
      · have h2 := (flush_len (wr (fr + ((e % 2 : Nat) : Int) * n) st (parts st.length) m).2).2
        split
        · omega
        · have h3 := (write_len (flush (wr (fr + ((e % 2 : Nat) : Int) * n) st (parts st.length) m).2).2 (fr + ((e % 2 : Nat) : Int) * n) (headS e st)).2
          split
          · omega
          · have h4 := (flush_len (write (flush (wr (fr + ((e % 2 : Nat) : Int) * n) st (parts st.length) m).2).2 (fr + ((e % 2 : Nat) : Int) * n) (headS e st)).2).2
            omega

/-- what a load tells behind the loop -/
def Told (S : Nat → List UInt8) (len : Nat) (last : Int) (r : List UInt8 × Nat × Int) : Prop :=
  (last < 0 ∧ r = ([], 0, 61)) ∨ ∃ k : Nat, last ≤ k ∧ (k : Int) ≤ last + 1 ∧ k < len ∧ r = (S k, k, 0)

theorem snapWhole_spec {h : Heap} {x0 x2 : Sl} {f : Int} (hs : StatesAt h x0.a x0.len) (hf : InI f) (hb : BoolsAt h x2.a x2.len) {R : Bool → Heap → Prop} (hR : ∀ h', Keep (fun _ => False) h h' → R true h') :
    CallT Try.prog law7_SnapWhole_no [.slice x0.a x0.len x0.cap, .int .i64 f, .slice x2.a x2.len x2.cap] h [.sc .bool] R := by
  apply law7_SnapWhole_call
  simp only [law7_SnapWhole]
  refine new_spec (by unfold InI; omega) (fun hb => by omega) ?_
  intro _ _ p mu0 im0 h1 hnew hr hk1
  have kR : ∀ h', Keep (fun y => h.size ≤ y) h h' → Keep (fun _ => False) h h' := fun h' k => k.mono (fun y hy hh => by have : h.size ≤ y := hh; omega)
  have aw : ∀ h2, Keep (fun y => h.size ≤ y) h h2 → CallT Try.prog law7_awake_no [] h2 [.sc .bool] R := fun h2 k2 => awake_spec fun h3 k3 => hR h3 ((kR h2 k2).trans' k3)
  have k01 : Keep (fun y => h.size ≤ y) h h1 := hk1.mono (fun _ _ h => h.elim)
  refine withJ.inl (withJ.inl ?_)
  refine cnd_f rfl ?_
  refine cnd_dec (fun hbig => withJ.inl (cnd_t rfl (aw h1 k01))) (fun hlen => ?_)
  refine fuse_spec hr hf ?_
  intro h2 r2 k2 z2
  have hp : h.size ≤ p := hnew p (.inl hr.own)
  have k02 : Keep (fun y => h.size ≤ y) h h2 := k01.trans k2 (fun y _ hy => by
    have : y = p := hy
    show h.size ≤ y
    omega)
  obtain ⟨S, hS⟩ : ∃ S, S = stateOf h x0.a := ⟨_, rfl⟩
  have fl : (fuse ⟨List.replicate (40 : Int).toNat (noughts 256), [], 0, 0⟩ f).l = List.replicate 40 (noughts 256) := (fuse_lc _ _).1
  have fc : (fuse ⟨List.replicate (40 : Int).toNat (noughts 256), [], 0, 0⟩ f).c = [] := (fuse_lc _ _).2
  have hblank := blank_read fl fc
  refine withJ.intro (fun last h' => -1 ≤ last ∧ last < 100 ∧ ∃ m mu im, Disk.Rep h' p mu im m ∧ m.l.length = 40 ∧ m.c.length ≤ 1000000 ∧ (∀ ks, Told S x0.len last (loadM (crash m ks) 3 10)) ∧ (∀ y, mu y ∨ im y → h.size ≤ y) ∧ Keep (fun y => h.size ≤ y) h h') ?_ ?_
  · -- the crash
    rintro last h3 ⟨q1, q2, m, mu, im, r3, hl, hcl, htold, hn, k3⟩
    have bis := (BoolsAt.is hb).keep k3 (fun hl y hy => by
      have := hb.lt hl hy
      show ¬ h.size ≤ y
      omega)
    refine crash_spec r3 hcl bis (fun h0 y hy hm => ?_) ?_
    · have := hb.lt h0 hy
      have := hn y (.inl hm)
      omega
    intro h4 r4 k4
    have ht := htold (boolsOf h x2.a x2.len)
    have hc4 : (crash m (boolsOf h x2.a x2.len)).c.length ≤ 1000000 := by show [].length ≤ _; simp
    refine load_spec r4 hc4 (by unfold InI; omega) (by unfold InI; omega) ?_
    intro s5 h5 b5 r5 k5
    have k05 : Keep (fun y => h.size ≤ y) h h5 := (k3.trans k4 (fun y _ hy => hn y (.inl hy))).trans k5 (fun _ _ h => h.elim)
    rcases ht with ⟨t1, t2⟩ | ⟨k, t1, t2, t3, t4⟩
    · rw [t2]
      refine cnd_t rfl (withJ.inl (cnd_t rfl (cnd_t (by simpa using t1) (aw h5 k05))))
    · rw [t4] at b5 ⊢
      have hw : w64 (k : Int) = k := w64_id (by omega) (by omega)
      have hw1 : w64 (last + 1) = last + 1 := w64_id (by omega) (by omega)
      refine cnd_f rfl (withJ.inl ?_)
      show cnd (decide (w64 (k : Int) ≥ 0)) (cnd (decide (w64 (k : Int) ≥ last)) (cnd (decide (w64 (k : Int) ≤ w64 (last + 1))) (cnd (decide (w64 (k : Int) < (x0.len : Int))) (b2s s5.a s5.len h5 fun s23 => idx x0.a x0.len (w64 (k : Int)) fun a24 => ldL (a24.add ((w64 (k : Int)).toNat * 1)) h5 fun o25 l25 c25 => _) _) _) _) _
      rw [hw, hw1]
      refine cnd_pos (by omega) (cnd_pos (by omega) (cnd_pos (by omega) (cnd_pos (by omega) ?_)))
      refine Rb.str b5 ?_
      refine hs.get k05 (by omega) (by omega) ?_
      intro a6 l6 c6 b6 _ _ _
      refine Rb.str b6 ?_
      refine cnd_t ?_ (aw h5 k05)
      rw [hS, Int.toNat_natCast]
      exact seq_self _
  intro J hJ
  refine LoopT.intro (fun (t : Int × Int) h' => t.1 = t.2 - 1 ∧ 0 ≤ t.2 ∧ t.2 ≤ x0.len ∧ ∃ (m : M) (mu im : Nat → Prop), Disk.Rep h' p mu im m ∧ m.c = [] ∧ m.l.length = 40 ∧ Turn S m 3 10 t.2.toNat ∧ (∀ y, mu y ∨ im y → h.size ≤ y) ∧ Keep (fun y => h.size ≤ y) h h') (fun t _ => ((x0.len : Int) - t.2).toNat)
    ⟨by simp, by simp, by simp, _, mu0, im0, r2, fc, by rw [fl]; rfl, ⟨fun hbad => ?_, fun h => ?_, fun _ => slot_blank (hblank _) _⟩, hnew, k02⟩ ?_
  · rw [slot_blank (hblank _)] at hbad
    cases hbad
  · exact absurd h (by simp)
  rintro ⟨last, i⟩ h3 ⟨e1, g0, g1, m, mu, im, r3, hc, hl, ht, hn, k3⟩
  replace e1 : last = i - 1 := e1
  replace g0 : 0 ≤ i := g0
  replace g1 : i ≤ x0.len := g1
  replace ht : Turn S m 3 10 i.toNat := ht
  have hok : okAt m.l.length 3 10 := by rw [hl]; unfold okAt; omega
  refine cnd_dec (fun hi => ?_) (fun hi => ?_)
  · replace hi : i < x0.len := hi
    refine hs.get k3 g0 hi ?_
    intro a l c b3 hlc hcm hfar
    have hll := b3.len
    refine fits_spec (by unfold InI; omega) (by unfold InI; omega) ?_
    cases hfit : fitsM 10 (l : Int)
    · exact cnd_t rfl (aw h3 k3)
    refine cnd_f rfl ?_
    have hfit' : fitsM 10 ((S i.toNat).length : Int) = true := by rw [hS, ← hll]; exact hfit
    obtain ⟨f1, f2, f3⟩ := fits_parts hfit'
    refine hs.get k3 g0 hi ?_
    intro a' l' c' b3' hlc' hcm' hfar'
    have eu : IntKind.u64.wrap i = ((i.toNat : Nat) : Int) := by rw [wrap_u64_id (by omega) (by omega)]; omega
    show CallT Try.prog snap_Save_no [_, _, _, .int .u64 (IntKind.u64.wrap i), _] h3 _ _
    rw [eu]
    rw [← hS] at b3'
    refine save_spec r3 (by rw [hc]; simp) (by unfold InI; omega) (by unfold InI; omega) (by omega) b3' hlc' (by omega) (fun h0 b hb hm => ?_) ?_
    · have := hfar' b h0 hb
      have := hn b (.inl hm)
      omega
    intro mu4 im4 h4 r4 k4 gr
    have k04 : Keep (fun y => h.size ≤ y) h h4 := k3.trans k4 (fun y _ hy => hn y (.inl hy))
    have hn4 : ∀ y, mu4 y ∨ im4 y → h.size ≤ y := fun y hy => by
      have := k3.size
      rcases hy with hy | hy
      · rcases gr.1 y hy with hh | hh
        · exact hn y (.inl hh)
        · omega
      · rcases gr.2 y hy with hh | hh
        · exact hn y (.inr hh)
        · omega
    refine cnd_of (fun hne => hJ _ _ ?_) (fun heq => ?_)
    · have hne' : (saveM m 3 10 i.toNat (S i.toNat)).1 ≠ 0 := by simpa using hne
      have hlen4 := save_len m 3 10 i.toNat (S i.toNat)
      rw [hc] at hlen4
      have hll4 : (saveM m 3 10 i.toNat (S i.toNat)).2.l.length = 40 := by
        have es : saveM m 3 10 i.toNat (S i.toNat) = saveAt m (3 + ((i.toNat % 2 : Nat) : Int) * 10) i.toNat (S i.toNat) := by
          unfold saveM
          rw [if_neg (Classical.not_not.2 hok), if_neg (by simp [hfit'])]
        rw [es, (save_plain hc (by omega) _ _ (by omega)).1, hl]
      show -1 ≤ last ∧ last < 100 ∧ _
      refine ⟨by omega, by omega, _, mu4, im4, r4, hll4, by simp only [List.length_nil] at hlen4; omega, fun ks => ?_, hn4, k04⟩
      rcases turn_crash ht hc hok (by omega) hfit' (by omega) hne' ks with hh | hh
      · exact .inr ⟨i.toNat, by omega, by omega, by omega, hh⟩
      · rw [hh]
        by_cases e : i.toNat = 0
        · rw [if_pos e]
          exact .inl ⟨by omega, rfl⟩
        · rw [if_neg e]
          exact .inr ⟨i.toNat - 1, by omega, by omega, by omega, rfl⟩
    · have heq' : (saveM m 3 10 i.toNat (S i.toNat)).1 = 0 := by simpa using heq
      obtain ⟨w1, w2, w3⟩ := turn_save ht hc hok (by omega) hfit' (by omega) heq'
      have hw : w64 (i + 1) = i + 1 := w64_id (by omega) (by omega)
      show (i = w64 (i + 1) - 1 ∧ 0 ≤ w64 (i + 1) ∧ w64 (i + 1) ≤ x0.len ∧ ∃ (m : M) (mu im : Nat → Prop), Disk.Rep h4 p mu im m ∧ m.c = [] ∧ m.l.length = 40 ∧ Turn S m 3 10 (w64 (i + 1)).toNat ∧ (∀ y, mu y ∨ im y → h.size ≤ y) ∧ Keep (fun y => h.size ≤ y) h h4) ∧ ((x0.len : Int) - w64 (i + 1)).toNat < ((x0.len : Int) - i).toNat
      rw [hw]
      have e2 : (i + 1).toNat = i.toNat + 1 := by omega
      exact ⟨⟨by omega, by omega, by omega, _, mu4, im4, r4, w2, by rw [w3, hl], by rw [e2]; exact w1, hn4, k04⟩, by omega⟩
  · replace hi : ¬ i < x0.len := hi
    refine hJ _ _ ?_
    show -1 ≤ last ∧ last < 100 ∧ _
    refine ⟨by omega, by omega, m, mu, im, r3, hl, by rw [hc]; simp, fun ks => ?_, hn, k3⟩
    rw [crash_none hc]
    rw [turn_load (turn_congr (m' := ⟨m.l, [], 0, 0⟩) (fun i => by rw [readAt_lk, readAt_lk, hc]) (by omega) ht) hok (by show (0 : Int) ≠ 2; decide)]
    by_cases e : i.toNat = 0
    · rw [if_pos e]
      exact .inl ⟨by omega, rfl⟩
    · rw [if_neg e]
      exact .inr ⟨i.toNat - 1, by omega, by omega, by omega, rfl⟩

end Snap
end Go.Proofs.Ytmkobpkdodgboaa
