/- SnapTurns. -/
import Derived.Test.YtmkobpkdodgboaaPSnapP
import Derived.Test.YtmkobpkdodgboaaPStates
namespace Go.Proofs.Ytmkobpkdodgboaa
open Go D
set_option linter.unusedVariables false
set_option linter.unusedSimpArgs false
namespace Snap
open Disk Enc Hash

theorem ofL_size (l : List UInt8) : (ofL l).size = l.length := by simp [ofL, ByteArray.size]
theorem wr_alive {m : M} (h0 : m.st = 0) {at_ : Int} (ha : 0 ≤ at_) (st : List UInt8) : ∀ i : Nat, at_ + i < m.l.length → (wr at_ st i m).1 = 0 ∧ (wr at_ st i m).2.st = 0
  | 0, _ => ⟨rfl, h0⟩
  | i + 1, hi => by
    obtain ⟨h1, h2⟩ := wr_alive h0 ha st i (by omega)
    have hl := (wr_len at_ st m i).1
    have ew : wr at_ st (i + 1) m = write (wr at_ st i m).2 (at_ + 1 + i) (ofL (secL st i)) := by
      show (if _ then _ else _) = _
      rw [if_neg (by simpa using h1)]
    rw [ew, write_alive h2 (by omega) (by omega) (by rw [ofL_size, secL_length])]
    exact ⟨rfl, h2⟩
theorem save_alive {m : M} (h0 : m.st = 0) {at_ : Int} (ha : 0 ≤ at_) (e : Nat) (st : List UInt8) (hi : at_ + parts st.length < m.l.length) : (saveAt m at_ e st).1 = 0 ∧ (saveAt m at_ e st).2.st = 0 := by
  obtain ⟨h1, h2⟩ := wr_alive h0 ha st (parts st.length) hi
  have hl := (wr_len at_ st m (parts st.length)).1
  rw [saveAt_eq, if_neg (Classical.not_not.2 h1), flush_alive0 h2, if_neg (by simp)]
  have hw := write_alive (m := { (wr at_ st (parts st.length) m).2 with l := lays (wr at_ st (parts st.length) m).2.l (wr at_ st (parts st.length) m).2.c, c := [] }) (i := at_) (s := headS e st) h2 ha (by show at_ < (lays _ _).length; rw [lays_length]; omega) (by unfold headS; rw [ofL_size, List.length_append, headL_length, List.length_replicate])
  simp only [hw]
  rw [if_neg (by simp)]
  have fl : ∀ q : M, q.st = 0 → (flush q).1 = 0 ∧ (flush q).2.st = 0 := fun q hq => by
    rw [flush_alive0 hq]
    exact ⟨rfl, hq⟩
  exact fl _ h2

/-- the slot that is not to be written next tells less -/
def Less (m : M) (fr n : Int) (E : Nat) : Prop := (slotM m (fr + (((E + 1) % 2 : Nat) : Int) * n) n ((E + 1) % 2)).2.2 = true → (slotM m (fr + (((E + 1) % 2 : Nat) : Int) * n) n ((E + 1) % 2)).2.1 < E

theorem fits_parts {n : Int} {l : Nat} (h : fitsM n l = true) : 1 ≤ n ∧ (parts l : Int) ≤ n - 1 ∧ (l : Int) ≤ (n - 1) * 256 := by
  unfold fitsM at h
  simp only [Bool.and_eq_true, decide_eq_true_eq] at h
  unfold parts
  omega

theorem save_whole {m : M} (hc : m.c = []) {fr n : Int} (hok : okAt m.l.length fr n) {E : Nat} (hE : E < 18446744073709551615) {st : List UInt8} (hf : fitsM n st.length = true) (hn : n ≤ 4096) (hs : (saveM m fr n E st).1 = 0) :
    (saveM m fr n E st).2.c = [] ∧ (saveM m fr n E st).2.l.length = m.l.length ∧ slotM (saveM m fr n E st).2 (fr + ((E % 2 : Nat) : Int) * n) n (E % 2) = (st, E, true) ∧
    slotM (saveM m fr n E st).2 (fr + (((E + 1) % 2 : Nat) : Int) * n) n ((E + 1) % 2) = slotM m (fr + (((E + 1) % 2 : Nat) : Int) * n) n ((E + 1) % 2) ∧
    readAt (saveM m fr n E st).2 (fr + (((E + 1) % 2 : Nat) : Int) * n) = readAt m (fr + (((E + 1) % 2 : Nat) : Int) * n) := by
  have es : saveM m fr n E st = saveAt m (fr + ((E % 2 : Nat) : Int) * n) E st := by
    unfold saveM
    rw [if_neg (Classical.not_not.2 hok), if_neg (by simp [hf])]
  rw [es] at hs ⊢
  obtain ⟨o1, o2, o3, o4⟩ := hok
  obtain ⟨f1, f2, f3⟩ := fits_parts hf
  have q : fr + ((E % 2 : Nat) : Int) * n = fr ∧ fr + (((E + 1) % 2 : Nat) : Int) * n = fr + n ∨ fr + ((E % 2 : Nat) : Int) * n = fr + n ∧ fr + (((E + 1) % 2 : Nat) : Int) * n = fr := by
    rcases Nat.mod_two_eq_zero_or_one E with e | e
    · have e' : (E + 1) % 2 = 1 := by omega
      rw [e, e']
      left
      constructor <;> omega
    · have e' : (E + 1) % 2 = 0 := by omega
      rw [e, e']
      right
      constructor <;> omega
  obtain ⟨at_, ha⟩ : ∃ at_, at_ = fr + ((E % 2 : Nat) : Int) * n := ⟨_, rfl⟩
  obtain ⟨bt, hb⟩ : ∃ bt, bt = fr + (((E + 1) % 2 : Nat) : Int) * n := ⟨_, rfl⟩
  rw [← ha, ← hb] at q
  rw [← ha] at hs
  rw [← ha, ← hb]
  obtain ⟨p1, p2, _⟩ := save_plain hc (at_ := at_) (by omega) E st (by omega)
  obtain ⟨p3, p4⟩ := p2 hs
  have far : ∀ i, bt ≤ i → i < bt + n → readAt (saveAt m at_ E st).2 i = readAt m i := fun i h1 h2 => by
    rw [p4 i (by omega) (by omega)]
    unfold newS
    rw [if_neg (by omega), if_neg (by omega)]
  exact ⟨p3, p1, slot_whole (by omega) rfl (by omega) (by omega) (fun i h1 h2 => ⟨_, p4 i (by omega) (by omega)⟩), slot_congr far o1 _, far bt (by omega) (by omega)⟩

theorem blank_less {m : M} {fr n : Int} (h : ∀ i, readAt m i = noughts 256) (E : Nat) : Less m fr n E := by
  unfold Less slotM
  rw [slot_blank (h _), if_pos rfl]
  intro h
  cases h
theorem blank_read {m : M} {k : Nat} (hl : m.l = List.replicate k (noughts 256)) (hc : m.c = []) (i : Int) : readAt m i = noughts 256 := by
  rw [readAt_lk, hc, lk_nil]
  unfold sec
  rw [hl, List.getD_eq_getElem?_getD, List.getElem?_replicate]
  split <;> rfl

theorem snapTurns_spec {h : Heap} {x0 : Sl} {f : Int} (hs : StatesAt h x0.a x0.len) (hf : 0 ≤ f ∧ f ≤ 18446744073709551615) {R : Bool → Heap → Prop} (hR : ∀ h', Keep (fun _ => False) h h' → R true h') :
    CallT Try.prog law7_SnapTurns_no [.slice x0.a x0.len x0.cap, .int .u64 f] h [.sc .bool] R := by
  apply law7_SnapTurns_call
  simp only [law7_SnapTurns]
  refine new_spec (by unfold InI; omega) (fun hb => by omega) ?_
  intro _ _ p mu0 im0 h1 hnew hr hk1
  have kR : ∀ h', Keep (fun y => h.size ≤ y) h h' → Keep (fun _ => False) h h' := fun h' k => k.mono (fun y hy hh => by have : h.size ≤ y := hh; omega)
  have aw : ∀ h2, Keep (fun y => h.size ≤ y) h h2 → CallT Try.prog law7_awake_no [] h2 [.sc .bool] R := fun h2 k2 => awake_spec fun h3 k3 => hR h3 ((kR h2 k2).trans' k3)
  have k01 : Keep (fun y => h.size ≤ y) h h1 := hk1.mono (fun _ _ h => h.elim)
  refine withJ.inl (withJ.inl ?_)
  refine cnd_f rfl ?_
  refine cnd_dec (fun hbig => cnd_t rfl (withJ.inl (cnd_t rfl (aw h1 k01)))) (fun hlen => ?_)
  refine cnd_of (fun hb => withJ.inl (cnd_t rfl (aw h1 k01))) (fun hb => ?_)
  have hf2 : f ≤ 4611686018427387904 := by simpa using hb
  refine LoopT.intro (fun (t : Int × Int) h' => 0 ≤ t.2 ∧ t.2 ≤ x0.len ∧ ∃ (E : Nat) (m : M) (mu im : Nat → Prop), t.1 = (E : Int) ∧ (E : Int) ≤ f + t.2 ∧ Disk.Rep h' p mu im m ∧ m.c = [] ∧ m.st = 0 ∧ m.l.length = 24 ∧ Less m 2 8 E ∧ (∀ y, mu y ∨ im y → h.size ≤ y) ∧ Keep (fun y => h.size ≤ y) h h') (fun t _ => ((x0.len : Int) - t.2).toNat)
    ⟨by simp, by simp, f.toNat, _, mu0, im0, by simp only; omega, by simp only; omega, hr, rfl, rfl, by simp, blank_less (blank_read (k := 24) rfl rfl) _, hnew, k01⟩ ?_
  rintro ⟨ep, i⟩ h2 ⟨g0, g1, E, m, mu, im, rfl, gE, r2, hc, hst, hl, hless, hn, k2⟩
  replace g0 : 0 ≤ i := g0
  replace g1 : i ≤ x0.len := g1
  replace gE : (E : Int) ≤ f + i := gE
  refine cnd_dec (fun hi => ?_) (fun hi => aw h2 k2)
  replace hi : i < x0.len := hi
  refine withJ.inl ?_
  refine hs.get k2 g0 hi ?_
  intro a l c b2 hlc hcm hfar
  have hll := b2.len
  have hok : okAt m.l.length 2 8 := by rw [hl]; unfold okAt; omega
  refine save_spec r2 (by rw [hc]; simp) (by unfold InI; omega) (by unfold InI; omega) (by omega) b2 hlc (by omega) (fun h0 b hb hm => ?_) ?_
  · have := hfar b h0 hb
    have := hn b (.inl hm)
    omega
  intro mu3 im3 h3 r3 k3 g3
  have k03 : Keep (fun y => h.size ≤ y) h h3 := k2.trans k3 (fun y _ hy => hn y (.inl hy))
  have hn3 : ∀ y, mu3 y ∨ im3 y → h.size ≤ y := fun y hy => by
    have := k2.size
    rcases hy with hy | hy
    · rcases g3.1 y hy with hh | hh
      · exact hn y (.inl hh)
      · omega
    · rcases g3.2 y hy with hh | hh
      · exact hn y (.inr hh)
      · omega
  have hw : w64 (i + 1) = i + 1 := w64_id (by omega) (by omega)
  refine withJ.inl (withJ.inl ?_)
  refine hs.get k03 g0 hi ?_
  intro a' l' c' b3 _ _ _
  have hll' := b3.len
  have ell : l' = l := by omega
  subst ell
  refine fits_spec (by unfold InI; omega) (by unfold InI; omega) ?_
  cases hfit : fitsM 8 (l' : Int)
  · -- it does not fit
    have es : saveM m 2 8 E (stateOf h x0.a i.toNat) = (60, m) := by
      unfold saveM
      rw [if_neg (Classical.not_not.2 hok), if_pos (by rw [← hll]; exact hfit)]
    rw [es] at r3 ⊢
    refine cnd_f rfl (cnd_t rfl (cnd_f rfl (cnd_t rfl ?_)))
    show (0 ≤ w64 (i + 1) ∧ w64 (i + 1) ≤ x0.len ∧ _) ∧ ((x0.len : Int) - w64 (i + 1)).toNat < ((x0.len : Int) - i).toNat
    rw [hw]
    exact ⟨⟨by omega, by omega, E, m, mu3, im3, rfl, by show (E : Int) ≤ f + (i + 1); omega, r3, hc, hst, hl, hless, hn3, k03⟩, by omega⟩
  · have hfit' : fitsM 8 ((stateOf h x0.a i.toNat).length : Int) = true := by rw [← hll]; exact hfit
    obtain ⟨f1, f2, f3⟩ := fits_parts hfit'
    have es : saveM m 2 8 E (stateOf h x0.a i.toNat) = saveAt m (2 + ((E % 2 : Nat) : Int) * 8) E (stateOf h x0.a i.toNat) := by
      unfold saveM
      rw [if_neg (Classical.not_not.2 hok), if_neg (by simp [hfit'])]
    obtain ⟨s1, s2⟩ := save_alive hst (at_ := 2 + ((E % 2 : Nat) : Int) * 8) (by omega) E (stateOf h x0.a i.toNat) (by omega)
    rw [← es] at s1 s2
    obtain ⟨w1, w2, w3, w4, _⟩ := save_whole hc hok (E := E) (by omega) hfit' (by omega) s1
    obtain ⟨m3, hm3⟩ : ∃ m3, m3 = (saveM m 2 8 E (stateOf h x0.a i.toNat)).2 := ⟨_, rfl⟩
    rw [← hm3] at r3 s2 w1 w2 w3 w4
    rw [s1]
    refine cnd_f rfl (cnd_f rfl (cnd_f rfl (cnd_f rfl ?_)))
    refine load_spec r3 (by rw [w1]; simp) (by unfold InI; omega) (by unfold InI; omega) ?_
    rw [load_newest (by rw [w2]; exact hok) (by omega) w3 (by rw [w4]; exact hless)]
    intro s4 h4 b4 r4 k4
    have k04 : Keep (fun y => h.size ≤ y) h h4 := k03.trans k4 (fun _ _ h => h.elim)
    refine withJ.inl (withJ.inl ?_)
    refine cnd_f rfl (cnd_f (by simp) ?_)
    refine Rb.str b4 ?_
    refine hs.get k04 g0 hi ?_
    intro a5 l5 c5 b5 _ _ _
    refine Rb.str b5 ?_
    refine cnd_f (by rw [seq_self]; rfl) ?_
    have he1 : IntKind.u64.wrap ((E : Int) + 1) = ((E + 1 : Nat) : Int) := by rw [wrap_u64_id (by omega) (by omega)]; rfl
    show (0 ≤ w64 (i + 1) ∧ w64 (i + 1) ≤ x0.len ∧ _) ∧ ((x0.len : Int) - w64 (i + 1)).toNat < ((x0.len : Int) - i).toNat
    rw [hw]
    refine ⟨⟨by omega, by omega, E + 1, m3, mu3, im3, he1, by show ((E + 1 : Nat) : Int) ≤ f + (i + 1); omega, r4, w1, s2, by rw [w2, hl], ?_, hn3, k04⟩, by omega⟩
    have e2 : (E + 1 + 1) % 2 = E % 2 := by omega
    unfold Less
    rw [e2, w3]
    intro _
    show E < E + 1
    omega

end Snap
end Go.Proofs.Ytmkobpkdodgboaa
