/- stowagelaw5.DiskFuses returns true and writes nothing that was there. -/
import Derived.Test.YtmmoilenemogoaaPDiskD
namespace Go.Proofs.Ytmmoilenemogoaa
open Go D
set_option linter.unusedVariables false
set_option linter.unusedSimpArgs false
namespace Disk

/-- what the device is at behind i calls, its fuse set to k at the start -/
def FuseSt (m : M) (k i : Int) : Prop := m.l.length = 8 ∧ (m.c.length : Int) ≤ i ∧ ((k < 0 ∧ m.st = 0) ∨ (0 ≤ k ∧ i ≤ k ∧ m.st = 1 ∧ m.fuse = k - i) ∨ (0 ≤ k ∧ k < i ∧ m.st = 2))

theorem fuse_call {m m' : M} {k i f : Int} (hs : FuseSt m k i) (h : (m.st = 2 ∧ f = 50 ∧ m' = m) ∨ (m.st ≠ 2 ∧ (((burn m).1 ≠ 0 ∧ f = (burn m).1 ∧ m' = (burn m).2) ∨ ((burn m).1 = 0 ∧ f = 0 ∧ m'.st = (burn m).2.st ∧ m'.fuse = (burn m).2.fuse ∧ m'.l.length = m.l.length ∧ m'.c.length ≤ m.c.length + 1)))) :
    FuseSt m' k (i + 1) ∧ ((f = 0 ∧ (k < 0 ∨ i < k) ∧ m'.st ≠ 2) ∨ (f = 50 ∧ ¬ k < 0 ∧ ¬ i < k ∧ m'.st = 2)) := by
  obtain ⟨h1, h2, h3⟩ := hs
  have hbl := burn_l m
  rcases h with ⟨e1, rfl, rfl⟩ | ⟨e1, h⟩
  · rcases h3 with h3 | h3 | h3
    · omega
    · omega
    · exact ⟨⟨h1, by omega, .inr (.inr (by omega))⟩, .inr ⟨rfl, by omega, by omega, h3.2.2⟩⟩
  · unfold burn at h hbl
    by_cases hs1 : m.st = 1
    · by_cases hf : m.fuse = 0
      · rw [if_pos hs1, if_pos hf] at h
        simp only at h
        rcases h with ⟨_, rfl, rfl⟩ | ⟨h, _⟩
        · exact ⟨⟨h1, by simp only; omega, .inr (.inr ⟨by omega, by omega, rfl⟩)⟩, .inr ⟨rfl, by omega, by omega, rfl⟩⟩
        · omega
      · rw [if_pos hs1, if_neg hf] at h
        simp only at h
        rcases h with ⟨h, _⟩ | ⟨_, rfl, w1, w2, w3, w4⟩
        · omega
        · exact ⟨⟨by omega, by omega, .inr (.inl ⟨by omega, by omega, by omega, by omega⟩)⟩, .inl ⟨rfl, by omega, by omega⟩⟩
    · rw [if_neg hs1] at h
      simp only at h
      rcases h with ⟨h, _⟩ | ⟨_, rfl, w1, w2, w3, w4⟩
      · omega
      · exact ⟨⟨by omega, by omega, .inl ⟨by omega, by omega⟩⟩, .inl ⟨rfl, by omega, by omega⟩⟩

theorem flush_call (m : M) : (m.st = 2 ∧ (flush m).1 = 50 ∧ (flush m).2 = m) ∨ (m.st ≠ 2 ∧ (((burn m).1 ≠ 0 ∧ (flush m).1 = (burn m).1 ∧ (flush m).2 = (burn m).2) ∨ ((burn m).1 = 0 ∧ (flush m).1 = 0 ∧ (flush m).2.st = (burn m).2.st ∧ (flush m).2.fuse = (burn m).2.fuse ∧ (flush m).2.l.length = m.l.length ∧ (flush m).2.c.length ≤ m.c.length + 1))) := by
  unfold flush
  by_cases h : m.st = 2
  · rw [if_pos h]; exact .inl ⟨h, rfl, rfl⟩
  · rw [if_neg h]
    refine .inr ⟨h, ?_⟩
    by_cases hb : (burn m).1 ≠ 0
    · rw [if_pos hb]; exact .inl ⟨hb, rfl, rfl⟩
    · rw [if_neg hb]; exact .inr ⟨by omega, rfl, rfl, rfl, lays_length _ _, by simp⟩

theorem write_call (m : M) {i : Int} {s : ByteArray} (h0 : 0 ≤ i) (h1 : i < m.l.length) (h2 : s.size = 256) : (m.st = 2 ∧ (write m i s).1 = 50 ∧ (write m i s).2 = m) ∨ (m.st ≠ 2 ∧ (((burn m).1 ≠ 0 ∧ (write m i s).1 = (burn m).1 ∧ (write m i s).2 = (burn m).2) ∨ ((burn m).1 = 0 ∧ (write m i s).1 = 0 ∧ (write m i s).2.st = (burn m).2.st ∧ (write m i s).2.fuse = (burn m).2.fuse ∧ (write m i s).2.l.length = m.l.length ∧ (write m i s).2.c.length ≤ m.c.length + 1))) := by
  have hbl := burn_l m
  unfold write
  by_cases h : m.st = 2
  · rw [if_pos h]; exact .inl ⟨h, rfl, rfl⟩
  · rw [if_neg h, if_neg (by omega)]
    refine .inr ⟨h, ?_⟩
    by_cases hb : (burn m).1 ≠ 0
    · rw [if_pos hb]; exact .inl ⟨hb, rfl, rfl⟩
    · rw [if_neg hb]; exact .inr ⟨by omega, rfl, rfl, rfl, by simp only [hbl.1], by simp [hbl.2]⟩

theorem and7 {i : Int} (h0 : 0 ≤ i) (h1 : i < 9223372036854775808) : andI .i64 i 7 = ((i.toNat % 8 : Nat) : Int) := by
  obtain ⟨n, rfl⟩ := Int.eq_ofNat_of_zero_le h0
  have e63 : (2 : Nat) ^ 63 = 9223372036854775808 := by decide
  have := andI_i64 (x := n) (y := 7) (by rw [e63]; omega) (by decide)
  rw [show ((7 : Nat) : Int) = 7 from rfl] at this
  rw [this, show (7 : Nat) = 2 ^ 3 - 1 from rfl, Nat.and_two_pow_sub_one_eq_mod]; rfl

theorem diskFuses_spec {h : Heap} {x0 : Sl} {k : Int} (hki : InI k) (hs : BoolsAt h x0.a x0.len) {R : Bool → Heap → Prop} (hR : ∀ h', Keep (fun _ => False) h h' → R true h') :
    CallT Try.prog law5_DiskFuses_no [.slice x0.a x0.len x0.cap, .int .i64 k] h [.sc .bool] R := by
  apply law5_DiskFuses_call
  simp only [law5_DiskFuses]
  refine new_spec (by unfold InI; omega) (fun hb => by omega) ?_
  intro _ _ p mu0 im0 h1 hnew hr hk1
  refine withJ.inl (withJ.inl ?_)
  refine cnd_f rfl (cnd_f rfl ?_)
  refine cnd_dec (fun hbig => ?_) (fun hsm => ?_)
  · refine withJ.inl (cnd_t rfl (cnd_t rfl ?_))
    exact awake_spec fun h' hk => hR h' (hk1.trans' hk)
  refine fuse_spec hr hki ?_
  intro h2 r2 k2 s2
  have hps : h.size ≤ p := hnew p (.inl hr.own)
  have k12 : Keep (fun y => h.size ≤ y) h h2 := (hk1.mono (fun _ _ h => h.elim)).trans k2 (fun y hy hyp => by
    have : y = p := hyp
    omega)
  have st0 : FuseSt (fuse ⟨List.replicate (8 : Int).toNat (noughts 256), [], 0, 0⟩ k) k 0 := by
    unfold fuse
    rw [if_neg (by decide)]
    by_cases hk0 : k < 0
    · rw [if_pos hk0]
      exact ⟨rfl, by decide, .inl ⟨hk0, rfl⟩⟩
    · rw [if_neg hk0]
      exact ⟨rfl, by simp, .inr (.inl ⟨by omega, by omega, rfl, by simp⟩)⟩
  refine LoopT.intro (fun i h' => 0 ≤ i ∧ i ≤ x0.len ∧ ∃ m mu im, Rep h' p mu im m ∧ FuseSt m k i ∧ (∀ b, mu b ∨ im b → h.size ≤ b) ∧ Keep (fun y => h.size ≤ y) h h') (fun i _ => (x0.len - i).toNat) ⟨by omega, by omega, _, mu0, im0, r2, st0, hnew, k12⟩ ?_
  rintro i h3 ⟨g1, g2, m, mu, im, r3, st, hn, k3⟩
  have hcl : m.c.length ≤ 1000000 := by have := st.2.1; omega
  have hll := st.1
  refine cnd_dec (fun hi => ?_) (fun hi => ?_)
  · refine withJ.inl ?_
    have hw : w64 (i + 1) = i + 1 := w64_id (by omega) (by omega)
    refine withJ.intro (fun f h' => ∃ m mu im, Rep h' p mu im m ∧ (FuseSt m k (i + 1) ∧ ((f = 0 ∧ (k < 0 ∨ i < k) ∧ m.st ≠ 2) ∨ (f = 50 ∧ ¬ k < 0 ∧ ¬ i < k ∧ m.st = 2))) ∧ (∀ b, mu b ∨ im b → h.size ≤ b) ∧ Keep (fun y => h.size ≤ y) h h') ?_ ?_
    · rintro f h4 ⟨m4, mu4, im4, r4, ⟨st4, res⟩, hn4, k4⟩
      refine withJ.inl ?_
      have go : (0 ≤ w64 (i + 1) ∧ w64 (i + 1) ≤ x0.len ∧ ∃ m mu im, Rep h4 p mu im m ∧ FuseSt m k (w64 (i + 1)) ∧ (∀ b, mu b ∨ im b → h.size ≤ b) ∧ Keep (fun y => h.size ≤ y) h h4) ∧ (x0.len - w64 (i + 1)).toNat < (x0.len - i).toNat := by
        rw [hw]
        exact ⟨⟨by omega, by omega, m4, mu4, im4, r4, st4, hn4, k4⟩, by omega⟩
      rcases res with ⟨rfl, hlt, hst⟩ | ⟨rfl, hk0, hlt, hst⟩
      · refine cnd_dec (fun hk0 => ?_) (fun hk0 => ?_)
        · refine cnd_f rfl (cnd_f rfl ?_)
          refine dead_spec r4 ?_
          exact cnd_f (by simp [hst]) go
        · refine cnd_f (by simp; omega) (cnd_f rfl ?_)
          refine dead_spec r4 ?_
          exact cnd_f (by simp [hst]) go
      · refine cnd_neg hk0 ?_
        refine cnd_f (by simp; omega) (cnd_t rfl (cnd_f rfl ?_))
        refine dead_spec r4 ?_
        exact cnd_f (by simp [hst]) go
    · intro J hJ
      refine hs.ld k3 g1 hi ?_
      intro v
      cases v
      · refine cnd_f rfl ?_
        refine sector_spec ?_
        intro h4 b4 k4 s4
        rw [and7 g1 (by omega)]
        have r4 := r3.keep k4 (fun _ _ h => h) (fun _ _ h => h)
        refine write_spec r4 (by unfold InI; omega) b4 (by rw [sector_size]; omega) hcl (fun b hb hm => ?_) ?_
        · rw [blk_some] at hb
          have := r3.lt b (.inl hm)
          simp only at hb
          omega
        · intro mu5 im5 h5 r5 k5 gr
          refine hJ _ _ ⟨_, mu5, im5, r5, fuse_call st (write_call m (by omega) (by omega) (sector_size _ _)), fun b hb => ?_, ?_⟩
          · have := k3.size
            have := k4.size
            rcases hb with hb | hb
            · rcases gr.1 b hb with hh | hh
              · exact hn b (.inl hh)
              · omega
            · rcases gr.2 b hb with hh | hh
              · exact hn b (.inr hh)
              · omega
          · exact (k3.trans k4 (fun _ _ h => h.elim)).trans k5 (fun y hy hm => hn y (.inl hm))
      · refine cnd_t rfl ?_
        refine flush_spec r3 hcl ?_
        intro h4 r4 k4
        exact hJ _ _ ⟨_, mu, im, r4, fuse_call st (flush_call m), hn, k3.trans k4 (fun y hy hm => hn y (.inl hm))⟩
  · have rest : ∀ h4, Rep h4 p mu im m → Keep (fun _ => False) h3 h4 → CallT Try.prog disk_Dev_Crash_no [.pointer (some ⟨p, 0, none⟩), .slice none 0 0] h4 [] (fun (r40 : Unit) h41 =>
        CallT Try.prog disk_Dev_Read_no [.pointer (some ⟨p, 0, none⟩), .int .i64 0] h41 [.sc .sl, .sc (.int .i64)] fun (r42 : Sl × Int) h43 =>
        CallT Try.prog law5_Sector_no [.int .i64 2, .int .i64 2] h43 [.sc .sl] fun (r44 : Sl) h45 =>
        CallT Try.prog disk_Dev_Write_no [.pointer (some ⟨p, 0, none⟩), .int .i64 0, .slice r44.a r44.len r44.cap] h45 [.sc (.int .i64)] fun (r46 : Int) h47 =>
        withJ (σ := Bool) (fun s48 h50 => R s48 h50) (fun J49 =>
        cnd (r42.2 == 0) (cnd (r46 == 0) (CallT Try.prog disk_Dev_Dead_no [.pointer (some ⟨p, 0, none⟩)] h47 [.sc .bool] fun (r51 : Bool) h52 =>
        cnd (!r51) (CallT Try.prog disk_Dev_Flush_no [.pointer (some ⟨p, 0, none⟩)] h52 [.sc (.int .i64)] fun (r53 : Int) h54 =>
        cnd (r53 == 0) (CallT Try.prog law5_awake_no [] h54 [.sc .bool] fun (r55 : Bool) h56 => J49 r55 h56) (J49 false h54)) (J49 false h52)) (J49 false h47)) (J49 false h47))) := by
      intro h4 r4 k4
      have k34 : Keep (fun y => h.size ≤ y) h h4 := k3.trans k4 (fun _ _ h => h.elim)
      refine crash_spec r4 hcl (boolsIs_nil _) (fun b hb => by obtain ⟨x, hx, _⟩ := hb; cases hx) ?_
      intro h5 r5 k5
      have k35 : Keep (fun y => h.size ≤ y) h h5 := k34.trans k5 (fun y hy hm => hn y (.inl hm))
      have hkl : (crash m []).l.length = 8 := by
        show (lays m.l (kept m.c [])).length = 8
        rw [lays_length]; exact hll
      have hre : readErr (crash m []) 0 = 0 := by
        unfold readErr
        rw [if_neg (by show ¬ ((0 : Int) = 2); omega), if_neg (by omega)]
      refine read_spec r5 (by show [].length ≤ _; simp) (i := 0) (by unfold InI; omega) (fun hb => absurd hre hb) ?_
      intro _ b h6 hb1 hb2 b6 r6 k6
      refine sector_spec ?_
      intro h7 b7 k7 s7
      have r7 := r6.keep k7 (fun _ _ h => h) (fun _ _ h => h)
      have k37 : Keep (fun y => h.size ≤ y) h h7 := (k35.trans k6 (fun _ _ h => h.elim)).trans k7 (fun _ _ h => h.elim)
      have hwr := write_alive (m := crash m []) (i := 0) (s := sector 2 2) rfl (by omega) (by omega) (sector_size _ _)
      refine write_spec r7 (by unfold InI; omega) b7 (by rw [sector_size]; omega) (by show [].length ≤ _; simp) (fun b hb hm => ?_) ?_
      · rw [blk_some] at hb
        have := r6.lt b (.inl hm)
        simp only at hb
        omega
      · rw [hwr]
        intro mu8 im8 h8 r8 k8 gr
        refine withJ.inl (cnd_t rfl (cnd_t rfl ?_))
        refine dead_spec r8 ?_
        refine cnd_t rfl ?_
        refine flush_spec r8 (by show [_].length ≤ _; simp) ?_
        intro h9 r9 k9
        have k38 : Keep (fun y => h.size ≤ y) h h8 := k37.trans k8 (fun y hy hm => hn y (.inl hm))
        have k39 : Keep (fun y => h.size ≤ y) h h9 := k38.trans k9 (fun y hy hm => by
          rcases gr.1 y hm with hh | hh
          · exact hn y (.inl hh)
          · have := k37.size; omega)
        refine cnd_t rfl ?_
        refine awake_spec fun h' hk => hR h' ?_
        have kk := k39.trans hk (fun _ _ h => h.elim)
        exact ⟨kk.size, fun b hb _ => kk.same b hb (by omega)⟩
    by_cases hst : m.st = 2
    · have hre : readErr m 0 = 50 := by unfold readErr; rw [if_pos hst]
      refine read_spec r3 hcl (i := 0) (by unfold InI; omega) ?_ (fun hb => by omega)
      intro _
      rw [hre]
      refine dead_spec r3 ?_
      exact cnd_f (by simp [hst]) (rest h3 r3 (.refl _ _))
    · have hre : readErr m 0 = 0 := by unfold readErr; rw [if_neg hst, if_neg (by omega)]
      refine read_spec r3 hcl (i := 0) (by unfold InI; omega) (fun hb => absurd hre hb) ?_
      intro _ b h4 _ _ _ r4 k4
      refine dead_spec r4 ?_
      exact cnd_f (by simp [hst]) (rest h4 r4 k4)

end Disk
end Go.Proofs.Ytmmoilenemogoaa
