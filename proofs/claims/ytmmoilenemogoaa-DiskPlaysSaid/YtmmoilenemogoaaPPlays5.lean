/- stowagelaw5.DiskPlays returns true and writes nothing that was there. -/
import Derived.Test.YtmmoilenemogoaaPLasts
import Derived.Test.YtmmoilenemogoaaPRef5
namespace Go.Proofs.Ytmmoilenemogoaa
open Go D
set_option linter.unusedVariables false
set_option linter.unusedSimpArgs false

/-- a device's script that came in -/
def DOpsAt (h : Heap) (a : Option Addr) (l : Nat) : Prop := ∀ i : Nat, i < l → ∃ x n0 n1 n2 n3 n4 o l' c, a = some x ∧ cellH h (x.add (i * 6)) = some (.int .i64 n0) ∧ cellH h ((x.add (i * 6)).add 1) = some (.int .i64 n1) ∧ cellH h ((x.add (i * 6)).add 2) = some (.int .i64 n2) ∧ cellH h ((x.add (i * 6)).add 3) = some (.int .i64 n3) ∧ cellH h ((x.add (i * 6)).add 4) = some (.int .i64 n4) ∧ cellH h ((x.add (i * 6)).add 5) = some (.slice o l' c) ∧ InI n1 ∧ InI n2 ∧ InI n4 ∧ BoolsAt h o l'

theorem dops_of {h : Heap} {a : Option Addr} {l c n : Nat} (hs : InSl 6 (InAgg 6 [(0, 1, InInt .i64), (1, 1, InInt .i64), (2, 1, InInt .i64), (3, 1, InInt .i64), (4, 1, InInt .i64), (5, 1, InSl 1 InBool)]) h n [.slice a l c]) : DOpsAt h a l := by
  rcases hs with h1 | ⟨x, l', c', h1, h2, h3, h4, h5⟩
  · injection h1 with h1
    injection h1 with h1 h2 h3
    subst h2
    intro i hi
    omega
  · injection h1 with h1
    injection h1 with e1 e2 e3
    subst e1 e2 e3
    intro i hi
    obtain ⟨r, b, g1, _, g2, g3, g4⟩ := h5 i (by omega)
    obtain ⟨b0, _, n0, f0, u0, v0, _⟩ := g4 (0, 1, InInt .i64) (by simp)
    obtain ⟨b1, _, n1, f1, u1, v1, _⟩ := g4 (1, 1, InInt .i64) (by simp)
    obtain ⟨b2, _, n2, f2, u2, v2, _⟩ := g4 (2, 1, InInt .i64) (by simp)
    obtain ⟨b3, _, n3, f3, u3, v3, _⟩ := g4 (3, 1, InInt .i64) (by simp)
    obtain ⟨b4, _, n4, f4, u4, v4, _⟩ := g4 (4, 1, InInt .i64) (by simp)
    obtain ⟨b5, _, f5⟩ := g4 (5, 1, InSl 1 InBool) (by simp)
    match r, g1, f0, f1, f2, f3, f4, f5 with
    | [y0, y1, y2, y3, y4, y5], _, f0, f1, f2, f3, f4, f5 =>
      simp at f0 f1 f2 f3 f4
      subst f0 f1 f2 f3 f4
      have f5' : InSl 1 InBool h b5 [y5] := f5
      obtain ⟨o, l', c', rfl⟩ : ∃ o l' c', y5 = .slice o l' c' := by
        rcases f5' with e | ⟨o, l', c', e, _⟩
        · injection e with e; exact ⟨_, _, _, e⟩
        · injection e with e; exact ⟨_, _, _, e⟩
      have w0 := g2 0 (by omega)
      rw [add_zero] at w0
      exact ⟨x, n0, n1, n2, n3, n4, o, l', c', rfl, w0, g2 1 (by omega), g2 2 (by omega), g2 3 (by omega), g2 4 (by omega), g2 5 (by omega), ⟨u1, v1⟩, ⟨u2, v2⟩, ⟨u4, v4⟩, bools_of f5'⟩

/-- cells of one kind are laid from the front -/
theorem fill_loop {a : Option Addr} {l c : Nat} {vs : List Value} {v : Value} {n : Int} {K : Heap → Prop} (hv : v.oneCell' = true) (hn : n ≤ l) (hl : l ≤ 1000000) : ∀ {h : Heap}, SlR h 1 a l c vs → (∀ h', Keep (blk a) h h' → h'.size = h.size → K h') →
    LoopT (σ := Int) (fun X s h => cnd (decide (s < n)) (idx a l s fun x => stC (x.add (s.toNat * 1)) v h fun h' => X (w64 (s + 1)) h') (K h)) 0 h := by
  intro h hs hk
  refine LoopT.intro (fun s h' => 0 ≤ s ∧ (s ≤ n ∨ s = 0) ∧ (∃ vs, SlR h' 1 a l c vs) ∧ Keep (blk a) h h' ∧ h'.size = h.size) (fun s _ => (n - s).toNat) ⟨by omega, .inr rfl, ⟨vs, hs⟩, .refl _ _, rfl⟩ ?_
  rintro s h' ⟨q1, q2, ⟨vs', q3⟩, q4, q5⟩
  refine cnd_dec (fun hj => ?_) (fun hj => hk h' q4 q5)
  refine q3.idx q1 (by omega) fun x hx hsp => ?_
  subst hx
  rw [Nat.mul_one]
  refine q3.set (by omega) hv ?_
  intro h2 s2 w1 w2
  rw [w64_id (x := s + 1) (by omega) (by omega)]
  exact ⟨⟨by omega, .inl (by omega), ⟨_, w1⟩, q4.trans' (w2.mono (fun y _ e => blk_some.2 e.symm)), by omega⟩, by omega⟩

namespace Disk

theorem write_len (m : M) (i : Int) (s : ByteArray) : (write m i s).2.l.length = m.l.length ∧ (write m i s).2.c.length ≤ m.c.length + 1 := by
  obtain ⟨b1, b2⟩ := burn_l m
  unfold write
  split
  · exact ⟨rfl, Nat.le_succ _⟩
  · split
    · exact ⟨rfl, Nat.le_succ _⟩
    · split
      · rw [b1, b2]; exact ⟨rfl, Nat.le_succ _⟩
      · simp only [b1, b2, List.length_append, List.length_singleton]; exact ⟨trivial, Nat.le_refl _⟩
theorem flush_len (m : M) : (flush m).2.l.length = m.l.length ∧ (flush m).2.c.length ≤ m.c.length + 1 := by
  obtain ⟨b1, b2⟩ := burn_l m
  unfold flush
  split
  · exact ⟨rfl, Nat.le_succ _⟩
  · split
    · rw [b1, b2]; exact ⟨rfl, Nat.le_succ _⟩
    · simp only [lays_length, List.length_nil]; exact ⟨trivial, by omega⟩
theorem crash_len (m : M) (ks : List Bool) : (crash m ks).l.length = m.l.length ∧ (crash m ks).c.length ≤ m.c.length + 1 := by
  unfold crash
  simp only [lays_length, List.length_nil]; exact ⟨trivial, by omega⟩
theorem fuse_len (m : M) (k : Int) : (fuse m k).l.length = m.l.length ∧ (fuse m k).c.length ≤ m.c.length + 1 := by
  unfold fuse
  split
  · exact ⟨rfl, Nat.le_succ _⟩
  · split <;> exact ⟨rfl, Nat.le_succ _⟩
theorem fuse_lc (m : M) (k : Int) : (fuse m k).l = m.l ∧ (fuse m k).c = m.c := by
  unfold fuse
  split
  · exact ⟨rfl, rfl⟩
  · split <;> exact ⟨rfl, rfl⟩
theorem maxI_m1 (k : Int) : maxI k (-1) = if k < 0 then -1 else k := by
  unfold maxI
  by_cases h : k < 0
  · rw [if_pos h]
    by_cases h2 : k = -1
    · rw [if_neg (by omega)]; exact h2
    · rw [if_pos (by omega)]
  · rw [if_neg h, if_neg (by omega)]

/-- a device and the document's answer hold the same -/
structure Both (h0 h : Heap) (d w : Option Addr) (n i : Int) : Prop where
  ex : ∃ m p mu im pr mur, d = some ⟨p, 0, none⟩ ∧ w = some ⟨pr, 0, none⟩ ∧ Rep h p mu im m ∧ Ref5.Rep h pr mur m ∧ (∀ b, mur b → ¬ mu b ∧ ¬ im b) ∧ (∀ b, mu b ∨ im b ∨ mur b → h0.size ≤ b) ∧ (m.l.length : Int) = n ∧ (m.c.length : Int) ≤ i
  kp : Keep (fun y => h0.size ≤ y) h0 h

theorem Both.keep {h0 h h' : Heap} {d w : Option Addr} {n i : Int} (hb : Both h0 h d w n i) (hk : Keep (fun _ => False) h h') : Both h0 h' d w n i := by
  obtain ⟨⟨m, p, mu, im, pr, mur, e1, e2, r1, r2, g1, g2, g3, g4⟩, k⟩ := hb
  exact ⟨⟨m, p, mu, im, pr, mur, e1, e2, r1.keep hk (fun _ _ h => h) (fun _ _ h => h), r2.keep hk (fun _ _ h => h), g1, g2, g3, g4⟩, k.trans hk (fun _ _ h => h.elim)⟩

theorem diskPlays_spec {h : Heap} {n : Int} {x1 : Sl} (hn : InI n) (hs : DOpsAt h x1.a x1.len) {R : Bool → Heap → Prop} (hR : ∀ h', Keep (fun _ => False) h h' → R true h') :
    CallT Try.prog law5_DiskPlays_no [.int .i64 n, .slice x1.a x1.len x1.cap] h [.sc .bool] R := by
  apply law5_DiskPlays_call
  simp only [law5_DiskPlays, cnd_and]
  refine new_spec hn ?_ ?_
  · intro hbad
    refine Ref5.new_spec hn ?_ (fun _ _ => by omega)
    intro _
    refine withJ.inl (withJ.inl ?_)
    refine cnd_f rfl (cnd_f rfl ?_)
    refine awake_spec fun h' hk => ?_
    refine cnd_f rfl ?_
    refine LoopT.intro (fun s h2 => s.1 = none ∧ h2 = h') (fun _ _ => 0) ⟨rfl, rfl⟩ ?_
    rintro ⟨s1, s2, i⟩ h2 ⟨e1, rfl⟩
    replace e1 : s1 = none := e1
    subst e1
    refine withJ.inl ?_
    exact cnd_of (fun hin => by simp at hin) (fun _ => hR _ hk)
  · intro hn0 hn1 p mu im h1 hnew hr hk1
    refine Ref5.new_spec hn (fun hb => by omega) ?_
    intro _ _ pr mur h2 hnew2 hr2 hk2
    refine withJ.inl (withJ.inl ?_)
    refine cnd_f rfl (cnd_f rfl ?_)
    refine awake_spec fun h3 hk3 => ?_
    refine cnd_f rfl ?_
    have b3 : Both h h3 (some ⟨p, 0, none⟩) (some ⟨pr, 0, none⟩) n 0 :=
      Both.keep ⟨⟨_, p, mu, im, pr, mur, rfl, rfl, hr.keep hk2 (fun _ _ h => h) (fun _ _ h => h), hr2,
        fun b hb => ⟨fun hm => by have := hnew2 b hb; have := hr.lt b (.inl hm); omega, fun hm => by have := hnew2 b hb; have := hr.lt b (.inr hm); omega⟩,
        fun b hb => by
          rcases hb with hb | hb | hb
          · exact hnew b (.inl hb)
          · exact hnew b (.inr hb)
          · have := hnew2 b hb; have := hk1.size; omega, by simp; omega, by simp⟩, (hk1.mono (fun _ _ h => h.elim)).trans hk2 (fun _ _ h => h.elim)⟩ hk3
    refine LoopT.intro (fun s h4 => 0 ≤ s.2.2 ∧ s.2.2 ≤ 80 ∧ Both h h4 s.1 s.2.1 n s.2.2) (fun s _ => (80 - s.2.2).toNat) ⟨by simp, by simp, b3⟩ ?_
    rintro ⟨s, w, i⟩ h4 ⟨g1, g2, g3⟩
    replace g1 : 0 ≤ i := g1
    replace g2 : i ≤ 80 := g2
    replace g3 : Both h h4 s w n i := g3
    refine withJ.inl ?_
    have hkeep := g3.kp
    refine cnd_of (fun hin => ?_) (fun hout => hR _ ⟨hkeep.size, fun b hb _ => hkeep.same b hb (by omega)⟩)
    simp only [Bool.and_eq_true, decide_eq_true_eq] at hin
    obtain ⟨hin1, hin2, _⟩ := hin
    refine withJ.inl ?_
    obtain ⟨x, n0, n1, n2, n3, n4, ko, kl, kc, hx, c0, c1, c2, c3, c4, c5, i1, i2, i4, kb⟩ := hs i.toNat (by omega)
    rw [hx]
    refine idx_some g1 hin1 ?_
    have old : ∀ {a : Addr} {v : Value}, cellH h a = some v → cellH h4 a = some v := fun hc => hkeep.cell hc (by have := cell_lt hc; omega)
    refine ldI_at (old c0) (ldI_at (old c1) (ldI_at (old c2) (ldI_at (old c3) (ldI_at (old c4) (ldL_at (old c5) ?_)))))
    refine newB_row ?_
    intro h5 s5 o5 k5
    rw [add_mk, add_mk, add_mk, add_mk, add_mk]
    refine stC_row o5 (by simp) rfl ?_
    intro h6 s6 o6 k6
    refine stC_row o6 (by simp) rfl ?_
    intro h7 s7 o7 k7
    refine stC_row o7 (by simp) rfl ?_
    intro h8 s8 o8 k8
    refine stC_row o8 (by simp) rfl ?_
    intro h9 s9 o9 k9
    refine stC_row o9 (by simp) rfl ?_
    intro h10 s10 o10 k10
    refine stC_row o10 (by simp) rfl ?_
    intro h11 s11 o11 k11
    have k411 : Keep (fun _ => False) h4 h11 := k5.trans (((((k6.trans' k7).trans' k8).trans' k9).trans' k10).trans' k11) (fun y hy hb => by
      have : y = h4.size := hb
      omega)
    have oo : Row h11 h4.size [.int .i64 n0, .int .i64 n1, .int .i64 n2, .int .i64 n3, .int .i64 n4, .slice ko kl kc] := o11
    have hw : w64 (i + 1) = i + 1 := w64_id (by omega) (by omega)
    have hin2' : i < 80 := hin2
    refine withJ.intro (fun (t : Option Addr × Option Addr × Bool) h9 => t.2.2 = true ∧ Both h h9 t.1 t.2.1 n (i + 1)) ?_ ?_
    · rintro ⟨t1, t2, t3⟩ h12 ⟨e, b12⟩
      replace e : t3 = true := e
      replace b12 : Both h h12 t1 t2 n (i + 1) := b12
      subst e
      have b12' := b12
      obtain ⟨⟨m, p', mu', im', pr', mur', rfl, rfl, r1, r2, d1, d2, d3, d4⟩, k12⟩ := b12
      refine withJ.inl ?_
      refine cnd_f rfl (cnd_f rfl ?_)
      obtain ⟨_, ⟨ca, cc, cl1⟩, _, cl3⟩ := r2.cells
      show nn (some ⟨pr', 0, none⟩) _
      rw [nn_eq, add_mk]
      refine ldL_at cl1 ?_
      refine pending_spec r1 ?_
      refine ⟨ldL_at cl1 rfl, ?_⟩
      refine cnd_f (by simp) ?_
      show nn (some ⟨pr', 0, none⟩) _
      rw [nn_eq, add_mk]
      refine ldB_at cl3 ?_
      refine dead_spec r1 ?_
      refine ⟨ldB_at cl3 rfl, ?_⟩
      refine cnd_f (by simp) ?_
      refine size_spec r1 ?_
      refine cnd_f (by simp [d3]) ?_
      show (0 ≤ w64 (i + 1) ∧ w64 (i + 1) ≤ 80 ∧ Both h h12 _ _ n (w64 (i + 1))) ∧ (80 - w64 (i + 1)).toNat < (80 - i).toNat
      rw [hw]
      exact ⟨⟨by omega, by omega, b12'⟩, by omega⟩
    · intro J hJ
      obtain ⟨⟨m, p', mu', im', pr', mur', rfl, rfl, r1, r2, d1, d2, d3, d4⟩, k⟩ := g3
      have cl : m.c.length ≤ 1000000 := by omega
      have l1 := r1.lt
      have l2 := r2.lt
      have r1' := r1.keep k411 (fun _ _ h => h) (fun _ _ h => h)
      have r2' := r2.keep k411 (fun _ _ h => h)
      have k11 : Keep (fun y => h.size ≤ y) h h11 := k.trans k411 (fun _ _ h => h.elim)
      have sz411 := k411.size
      have lt411 := oo.lt
      have fin : ∀ {hA hB hf hg : Heap} {m2 : M} {mu2 im2 mur2 : Nat → Prop}, Keep (fun _ => False) h11 hA → Rep hB p' mu2 im2 m2 → Grew hA mu' im' mu2 im2 → Keep mu' hA hB → Ref5.Rep hf pr' mur2 m2 → Keep mur' hB hf → (∀ b, mur2 b → mur' b ∨ hB.size ≤ b) →
          Keep (fun b => h11.size ≤ b ∧ b < hA.size) hf hg → m2.l.length = m.l.length → m2.c.length ≤ m.c.length + 1 → Both h hg (some ⟨p', 0, none⟩) (some ⟨pr', 0, none⟩) n (i + 1) := by
        intro hA hB hf hg m2 mu2 im2 mur2 u1 u2 u3 u4 u5 u6 u7 u8 u9 u10
        have zA := u1.size
        have zB := u4.size
        have zf := u6.size
        have zh := k11.size
        refine ⟨⟨m2, p', mu2, im2, pr', mur2, rfl, rfl, (u2.keep u6 ?_ ?_).keep u8 ?_ ?_, u5.keep u8 ?_, ?_, ?_, by omega, by omega⟩, ?_⟩
        · intro b hb hm
          have := l2 b hm
          rcases u3.1 b hb with h' | h'
          · exact (d1 b hm).1 h'
          · omega
        · intro b hb hm
          have := l2 b hm
          rcases u3.2 b hb with h' | h'
          · exact (d1 b hm).2 h'
          · omega
        · rintro b hb ⟨e1, e2⟩
          rcases u3.1 b hb with h' | h'
          · have := l1 b (.inl h'); omega
          · omega
        · rintro b hb ⟨e1, e2⟩
          rcases u3.2 b hb with h' | h'
          · have := l1 b (.inr h'); omega
          · omega
        · rintro b hb ⟨e1, e2⟩
          rcases u7 b hb with h' | h'
          · have := l2 b h'; omega
          · omega
        · intro b hb
          refine ⟨fun hm => ?_, fun hm => ?_⟩
          · rcases u7 b hb with h' | h'
            · have := l2 b h'
              rcases u3.1 b hm with h2 | h2
              · exact (d1 b h').1 h2
              · omega
            · have := u2.lt b (.inl hm); omega
          · rcases u7 b hb with h' | h'
            · have := l2 b h'
              rcases u3.2 b hm with h2 | h2
              · exact (d1 b h').2 h2
              · omega
            · have := u2.lt b (.inr hm); omega
        · rintro b (hb | hb | hb)
          · rcases u3.1 b hb with h' | h'
            · exact d2 b (.inl h')
            · omega
          · rcases u3.2 b hb with h' | h'
            · exact d2 b (.inr (.inl h'))
            · omega
          · rcases u7 b hb with h' | h'
            · exact d2 b (.inr (.inr h'))
            · omega
        · refine (((k11.trans u1 (fun _ _ h => h.elim)).trans u4 (fun y _ hy => d2 y (.inl hy))).trans u6 (fun y _ hy => d2 y (.inr (.inr hy)))).trans u8 (fun y _ hy => ?_)
          have hy' : h11.size ≤ y ∧ y < hA.size := hy
          show h.size ≤ y
          omega
      have nmu : ¬ mu' h4.size := fun hm => by have := l1 _ (.inl hm); omega
      have nmr : ¬ mur' h4.size := fun hm => by have := l2 _ hm; omega
      -- a write to both
      have wr : ∀ {hA : Heap} {a : Option Addr} {l c : Nat} {sb : ByteArray} {K : Int → Int → Heap → Prop}, Keep (fun _ => False) h11 hA → Bs hA a l c sb → sb.size ≤ 1000000000 → (∀ b, blk a b → h11.size ≤ b) →
          (∀ r hf, (∀ hg, Keep (fun b => h11.size ≤ b ∧ b < hA.size) hf hg → Both h hg (some ⟨p', 0, none⟩) (some ⟨pr', 0, none⟩) n (i + 1)) → Keep (fun y => y < h11.size) hA hf → K r r hf) →
          CallT Try.prog disk_Dev_Write_no [.pointer (some ⟨p', 0, none⟩), .int .i64 n1, .slice a l c] hA [.sc (.int .i64)] fun r hB => (b2s a l hB fun s60 => (.string s60 : Value) = .string sb) ∧ (ldI .i64 ⟨h4.size, 0 + 1, none⟩ hB fun n61 => (.int .i64 n61 : Value) = .int .i64 n1) ∧
            CallT Try.prog ref5_Dev_Write_no [.pointer (some ⟨pr', 0, none⟩), .int .i64 n1, .string sb] hB [.sc (.int .i64)] fun r' hf => K r r' hf := by
        intro hA a l c sb K u1 u2 u3 u4 u5
        have zA := u1.size
        have rA := r1'.keep u1 (fun _ _ h => h) (fun _ _ h => h)
        have rrA := r2'.keep u1 (fun _ _ h => h)
        have far : ∀ b, blk a b → ¬ mu' b := fun b hb hm => by have := u4 b hb; have := l1 b (.inl hm); omega
        refine write_spec rA i1 u2 u3 cl far ?_
        intro mu2 im2 hB v1 v2 v3
        have rowB := v2.row (u1.row oo (fun h => h)) nmu
        refine ⟨(u2.keep v2 far).str rfl, ldI_row rowB rfl rfl, ?_⟩
        refine Ref5.write_spec (rrA.keep v2 (fun b hb hm => (d1 b hb).1 hm)) i1 cl ?_
        intro mur2 hf v4 v5 v6
        have wl := write_len m n1 sb
        refine u5 _ hf (fun hg hk => fin u1 v1 v3 v2 v4 v5 v6 hk wl.1 wl.2) ?_
        exact (v2.mono (fun y hy hm => by have := l1 y (.inl hm); omega)).trans v5 (fun y hy hm => by have := l2 y hm; omega)
      refine ldI_row oo rfl ?_
      refine cnd_of (fun _ => ?_) (fun _ => ?_)
      · refine ldI_row oo rfl (ldI_row oo rfl ?_)
        refine sector_spec ?_
        intro h12 b12 k12 s12
        have rowA := k12.row oo (fun h => h)
        refine ldI_row rowA rfl (ldI_row rowA rfl ?_)
        refine b12.str ?_
        refine wr k12 b12 (by rw [sector_size]; omega) (fun b hb => by rw [blk_some] at hb; simp only at hb; omega) ?_
        intro r hf v1 v2
        refine fill_loop rfl (by simp) (by simp) (b12.keep v2 (fun b hb e => by
          rw [blk_some] at hb
          have e' : b < h11.size := e
          simp only at hb
          omega)) ?_
        intro hg w1 w2
        refine hJ _ _ ⟨by simp, v1 hg (w1.mono fun y _ hy => ?_)⟩
        rw [blk_some] at hy
        simp only at hy
        show h11.size ≤ y ∧ y < h12.size
        omega
      · refine cnd_of (fun _ => ?_) (fun _ => ?_)
        · refine ldI_row oo rfl ?_
          refine read_spec r1' cl i1 ?_ ?_
          · intro hbad
            refine ldI_row oo rfl ?_
            refine Ref5.read_spec r2' cl (fun _ => ?_) (fun e => absurd e hbad)
            refine withJ.inl ?_
            have e0 : Bs h11 none 0 0 ⟨#[]⟩ := SlR.nil _ _
            refine e0.str ?_
            refine cnd_t (seq_self _) ?_
            refine fill_loop rfl (by simp) (by simp) (SlR.nil h11 1) ?_
            intro hg w1 w2
            exact hJ _ _ ⟨by simp, fin (.refl _ _) r1' (.same _ _ _) (.refl _ _) r2' (.refl _ _) (fun _ h => .inl h) (w1.mono (fun y _ hy => absurd hy (Ref5.nob y))) rfl (Nat.le_succ _)⟩
          · intro hok b' h12 hb1 hb2 b12 r12 k12
            refine ldI_row (k12.row oo (fun h => h)) rfl ?_
            refine Ref5.read_spec (r2'.keep k12 (fun _ _ h => h)) cl (fun e => absurd hok e) (fun _ => ?_)
            refine withJ.inl ?_
            refine b12.str ?_
            refine cnd_t (seq_self _) ?_
            refine fill_loop rfl (by simp) (by simp) b12 ?_
            intro hg w1 w2
            refine hJ _ _ ⟨by simp, fin k12 r12 (.same _ _ _) (.refl _ _) (r2'.keep k12 (fun _ _ h => h)) (.refl _ _) (fun _ h => .inl h) (w1.mono (fun y _ hy => ?_)) rfl (Nat.le_succ _)⟩
            rw [blk_some] at hy
            simp only at hy
            omega
        · refine cnd_of (fun _ => ?_) (fun _ => ?_)
          · refine flush_spec r1' cl ?_
            intro h12 r12 k12
            refine Ref5.flush_spec (r2'.keep k12 (fun b hb hm => (d1 b hb).1 hm)) cl ?_
            intro h13 r13 k13
            have fl := flush_len m
            exact hJ _ _ ⟨by simp, fin (.refl _ _) r12 (.same _ _ _) k12 r13 k13 (fun _ h => .inl h) (.refl _ _) fl.1 fl.2⟩
          · refine cnd_of (fun _ => ?_) (fun _ => ?_)
            · refine ldL_row oo rfl ?_
              have bis := (BoolsAt.is kb).keep k11 (fun hl y hy => by
                obtain ⟨x, z, h2', h3'⟩ := kb 0 hl
                obtain ⟨x', hx', rfl⟩ := hy
                rw [h2'] at hx'
                injection hx' with hx'
                subst hx'
                have := cell_lt h3'
                have e : (x.add (0 * 1)).block = x.block := by unfold Addr.add; split <;> rfl
                omega)
              have far : ∀ {S : Nat → Prop}, (∀ b, S b → h.size ≤ b) → 0 < kl → ∀ b, blk ko b → ¬ S b := by
                intro S hS hl y hy hm
                obtain ⟨x, z, h2', h3'⟩ := kb 0 hl
                obtain ⟨x', hx', rfl⟩ := hy
                rw [h2'] at hx'
                injection hx' with hx'
                subst hx'
                have := cell_lt h3'
                have e : (x.add (0 * 1)).block = x.block := by unfold Addr.add; split <;> rfl
                have := hS _ hm
                omega
              have farm := far (fun b hb => d2 b (.inl hb))
              refine crash_spec r1' cl bis farm ?_
              intro h12 r12 k12
              refine ldL_row (k12.row oo nmu) rfl ?_
              refine Ref5.crash_spec (r2'.keep k12 (fun b hb hm => (d1 b hb).1 hm)) cl (bis.keep k12 farm) (far (fun b hb => d2 b (.inr (.inr hb)))) ?_
              intro h13 r13 k13
              have fl := crash_len m (boolsOf h ko kl)
              exact hJ _ _ ⟨by simp, fin (.refl _ _) r12 (.same _ _ _) k12 r13 k13 (fun _ h => .inl h) (.refl _ _) fl.1 fl.2⟩
            · refine cnd_of (fun _ => ?_) (fun _ => ?_)
              · refine ldI_row oo rfl ?_
                refine fuse_spec r1' i2 ?_
                intro h12 r12 k12 s12
                have k12' : Keep mu' h11 h12 := k12.mono (fun y _ hy => by
                  have : y = p' := hy
                  rw [this]; exact r1.own)
                refine ldI_row (k12'.row oo nmu) rfl ?_
                show nn (some ⟨pr', 0, none⟩) _
                rw [nn_eq, add_mk]
                have r2'' := r2'.keep k12' (fun b hb hm => (d1 b hb).1 hm)
                have fl := fuse_len m n2
                unfold InI at i2
                refine r2''.setFuse (m' := fuse m n2) (fuse_lc m n2).1 (fuse_lc m n2).2 ?_ ?_ ?_
                · unfold fuse
                  split
                  · exact Iff.rfl
                  · split <;> exact ⟨fun e => by simp at e, fun e => by omega⟩
                · obtain ⟨_, _, ⟨f, rf, _⟩, _⟩ := r2''.cells
                  obtain ⟨f0, f1, f2, f3, f4⟩ := rf
                  rw [maxI_m1]
                  unfold fuse
                  split
                  · refine ⟨fun e => by omega, fun e => by omega, f2, ?_, f4⟩
                    unfold InI; split <;> omega
                  · by_cases hk : n2 < 0
                    · rw [if_pos hk, if_pos hk]
                      exact ⟨fun _ => rfl, fun e => by simp at e, .inl rfl, by unfold InI; omega, f4⟩
                    · rw [if_neg hk, if_neg hk]
                      exact ⟨fun e => by simp at e, fun _ => rfl, .inr (.inl rfl), by unfold InI; omega, by simp only; omega⟩
                · intro h13 r13 k13 s13
                  exact hJ _ _ ⟨by simp, fin (.refl _ _) r12 (.same _ _ _) k12' r13 (k13.mono (fun y _ hy => by
                    have : y = pr' := hy
                    rw [this]; exact r2.own)) (fun _ h => .inl h) (.refl _ _) fl.1 fl.2⟩
              · refine cnd_of (fun _ => ?_) (fun _ => ?_)
                · refine copy_spec r1' cl ?_
                  intro p2 mu2 h12 z12 r12 _ k12
                  refine Ref5.copy_spec (r2'.keep k12 (fun _ _ h => h)) cl ?_
                  intro p3 mur3 h13 z13 r13 k13
                  have zz := k11.size
                  have zz2 := k12.size
                  refine hJ _ _ ⟨by simp, ⟨⟨m, p2, mu2, im', p3, mur3, rfl, rfl, r12.keep k13 (fun _ _ h => h) (fun _ _ h => h), r13, fun b hb => ⟨fun hm => ?_, fun hm => ?_⟩, ?_, d3, by omega⟩, (k11.trans k12 (fun _ _ h => h.elim)).trans k13 (fun _ _ h => h.elim)⟩⟩
                  · have := z13 b hb; have := r12.lt b (.inl hm); omega
                  · have := z13 b hb; have := r12.lt b (.inr hm); omega
                  · rintro b (hb | hb | hb)
                    · have := z12 b hb; omega
                    · exact d2 b (.inr (.inl hb))
                    · have := z13 b hb; omega
                · refine cnd_of (fun _ => ?_) (fun _ => ?_)
                  · refine ldI_row oo rfl ?_
                    unfold InI at i4
                    obtain ⟨q, hq⟩ : ∃ q, q = (maxI 0 n4).tmod 600 := ⟨_, rfl⟩
                    have hq0 : 0 ≤ q ∧ q < 600 := by
                      have hm : 0 ≤ maxI 0 n4 := by unfold maxI; split <;> omega
                      rw [hq]
                      exact ⟨Int.tmod_nonneg _ hm, Int.tmod_lt_of_pos _ (by omega)⟩
                    rw [← hq]
                    refine mkBytes hq0.1 (by omega) ?_
                    intro h12 s12 b12 k12
                    have rowA := k12.row oo (fun h => h)
                    refine ldI_row rowA rfl (ldI_row rowA rfl ?_)
                    refine b12.str ?_
                    refine wr k12 b12 (by rw [noughts_size]; omega) (fun b hb => by rw [blk_some] at hb; simp only at hb; omega) ?_
                    intro r hf v1 v2
                    exact hJ _ _ ⟨by simp, v1 hf (.refl _ _)⟩
                  · exact hJ _ _ ⟨rfl, fin (.refl _ _) r1' (.same _ _ _) (.refl _ _) r2' (.refl _ _) (fun _ h => .inl h) (.refl _ _) rfl (Nat.le_succ _)⟩

end Disk
end Go.Proofs.Ytmmoilenemogoaa
