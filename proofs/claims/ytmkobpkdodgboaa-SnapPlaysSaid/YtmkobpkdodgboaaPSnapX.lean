/- SnapPlays. -/
import Derived.Test.YtmkobpkdodgboaaPRef7D
import Derived.Test.YtmkobpkdodgboaaPSnapW
import Derived.Test.YtmkobpkdodgboaaPBoth
namespace Go.Proofs.Ytmkobpkdodgboaa
open Go D
set_option linter.unusedVariables false
set_option linter.unusedSimpArgs false

/-- a script of layer 7 that came in -/
def SOpsAt (h : Heap) (a : Option Addr) (l : Nat) : Prop := ∀ i : Nat, i < l → ∃ x n0 n1 n2 n3 so sl sc o l' c, a = some x ∧ cellH h (x.add (i * 6)) = some (.int .i64 n0) ∧ cellH h ((x.add (i * 6)).add 1) = some (.int .i64 n1) ∧ cellH h ((x.add (i * 6)).add 2) = some (.int .i64 n2) ∧ cellH h ((x.add (i * 6)).add 3) = some (.int .u64 n3) ∧ cellH h ((x.add (i * 6)).add 4) = some (.slice so sl sc) ∧ cellH h ((x.add (i * 6)).add 5) = some (.slice o l' c) ∧ InI n1 ∧ InI n2 ∧ (0 ≤ n3 ∧ n3 ≤ 18446744073709551615) ∧ (Rb h so sl (bytesAt h so sl) ∧ sl ≤ sc ∧ (sc : Int) ≤ 9223372036854775807) ∧ BoolsAt h o l'

theorem sops_of {h : Heap} {a : Option Addr} {l c n : Nat} (hs : InSl 6 (InAgg 6 [(0, 1, InInt .i64), (1, 1, InInt .i64), (2, 1, InInt .i64), (3, 1, InInt .u64), (4, 1, InSl 1 (InInt .u8)), (5, 1, InSl 1 InBool)]) h n [.slice a l c]) : SOpsAt h a l := by
  rcases hs with h1 | ⟨x, l', c', h1, h2, h3, h4, h5⟩
  · injection h1 with h1
    injection h1 with h1 h2 h3
    subst h2
    intro i hi
    omega
  · injection h1 with h1
    injection h1 with e1 e2 e3
    subst e1 e2 e3
    intro i hi
    obtain ⟨r, b, g1, _, g2, g3, g4⟩ := h5 i (by omega)
    obtain ⟨b0, _, n0, f0, u0, v0, _⟩ := g4 (0, 1, InInt .i64) (by simp)
    obtain ⟨b1, _, n1, f1, u1, v1, _⟩ := g4 (1, 1, InInt .i64) (by simp)
    obtain ⟨b2, _, n2, f2, u2, v2, _⟩ := g4 (2, 1, InInt .i64) (by simp)
    obtain ⟨b3, _, n3, f3, u3, v3, _⟩ := g4 (3, 1, InInt .u64) (by simp)
    obtain ⟨b4, _, f4⟩ := g4 (4, 1, InSl 1 (InInt .u8)) (by simp)
    obtain ⟨b5, _, f5⟩ := g4 (5, 1, InSl 1 InBool) (by simp)
    match r, g1, f0, f1, f2, f3, f4, f5 with
    | [y0, y1, y2, y3, y4, y5], _, f0, f1, f2, f3, f4, f5 =>
      simp at f0 f1 f2 f3
      subst f0 f1 f2 f3
      have f5' : InSl 1 InBool h b5 [y5] := f5
      have f4' : InSl 1 (InInt .u8) h b4 [y4] := f4
      obtain ⟨o, l', c', rfl⟩ : ∃ o l' c', y5 = .slice o l' c' := by
        rcases f5' with e | ⟨o, l', c', e, _⟩
        · injection e with e; exact ⟨_, _, _, e⟩
        · injection e with e; exact ⟨_, _, _, e⟩
      obtain ⟨so, sl, sc, rfl, hcap⟩ : ∃ o l' c', y4 = .slice o l' c' ∧ c' ≤ maxLen := by
        rcases f4' with e | ⟨o, l', c', e, _, e2, _⟩
        · injection e with e; exact ⟨_, _, _, e, Nat.zero_le _⟩
        · injection e with e; exact ⟨_, _, _, e, e2⟩
      obtain ⟨w1, w2, _⟩ := bytes_of f4'
      have w0 := g2 0 (by omega)
      rw [add_zero] at w0
      exact ⟨x, n0, n1, n2, n3, so, sl, sc, o, l', c', rfl, w0, g2 1 (by omega), g2 2 (by omega), g2 3 (by omega), g2 4 (by omega), g2 5 (by omega), ⟨u1, v1⟩, ⟨u2, v2⟩, ⟨u3, v3⟩, ⟨w1, w2, by unfold maxLen at hcap; omega⟩, bools_of f5'⟩

namespace Snap
open Disk Enc Hash

theorem save_lens (m : M) (fr n : Int) (e : Nat) (st : List UInt8) : (saveM m fr n e st).2.l.length = m.l.length ∧ (saveM m fr n e st).2.c.length ≤ m.c.length + m.l.length + 3 := by
  unfold saveM
  split
  · exact ⟨rfl, by show m.c.length ≤ _; omega⟩
  · rename_i hok
    split
    · exact ⟨rfl, by show m.c.length ≤ _; omega⟩
    · rename_i hfit
      have hfit' : fitsM n (st.length : Int) = true := by simpa using hfit
      obtain ⟨f1, f2, f3⟩ := fits_parts hfit'
      obtain ⟨o1, o2, o3, o4⟩ := Classical.not_not.1 hok
      rw [saveAt_eq]
      have h1 := wr_len (fr + ((e % 2 : Nat) : Int) * n) st m (parts st.length)
      split
      · omega
      · have h2 := flush_len (wr (fr + ((e % 2 : Nat) : Int) * n) st (parts st.length) m).2
        split
        · omega
        · have h3 := write_len (flush (wr (fr + ((e % 2 : Nat) : Int) * n) st (parts st.length) m).2).2 (fr + ((e % 2 : Nat) : Int) * n) (headS e st)
          split
          · omega
          · have h4 := flush_len (write (flush (wr (fr + ((e % 2 : Nat) : Int) * n) st (parts st.length) m).2).2 (fr + ((e % 2 : Nat) : Int) * n) (headS e st)).2
            omega

theorem snapPlays_spec {h : Heap} {sz fr n : Int} {x3 : Sl} (hsz : InI sz) (hf : InI fr) (hn : InI n) (hs : SOpsAt h x3.a x3.len) {R : Bool → Heap → Prop} (hR : ∀ h', Keep (fun _ => False) h h' → R true h') :
    CallT Try.prog law7_SnapPlays_no [.int .i64 sz, .int .i64 fr, .int .i64 n, .slice x3.a x3.len x3.cap] h [.sc .bool] R := by
  apply law7_SnapPlays_call
  simp only [law7_SnapPlays]
  have aw : CallT Try.prog law7_awake_no [] h [.sc .bool] R := awake_spec fun h3 k3 => hR h3 k3
  refine withJ.inl (withJ.inl ?_)
  refine cnd_dec (fun h1 => cnd_t rfl (withJ.inl (cnd_pos h1 aw))) (fun h1 => ?_)
  refine cnd_dec (fun h2 => cnd_t rfl (withJ.inl (cnd_neg h1 (cnd_pos h2 aw)))) (fun h2 => ?_)
  refine awake_spec fun h0 hk0 => ?_
  refine cnd_f rfl ?_
  refine new_spec hsz (fun hb => by omega) ?_
  intro _ _ p mu im h1' hnew hr hk1
  refine Ref5.new_spec hsz (fun hb => by omega) ?_
  intro _ _ pr mur h2' hnew2 hr2 hk2
  have b0 : Both h h2' p pr ⟨List.replicate sz.toNat (noughts 256), [], 0, 0⟩ := Both.new (fun b hb => by have := hnew b hb; have := hk0.size; omega) hr (hk0.trans' hk1) hnew2 hr2 hk2
  refine LoopT.intro (fun i h' => 0 ≤ i ∧ i ≤ 40 ∧ ∃ m, Both h h' p pr m ∧ (m.l.length : Int) = sz ∧ (m.c.length : Int) ≤ 100 * i) (fun i _ => (40 - i).toNat) ⟨by omega, by omega, _, b0, by simp; omega, by simp⟩ ?_
  rintro i h4 ⟨g1, g2, m, b4, hl, hcl⟩
  refine withJ.inl ?_
  refine cnd_dec (fun hin1 => ?_) (fun _ => hR _ b4.out)
  refine cnd_dec (fun hin2 => ?_) (fun _ => hR _ b4.out)
  refine withJ.inl ?_
  obtain ⟨x, n0, n1, n2, n3, so, sl, sc, ko, kl, kc, hx, c0, c1, c2, c3, c4, c5, i1, i2, i3, ⟨hb, hcap, hci⟩, kb⟩ := hs i.toNat (by omega)
  rw [hx]
  have hkeep := b4.2
  refine idx_some g1 hin1 ?_
  have old : ∀ {a : Addr} {v : Value}, cellH h a = some v → cellH h4 a = some v := fun hc => hkeep.cell hc (by have := cell_lt hc; omega)
  refine ldI_at (old c0) (ldI_at (old c1) (ldI_at (old c2) (ldI_at (old c3) (ldL_at (old c4) (ldL_at (old c5) ?_)))))
  refine newB_row ?_
  intro h5 s5 o5 k5
  rw [add_mk, add_mk, add_mk, add_mk, add_mk]
  refine stC_row o5 (by simp) rfl ?_
  intro h6 s6 o6 k6
  refine stC_row o6 (by simp) rfl ?_
  intro h7 s7 o7 k7
  refine stC_row o7 (by simp) rfl ?_
  intro h8 s8 o8 k8
  refine stC_row o8 (by simp) rfl ?_
  intro h9 s9 o9 k9
  refine stC_row o9 (by simp) rfl ?_
  intro h10 s10 o10 k10
  refine stC_row o10 (by simp) rfl ?_
  intro h11 s11 o11 k11
  have k411 : Keep (fun _ => False) h4 h11 := k5.trans (((((k6.trans' k7).trans' k8).trans' k9).trans' k10).trans' k11) (fun y hy hb => by
    have : y = h4.size := hb
    omega)
  have oo : Row h11 h4.size [.int .i64 n0, .int .i64 n1, .int .i64 n2, .int .u64 n3, .slice so sl sc, .slice ko kl kc] := o11
  have hw : w64 (i + 1) = i + 1 := w64_id (by omega) (by omega)
  refine withJ.intro (fun (t : Bool) h9 => t = true ∧ ∃ m, Both h h9 p pr m ∧ (m.l.length : Int) = sz ∧ (m.c.length : Int) ≤ 100 * (i + 1)) ?_ ?_
  · rintro t h12 ⟨rfl, m', b12, hl', hcl'⟩
    refine withJ.inl ?_
    refine cnd_f rfl ?_
    refine same_spec b12 (by omega) ?_
    intro h13 k13
    refine cnd_f rfl ?_
    show (0 ≤ w64 (i + 1) ∧ w64 (i + 1) ≤ 40 ∧ ∃ m, Both h h13 p pr m ∧ (m.l.length : Int) = sz ∧ (m.c.length : Int) ≤ 100 * w64 (i + 1)) ∧ (40 - w64 (i + 1)).toNat < (40 - i).toNat
    rw [hw]
    exact ⟨⟨by omega, by omega, m', b12.keep k13, hl', hcl'⟩, by omega⟩
  · intro J hJ
    have b11 := b4.keep k411
    obtain ⟨mu, im, mur, r1, r2, hbl, hdis, step⟩ := b4.use
    have cl : m.c.length ≤ 900000 := by omega
    have nmu : ¬ mu h4.size := fun hm => by have := (hbl _ (.inl hm)).2; omega
    have r1' := r1.keep k411 (fun _ _ h => h) (fun _ _ h => h)
    have r2' := r2.keep k411 (fun _ _ h => h)
    have k11 : Keep (fun y => h.size ≤ y) h h11 := b11.2
    have farm : ∀ {a : Option Addr} {l : Nat} {bs : List UInt8}, Rb h a l bs → 0 < l → ∀ b, blk a b → ¬ (mu b ∨ mur b) := fun hr hl b hb hm => by
      have := hr.lt hl hb
      rcases hm with hm | hm
      · have := (hbl b (.inl hm)).1; omega
      · have := (hbl b (.inr (.inr hm))).1; omega
    have hb11 : Rb h11 so sl (bytesAt h so sl) := hb.keep k11 (fun hl b hb' hh => by
      have := hb.lt hl hb'
      have hh' : h.size ≤ b := hh
      omega)
    refine ldI_row oo rfl ?_
    refine cnd_of (fun _ => ?_) (fun _ => ?_)
    · -- Save
      refine ldI_row oo rfl (ldL_row oo rfl (ldI_row oo rfl (ldL_row oo rfl ?_)))
      obtain ⟨e, rfl⟩ : ∃ e : Nat, n3 = (e : Int) := ⟨n3.toNat, by omega⟩
      refine save_spec r1' cl hf hn (by omega) hb11 hcap (by omega) (fun hl b hb' hm => farm hb hl b hb' (.inl hm)) ?_
      intro mu2 im2 h12 v1 v2 v3
      have row12 := v2.row oo nmu
      refine ⟨ldL_row row12 rfl rfl, ldI_row row12 rfl rfl, ?_⟩
      have hb12 : Rb h12 so sl (bytesAt h so sl) := hb11.keep v2 (fun hl b hb' hm => farm hb hl b hb' (.inl hm))
      refine Ref7.save_spec (r2'.keep v2 (fun b hb hm => hdis b hb hm)) cl hf hn (by omega) hb12 (by omega) (fun hl b hb' hm => farm hb hl b hb' (.inr hm)) ?_
      intro mur2 h13 v4 v5 v6
      have wl := save_lens m fr n e (bytesAt h so sl)
      exact hJ _ _ ⟨by simp, _, step k411 v1 v2 v3 v4 v5 v6, by omega, by omega⟩
    refine cnd_of (fun _ => ?_) (fun _ => ?_)
    · -- Load
      refine load_spec r1' (by omega) hf hn ?_
      intro s12 h12 w12 _ k12
      have hz : ∀ i, (readAt m i).size = 256 := by
        obtain ⟨z1, z2⟩ := Rep.secs r1'
        exact fun i => readAt_size z1 z2 i
      refine Ref7.load_spec (r2'.keep k12 (fun _ _ h => h)) (by omega) hz hf hn ?_
      intro w s13 h13 w13 _ k13
      refine newB_row ?_
      intro h14 s14 o14 k14
      refine Ref7.st3 o14 rfl rfl rfl rfl ?_
      intro h15 k15 s15 o15
      have k1315 : Keep (fun _ => False) h13 h15 := k14.trans k15 (fun y hy e => by
        have e' : y = h13.size := e
        omega)
      refine Rb.str (Rv.keep w12 (k13.trans' k1315) (fun _ _ _ h => h)) ?_
      rw [add_mk, add_mk]
      refine ldL_row o15 rfl ?_
      refine Rb.str (Rv.keep w13 k1315 (fun _ _ _ h => h)) ?_
      refine cnd_t (seq_self _) (ldI_row o15 rfl (cnd_t (by simp) ?_))
      exact hJ _ _ ⟨by simp, m, b11.keep ((k12.trans' k13).trans' k1315), hl, by omega⟩
    refine cnd_of (fun _ => ?_) (fun _ => ?_)
    · -- Crash
      refine ldL_row oo rfl ?_
      have bis := (BoolsAt.is kb).keep k11 (fun hl y hy hh => by
        have := BoolsAt.lt kb hl hy
        have hh' : h.size ≤ y := hh
        omega)
      have far : ∀ {S : Nat → Prop}, (∀ b, S b → h.size ≤ b) → 0 < kl → ∀ b, blk ko b → ¬ S b := fun hS hl y hy hm => by
        have := BoolsAt.lt kb hl hy
        have := hS y hm
        omega
      have f1 := far (S := mu) (fun b hb => (hbl b (.inl hb)).1)
      have f2 := far (S := mur) (fun b hb => (hbl b (.inr (.inr hb))).1)
      refine crash_spec r1' (by omega) bis f1 ?_
      intro h12 r12 k12
      refine ldL_row (k12.row oo nmu) rfl ?_
      refine Ref5.crash_spec (r2'.keep k12 (fun b hb hm => hdis b hb hm)) (by omega) (bis.keep k12 f1) f2 ?_
      intro h13 r13 k13
      have fl := crash_len m (boolsOf h ko kl)
      exact hJ _ _ ⟨rfl, _, step k411 r12 k12 (.same _ _ _) r13 k13 (fun _ h => .inl h), by omega, by omega⟩
    refine cnd_of (fun _ => ?_) (fun _ => ?_)
    · -- Fuse
      refine ldI_row oo rfl ?_
      refine fuse_spec r1' i1 ?_
      intro h12 r12 k12 s12
      have k12' : Keep mu h11 h12 := k12.mono (fun y _ hy => by
        have : y = p := hy
        rw [this]; exact r1.own)
      refine ldI_row (k12'.row oo nmu) rfl ?_
      show nn (some ⟨pr, 0, none⟩) _
      rw [nn_eq, add_mk]
      refine Ref5.setF (r2'.keep k12' (fun b hb hm => hdis b hb hm)) i1 ?_
      intro h13 r13 k13 s13
      have fl := fuse_len m n1
      exact hJ _ _ ⟨rfl, _, step k411 r12 k12' (.same _ _ _) r13 (k13.mono (fun y _ hy => by
        have : y = pr := hy
        rw [this]; exact r2.own)) (fun _ h => .inl h), by omega, by omega⟩
    refine cnd_of (fun _ => ?_) (fun _ => ?_)
    · -- a sector is written over
      refine ldI_row oo rfl (ldI_row oo rfl ?_)
      refine sector_spec ?_
      intro h12 b12 k12 s12
      have rowA := k12.row oo (fun h => h)
      refine ldI_row rowA rfl ?_
      have far : ∀ b, blk (some (⟨h11.size, 0, none⟩ : Addr)) b → ¬ mu b := fun b hb hm => by
        rw [blk_some] at hb
        have := (hbl b (.inl hm)).2
        have := k411.size
        simp only at hb
        omega
      refine write_spec (r1'.keep k12 (fun _ _ h => h) (fun _ _ h => h)) i1 b12 (by rw [sector_size]; omega) (by omega) far ?_
      intro mu2 im2 h13 v1 v2 v3
      have rowB := v2.row rowA nmu
      refine ldI_row rowB rfl ?_
      refine (b12.keep v2 far).str ?_
      refine Ref5.write_spec ((r2'.keep k12 (fun _ _ h => h)).keep v2 (fun b hb hm => hdis b hb hm)) i1 (by omega) ?_
      intro mur2 h14 v4 v5 v6
      have wl := write_len m n1 (sector n1 n2)
      exact hJ _ _ ⟨rfl, _, step (k411.trans' k12) v1 v2 v3 v4 v5 v6, by omega, by omega⟩
    · exact hJ _ _ ⟨rfl, m, b11, hl, by omega⟩

end Snap
end Go.Proofs.Ytmkobpkdodgboaa
