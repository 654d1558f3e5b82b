/- Contracts of the document's answer for layer 7: head, Save. -/
import Derived.Test.YtmkobpkdodgboaaPRef7
namespace Go.Proofs.Ytmkobpkdodgboaa
open Go D
set_option linter.unusedVariables false
set_option linter.unusedSimpArgs false
namespace Ref7
open Disk Enc Hash Snap

theorem head_spec {h : Heap} {a : Option Addr} {l c e : Nat} {st : List UInt8} (he : e < 18446744073709551616) (hb : Rb h a l st) (hl : l ≤ 100000000) {R : Sl → Heap → Prop}
    (hk : ∀ s h', s.len = 24 → Bl h' s.a 24 s.cap (headL e st) → Keep (fun _ => False) h h' → R s h') :
    CallT Try.prog ref7_head_no [.int .u64 (e : Int), .slice a l c] h [.sc .sl] R := by
  have hcall := ref7_head_call (epoch_0 := (e : Int)) (state_1 := ⟨a, l, c⟩) (R := R) (h := h)
  apply hcall
  simp only [ref7_head]
  have hlen := hb.len
  have e8 : (p64 e).length = 8 := p64_length e
  have l8 : (p64 l).length = 8 := p64_length l
  refine put64_spec he ?_
  rintro ⟨sa, sl, sc⟩ h1 hsl b1 n1 k1
  replace hsl : sl = 8 := hsl
  subst hsl
  dsimp only at b1 n1 ⊢
  refine b1.rb.rd ?_
  refine (show Bl h1 none 0 0 [] from SlR.nil h1 1).push (new := p64 e) (by omega) e8.symm rfl ?_
  intro a2 c2 h2 b2 k2 n2
  have k02 : Keep (fun _ => False) h h2 := k1.trans k2 (fun b _ hb => Ref5.nob b hb)
  have z2 := k02.size
  have z1 := k1.size
  have f2 : ∀ b, blk a2 b → h.size ≤ b := fun b hb => by
    rcases n2 b hb with hh | hh
    · exact absurd hh (Ref5.nob b)
    · omega
  have el : IntKind.u64.wrap (l : Int) = l := wrap_u64_id (by omega) (by omega)
  rw [el]
  refine put64_spec (by omega) ?_
  rintro ⟨ta, tl, tc⟩ h3 htl b3 n3 k3
  replace htl : tl = 8 := htl
  subst htl
  dsimp only at b3 n3 ⊢
  refine b3.rb.rd ?_
  have b2' : Bl h3 a2 (0 + 8) c2 _ := SlR.keep b2 k3 (fun _ _ h => h)
  refine b2'.push (new := p64 l) (by omega) l8.symm rfl ?_
  intro a4 c4 h4 b4 k4 n4
  have z3 := k3.size
  have f4 : ∀ b, blk a4 b → h.size ≤ b := fun b hb => by
    rcases n4 b hb with hh | hh
    · exact f2 b hh
    · omega
  have k04 : Keep (fun _ => False) h h4 := (k02.trans' k3).trans k4 (fun y hy hb => by have := f2 y hb; omega)
  have b4m : Bl h4 a4 (0 + 8 + 8) c4 (mid e l) := by
    have : [] ++ p64 e ++ p64 l = mid e l := by simp [mid]
    rw [← this]
    exact b4
  refine b4m.rb.rd ?_
  refine (show Bl h4 none 0 0 [] from SlR.nil h4 1).push (new := mid e l) (by omega) (by rw [mid_length]) rfl ?_
  intro a5 c5 h5 b5 k5 n5
  have k45 : Keep (fun _ => False) h4 h5 := k5.mono (fun y _ hb => Ref5.nob y hb)
  have z4 := k04.size
  have z5 := k45.size
  have f5 : ∀ b, blk a5 b → h4.size ≤ b := fun b hb => by
    rcases n5 b hb with hh | hh
    · exact absurd hh (Ref5.nob b)
    · exact hh
  have hb5 : Rb h5 a l st := (Rv.keep hb k04 (fun _ _ _ h => h)).keep k45 (fun _ _ _ h => h)
  refine hb5.rd ?_
  refine b5.push (new := st) (by omega) hlen rfl ?_
  intro a6 c6 h6 b6 k6 n6
  have z6 := k6.size
  have b6' : Rb h6 a6 (0 + (0 + 8 + 8) + l) (mid e l ++ st) := by
    have := b6.rb
    rwa [List.nil_append] at this
  have b46 : Rb h6 a4 (0 + 8 + 8) (mid e l) := (Rv.keep b4m.rb k45 (fun _ _ _ h => h)).keep k6 (fun _ b hb hh => by
    have := f5 b hh
    have := SlR.blk_lt b4m hb
    omega)
  have k06 : Keep (fun _ => False) h h6 := (k04.trans' k45).trans k6 (fun y hy hb => by have := f5 y hb; omega)
  refine lit_row ?_
  intro h7 s7 r7 k7
  refine Ref2.crc_spec (bs := mid e l ++ st) (Rv.keep b6' k7 (fun _ _ _ h => h)) (by omega) ?_
  refine four_spec ?_
  intro h8 b8 k8 s8
  dsimp only
  refine b8.rb.rd ?_
  have b7 : Bl h8 (some ⟨h6.size, 0, none⟩) 4 4 [83, 78, 65, 80] := SlR.keep (S := fun _ => False) (h := h7) (.inr ⟨h6.size, 0, _, rfl, r7, by simp, by simp, by simp, by simp; exact ⟨rfl, rfl, rfl, rfl⟩⟩) k8 (fun _ _ h => h)
  refine b7.push (new := be4W (crcF (mid e l ++ st))) (by omega) rfl rfl ?_
  intro a9 c9 h9 b9 k9 n9
  have z9 := k9.size
  have b49 : Rb h9 a4 (0 + 8 + 8) (mid e l) := ((Rv.keep b46 k7 (fun _ _ _ h => h)).keep k8 (fun _ _ _ h => h)).keep k9 (fun _ b hb hh => by
    rw [blk_some] at hh
    have := SlR.blk_lt b4m hb
    simp only at hh
    omega)
  refine Rv.rd b49 ?_
  refine b9.push (new := mid e l) (by omega) (by rw [mid_length]) rfl ?_
  intro a10 c10 h10 b10 k10 n10
  have f9 : ∀ b, blk a9 b → h6.size ≤ b := fun b hb => by
    rcases n9 b hb with hh | hh
    · rw [blk_some] at hh; simp only at hh; omega
    · omega
  refine hk _ h10 rfl ?_ ?_
  · have : [83, 78, 65, 80] ++ be4W (crcF (mid e l ++ st)) ++ mid e l = headL e st := by
      unfold headL
      rw [← hlen]
      simp
    rw [← this]
    exact b10
  · have z06 := k06.size
    refine ((((k06.trans' k7).trans' k8).trans k9 (fun y hy hb => ?_)).trans k10 (fun y hy hb => ?_))
    · rw [blk_some] at hb
      simp only at hb
      omega
    · have := f9 y hb
      omega

theorem fits7 {h : Heap} {n b : Int} (hn : InI n) (hb : InI b) {R : Bool → Heap → Prop} (hk : R (fitsM n b) h) : CallT Try.prog ref7_Fits_no [.int .i64 n, .int .i64 b] h [.sc .bool] R := fits7_spec hn hb hk

theorem save_spec {mu : Nat → Prop} {h : Heap} {p : Nat} {m : M} (hr : Ref5.Rep h p mu m) (hc : m.c.length ≤ 900000) {fr n : Int} (hf : InI fr) (hn : InI n) {e : Nat} (he : e < 18446744073709551616) {a : Option Addr} {l c : Nat} {st : List UInt8} (hb : Rb h a l st) (hli : (l : Int) ≤ 9223372036854775807)
    (hfar : 0 < l → ∀ b, blk a b → ¬ mu b) {R : Int → Heap → Prop}
    (hk : ∀ mu' h', Ref5.Rep h' p mu' (saveM m fr n e st).2 → Keep mu h h' → (∀ b, mu' b → mu b ∨ h.size ≤ b) → R (saveM m fr n e st).1 h') :
    CallT Try.prog ref7_Save_no [.pointer (some ⟨p, 0, none⟩), .int .i64 fr, .int .i64 n, .int .u64 (e : Int), .slice a l c] h [.sc (.int .i64)] R := by
  have hcall := ref7_Save_call (x_0 := some ⟨p, 0, none⟩) (x_1 := fr) (x_2 := n) (x_3 := (e : Int)) (x_4 := ⟨a, l, c⟩) (R := R) (h := h)
  apply hcall
  simp only [ref7_Save]
  have hlen := hb.len
  subst hlen
  have hle := hr.le
  unfold InI at hf hn
  unfold saveM at hk
  refine region_spec hr hf hn ?_
  by_cases hok : okAt m.l.length fr n
  rotate_left
  · rw [if_pos hok] at hk
    exact cnd_t (by simp [hok]) (hk mu h hr (.refl _ _) (fun _ h => .inl h))
  rw [if_neg (by simpa using hok)] at hk
  refine cnd_f (by simp [hok]) ?_
  refine fits7_spec hn ⟨by omega, by omega⟩ ?_
  by_cases hfit : fitsM n (st.length : Int) = false
  · rw [if_pos hfit] at hk
    exact cnd_t (by rw [hfit]; rfl) (hk mu h hr (.refl _ _) (fun _ h => .inl h))
  rw [if_neg hfit] at hk
  refine cnd_f (by simpa using hfit) ?_
  have hfit' : 1 ≤ n ∧ (st.length : Int) / 256 + min ((st.length : Int) % 256) 1 ≤ n - 1 := by
    have : fitsM n (st.length : Int) = true := by simpa using hfit
    unfold fitsM at this
    simp only [Bool.and_eq_true, decide_eq_true_eq] at this
    exact ⟨this.1, this.2.2⟩
  obtain ⟨o1, o2, o3, o4⟩ := hok
  have hpl : ((parts st.length : Nat) : Int) ≤ n - 1 := by unfold parts; omega
  obtain ⟨at_, hat⟩ : ∃ at_, at_ = fr + ((e % 2 : Nat) : Int) * n := ⟨_, rfl⟩
  rw [← hat] at hk
  have he2 : ((e % 2 : Nat) : Int) = 0 ∨ ((e % 2 : Nat) : Int) = 1 := by omega
  have hat2 : fr ≤ at_ ∧ at_ ≤ fr + n := by
    rcases he2 with h0 | h0 <;> rw [h0] at hat <;> omega
  have eat : w64 (fr + w64 (w64 ((e : Int).tmod 2) * n)) = at_ := by
    have e1 : w64 ((e : Int).tmod 2) = ((e % 2 : Nat) : Int) := by rw [Int.tmod_eq_emod_of_nonneg (by omega), w64_id (by omega) (by omega)]; omega
    rw [e1]
    have e2 : ((e % 2 : Nat) : Int) * n = at_ - fr := by omega
    rw [e2, w64_id (x := at_ - fr) (by omega) (by omega), w64_id (by omega) (by omega)]
    omega
  simp only [eat]
  rw [saveAt_eq] at hk
  refine LoopT.intro (fun i h' => 0 ≤ i ∧ i ≤ parts st.length ∧ (wr at_ st i.toNat m).1 = 0 ∧ ∃ mu', Ref5.Rep h' p mu' (wr at_ st i.toNat m).2 ∧ Keep mu h h' ∧ (∀ b, mu' b → mu b ∨ h.size ≤ b)) (fun i _ => ((parts st.length : Nat) - i).toNat) ⟨by omega, by omega, rfl, mu, hr, .refl _ _, fun _ h => .inl h⟩ ?_
  rintro i h1 ⟨q1, q2, q3, mu1, r1, k1, g1⟩
  have hb1 : Rb h1 a st.length st := hb.keep k1 hfar
  have wl := wr_len at_ st m i.toNat
  have z1 := k1.size
  have hw256 : w64 (256 * i) = 256 * i := w64_id (by omega) (by omega)
  rw [hw256]
  have grow : ∀ {mu2 : Nat → Prop} {hA : Heap}, h.size ≤ hA.size → (∀ b, mu2 b → mu1 b ∨ hA.size ≤ b) → ∀ b, mu2 b → mu b ∨ h.size ≤ b := by
    intro mu2 hA hz hg b hb
    rcases hg b hb with hh | hh
    · exact g1 b hh
    · omega
  have keep1 : ∀ {hA hB : Heap}, Keep mu h hA → Keep mu1 hA hB → Keep mu h hB := fun kA kB => kA.trans kB (fun y hy hm => by
    rcases g1 y hm with hh | hh
    · exact hh
    · omega)
  refine cnd_dec (fun hi => ?_) (fun hi => ?_)
  · have hip : i < parts st.length := by unfold parts; omega
    refine part_spec hb1 q1 (by omega) ?_
    intro h2 k2
    have ewr : w64 (w64 (at_ + 1) + i) = at_ + 1 + (i.toNat : Int) := by rw [w64_id (x := at_ + 1) (by omega) (by omega), w64_id (by omega) (by omega)]; omega
    rw [ewr]
    have hnext : wr at_ st (i.toNat + 1) m = write (wr at_ st i.toNat m).2 (at_ + 1 + (i.toNat : Int)) (ofL (secL st i.toNat)) := by
      show (if _ then _ else _) = _
      rw [if_neg (by simpa using q3)]
    refine Ref5.write_spec (r1.keep k2 (fun _ _ h => h)) (by unfold InI; omega) (by omega) ?_
    intro mu3 h3 r3 k3 g3
    rw [← hnext] at r3 ⊢
    have k03 : Keep mu h h3 := keep1 (k1.trans k2 (fun _ _ h => h.elim)) k3
    have hg3 := grow (hA := h2) (by have := k2.size; omega) g3
    refine cnd_of (fun hne => ?_) (fun heq => ?_)
    · have hne' : (wr at_ st (i.toNat + 1) m).1 ≠ 0 := by simpa using hne
      have hs := wr_stop hne' (parts st.length) (by omega)
      rw [hs, if_pos hne'] at hk
      exact hk mu3 h3 r3 k03 hg3
    · have heq' : (wr at_ st (i.toNat + 1) m).1 = 0 := by simpa using heq
      have hw : w64 (i + 1) = i + 1 := w64_id (by omega) (by omega)
      show (0 ≤ w64 (i + 1) ∧ w64 (i + 1) ≤ parts st.length ∧ (wr at_ st (w64 (i + 1)).toNat m).1 = 0 ∧ ∃ mu', Ref5.Rep h3 p mu' (wr at_ st (w64 (i + 1)).toNat m).2 ∧ Keep mu h h3 ∧ (∀ b, mu' b → mu b ∨ h.size ≤ b)) ∧ ((parts st.length : Nat) - w64 (i + 1)).toNat < ((parts st.length : Nat) - i).toNat
      rw [hw, show (i + 1).toNat = i.toNat + 1 by omega]
      exact ⟨⟨by omega, by omega, heq', mu3, r3, k03, hg3⟩, by omega⟩
  · have hip : i.toNat = parts st.length := by
      unfold parts at q2 ⊢
      omega
    rw [hip] at r1 q3 wl
    rw [if_neg (Classical.not_not.2 q3)] at hk
    refine Ref5.flush_spec r1 (by omega) ?_
    intro h2 r2 k2
    have fl := flush_len (wr at_ st (parts st.length) m).2
    have k02 := keep1 k1 k2
    refine cnd_of (fun hne => ?_) (fun heq => ?_)
    · have hne' : (flush (wr at_ st (parts st.length) m).2).1 ≠ 0 := by simpa using hne
      rw [if_pos hne'] at hk
      exact hk mu1 h2 r2 k02 g1
    have heq' : (flush (wr at_ st (parts st.length) m).2).1 = 0 := by simpa using heq
    rw [if_neg (Classical.not_not.2 heq')] at hk
    have hb2 : Rb h2 a st.length st := hb.keep k02 hfar
    refine head_spec he hb2 (by omega) ?_
    rintro ⟨sa, sl, sc⟩ h3 hsl b3 k3
    replace hsl : sl = 24 := hsl
    subst hsl
    refine part_spec (show Rb h3 sa 24 (headL e st) from b3.rb) (by omega) (by omega) ?_
    intro h4 k4
    have ehd : secL (headL e st) (0 : Int).toNat = headL e st ++ List.replicate 232 0 := by
      show (((headL e st).drop 0).take 256) ++ List.replicate (256 - (((headL e st).drop 0).take 256).length) 0 = _
      rw [List.drop_zero, List.take_of_length_le (by rw [headL_length]; omega), headL_length]
    rw [ehd]
    refine Ref5.write_spec ((r2.keep k3 (fun _ _ h => h)).keep k4 (fun _ _ h => h)) (by unfold InI; omega) (by omega) ?_
    intro mu5 h5 r5 k5 g5
    have wrl := write_len (flush (wr at_ st (parts st.length) m).2).2 at_ (headS e st)
    have k05 : Keep mu h h5 := keep1 ((k02.trans k3 (fun _ _ h => h.elim)).trans k4 (fun _ _ h => h.elim)) k5
    have z25 := k2.size
    have z35 := k3.size
    have z45 := k4.size
    have hg5 := grow (hA := h4) (by omega) g5
    show cnd ((write (flush (wr at_ st (parts st.length) m).2).2 at_ (headS e st)).1 != 0) _ _
    replace r5 : Ref5.Rep h5 p mu5 (write (flush (wr at_ st (parts st.length) m).2).2 at_ (headS e st)).2 := r5
    refine cnd_of (fun hne => ?_) (fun heq2 => ?_)
    · have hne' : (write (flush (wr at_ st (parts st.length) m).2).2 at_ (headS e st)).1 ≠ 0 := by simpa using hne
      rw [if_pos hne'] at hk
      exact hk mu5 h5 r5 k05 hg5
    have heq2' : (write (flush (wr at_ st (parts st.length) m).2).2 at_ (headS e st)).1 = 0 := by simpa using heq2
    rw [if_neg (Classical.not_not.2 heq2')] at hk
    refine Ref5.flush_spec r5 (by omega) ?_
    intro h6 r6 k6
    exact hk mu5 h6 r6 (k05.trans k6 (fun y hy hm => by
      rcases hg5 y hm with hh | hh
      · exact hh
      · omega)) hg5

end Ref7
end Go.Proofs.Ytmkobpkdodgboaa
