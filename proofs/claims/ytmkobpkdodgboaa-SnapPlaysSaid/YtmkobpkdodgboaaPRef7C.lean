/- Contracts of the document's answer for layer 7: read, Load. -/
import Derived.Test.YtmkobpkdodgboaaPRef7B
namespace Go.Proofs.Ytmkobpkdodgboaa
open Go D
set_option linter.unusedVariables false
set_option linter.unusedSimpArgs false
namespace Ref7
open Disk Enc Hash Snap

theorem ext_eq (d : ByteArray) (i j : Nat) : d.extract i j = ofL ((d.data.toList.drop i).take (j - i)) := by
  apply ByteArray.ext
  rw [ByteArray.data_extract]
  apply Array.toList_inj.1
  rw [Array.toList_extract]
  rfl

/-- what is laid into a struct of three cells is what is read there -/
theorem ret3 {h : Heap} {b : Nat} {cs : List Value} (hr : Row h b cs) (hl : cs.length = 3) {w : Bool} {e : Int} {o : Option Addr} {l c : Nat} {K : Bool → Int → Option Addr → Nat → Nat → Heap → Prop}
    (hk : ∀ h', Keep (· = b) h h' → h'.size = h.size → Row h' b [.bool w, .int .u64 e, .slice o l c] → K w e o l c h') :
    stC ⟨b, 0, none⟩ (.bool w) h fun h5 => stC ((⟨b, 0, none⟩ : Addr).add 1) (.int .u64 e) h5 fun h6 => stC ((⟨b, 0, none⟩ : Addr).add 2) (.slice o l c) h6 fun h7 =>
      ldB ⟨b, 0, none⟩ h7 fun b8 => ldI .u64 ((⟨b, 0, none⟩ : Addr).add 1) h7 fun n9 => ldL ((⟨b, 0, none⟩ : Addr).add 2) h7 fun o10 l10 c10 => K b8 n9 o10 l10 c10 h7 := by
  obtain ⟨x, y, z, rfl⟩ : ∃ x y z, cs = [x, y, z] := by
    match cs, hl with
    | [x, y, z], _ => exact ⟨x, y, z, rfl⟩
  rw [add_mk, add_mk]
  refine stC_row hr (by simp) rfl ?_
  intro h1 s1 r1 k1
  refine stC_row r1 (by simp) rfl ?_
  intro h2 s2 r2 k2
  refine stC_row r2 (by simp) rfl ?_
  intro h3 s3 r3 k3
  have r3' : Row h3 b [.bool w, .int .u64 e, .slice o l c] := r3
  refine ldB_row r3' rfl (ldI_row r3' rfl (ldL_row r3' rfl ?_))
  exact hk h3 ((k1.trans' k2).trans' k3) (by omega) r3'

theorem slot_bad' {m : M} {at_ n : Int} {odd : Nat} (h : hBad m at_ n odd = true) : slotM m at_ n odd = ([], 0, false) := by
  unfold slotM
  rw [if_pos h]
theorem fits_parts {n : Int} {l : Nat} (h : fitsM n l = true) : 1 ≤ n ∧ (parts l : Int) ≤ n - 1 ∧ (l : Int) ≤ (n - 1) * 256 := by
  unfold fitsM at h
  simp only [Bool.and_eq_true, decide_eq_true_eq] at h
  unfold parts
  omega

theorem read7_spec {mu : Nat → Prop} {h : Heap} {p : Nat} {m : M} (hr : Ref5.Rep h p mu m) (hc : m.c.length ≤ 1000000) (hz : ∀ i, (readAt m i).size = 256) {at_ n : Int} (h0 : 0 ≤ at_) (h1 : 1 ≤ n) (h2 : at_ + n ≤ m.l.length) {odd : Nat} (hodd : odd < 2) {R : (Bool × Int × Sl) × Int → Heap → Prop}
    (hdead : m.st = 2 → ∀ h', Keep (fun _ => False) h h' → R ((false, 0, ⟨none, 0, 0⟩), 50) h')
    (hk : m.st ≠ 2 → ∀ s h', Rb h' s.a s.len (if (slotM m at_ n odd).2.2 then (slotM m at_ n odd).1 else []) → s.len ≤ s.cap → (∀ b, blk s.a b → h.size ≤ b) → Keep (fun _ => False) h h' → R (((slotM m at_ n odd).2.2, (if (slotM m at_ n odd).2.2 then ((slotM m at_ n odd).2.1 : Int) else 0), s), 0) h') :
    CallT Try.prog ref7_read_no [.pointer (some ⟨p, 0, none⟩), .int .i64 at_, .int .i64 n, .int .u64 (odd : Int)] h [.agg [.bool, .int .u64, .sl], .sc (.int .i64)] R := by
  apply ref7_read_call
  simp only [ref7_read]
  have hle := hr.le
  refine newB_row ?_
  intro h3 s3 o3 k3
  have r3 := hr.keep k3 (fun _ _ h => h)
  have drop : ∀ {hA hB : Heap}, Keep (fun _ => False) h hA → Keep (· = h.size) hA hB → Keep (fun _ => False) h hB := fun kA kB => kA.trans kB (fun y hy e => by
    have e' : y = h.size := e
    omega)
  by_cases hst : m.st = 2
  · have e : readErr m at_ = 50 := by unfold readErr; rw [if_pos hst]
    refine Ref5.read_spec r3 hc (i := at_) (fun _ => ?_) (fun e' => by rw [e] at e'; cases e')
    rw [e]
    refine cnd_t rfl (ret3 o3 rfl ?_)
    intro h4 k4 s4 o4
    exact hdead hst h4 (drop k3 k4)
  replace hk := hk hst
  have rd0 : ∀ i : Int, 0 ≤ i → i < m.l.length → readErr m i = 0 := fun i a b => by unfold readErr; rw [if_neg hst, if_neg (by omega)]
  refine Ref5.read_spec r3 hc (i := at_) (fun e' => absurd (rd0 at_ h0 (by omega)) e') (fun _ => ?_)
  refine cnd_f rfl ?_
  have hdl : (hdr m at_).length = 256 := hz at_
  have hsz : (readAt m at_).size = 256 := hz at_
  -- the two numbers
  refine ⟨by decide, by decide, by rw [hsz]; decide, ?_⟩
  rw [ext_eq]
  have e8 : (ofL (((readAt m at_).data.toList.drop (8 : Int).toNat).take ((16 : Int).toNat - (8 : Int).toNat))).size = 8 := by
    unfold ofL
    show (List.toArray _).size = 8
    rw [List.size_toArray, List.length_take, List.length_drop]
    show min (16 - 8) ((hdr m at_).length - 8) = 8
    rw [hdl]; rfl
  refine s2b_row (by rw [e8]; decide) ?_
  intro c4 h4 b4 k4 s4
  rw [e8] at b4 ⊢
  refine get64_spec (bs := ((hdr m at_).drop 8).take 8) (by have := b4.rb; rw [data_ofL] at this; exact this) ?_
  refine ⟨by decide, by decide, by show (24 : Int) ≤ ((readAt m at_).size : Int); rw [hsz]; decide, ?_⟩
  rw [ext_eq]
  have e16 : (ofL (((readAt m at_).data.toList.drop (16 : Int).toNat).take ((24 : Int).toNat - (16 : Int).toNat))).size = 8 := by
    unfold ofL
    show (List.toArray _).size = 8
    rw [List.size_toArray, List.length_take, List.length_drop]
    show min (24 - 16) ((hdr m at_).length - 16) = 8
    rw [hdl]; rfl
  refine s2b_row (by rw [e16]; decide) ?_
  intro c5 h5 b5 k5 s5
  rw [e16] at b5 ⊢
  refine get64_spec (bs := ((hdr m at_).drop 16).take 8) (by have := b5.rb; rw [data_ofL] at this; exact this) ?_
  refine withJ.inl (withJ.inl ?_)
  refine ⟨by decide, by decide, by show (4 : Int) ≤ ((readAt m at_).size : Int); rw [hsz]; decide, ?_⟩
  rw [ext_eq]
  obtain ⟨E, hE'⟩ : ∃ E, E = hE m at_ := ⟨_, rfl⟩
  obtain ⟨N, hN'⟩ : ∃ N, N = hN m at_ := ⟨_, rfl⟩
  have eE : g64 (((hdr m at_).drop 8).take 8) = E := hE'.symm
  have eN : g64 (((hdr m at_).drop 16).take 8) = N := hN'.symm
  simp only [eE, eN]
  have o5 : Row h5 h.size [.bool false, .int .u64 0, .slice none 0 0] := k5.row (k4.row o3 (fun h => h)) (fun h => h)
  have k05 : Keep (fun _ => False) h h5 := (k3.trans' k4).trans' k5
  have r5 : Ref5.Rep h5 p mu m := (r3.keep k4 (fun _ _ h => h)).keep k5 (fun _ _ h => h)
  have z05 := k05.size
  have z5 : h.size < h5.size := by omega
  -- no slot
  have bad : hBad m at_ n odd = true → stC ⟨h.size, 0, none⟩ (.bool false) h5 fun h60 => stC ((⟨h.size, 0, none⟩ : Addr).add 1) (.int .u64 0) h60 fun h61 => stC ((⟨h.size, 0, none⟩ : Addr).add 2) (.slice none 0 0) h61 fun h62 =>
      ldB ⟨h.size, 0, none⟩ h62 fun b63 => ldI .u64 ((⟨h.size, 0, none⟩ : Addr).add 1) h62 fun n64 => ldL ((⟨h.size, 0, none⟩ : Addr).add 2) h62 fun o65 l65 c65 => R ((b63, n64, (⟨o65, l65, c65⟩ : Sl)), 0) h62 := by
    intro hb
    refine ret3 (K := fun b n o l c h => R ((b, n, (⟨o, l, c⟩ : Sl)), 0) h) o5 rfl ?_
    intro h6 k6 _ _
    have := hk ⟨none, 0, 0⟩ h6
    rw [slot_bad' hb] at this
    exact this (SlR.nil h6 1).rv (Nat.le_refl _) (fun b hb => absurd hb (Ref5.nob b)) (drop k05 k6)
  have e4 : seq (ofL (((readAt m at_).data.toList.drop (0 : Int).toNat).take ((4 : Int).toNat - (0 : Int).toNat))) (⟨#[83, 78, 65, 80]⟩ : ByteArray) = decide ((hdr m at_).take 4 = [83, 78, 65, 80]) := seq_ofL _ [83, 78, 65, 80]
  rw [e4]
  have hE64 := g64_lt (((hdr m at_).drop 8).take 8)
  have hN64 := g64_lt (((hdr m at_).drop 16).take 8)
  rw [eE, List.length_take, List.length_drop, hdl] at hE64
  rw [eN, List.length_take, List.length_drop, hdl] at hN64
  have hE64' : E < 18446744073709551616 := Nat.lt_of_lt_of_le hE64 (by decide)
  refine cnd_of (fun hb => ?_) (fun hb => ?_)
  · refine cnd_t rfl (bad ?_)
    unfold hBad
    rw [hb, Bool.true_or]
  have em : ((E : Int).tmod 2 != (odd : Int)) = decide (E % 2 ≠ odd) := by
    rw [Int.tmod_eq_emod_of_nonneg (by omega), Bool.eq_iff_iff]
    simp only [bne_iff_ne, ne_eq, decide_eq_true_eq]
    omega
  rw [em]
  refine cnd_of (fun hb2' => ?_) (fun hb2' => ?_)
  · refine cnd_t rfl (bad ?_)
    unfold hBad
    rw [← hE', hb2', Bool.true_or, Bool.or_true]
  have far : (n - 1) * 256 < (N : Int) → hBad m at_ n odd = true := fun hlt => by
    unfold hBad
    have : decide ((n - 1) * 256 < (hN m at_ : Int)) = true := by
      rw [← hN']
      simpa using hlt
    rw [this, Bool.or_true, Bool.or_true]
  refine cnd_dec (fun hb3 => cnd_t rfl (bad (far (by omega)))) (fun hb3 => ?_)
  have hw : w64 (N : Int) = N := w64_id (by omega) (by omega)
  rw [hw]
  refine fits7_spec (by unfold InI; omega) (by unfold InI; omega) ?_
  cases hfit : fitsM n (N : Int)
  · refine cnd_t rfl (bad (far ?_))
    unfold fitsM at hfit
    simp only [Bool.and_eq_false_iff, decide_eq_false_iff_not] at hfit
    omega
  refine cnd_f rfl ?_
  obtain ⟨_, f2, f3⟩ := fits_parts hfit
  have good : hBad m at_ n odd = false := by
    unfold hBad
    have e3 : decide ((n - 1) * 256 < (hN m at_ : Int)) = false := by rw [← hN']; simp; omega
    rw [hb, ← hE', hb2', e3]
    rfl
  refine LoopT.intro (fun (t : Sl × Int) h' => 0 ≤ t.2 ∧ t.2 ≤ parts N ∧ t.1.len = 256 * t.2.toNat ∧ Bl h' t.1.a t.1.len t.1.cap (rdN m at_ t.2.toNat) ∧ (∀ y, blk t.1.a y → h5.size ≤ y) ∧ Keep (fun _ => False) h5 h') (fun t _ => ((parts N : Nat) - t.2).toNat)
    ⟨by simp, by simp, by simp, SlR.nil _ _, fun b hb' => absurd hb' (Ref5.nob b), .refl _ _⟩ ?_
  rintro ⟨s, i⟩ h6 ⟨p1, p2, p3, p4, p5, p6⟩
  replace p1 : 0 ≤ i := p1
  replace p2 : i ≤ parts N := p2
  replace p3 : s.len = 256 * i.toNat := p3
  replace p4 : Bl h6 s.a s.len s.cap (rdN m at_ i.toNat) := p4
  replace p5 : ∀ y, blk s.a y → h5.size ≤ y := p5
  have r6 := r5.keep p6 (fun _ _ h => h)
  have o6 := p6.row o5 (fun h => h)
  have z6 := p6.size
  have w1 : w64 (256 * i) = 256 * i := w64_id (by omega) (by omega)
  rw [w1]
  refine cnd_dec (fun hi => ?_) (fun hi => ?_)
  · replace hi : 256 * i < (N : Int) := hi
    have hip : i < parts N := by unfold parts; omega
    have eat : w64 (w64 (at_ + 1) + i) = at_ + 1 + (i.toNat : Int) := by rw [w64_id (x := at_ + 1) (by omega) (by omega), w64_id (by omega) (by omega)]; omega
    show CallT Try.prog ref5_Dev_Read_no [.pointer (some ⟨p, 0, none⟩), .int .i64 (w64 (w64 (at_ + 1) + i))] h6 _ _
    rw [eat]
    refine Ref5.read_spec r6 hc (i := at_ + 1 + (i.toNat : Int)) (fun e' => absurd (rd0 _ (by omega) (by omega)) e') (fun _ => ?_)
    refine cnd_f rfl ?_
    show app _ 5 1 1 s.a s.len s.cap (bytesV (readAt m (at_ + 1 + (i.toNat : Int)))) (readAt m (at_ + 1 + (i.toNat : Int))).size h6 _
    refine p4.push (new := (readAt m (at_ + 1 + (i.toNat : Int))).data.toList) (by rw [hz]; omega) rfl (bytesV_eq _) ?_
    intro a7 c7 h7 v1 v2 v3
    show (0 ≤ w64 (i + 1) ∧ w64 (i + 1) ≤ parts N ∧ s.len + (readAt m (at_ + 1 + (i.toNat : Int))).size = 256 * (w64 (i + 1)).toNat ∧ Bl h7 a7 (s.len + (readAt m (at_ + 1 + (i.toNat : Int))).size) c7 (rdN m at_ (w64 (i + 1)).toNat) ∧ (∀ y, blk a7 y → h5.size ≤ y) ∧ Keep (fun _ => False) h5 h7) ∧ ((parts N : Nat) - w64 (i + 1)).toNat < ((parts N : Nat) - i).toNat
    rw [w64_id (x := i + 1) (by omega) (by omega)]
    have e1 : (i + 1).toNat = i.toNat + 1 := by omega
    rw [e1]
    refine ⟨⟨by omega, by omega, by rw [hz]; omega, v1, fun y hy => ?_, p6.trans v2 (fun y hy hb => by have := p5 y hb; omega)⟩, by omega⟩
    rcases v3 y hy with hh | hh
    · exact p5 y hh
    · omega
  · replace hi : ¬ 256 * i < (N : Int) := hi
    have hip : i.toNat = parts N := by
      unfold parts at p2 ⊢
      omega
    rw [hip] at p4 p3
    have hcap := SlR.le p4
    have hpN : N ≤ 256 * parts N := by unfold parts; omega
    refine p4.rb.sub (by omega) (by omega) (by omega) (by show (N : Int) ≤ (s.cap : Int); omega) (by omega) ?_
    intro a8 w8 wb8
    rw [show ((N : Int) - 0).toNat = N by omega, show ((s.cap : Int) - 0).toNat = s.cap by omega] at *
    have w8' : Rb h6 a8 N (hSt m at_) := by
      unfold hSt
      rw [← hN']
      exact w8
    refine ⟨by decide, by decide, by show (24 : Int) ≤ ((readAt m at_).size : Int); rw [hsz]; decide, ?_⟩
    rw [ext_eq]
    have hstl := w8'.len
    refine head_spec (e := E) hE64' w8' (by omega) ?_
    rintro ⟨sa, sl, sc⟩ h7 hsl b7 k7
    replace hsl : sl = 24 := hsl
    subst hsl
    refine (show Rb h7 sa 24 _ from b7.rb).str ?_
    have e24 : seq (⟨(headL E (hSt m at_)).toArray⟩ : ByteArray) (ofL (((readAt m at_).data.toList.drop (0 : Int).toNat).take ((24 : Int).toNat - (0 : Int).toNat))) = decide (headL E (hSt m at_) = (hdr m at_).take 24) := seq_ofL _ _
    show cnd (!seq (⟨(headL E (hSt m at_)).toArray⟩ : ByteArray) (ofL (((readAt m at_).data.toList.drop (0 : Int).toNat).take ((24 : Int).toNat - (0 : Int).toNat)))) _ _
    rw [e24]
    have hslot : slotM m at_ n odd = (hSt m at_, E, decide (headL E (hSt m at_) = (hdr m at_).take 24)) := by
      unfold slotM
      rw [if_neg (by simp [good]), ← hE']
    have o7 := k7.row o6 (fun h => h)
    have k07 : Keep (fun _ => False) h h7 := (k05.trans' p6).trans' k7
    rw [hslot] at hk
    refine cnd_of (fun hne => ?_) (fun heq => ?_)
    · have hd : decide (headL E (hSt m at_) = (hdr m at_).take 24) = false := by simpa using hne
      rw [hd] at hk
      refine ret3 (K := fun b n o l c h => R ((b, n, (⟨o, l, c⟩ : Sl)), 0) h) o7 rfl ?_
      intro h8 k8 _ _
      exact hk ⟨none, 0, 0⟩ h8 (SlR.nil h8 1).rv (Nat.le_refl _) (fun b hb => absurd hb (Ref5.nob b)) (drop k07 k8)
    · have hd : decide (headL E (hSt m at_) = (hdr m at_).take 24) = true := by simpa using heq
      rw [hd] at hk
      refine ret3 (K := fun b n o l c h => R ((b, n, (⟨o, l, c⟩ : Sl)), 0) h) o7 rfl ?_
      intro h8 k8 _ _
      refine hk ⟨a8, N, s.cap⟩ h8 ((Rv.keep w8' k7 (fun _ _ _ h => h)).keep k8 (fun _ y hy e => ?_)) (by show N ≤ s.cap; omega) (fun b hb => ?_) (drop k07 k8)
      · have := p5 y (wb8 y hy)
        have e' : y = h.size := e
        omega
      · have := p5 b (wb8 b hb)
        omega

end Ref7
end Go.Proofs.Ytmkobpkdodgboaa
