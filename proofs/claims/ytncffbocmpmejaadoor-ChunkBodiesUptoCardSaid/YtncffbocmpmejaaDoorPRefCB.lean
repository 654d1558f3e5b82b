/- The document's Encode, and ChunkEncodes. -/
import Derived.Test.YtncffbocmpmejaaDoorPRefC
import Derived.Test.YtncffbocmpmejaaDoorPLaw19
namespace Go.Proofs.YtncffbocmpmejaaDoor
open Go D
set_option linter.unusedVariables false
set_option linter.unusedSimpArgs false
namespace Chunk
open Hash (hexL hmacF sha256F hexB)

theorem cut_nil : ∀ s : List Int, cutL [] s = []
  | [] => rfl
  | n :: r => by
    unfold cutL
    rw [if_pos (.inr rfl)]
    exact cut_nil r

theorem cut_cons {data : List UInt8} {z : Int} {r : List Int} (h : ¬ (z < 1 ∨ data = [])) : cutL data (z :: r) = data.take z.toNat :: cutL (data.drop z.toNat) r := by
  conv => lhs; unfold cutL
  rw [if_neg h]
theorem cut_last {data : List UInt8} (h : data ≠ []) : cutL data [] = [data] := by
  unfold cutL
  rw [if_neg h]

theorem encode19_spec {h : Heap} {w : Wh} {ka da : Option Addr} {kl kc dl dc : Nat} {sa : Sl} {data : List UInt8} {sizes : List Int} (hkey : Rb h ka kl w.key) (hkc : kl ≤ kc) (hw : w.n ≤ 100000000) (hd : Rb h da dl data) (hdc : dl ≤ dc) (hdl : dl ≤ 10000000)
    (hs : Rv h sa.a sa.len (sizes.map (.int .i64 ·))) (hsi : ∀ z ∈ sizes, InI z) (hsl : sizes.length ≤ 2000000) {R : Sl → Heap → Prop} (hk : ∀ s h', Rb h' s.a s.len (encF w data sizes) → Keep (fun _ => False) h h' → R s h') :
    CallT Tryd.prog ref19_Encode_no [.agg #[.string w.id, .string w.date, .string w.scope, .string w.sig, .slice ka kl kc, .string w.pay], .slice da dl dc, .slice sa.a sa.len sa.cap] h [.sc .sl] R := by
  have hcall := ref19_Encode_call (w_0 := (w.id, w.date, w.scope, w.sig, ⟨ka, kl, kc⟩, w.pay)) (data_1 := ⟨da, dl, dc⟩) (sizes_2 := sa) (R := R) (h := h)
  apply hcall
  have hlen := hd.len
  have hsn := hs.1
  rw [List.length_map] at hsn
  have hwn := hw
  unfold Wh.n at hwn
  unfold ref19_Encode
  refine newB_row ?_
  intro h1 s1 r1 k1
  replace r1 : Row h1 h.size (whoRow w ka kl kc) := r1
  have keyK : ∀ {h'}, Keep (fun y => h1.size ≤ y) h1 h' → Rb h' ka kl w.key := fun k => (hkey.keep0 k1).keep k (fun h0 b hb hge => by have := hkey.lt h0 hb; have hge' : h1.size ≤ b := hge; omega)
  have sizK : ∀ {h'}, Keep (fun y => h1.size ≤ y) h1 h' → Rv h' sa.a sa.len (sizes.map (.int .i64 ·)) := fun k => (hs.keep0 k1).keep k (fun h0 b hb hge => by have := hs.lt h0 hb; have hge' : h1.size ≤ b := hge; omega)
  have whoK : ∀ {h'}, Keep (fun y => h1.size ≤ y) h1 h' → Row h' h.size (whoRow w ka kl kc) := fun k => k.row r1 (by omega)
  have gone : ∀ {h'}, Keep (fun y => h1.size ≤ y) h1 h' → Keep (fun _ => False) h h' := fun k => ⟨by have := k.size; omega, fun b hb' _ => by
    rw [k.same b (by omega) (by omega)]
    exact k1.same b hb' (fun h => h)⟩
  have r1' := r1
  unfold whoRow at r1'
  simp only [add_mk]
  refine ldS_row (o := 0 + 3) r1' rfl ?_
  refine LoopT.intro (fun (t : Sl × Sl × ByteArray × Int) h' => ∃ out rem, Bl h' t.2.1.a t.2.1.len t.2.1.cap out ∧ (∀ b, blk t.2.1.a b → h1.size ≤ b) ∧ Keep (fun y => h1.size ≤ y) h1 h' ∧ Rb h' t.1.a t.1.len rem ∧ t.1.len ≤ t.1.cap ∧ (∀ b, blk t.1.a b → 0 < dl → b < h.size) ∧ t.1.len ≤ dl ∧
      0 ≤ t.2.2.2 ∧ (t.2.2.2 ≤ sa.len ∨ t.2.2.2 = sa.len + 1 ∧ rem = []) ∧ t.2.2.1.size ≤ 64 + w.sig.size ∧ out.length + rem.length ≤ 93 * t.2.2.2.toNat + dl ∧ out ++ encP w (bl t.2.2.1) (cutL rem (sizes.drop t.2.2.2.toNat) ++ [[]]) = encF w data sizes)
    (fun t _ => ((sa.len : Int) - t.2.2.2).toNat + t.1.len) ?_ ?_
  · exact ⟨[], data, SlR.nil _ _, fun b hb => (by obtain ⟨x, e, _⟩ := hb; cases e), .refl _ _, hd.keep0 k1, hdc, fun b hb h0 => hd.lt h0 hb, Nat.le_refl _, by simp, .inl (by simp), by show w.sig.size ≤ _; omega, by simp; omega, by simp [encF]⟩
  · rintro ⟨t, o, last, i⟩ h5 ⟨out, rem, p1, p2, K5, hr, htc, htb, htl, g1, g2, p3, p4, p5⟩
    replace p1 : Bl h5 o.a o.len o.cap out := p1
    replace p2 : ∀ b, blk o.a b → h1.size ≤ b := p2
    replace hr : Rb h5 t.a t.len rem := hr
    replace htc : t.len ≤ t.cap := htc
    replace htb : ∀ b, blk t.a b → 0 < dl → b < h.size := htb
    replace htl : t.len ≤ dl := htl
    replace g1 : 0 ≤ i := g1
    replace g2 : i ≤ sa.len ∨ i = sa.len + 1 ∧ rem = [] := g2
    replace p3 : last.size ≤ 64 + w.sig.size := p3
    replace p4 : out.length + rem.length ≤ 93 * i.toNat + dl := p4
    replace p5 : out ++ encP w (bl last) (cutL rem (sizes.drop i.toNat) ++ [[]]) = encF w data sizes := p5
    have hrl := hr.len
    have hol := p1.len
    -- the next round
    refine withJ.intro (fun (s : Sl × Sl × ByteArray) h' => ∃ out rem, Bl h' s.2.1.a s.2.1.len s.2.1.cap out ∧ (∀ b, blk s.2.1.a b → h1.size ≤ b) ∧ Keep (fun y => h1.size ≤ y) h1 h' ∧ Rb h' s.1.a s.1.len rem ∧ s.1.len ≤ s.1.cap ∧ (∀ b, blk s.1.a b → 0 < dl → b < h.size) ∧ s.1.len ≤ t.len ∧
      (i < sa.len ∨ i = sa.len ∧ rem = [] ∧ 0 < t.len) ∧ s.2.2.size ≤ 64 + w.sig.size ∧ out.length + rem.length ≤ 93 * (i.toNat + 1) + dl ∧ out ++ encP w (bl s.2.2) (cutL rem (sizes.drop (i.toNat + 1)) ++ [[]]) = encF w data sizes) ?_ ?_
    · rintro ⟨t', o', last'⟩ h6 ⟨out', rem', a1, a2, K6, a3, a4, a5, a6, a7, a8, a9, a10⟩
      replace a6 : t'.len ≤ t.len := a6
      have a3l : t'.len = rem'.length := a3.len
      show (∃ out rem, Bl h6 o'.a o'.len o'.cap out ∧ (∀ b, blk o'.a b → h1.size ≤ b) ∧ Keep (fun y => h1.size ≤ y) h1 h6 ∧ Rb h6 t'.a t'.len rem ∧ t'.len ≤ t'.cap ∧ (∀ b, blk t'.a b → 0 < dl → b < h.size) ∧ t'.len ≤ dl ∧
        0 ≤ w64 (i + 1) ∧ (w64 (i + 1) ≤ sa.len ∨ w64 (i + 1) = sa.len + 1 ∧ rem = []) ∧ last'.size ≤ 64 + w.sig.size ∧ out.length + rem.length ≤ 93 * (w64 (i + 1)).toNat + dl ∧ out ++ encP w (bl last') (cutL rem (sizes.drop (w64 (i + 1)).toNat) ++ [[]]) = encF w data sizes) ∧ ((sa.len : Int) - w64 (i + 1)).toNat + t'.len < ((sa.len : Int) - i).toNat + t.len
      have hw1 : w64 (i + 1) = i + 1 := by
        rcases a7 with h | h
        · exact w64_id (by omega) (by omega)
        · exact w64_id (by omega) (by omega)
      rw [hw1, show (i + 1).toNat = i.toNat + 1 by omega]
      refine ⟨⟨out', rem', a1, a2, K6, a3, a4, a5, by omega, by omega, ?_, a8, a9, a10⟩, ?_⟩
      · rcases a7 with h | ⟨h, e, _⟩
        · exact .inl (by omega)
        · exact .inr ⟨by omega, e⟩
      · rcases a7 with h | ⟨h, e, h0⟩
        · omega
        · rw [e] at a3l
          simp at a3l
          omega
    · intro J hJ
      -- a chunk of n bytes is written
      refine withJ.intro (fun (n : Int) h' => h' = h5 ∧ 0 ≤ n ∧ n ≤ t.len ∧ (n = 0 → rem = []) ∧ (0 < n → i < sa.len ∨ i = sa.len ∧ n = t.len) ∧ cutL rem (sizes.drop i.toNat) ++ [[]] = rem.take n.toNat :: (if n = 0 then [] else cutL (rem.drop n.toNat) (sizes.drop (i.toNat + 1)) ++ [[]])) ?_ ?_
      · rintro n h' ⟨rfl, n0, n1, n2, n3, n4⟩
        rw [n4] at p5
        have r5 := whoK K5
        unfold whoRow at r5
        refine ldS_row (o := 0) r5 rfl (ldS_row (o := 0 + 1) r5 rfl (ldS_row (o := 0 + 2) r5 rfl (ldS_row (o := 0 + 3) r5 rfl (ldL_row (o := 0 + 4) r5 rfl (ldS_row (o := 0 + 5) r5 rfl ?_)))))
        show lsl 1 t.a t.cap 0 n (t.cap : Int) _
        refine Rb.sub hr (by omega) (by omega) (by omega) (by omega) (by omega) ?_
        intro a' ra rab
        rw [show (0 : Int).toNat = 0 from rfl, List.drop_zero, show n - 0 = n by omega] at ra
        rw [show n - 0 = n by omega, show (t.cap : Int) - 0 = t.cap by omega]
        refine sign19_spec (keyK K5) hkc ra (by omega) (by show w.n + last.size ≤ _; omega) ?_
        intro h6 k6
        have K6 := K5.trans k6 (fun _ _ h => h.elim)
        obtain ⟨m, rfl⟩ : ∃ m : Nat, n = (m : Int) := ⟨n.toNat, by omega⟩
        refine hex19_spec (by omega) ?_
        have lg : (ofL (signF w (bl last) (rem.take m))).size = 64 := by rw [ofL_size, sign_len]
        have lm : (⟨#[59, 99, 104, 117, 110, 107, 45, 115, 105, 103, 110, 97, 116, 117, 114, 101, 61]⟩ : ByteArray).size = 17 := rfl
        have lc : (⟨#[13, 10]⟩ : ByteArray).size = 2 := rfl
        have ln : (ofL (numL m)).size ≤ 8 := by rw [ofL_size]; exact numL_len8 (by omega)
        have etk : ((m : Int)).toNat = m := Int.toNat_natCast m
        rw [etk]
        refine ⟨by rw [lm]; omega, by rw [basz, lm, lg]; omega, by rw [basz, basz, lm, lg, lc]; omega, ?_⟩
        have hT : bl (((ofL (numL m) ++ (⟨#[59, 99, 104, 117, 110, 107, 45, 115, 105, 103, 110, 97, 116, 117, 114, 101, 61]⟩ : ByteArray)) ++ ofL (signF w (bl last) (rem.take m))) ++ (⟨#[13, 10]⟩ : ByteArray)) = numL m ++ (markL ++ (signF w (bl last) (rem.take m) ++ crL)) := by
          rw [bl_app, bl_app, bl_app, bl_ofL, bl_ofL]
          simp only [List.append_assoc]
          rfl
        have hTl : (((ofL (numL m) ++ (⟨#[59, 99, 104, 117, 110, 107, 45, 115, 105, 103, 110, 97, 116, 117, 114, 101, 61]⟩ : ByteArray)) ++ ofL (signF w (bl last) (rem.take m))) ++ (⟨#[13, 10]⟩ : ByteArray)).size ≤ 91 := by
          rw [basz, basz, basz, lm, lg, lc]; omega
        generalize (((ofL (numL m) ++ (⟨#[59, 99, 104, 117, 110, 107, 45, 115, 105, 103, 110, 97, 116, 117, 114, 101, 61]⟩ : ByteArray)) ++ ofL (signF w (bl last) (rem.take m))) ++ (⟨#[13, 10]⟩ : ByteArray)) = T at hT hTl ⊢
        show app [.int .u8 0] 5 1 1 o.a o.len o.cap (bytesV T) T.size h6 _
        refine Bl.push (SlR.keep p1 k6 (fun _ _ h => h)) (new := bl T) (by omega) rfl rfl ?_
        intro a7 c7 h7 b7 k7 n7
        have N7 : ∀ b, blk a7 b → h1.size ≤ b := fun b hb => by
          rcases n7 b hb with hh | hh
          · exact p2 b hh
          · have := K6.size; omega
        have K7 := K6.trans k7 (fun y _ hy => p2 y hy)
        have dataK : ∀ {h'}, Keep (fun y => h1.size ≤ y) h' h' → True := fun _ => trivial
        have K57 : Keep (fun y => h1.size ≤ y) h' h7 := (k6.mono (fun _ _ h => h.elim)).trans k7 (fun y _ hy => p2 y hy)
        have hr7 : Rb h7 t.a t.len rem := hr.keep K57 (fun h0 b hb hge => by have := htb b hb (by omega); have hge' : h1.size ≤ b := hge; omega)
        show lsl 1 t.a t.cap 0 (m : Int) (t.cap : Int) _
        refine Rb.sub hr7 (by omega) (by omega) (by omega) (by omega) (by omega) ?_
        intro a8 ra8 rab8
        rw [show (0 : Int).toNat = 0 from rfl, List.drop_zero, show (m : Int) - 0 = m by omega, etk] at ra8
        rw [show (m : Int) - 0 = m by omega, etk]
        refine Rv.rd ra8 ?_
        have ltk : (rem.take m).length = m := by rw [List.length_take]; omega
        refine Bl.push b7 (new := rem.take m) (by omega) ltk.symm rfl ?_
        intro a9 c9 h9 b9 k9 n9
        have N9 : ∀ b, blk a9 b → h1.size ≤ b := fun b hb => by
          rcases n9 b hb with hh | hh
          · exact N7 b hh
          · have := K7.size; omega
        have K9 := K7.trans k9 (fun y _ hy => N7 y hy)
        refine newB_row ?_
        intro h10 s10 r10 k10
        have K10 := K9.trans k10 (fun _ _ h => h.elim)
        refine ldRow_row r10 (by simp) ?_
        refine Bl.push (SlR.keep b9 k10 (fun _ _ h => h)) (new := crL) (by show _ + m + 2 ≤ _; omega) rfl rfl ?_
        intro a11 c11 h11 b11 k11 n11
        have N11 : ∀ b, blk a11 b → h1.size ≤ b := fun b hb => by
          rcases n11 b hb with hh | hh
          · exact N9 b hh
          · have := K10.size; omega
        have K11 := K10.trans k11 (fun y _ hy => N9 y hy)
        have eC : out ++ bl T ++ rem.take m ++ crL = out ++ chunkT w (bl last) (rem.take m) := by
          rw [hT]
          unfold chunkT rawC
          rw [ltk]
          simp only [List.append_assoc]
        rw [eC] at b11
        have etk2 : ((m : Int)).toNat = m := etk
        rw [etk2] at p5
        show cnd ((m : Int) == 0) _ _
        refine cnd_of (fun hz => ?_) (fun hz => ?_)
        · have hm0 : m = 0 := by
            have := eq_of_beq hz
            omega
          have e := p5
          rw [if_pos (by omega)] at e
          simp only [encP, List.append_nil] at e
          rw [e] at b11
          exact hk _ h11 b11.rb (gone K11)
        · have hm0 : 0 < m := by
            have := ne_of_beq_false hz
            omega
          have K511 : Keep (fun y => h1.size ≤ y) h' h11 := ((K57.trans k9 (fun y _ hy => N7 y hy)).trans k10 (fun _ _ h => h.elim)).trans k11 (fun y _ hy => N9 y hy)
          have hr11 : Rb h11 t.a t.len rem := hr.keep K511 (fun h0 b hb hge => by have := htb b hb (by omega); have hge' : h1.size ≤ b := hge; omega)
          show lsl 1 t.a t.cap (m : Int) (t.len : Int) (t.cap : Int) _
          refine Rb.sub hr11 (by omega) (by omega) (by omega) (by omega) (by omega) ?_
          intro a12 ra12 rab12
          have e12 : ((rem.drop (m : Int).toNat).take ((t.len : Int) - m).toNat) = rem.drop m := by
            rw [etk]
            exact List.take_of_length_le (by rw [List.length_drop]; omega)
          rw [e12] at ra12
          have hcl := (chunkT_len (w := w) (last := bl last) (d := rem.take m) (by omega)).1
          refine hJ _ _ ⟨out ++ chunkT w (bl last) (rem.take m), rem.drop m, b11, N11, K11, ra12, by show ((t.len : Int) - m).toNat ≤ ((t.cap : Int) - m).toNat; omega, fun b hb h0 => htb b (rab12 b hb) h0, by show ((t.len : Int) - m).toNat ≤ _; omega, ?_, by show (ofL _).size ≤ _; rw [lg]; omega, ?_, ?_⟩
          · rcases n3 (by omega) with hh | ⟨hh, e⟩
            · exact .inl hh
            · exact .inr ⟨hh, List.drop_eq_nil_of_le (by omega), by omega⟩
          · rw [List.length_append, List.length_drop]
            omega
          · rw [if_neg (by omega)] at p5
            rw [← p5]
            show _ = out ++ (chunkT w (bl last) (rem.take m) ++ encP w (signF w (bl last) (rem.take m)) _)
            rw [bl_ofL, List.append_assoc]
      · intro J2 hJ2
        refine withJ.intro (fun (b : Bool) h' => h' = h5 ∧ b = decide (i < sa.len ∧ 0 < t.len)) ?_ ?_
        · rintro b h' ⟨rfl, rfl⟩
          refine cnd_dec (fun hyes => ?_) (fun hno => ?_)
          · obtain ⟨hi, ht0⟩ := hyes
            have hin : i.toNat < sizes.length := by omega
            have hget : sizes[i.toNat]? = some sizes[i.toNat] := List.getElem?_eq_getElem hin
            have hin' := hsi _ (List.getElem_mem hin)
            have hcut := List.drop_eq_getElem_cons hin
            generalize sizes[i.toNat] = z at hget hin' hcut
            unfold InI at hin'
            have hv : (sizes.map (Value.int .i64 ·))[i.toNat]? = some (.int .i64 z) := by rw [List.getElem?_map, hget]; rfl
            refine Rv.at (sizK K5) g1 hi hv fun x hx => ldI_at hx ?_
            have hne : rem ≠ [] := fun e => by rw [e] at hrl; simp at hrl; omega
            refine cnd_dec (fun hz => ?_) (fun hz => ?_)
            · refine hJ _ _ ⟨out, rem, p1, p2, K5, hr, htc, htb, Nat.le_refl _, .inl hi, p3, by omega, ?_⟩
              rw [hcut] at p5
              unfold cutL at p5
              rw [if_pos (.inl hz)] at p5
              exact p5
            · refine Rv.at (sizK K5) g1 hi hv fun y hy => ldI_at hy ?_
              show J2 (minI (t.len : Int) z) h'
              have hm : 1 ≤ minI (t.len : Int) z ∧ minI (t.len : Int) z ≤ t.len ∧ (minI (t.len : Int) z).toNat = min z.toNat t.len := by
                unfold minI
                split <;> omega
              refine hJ2 _ _ ⟨rfl, by omega, by omega, fun e => by omega, fun _ => .inl hi, ?_⟩
              rw [hcut]
              rw [cut_cons (by simp [hz, hne]), if_neg (by omega), hm.2.2]
              have ht1 : rem.take (min z.toNat t.len) = rem.take z.toNat := by
                by_cases hh : z.toNat ≤ t.len
                · rw [Nat.min_eq_left hh]
                · rw [Nat.min_eq_right (by omega), List.take_of_length_le (by omega), List.take_of_length_le (by omega)]
              have hd1 : rem.drop (min z.toNat t.len) = rem.drop z.toNat := by
                by_cases hh : z.toNat ≤ t.len
                · rw [Nat.min_eq_left hh]
                · rw [Nat.min_eq_right (by omega), List.drop_eq_nil_of_le (by omega), List.drop_eq_nil_of_le (by omega)]
              rw [ht1, hd1]
              rfl
          · show J2 (t.len : Int) h'
            have htr : rem.take ((t.len : Int)).toNat = rem := List.take_of_length_le (by omega)
            have hdr : rem.drop ((t.len : Int)).toNat = [] := List.drop_eq_nil_of_le (by omega)
            by_cases h0 : t.len = 0
            · have hre : rem = [] := List.length_eq_zero_iff.1 (by omega)
              refine hJ2 _ _ ⟨rfl, by omega, by omega, fun _ => hre, fun e => by omega, ?_⟩
              rw [if_pos (by omega), hre, cut_nil, List.take_nil]
              rfl
            · have hre : rem ≠ [] := fun e => by rw [e] at hrl; simp at hrl; omega
              have hi : i = sa.len := by
                rcases g2 with hh | ⟨_, hh⟩
                · omega
                · exact absurd hh hre
              refine hJ2 _ _ ⟨rfl, by omega, by omega, fun e => by omega, fun _ => .inr ⟨hi, rfl⟩, ?_⟩
              rw [if_neg (by omega), htr, hdr]
              have e1 : sizes.drop i.toNat = [] := List.drop_eq_nil_of_le (by omega)
              have e2 : sizes.drop (i.toNat + 1) = [] := List.drop_eq_nil_of_le (by omega)
              rw [e1, e2, cut_nil, cut_last hre]
              rfl
        · intro J3 hJ3
          refine cnd_dec (fun hi => ?_) (fun hi => ?_)
          · refine hJ3 _ _ ⟨rfl, ?_⟩
            show decide ((t.len : Int) > 0) = _
            rw [Bool.eq_iff_iff, decide_eq_true_eq, decide_eq_true_eq]
            constructor
            · intro hh; exact ⟨hi, by omega⟩
            · intro hh; omega
          · exact hJ3 _ _ ⟨rfl, (decide_eq_false (fun hh => hi hh.1)).symm⟩
end Chunk
end Go.Proofs.YtncffbocmpmejaaDoor
