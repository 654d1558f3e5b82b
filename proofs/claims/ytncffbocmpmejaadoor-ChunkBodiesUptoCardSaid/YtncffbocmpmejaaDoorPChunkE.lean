/- chunk.Encode: what it comes to. -/
import Derived.Test.YtncffbocmpmejaaDoorPChunkD
namespace Go.Proofs.YtncffbocmpmejaaDoor
open Go D
set_option linter.unusedVariables false
set_option linter.unusedSimpArgs false
namespace Chunk
open Hash (hexL hmacF sha256F hexB)

def whoRow (w : Wh) (ka : Option Addr) (kl kc : Nat) : List Value := [.string w.id, .string w.date, .string w.scope, .string w.sig, .slice ka kl kc, .string w.pay]

/-- what Encode keeps: who signs, the builder, the last signature -/
structure Es (h : Heap) (p : Nat) (w : Wh) (ka : Option Addr) (kl kc : Nat) (last out : List UInt8) : Prop where
  who : Row h p (whoRow w ka kl kc)
  bd : Bd 65 5 h (p + 1) (p + 3) out
  lst : Row h (p + 2) [.string (ofL last)]
  lt : p + 3 ≤ h.size

theorem Es.keep {S : Nat → Prop} {h h' : Heap} {p : Nat} {w : Wh} {ka : Option Addr} {kl kc : Nat} {last out : List UInt8} (hs : Es h p w ka kl kc last out) (hk : Keep S h h') (hn : ∀ b, p ≤ b → ¬ S b) : Es h' p w ka kl kc last out :=
  ⟨hk.row hs.who (hn _ (by omega)), hs.bd.keep hk (hn _ (by omega)) (fun b hb _ => hn b (by omega)), hk.row hs.lst (hn _ (by omega)), Nat.le_trans hs.lt hk.size⟩

theorem u8_shr {n k m : Nat} (hk : k ≤ 64) (hm : m = 2 ^ k) : Value.int .u8 (IntKind.u8.wrap (shrI .i64 (n : Int) (k : Int))) = byteV (UInt8.ofNat (n / m)) := by
  rw [shrI_nat (by exact hk), Nat.shiftRight_eq_div_pow, wrap_u8, ← hm]
  unfold byteV
  rw [UInt8.toNat_ofNat']
  congr 1
theorem u8_low (n : Nat) : Value.int .u8 (IntKind.u8.wrap (n : Int)) = byteV (UInt8.ofNat n) := by
  rw [wrap_u8]
  unfold byteV
  rw [UInt8.toNat_ofNat']
  congr 1

theorem put_spec {h : Heap} {p : Nat} {w : Wh} {ka : Option Addr} {kl kc : Nat} {last out : List UInt8} (es : Es h p w ka kl kc last out) (hkey : Rb h ka kl w.key) (hkc : kl ≤ kc) (hkb : ∀ b, blk ka b → 0 < kl → b < p) (hw : w.n ≤ 100000000) (hlast : last.length ≤ 64 + w.sig.size)
    {a : Option Addr} {l c : Nat} {d : List UInt8} (hd : Rb h a l d) (hdc : l ≤ c) (hdb : ∀ b, blk a b → 0 < l → b < p) (hdl : l ≤ 100000000) (hol : out.length ≤ 1000000000)
    {R : Unit → Heap → Prop} (hk : ∀ h', Es h' p w ka kl kc (signF w last d) (out ++ chunkT w last d) → Keep (fun y => p < y) h h' → R () h') :
    CallT Tryd.prog chunk_Encode_1_no [.slice a l c, .pointer (some ⟨p, 0, none⟩), .pointer (some ⟨p + 2, 0, none⟩), .pointer (some ⟨p + 1, 0, none⟩)] h [] R := by
  have hcall := chunk_Encode_1_call (d_0 := ⟨a, l, c⟩) (free_0 := some ⟨p, 0, none⟩) (free_1 := some ⟨p + 2, 0, none⟩) (free_2 := some ⟨p + 1, 0, none⟩) (R := R) (h := h)
  apply hcall
  have hlen := hd.len
  unfold chunk_Encode_1
  simp only [nn_eq, add_mk]
  have r0 := es.who
  unfold whoRow at r0
  refine ldS_row (o := 0) r0 rfl (ldS_row (o := 0 + 1) r0 rfl (ldS_row (o := 0 + 2) r0 rfl (ldS_row (o := 0 + 3) r0 rfl (ldL_row (o := 0 + 4) r0 rfl (ldS_row (o := 0 + 5) r0 rfl ?_)))))
  refine ldS_row (o := 0) es.lst rfl ?_
  refine sign_spec (w := w) hkey hkc hd hdc (by omega) (by rw [ofL_size]; have := hw; unfold Wh.n at *; omega) ?_
  intro h1 k1
  rw [bl_ofL]
  have e1 := es.keep k1 (fun _ _ h => h)
  refine stC_row e1.lst (by simp) rfl ?_
  intro h2 s2 r2 k2
  replace r2 : Row h2 (p + 2) [.string (ofL (signF w last d))] := r2
  have e2 : Es h2 p w ka kl kc (signF w last d) out := ⟨k2.row e1.who (by show ¬ p = p + 2; omega), e1.bd.keep k2 (by show ¬ p + 1 = p + 2; omega) (fun b hb _ => by show ¬ b = p + 2; omega), r2, by have := e1.lt; omega⟩
  have K2 : Keep (fun y => p < y) h h2 := (k1.mono (fun _ _ h => h.elim)).trans k2 (fun y _ hy => by have hy' : y = p + 2 := hy; omega)
  show newB [.int .u8 (IntKind.u8.wrap (shrI .i64 (l : Int) ((24 : Nat) : Int))), .int .u8 (IntKind.u8.wrap (shrI .i64 (l : Int) ((16 : Nat) : Int))), .int .u8 (IntKind.u8.wrap (shrI .i64 (l : Int) ((8 : Nat) : Int))), .int .u8 (IntKind.u8.wrap (l : Int))] 5 h2 _
  rw [u8_shr (m := 16777216) (by omega) (by decide), u8_shr (m := 65536) (by omega) (by decide), u8_shr (m := 256) (by omega) (by decide), u8_low]
  refine newB_row ?_
  intro h3 s3 r3 k3
  have rb3 : Rb h3 (some ⟨h2.size, 0, none⟩) 4 (be4b l) := SlR.rv (c := 4) (.inr ⟨h2.size, 0, _, rfl, r3, by omega, by simp, by simp [be4b], rfl⟩)
  have e3 := e2.keep k3 (fun _ _ h => h)
  have K3 := K2.trans k3 (fun _ _ h => h.elim)
  refine Hash.hex_spec rb3 (by omega) ?_
  intro h4 k4
  have e4 := e3.keep k4 (fun _ _ h => h)
  have K4 := K3.trans k4 (fun _ _ h => h.elim)
  refine trim0_spec ?_
  rw [bl_ofL, num_hex (by omega)]
  refine withJ.intro (fun (s20 : ByteArray) h' => s20 = ofL (numL l) ∧ h' = h4) ?_ ?_
  · rintro s20 h' ⟨rfl, rfl⟩
    have l8 := numL_len8 (n := l) (by omega)
    have ls : (ofL (numL l)).size ≤ 8 := by rw [ofL_size]; exact l8
    have lg : (ofL (signF w last d)).size = 64 := by rw [ofL_size, sign_len]
    have lm : (⟨#[59, 99, 104, 117, 110, 107, 45, 115, 105, 103, 110, 97, 116, 117, 114, 101, 61]⟩ : ByteArray).size = 17 := rfl
    have lc : (⟨#[13, 10]⟩ : ByteArray).size = 2 := rfl
    have sz : ∀ x y : ByteArray, (x ++ y).size = x.size + y.size := fun x y => by
      rw [← bl_len, bl_app, List.length_append, bl_len, bl_len]
    refine ⟨by rw [lm]; omega, ldS_row (o := 0) e4.lst rfl ⟨by rw [sz, lm, lg]; omega, by rw [sz, sz, lm, lg, lc]; omega, ?_⟩⟩
    have q3 := e4.lt
    refine writeS_spec e4.bd q3 (by rw [sz, sz, sz, lm, lg, lc]; omega) ?_
    intro x5 h5 b5 k5
    have z5 := k5.size
    have K5 := K4.trans k5 (fun y _ hy => by rcases hy with e | e <;> omega)
    refine write_spec b5 (by omega) (hd.keep K5 (fun h0 b hb hlt => by have := hdb b hb h0; have hlt' : p < b := hlt; omega)) (fun b hb h0 hS => by have := hdb b hb h0; rcases hS with e | e <;> omega) (by
      simp only [List.length_append, bl_len, sz, lm, lg, lc]; omega) ?_
    intro x6 h6 b6 k6
    have z6 := k6.size
    have K6 := K5.trans k6 (fun y _ hy => by rcases hy with e | e <;> omega)
    refine writeS_spec b6 (by omega) (by
      simp only [List.length_append, bl_len, sz, lm, lg, lc]; omega) ?_
    intro x7 h7 b7 k7
    have z7 := k7.size
    have K7 := K6.trans k7 (fun y _ hy => by rcases hy with e | e <;> omega)
    have K47 : Keep (bdS (p + 1) (p + 3)) h' h7 := (k5.trans' k6).trans' k7
    refine hk h7 ⟨K47.row e4.who (by rintro (e | e) <;> omega), ?_, K47.row e4.lst (by rintro (e | e) <;> omega), by omega⟩ K7
    have e : out ++ bl ((((ofL (numL l) ++ (⟨#[59, 99, 104, 117, 110, 107, 45, 115, 105, 103, 110, 97, 116, 117, 114, 101, 61]⟩ : ByteArray)) ++ ofL (signF w last d))) ++ (⟨#[13, 10]⟩ : ByteArray)) ++ d ++ bl (⟨#[13, 10]⟩ : ByteArray) = out ++ chunkT w last d := by
      rw [bl_app, bl_app, bl_app, bl_ofL, bl_ofL]
      unfold chunkT rawC
      rw [← hlen]
      simp only [List.append_assoc]
      rfl
    rw [e] at b7
    exact b7
  · intro J hJ
    rw [seq_nil]
    refine cnd_dec (fun hz => ?_) (fun hz => ?_)
    · refine hJ _ _ ⟨?_, rfl⟩
      by_cases h0 : l = 0
      · rw [h0, numL_small (by omega)]; rfl
      · rw [if_neg h0] at hz
        exact absurd hz (numL_ne _)
    · refine hJ _ _ ⟨?_, rfl⟩
      by_cases h0 : l = 0
      · rw [if_pos h0] at hz
        exact absurd rfl hz
      · rw [if_neg h0]

theorem encode_spec {h : Heap} {w : Wh} {ka da : Option Addr} {kl kc dl dc : Nat} {sa : Sl} {data : List UInt8} {sizes : List Int} (hkey : Rb h ka kl w.key) (hkc : kl ≤ kc) (hw : w.n ≤ 100000000) (hd : Rb h da dl data) (hdc : dl ≤ dc) (hdl : dl ≤ 10000000)
    (hs : Rv h sa.a sa.len (sizes.map (.int .i64 ·))) (hsi : ∀ z ∈ sizes, InI z) (hsl : sizes.length ≤ 2000000) {R : Sl → Heap → Prop} (hk : ∀ s h', Rb h' s.a s.len (encF w data sizes) → s.len ≤ s.cap → s.len ≤ 93 * (sizes.length + 2) + dl → (∀ b, blk s.a b → h.size ≤ b) → Bl h' s.a s.len s.cap (encF w data sizes) → Keep (fun _ => False) h h' → R s h') :
    CallT Tryd.prog chunk_Encode_no [.agg #[.string w.id, .string w.date, .string w.scope, .string w.sig, .slice ka kl kc, .string w.pay], .slice da dl dc, .slice sa.a sa.len sa.cap] h [.sc .sl] R := by
  have hcall := chunk_Encode_call (w_0 := (w.id, w.date, w.scope, w.sig, ⟨ka, kl, kc⟩, w.pay)) (data_1 := ⟨da, dl, dc⟩) (sizes_2 := sa) (R := R) (h := h)
  apply hcall
  have hlen := hd.len
  have hsn := hs.1
  rw [List.length_map] at hsn
  unfold chunk_Encode
  refine newB_row ?_
  intro h1 s1 r1 k1
  refine newB_ty (newB_row ?_)
  rintro h2 s2 r2 k2 ⟨t2, t2'⟩
  have r12 := k2.row r1 (fun h => h)
  simp only [add_mk]
  refine ldS_row (o := 0 + 3) r12 rfl ?_
  refine newB_row ?_
  intro h3 s3 r3 k3
  refine stC_row r3 (by simp) rfl ?_
  intro h4 s4 r4 k4
  have hz1 : h1.size = h.size + 1 := s1
  have hz2 : h2.size = h.size + 2 := by omega
  rw [hz1, hz2]
  rw [hz1] at r2 t2'
  rw [hz2] at r4 k4
  have K14 : Keep (fun _ => False) h h2 := k1.trans' k2
  have K4 : Keep (fun y => h.size ≤ y) h h4 := ((K14.trans' k3).mono (fun _ _ h => h.elim)).trans k4 (fun y _ hy => by have hy' : y = h.size + 2 := hy; omega)
  have bd2 : Bd 65 5 h2 (h.size + 1) (h.size + 1 + 1 + 1) [] := ⟨⟨none, none, 0, 0, r2, SlR.nil _ _, .inl rfl, fun x hx => by cases hx⟩, t2', by omega⟩
  have es4 : Es h4 h.size w ka kl kc (bl w.sig) [] := by
    refine ⟨k4.row ((k3.row r12 (fun h => h))) (by show ¬ h.size = h.size + 2; omega), ?_, ?_, by omega⟩
    · exact (bd2.keep k3 (fun h => h) (fun _ _ _ h => h)).keep k4 (by show ¬ h.size + 1 = h.size + 2; omega) (fun b hb _ => by show ¬ b = h.size + 2; omega)
    · rw [ofL_bl]; exact r4
  have hltk : ∀ b, blk ka b → 0 < kl → b < h.size := fun b hb h0 => hkey.lt h0 hb
  have keyK : ∀ {h'}, Keep (fun y => h.size ≤ y) h h' → Rb h' ka kl w.key := fun k => hkey.keep k (fun h0 b hb hge => by have := hkey.lt h0 hb; have hge' : h.size ≤ b := hge; omega)
  have sizK : ∀ {h'}, Keep (fun y => h.size ≤ y) h h' → Rv h' sa.a sa.len (sizes.map (.int .i64 ·)) := fun k => hs.keep k (fun h0 b hb hge => by have := hs.lt h0 hb; have hge' : h.size ≤ b := hge; omega)
  refine LoopT.intro (fun (t : Sl × Int) h' => ∃ last out rem, Es h' h.size w ka kl kc last out ∧ Keep (fun y => h.size ≤ y) h h' ∧ Rb h' t.1.a t.1.len rem ∧ t.1.len ≤ t.1.cap ∧ (∀ b, blk t.1.a b → 0 < dl → b < h.size) ∧ t.1.len ≤ dl ∧ 0 ≤ t.2 ∧ t.2 ≤ sa.len ∧ last.length ≤ 64 + w.sig.size ∧
      out.length + rem.length ≤ 93 * t.2.toNat + dl ∧ out ++ encP w last (cutL rem (sizes.drop t.2.toNat) ++ [[]]) = encF w data sizes) (fun t _ => (sa.len - t.2).toNat) ?_ ?_
  · exact ⟨bl w.sig, [], data, es4, K4, hd.keep K4 (fun h0 b hb hge => by have := hd.lt h0 hb; have hge' : h.size ≤ b := hge; omega), hdc, fun b hb h0 => hd.lt h0 hb, Nat.le_refl _, by simp, by simp, by rw [bl_len]; omega, by simp; omega, by simp [encF]⟩
  · rintro ⟨t, i⟩ h5 ⟨last, out, rem, es, K5, hr, htc, htb, htl, p1, p2, p3, p4, p5⟩
    replace hr : Rb h5 t.a t.len rem := hr
    replace htc : t.len ≤ t.cap := htc
    replace htb : ∀ b, blk t.a b → 0 < dl → b < h.size := htb
    replace htl : t.len ≤ dl := htl
    replace p1 : 0 ≤ i := p1
    replace p2 : i ≤ sa.len := p2
    replace p4 : out.length + rem.length ≤ 93 * i.toNat + dl := p4
    replace p5 : out ++ encP w last (cutL rem (sizes.drop i.toNat) ++ [[]]) = encF w data sizes := p5
    have hrl := hr.len
    refine cnd_dec (fun hi => ?_) (fun hi => ?_)
    · replace hi : i < (sa.len : Int) := hi
      have hin : i.toNat < sizes.length := by omega
      refine withJ.intro (fun (t' : Sl) h' => ∃ last out rem, Es h' h.size w ka kl kc last out ∧ Keep (fun y => h.size ≤ y) h h' ∧ Rb h' t'.a t'.len rem ∧ t'.len ≤ t'.cap ∧ (∀ b, blk t'.a b → 0 < dl → b < h.size) ∧ t'.len ≤ dl ∧ last.length ≤ 64 + w.sig.size ∧
          out.length + rem.length ≤ 93 * (i.toNat + 1) + dl ∧ out ++ encP w last (cutL rem (sizes.drop (i.toNat + 1)) ++ [[]]) = encF w data sizes) ?_ ?_
      · rintro t' h6 ⟨last', out', rem', es', K6, a1, a2, a3, a4, a5, a6, a7⟩
        show (∃ last out rem, Es h6 h.size w ka kl kc last out ∧ Keep (fun y => h.size ≤ y) h h6 ∧ Rb h6 t'.a t'.len rem ∧ t'.len ≤ t'.cap ∧ (∀ b, blk t'.a b → 0 < dl → b < h.size) ∧ t'.len ≤ dl ∧ 0 ≤ w64 (i + 1) ∧ w64 (i + 1) ≤ sa.len ∧ last.length ≤ 64 + w.sig.size ∧ out.length + rem.length ≤ 93 * (w64 (i + 1)).toNat + dl ∧ out ++ encP w last (cutL rem (sizes.drop (w64 (i + 1)).toNat) ++ [[]]) = encF w data sizes) ∧ (sa.len - w64 (i + 1)).toNat < (sa.len - i).toNat
        rw [w64_id (x := i + 1) (by omega) (by omega), show (i + 1).toNat = i.toNat + 1 by omega]
        exact ⟨⟨last', out', rem', es', K6, a1, a2, a3, a4, by omega, by omega, a5, a6, a7⟩, by omega⟩
      · intro J hJ
        have hcut := p5
        rw [List.drop_eq_getElem_cons hin] at hcut
        have hmem : sizes[i.toNat] ∈ sizes := List.getElem_mem hin
        have hin' := hsi _ hmem
        have hget : sizes[i.toNat]? = some sizes[i.toNat] := List.getElem?_eq_getElem hin
        generalize sizes[i.toNat] = z at hcut hin' hmem hget
        refine Rv.at (sizK K5) p1 hi (v := .int .i64 z) ?_ ?_
        · rw [List.getElem?_map, hget]
          rfl
        · intro x hx
          refine ldI_at hx ?_
          refine withJ.intro (fun _ h' => h' = h5 ∧ ¬ z < 1 ∧ t.len ≠ 0) ?_ ?_
          · rintro _ h' ⟨rfl, hz, ht0⟩
            unfold InI at hin'
            have hne : rem ≠ [] := fun e => by rw [e] at hrl; simp at hrl; omega
            unfold cutL at hcut
            rw [if_neg (by simp [hz, hne])] at hcut
            have hm1 : 1 ≤ minI z (t.len : Int) ∧ minI z (t.len : Int) ≤ t.len ∧ (minI z (t.len : Int)).toNat = min z.toNat t.len := by
              unfold minI
              split <;> omega
            have ht1 : rem.take (minI z (t.len : Int)).toNat = rem.take z.toNat := by
              rw [hm1.2.2]
              by_cases hh : z.toNat ≤ t.len
              · rw [Nat.min_eq_left hh]
              · rw [Nat.min_eq_right (by omega), List.take_of_length_le (by omega), List.take_of_length_le (by omega)]
            have hd1 : rem.drop (minI z (t.len : Int)).toNat = rem.drop z.toNat := by
              rw [hm1.2.2]
              by_cases hh : z.toNat ≤ t.len
              · rw [Nat.min_eq_left hh]
              · rw [Nat.min_eq_right (by omega), List.drop_eq_nil_of_le (by omega), List.drop_eq_nil_of_le (by omega)]
            have hmt : (minI z (t.len : Int)).toNat = min z.toNat t.len := hm1.2.2
            generalize minI z (t.len : Int) = m at hm1 ht1 hd1 hmt ⊢
            show lsl 1 t.a t.cap 0 m (t.cap : Int) _
            refine Rb.sub hr (by omega) (by omega) (by omega) (by omega) (by omega) ?_
            intro a' ra rab
            rw [show (0 : Int).toNat = 0 from rfl, List.drop_zero, show m - 0 = m by omega, ht1] at ra
            have z0 : 0 < dl := by omega
            rw [show m - 0 = m by omega, show (t.cap : Int) - 0 = t.cap by omega]
            refine put_spec es (keyK K5) hkc hltk hw p3 ra (by omega) (fun b hb _ => htb b (rab b hb) z0) (by omega) (by omega) ?_
            intro h6 es6 k6
            have K6 := K5.trans k6 (fun y _ hy => by have hy' : h.size < y := hy; omega)
            have hr6 : Rb h6 t.a t.len rem := hr.keep k6 (fun _ b hb hlt => by have := htb b hb z0; have hlt' : h.size < b := hlt; omega)
            show lsl 1 t.a t.cap m (t.len : Int) (t.cap : Int) _
            refine Rb.sub hr6 (by omega) (by omega) (by omega) (by omega) (by omega) ?_
            intro a2 ra2 rab2
            have e2 : ((rem.drop m.toNat).take ((t.len : Int) - m).toNat) = rem.drop z.toNat := by
              rw [hd1]
              exact List.take_of_length_le (by rw [List.length_drop]; omega)
            rw [e2] at ra2
            have hdl' : (rem.take z.toNat).length < 4294967296 := by rw [List.length_take]; omega
            refine hJ _ _ ⟨signF w last (rem.take z.toNat), out ++ chunkT w last (rem.take z.toNat), rem.drop z.toNat, es6, K6, ra2, by show ((t.len : Int) - m).toNat ≤ ((t.cap : Int) - m).toNat; omega, fun b hb h0 => htb b (rab2 b hb) h0, by show ((t.len : Int) - m).toNat ≤ _; omega, by rw [sign_len]; omega, ?_, ?_⟩
            · have := (chunkT_len (w := w) (last := last) hdl').1
              rw [List.length_append, List.length_drop]
              rw [List.length_take] at this
              omega
            · rw [← hcut]
              simp only [encP, List.append_assoc, List.cons_append]
          · intro J2 hJ2
            have skip : (z < 1 ∨ t.len = 0) → J t h5 := fun hor => by
              refine hJ _ _ ⟨last, out, rem, es, K5, hr, htc, htb, htl, p3, by omega, ?_⟩
              unfold cutL at hcut
              rw [if_pos] at hcut
              · exact hcut
              · rcases hor with h1 | h1
                · exact .inl h1
                · exact .inr (List.length_eq_zero_iff.1 (by omega))
            refine cnd_dec (fun hz => skip (.inl hz)) (fun hz => ?_)
            refine cnd_of (fun h0 => skip (.inr (by simpa using h0))) (fun h0 => hJ2 _ _ ⟨rfl, hz, by simpa using h0⟩)
    · have hil : i = sa.len := by
        have : ¬ i < (sa.len : Int) := hi
        omega
      subst hil
      have hdr : sizes.drop ((sa.len : Int)).toNat = [] := List.drop_eq_nil_of_le (by omega)
      rw [hdr] at p5
      refine withJ.intro (fun _ h' => ∃ last out, Es h' h.size w ka kl kc last out ∧ Keep (fun y => h.size ≤ y) h h' ∧ last.length ≤ 64 + w.sig.size ∧ out.length ≤ 93 * (sizes.length + 1) + dl ∧ out ++ encP w last [[]] = encF w data sizes) ?_ ?_
      · rintro _ h6 ⟨last', out', es', K6, a1, a2, a3⟩
        refine put_spec es' (keyK K6) hkc hltk hw a1 (rb_nil h6) (Nat.le_refl _) (fun b hb => by obtain ⟨x, e, _⟩ := hb; cases e) (by omega) (by omega) ?_
        intro h7 es7 k7
        have K7 := K6.trans k7 (fun y _ hy => by have hy' : h.size < y := hy; omega)
        have e7 : out' ++ chunkT w last' [] = encF w data sizes := by rw [← a3]; simp [encP]
        rw [e7] at es7
        have l7 : (encF w data sizes).length ≤ 93 * (sizes.length + 2) + dl := by
          rw [← e7, List.length_append]
          have := (chunkT_len (w := w) (last := last') (d := []) (by simp)).1
          simp only [List.length_nil] at this
          omega
        have z7 := es7.lt
        refine string_spec es7.bd (by omega) ?_
        intro h8 k8
        have K8 := K7.trans k8 (fun y _ hy => by rcases hy with e | e <;> omega)
        refine s2b_row (by rw [ofL_size]; omega) ?_
        intro cap h9 b9 k9 s9
        have rb9 := rb_s2b b9
        rw [bl_ofL] at rb9
        have K9 : Keep (fun _ => False) h h9 := ⟨by have := K8.size; have := k9.size; omega, fun b hb _ => by rw [(K8.trans k9 (fun _ _ h => h.elim)).same b hb (by show ¬ h.size ≤ b; omega)]⟩
        refine hk _ h9 rb9 (SlR.le b9) (by show (ofL _).size ≤ _; rw [ofL_size]; exact l7) (fun b hb => ?_) ?_ K9
        · rw [blk_some] at hb
          simp only at hb
          have := K8.size
          omega
        · have := b9
          unfold Bs at this
          rw [ofL_bytes] at this
          exact this
      · intro J hJ
        refine cnd_dec (fun hgt => ?_) (fun hle => ?_)
        · replace hgt : (t.len : Int) > 0 := hgt
          have hne : rem ≠ [] := fun e => by rw [e] at hrl; simp at hrl; omega
          unfold cutL at p5
          rw [if_neg hne] at p5
          have z0 : 0 < dl := by
            have : (t.len : Int) > 0 := hgt
            omega
          refine put_spec es (keyK K5) hkc hltk hw p3 hr htc (fun b hb _ => htb b hb z0) (by omega) (by omega) ?_
          intro h6 es6 k6
          have K6 := K5.trans k6 (fun y _ hy => by have hy' : h.size < y := hy; omega)
          refine hJ _ _ ⟨_, _, es6, K6, by rw [sign_len]; omega, ?_, ?_⟩
          · have := (chunkT_len (w := w) (last := last) (d := rem) (by omega)).1
            rw [List.length_append]
            omega
          · rw [← p5]
            simp only [encP, List.append_assoc, List.cons_append, List.nil_append]
        · have hne : rem = [] := List.length_eq_zero_iff.1 (by
            have : ¬ (t.len : Int) > 0 := hle
            omega)
          subst hne
          refine hJ _ _ ⟨last, out, es, K5, p3, by simp at p4; omega, ?_⟩
          unfold cutL at p5
          rw [if_pos rfl] at p5
          exact p5
end Chunk
end Go.Proofs.YtncffbocmpmejaaDoor
