/- ChunkBack. -/
import Derived.Test.YtncffbocmpmejaaDoorPEnds
namespace Go.Proofs.YtncffbocmpmejaaDoor
open Go D
set_option linter.unusedVariables false
set_option linter.unusedSimpArgs false
namespace Chunk
open Hash (hexL hmacF sha256F hexB xb xb_val)

/-- the text of chunks begins with a chunk -/
theorem enc_first (w : Wh) {data : List UInt8} {sizes : List Int} (hd : data.length < 4294967296) : ∃ d rest, encF w data sizes = rawC (signF w (bl w.sig) d) d ++ rest ∧ (d = [] → rest = []) ∧ d.length < 4294967296 := by
  obtain ⟨c1, c2⟩ := cut_ok sizes data
  unfold encF
  cases hc : cutL data sizes with
  | nil => exact ⟨[], [], by simp [encP, chunkT], fun _ => rfl, by simp⟩
  | cons d r =>
    rw [hc] at c2
    have := c2 d (List.mem_cons_self ..)
    exact ⟨d, encP w (signF w (bl w.sig) d) (r ++ [[]]), rfl, fun e => absurd e this.1, by omega⟩

theorem dg61 : dg 61 = false := by decide
theorem mark_split : markL = markL.take 16 ++ [61] := by decide

/-- a byte of the first signature turned -/
theorem dec_turn {w : Wh} {size : Int} {data : List UInt8} {sizes : List Int} (hd : data.length < 4294967296) : ∃ p, p + 65 ≤ (encF w data sizes).length ∧ (encF w data sizes)[p]? = some 61 ∧ (∀ (i : Nat) (b : UInt8), i < p → (encF w data sizes)[i]? = some b → b ≠ 61) ∧
    ∀ i, i < 64 → ∃ b0, (encF w data sizes)[p + 1 + i]? = some b0 ∧ ∀ y : UInt8, y ≠ b0 → (dg y = true → decF w size ((encF w data sizes).set (p + 1 + i) y) = ([], 301)) ∧ (dg y = false → decF w size ((encF w data sizes).set (p + 1 + i) y) = ([], 308)) := by
  obtain ⟨d, rest, e, he, hdl⟩ := enc_first w (sizes := sizes) hd
  have sl := sign_len w (bl w.sig) d
  have sd := sign_dg w (bl w.sig) d
  generalize hS : signF w (bl w.sig) d = sum at e sl sd
  generalize hE : encF w data sizes = E at e ⊢
  have e1 : E = (numL d.length ++ markL) ++ (sum ++ (crL ++ (d ++ (crL ++ rest)))) := by rw [e]; unfold rawC; simp only [List.append_assoc]
  have lm : markL.length = 17 := rfl
  have lA : (numL d.length ++ markL).length = (numL d.length).length + 16 + 1 := by rw [List.length_append, lm]
  have lc : crL.length = 2 := rfl
  refine ⟨(numL d.length).length + 16, ?_, ?_, ?_, ?_⟩
  · rw [e1, List.length_append, lA, List.length_append, sl]; omega
  · rw [e1, List.getElem?_append_left (by omega), List.getElem?_append_right (by omega)]
    have : (numL d.length).length + 16 - (numL d.length).length = 16 := by omega
    rw [this]
    rfl
  · intro i b hi hb
    rw [e1, List.getElem?_append_left (by omega)] at hb
    by_cases h : i < (numL d.length).length
    · rw [List.getElem?_append_left h] at hb
      rintro rfl
      have := numL_dg _ _ (List.mem_of_getElem? hb)
      rw [dg61] at this
      cases this
    · rw [List.getElem?_append_right (by omega), mark_split, List.getElem?_append_left (by
        have : (markL.take 16).length = 16 := rfl
        omega)] at hb
      rintro rfl
      have := List.mem_of_getElem? hb
      revert this
      decide
  · intro i hi
    have hk : (numL d.length).length + 16 + 1 + i = (numL d.length ++ markL).length + i := by rw [lA]
    have hb0 : E[(numL d.length).length + 16 + 1 + i]? = some sum[i] := by
      rw [hk, e1, List.getElem?_append_right (by omega), Nat.add_sub_cancel_left, List.getElem?_append_left (by omega), List.getElem?_eq_getElem (by omega)]
    refine ⟨_, hb0, fun y hy => ?_⟩
    have hset : E.set ((numL d.length).length + 16 + 1 + i) y = numL d.length ++ (markL ++ (sum.set i y ++ (crL ++ (d ++ (crL ++ rest))))) := by
      rw [hk, e1, List.set_append_right _ _ (by omega), Nat.add_sub_cancel_left, List.set_append_left _ _ (by omega), List.append_assoc]
    have sl' : (sum.set i y).length = 64 := by rw [List.length_set]; exact sl
    rw [hset]
    unfold decF decN
    constructor
    · intro hy1
      have sd' : ∀ b ∈ sum.set i y, dg b = true := fun b hb => by
        rcases List.mem_or_eq_of_mem_set hb with h | h
        · exact sd b h
        · rw [h]; exact hy1
      have p : pieceF (numL d.length ++ (markL ++ (sum.set i y ++ (crL ++ (d ++ (crL ++ rest)))))) = (sum.set i y, d, rest, 0) := by
        have e2 : numL d.length ++ (markL ++ (sum.set i y ++ (crL ++ (d ++ (crL ++ rest))))) = rawC (sum.set i y) d ++ rest := by unfold rawC; simp only [List.append_assoc]
        rw [e2, piece_raw sd' sl' hdl, if_neg (fun hh => hh.2 (he hh.1))]
      rw [p, hS]
      have hne : sum ≠ sum.set i y := fun h => by
        have h1 : sum[i]? = (sum.set i y)[i]? := by rw [← h]
        rw [List.getElem?_set_self (by omega), List.getElem?_eq_getElem (by omega)] at h1
        injection h1 with h1
        exact hy h1.symm
      rw [if_neg (by simp), if_pos hne]
    · intro hy0
      have p : pieceF (numL d.length ++ (markL ++ (sum.set i y ++ (crL ++ (d ++ (crL ++ rest)))))) = errP 308 := by
        rw [piece_head hdl]
        have e2 : sum.set i y = sum.take i ++ (y :: sum.drop (i + 1)) := by rw [List.set_eq_take_append_cons_drop, if_pos (by omega)]
        have r : runN 64 (sum.set i y ++ (crL ++ (d ++ (crL ++ rest)))) = i := by
          rw [e2, List.append_assoc]
          have l : (sum.take i).length = i := by rw [List.length_take]; omega
          have := runN_app (k := 64) (xs := sum.take i) (rest := (y :: sum.drop (i + 1)) ++ (crL ++ (d ++ (crL ++ rest)))) (fun b hb => sd b (List.mem_of_mem_take hb)) (by omega) (.inr (fun b r e => by
            injection e with e _
            rw [← e]; exact hy0))
          rw [this, l]
        unfold py
        rw [r, if_pos ⟨hi, by rw [List.length_append, sl']; omega⟩]
      rw [p, if_pos (by decide)]
      rfl

theorem and63 (x : Int) : ∃ i : Nat, i < 64 ∧ andI .i64 x 63 = (i : Int) := by
  refine ⟨(BitVec.ofInt 64 x &&& BitVec.ofInt 64 63).toNat, ?_, ?_⟩
  · rw [BitVec.toNat_and]
    have : (BitVec.ofInt 64 63).toNat = 63 := by decide
    rw [this]
    have := Nat.and_le_right (n := (BitVec.ofInt 64 x).toNat) (m := 63)
    omega
  · unfold andI
    show w64 _ = _
    have h : (BitVec.ofInt IntKind.i64.bits x &&& BitVec.ofInt IntKind.i64.bits 63).toNat < 64 := by
      rw [BitVec.toNat_and]
      have : (BitVec.ofInt IntKind.i64.bits 63).toNat = 63 := by decide
      rw [this]
      have := Nat.and_le_right (n := (BitVec.ofInt IntKind.i64.bits x).toNat) (m := 63)
      omega
    exact w64_id (by omega) (by omega)

theorem xb_ne {b : UInt8} {k : Nat} (hk : k < 256) (h0 : k ≠ 0) : xb b k ≠ b := by
  intro h
  have h1 := congrArg UInt8.toNat h
  unfold xb at h1
  rw [UInt8.toNat_ofNat'] at h1
  have hb := b.toNat_lt
  have : b.toNat ^^^ k < 2 ^ 8 := Nat.xor_lt_two_pow hb (by omega)
  rw [Nat.mod_eq_of_lt this] at h1
  have h2 : b.toNat ^^^ (b.toNat ^^^ k) = b.toNat ^^^ b.toNat := by rw [h1]
  rw [← Nat.xor_assoc, Nat.xor_self, Nat.zero_xor] at h2
  exact h0 h2

theorem blSet {h : Heap} {o : Option Addr} {l c : Nat} {bs : List UInt8} (hs : Bl h o l c bs) {k : Int} (h0 : 0 ≤ k) (h1 : k < l) {y : UInt8} {v : Value} (hv : v = byteV y) {K : Heap → Prop}
    (hk : ∀ h', Bl h' o l c (bs.set k.toNat y) → Keep (blk o) h h' → h'.size = h.size → K h') : idx o l k fun a => stC (a.add (k.toNat * 1)) v h K := by
  refine SlR.idx hs h0 h1 ?_
  intro x hx hsp
  subst hx
  subst hv
  refine SlR.set hs (by omega) rfl ?_
  intro h' s1 q1 k1
  rw [Nat.mul_one] at q1
  refine hk h' ?_ (k1.mono (fun y _ hy => blk_some.2 hy.symm)) s1
  unfold Bl
  rw [List.map_set]
  exact q1

theorem atA {h : Heap} {a : Option Addr} {l : Nat} {bs : List UInt8} (hs : Rb h a l bs) {i : Int} (h0 : 0 ≤ i) (h1 : i < l) {K : Addr → Int → Prop} (hk : ∀ x b, bs[i.toNat]? = some b → K x (b.toNat : Int)) : idx a l i fun x => ldI .u8 (x.add (i.toNat * 1)) h (K x) := by
  have hl := hs.len
  have hi : i.toNat < bs.length := by omega
  refine Rv.at hs h0 h1 (v := byteV bs[i.toNat]) (by rw [List.getElem?_map, List.getElem?_eq_getElem hi]; rfl) fun x hx => ldI_at hx (hk _ _ (List.getElem?_eq_getElem hi))

theorem chunkBack_spec {h : Heap} {w : Wh} {ka : Option Addr} {kl kc : Nat} {x1 x2 : Sl} {at_ x4 : Int} {data : List UInt8} {sa : List Int} (wa : WA h w ka kl kc) (hd : Rb h x1.a x1.len data) (hdc : x1.len ≤ x1.cap)
    (ha : Rv h x2.a x2.len (sa.map (.int .i64 ·))) (hai : ∀ z ∈ sa, InI z) (hx0 : 0 ≤ x4) (hx1 : x4 ≤ 255) {R : Bool → Heap → Prop} (hR : ∀ h', Keep (fun _ => False) h h' → R true h') :
    CallT Tryd.prog 5 [.agg #[.string w.id, .string w.date, .string w.scope, .string w.sig, .slice ka kl kc, .string w.pay], .slice x1.a x1.len x1.cap, .slice x2.a x2.len x2.cap, .int .i64 at_, .int .u8 x4] h [.sc .bool] R := by
  have hcall := law19_ChunkBack_call (x_0 := (w.id, w.date, w.scope, w.sig, ⟨ka, kl, kc⟩, w.pay)) (x_1 := x1) (x_2 := x2) (x_3 := at_) (x_4 := x4) (R := R) (h := h)
  apply hcall
  have e1 := hd.len
  have e2 := ha.1
  rw [List.length_map] at e2
  have hn := wa.n
  unfold law19_ChunkBack
  refine newB_row ?_
  intro h1 s1 r1 k1
  replace r1 : Row h1 h.size (whoRow w ka kl kc) := r1
  have awake : ∀ {h'}, Keep (fun _ => False) h h' → CallT Tryd.prog law19_awake_no [] h' [.sc .bool] fun (r62 : Bool) h63 => R r62 h63 := fun k => awake_spec fun h2 k2 => hR h2 (k.trans' k2)
  refine withJ.intro (fun _ h' => h' = h1 ∧ x1.len ≤ 3000 ∧ x2.len ≤ 40) ?_ ?_
  · rintro _ h' ⟨rfl, b1, b2⟩
    refine ldW r1 ?_
    refine encode_spec (wa.key.keep0 k1) wa.le (by omega) (hd.keep0 k1) hdc (by omega) (ha.keep0 k1) hai (by omega) ?_
    intro t h2 t2 t3 t4 _ _ k2
    have r2 := k2.row r1 (fun h => h)
    have K2 := k1.trans' k2
    have tl := t2.len
    refine ldW r2 ?_
    refine decode_spec (wa.key.keep0 K2) wa.le t2 (by omega) (by omega) ?_
    intro x h3 xb3 xc k3
    have r3 := k3.row r2 (fun h => h)
    have K3 := K2.trans' k3
    refine ldW r3 ?_
    refine decode_spec (wa.key.keep0 K3) wa.le (t2.keep0 k3) (by omega) (by omega) ?_
    intro y h4 yb yc k4
    have r4 := k4.row r3 (fun h => h)
    have K4 := K3.trans' k4
    have ex : decF w (x1.len : Int) (encF w data sa) = (data, 0) := by rw [dec_encF (by omega), if_neg (by rw [e1]; simp)]
    have ey : decF w (w64 ((x1.len : Int) + 1)) (encF w data sa) = ([], 307) := by rw [w64_id (by omega) (by omega), dec_encF (by omega), if_pos (by rw [e1]; omega)]
    rw [ex] at xb3
    rw [ex, ey]
    have t4b := t2.keep0 (k3.trans' k4)
    refine withJ.intro (fun _ h' => h' = h4) ?_ ?_
    · rintro _ h' rfl
      obtain ⟨p, q1, q2, q3, q4⟩ := dec_turn (w := w) (size := (x1.len : Int)) (data := data) (sizes := sa) (by omega)
      obtain ⟨i0, i1, ei⟩ := and63 at_
      rw [ei]
      refine LoopT.intro (fun (s : Int) h'' => h'' = h' ∧ 0 ≤ s ∧ s ≤ p) (fun s _ => ((p : Int) - s).toNat) ⟨rfl, by omega, by omega⟩ ?_
      rintro s h'' ⟨rfl, g1, g2⟩
      refine withJ.intro (fun _ h5 => h5 = h'' ∧ s < p) ?_ ?_
      · rintro _ h5 ⟨rfl, hlt⟩
        rw [w64_id (x := s + 1) (by omega) (by omega)]
        exact ⟨⟨rfl, by omega, by omega⟩, by omega⟩
      · intro J hJ
        refine cnd_pos (by omega) ?_
        refine atA t4b g1 (by omega) ?_
        intro xa b hb
        by_cases hsp : s < p
        · refine cnd_t ?_ (hJ _ _ ⟨rfl, hsp⟩)
          have := q3 s.toNat b (by omega) hb
          rw [bne_iff_ne]
          intro e
          exact this (UInt8.toNat_inj.1 (by
            have e61 : (61 : UInt8).toNat = 61 := rfl
            omega))
        · have hsp' : s = p := by omega
          subst hsp'
          rw [Int.toNat_natCast, q2] at hb
          injection hb with hb
          subst hb
          refine cnd_f rfl ?_
          refine withJ.intro (fun _ h5 => h5 = h'' ∧ x4 ≠ 0) ?_ ?_
          · rintro _ h5 ⟨rfl, hx⟩
            refine newB_row ?_
            intro h6 s6 r6 k6
            refine Rv.rd (t4b.keep0 k6) ?_
            refine Bl.push (bl_none r6) (new := encF w data sa) (by omega) tl rfl ?_
            intro o c h7 m1 m2 m3
            rw [List.nil_append] at m1
            have kx : w64 (w64 ((p : Int) + 1) + (i0 : Int)) = ((p + 1 + i0 : Nat) : Int) := by
              rw [w64_id (x := (p : Int) + 1) (by omega) (by omega), w64_id (by omega) (by omega)]; omega
            rw [kx]
            obtain ⟨b0, f1, f2⟩ := q4 i0 i1
            refine m1.rb.at (by omega) (by omega) ?_
            intro b hb
            rw [Int.toNat_natCast, f1] at hb
            injection hb with hb
            subst hb
            obtain ⟨xn, exn⟩ : ∃ xn : Nat, x4 = (xn : Int) := ⟨x4.toNat, by omega⟩
            subst exn
            have hy := xb_val b0 (k := xn) (by omega)
            have hne := xb_ne (b := b0) (k := xn) (by omega) (by omega)
            generalize xb b0 xn = yv at hy hne
            have f2' := f2 yv hne
            refine blSet m1 (by omega) (by omega) hy ?_
            intro h8 m4 k8 s8
            have K7 : Keep (fun y => h5.size ≤ y) h5 h8 := ((k6.mono (fun _ _ h => h.elim)).trans m2 (fun y _ hy => by rw [blk_some] at hy; simp only at hy; omega)).trans k8 (fun y _ hy => by
              rcases m3 y hy with e | e
              · rw [blk_some] at e; simp only at e; omega
              · omega)
            have K8 : Keep (fun _ => False) h h8 := ⟨by have := K7.size; have := K4.size; omega, fun b hb _ => by
              have := K4.size
              rw [K7.same b (by omega) (by show ¬ h5.size ≤ b; omega), K4.same b hb (fun h => h)]⟩
            have r8 := K7.row r4 (by have := r4.lt; omega)
            rw [Int.toNat_natCast] at m4
            have m4' := m4.rb
            have hget : ((encF w data sa).set (p + 1 + i0) yv)[(((p + 1 + i0 : Nat) : Int)).toNat]? = some yv := by
              rw [Int.toNat_natCast, List.getElem?_set_self (by omega)]
            have atY : ∀ {K : Int → Prop}, K (yv.toNat : Int) → idx o (0 + t.len) ((p + 1 + i0 : Nat) : Int) fun a => ldI .u8 (a.add ((((p + 1 + i0 : Nat) : Int)).toNat * 1)) h8 K := fun hK => m4'.at (by omega) (by omega) (fun b hb => by
              rw [hget] at hb
              injection hb with hb
              subst hb
              exact hK)
            refine withJ.intro (fun (b : Bool) h9 => h9 = h8 ∧ b = dg yv) ?_ ?_
            · rintro b h9 ⟨rfl, rfl⟩
              refine ldW r8 ?_
              refine decode_spec (wa.key.keep0 K8) wa.le m4' (by omega) (by omega) ?_
              intro z h10 zb zc k10
              have K10 := K8.trans' k10
              cases hdg : dg yv with
              | true =>
                rw [f2'.1 hdg] at zb ⊢
                have zl := zb.len
                refine cnd_t rfl ?_
                refine withJ.intro (fun (b : Bool) h' => b = true ∧ Keep (fun _ => False) h h') ?_ ?_
                · rintro b h' ⟨rfl, k⟩
                  exact hR h' k
                · intro J3 hJ3
                  refine cnd_t rfl (cnd_t (by rw [beq_iff_eq]; show (z.len : Int) = 0; rw [zl]; rfl) ?_)
                  exact awake_spec fun h6 k6 => hJ3 _ _ ⟨rfl, K10.trans' k6⟩
              | false =>
                rw [f2'.2 hdg] at zb ⊢
                have zl := zb.len
                refine cnd_f rfl ?_
                refine withJ.intro (fun (b : Bool) h' => b = true ∧ Keep (fun _ => False) h h') ?_ ?_
                · rintro b h' ⟨rfl, k⟩
                  exact hR h' k
                · intro J3 hJ3
                  refine cnd_t rfl (cnd_t (by rw [beq_iff_eq]; show (z.len : Int) = 0; rw [zl]; rfl) ?_)
                  exact awake_spec fun h6 k6 => hJ3 _ _ ⟨rfl, K10.trans' k6⟩
            · intro J4 hJ4
              have hdg : ∀ {b : Bool}, (b = true ↔ (48 ≤ yv.toNat ∧ yv.toNat ≤ 57) ∨ (97 ≤ yv.toNat ∧ yv.toNat ≤ 102)) → J4 b h8 := fun hb => hJ4 _ _ ⟨rfl, by
                rw [Bool.eq_iff_iff, hb]
                unfold dg
                simp⟩
              refine atY ?_
              refine cnd_dec (fun h1 => ?_) (fun h1 => ?_)
              · refine atY ?_
                refine cnd_dec (fun h2 => ?_) (fun h2 => ?_)
                · exact hdg ⟨fun _ => .inl ⟨by omega, by omega⟩, fun _ => rfl⟩
                · refine atY ?_
                  refine cnd_dec (fun h3 => ?_) (fun h3 => ?_)
                  · refine atY ?_
                    refine hdg ?_
                    rw [decide_eq_true_eq]
                    omega
                  · refine hdg ⟨fun e => (by cases e), fun e => (by omega)⟩
              · refine atY ?_
                refine cnd_dec (fun h3 => ?_) (fun h3 => ?_)
                · refine atY ?_
                  refine hdg ?_
                  rw [decide_eq_true_eq]
                  omega
                · refine hdg ⟨fun e => (by cases e), fun e => (by omega)⟩
          · intro J5 hJ5
            refine withJ.intro (fun (b : Bool) h5 => h5 = h'' ∧ b = decide (x4 = 0)) ?_ ?_
            · rintro b h5 ⟨rfl, rfl⟩
              refine cnd_dec (fun e => ?_) (fun e => hJ5 _ _ ⟨rfl, e⟩)
              refine withJ.inl ?_
              refine cnd_t (by rw [beq_iff_eq]; exact e) ?_
              exact awake K4
            · intro J6 hJ6
              refine cnd_of (fun e => ?_) (fun e => ?_)
              · exact hJ6 _ _ ⟨rfl, (decide_eq_true (by simpa using e)).symm⟩
              · refine hJ6 _ _ ⟨rfl, ?_⟩
                have e' : x4 ≠ 0 := by simpa using e
                rw [decide_eq_false e']
                refine decide_eq_false ?_
                show ¬ w64 ((p : Int) + 65) > t.len
                rw [w64_id (by omega) (by omega)]
                omega
    · intro J hJ
      refine withJ.intro (fun (b : Bool) h5 => h5 = h4 ∧ b = false) ?_ ?_
      · rintro b h5 ⟨rfl, rfl⟩
        exact cnd_f rfl (hJ _ _ rfl)
      · intro J2 hJ2
        refine cnd_f rfl ?_
        refine Rb.str (bs := data) (xb3.keep0 k4) ?_
        refine Rb.str (bs := data) (hd.keep0 K4) ?_
        refine cnd_f (by rw [seq_self]; rfl) ?_
        exact hJ2 _ _ ⟨rfl, rfl⟩
  · intro J hJ
    refine withJ.intro (fun (b : Bool) h' => h' = h1 ∧ (b = false → x1.len ≤ 3000 ∧ x2.len ≤ 40)) ?_ ?_
    · rintro b h' ⟨rfl, hb'⟩
      refine cnd_of (fun e => awake k1) (fun e => ?_)
      exact hJ _ _ ⟨rfl, hb' e⟩
    · intro J2 hJ2
      refine cnd_dec (fun h1 => hJ2 _ _ ⟨rfl, fun e => by cases e⟩) (fun g1 => ?_)
      refine hJ2 _ _ ⟨rfl, fun e => ?_⟩
      have := of_decide_eq_false e
      omega
end Chunk
end Go.Proofs.YtncffbocmpmejaaDoor
