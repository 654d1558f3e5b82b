/- Contracts of the document's answer for layer 6: Pack, Unpack, fits, sectors, Need, frame. -/
import Derived.Test.YtmkobpkdodgboaaPRef1
import Derived.Test.YtmkobpkdodgboaaPWalG
namespace Go.Proofs.Ytmkobpkdodgboaa
open Go D
set_option linter.unusedVariables false
set_option linter.unusedSimpArgs false
namespace RefW
open Disk Enc Hash Snap Wal

theorem wrapU (n : Nat) : IntKind.u32.wrap (n : Int) = u (BitVec.ofNat 32 n) := by
  rw [wrap_u]
  unfold u
  rw [BitVec.toNat_ofNat]
  omega
theorem four_of (n : Nat) : be4W (BitVec.ofNat 32 n) = four n := by
  have e0 : ∀ x : W, lowb x = lowb (x >>> 0) := fun x => by simp
  have l0 : BitVec.ofNat 32 n = BitVec.ofNat 32 (n >>> 0) := rfl
  unfold be4W
  rw [e0 (BitVec.ofNat 32 n), l0, Ref7.lowb_shr 0 24 (by omega), Ref7.lowb_shr 0 16 (by omega), Ref7.lowb_shr 0 8 (by omega), Ref7.lowb_shr 0 0 (by omega)]
  simp [four]

theorem pack_spec {h : Heap} {a : Option Addr} {l c : Nat} {rs : List ByteArray} (ht : Ts h a l rs) (hb : (packL rs).length ≤ 10000000000000) (hl : l ≤ 1000000000000) {R : Sl → Heap → Prop}
    (hk : ∀ s h', Bl h' s.a s.len s.cap (packL rs) → (∀ b, blk s.a b → h.size ≤ b) → Keep (fun _ => False) h h' → R s h') :
    CallT Try.prog ref1_Pack_no [.slice a l c] h [.sc .sl] R := by
  have hcall := ref1_Pack_call (l_0 := ⟨a, l, c⟩) (R := R) (h := h)
  apply hcall
  simp only [ref1_Pack]
  have hlen := ht.len
  refine LoopT.intro (fun (t : Sl × Int) h' => 0 ≤ t.2 ∧ t.2 ≤ l ∧ t.1.len = (packL (rs.take t.2.toNat)).length ∧ Bl h' t.1.a t.1.len t.1.cap (packL (rs.take t.2.toNat)) ∧ (∀ b, blk t.1.a b → h.size ≤ b) ∧ Keep (fun _ => False) h h') (fun t _ => ((l : Int) - t.2).toNat)
    ⟨by simp, by simp, by simp [packL], SlR.nil h 1, fun b hb => absurd hb (Ref5.nob b), .refl _ _⟩ ?_
  rintro ⟨s, i⟩ h2 ⟨q1, q2, q3, q4, q5, q6⟩
  replace q1 : 0 ≤ i := q1
  replace q2 : i ≤ l := q2
  replace q3 : s.len = (packL (rs.take i.toNat)).length := q3
  replace q4 : Bl h2 s.a s.len s.cap (packL (rs.take i.toNat)) := q4
  replace q5 : ∀ b, blk s.a b → h.size ≤ b := q5
  have z6 := q6.size
  refine cnd_dec (fun hi => ?_) (fun hi => ?_)
  · replace hi : i < l := hi
    refine Ts.at (ht.keep0 q6) q1 hi ?_
    intro x hx
    have e := packL_len_snoc (rs.take i.toNat) x
    rw [← take_snoc hx] at e
    have hle := packL_take rs (i.toNat + 1)
    rw [wrapU]
    refine Ref7.four_spec ?_
    intro h3 b3 k3 s3
    dsimp only
    rw [four_of] at b3
    refine b3.rb.rd ?_
    have q4' : Bl h3 s.a s.len s.cap _ := SlR.keep q4 k3 (fun _ _ h => h)
    refine q4'.push (new := four x.size) (by omega) rfl rfl ?_
    intro a4 c4 h4 b4 k4 n4
    have k04 : Keep (fun _ => False) h h4 := (q6.trans' k3).trans k4 (fun y hy hb => by have := q5 y hb; omega)
    refine Ts.at (ht.keep0 k04) q1 hi ?_
    intro x2 hx2
    have ex : x2 = x := by rw [hx] at hx2; injection hx2 with hx2; exact hx2.symm
    subst ex
    refine b4.push (new := x2.data.toList) (by show s.len + 4 + x2.size ≤ _; omega) rfl (bytesV_eq x2) ?_
    intro a5 c5 h5 b5 k5 n5
    have hw : w64 (i + 1) = i + 1 := w64_id (by omega) (by omega)
    have f4 : ∀ b, blk a4 b → h.size ≤ b := fun b hb => by
      rcases n4 b hb with hh | hh
      · exact q5 b hh
      · omega
    have z4 := k4.size
    show (0 ≤ w64 (i + 1) ∧ w64 (i + 1) ≤ l ∧ s.len + 4 + x2.size = (packL (rs.take (w64 (i + 1)).toNat)).length ∧ Bl h5 a5 (s.len + 4 + x2.size) c5 (packL (rs.take (w64 (i + 1)).toNat)) ∧ (∀ b, blk a5 b → h.size ≤ b) ∧ Keep (fun _ => False) h h5) ∧ ((l : Int) - w64 (i + 1)).toNat < ((l : Int) - i).toNat
    rw [hw, show (i + 1).toNat = i.toNat + 1 by omega]
    refine ⟨⟨by omega, by omega, by omega, ?_, fun b hb => ?_, k04.trans k5 (fun y hy hb => by have := f4 y hb; omega)⟩, by omega⟩
    · rw [take_snoc hx, packL_snoc, ← List.append_assoc]
      exact b5
    · rcases n5 b hb with hh | hh
      · exact f4 b hh
      · omega
  · replace hi : ¬ i < l := hi
    rw [List.take_of_length_le (by omega)] at q4
    exact hk _ h2 q4 q5 q6

theorem num_add (a b c d : UInt8) : w64 (w64 (w64 (shlI .i64 (w64 (a.toNat : Int)) 24 + shlI .i64 (w64 (b.toNat : Int)) 16) + shlI .i64 (w64 (c.toNat : Int)) 8) + w64 (d.toNat : Int)) = (g64 [a, b, c, d] : Int) := by
  have ha := a.toNat_lt
  have hb := b.toNat_lt
  have hc := c.toNat_lt
  have hd := d.toNat_lt
  rw [w64_id (x := (a.toNat : Int)) (by omega) (by omega), w64_id (x := (b.toNat : Int)) (by omega) (by omega), w64_id (x := (c.toNat : Int)) (by omega) (by omega), w64_id (x := (d.toNat : Int)) (by omega) (by omega)]
  have s1 := shlI_i64 (x := a.toNat) (n := 24) (by decide) (by omega)
  have s2 := shlI_i64 (x := b.toNat) (n := 16) (by decide) (by omega)
  have s3 := shlI_i64 (x := c.toNat) (n := 8) (by decide) (by omega)
  rw [show ((24 : Nat) : Int) = 24 from rfl] at s1
  rw [show ((16 : Nat) : Int) = 16 from rfl] at s2
  rw [show ((8 : Nat) : Int) = 8 from rfl] at s3
  rw [s1, s2, s3]
  simp only [g64, List.foldl_cons, List.foldl_nil]
  rw [w64_id (x := ((a.toNat * 2 ^ 24 : Nat) : Int) + ((b.toNat * 2 ^ 16 : Nat) : Int)) (by omega) (by omega), w64_id (x := ((a.toNat * 2 ^ 24 : Nat) : Int) + ((b.toNat * 2 ^ 16 : Nat) : Int) + ((c.toNat * 2 ^ 8 : Nat) : Int)) (by omega) (by omega), w64_id (by omega) (by omega)]
  omega

theorem drop4 {bs : List UInt8} {i : Nat} {a b c d : UInt8} (h0 : bs[i]? = some a) (h1 : bs[i + 1]? = some b) (h2 : bs[i + 2]? = some c) (h3 : bs[i + 3]? = some d) : (bs.drop i).take 4 = [a, b, c, d] :=
  take4 (by rw [List.getElem?_drop]; exact h0) (by rw [List.getElem?_drop]; exact h1) (by rw [List.getElem?_drop]; exact h2) (by rw [List.getElem?_drop]; exact h3)

theorem unpack_spec {h : Heap} {a : Option Addr} {l c : Nat} {bs : List UInt8} (hb : Rb h a l bs) (hc : l ≤ c) (hl : l ≤ 1000000000) {R : Sl × Bool → Heap → Prop}
    (hno : unpackL bs = none → ∀ h', Keep (fun _ => False) h h' → R (⟨none, 0, 0⟩, false) h')
    (hyes : ∀ rs, unpackL bs = some rs → ∀ s h', Ts h' s.a s.len rs → (∀ b, blk s.a b → h.size ≤ b) → Keep (fun _ => False) h h' → R (s, true) h') :
    CallT Try.prog ref1_Unpack_no [.slice a l c] h [.sc .sl, .sc .bool] R := by
  have hcall := ref1_Unpack_call (x_0 := ⟨a, l, c⟩) (R := R) (h := h)
  apply hcall
  simp only [ref1_Unpack]
  have hlen := hb.len
  refine LoopT.intro (fun (t : Sl × Int) h' => 0 ≤ t.2 ∧ t.2 ≤ l ∧ ∃ rs', SlR h' 1 t.1.a t.1.len t.1.cap (rs'.map Value.string) ∧ unpackL bs = (unpackL (bs.drop t.2.toNat)).map (rs' ++ ·) ∧ (rs'.length : Int) ≤ t.2 ∧ (∀ b, blk t.1.a b → h.size ≤ b) ∧ Keep (fun _ => False) h h') (fun t _ => ((l : Int) - t.2).toNat)
    ⟨by simp, by simp, [], SlR.nil h 1, by simp, by simp, (fun b hb => absurd hb (Ref5.nob b)), .refl _ _⟩ ?_
  rintro ⟨out, i⟩ h1 ⟨q1, q2, rs', q3, q4, q5, q6, q7⟩
  replace q1 : 0 ≤ i := q1
  replace q2 : i ≤ l := q2
  replace q3 : SlR h1 1 out.a out.len out.cap (rs'.map Value.string) := q3
  replace q4 : unpackL bs = (unpackL (bs.drop i.toNat)).map (rs' ++ ·) := q4
  replace q5 : (rs'.length : Int) ≤ i := q5
  replace q6 : ∀ y, blk out.a y → h.size ≤ y := q6
  have hol : rs'.length = out.len := by have := q3.len; rw [List.length_map] at this; omega
  have z7 := q7.size
  have hdl : (bs.drop i.toNat).length = l - i.toNat := by rw [List.length_drop]; omega
  refine cnd_dec (fun hpos => ?_) (fun hpos => ?_)
  · replace hpos : i < l := hpos
    have hne : bs.drop i.toNat ≠ [] := fun e => by rw [e] at hdl; simp at hdl; omega
    have e1 : w64 ((l : Int) - i) = l - i := w64_id (by omega) (by omega)
    rw [e1]
    refine cnd_dec (fun h4 => ?_) (fun h4 => ?_)
    · replace h4 : (l : Int) - i < 4 := h4
      exact hno (by rw [q4, unpack_short hne (by omega)]; rfl) h1 q7
    · replace h4 : ¬ (l : Int) - i < 4 := h4
      have hb1 : Rb h1 a l bs := Rv.keep hb q7 (fun _ _ _ h => h)
      have i1 : w64 (i + 1) = i + 1 := w64_id (by omega) (by omega)
      have i2 : w64 (i + 2) = i + 2 := w64_id (by omega) (by omega)
      have i3 : w64 (i + 3) = i + 3 := w64_id (by omega) (by omega)
      have i4 : w64 (i + 4) = i + 4 := w64_id (by omega) (by omega)
      dsimp only
      rw [i1, i2, i3, i4]
      refine Rb.at hb1 q1 (by omega) fun b0 e0 => ?_
      refine Rb.at hb1 (by omega) (by omega) fun b1 e1 => ?_
      refine Rb.at hb1 (by omega) (by omega) fun b2 e2 => ?_
      refine Rb.at hb1 (by omega) (by omega) fun b3 e3 => ?_
      rw [show (i + 1).toNat = i.toNat + 1 by omega] at e1
      rw [show (i + 2).toNat = i.toNat + 2 by omega] at e2
      rw [show (i + 3).toNat = i.toNat + 3 by omega] at e3
      have eb := drop4 e0 e1 e2 e3
      obtain ⟨n, hn⟩ : ∃ n, n = g64 ((bs.drop i.toNat).take 4) := ⟨_, rfl⟩
      have hg := g64_lt ((bs.drop i.toNat).take 4)
      rw [List.length_take] at hg
      have hg' : g64 ((bs.drop i.toNat).take 4) < 4294967296 := Nat.lt_of_lt_of_le hg (Nat.le_trans (Nat.pow_le_pow_right (by decide) (Nat.mul_le_mul (Nat.le_refl 8) (Nat.min_le_left 4 _))) (by decide))
      rw [num_add, ← eb, ← hn]
      rw [← hn] at hg'
      have e5 : w64 ((l : Int) - (i + 4)) = l - (i + 4) := w64_id (by omega) (by omega)
      have e6 : w64 (i + 4 + (n : Int)) = i + 4 + n := w64_id (by omega) (by omega)
      rw [e5, e6]
      refine cnd_dec (fun hov => ?_) (fun hov => ?_)
      · exact hno (by rw [q4, unpack_over (by omega) (by rw [← hn]; omega)]; rfl) h1 q7
      · refine Rb.sub hb1 (by omega) (by omega) (by omega) (by omega) (by omega) ?_
        intro a2 w2 _
        have en : (i + 4 + (n : Int) - (i + 4)).toNat = n := by omega
        rw [en, show (i + 4).toNat = i.toNat + 4 by omega] at w2
        rw [en]
        have w2' : Rb h1 a2 n (((bs.drop i.toNat).drop 4).take n) := by
          rw [List.drop_drop]
          exact w2
        refine Rb.str w2' ?_
        refine newB_row ?_
        intro h3 s3 r3 k3
        refine ldRow_row r3 (by simp) ?_
        refine (q3.keep k3 (fun _ _ h => h)).app rfl (by simp) (fun v hv => by simp at hv; subst hv; rfl) (by omega) ?_
        intro a4 c4 h4' v1 v2 v3
        refine ⟨⟨by show 0 ≤ i + 4 + (n : Int); omega, by show i + 4 + (n : Int) ≤ l; omega, rs' ++ [ofL (((bs.drop i.toNat).drop 4).take n)], by rw [List.map_append]; exact v1, ?_, by rw [List.length_append]; show ((rs'.length + 1 : Nat) : Int) ≤ i + 4 + (n : Int); omega, fun y hy => ?_, (q7.trans' k3).trans v2 (fun y hy hb => by have := q6 y hb; omega)⟩, by show ((l : Int) - (i + 4 + (n : Int))).toNat < ((l : Int) - i).toNat; omega⟩
        · show unpackL bs = (unpackL (bs.drop (i + 4 + (n : Int)).toNat)).map _
          have ed : (bs.drop i.toNat).drop (4 + n) = bs.drop (i.toNat + (4 + n)) := List.drop_drop
          rw [q4, unpack_cons (by omega) (by rw [← hn]; omega), ← hn, ed, show (i + 4 + (n : Int)).toNat = i.toNat + (4 + n) by omega]
          cases unpackL (bs.drop (i.toNat + (4 + n))) <;> simp
        · rcases v3 with ⟨rfl, _⟩ | ⟨rfl, _⟩
          · exact q6 y hy
          · rw [blk_some] at hy
            simp only at hy
            omega
  · replace hpos : ¬ i < l := hpos
    have he : bs.drop i.toNat = [] := List.length_eq_zero_iff.1 (by omega)
    exact hyes rs' (by rw [q4, he]; simp [unpack_nil]) out h1 (SlR.rv q3) q6 q7

theorem fits_spec {mu : Nat → Prop} {h : Heap} {p : Nat} {m : M} (hr : Ref5.Rep h p mu m) {fr n : Int} (hf : InI fr) (hn : InI n) {R : Bool → Heap → Prop} (hk : R (decide (okR m.l.length fr n)) h) :
    CallT Try.prog ref6_fits_no [.pointer (some ⟨p, 0, none⟩), .int .i64 fr, .int .i64 n] h [.sc .bool] R := by
  apply ref6_fits_call
  simp only [ref6_fits, nn_eq]
  unfold InI at hf hn
  have hle := hr.le
  obtain ⟨⟨a, c, c0⟩, _⟩ := hr.cells
  have no : ¬ okR m.l.length fr n → R false h := fun hno => by rw [decide_eq_false hno] at hk; exact hk
  refine withJ.inl ?_
  refine cnd_dec (fun h1 => ?_) (fun h1 => no (fun ha => h1 ha.1))
  refine ldL_at c0 ?_
  refine cnd_dec (fun h2 => ?_) (fun h2 => no (fun ha => by have := ha.2; omega))
  refine cnd_dec (fun h3 => ?_) (fun h3 => no (fun ha => h3 ha.2.1))
  refine ldL_at c0 ?_
  have e3 : w64 ((m.l.length : Int) - n) = m.l.length - n := w64_id (by omega) (by omega)
  rw [e3]
  have : decide (fr ≤ (m.l.length : Int) - n) = decide (okR m.l.length fr n) := by
    rw [Bool.eq_iff_iff]
    simp only [decide_eq_true_eq]
    unfold okR
    omega
  rw [this]
  exact hk

theorem sectors_spec {h : Heap} {l : Nat} (hl : (l : Int) ≤ 4611686018427387904) {R : Int → Heap → Prop} (hk : R (secs l : Int) h) : CallT Try.prog ref6_sectors_no [.int .i64 (24 + (l : Int))] h [.sc (.int .i64)] R := by
  apply ref6_sectors_call
  simp only [ref6_sectors]
  have e1 : w64 (24 + (l : Int) + 255) = 279 + l := by rw [w64_id (by omega) (by omega)]; omega
  have e3 : w64 ((279 + (l : Int)).tdiv 256) = (279 + l) / 256 := by rw [Int.tdiv_eq_ediv_of_nonneg (by omega), w64_id (by omega) (by omega)]
  rw [e1, e3]
  have : (279 + (l : Int)) / 256 = (secs l : Int) := by unfold secs; omega
  rw [this]
  exact hk

theorem need_spec {h : Heap} {a : Option Addr} {l c : Nat} {rs : List ByteArray} (ht : Ts h a l rs) (hb : (packL rs).length ≤ 10000000000000) (hl : l ≤ 1000000000000) {R : Int → Heap → Prop} (hk : ∀ h', Keep (fun _ => False) h h' → R (secs (packL rs).length : Int) h') :
    CallT Try.prog ref6_Need_no [.slice a l c] h [.sc (.int .i64)] R := by
  have hcall := ref6_Need_call (records_0 := ⟨a, l, c⟩) (R := R) (h := h)
  apply hcall
  simp only [ref6_Need]
  refine pack_spec ht hb hl ?_
  intro s h1 b1 n1 k1
  have hs := b1.len
  have e : w64 (24 + (s.len : Int)) = 24 + (s.len : Int) := w64_id (by omega) (by omega)
  rw [e]
  refine sectors_spec (by omega) ?_
  rw [hs]
  exact hk h1 k1

theorem room_spec {h : Heap} {p q : Nat} {L : Lg} (ho : Row h q (LRow p L)) (g : -100000 ≤ L.n ∧ L.n ≤ 100000 ∧ 0 ≤ L.pos ∧ L.pos ≤ 100000) {R : Int → Heap → Prop} (hk : R (L.n - L.pos) h) : CallT Try.prog ref6_Log_Room_no [.pointer (some ⟨q, 0, none⟩)] h [.sc (.int .i64)] R := by
  apply ref6_Log_Room_call
  simp only [ref6_Log_Room, nn_eq]
  rw [add_mk, add_mk]
  refine ldI_row (o := 0 + 2) ho rfl (ldI_row (o := 0 + 5) ho rfl ?_)
  rw [w64_id (by omega) (by omega)]
  exact hk

theorem frame_spec {h : Heap} {a : Option Addr} {l c e x : Nat} {pl : List UInt8} (he : e < 18446744073709551616) (hx : x < 18446744073709551616) (hb : Rb h a l pl) (hl : l ≤ 100000000) {R : Sl → Heap → Prop}
    (hk : ∀ s h', s.len = 24 + l → Bl h' s.a s.len s.cap (frameL e x pl) → (∀ b, blk s.a b → h.size ≤ b) → Keep (fun _ => False) h h' → R s h') :
    CallT Try.prog ref6_frame_no [.int .u64 (e : Int), .int .u64 (x : Int), .slice a l c] h [.sc .sl] R := by
  have hcall := ref6_frame_call (epoch_0 := (e : Int)) (number_1 := (x : Int)) (payload_2 := ⟨a, l, c⟩) (R := R) (h := h)
  apply hcall
  simp only [ref6_frame]
  have hlen := hb.len
  have e8 : (p64 e).length = 8 := p64_length e
  have x8 : (p64 x).length = 8 := p64_length x
  refine Ref7.put64_spec he ?_
  rintro ⟨sa, sl, sc⟩ h1 hsl b1 n1 k1
  replace hsl : sl = 8 := hsl
  subst hsl
  dsimp only at b1 n1 ⊢
  refine b1.rb.rd ?_
  refine (show Bl h1 none 0 0 [] from SlR.nil h1 1).push (new := p64 e) (by omega) e8.symm rfl ?_
  intro a2 c2 h2 b2 k2 n2
  have k02 : Keep (fun _ => False) h h2 := k1.trans k2 (fun b _ hb => Ref5.nob b hb)
  have z2 := k02.size
  have z1 := k1.size
  have f2 : ∀ b, blk a2 b → h.size ≤ b := fun b hb => by
    rcases n2 b hb with hh | hh
    · exact absurd hh (Ref5.nob b)
    · omega
  refine Ref7.put64_spec hx ?_
  rintro ⟨ta, tl, tc⟩ h3 htl b3 n3 k3
  replace htl : tl = 8 := htl
  subst htl
  dsimp only at b3 n3 ⊢
  refine b3.rb.rd ?_
  have b2' : Bl h3 a2 (0 + 8) c2 _ := SlR.keep b2 k3 (fun _ _ h => h)
  refine b2'.push (new := p64 x) (by omega) x8.symm rfl ?_
  intro a4 c4 h4 b4 k4 n4
  have z3 := k3.size
  have f4 : ∀ b, blk a4 b → h.size ≤ b := fun b hb => by
    rcases n4 b hb with hh | hh
    · exact f2 b hh
    · omega
  have k04 : Keep (fun _ => False) h h4 := (k02.trans' k3).trans k4 (fun y hy hb => by have := f2 y hb; omega)
  have hb4 : Rb h4 a l pl := Rv.keep hb k04 (fun _ _ _ h => h)
  refine hb4.rd ?_
  refine b4.push (new := pl) (by omega) hlen rfl ?_
  intro a5 c5 h5 b5 k5 n5
  have z4 := k04.size
  have f5 : ∀ b, blk a5 b → h.size ≤ b := fun b hb => by
    rcases n5 b hb with hh | hh
    · exact f4 b hh
    · omega
  have k05 : Keep (fun _ => False) h h5 := k04.trans k5 (fun y hy hb => by have := f4 y hb; omega)
  have z5 := k05.size
  have b5' : Bl h5 a5 (0 + 8 + 8 + l) c5 (bodyL e x pl) := by
    have : [] ++ p64 e ++ p64 x ++ pl = bodyL e x pl := by simp [bodyL]
    rw [← this]
    exact b5
  rw [wrapU]
  refine Ref7.four_spec ?_
  intro h6 b6 k6 s6
  dsimp only
  rw [four_of] at b6
  refine b6.rb.rd ?_
  refine (show Bl h6 none 0 0 [] from SlR.nil h6 1).push (new := four l) (by omega) rfl rfl ?_
  intro a7 c7 h7 b7 k7 n7
  have k57 : Keep (fun _ => False) h5 h7 := k6.trans k7 (fun b _ hb => Ref5.nob b hb)
  have z7 := k57.size
  have f7 : ∀ b, blk a7 b → h5.size ≤ b := fun b hb => by
    rcases n7 b hb with hh | hh
    · exact absurd hh (Ref5.nob b)
    · omega
  have b57 : Bl h7 a5 (0 + 8 + 8 + l) c5 (bodyL e x pl) := SlR.keep b5' k57 (fun _ _ h => h)
  refine Ref2.crc_spec b57.rb (by omega) ?_
  refine Ref7.four_spec ?_
  intro h8 b8 k8 s8
  dsimp only
  refine b8.rb.rd ?_
  have b78 : Bl h8 a7 (0 + 4) c7 ([] ++ four l) := SlR.keep b7 k8 (fun _ _ h => h)
  refine b78.push (new := be4W (crcF (bodyL e x pl))) (by omega) rfl rfl ?_
  intro a9 c9 h9 b9 k9 n9
  have z9 := k9.size
  have f9 : ∀ b, blk a9 b → h5.size ≤ b := fun b hb => by
    rcases n9 b hb with hh | hh
    · exact f7 b hh
    · omega
  have b59 : Rb h9 a5 (0 + 8 + 8 + l) (bodyL e x pl) := (Rv.keep b57.rb k8 (fun _ _ _ h => h)).keep k9 (fun _ y hy hh => by
    have := f7 y hh
    have := SlR.blk_lt b5' hy
    omega)
  refine Rv.rd b59 ?_
  refine b9.push (new := bodyL e x pl) (by omega) (by rw [bodyL_length]; omega) rfl ?_
  intro a10 c10 h10 b10 k10 n10
  refine hk _ h10 (by show 0 + 4 + 4 + (0 + 8 + 8 + l) = _; omega) ?_ (fun b hb => ?_) ?_
  · have : [] ++ four l ++ be4W (crcF (bodyL e x pl)) ++ bodyL e x pl = frameL e x pl := by
      unfold frameL
      rw [← hlen]
      simp
    rw [← this]
    exact b10
  · rcases n10 b hb with hh | hh
    · have := f9 b hh; omega
    · omega
  · refine (((k05.trans' k57).trans' k8).trans k9 (fun y hy hb => ?_)).trans k10 (fun y hy hb => ?_)
    · have := f7 y hb; omega
    · have := f9 y hb; omega

end RefW
end Go.Proofs.Ytmkobpkdodgboaa
