/- Two steps compared; HttpLent. -/
import Derived.Test.YtjpmjhnjdnbopaaPRefM
import Derived.Test.YtjpmjhnjdnbopaaPMono
namespace Go.Proofs.Ytjpmjhnjdnbopaa
open Go D
set_option linter.unusedVariables false
set_option linter.unusedSimpArgs false

theorem hds_nil (h : Heap) : HdsAt h none 0 [] := ⟨rfl, fun i p hp => by simp at hp⟩
theorem rb_nil (h : Heap) : Rb h none 0 [] := ⟨rfl, fun i v hv => by simp at hv⟩

/-- what two steps told of the same bytes say is the same -/
theorem stepSame_spec {h h1 h2 : Heap} {bs : List UInt8} {x y : ST} (hx : StepR h1 h bs x) (hy : StepR h2 h bs y) {R : Bool → Heap → Prop} (hk : ∀ h', Nw h h' → R true h') :
    CallT Try.prog law16_Same_no [.agg (row9 x).toArray, .agg (row9 y).toArray] h [.sc .bool] R := by
  have hcall := law16_Same_call (a_0 := x) (b_1 := y) (R := R) (h := h)
  apply hcall
  unfold law16_Same
  refine newB_row ?_
  intro h3 s3 r3 k3
  refine newB_row ?_
  intro h4 s4 r4 k4
  simp only [add_mk]
  have K := k3.trans' k4
  have r3' := k4.row r3 (fun h => h)
  refine withJ.intro (fun (q : Bool) h' => q = true ∧ Nw h h') (by rintro q h' ⟨rfl, k⟩; exact hk h' k) ?_
  intro J hJ
  -- all but the slices is the same
  have key : ∃ (hs : List HP) (bd : List UInt8), x.1 = y.1 ∧ x.2.1 = y.2.1 ∧ x.2.2.1 = y.2.2.1 ∧ x.2.2.2.1 = y.2.2.2.1 ∧ x.2.2.2.2.2.2 = y.2.2.2.2.2.2 ∧ HdsAt h x.2.2.2.2.1.a x.2.2.2.2.1.len hs ∧ HdsAt h y.2.2.2.2.1.a y.2.2.2.2.1.len hs ∧ Rb h x.2.2.2.2.2.1.a x.2.2.2.2.2.1.len bd ∧ Rb h y.2.2.2.2.2.1.a y.2.2.2.2.2.1.len bd ∧ x.2.2.2.2.1.len ≤ 1000000000 := by
    rcases hx with ⟨rq, n, a, b, rfl, e, sm, o1, o2, _⟩ | ⟨f, rfl, e, hf⟩ | ⟨rfl, e⟩
    · obtain ⟨a2, b2, rfl, _, o3, o4, _⟩ := hy.ok e
      have H1 := SlR.hds o1.sl
      exact ⟨rq.hs, rq.body, rfl, rfl, rfl, rfl, rfl, H1, SlR.hds o3.sl, o2.rv, o4.rv, by have := H1.1; have := sm.1; show a.len ≤ _; omega⟩
    · rw [hy.bad e hf]
      exact ⟨[], [], rfl, rfl, rfl, rfl, rfl, hds_nil h, hds_nil h, rb_nil h, rb_nil h, by show 0 ≤ _; omega⟩
    · rw [hy.more e]
      exact ⟨[], [], rfl, rfl, rfl, rfl, rfl, hds_nil h, hds_nil h, rb_nil h, rb_nil h, by show 0 ≤ _; omega⟩
  obtain ⟨hs, bd, e1, e2, e3, e4, e5, H1, H2, B1, B2, hl⟩ := key
  obtain ⟨x0, x1, x2, x3, x4, x5, x6, x7, x8⟩ := x
  obtain ⟨y0, y1, y2, y3, y4, y5, y6, y7, y8⟩ := y
  simp only at e1 e2 e3 e4 e5 H1 H2 B1 B2 hl
  obtain ⟨rfl, rfl, rfl⟩ : x6 = y6 ∧ x7 = y7 ∧ x8 = y8 := by
    injection e5 with a b
    injection b with b c
    exact ⟨a, b, c⟩
  subst e1 e2 e3 e4
  refine ldI_row (o := 0) r3' rfl (ldI_row (o := 0) r4 rfl (cnd_t (by simp) ?_))
  refine ldI_row (o := 0 + 1) r3' rfl (ldI_row (o := 0 + 1) r4 rfl (cnd_t (by simp) ?_))
  refine ldS_row (o := 0 + 2) r3' rfl (ldS_row (o := 0 + 2 + 1) r3' rfl (ldL_row (o := 0 + 2 + 2) r3' rfl (ldL_row (o := 0 + 2 + 3) r3' rfl ?_)))
  refine ldS_row (o := 0 + 2) r4 rfl (ldS_row (o := 0 + 2 + 1) r4 rfl (ldL_row (o := 0 + 2 + 2) r4 rfl (ldL_row (o := 0 + 2 + 3) r4 rfl ?_)))
  refine same_spec (a1 := x4) (b1 := x5) (a2 := y4) (b2 := y5) (hs1 := hs) (hs2 := hs) (bd1 := bd) (bd2 := bd) (H1.keep0 K) (Rv.keep0 B1 K) (H2.keep0 K) (Rv.keep0 B2 K) hl ?_
  intro h5 k5
  refine cnd_t (decide_eq_true ⟨rfl, rfl, rfl, rfl⟩) ?_
  have R3 := k5.row r3' (fun h => h)
  have R4 := k5.row r4 (fun h => h)
  refine ldI_row (o := 0 + 6) R3 rfl (ldI_row (o := 0 + 6) R4 rfl (cnd_t (by simp) ?_))
  refine ldB_row (o := 0 + 7) R3 rfl (ldB_row (o := 0 + 7) R4 rfl (cnd_t (by simp) ?_))
  refine ldB_row (o := 0 + 8) R3 rfl (ldB_row (o := 0 + 8) R4 rfl (hJ _ _ ⟨by simp, K.trans' k5⟩))

theorem emp_own {h h' : Heap} {b : Nat} (r : Row h' b []) (hb : h.size ≤ b) : Own h h' 1 ⟨some ⟨b, 0, none⟩, 0, 0⟩ [] :=
  ⟨.inr ⟨b, 0, [], rfl, r, Nat.le_refl _, by simp, by simp, rfl⟩, fun x hx => by rw [blk_some] at hx; simp only at hx; omega⟩

theorem setAt {h : Heap} {n : Nat} {a : Option Addr} {l c : Nat} {vs : List Value} (hs : SlR h n a l c vs) {i : Int} (h0 : 0 ≤ i) (h1 : i < l) {v : Value} {K : Heap → Prop} (hn : 0 < n) (hv : v.oneCell' = true)
    (hk : ∀ h', SlR h' n a l c (vs.set (i.toNat * n) v) → Keep (blk a) h h' → K h') : idx a l i fun x => stC (x.add (i.toNat * n)) v h K := by
  refine SlR.idx hs h0 h1 fun x hx hsp => ?_
  subst hx
  have : i.toNat * n < l * n := Nat.mul_lt_mul_of_pos_right (by omega) hn
  exact SlR.set hs this hv (fun h' _ r k => hk h' r (k.mono (fun y _ e => blk_some.2 e.symm)))

theorem httpLent_spec {h : Heap} {x0 : Sl} {bs : List UInt8} (hg : MaxG h) (hb : Rb h x0.a x0.len bs) (hbl : x0.len ≤ 1000000000) {R : Bool → Heap → Prop} (hR : ∀ h', Nw h h' → R true h') :
    CallT Try.prog 6 [.slice x0.a x0.len x0.cap] h [.sc .bool] R := by
  have hcall := law16_HttpLent_call (x_0 := x0) (R := R) (h := h)
  apply hcall
  unfold law16_HttpLent
  have hlen := hb.len
  refine newB_row ?_
  intro h2 s2 r2 k2
  refine Rv.rd (Rv.keep0 hb k2) ?_
  refine (emp_own r2 (Nat.le_refl _)).app (new := bs.map byteV) (m := x0.len) k2 rfl (by rw [List.length_map]; omega) (fun v hv => by obtain ⟨x, _, rfl⟩ := List.mem_map.1 hv; rfl) (by show (2 * (0 + x0.len) + 1024) * 1 ≤ _; omega) ?_
  intro o3 c4 h5 own3 k5 _ _
  rw [List.nil_append] at own3
  refine own3.push k5 rfl rfl rfl (fun v hv => by simp only [List.mem_singleton] at hv; subst hv; rfl) (by show (2 * (0 + x0.len + 1) + 1024) * 1 ≤ _; omega) ?_
  intro o9 c10 h11 own k11 _ _
  have hown : bs.map byteV ++ [.int .u8 77] = (bs ++ [77]).map byteV := by simp [byteV]
  rw [hown] at own
  have rown : Rb h11 o9 (0 + x0.len + 1) (bs ++ [77]) := own.rv
  have ole := own.le
  have sub : ∀ {h'}, Rb h' o9 (0 + x0.len + 1) (bs ++ [77]) → ∀ {K : Option Addr → Nat → Nat → Prop}, (∀ a' c', Rb h' a' x0.len bs → K a' x0.len c') → lsl 1 o9 c10 0 (x0.len : Int) (c10 : Int) K := by
    intro h' hr K hK
    refine Rb.sub hr (Int.le_refl 0) (by omega) (by omega) (by show (x0.len : Int) ≤ c10; have : 0 + x0.len + 1 ≤ c10 := ole; omega) (Int.le_refl _) ?_
    intro a' ra _
    have e1 : ((x0.len : Int) - 0).toNat = x0.len := by omega
    rw [e1] at ra ⊢
    have e2 : ((bs ++ [77]).drop (0 : Int).toNat).take x0.len = bs := by
      show (bs ++ [77]).take x0.len = bs
      rw [hlen, List.take_left']
      rfl
    rw [e2] at ra
    exact hK a' _ ra
  refine sub rown ?_
  intro a13 c13 ra13
  refine parse_all (x0 := ⟨a13, x0.len, c13⟩) ra13 hbl (hg.nw k11) ?_
  intro s h15 st1 k15
  refine lay9_spec (t := 29) ?_
  intro h26 r26 k26
  have K26 : Nw h11 h26 := k15.trans' k26
  refine sub (Rv.keep0 rown K26) ?_
  intro a27 c27 ra27
  refine parse_all (x0 := ⟨a27, x0.len, c27⟩) ra27 hbl (hg.nw (k11.trans' K26)) ?_
  intro t h29 st2 k29
  refine lay9_spec (t := 29) ?_
  intro h40 r40 k40
  simp only [add_mk]
  have K40 : Nw h26 h40 := k29.trans' k40
  have R26 := K40.row r26 (fun h => h)
  have z11 := K26.size
  have z26 := k26.size
  have zr := r26.lt
  have z29 := k29.size
  have zr40 := r40.lt
  -- the headers and the body of the first
  have sl : ∃ vs ws, SlR h40 2 s.2.2.2.2.1.a s.2.2.2.2.1.len s.2.2.2.2.1.cap vs ∧ SlR h40 1 s.2.2.2.2.2.1.a s.2.2.2.2.2.1.len s.2.2.2.2.2.1.cap ws ∧ (∀ b, blk s.2.2.2.2.1.a b → h11.size ≤ b ∧ b < h15.size) ∧ (∀ b, blk s.2.2.2.2.2.1.a b → h11.size ≤ b ∧ b < h15.size) ∧ (∀ b, blk s.2.2.2.2.1.a b → ¬ blk s.2.2.2.2.2.1.a b) ∧ s.2.2.2.2.1.len ≤ 1000000000 ∧ s.2.2.2.2.2.1.len ≤ 1000000000 := by
    rcases st1 with ⟨rq, n, a, b, rfl, e, sm, o1, o2, d⟩ | ⟨f, rfl, e, hf⟩ | ⟨rfl, e⟩
    · exact ⟨_, _, ((o1.nw k26).nw K40).sl, ((o2.nw k26).nw K40).sl, fun b hb => ⟨o1.fresh b hb, o1.lt hb⟩, fun b hb => ⟨o2.fresh b hb, o2.lt hb⟩, d, by have := (SlR.hds o1.sl).1; have := sm.1; show a.len ≤ _; omega, by have := o2.len; rw [List.length_map] at this; have := requestF_body e; show b.len ≤ _; omega⟩
    · exact ⟨[], [], SlR.nil _ _, SlR.nil _ _, fun b hb => (by obtain ⟨x, e, _⟩ := hb; cases e), fun b hb => (by obtain ⟨x, e, _⟩ := hb; cases e), fun b hb => (by obtain ⟨x, e, _⟩ := hb; cases e), by show 0 ≤ _; omega, by show 0 ≤ _; omega⟩
    · exact ⟨[], [], SlR.nil _ _, SlR.nil _ _, fun b hb => (by obtain ⟨x, e, _⟩ := hb; cases e), fun b hb => (by obtain ⟨x, e, _⟩ := hb; cases e), fun b hb => (by obtain ⟨x, e, _⟩ := hb; cases e), by show 0 ≤ _; omega, by show 0 ≤ _; omega⟩
  obtain ⟨vs, ws, sa, sb, fa, fb, dis, la, lb⟩ := sl
  refine LoopT.intro (fun (i : Int) h' => 0 ≤ i ∧ i ≤ s.2.2.2.2.1.len ∧ (∃ vs, SlR h' 2 s.2.2.2.2.1.a s.2.2.2.2.1.len s.2.2.2.2.1.cap vs) ∧ Keep (blk s.2.2.2.2.1.a) h40 h') (fun i _ => (s.2.2.2.2.1.len - i).toNat) ⟨by omega, by omega, ⟨vs, sa⟩, .refl _ _⟩ ?_
  rintro i h43 ⟨p1, p2, ⟨vs', sa'⟩, k43⟩
  have R43 := k43.row R26 (fun hb => by have := fa _ hb; omega)
  unfold row9 at R43
  refine ldL_row (o := 0 + 2 + 2) R43 rfl ?_
  refine cnd_dec (fun hi => ?_) (fun _ => ?_)
  · refine ldL_row (o := 0 + 2 + 2) R43 rfl ?_
    refine SlR.idx sa' p1 hi fun x hx hsp => ?_
    rw [hx] at sa'
    have hi2 : i.toNat * 2 + 1 < s.2.2.2.2.1.len * 2 := by omega
    refine SlR.set sa' (i := i.toNat * 2) (by omega) rfl ?_
    intro h47 _ sa2 k47
    rw [add_add hsp]
    refine SlR.set sa2 (i := i.toNat * 2 + 1) hi2 rfl ?_
    intro h48 _ sa3 k48
    rw [w64_id (by omega) (by omega)]
    refine ⟨⟨by omega, by omega, ?_, (k43.trans k47 (fun y _ e => ?_)).trans k48 (fun y _ e => ?_)⟩, by omega⟩
    · rw [hx]; exact ⟨_, sa3⟩
    · rw [hx]; exact blk_some.2 e.symm
    · rw [hx]; exact blk_some.2 e.symm
  have sb1 : SlR h43 1 s.2.2.2.2.2.1.a s.2.2.2.2.2.1.len s.2.2.2.2.2.1.cap ws := sb.keep k43 (fun b hb hb2 => dis b hb2 hb)
  refine LoopT.intro (fun (j : Int) h' => 0 ≤ j ∧ j ≤ s.2.2.2.2.2.1.len ∧ (∃ ws, SlR h' 1 s.2.2.2.2.2.1.a s.2.2.2.2.2.1.len s.2.2.2.2.2.1.cap ws) ∧ Keep (blk s.2.2.2.2.2.1.a) h43 h') (fun j _ => (s.2.2.2.2.2.1.len - j).toNat) ⟨by omega, by omega, ⟨ws, sb1⟩, .refl _ _⟩ ?_
  rintro j h51 ⟨q1, q2, ⟨ws', sb'⟩, k51⟩
  have R51 := k51.row R43 (fun hb => by have := fb _ hb; omega)
  refine ldL_row (o := 0 + 2 + 3) R51 rfl ?_
  refine cnd_dec (fun hj => ?_) (fun _ => ?_)
  · refine ldL_row (o := 0 + 2 + 3) R51 rfl ?_
    refine setAt sb' q1 hj (by omega) rfl ?_
    intro h55 sb2 k55
    rw [w64_id (by omega) (by omega)]
    exact ⟨⟨by omega, by omega, ⟨_, sb2⟩, k51.trans' k55⟩, by omega⟩
  -- the bytes are as they were
  have kall : Keep (fun y => h11.size ≤ y ∧ y < h15.size) h40 h51 := (k43.mono (fun y _ hy => fa y hy)).trans k51 (fun y _ hy => fb y hy)
  have olt : ∀ b, blk o9 b → b < h11.size := fun b hb => own.lt hb
  have own51 : Own h h51 1 ⟨o9, 0 + x0.len + 1, c10⟩ ((bs ++ [77]).map byteV) := ((own.nw K26).nw K40).keep kall (fun b hb e => by have := olt b hb; omega)
  have rown51 : Rb h51 o9 (0 + x0.len + 1) (bs ++ [77]) := own51.rv
  have z0 := k11.size
  have K51 : Nw h h51 := ((k11.trans' K26).trans' K40).trans kall (fun y hy e => by omega)
  have hb51 : Rb h51 x0.a x0.len bs := Rv.keep0 hb K51
  have st51 : StepR h26 h51 bs t := (st2.nw k40).keep kall (fun b hb hb2 e => by omega)
  have R40 := kall.row r40 (fun e => by omega)
  refine withJ.intro (fun _ h' => h' = h51) ?_ ?_
  · rintro _ h' rfl
    refine LoopT.intro (fun (i : Int) h61 => 0 ≤ i ∧ i ≤ x0.len ∧ (∃ ws, SlR h61 1 o9 (0 + x0.len + 1) c10 ws) ∧ Keep (blk o9) h' h61) (fun i _ => (x0.len - i).toNat) ⟨by omega, by omega, ⟨_, own51.sl⟩, .refl _ _⟩ ?_
    rintro i h61 ⟨p1, p2, ⟨vs2, so⟩, k61⟩
    refine cnd_dec (fun hi => ?_) (fun _ => ?_)
    · refine setAt so p1 (by omega) (by omega) rfl ?_
      intro h63 so2 k63
      rw [w64_id (by omega) (by omega)]
      exact ⟨⟨by omega, by omega, ⟨_, so2⟩, k61.trans' k63⟩, by omega⟩
    have K61 : Nw h h61 := K51.trans k61 (fun y hy e => by have := own.fresh y e; omega)
    have st61 : StepR h26 h61 bs t := st51.keep k61 (fun b hb hb2 e => by have := olt b e; omega)
    have R61 := k61.row R40 (fun hb => by have := olt _ hb; omega)
    refine withJ.intro (fun (q : Bool) h' => q = true ∧ Nw h h') (by rintro q h' ⟨rfl, k⟩; exact hR h' k) ?_
    intro J hJ
    have R61' := R61
    unfold row9 at R61'
    refine ldI_row (o := 0) R61' rfl (ldI_row (o := 0 + 1) R61' rfl (ldS_row (o := 0 + 2) R61' rfl (ldS_row (o := 0 + 3) R61' rfl (ldL_row (o := 0 + 4) R61' rfl (ldL_row (o := 0 + 5) R61' rfl (ldI_row (o := 0 + 6) R61' rfl (ldB_row (o := 0 + 7) R61' rfl (ldB_row (o := 0 + 8) R61' rfl ?_))))))))
    refine parse16_all (Rv.keep0 hb K61) (by omega) ?_
    intro y h77 st3 k77
    have R77 := k77.row R61' (fun h => h)
    refine ⟨ldI_row (o := 0) R77 rfl (ldI_row (o := 0 + 1) R77 rfl (ldS_row (o := 0 + 2) R77 rfl (ldS_row (o := 0 + 3) R77 rfl (ldL_row (o := 0 + 4) R77 rfl (ldL_row (o := 0 + 5) R77 rfl (ldI_row (o := 0 + 6) R77 rfl (ldB_row (o := 0 + 7) R77 rfl (ldB_row (o := 0 + 8) R77 rfl rfl)))))))), ?_⟩
    have hcall := stepSame_spec (st61.nw k77) st3 (R := fun (r87 : Bool) h88 => cnd r87 (CallT Try.prog law16_awake_no [] h88 [.sc (.bool)] fun (r89 : Bool) h90 => J r89 h90) (J false h88)) (fun h88 k88 => cnd_t rfl (awake_spec (hg.nw ((K61.trans' k77).trans' k88)) (fun h90 k90 => hJ _ _ ⟨rfl, ((K61.trans' k77).trans' k88).trans' k90⟩)))
    exact hcall
  · intro J hJ
    refine withJ.intro (fun (q : Bool) h' => h' = h51 ∧ q = false) ?_ ?_
    · rintro q h' ⟨rfl, rfl⟩
      exact cnd_f rfl (hJ _ _ rfl)
    · intro J2 hJ2
      refine sub rown51 ?_
      intro a94 c94 ra94
      refine Rb.str ra94 ?_
      refine Rb.str hb51 ?_
      rw [seq_self]
      refine cnd_f rfl ?_
      refine rown51.at (by omega) (by omega) ?_
      intro b hb
      refine hJ2 _ _ ⟨rfl, ?_⟩
      rw [Int.toNat_natCast, hlen, List.getElem?_append_right (Nat.le_refl _), Nat.sub_self] at hb
      injection hb with hb
      rw [← hb]
      rfl
end Go.Proofs.Ytjpmjhnjdnbopaa
