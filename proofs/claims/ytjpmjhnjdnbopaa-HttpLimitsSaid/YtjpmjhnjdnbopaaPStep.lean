/- What Parse tells, laid down; two requests compared; awake. -/
import Derived.Test.YtjpmjhnjdnbopaaPParseF
import Derived.Test.YtjpmjhnjdnbopaaGLaw
namespace Go.Proofs.Ytjpmjhnjdnbopaa
open Go D
set_option linter.unusedVariables false
set_option linter.unusedSimpArgs false

/-- what Parse tells of bytes -/
def StepR (h h' : Heap) (bs : List UInt8) (x : ST) : Prop :=
  (∃ rq n a b, x = stOk rq n a b ∧ requestF bs = .ok (rq, n) ∧ Small rq.hs ∧ Own h h' 2 a (hdV rq.hs) ∧ Own h h' 1 b (rq.body.map byteV) ∧ (∀ y, blk a.a y → ¬ blk b.a y)) ∨
  (∃ f, x = stBad f ∧ requestF bs = .error f ∧ f ≠ 0) ∨ (x = stMore ∧ requestF bs = .error 0)
theorem StepR.keep {h h' h'' : Heap} {S : Nat → Prop} {bs : List UInt8} {x : ST} (hs : StepR h h' bs x) (hk : Keep S h' h'') (hn : ∀ b, h.size ≤ b → b < h'.size → ¬ S b) : StepR h h'' bs x := by
  rcases hs with ⟨rq, n, a, b, e1, e2, e3, o1, o2, d⟩ | hs | hs
  · exact .inl ⟨rq, n, a, b, e1, e2, e3, o1.keep hk (fun y hy => hn y (o1.fresh y hy) (o1.lt hy)), o2.keep hk (fun y hy => hn y (o2.fresh y hy) (o2.lt hy)), d⟩
  · exact .inr (.inl hs)
  · exact .inr (.inr hs)
theorem StepR.nw {h h' h'' : Heap} {bs : List UInt8} {x : ST} (hs : StepR h h' bs x) (hk : Nw h' h'') : StepR h h'' bs x := hs.keep hk (fun _ _ _ h => h)

theorem parse_all {h : Heap} {x0 : Sl} {bs : List UInt8} (hb : Rb h x0.a x0.len bs) (hbl : x0.len ≤ 1000000000) (hg : MaxG h) {R : ST → Heap → Prop} (hk : ∀ x h', StepR h h' bs x → Nw h h' → R x h') :
    CallT Try.prog http_Parse_no [.slice x0.a x0.len x0.cap] h [.agg [.int .i64, .int .i64, .str, .str, .sl, .sl, .int .i64, .bool, .bool]] R :=
  parse_spec hb hbl hg (fun rq n a b h' e s o1 o2 d k => hk _ h' (.inl ⟨rq, n, a, b, rfl, e, s, o1, o2, d⟩) k) (fun f h' e e2 k => hk _ h' (.inr (.inl ⟨f, rfl, e, e2⟩)) k) (fun h' e k => hk _ h' (.inr (.inr ⟨rfl, e⟩)) k)

def z9 : List Value := [.int .i64 0, .int .i64 0, .string (⟨#[]⟩ : ByteArray), .string (⟨#[]⟩ : ByteArray), .slice none 0 0, .slice none 0 0, .int .i64 0, .bool false, .bool false]
/-- a step laid into a row of its own -/
def lay9 (t : TypeId) (x : ST) (K : Addr → Heap → Prop) (h : Heap) : Prop :=
  newB [.int .i64 0, .int .i64 0, .string (⟨#[]⟩ : ByteArray), .string (⟨#[]⟩ : ByteArray), .slice none 0 0, .slice none 0 0, .int .i64 0, .bool false, .bool false] t h fun a6 h7 =>
  stC a6 (.int .i64 x.1) h7 fun h8 =>
  stC (a6.add 1) (.int .i64 x.2.1) h8 fun h9 =>
  stC (a6.add 2) (.string x.2.2.1) h9 fun h10 =>
  stC (a6.add 3) (.string x.2.2.2.1) h10 fun h11 =>
  stC (a6.add 4) (.slice x.2.2.2.2.1.a x.2.2.2.2.1.len x.2.2.2.2.1.cap) h11 fun h12 =>
  stC (a6.add 5) (.slice x.2.2.2.2.2.1.a x.2.2.2.2.2.1.len x.2.2.2.2.2.1.cap) h12 fun h13 =>
  stC (a6.add 6) (.int .i64 x.2.2.2.2.2.2.1) h13 fun h14 =>
  stC (a6.add 7) (.bool x.2.2.2.2.2.2.2.1) h14 fun h15 =>
  stC (a6.add 8) (.bool x.2.2.2.2.2.2.2.2) h15 fun h16 => K a6 h16
theorem lay9_spec {t : TypeId} {x : ST} {h : Heap} {K : Addr → Heap → Prop} (hk : ∀ h', Row h' h.size (row9 x) → Nw h h' → K ⟨h.size, 0, none⟩ h') : lay9 t x K h := by
  unfold lay9
  refine newB_row ?_
  intro h1 s1 r1 k1
  simp only [add_mk]
  exact set9_spec (x := x) (y := (0, 0, ⟨#[]⟩, ⟨#[]⟩, ⟨none, 0, 0⟩, ⟨none, 0, 0⟩, 0, false, false)) r1 (fun h' r' k' => hk h' r' (Nw.st k1 k' (Nat.le_refl _)))

/-! ### two requests -/
theorem same_spec {h : Heap} {m1 t1 m2 t2 : ByteArray} {a1 b1 a2 b2 : Sl} {hs1 hs2 : List HP} {bd1 bd2 : List UInt8} (ha1 : HdsAt h a1.a a1.len hs1) (hb1 : Rb h b1.a b1.len bd1) (ha2 : HdsAt h a2.a a2.len hs2) (hb2 : Rb h b2.a b2.len bd2) (hl : a1.len ≤ 1000000000)
    {R : Bool → Heap → Prop} (hk : ∀ h', Nw h h' → R (decide (m1 = m2 ∧ t1 = t2 ∧ hs1 = hs2 ∧ bd1 = bd2)) h') :
    CallT Try.prog ref18_Same_no [.agg #[.string m1, .string t1, .slice a1.a a1.len a1.cap, .slice b1.a b1.len b1.cap], .agg #[.string m2, .string t2, .slice a2.a a2.len a2.cap, .slice b2.a b2.len b2.cap]] h [.sc .bool] R := by
  have hcall := ref18_Same_call (a_0 := (m1, t1, a1, b1)) (b_1 := (m2, t2, a2, b2)) (R := R) (h := h)
  apply hcall
  unfold ref18_Same
  have l1 := ha1.1
  have l2 := ha2.1
  refine newB_row ?_
  intro h1 s1 r1 k1
  refine newB_row ?_
  intro h2 s2 r2 k2
  simp only [add_mk]
  have K2 := k1.trans' k2
  have r1' := k2.row r1 (fun h => h)
  refine withJ.intro (fun _ h' => h' = h2 ∧ m1 = m2 ∧ t1 = t2 ∧ hs1.length = hs2.length ∧ bd1 = bd2) ?_ ?_
  · rintro _ h' ⟨rfl, e1, e2, e3, e4⟩
    have hk' := hk h' K2
    refine LoopT.intro (fun (i : Int) h3 => h3 = h' ∧ 0 ≤ i ∧ i ≤ hs1.length ∧ hs1.take i.toNat = hs2.take i.toNat) (fun i _ => (hs1.length - i).toNat) ⟨rfl, by omega, by omega, by simp⟩ ?_
    rintro i h3 ⟨rfl, p1, p2, p3⟩
    refine ldL_row (o := 0 + 2) r1' rfl ?_
    show cnd (decide (i < (a1.len : Int))) _ _
    refine cnd_dec (fun hi => ?_) (fun hi => ?_)
    · refine ldL_row (o := 0 + 2) r1' rfl ?_
      have i1 : i.toNat < hs1.length := by omega
      have i2 : i.toNat < hs2.length := by omega
      have g1 : hs1[i.toNat]? = some hs1[i.toNat] := List.getElem?_eq_getElem i1
      have g2 : hs2[i.toNat]? = some hs2[i.toNat] := List.getElem?_eq_getElem i2
      generalize hs1[i.toNat] = p at g1
      generalize hs2[i.toNat] = q at g2
      obtain ⟨x, u1, u2, u3⟩ := (ha1.keep0 K2).2 _ _ g1
      obtain ⟨y, w1, w2, w3⟩ := (ha2.keep0 K2).2 _ _ g2
      refine ⟨x, u1, p1, hi, ldS_at u2 (ldS_at u3 ?_)⟩
      refine ldL_row (o := 0 + 2) r2 rfl ?_
      refine ⟨y, w1, p1, by show i < (a2.len : Int); omega, ldS_at w2 (ldS_at w3 ?_)⟩
      rw [seq_dec, seq_dec]
      refine cnd_of (fun e => ?_) (fun e => ?_)
      · rw [decide_eq_false] at hk'
        · exact hk'
        · rintro ⟨_, _, e5, _⟩
          subst e5
          rw [g1] at g2
          injection g2 with g2
          subst g2
          simp at e
      · have hpq : p = q := by
          simp at e
          exact Prod.ext e.1 e.2
        rw [w64_id (by omega) (by omega)]
        refine ⟨⟨rfl, by omega, by omega, ?_⟩, by omega⟩
        rw [show (i + 1).toNat = i.toNat + 1 by omega, List.take_add_one, List.take_add_one, g1, g2, p3, hpq]
    · rw [List.take_of_length_le (by omega), List.take_of_length_le (by omega)] at p3
      rw [decide_eq_true ⟨e1, e2, p3, e4⟩] at hk'
      exact hk'
  · intro J hJ
    have no : ¬ (m1 = m2 ∧ t1 = t2 ∧ hs1 = hs2 ∧ bd1 = bd2) → R false h2 := fun hn => by
      have := hk h2 K2
      rw [decide_eq_false hn] at this
      exact this
    refine withJ.intro (fun (q : Bool) h' => h' = h2 ∧ (q = true → ¬ (m1 = m2 ∧ t1 = t2 ∧ hs1 = hs2 ∧ bd1 = bd2)) ∧ (q = false → m1 = m2 ∧ t1 = t2 ∧ hs1.length = hs2.length ∧ bd1 = bd2)) ?_ ?_
    · rintro q h' ⟨rfl, hy, hn⟩
      exact cnd_of (fun e => no (hy e)) (fun e => hJ _ _ ⟨rfl, hn e⟩)
    · intro J2 hJ2
      refine ldS_row (o := 0) r1' rfl (ldS_row (o := 0) r2 rfl ?_)
      show cnd (!seq m1 m2) _ _
      rw [seq_dec]
      refine cnd_of (fun e => hJ2 _ _ ⟨rfl, fun _ hh => ?_, fun e => by cases e⟩) (fun e1 => ?_)
      · simp at e; exact e hh.1
      refine ldS_row (o := 0 + 1) r1' rfl (ldS_row (o := 0 + 1) r2 rfl ?_)
      show cnd (!seq t1 t2) _ _
      rw [seq_dec]
      refine cnd_of (fun e => hJ2 _ _ ⟨rfl, fun _ hh => ?_, fun e => by cases e⟩) (fun e2 => ?_)
      · simp at e; exact e hh.2.1
      refine ldL_row (o := 0 + 2) r1' rfl (ldL_row (o := 0 + 2) r2 rfl ?_)
      show cnd ((a1.len : Int) != (a2.len : Int)) _ _
      refine cnd_of (fun e => hJ2 _ _ ⟨rfl, fun _ hh => ?_, fun e => by cases e⟩) (fun e3 => ?_)
      · have := hh.2.2.1
        subst this
        rw [l1, l2] at e
        simp at e
      refine ldL_row (o := 0 + 3) r1' rfl (Rb.str (hb1.keep0 K2) ?_)
      refine ldL_row (o := 0 + 3) r2 rfl (Rb.str (hb2.keep0 K2) ?_)
      refine hJ2 _ _ ⟨rfl, fun e hh => ?_, fun e => ?_⟩
      · rw [hh.2.2.2, seq_self] at e
        cases e
      · simp at e1 e2 e3
        refine ⟨e1, e2, by omega, ?_⟩
        have e' : seq (⟨bd1.toArray⟩ : ByteArray) ⟨bd2.toArray⟩ = true := by simpa using e
        exact ofL_inj (seq_iff.1 e')

/-! ### awake -/
def aw1 : List UInt8 := [71, 69, 84, 32, 47, 32, 72, 84, 84, 80, 47, 49, 46, 49, 13, 10, 72, 111, 115, 116, 58, 32, 97, 13, 10, 13, 10, 109, 111, 114, 101]
def aw2 : List UInt8 := [71, 69, 84, 32, 47, 32, 72, 84, 84, 80, 47, 49, 46, 48, 13, 10]
def aw3 : List UInt8 := [71, 69]
theorem aw1_is : requestF aw1 = .ok (⟨[71, 69, 84], [47], [(⟨#[104, 111, 115, 116]⟩, ⟨#[97]⟩)], []⟩, 27) := by kernel_rfl
theorem aw2_is : requestF aw2 = .error 340 := by kernel_rfl
theorem aw3_is : requestF aw3 = .error 0 := by kernel_rfl

theorem StepR.ok {h h' : Heap} {bs : List UInt8} {x : ST} {rq : Rq} {n : Nat} (hs : StepR h h' bs x) (e : requestF bs = .ok (rq, n)) : ∃ a b, x = stOk rq n a b ∧ Small rq.hs ∧ Own h h' 2 a (hdV rq.hs) ∧ Own h h' 1 b (rq.body.map byteV) ∧ (∀ y, blk a.a y → ¬ blk b.a y) := by
  rcases hs with ⟨rq', n', a, b, e1, e2, e3⟩ | ⟨f, e1, e2, e3⟩ | ⟨e1, e2⟩
  · rw [e] at e2
    injection e2 with e2
    injection e2 with e2 e4
    subst e2 e4
    exact ⟨a, b, e1, e3⟩
  · rw [e] at e2; cases e2
  · rw [e] at e2; cases e2
theorem StepR.bad {h h' : Heap} {bs : List UInt8} {x : ST} {f : Int} (hs : StepR h h' bs x) (e : requestF bs = .error f) (hf : f ≠ 0) : x = stBad f := by
  rcases hs with ⟨rq', n', a, b, e1, e2, e3⟩ | ⟨f', e1, e2, e3⟩ | ⟨e1, e2⟩
  · rw [e] at e2; cases e2
  · rw [e] at e2
    injection e2 with e2
    rw [e2]; exact e1
  · rw [e] at e2
    injection e2 with e2
    exact absurd e2 hf
theorem StepR.more {h h' : Heap} {bs : List UInt8} {x : ST} (hs : StepR h h' bs x) (e : requestF bs = .error 0) : x = stMore := by
  rcases hs with ⟨rq', n', a, b, e1, e2, e3⟩ | ⟨f', e1, e2, e3⟩ | ⟨e1, e2⟩
  · rw [e] at e2; cases e2
  · rw [e] at e2
    injection e2 with e2
    exact absurd e2.symm e3
  · exact e1

theorem row_rb {h : Heap} {b n : Nat} {bs : List UInt8} (r : Row h b (bs.map byteV)) (hn : n = bs.length) : Rb h (some ⟨b, 0, none⟩) n bs := by
  subst hn
  refine SlR.rv (c := bs.length) (.inr ⟨b, 0, _, rfl, r, Nat.le_refl _, by simp, by simp, ?_⟩)
  rw [List.drop_zero, Nat.mul_one, List.take_of_length_le (by simp)]

theorem awake_spec {h : Heap} (hg : MaxG h) {R : Bool → Heap → Prop} (hR : ∀ h', Nw h h' → R true h') : CallT Try.prog law16_awake_no [] h [.sc .bool] R := by
  apply law16_awake_call
  unfold law16_awake
  refine lit_row ?_
  intro h1 s1 r1 k1
  refine parse_all (x0 := ⟨some ⟨h.size, 0, none⟩, 31, 31⟩) (bs := aw1) (row_rb r1 rfl) (by show 31 ≤ _; omega) (hg.nw k1) ?_
  intro x1 h2 st1 k2
  refine lay9_spec (t := 29) ?_
  intro h3 r3 k3
  refine lit_row ?_
  intro h4 s4 r4 k4
  have K4 : Nw h h4 := ((k1.trans' k2).trans' k3).trans' k4
  refine parse_all (x0 := ⟨some ⟨h3.size, 0, none⟩, 16, 16⟩) (bs := aw2) (row_rb r4 rfl) (by show 16 ≤ _; omega) (hg.nw K4) ?_
  intro x2 h5 st2 k5
  refine lay9_spec (t := 29) ?_
  intro h6 r6 k6
  refine lit_row ?_
  intro h7 s7 r7 k7
  have K7 : Nw h h7 := ((K4.trans' k5).trans' k6).trans' k7
  refine parse_all (x0 := ⟨some ⟨h6.size, 0, none⟩, 2, 2⟩) (bs := aw3) (row_rb r7 rfl) (by show 2 ≤ _; omega) (hg.nw K7) ?_
  intro x3 h8 st3 k8
  refine lay9_spec (t := 29) ?_
  intro h9 r9 k9
  obtain ⟨a, b, rfl, _, ow, _⟩ := st1.ok aw1_is
  have al := ow.len
  rw [st2.bad aw2_is (by decide)] at r6
  rw [st3.more aw3_is] at r9
  have k39 : Nw h3 h9 := ((((k4.trans' k5).trans' k6).trans' k7).trans' k8).trans' k9
  have k69 : Nw h6 h9 := (k7.trans' k8).trans' k9
  have R3 := k39.row r3 (fun h => h)
  have R6 := k69.row r6 (fun h => h)
  simp only [add_mk]
  unfold row9 at R3 R6 r9
  refine withJ.intro (fun (q : Bool) h' => q = true ∧ h' = h9) (by rintro q h' ⟨rfl, rfl⟩; exact hR _ ((K7.trans' k8).trans' k9)) ?_
  intro J hJ
  refine ldI_row (o := 0) R3 rfl (cnd_t rfl ?_)
  refine ldI_row (o := 0 + 1) R3 rfl (cnd_t rfl ?_)
  refine ldS_row (o := 0 + 2 + 1) R3 rfl (cnd_t (by rw [seq_bl]; rfl) ?_)
  refine ldL_row (o := 0 + 2 + 2) R3 rfl (cnd_t ?_ ?_)
  · show ((a.len : Int) == 1) = true
    have : a.len = 1 := by simp [hdV] at al; omega
    rw [this]; rfl
  refine ldI_row (o := 0) R6 rfl (cnd_t rfl ?_)
  refine ldI_row (o := 0 + 6) R6 rfl (cnd_t rfl ?_)
  refine ldI_row (o := 0) r9 rfl (hJ _ _ ⟨rfl, rfl⟩)
end Go.Proofs.Ytjpmjhnjdnbopaa
