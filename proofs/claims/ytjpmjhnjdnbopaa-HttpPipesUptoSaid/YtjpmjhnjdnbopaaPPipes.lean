/- HttpPipes. -/
import Derived.Test.YtjpmjhnjdnbopaaPPrint
namespace Go.Proofs.Ytjpmjhnjdnbopaa
open Go D
set_option linter.unusedVariables false
set_option linter.unusedSimpArgs false

/-- requests that came in -/
def ReqsAt (h : Heap) (a : Option Addr) (l : Nat) : Prop := ∀ i : Nat, i < l → ∃ (x : Addr) (m t : ByteArray) (hl bo : Sl) (hs : List HP) (body : List UInt8), a = some x ∧ cellH h (x.add (i * 4)) = some (.string m) ∧ cellH h ((x.add (i * 4)).add 1) = some (.string t) ∧ cellH h ((x.add (i * 4)).add 2) = some (.slice hl.a hl.len hl.cap) ∧ cellH h ((x.add (i * 4)).add 3) = some (.slice bo.a bo.len bo.cap) ∧ ReqA h 1048576 m t hl bo hs body

theorem reqs_of {h : Heap} {a : Option Addr} {l c n : Nat} (hn : n ≤ 1048576) (hs : InSl 4 reqRP h n [.slice a l c]) : ReqsAt h a l := by
  rcases hs with h1 | ⟨x, l', c', h1, h2, h3, h4, h5⟩
  · injection h1 with h1
    injection h1 with h1 h2 h3
    subst h2
    intro i hi
    omega
  · injection h1 with h1
    injection h1 with e1 e2 e3
    subst e1 e2 e3
    intro i hi
    obtain ⟨r, b, g1, gb, g2, g3⟩ := h5 i (by omega)
    obtain ⟨m, t, hl, bo, hds, body, rfl, ra⟩ := req_of g3
    have w0 := g2 0 (by omega)
    have w1 := g2 1 (by omega)
    have w2 := g2 2 (by omega)
    have w3 := g2 3 (by omega)
    rw [add_zero] at w0
    exact ⟨x, m, t, hl, bo, hds, body, rfl, w0, w1, w2, w3, ra.hd, ra.hc, ra.rb, ra.bc, by have := ra.tot; omega⟩

/-- a request that was read: its texts, and where its lists lie -/
structure Rk where
  rq : Rq
  a : Sl
  b : Sl
  bs : List UInt8
def rkV (ks : List Rk) : List Value := ks.flatMap fun k => [.string (ofL k.rq.m), .string (ofL k.rq.t), .slice k.a.a k.a.len k.a.cap, .slice k.b.a k.b.len k.b.cap]
theorem rkV_len : ∀ ks : List Rk, (rkV ks).length = ks.length * 4
  | [] => rfl
  | k :: r => by
    have : rkV (k :: r) = .string (ofL k.rq.m) :: .string (ofL k.rq.t) :: .slice k.a.a k.a.len k.a.cap :: .slice k.b.a k.b.len k.b.cap :: rkV r := rfl
    rw [this]
    simp [rkV_len r]; omega
theorem rkV_get : ∀ {ks : List Rk} {i : Nat} {k : Rk}, ks[i]? = some k → (rkV ks)[i * 4]? = some (.string (ofL k.rq.m)) ∧ (rkV ks)[i * 4 + 1]? = some (.string (ofL k.rq.t)) ∧ (rkV ks)[i * 4 + 2]? = some (.slice k.a.a k.a.len k.a.cap) ∧ (rkV ks)[i * 4 + 3]? = some (.slice k.b.a k.b.len k.b.cap)
  | q :: r, 0, k, h => by
    simp at h
    subst h
    exact ⟨rfl, rfl, rfl, rfl⟩
  | q :: r, i + 1, k, h => by
    have e : rkV (q :: r) = .string (ofL q.rq.m) :: .string (ofL q.rq.t) :: .slice q.a.a q.a.len q.a.cap :: .slice q.b.a q.b.len q.b.cap :: rkV r := rfl
    obtain ⟨g0, g1, g2, g3⟩ := rkV_get (ks := r) (i := i) (k := k) (by simpa using h)
    rw [e, show (i + 1) * 4 = i * 4 + 4 by omega]
    exact ⟨g0, g1, g2, g3⟩
/-- it is as it was read -/
structure RkAt (h0 h : Heap) (k : Rk) : Prop where
  o1 : Own h0 h 2 k.a (hdV k.rq.hs)
  o2 : Own h0 h 1 k.b (k.rq.body.map byteV)
  sm : Small k.rq.hs
  rd : requestF k.bs = .ok (k.rq, k.bs.length)
  len : k.bs.length < 5000
def allBs (ks : List Rk) : List UInt8 := ks.flatMap fun k => k.bs
theorem allBs_len : ∀ {ks : List Rk}, (∀ k ∈ ks, k.bs.length < 5000) → (allBs ks).length ≤ ks.length * 5000
  | [], _ => by simp [allBs]
  | k :: r, h => by
    have h1 := h k (by simp)
    have h2 := allBs_len (ks := r) (fun x hx => h x (by simp [hx]))
    have : allBs (k :: r) = k.bs ++ allBs r := rfl
    rw [this, List.length_append, List.length_cons]; omega

theorem nil_more : requestF [] = .error 0 := by kernel_rfl

/-- the second loop: the requests are read one by one -/
def pipesL (x_ : Sl) (R : Bool → Heap → Prop) (s11 : Sl) (h3 : Heap) : Prop :=
  LoopT (σ := Sl × Int) (fun X50 s49 h51 =>
  cnd (decide (s49.2 < (x_.len : Int))) (
  withJ (σ := Sl) (fun s52 h54 =>
  X50 (s52, (w64 (s49.2 + 1))) h54) (fun J53 =>
  CallT Try.prog http_Parse_no [.slice s49.1.a s49.1.len s49.1.cap] h51 [.agg [.int .i64, .int .i64, .str, .str, .sl, .sl, .int .i64, .bool, .bool]] fun (r55 : (Int × Int × ByteArray × ByteArray × Sl × Sl × Int × Bool × Bool)) h56 =>
  lay9 29 r55 (fun a57 h67 =>
  withJ (σ := Unit) (fun s68 h70 =>
  ldI .i64 (a57.add 1) h70 fun n71 =>
  lsl 1 s49.1.a s49.1.cap n71 (s49.1.len : Int) (s49.1.cap : Int) fun o72 l72 c72 =>
  J53 (⟨o72, l72, c72⟩ : Sl) h70) (fun J69 =>
  withJ (σ := Bool) (fun s73 h75 =>
  cnd s73 (
  R false h75) (
  J69 () h75)) (fun J74 =>
  ldI .i64 a57 h67 fun n76 =>
  cnd (n76 != 2) (
  J74 true h67) (
  ldS (a57.add 2) h67 fun s77 =>
  ldS ((a57.add 2).add 1) h67 fun s78 =>
  ldL ((a57.add 2).add 2) h67 fun o79 l79 c79 =>
  ldL ((a57.add 2).add 3) h67 fun o80 l80 c80 =>
  idx x_.a x_.len s49.2 fun a81 =>
  ldS (a81.add (s49.2.toNat * 4)) h67 fun s82 =>
  ldS ((a81.add (s49.2.toNat * 4)).add 1) h67 fun s83 =>
  ldL ((a81.add (s49.2.toNat * 4)).add 2) h67 fun o84 l84 c84 =>
  ldL ((a81.add (s49.2.toNat * 4)).add 3) h67 fun o85 l85 c85 =>
  CallT Try.prog ref18_Same_no [.agg #[.string s77, .string s78, .slice o79 l79 c79, .slice o80 l80 c80], .agg #[.string s82, .string s83, .slice o84 l84 c84, .slice o85 l85 c85]] h67 [.sc (.bool)] fun (r86 : Bool) h87 =>
  cnd (!r86) (
  J74 true h87) (
  ldI .i64 (a57.add 1) h87 fun n88 =>
  cnd (decide (n88 < 1)) (
  J74 true h87) (
  ldI .i64 (a57.add 1) h87 fun n89 =>
  J74 (decide (n89 > (s49.1.len : Int))) h87)))))) h56)) (
  withJ (σ := Bool) (fun s90 h92 =>
  R s90 h92) (fun J91 =>
  cnd ((s49.1.len : Int) == 0) (
  CallT Try.prog http_Parse_no [.slice none 0 0] h51 [.agg [.int .i64, .int .i64, .str, .str, .sl, .sl, .int .i64, .bool, .bool]] fun (r93 : (Int × Int × ByteArray × ByteArray × Sl × Sl × Int × Bool × Bool)) h94 =>
  cnd (r93.1 == 1) (
  CallT Try.prog law16_awake_no [] h94 [.sc (.bool)] fun (r95 : Bool) h96 =>
  J91 r95 h96) (
  J91 false h94)) (
  J91 false h51)))) (s11, 0) h3

theorem pipesL_spec {h0 h : Heap} {x s : Sl} {ks : List Rk} (hg : MaxG h0) (hn : Nw h0 h) (ho : Own h0 h 4 x (rkV ks)) (ha : Own h0 h 1 s ((allBs ks).map byteV)) (hk : ∀ k ∈ ks, RkAt h0 h k) (hl : ks.length ≤ 20) {R : Bool → Heap → Prop} (hR : ∀ h', Nw h0 h' → R true h') : pipesL x R s h := by
  unfold pipesL
  have xl := ho.len
  rw [rkV_len] at xl
  have hal := allBs_len (fun k hk' => (hk k hk').len)
  refine LoopT.intro (fun (t : Sl × Int) h' => 0 ≤ t.2 ∧ t.2 ≤ x.len ∧ Rb h' t.1.a t.1.len (allBs (ks.drop t.2.toNat)) ∧ t.1.len ≤ t.1.cap ∧ Nw h h') (fun t _ => (x.len - t.2).toNat) ⟨by simp, by simp, ha.rv, ha.le, .refl _ _⟩ ?_
  rintro ⟨s', i⟩ h2 ⟨p1, p2, p3, p4, k2⟩
  replace p1 : 0 ≤ i := p1
  replace p2 : i ≤ x.len := p2
  replace p3 : Rb h2 s'.a s'.len (allBs (ks.drop i.toNat)) := p3
  replace p4 : s'.len ≤ s'.cap := p4
  have sl := p3.len
  have hdl := allBs_len (ks := ks.drop i.toNat) (fun k hk' => (hk k (List.mem_of_mem_drop hk')).len)
  rw [List.length_drop] at hdl
  have N2 := hn.trans' k2
  refine cnd_dec (fun hi => ?_) (fun hi => ?_)
  · replace hi : i < (x.len : Int) := hi
    have hil : i.toNat < ks.length := by omega
    have hgk : ks[i.toNat]? = some ks[i.toNat] := List.getElem?_eq_getElem hil
    have hdr : ks.drop i.toNat = ks[i.toNat] :: ks.drop (i.toNat + 1) := List.drop_eq_getElem_cons hil
    generalize ks[i.toNat] = k at hgk hdr
    have hkk := hk k (List.mem_of_getElem? hgk)
    have hall : allBs (ks.drop i.toNat) = k.bs ++ allBs (ks.drop (i.toNat + 1)) := by rw [hdr]; rfl
    have hreq := (requestF_app (a := k.bs) (b := allBs (ks.drop (i.toNat + 1)))).1 _ hkk.rd
    rw [← hall] at hreq
    refine withJ.intro (fun (s2 : Sl) h' => Rb h' s2.a s2.len (allBs (ks.drop (i.toNat + 1))) ∧ s2.len ≤ s2.cap ∧ Nw h h') ?_ ?_
    · rintro s2 h' ⟨q1, q2, q3⟩
      show (0 ≤ w64 (i + 1) ∧ w64 (i + 1) ≤ x.len ∧ Rb h' s2.a s2.len (allBs (ks.drop (w64 (i + 1)).toNat)) ∧ s2.len ≤ s2.cap ∧ Nw h h') ∧ (x.len - w64 (i + 1)).toNat < (x.len - i).toNat
      rw [w64_id (by omega) (by omega), show (i + 1).toNat = i.toNat + 1 by omega]
      exact ⟨⟨by omega, by omega, q1, q2, q3⟩, by omega⟩
    · intro J hJ
      refine parse_all p3 (by show s'.len ≤ _; omega) (hg.nw N2) ?_
      intro y h3 st k3
      obtain ⟨a, b, rfl, sm, o1, o2, _⟩ := st.ok hreq
      refine lay9_spec ?_
      intro h4 r4 k4
      have k24 := k3.trans' k4
      simp only [add_mk]
      unfold row9 at r4
      refine withJ.intro (fun _ h5 => Nw h4 h5) ?_ ?_
      · rintro _ h5 k5
        refine ldI_row (o := 0 + 1) (k5.row r4 (fun h => h)) rfl ?_
        have hkl : k.bs.length ≤ s'.len := by rw [sl, hall, List.length_append]; omega
        have hr5 : Rb h5 s'.a s'.len (allBs (ks.drop i.toNat)) := Rb.nwK p3 (k24.trans' k5)
        show lsl 1 s'.a s'.cap ((k.bs.length : Nat) : Int) (s'.len : Int) (s'.cap : Int) _
        refine Rb.sub hr5 (by omega) (by omega) (Int.le_refl _) (by omega) (Int.le_refl _) ?_
        intro a' ra _
        refine hJ _ _ ⟨?_, ?_, (k2.trans' k24).trans' k5⟩
        · have e1 : ((allBs (ks.drop i.toNat)).drop ((k.bs.length : Nat) : Int).toNat).take ((s'.len : Int) - ((k.bs.length : Nat) : Int)).toNat = allBs (ks.drop (i.toNat + 1)) := by
            rw [Int.toNat_natCast, hall, List.drop_left']
            · exact List.take_of_length_le (by rw [sl, hall, List.length_append]; omega)
            · rfl
          rw [e1] at ra
          exact ra
        · show ((s'.len : Int) - _).toNat ≤ ((s'.cap : Int) - _).toNat
          omega
      · intro J69 hJ69
        refine withJ.intro (fun (q : Bool) h5 => q = false ∧ Nw h4 h5) ?_ ?_
        · rintro q h5 ⟨rfl, k5⟩
          exact cnd_f rfl (hJ69 _ _ k5)
        · intro J74 hJ74
          refine ldI_row (o := 0) r4 rfl (cnd_f rfl ?_)
          refine ldS_row (o := 0 + 2) r4 rfl (ldS_row (o := 0 + 2 + 1) r4 rfl (ldL_row (o := 0 + 2 + 2) r4 rfl (ldL_row (o := 0 + 2 + 3) r4 rfl ?_)))
          have ho4 := (ho.nw k2).nw k24
          obtain ⟨g0, g1, g2, g3⟩ := rkV_get hgk
          refine SlR.idx ho4.sl p1 hi fun z hz hsp => ?_
          have sl4 := ho4.sl
          rw [hz] at sl4
          have c0 := sl4.cell (i := i.toNat * 4) (by omega)
          have c1 := sl4.cell (i := i.toNat * 4 + 1) (by omega)
          have c2 := sl4.cell (i := i.toNat * 4 + 2) (by omega)
          have c3 := sl4.cell (i := i.toNat * 4 + 3) (by omega)
          rw [g0] at c0
          rw [g1, ← add_add hsp] at c1
          rw [g2, ← add_add hsp] at c2
          rw [g3, ← add_add hsp] at c3
          refine ldS_at c0 (ldS_at c1 (ldL_at c2 (ldL_at c3 ?_)))
          have H1 := SlR.hds (o1.nw k4).sl
          refine same_spec (a1 := a) (b1 := b) (a2 := k.a) (b2 := k.b) (hs1 := k.rq.hs) (hs2 := k.rq.hs) (bd1 := k.rq.body) (bd2 := k.rq.body) H1 ((o2.nw k4).rv) (SlR.hds ((hkk.o1.nw k2).nw k24).sl) (((hkk.o2.nw k2).nw k24).rv) (by have := H1.1; have := sm.1; omega) ?_
          intro h5 k5
          refine cnd_f (by
            have : decide (ofL k.rq.m = ofL k.rq.m ∧ ofL k.rq.t = ofL k.rq.t ∧ k.rq.hs = k.rq.hs ∧ k.rq.body = k.rq.body) = true := decide_eq_true ⟨rfl, rfl, rfl, rfl⟩
            show (!decide (ofL k.rq.m = ofL k.rq.m ∧ ofL k.rq.t = ofL k.rq.t ∧ k.rq.hs = k.rq.hs ∧ k.rq.body = k.rq.body)) = false
            rw [this]; rfl) ?_
          have r5 := k5.row r4 (fun h => h)
          have hb2 := (requestF_body hkk.rd).2.2
          refine ldI_row (o := 0 + 1) r5 rfl (cnd_neg (by show ¬ ((k.bs.length : Nat) : Int) < 1; omega) ?_)
          refine ldI_row (o := 0 + 1) r5 rfl (hJ74 _ _ ⟨?_, k5⟩)
          refine decide_eq_false ?_
          show ¬ ((k.bs.length : Nat) : Int) > (s'.len : Int)
          rw [sl, hall, List.length_append]
          omega
  · have hi' : ¬ i < (x.len : Int) := hi
    have hnil : ks.drop i.toNat = [] := List.drop_eq_nil_of_le (by omega)
    rw [hnil] at sl
    have sl0 : s'.len = 0 := sl
    refine withJ.intro (fun (q : Bool) h' => q = true ∧ Nw h0 h') (by rintro q h' ⟨rfl, k⟩; exact hR h' k) ?_
    intro J hJ
    refine cnd_t (by show ((s'.len : Int) == 0) = true; rw [sl0]; rfl) ?_
    refine parse_all (x0 := ⟨none, 0, 0⟩) (rb_nil h2) (by show 0 ≤ _; omega) (hg.nw N2) ?_
    intro y h3 st k3
    rw [st.more nil_more]
    refine cnd_t rfl ?_
    exact awake_spec (hg.nw (N2.trans' k3)) (fun h4 k4 => hJ _ _ ⟨rfl, (N2.trans' k3).trans' k4⟩)

theorem httpPipes_spec {h : Heap} {x0 : Sl} (hg : MaxG h) (hx : ReqsAt h x0.a x0.len) {R : Bool → Heap → Prop} (hR : ∀ h', Nw h h' → R true h') :
    CallT Try.prog 7 [.slice x0.a x0.len x0.cap] h [.sc .bool] R := by
  have hcall := law16_HttpPipes_call (x_0 := x0) (R := R) (h := h)
  apply hcall
  unfold law16_HttpPipes
  refine LoopT.intro (fun (t : Sl × Sl × Int) h' => 0 ≤ t.2.2 ∧ t.2.2 ≤ 10 ∧ ∃ ks : List Rk, Own h h' 1 t.1 ((allBs ks).map byteV) ∧ Own h h' 4 t.2.1 (rkV ks) ∧ (∀ b, blk t.1.a b → ¬ blk t.2.1.a b) ∧ (∀ k ∈ ks, RkAt h h' k ∧ (∀ b, blk k.a.a b ∨ blk k.b.a b → ¬ blk t.1.a b ∧ ¬ blk t.2.1.a b)) ∧ (ks.length : Int) ≤ t.2.2 ∧ Nw h h') (fun t _ => (10 - t.2.2).toNat) ?_ ?_
  · refine ⟨by simp, by simp, [], Own.nil _ _ _, Own.nil _ _ _, fun b hb => (by obtain ⟨x, e, _⟩ := hb; cases e), fun k hk => (by cases hk), by simp, .refl _ _⟩
  rintro ⟨s, o, i⟩ h3 ⟨p1, p2, ks, w1, w2, d12, hks, kl, N3⟩
  replace p1 : 0 ≤ i := p1
  replace p2 : i ≤ 10 := p2
  replace w1 : Own h h3 1 s ((allBs ks).map byteV) := w1
  replace w2 : Own h h3 4 o (rkV ks) := w2
  replace d12 : ∀ b, blk s.a b → ¬ blk o.a b := d12
  replace hks : ∀ k ∈ ks, RkAt h h3 k ∧ (∀ b, blk k.a.a b ∨ blk k.b.a b → ¬ blk s.a b ∧ ¬ blk o.a b) := hks
  replace kl : (ks.length : Int) ≤ i := kl
  have fin : pipesL o R s h3 := pipesL_spec hg N3 w2 w1 (fun k hk => (hks k hk).1) (by omega) hR
  have sl1 := w1.len
  rw [List.length_map, Nat.mul_one] at sl1
  have ol1 := w2.len
  rw [rkV_len] at ol1
  have hal := allBs_len (fun k hk' => (hks k hk').1.len)
  refine withJ.intro (fun (y : Int × Bool) h4 => h4 = h3 ∧ i < x0.len ∧ i < 10) ?_ ?_
  · rintro y h4 ⟨e4, c1, c2⟩
    have e4' := e4.symm
    subst e4'
    obtain ⟨z, m, t, hl, bo, hs, body, e0, e1, e2, e3, e4, ra⟩ := hx i.toNat (by omega)
    have zlt : z.block < h.size := by have := cell_lt e1; rwa [add_block] at this
    have old : ∀ {h'} {a : Addr} {v : Value}, Nw h h' → cellH h a = some v → cellH h' a = some v := fun k hc => k.cell hc (fun h => h)
    refine withJ.intro (fun (y : Sl × Sl) h' => ∃ ks : List Rk, Own h h' 1 y.1 ((allBs ks).map byteV) ∧ Own h h' 4 y.2 (rkV ks) ∧ (∀ b, blk y.1.a b → ¬ blk y.2.a b) ∧ (∀ k ∈ ks, RkAt h h' k ∧ (∀ b, blk k.a.a b ∨ blk k.b.a b → ¬ blk y.1.a b ∧ ¬ blk y.2.a b)) ∧ (ks.length : Int) ≤ i + 1 ∧ Nw h h') ?_ ?_
    · rintro ⟨s', o'⟩ h' ⟨ks', q1, q2, q3, q4, q5, q6⟩
      show (0 ≤ w64 (i + 1) ∧ w64 (i + 1) ≤ 10 ∧ ∃ ks : List Rk, Own h h' 1 s' ((allBs ks).map byteV) ∧ Own h h' 4 o' (rkV ks) ∧ (∀ b, blk s'.a b → ¬ blk o'.a b) ∧ (∀ k ∈ ks, RkAt h h' k ∧ (∀ b, blk k.a.a b ∨ blk k.b.a b → ¬ blk s'.a b ∧ ¬ blk o'.a b)) ∧ (ks.length : Int) ≤ w64 (i + 1) ∧ Nw h h') ∧ (10 - w64 (i + 1)).toNat < (10 - i).toNat
      rw [w64_id (by omega) (by omega)]
      exact ⟨⟨by omega, by omega, ks', q1, q2, q3, q4, q5, q6⟩, by omega⟩
    · intro J8 hJ8
      refine ⟨z, e0, p1, c1, ?_⟩
      refine ldS_at (old N3 e1) (ldS_at (old N3 e2) (ldL_at (old N3 e3) (ldL_at (old N3 e4) ?_)))
      refine print16_spec (n := 1048576) ⟨ra.hd.keep0 N3, ra.hc, Rb.nwK ra.rb N3, ra.bc, ra.tot⟩ (Nat.le_refl _) ?_
      intro r15 h16 w15 k16
      have b15 : Rb h16 r15.a r15.len (printF m t hs body) := w15.rv
      have l15 := b15.len
      have htot := ra.tot
      have hhl := hdLines_len hs
      have hbl := ra.rb.len
      have hfl : (frontL m t).length = m.size + t.size + 12 := by unfold frontL verL; simp [bl_len]; omega
      have hPl : (printF m t hs body).length = (frontL m t).length + (hdLines hs).length + 2 + body.length := by unfold printF; simp; omega
      refine parse16_all b15 (by omega) ?_
      intro y h18 st k18
      refine lay9_spec (t := 40) ?_
      intro h29 r29 k29
      have k3_29 := (k16.trans' k18).trans' k29
      have N29 := N3.trans' k3_29
      -- what there was, now
      have keepAll : ∀ {h'}, Nw h3 h' → Own h h' 1 s ((allBs ks).map byteV) ∧ Own h h' 4 o (rkV ks) ∧ (∀ k ∈ ks, RkAt h h' k ∧ (∀ b, blk k.a.a b ∨ blk k.b.a b → ¬ blk s.a b ∧ ¬ blk o.a b)) := fun k =>
        ⟨w1.nw k, w2.nw k, fun x hx => ⟨⟨(hks x hx).1.o1.nw k, (hks x hx).1.o2.nw k, (hks x hx).1.sm, (hks x hx).1.rd, (hks x hx).1.len⟩, (hks x hx).2⟩⟩
      simp only [add_mk]
      have r29' := r29
      unfold row9 at r29'
      refine withJ.intro (fun (q : Bool) h32 => h32 = h29 ∧ (q = true → ∃ rq a b, y = stOk rq (printF m t hs body).length a b ∧ requestF (printF m t hs body) = .ok (rq, (printF m t hs body).length) ∧ Small rq.hs ∧ Own h16 h29 2 a (hdV rq.hs) ∧ Own h16 h29 1 b (rq.body.map byteV) ∧ (printF m t hs body).length < 5000)) ?_ ?_
      · rintro q h32 ⟨rfl, hq⟩
        refine cnd_of (fun e => ?_) (fun e => ?_)
        · obtain ⟨rq, a, b, rfl, hreq, sm, o1, o2, l5⟩ := hq e
          obtain ⟨v1, v2, v3⟩ := keepAll k3_29
          have z3 := N3.size
          have z16 := k16.size
          have b32 := Rb.nwK b15 (k18.trans' k29)
          refine Rv.rd b32 ?_
          refine v1.app (new := (printF m t hs body).map byteV) (m := r15.len) N29 rfl (by rw [List.length_map]; omega) (fun v hv => by obtain ⟨x, _, rfl⟩ := List.mem_map.1 hv; rfl) (by omega) ?_
          intro a' c' h35 u1 N35 k35 f35
          have slt : ∀ b, blk s.a b → b < h3.size := fun b hb => w1.lt hb
          have olt : ∀ b, blk o.a b → b < h3.size := fun b hb => w2.lt hb
          have r35 := k35.row r29' (fun hb => by have := slt _ hb; have := k3_29.size; have := r29.lt; have : h3.size ≤ h18.size := by have := k16.size; have := k18.size; omega
                                                 omega)
          refine ldS_row (o := 0 + 2) r35 rfl (ldS_row (o := 0 + 2 + 1) r35 rfl (ldL_row (o := 0 + 2 + 2) r35 rfl (ldL_row (o := 0 + 2 + 3) r35 rfl ?_)))
          have v2' : Own h h35 4 o (rkV ks) := v2.keep k35 (fun b hb hb2 => d12 b hb2 hb)
          refine v2'.push N35 rfl rfl rfl (fun v hv => by simp at hv; rcases hv with rfl | rfl | rfl | rfl <;> rfl) (by omega) ?_
          intro a2 c2 h45 u2 N45 k45 f45
          have hkeys : ∀ (x : Rk), RkAt h h32 x → (∀ b, blk x.a.a b ∨ blk x.b.a b → ¬ blk s.a b ∧ ¬ blk o.a b) → (∀ b, blk x.a.a b ∨ blk x.b.a b → b < h32.size) → RkAt h h45 x ∧ (∀ b, blk x.a.a b ∨ blk x.b.a b → ¬ blk a' b ∧ ¬ blk a2 b) := by
            intro x hx hd hlt
            refine ⟨⟨(hx.o1.keep k35 (fun b hb => (hd b (.inl hb)).1)).keep k45 (fun b hb => (hd b (.inl hb)).2), (hx.o2.keep k35 (fun b hb => (hd b (.inr hb)).1)).keep k45 (fun b hb => (hd b (.inr hb)).2), hx.sm, hx.rd, hx.len⟩, fun b hb => ⟨fun hh => ?_, fun hh => ?_⟩⟩
            · rcases f35 b hh with g | g
              · exact (hd b hb).1 g
              · have := hlt b hb; omega
            · rcases f45 b hh with g | g
              · exact (hd b hb).2 g
              · have := hlt b hb; have := k35.size; omega
          have hnew : RkAt h h32 ⟨rq, a, b, printF m t hs body⟩ := ⟨o1.up (by omega), o2.up (by omega), sm, hreq, l5⟩
          refine hJ8 _ _ ⟨ks ++ [⟨rq, a, b, printF m t hs body⟩], ?_, ?_, ?_, ?_, ?_, N45⟩
          · have e : allBs (ks ++ [⟨rq, a, b, printF m t hs body⟩]) = allBs ks ++ printF m t hs body := by unfold allBs; simp
            rw [e, List.map_append]
            refine u1.keep k45 (fun b hb hb2 => ?_)
            rcases f35 b hb with g | g
            · exact d12 b g hb2
            · have := olt b hb2; have := k3_29.size; omega
          · have e : rkV (ks ++ [⟨rq, a, b, printF m t hs body⟩]) = rkV ks ++ [.string (ofL rq.m), .string (ofL rq.t), .slice a.a a.len a.cap, .slice b.a b.len b.cap] := by unfold rkV; simp
            rw [e]
            exact u2
          · intro b hb hb2
            rcases f45 b hb2 with g | g
            · rcases f35 b hb with g2 | g2
              · exact d12 b g2 g
              · have := olt b g; have := k3_29.size; omega
            · have := u1.lt hb; omega
          · intro x hx
            rcases List.mem_append.1 hx with hx | hx
            · have hv := v3 x hx
              exact hkeys x hv.1 hv.2 (fun b hb => by rcases hb with hb | hb; exact hv.1.o1.lt hb; exact hv.1.o2.lt hb)
            · simp only [List.mem_singleton] at hx
              subst hx
              refine hkeys _ hnew (fun b hb => ?_) (fun b hb => by rcases hb with hb | hb; exact o1.lt hb; exact o2.lt hb)
              have hge : h16.size ≤ b := by rcases hb with hb | hb; exact o1.fresh b hb; exact o2.fresh b hb
              exact ⟨fun hh => by have := slt b hh; omega, fun hh => by have := olt b hh; omega⟩
          · simp; omega
        · obtain ⟨v1, v2, v3⟩ := keepAll k3_29
          exact hJ8 _ _ ⟨ks, v1, v2, d12, v3, by omega, N29⟩
      · intro J31 hJ31
        rcases st with ⟨rq, nn, a, b, rfl, hreq, sm, o1, o2, _⟩ | ⟨f, rfl, _, _⟩ | ⟨rfl, _⟩
        · refine ldI_row (o := 0) r29' rfl (cnd_t rfl ?_)
          refine ldI_row (o := 0 + 1) r29' rfl ?_
          refine cnd_of (fun e => hJ31 _ _ ⟨rfl, fun e2 => ?_⟩) (fun e => hJ31 _ _ ⟨rfl, fun e2 => by cases e2⟩)
          have hnn : nn = (printF m t hs body).length := by
            have e' : ((nn : Int) == (r15.len : Int)) = true := e
            have := eq_of_beq e'
            omega
          subst hnn
          have h5 := of_decide_eq_true e2
          exact ⟨rq, a, b, rfl, hreq, sm, o1.nw k29, o2.nw k29, by omega⟩
        · exact ldI_row (o := 0) r29' rfl (cnd_f rfl (hJ31 _ _ ⟨rfl, fun e2 => by cases e2⟩))
        · exact ldI_row (o := 0) r29' rfl (cnd_f rfl (hJ31 _ _ ⟨rfl, fun e2 => by cases e2⟩))
  · intro J5 hJ5
    refine cnd_dec (fun c1 => ?_) (fun _ => fin)
    exact cnd_dec (fun c2 => hJ5 _ _ ⟨rfl, c1, c2⟩) (fun _ => fin)
end Go.Proofs.Ytjpmjhnjdnbopaa
