/- The document's reader: the request line, Parse. -/
import Derived.Test.YtjpmjhnjdnbopaaPRefK
import Derived.Test.YtjpmjhnjdnbopaaPStep
namespace Go.Proofs.Ytjpmjhnjdnbopaa
open Go D
set_option linter.unusedVariables false
set_option linter.unusedSimpArgs false

/-- a request as it is handed back -/
def retD (q : Nat) (x : QT) (ok : Bool) (R : QT × Bool → Heap → Prop) (h : Heap) : Prop :=
  stC ⟨q, 0, none⟩ (.string x.1) h fun h9 =>
  stC ⟨q, 0 + 1, none⟩ (.string x.2.1) h9 fun h10 =>
  stC ⟨q, 0 + 2, none⟩ (.slice x.2.2.1.a x.2.2.1.len x.2.2.1.cap) h10 fun h11 =>
  stC ⟨q, 0 + 3, none⟩ (.slice x.2.2.2.a x.2.2.2.len x.2.2.2.cap) h11 fun h12 =>
  ldS ⟨q, 0, none⟩ h12 fun s13 =>
  ldS ⟨q, 0 + 1, none⟩ h12 fun s14 =>
  ldL ⟨q, 0 + 2, none⟩ h12 fun o15 l15 c15 =>
  ldL ⟨q, 0 + 3, none⟩ h12 fun o16 l16 c16 =>
  R ((s13, s14, (⟨o15, l15, c15⟩ : Sl), (⟨o16, l16, c16⟩ : Sl)), ok) h12
theorem retD_spec {h : Heap} {q : Nat} {x y : QT} {ok : Bool} {R : QT × Bool → Heap → Prop} (r : Row h q (qRow y.1 y.2.1 y.2.2.1 y.2.2.2)) (hk : ∀ h', Keep (· = q) h h' → R (x, ok) h') : retD q x ok R h := by
  unfold retD
  unfold qRow at r
  refine stC_row r (by simp) rfl ?_
  intro h1 s1 r1 k1
  refine stC_row r1 (by simp) rfl ?_
  intro h2 s2 r2 k2
  refine stC_row r2 (by simp) rfl ?_
  intro h3 s3 r3 k3
  refine stC_row r3 (by simp) rfl ?_
  intro h4 s4 r4 k4
  obtain ⟨x1, x2, x3, x4⟩ := x
  refine ldS_row (o := 0) r4 rfl (ldS_row (o := 0 + 1) r4 rfl (ldL_row (o := 0 + 2) r4 rfl (ldL_row (o := 0 + 3) r4 rfl ?_)))
  exact hk h4 (((k1.trans' k2).trans' k3).trans' k4)

def f1 (t : List UInt8) : Int := if t.all tarB then 0 else 308
def f2 (t v : List UInt8) : Int := if verB v then 308 else f1 t
def f3 (t v : List UInt8) : Int := if f2 t v = 0 ∧ v ≠ http11 then 340 else f2 t v
def f4 (t v : List UInt8) : Int := if f3 t v = 0 ∧ (t.head? ≠ some 47 ∧ t ≠ [42]) then 331 else f3 t v
theorem f4_is {m t v : List UInt8} (h1 : tokenL m = true) (h2 : m.length ≤ 16) (h3 : t ≠ []) : f4 t v = startF m t v := by
  unfold f4 f3 f2 f1 startF versionF targetL
  rw [h1, decide_eq_false (show ¬ 16 < m.length by omega), decide_eq_false h3]
  cases t.all tarB <;> cases verB v <;> simp
  all_goals (try (by_cases hv : v = http11 <;> simp [hv]))

theorem first16_spec {h : Heap} {p : Nat} {s : ByteArray} (r : Row h p (dRow s 0 0 0 false 0)) (hs : s.size ≤ 4000000000000) {R : QT × Bool → Heap → Prop}
    (hok : ∀ m t n h', beginF (bl s) = .ok (m, t, n) → Row h' p (dRow s n n 0 false 0) → Keep (· = p) h h' → R ((ofL m, ofL t, ⟨none, 0, 0⟩, ⟨none, 0, 0⟩), true) h')
    (hno : ∀ q f h', beginF (bl s) = .error f → DStop h' p s f → Keep (· = p) h h' → R (q, false) h') :
    CallT Try.prog ref16_Reader_first_no [.pointer (some ⟨p, 0, none⟩)] h [.agg [.str, .str, .sl, .sl], .sc .bool] R := by
  apply ref16_Reader_first_call
  unfold ref16_Reader_first
  have hplt := r.lt
  refine newB_row ?_
  intro h1 s1 r1 k1
  simp only [nn_eq, add_mk]
  replace r1 : Row h1 h.size (qRow ⟨#[]⟩ ⟨#[]⟩ ⟨none, 0, 0⟩ ⟨none, 0, 0⟩) := r1
  have rp := k1.row r (fun h => h)
  have K1 : Keep (· = p) h h1 := k1.mono (fun _ _ h => h.elim)
  have ret : ∀ {x : QT} {ok : Bool} {h2 : Heap}, Row h2 h.size (qRow ⟨#[]⟩ ⟨#[]⟩ ⟨none, 0, 0⟩ ⟨none, 0, 0⟩) → Keep (· = p) h h2 → (∀ h', Keep (· = h.size) h2 h' → Keep (· = p) h h' → R (x, ok) h') → retD h.size x ok R h2 := fun {x} {ok} {h2} r k hk => retD_spec (y := (⟨#[]⟩, ⟨#[]⟩, ⟨none, 0, 0⟩, ⟨none, 0, 0⟩)) r (fun h' k' => hk h' k' (k.trans k' (fun x hx e => by have e' : x = h.size := e; omega)))
  refine line16_spec (bound := 8192) rp hs (by omega) (by omega) ?_ ?_
  rotate_left
  · intro f h2 e rw k2
    rw [List.drop_zero] at e
    obtain ⟨a, m, rw⟩ := rw
    have rw' := rw
    unfold dRow at rw'
    refine ldI_row (o := 0 + 1) rw' rfl ?_
    refine stC_row rw' (by simp) rfl ?_
    intro h3 s3 r3 k3
    refine cnd_t rfl ?_
    refine ret (x := (⟨#[]⟩, ⟨#[]⟩, ⟨none, 0, 0⟩, ⟨none, 0, 0⟩)) (k3.row (k2.row r1 (by omega)) (by omega)) ((K1.trans' k2).trans' k3) (fun h' k' K' => hno _ f h' (beginF_e e) ⟨a, a, 0, m, k'.row r3 (by omega)⟩ K')
  intro l n h2 eL r2 k2
  rw [List.drop_zero] at eL
  rw [Nat.zero_add] at r2
  obtain ⟨i, hi1, hi2, hi3, hi4, hi5, hi6⟩ := lineF_ok eL
  have ll : l.length ≤ 8192 := by rw [hi2, List.length_take]; omega
  have sl := ofL_size l
  have r2' := r2
  unfold dRow at r2'
  refine ldI_row (o := 0 + 1) r2' rfl ?_
  refine stC_row r2' (by simp) rfl ?_
  intro h3 s3 r3 k3
  replace r3 : Row h3 p (dRow s n n 0 false 0) := r3
  have q3 := k3.row (k2.row r1 (by omega)) (by omega)
  have K3 := (K1.trans' k2).trans' k3
  refine cnd_f rfl ?_
  refine split3_spec (s := ofL l) (c := 32) (by omega) ?_
  rw [bl_ofL]
  intro o h4 own k4
  have olen := own.len
  have slen : (strsV (splitL 32 l)).length = (splitL 32 l).length := List.length_map _
  rw [slen, Nat.mul_one] at olen
  have r4 := k4.row r3 (fun h => h)
  have q4 := k4.row q3 (fun h => h)
  have K4 := keepP K3 k4
  have r4' := r4
  unfold dRow at r4'
  have z3 := q3.lt
  have st308 : beginF (bl s) = .error 308 → stC ⟨p, 0 + 5, none⟩ (.int .i64 308) h4 fun h103 => retD h.size (⟨#[]⟩, ⟨#[]⟩, ⟨none, 0, 0⟩, ⟨none, 0, 0⟩) false R h103 := fun e => by
    refine stC_row r4' (by simp) rfl ?_
    intro h5 s5 r5 k5
    exact ret (k5.row q4 (by omega)) (K4.trans' k5) (fun h' k' K' => hno _ 308 h' e ⟨_, _, _, _, k'.row r5 (by omega)⟩ K')
  refine withJ.intro (fun _ h' => h' = h4 ∧ ∃ m t v, splitL 32 l = [m, t, v] ∧ tokenL m = true ∧ m.length ≤ 16 ∧ t ≠ []) ?_ ?_
  · rintro _ h' ⟨rfl, m, t, v, e3, c1, c2, c3⟩
    have eb := beginF_3 eL e3
    have e4 := f4_is (v := v) c1 c2 c3
    have vl : v.length ≤ l.length := splitL_len (by rw [e3]; simp)
    have tl : t.length ≤ l.length := splitL_len (by rw [e3]; simp)
    have sv := ofL_size v
    have st := ofL_size t
    rw [e3] at own
    have rvK : ∀ {h2 : Heap}, Keep (· = p) h' h2 → Rv h2 o.a o.len (strsV [m, t, v]) := fun k => (own.keep k (fun b hb e => by have := own.fresh b hb; have e' : b = p := e; omega)).rv
    refine LoopT.intro (fun (i : Int) h5 => 0 ≤ i ∧ i ≤ t.length ∧ Row h5 p (dRow s n n 0 false (f1 (t.take i.toNat))) ∧ Keep (· = p) h' h5) (fun i _ => (t.length - i).toNat) ⟨by omega, by omega, r4, .refl _ _⟩ ?_
    rintro i h5 ⟨p1, p2, r5, k5⟩
    have r5' := r5
    unfold dRow at r5'
    refine strsAt (rvK k5) (i := 1) (by omega) (x := t) rfl ?_
    rw [st]
    refine cnd_dec (fun hi => ?_) (fun hi => ?_)
    · have hil : i.toNat < t.length := by omega
      have hg : t[i.toNat]? = some t[i.toNat] := List.getElem?_eq_getElem hil
      generalize t[i.toNat] = x at hg
      have hgb : (bl (ofL t))[i.toNat]? = some x := by rw [bl_ofL]; exact hg
      have hf : f1 (t.take (i.toNat + 1)) = if tarB x then f1 (t.take i.toNat) else 308 := by
        unfold f1
        rw [List.take_add_one, hg]
        simp only [Option.toList_some, List.all_append, List.all_cons, List.all_nil, Bool.and_true]
        generalize (t.take i.toNat).all tarB = y
        cases tarB x <;> cases y <;> rfl
      refine withJ.intro (fun _ h6 => Row h6 p (dRow s n n 0 false (f1 (t.take (i.toNat + 1)))) ∧ Keep (· = p) h' h6) ?_ ?_
      · rintro _ h6 ⟨r6, k6⟩
        rw [w64_id (by omega) (by omega)]
        refine ⟨⟨by omega, by omega, ?_, k6⟩, by omega⟩
        rw [show (i + 1).toNat = i.toNat + 1 by omega]
        exact r6
      · intro J hJ
        refine withJ.intro (fun (q : Bool) h6 => h6 = h5 ∧ q = !tarB x) ?_ ?_
        · rintro q h6 ⟨rfl, rfl⟩
          refine cnd_of (fun e => ?_) (fun e => hJ _ _ ⟨?_, k5⟩)
          · refine stC_row r5' (by simp) rfl ?_
            intro h7 s7 r7 k7
            refine hJ _ _ ⟨?_, k5.trans' k7⟩
            rw [hf, if_neg (by simpa using e)]
            exact r7
          · rw [hf, if_pos (by simpa using e)]
            exact r5
        · intro J2 hJ2
          have key : ∀ {r : Bool}, (r = true ↔ x.toNat < 33 ∨ 126 < x.toNat) → J2 r h5 := fun e => hJ2 _ _ ⟨rfl, by rw [Bool.eq_iff_iff, e]; simp [tarB]⟩
          refine strsAt (rvK k5) (i := 1) (by omega) (x := t) rfl ?_
          refine sidx_i p1 hgb ?_
          refine cnd_dec (fun e => key (by simp; omega)) (fun e => ?_)
          refine strsAt (rvK k5) (i := 1) (by omega) (x := t) rfl ?_
          refine sidx_i p1 hgb (key (by simp; omega))
    · rw [List.take_of_length_le (by omega)] at r5
      refine strsAt (rvK k5) (i := 2) (by omega) (x := v) rfl ?_
      refine withJ.intro (fun _ h6 => Row h6 p (dRow s n n 0 false (f2 t v)) ∧ Keep (· = p) h' h6) ?_ ?_
      · rintro _ h6 ⟨r6, k6⟩
        have r6' := r6
        unfold dRow at r6'
        refine withJ.intro (fun _ h7 => Row h7 p (dRow s n n 0 false (f3 t v)) ∧ Keep (· = p) h' h7) ?_ ?_
        · rintro _ h7 ⟨r7, k7⟩
          have r7' := r7
          unfold dRow at r7'
          refine withJ.intro (fun _ h8 => Row h8 p (dRow s n n 0 false (f4 t v)) ∧ Keep (· = p) h' h8) ?_ ?_
          · rintro _ h8 ⟨r8, k8⟩
            refine strsAt (rvK k8) (i := 0) (by omega) (x := m) rfl ?_
            refine strsAt (rvK k8) (i := 1) (by omega) (x := t) rfl ?_
            have r8' := r8
            unfold dRow at r8'
            refine ldI_row (o := 0 + 5) r8' rfl ?_
            have q8 := k8.row q4 (by omega)
            unfold qRow at q8
            refine stC_row q8 (by simp) rfl ?_
            intro h9 s9 r9 k9
            refine stC_row r9 (by simp) rfl ?_
            intro h10 s10 r10 k10
            refine stC_row r10 (by simp) rfl ?_
            intro h11 s11 r11 k11
            refine stC_row r11 (by simp) rfl ?_
            intro h12 s12 r12 k12
            have k812 := ((k9.trans' k10).trans' k11).trans' k12
            have rp12 := k812.row r8 (by omega)
            have rp12' := rp12
            unfold dRow at rp12'
            refine ⟨ldI_row (o := 0 + 5) rp12' rfl rfl, ?_⟩
            refine ldS_row (o := 0) r12 rfl (ldS_row (o := 0 + 1) r12 rfl (ldL_row (o := 0 + 2) r12 rfl (ldL_row (o := 0 + 3) r12 rfl ?_)))
            have K12 : Keep (· = p) h h12 := (K4.trans' k8).trans k812 (fun x hx e => by have e' : x = h.size := e; omega)
            by_cases h0 : startF m t v = 0
            · rw [if_pos h0] at eb
              rw [e4, h0] at rp12 ⊢
              exact hok m t n h12 eb rp12 K12
            · rw [if_neg h0] at eb
              rw [e4] at rp12 ⊢
              rw [show (startF m t v == 0) = false by simpa using h0]
              exact hno _ _ h12 eb ⟨_, _, _, _, rp12⟩ K12
          · intro J15 hJ15
            refine withJ.intro (fun (q : Bool) h8 => h8 = h7 ∧ q = decide (f3 t v = 0 ∧ (t.head? ≠ some 47 ∧ t ≠ [42]))) ?_ ?_
            · rintro q h8 ⟨rfl, rfl⟩
              refine cnd_dec (fun e => ?_) (fun e => ?_)
              · refine stC_row r7' (by simp) rfl ?_
                intro h9 s9 r9 k9
                refine hJ15 _ _ ⟨?_, k7.trans' k9⟩
                unfold f4
                rw [if_pos e]
                exact r9
              · refine hJ15 _ _ ⟨?_, k7⟩
                unfold f4
                rw [if_neg e]
                exact r7
            · intro J24 hJ24
              refine ldI_row (o := 0 + 5) r7' rfl ?_
              refine cnd_of (fun e => ?_) (fun e => hJ24 _ _ ⟨rfl, ?_⟩)
              · have hv : f3 t v = 0 := eq_of_beq e
                refine strsAt (rvK k7) (i := 1) (by omega) (x := t) rfl ?_
                match t, c3 with
                | b :: tr, _ =>
                  refine sidx_at (i := 0) (b := b) (by rw [bl_ofL]; rfl) ?_
                  have hq := beq_byteN (b := b) (n := 47) (by decide)
                  rw [show ((b.toNat : Int) != 47) = !decide (b = 47) from hq]
                  refine cnd_of (fun e => ?_) (fun e => hJ24 _ _ ⟨rfl, ?_⟩)
                  · have hb : ¬ b = 47 := by simpa using e
                    refine strsAt (rvK k7) (i := 1) (by omega) (x := b :: tr) rfl (hJ24 _ _ ⟨rfl, ?_⟩)
                    rw [seq_bl, bl_ofL, show bl (⟨#[42]⟩ : ByteArray) = [42] from rfl, Bool.eq_iff_iff]
                    simp [hb, hv]
                  · have hb : b = 47 := by simpa using e
                    subst hb
                    simp
              · have hv : ¬ f3 t v = 0 := ne_of_beq_false e
                symm
                exact decide_eq_false (fun hh => hv hh.1)
        · intro J47 hJ47
          refine withJ.intro (fun (q : Bool) h7 => h7 = h6 ∧ q = decide (f2 t v = 0 ∧ v ≠ http11)) ?_ ?_
          · rintro q h7 ⟨rfl, rfl⟩
            refine cnd_dec (fun e => ?_) (fun e => ?_)
            · refine stC_row r6' (by simp) rfl ?_
              intro h8 s8 r8 k8
              refine hJ47 _ _ ⟨?_, k6.trans' k8⟩
              unfold f3
              rw [if_pos e]
              exact r8
            · refine hJ47 _ _ ⟨?_, k6⟩
              unfold f3
              rw [if_neg e]
              exact r6
          · intro J80 hJ80
            refine ldI_row (o := 0 + 5) r6' rfl ?_
            refine cnd_of (fun e => hJ80 _ _ ⟨rfl, ?_⟩) (fun e => hJ80 _ _ ⟨rfl, ?_⟩)
            · have hv : f2 t v = 0 := eq_of_beq e
              rw [seq_bl, bl_ofL, show bl (⟨#[72, 84, 84, 80, 47, 49, 46, 49]⟩ : ByteArray) = http11 from rfl, Bool.eq_iff_iff]
              simp [hv]
            · have hv : ¬ f2 t v = 0 := ne_of_beq_false e
              symm
              exact decide_eq_false (fun hh => hv hh.1)
      · intro J44 hJ44
        refine withJ.intro (fun (q : Bool) h6 => h6 = h5 ∧ q = verB v) ?_ ?_
        · rintro q h6 ⟨rfl, rfl⟩
          refine cnd_of (fun e => ?_) (fun e => hJ44 _ _ ⟨?_, k5⟩)
          · refine stC_row r5' (by simp) rfl ?_
            intro h7 s7 r7 k7
            refine hJ44 _ _ ⟨?_, k5.trans' k7⟩
            unfold f2
            rw [if_pos e]
            exact r7
          · unfold f2
            rw [if_neg (by simp [e])]
            exact r5
        · intro J2 hJ2
          unfold verB at hJ2
          have hbl := bl_ofL v
          refine cnd_of (fun e => hJ2 _ _ ⟨rfl, ?_⟩) (fun e => ?_)
          · have : v.length ≠ 8 := fun e2 => by rw [sv, e2] at e; simp at e
            rw [decide_eq_true this]; rfl
          · have h8 : v.length = 8 := by rw [sv] at e; simp at e; omega
            rw [decide_eq_false (show ¬ v.length ≠ 8 by omega)] at hJ2
            refine ssl_bl (by omega) (by omega) (by omega) ?_
            rw [bl_ofL]
            have e5 : (v.drop (0 : Int).toNat).take ((5 : Int).toNat - (0 : Int).toNat) = v.take 5 := rfl
            rw [e5, seq_bl, bl_ofL, show bl (⟨#[72, 84, 84, 80, 47]⟩ : ByteArray) = httpT from rfl]
            refine cnd_of (fun e => hJ2 _ _ ⟨rfl, by rw [e]; rfl⟩) (fun e => ?_)
            rw [e] at hJ2
            have g5 : v[5]? = some v[5] := List.getElem?_eq_getElem (by omega)
            have g6 : v[6]? = some v[6] := List.getElem?_eq_getElem (by omega)
            have g7 : v[7]? = some v[7] := List.getElem?_eq_getElem (by omega)
            generalize v[5] = x5 at g5
            generalize v[6] = x6 at g6
            generalize v[7] = x7 at g7
            rw [g5, g6, g7] at hJ2
            refine sidx_i (b := x5) (by omega) (by rw [hbl]; exact g5) (digit16_spec ?_)
            refine cnd_of (fun e => hJ2 _ _ ⟨rfl, by simp [show digB x5 = false by simpa using e]⟩) (fun e => ?_)
            have e5 : digB x5 = true := by simpa using e
            refine sidx_i (b := x6) (by omega) (by rw [hbl]; exact g6) ?_
            have hq := beq_byteN (b := x6) (n := 46) (by decide)
            rw [show ((x6.toNat : Int) != 46) = !decide (x6 = 46) from hq]
            refine cnd_of (fun e => hJ2 _ _ ⟨rfl, ?_⟩) (fun e => ?_)
            · have : ¬ x6 = 46 := by simpa using e
              simp [e5, this]
            · have e6 : x6 = 46 := by simpa using e
              refine sidx_i (b := x7) (by omega) (by rw [hbl]; exact g7) (digit16_spec (hJ2 _ _ ⟨rfl, ?_⟩))
              simp [e5, e6]
  · intro J20 hJ20
    refine withJ.intro (fun (q : Bool) h' => h' = h4 ∧ (q = true → beginF (bl s) = .error 308) ∧ (q = false → ∃ m t v, splitL 32 l = [m, t, v] ∧ tokenL m = true ∧ m.length ≤ 16 ∧ t ≠ [])) ?_ ?_
    · rintro q h' ⟨rfl, hy, hn⟩
      exact cnd_of (fun e => st308 (hy e)) (fun e => hJ20 _ _ ⟨rfl, hn e⟩)
    · intro J36 hJ36
      refine cnd_of (fun e => hJ36 _ _ ⟨rfl, fun _ => beginF_n eL (fun e3 => ?_), fun e => by cases e⟩) (fun e => ?_)
      · rw [← olen, e3] at e; simp at e
      · have l3 : (splitL 32 l).length = 3 := by simp at e; omega
        obtain ⟨m, t, v, e3⟩ := three_of l3
        have eb := beginF_3 eL e3
        have ml : m.length ≤ l.length := splitL_len (by rw [e3]; simp)
        have sm := ofL_size m
        have bad : (!tokenL m || (decide (16 < m.length) || !targetL t)) = true → beginF (bl s) = .error 308 := fun hb => by
          rw [eb]
          have : startF m t v = 308 := by unfold startF; rw [if_pos hb]
          rw [this]
          rfl
        rw [e3] at own
        have rv := own.rv
        refine strsAt rv (i := 0) (by omega) (x := m) rfl ?_
        refine token3_spec (by omega) ?_
        rw [bl_ofL]
        refine cnd_of (fun h1 => hJ36 _ _ ⟨rfl, fun _ => bad (by rw [h1]; rfl), fun e => by cases e⟩) (fun h1 => ?_)
        refine strsAt rv (i := 0) (by omega) (x := m) rfl ?_
        refine cnd_dec (fun h2 => hJ36 _ _ ⟨rfl, fun _ => bad (by rw [decide_eq_true (show 16 < m.length by omega)]; simp), fun e => by cases e⟩) (fun h2 => ?_)
        refine strsAt rv (i := 1) (by omega) (x := t) rfl ?_
        rw [seq_nilB, bl_ofL]
        refine hJ36 _ _ ⟨rfl, fun h3 => bad ?_, fun h3 => ⟨m, t, v, e3, by simpa using h1, by omega, by simpa using h3⟩⟩
        have ht : t = [] := by simpa using h3
        subst ht
        simp [targetL]
end Go.Proofs.Ytjpmjhnjdnbopaa
