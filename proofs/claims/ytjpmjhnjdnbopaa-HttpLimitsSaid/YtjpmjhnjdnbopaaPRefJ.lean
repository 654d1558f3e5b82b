/- The document's reader: sizes, chunks, what is wrong with a head. -/
import Derived.Test.YtjpmjhnjdnbopaaPRefI
import Derived.Test.YtjpmjhnjdnbopaaPQuery
namespace Go.Proofs.Ytjpmjhnjdnbopaa
open Go D
set_option linter.unusedVariables false
set_option linter.unusedSimpArgs false

theorem digitx_spec {h : Heap} {b : UInt8} {R : Int → Heap → Prop} (hk : R (match hvx b with | some d => (d : Int) | none => -1) h) : CallT Try.prog ref3_Digit_no [.int .u8 (b.toNat : Int)] h [.sc (.int .i64)] R := by
  apply ref3_Digit_call
  unfold ref3_Digit
  have hbl := b.toNat_lt
  unfold hvx at hk
  refine withJ.intro (fun _ h' => h' = h ∧ ¬ (48 ≤ b.toNat ∧ b.toNat ≤ 57) ∧ ¬ (97 ≤ b.toNat ∧ b.toNat ≤ 102) ∧ ¬ (65 ≤ b.toNat ∧ b.toNat ≤ 70)) ?_ ?_
  · rintro _ h' ⟨rfl, n1, n2, n3⟩
    rw [if_neg n1, if_neg n2, if_neg n3] at hk
    exact hk
  · intro J hJ
    refine withJ.intro (fun (q : Bool) h' => h' = h ∧ q = decide (48 ≤ b.toNat ∧ b.toNat ≤ 57)) ?_ ?_
    · rintro q h' ⟨rfl, rfl⟩
      refine cnd_dec (fun h1 => ?_) (fun h1 => ?_)
      · rw [if_pos h1] at hk
        rw [wrap_u8, w64_id (by omega) (by omega)]
        have e : ((b.toNat : Int) - 48) % 256 = ((b.toNat - 48 : Nat) : Int) := by omega
        rw [e]
        exact hk
      · rw [if_neg h1] at hk
        refine withJ.intro (fun (q : Bool) h2 => h2 = h' ∧ q = decide (97 ≤ b.toNat ∧ b.toNat ≤ 102)) ?_ ?_
        · rintro q h2 ⟨rfl, rfl⟩
          refine cnd_dec (fun g2 => ?_) (fun g2 => ?_)
          · rw [if_pos g2] at hk
            rw [wrap_u8, w64_id (x := ((b.toNat : Int) - 97) % 256) (by omega) (by omega), w64_id (by omega) (by omega)]
            have e : ((b.toNat : Int) - 97) % 256 + 10 = ((b.toNat - 87 : Nat) : Int) := by omega
            rw [e]
            exact hk
          · rw [if_neg g2] at hk
            refine withJ.intro (fun (q : Bool) h3 => h3 = h2 ∧ q = decide (65 ≤ b.toNat ∧ b.toNat ≤ 70)) ?_ ?_
            · rintro q h3 ⟨rfl, rfl⟩
              refine cnd_dec (fun g3 => ?_) (fun g3 => hJ _ _ ⟨rfl, h1, g2, g3⟩)
              rw [if_pos g3] at hk
              rw [wrap_u8, w64_id (x := ((b.toNat : Int) - 65) % 256) (by omega) (by omega), w64_id (by omega) (by omega)]
              have e : ((b.toNat : Int) - 65) % 256 + 10 = ((b.toNat - 55 : Nat) : Int) := by omega
              rw [e]
              exact hk
            · intro J3 hJ3
              refine cnd_dec (fun h1 => hJ3 _ _ ⟨rfl, ?_⟩) (fun h1 => hJ3 _ _ ⟨rfl, (decide_eq_false (by omega)).symm⟩)
              rw [Bool.eq_iff_iff, decide_eq_true_eq, decide_eq_true_eq]; omega
        · intro J2 hJ2
          refine cnd_dec (fun h1 => hJ2 _ _ ⟨rfl, ?_⟩) (fun h1 => hJ2 _ _ ⟨rfl, (decide_eq_false (by omega)).symm⟩)
          rw [Bool.eq_iff_iff, decide_eq_true_eq, decide_eq_true_eq]; omega
    · intro J2 hJ2
      refine cnd_dec (fun h1 => hJ2 _ _ ⟨rfl, ?_⟩) (fun h1 => hJ2 _ _ ⟨rfl, (decide_eq_false (by omega)).symm⟩)
      rw [Bool.eq_iff_iff, decide_eq_true_eq, decide_eq_true_eq]; omega

theorem size16_spec {h : Heap} {s : ByteArray} (hs : s.size ≤ 1000000000) {R : Int → Heap → Prop} (hsome : ∀ m : Nat, sizeF (bl s) = some m → m < 4294967296 → R (m : Int) h) (hnone : sizeF (bl s) = none → R (-1) h) : CallT Try.prog ref16_size_no [.string s] h [.sc (.int .i64)] R := by
  apply ref16_size_call
  unfold ref16_size
  refine cut3_spec (c := 59) (by omega) ?_
  have cl := cutAt_len 59 (bl s)
  have hdf : sizeF (bl s) = if decide ((cutAt 59 (bl s)).1.length < 1) || (decide (8 < (cutAt 59 (bl s)).1.length) || !valueL (cutAt 59 (bl s)).2.1) then none else hexF 0 (cutAt 59 (bl s)).1 := rfl
  have hl := bl_len s
  generalize cutAt 59 (bl s) = cv at *
  obtain ⟨a, b, c⟩ := cv
  simp only at cl hdf ⊢
  have sa := ofL_size a
  have sb := ofL_size b
  refine withJ.intro (fun _ h' => h' = h ∧ a.length ≤ 8 ∧ sizeF (bl s) = hexF 0 a) ?_ ?_
  · rintro _ h' ⟨rfl, ha, e⟩
    rw [e] at hsome hnone
    refine LoopT.intro (fun (t : Int × Int) h2 => h2 = h' ∧ 0 ≤ t.2 ∧ t.2 ≤ a.length ∧ ∃ acc : Nat, t.1 = (acc : Int) ∧ acc < 16 ^ t.2.toNat ∧ hexF acc (a.drop t.2.toNat) = hexF 0 a) (fun t _ => (a.length - t.2).toNat) ⟨rfl, by simp, by simp, 0, rfl, by simp, by simp⟩ ?_
    rintro ⟨n, i⟩ h2 ⟨rfl, p1, p2, acc, p3, p4, p5⟩
    replace p1 : 0 ≤ i := p1
    replace p2 : i ≤ a.length := p2
    replace p3 : n = (acc : Int) := p3
    replace p4 : acc < 16 ^ i.toNat := p4
    replace p5 : hexF acc (a.drop i.toNat) = hexF 0 a := p5
    subst p3
    have v1 : 16 ^ i.toNat ≤ 16 ^ 8 := Nat.pow_le_pow_right (by omega) (by omega)
    have v2 : (16 : Nat) ^ 8 = 4294967296 := by decide
    show cnd (decide (i < ((ofL a).size : Int))) _ _
    rw [sa]
    refine cnd_dec (fun hi => ?_) (fun hi => ?_)
    · have hil : i.toNat < a.length := by omega
      have hg : a[i.toNat]? = some a[i.toNat] := List.getElem?_eq_getElem hil
      rw [List.drop_eq_getElem_cons hil] at p5
      generalize a[i.toNat] = x at hg p5
      have hga : (bl (ofL a))[i.toNat]? = some x := by rw [bl_ofL]; exact hg
      have p5' : (match hvx x with | some d => hexF (16 * acc + d) (a.drop (i.toNat + 1)) | none => none) = hexF 0 a := p5
      refine sidx_i p1 hga ?_
      refine digitx_spec ?_
      cases hd : hvx x with
      | none =>
        rw [hd] at p5'
        exact cnd_t rfl (hnone p5'.symm)
      | some d =>
        rw [hd] at p5'
        have hdl := hvx_lt hd
        have v3 : 16 ^ i.toNat ≤ 16 ^ 7 := Nat.pow_le_pow_right (by omega) (by omega)
        have v4 : (16 : Nat) ^ 7 = 268435456 := by decide
        refine cnd_neg (by show ¬ ((d : Int) < 0); omega) ?_
        show (h2 = h2 ∧ 0 ≤ w64 (i + 1) ∧ w64 (i + 1) ≤ a.length ∧ ∃ a' : Nat, w64 (w64 (16 * (acc : Int)) + (d : Int)) = (a' : Int) ∧ a' < 16 ^ (w64 (i + 1)).toNat ∧ hexF a' (a.drop (w64 (i + 1)).toNat) = hexF 0 a) ∧ (a.length - w64 (i + 1)).toNat < (a.length - i).toNat
        rw [w64_id (x := i + 1) (by omega) (by omega), show (i + 1).toNat = i.toNat + 1 by omega, w64_id (x := 16 * (acc : Int)) (by omega) (by omega), w64_id (x := 16 * (acc : Int) + (d : Int)) (by omega) (by omega)]
        exact ⟨⟨rfl, by omega, by omega, 16 * acc + d, by omega, by rw [Nat.pow_succ]; omega, p5'⟩, by omega⟩
    · rw [List.drop_eq_nil_of_le (by omega)] at p5
      exact hsome acc p5.symm (by omega)
  · intro J hJ
    refine withJ.intro (fun (q : Bool) h' => h' = h ∧ q = (decide (a.length < 1) || (decide (8 < a.length) || !valueL b))) ?_ ?_
    · rintro q h' ⟨rfl, hq⟩
      rw [← hq] at hdf
      refine cnd_of (fun e => ?_) (fun e => ?_)
      · rw [e, if_pos rfl] at hdf
        exact hnone hdf
      · rw [e, if_neg (by simp)] at hdf
        rw [e] at hq
        refine hJ _ _ ⟨rfl, ?_, hdf⟩
        have : decide (8 < a.length) = false := by
          cases hh : decide (8 < a.length) with
          | false => rfl
          | true => rw [hh] at hq; simp at hq
        have := of_decide_eq_false this
        omega
    · intro J2 hJ2
      rw [sa]
      refine cnd_dec (fun h1 => hJ2 _ _ ⟨rfl, ?_⟩) (fun h1 => ?_)
      · rw [decide_eq_true (show a.length < 1 by omega)]; rfl
      · refine cnd_dec (fun h2 => hJ2 _ _ ⟨rfl, ?_⟩) (fun h2 => ?_)
        · rw [decide_eq_false (show ¬ a.length < 1 by omega), decide_eq_true (show 8 < a.length by omega)]; rfl
        · rw [decide_eq_false (show ¬ 8 < a.length by omega)] at hJ2
          refine value3_spec (by omega) (hJ2 _ _ ⟨rfl, ?_⟩)
          rw [bl_ofL, decide_eq_false (show ¬ a.length < 1 by omega)]
          rfl

/-! ### chunks -/
structure CkI (h : Heap) (p : Nat) (s : ByteArray) (at0 head lines : Nat) (o : Sl) (b : List UInt8) (n : Nat) (h' : Heap) : Prop where
  own : Own h h' 1 o (b.map byteV)
  row : Row h' p (dRow s (at0 + n) head lines false 0)
  a2 : at0 + n ≤ s.size
  l2 : b.length ≤ 1048576
  kp : Keep (· = p) h h'
  eq : addB n (piecesF ((bl s).drop (at0 + n)) b head (100 - lines)) = piecesF ((bl s).drop at0) [] head (100 - lines)

theorem chunks16_spec {h : Heap} {p : Nat} {s : ByteArray} {at0 head lines : Nat} (r : Row h p (dRow s at0 head lines false 0)) (hs : s.size ≤ 4000000000000) (hat : at0 ≤ s.size) (hhd : head ≤ 100000) (hln : lines ≤ 100) {R : Sl × Bool → Heap → Prop}
    (hok : ∀ o b n h', piecesF ((bl s).drop at0) [] head (100 - lines) = .ok (b, n) → Own h h' 1 o (b.map byteV) → (∃ c d : Nat, Row h' p (dRow s (at0 + n) c d false 0)) → Keep (· = p) h h' → R (o, true) h')
    (hno : ∀ o f h', piecesF ((bl s).drop at0) [] head (100 - lines) = .error f → DStop h' p s f → Keep (· = p) h h' → R (o, false) h') :
    CallT Try.prog ref16_Reader_chunks_no [.pointer (some ⟨p, 0, none⟩)] h [.sc .sl, .sc .bool] R := by
  apply ref16_Reader_chunks_call
  simp only [ref16_Reader_chunks, nn_eq, add_mk]
  have hl := bl_len s
  have hplt := r.lt
  refine LoopT.intro (fun (o : Sl) h' => ∃ b n, CkI h p s at0 head lines o b n h') (fun o _ => 1048577 - o.len) ⟨[], 0, Own.nil _ _ _, r, hat, by simp, .refl _ _, ?_⟩ ?_
  · rw [Nat.add_zero]
    cases piecesF ((bl s).drop at0) [] head (100 - lines) with
    | ok x => obtain ⟨b, n⟩ := x; simp [addB]
    | error e => rfl
  rintro o h2 ⟨b, n0, own, row, a2, l2, kp, eq⟩
  have olen := own.len
  rw [List.length_map, Nat.mul_one] at olen
  obtain ⟨at_, hat_⟩ : ∃ x, x = at0 + n0 := ⟨_, rfl⟩
  rw [← hat_] at row a2 eq
  have hrl : ((bl s).drop at_).length = s.size - at_ := by rw [List.length_drop]; omega
  have hdrop : ∀ i, ((bl s).drop at_).drop i = (bl s).drop (at_ + i) := fun i => by rw [List.drop_drop]
  have ownK : ∀ {h3}, Keep (· = p) h2 h3 → Own h h3 1 o (b.map byteV) := fun k => own.keep k (fun x hx e => by have := own.fresh x hx; have e' : x = p := e; omega)
  have flt : ∀ (f : Int) o' h3, piecesF ((bl s).drop at_) b head (100 - lines) = .error f → DStop h3 p s f → Keep (· = p) h2 h3 → R (o', false) h3 := fun f o' h3 e st k => by
    rw [e] at eq
    exact hno o' f h3 eq.symm st (kp.trans' k)
  refine line16_spec (bound := 256) row hs a2 (by omega) ?_ ?_
  rotate_left
  · intro f h3 e st k3
    obtain ⟨a, m, rw⟩ := st
    exact cnd_t rfl (flt f _ h3 (piecesF_line e) ⟨_, _, _, _, rw⟩ k3)
  intro l n h3 eL r3 k3
  refine cnd_f rfl ?_
  obtain ⟨i, hi1, hi2, hi3, hi4, hi5, hi6⟩ := lineF_ok eL
  have ll : l.length ≤ 256 := by rw [hi2, List.length_take]; omega
  have sl := ofL_size l
  have r3' := r3
  unfold dRow at r3'
  have st3 : ∀ (f : Int), piecesF ((bl s).drop at_) b head (100 - lines) = .error f → ∀ o', stC ⟨p, 0 + 5, none⟩ (.int .i64 f) h3 fun h11 => R (o', false) h11 := fun f e o' => by
    refine stC_row r3' (by simp) rfl ?_
    intro h4 s4 r4 k4
    exact flt f o' h4 e ⟨_, _, _, _, r4⟩ (k3.trans' k4)
  refine size16_spec (s := ofL l) (by omega) ?_ ?_
  rotate_left
  · intro e
    rw [bl_ofL] at e
    exact cnd_t rfl (st3 308 (piecesF_size eL e) _)
  intro m em hm
  rw [bl_ofL] at em
  refine cnd_neg (by omega) ?_
  rw [w64_id (x := (o.len : Int) + (m : Int)) (by omega) (by omega)]
  refine cnd_dec (fun hb => ?_) (fun hb => ?_)
  · exact st3 324 (piecesF_big eL em (by omega)) _
  have hbig : ¬ 1048576 < b.length + m := by omega
  refine cnd_of (fun h0 => ?_) (fun h0 => ?_)
  · have hm0 : m = 0 := by have := eq_of_beq h0; omega
    subst hm0
    have e0 := piecesF_last (hd := head) (k := 100 - lines) eL em (by omega)
    rw [hdrop] at e0
    refine block16_spec r3 hs (by omega) hhd hln ?_ ?_
    · intro o' l' n' k' h5 e5 ow5 r5 k5
      rw [e5] at e0
      rw [e0] at eq
      refine hok o b (n0 + (n + n')) h5 eq.symm (ownK (k3.trans' k5)) ⟨head + n', 100 - k', ?_⟩ (kp.trans' (k3.trans' k5))
      rw [show at0 + (n0 + (n + n')) = at_ + n + n' by omega]
      exact r5
    · intro f h5 e5 st k5
      rw [e5] at e0
      exact flt f _ h5 e0 st (k3.trans' k5)
  · have hm0 : m ≠ 0 := fun e => by subst e; simp at h0
    have e308 := fun (h5 : badEnd (((bl s).drop at_).drop n) m = true) => piecesF_end (hd := head) (k := 100 - lines) eL em hbig hm0 h5
    have emore := fun (h5 : badEnd (((bl s).drop at_).drop n) m = false) (h6 : ((bl s).drop at_).length < n + m + 2) => piecesF_more (hd := head) (k := 100 - lines) eL em hbig hm0 h5 h6
    have estep := fun (h5 : badEnd (((bl s).drop at_).drop n) m = false) (h6 : ¬ ((bl s).drop at_).length < n + m + 2) => piecesF_step (hd := head) (k := 100 - lines) eL em hbig hm0 h5 h6
    rw [hdrop] at e308 emore estep
    have hdrop2 := hdrop (n + m + 2)
    have hr2 : ((bl s).drop (at_ + n)).length = s.size - (at_ + n) := by rw [List.length_drop]; omega
    have hgt : ∀ j, ((bl s).drop (at_ + n))[j]? = (bl s)[at_ + n + j]? := fun j => by rw [List.getElem?_drop]
    refine withJ.intro (fun _ h' => h' = h3 ∧ badEnd ((bl s).drop (at_ + n)) m = false) ?_ ?_
    · rintro _ h' ⟨rfl, hbe⟩
      refine ldS_row (o := 0) r3' rfl (ldI_row (o := 0 + 1) r3' rfl ?_)
      rw [w64_id (x := (s.size : Int) - ((at_ + n : Nat) : Int)) (by omega) (by omega), w64_id (x := (m : Int) + 2) (by omega) (by omega)]
      refine cnd_dec (fun hlt => ?_) (fun hge => ?_)
      · refine stC_row r3' (by simp) rfl ?_
        intro h4 s4 r4 k4
        exact flt 0 _ h4 (emore hbe (by omega)) ⟨_, _, _, _, r4⟩ (k3.trans' k4)
      · have es := estep hbe (by omega)
        refine ldS_row (o := 0) r3' rfl (ldI_row (o := 0 + 1) r3' rfl (ldI_row (o := 0 + 1) r3' rfl ?_))
        rw [w64_id (x := ((at_ + n : Nat) : Int) + (m : Int)) (by omega) (by omega)]
        refine mid_ssl (k := at_ + n) (i := m) (by omega) ?_
        have st := ofL_size (((bl s).drop (at_ + n)).take m)
        rw [List.length_take, Nat.min_eq_left (by omega)] at st
        rw [st]
        have own3 := ownK k3
        refine own3.app (new := bytesV (ofL (((bl s).drop (at_ + n)).take m))) (m := m) (kp.trans' k3) rfl (by rw [bytesV_length, st, Nat.mul_one]) (bytesV_one _) (by omega) ?_
        intro a' c' h4 q1 q2 q3 q4
        rw [ofL_bytes, ← List.map_append] at q1
        have r4 : Row h4 p (dRow s (at_ + n) head lines false 0) := q3.row r3 (fun hb => by have := own3.fresh p hb; omega)
        unfold dRow at r4
        refine ldI_row (o := 0 + 1) r4 rfl ?_
        rw [w64_id (x := ((at_ + n : Nat) : Int) + (m : Int)) (by omega) (by omega), w64_id (by omega) (by omega)]
        refine stC_row r4 (by simp) rfl ?_
        intro h5 s5 r5 k5
        show (∃ b n, CkI h p s at0 head lines ⟨a', o.len + m, c'⟩ b n h5) ∧ 1048577 - (o.len + m) < 1048577 - o.len
        refine ⟨⟨b ++ ((bl s).drop (at_ + n)).take m, n0 + (n + m + 2), ?_, ?_, by omega, by rw [List.length_append, List.length_take]; omega, q2.trans' k5, ?_⟩, by omega⟩
        · exact q1.keep k5 (fun x hx e => by have := q1.fresh x hx; have e' : x = p := e; omega)
        · have e1 : (((at_ + n : Nat) : Int) + (m : Int) + 2) = ((at0 + (n0 + (n + m + 2)) : Nat) : Int) := by omega
          unfold dRow
          rw [← e1]
          exact r5
        · rw [← eq, es, addB_add, hdrop2, show at0 + (n0 + (n + m + 2)) = at_ + (n + m + 2) by omega]
    · intro J hJ
      refine withJ.intro (fun (q : Bool) h' => h' = h3 ∧ q = badEnd ((bl s).drop (at_ + n)) m) ?_ ?_
      · rintro q h' ⟨rfl, hq⟩
        refine cnd_of (fun e => st3 308 (e308 (by rw [← hq, e])) _) (fun e => hJ _ _ ⟨rfl, by rw [← hq, e]⟩)
      · intro J2 hJ2
        refine ldS_row (o := 0) r3' rfl (ldI_row (o := 0 + 1) r3' rfl ?_)
        rw [w64_id (x := (s.size : Int) - ((at_ + n : Nat) : Int)) (by omega) (by omega)]
        have second : (badEnd ((bl s).drop (at_ + n)) m = (decide (m + 1 < ((bl s).drop (at_ + n)).length) && !decide (((bl s).drop (at_ + n))[m + 1]? = some 10))) →
            ldS ⟨p, 0, none⟩ h3 fun s52 => ldI .i64 ⟨p, 0 + 1, none⟩ h3 fun n54 => cnd (decide ((w64 ((s52.size : Int) - n54)) > (w64 ((m : Int) + 1)))) (
              ldS ⟨p, 0, none⟩ h3 fun s56 => ldI .i64 ⟨p, 0 + 1, none⟩ h3 fun n58 => sidx s56 (w64 ((w64 (n58 + (m : Int))) + 1)) fun u59 => J2 ((u59.toNat : Int) != 10) h3) (J2 false h3) := by
          intro hb
          refine ldS_row (o := 0) r3' rfl (ldI_row (o := 0 + 1) r3' rfl ?_)
          rw [w64_id (x := (s.size : Int) - ((at_ + n : Nat) : Int)) (by omega) (by omega), w64_id (x := (m : Int) + 1) (by omega) (by omega)]
          refine cnd_dec (fun h1 => ?_) (fun h1 => hJ2 _ _ ⟨rfl, ?_⟩)
          · have hlt : m + 1 < ((bl s).drop (at_ + n)).length := by omega
            have hg : ((bl s).drop (at_ + n))[m + 1]? = some ((bl s).drop (at_ + n))[m + 1] := List.getElem?_eq_getElem hlt
            generalize ((bl s).drop (at_ + n))[m + 1] = x at hg
            refine ldS_row (o := 0) r3' rfl (ldI_row (o := 0 + 1) r3' rfl ?_)
            rw [w64_id (x := ((at_ + n : Nat) : Int) + (m : Int)) (by omega) (by omega), w64_id (by omega) (by omega)]
            refine sidx_i (b := x) (by omega) ?_ (hJ2 _ _ ⟨rfl, ?_⟩)
            · rw [hgt] at hg
              rw [show (((at_ + n : Nat) : Int) + (m : Int) + 1).toNat = at_ + n + (m + 1) by omega]
              exact hg
            · rw [hb, decide_eq_true hlt, hg]
              have := beq_c x 10 (by decide)
              rw [bne, show ((x.toNat : Int) == 10) = (x == 10) from this]
              rw [Bool.eq_iff_iff]; simp
          · rw [hb, decide_eq_false (show ¬ m + 1 < ((bl s).drop (at_ + n)).length by omega)]; rfl
        refine cnd_dec (fun h1 => ?_) (fun h1 => second ?_)
        · have hlt : m < ((bl s).drop (at_ + n)).length := by omega
          have hg : ((bl s).drop (at_ + n))[m]? = some ((bl s).drop (at_ + n))[m] := List.getElem?_eq_getElem hlt
          generalize ((bl s).drop (at_ + n))[m] = x at hg
          refine ldS_row (o := 0) r3' rfl (ldI_row (o := 0 + 1) r3' rfl ?_)
          rw [w64_id (x := ((at_ + n : Nat) : Int) + (m : Int)) (by omega) (by omega)]
          refine sidx_i (b := x) (by omega) ?_ ?_
          · rw [hgt] at hg
            rw [show (((at_ + n : Nat) : Int) + (m : Int)).toNat = at_ + n + m by omega]
            exact hg
          have hbq := beq_c x 13 (by decide)
          rw [bne, show ((x.toNat : Int) == 13) = (x == 13) from hbq]
          refine cnd_of (fun e => hJ2 _ _ ⟨rfl, ?_⟩) (fun e => second ?_)
          · unfold badEnd
            rw [decide_eq_true hlt, hg]
            have : x ≠ 13 := by simpa using e
            simp [this]
          · unfold badEnd
            have : x = 13 := by simpa using e
            rw [hg, this]
            simp
        · unfold badEnd
          rw [decide_eq_false (show ¬ m < ((bl s).drop (at_ + n)).length by omega)]
          rfl
end Go.Proofs.Ytjpmjhnjdnbopaa
