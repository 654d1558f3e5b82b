/- The program's reader: header lines. -/
import Derived.Test.YtjpmjhnjdnbopaaPParse
namespace Go.Proofs.Ytjpmjhnjdnbopaa
open Go D
set_option linter.unusedVariables false
set_option linter.unusedSimpArgs false

theorem ofL_inj {a b : List UInt8} (h : ofL a = ofL b) : a = b := by rw [← bl_ofL a, h, bl_ofL]
theorem keepP {p : Nat} {a b c : Heap} (h1 : Keep (· = p) a b) (h2 : Nw b c) : Keep (· = p) a c := h1.trans h2 (fun _ _ h => h.elim)
theorem MaxG.kp {h h' : Heap} {p : Nat} (hg : MaxG h) (hp : p ≠ 0) (hk : Keep (· = p) h h') : MaxG h' := hg.keep hk (fun e => hp e.symm)
theorem MaxG.nw {h h' : Heap} (hg : MaxG h) (hk : Nw h h') : MaxG h' := hg.keep hk (fun h => h)

structure HdI (h : Heap) (p : Nat) (s : ByteArray) (at0 lines0 chunks : Nat) (o : Sl) (acc : List HP) (at_ lines : Nat) (h' : Heap) : Prop where
  own : Own h h' 2 o (hdV acc)
  row : Row h' p (rdRow s at_ lines chunks 0)
  a1 : at0 ≤ at_
  a2 : at_ ≤ s.size
  l1 : lines ≤ 100
  l2 : acc.length ≤ lines
  kp : Keep (· = p) h h'
  eq : addH acc (at_ - at0) (headersF (100 - lines) ((bl s).drop at_) (at_ - chunks)) = headersF (100 - lines0) ((bl s).drop at0) (at0 - chunks)

theorem headers_spec {h : Heap} {p : Nat} {s : ByteArray} {at0 lines0 chunks : Nat} (r : Row h p (rdRow s at0 lines0 chunks 0)) (hg : MaxG h) (hp : p ≠ 0) (hs : s.size ≤ 1000000000) (hat : at0 ≤ s.size) (hch : chunks ≤ at0) (hln : lines0 ≤ 100) {R : Sl × Bool → Heap → Prop}
    (hok : ∀ o l n k h', headersF (100 - lines0) ((bl s).drop at0) (at0 - chunks) = .ok (l, n, k) → Own h h' 2 o (hdV l) → Row h' p (rdRow s (at0 + n) (100 - k) chunks 0) → Keep (· = p) h h' → R (o, true) h')
    (hno : ∀ f h', headersF (100 - lines0) ((bl s).drop at0) (at0 - chunks) = .error f → Stop h' p s f → Keep (· = p) h h' → R (⟨none, 0, 0⟩, false) h') :
    CallT Try.prog http_reader_headers_no [.pointer (some ⟨p, 0, none⟩)] h [.sc .sl, .sc .bool] R := by
  apply http_reader_headers_call
  simp only [http_reader_headers, nn_eq, add_mk]
  have hl := bl_len s
  have hplt := r.lt
  refine withJ.intro (fun _ h' => ∃ f, headersF (100 - lines0) ((bl s).drop at0) (at0 - chunks) = .error f ∧ Stop h' p s f ∧ Keep (· = p) h h') (fun _ h' hh => by obtain ⟨f, e1, e2, e3⟩ := hh; exact hno f h' e1 e2 e3) ?_
  intro J2 hJ2
  refine LoopT.intro (fun (o : Sl) h' => ∃ acc at_ lines, HdI h p s at0 lines0 chunks o acc at_ lines h') (fun o _ => 101 - o.len) ⟨[], at0, lines0, Own.nil _ _ _, r, Nat.le_refl _, hat, hln, by simp, .refl _ _, ?_⟩ ?_
  · rw [Nat.sub_self]
    cases headersF (100 - lines0) ((bl s).drop at0) (at0 - chunks) with
    | ok x => obtain ⟨l, n, k⟩ := x; simp [addH]
    | error e => rfl
  rintro o h2 ⟨acc, at_, lines, own, row, a1, a2, l1, l2, kp, eq⟩
  have row' := row
  unfold rdRow at row'
  refine ldS_row (o := 0) row' rfl (ldI_row (o := 0 + 1) row' rfl ?_)
  refine rest_ssl a2 ?_
  have hrl : ((bl s).drop at_).length = s.size - at_ := by rw [List.length_drop]; omega
  have hdrop : ∀ i, ((bl s).drop at_).drop i = (bl s).drop (at_ + i) := fun i => by rw [List.drop_drop]
  generalize hrest : (bl s).drop at_ = rest at *
  have hsz := ofL_size rest
  refine indexS_spec (by omega) (hg.kp hp kp) ?_
  rw [bl_ofL]
  have olen := own.len
  rw [hdV_len] at olen
  -- a fault
  have flt : ∀ f : Int, headersF (100 - lines) rest (at_ - chunks) = .error f → ∀ h3, Stop h3 p s f → Keep (· = p) h2 h3 → J2 () h3 := fun f e h3 st k => by
    rw [e] at eq
    exact hJ2 () h3 ⟨f, eq.symm, st, kp.trans' k⟩
  have st339 : headersF (100 - lines) rest (at_ - chunks) = .error 339 → stC ⟨p, 0 + 4, none⟩ (.int .i64 339) h2 fun h56 => J2 () h56 := fun e => by
    refine stC_row row' (by simp) rfl ?_
    intro h3 s3 r3 k3
    exact flt 339 e h3 ⟨_, _, _, r3⟩ k3
  have hd : w64 ((at_ : Int) - (chunks : Int)) = ((at_ - chunks : Nat) : Int) := by rw [w64_id (by omega) (by omega)]; omega
  obtain ⟨r12, hr⟩ : ∃ x, x = oI (crlf rest) := ⟨_, rfl⟩
  rw [← hr]
  cases hc : crlf rest with
  | none =>
    rw [hc] at hr
    replace hr : r12 = -1 := hr
    subst hr
    have e0 := headersF_no (k := 100 - lines) (hd := at_ - chunks) hc
    refine withJ.intro (fun _ _ => False) (fun _ _ hh => hh.elim) ?_
    intro J15 _
    refine withJ.intro (fun (b : Bool) h' => h' = h2 ∧ b = decide (65536 < at_ - chunks + rest.length)) ?_ ?_
    · rintro b h' ⟨rfl, rfl⟩
      refine cnd_dec (fun e => ?_) (fun e => ?_)
      · rw [if_pos e] at e0
        exact st339 e0
      · rw [if_neg e] at e0
        exact cnd_t rfl (flt 0 e0 h' ⟨_, _, _, row⟩ (.refl _ _))
    · intro J53 hJ53
      refine withJ.intro (fun (b : Bool) h' => h' = h2 ∧ b = decide (65536 < at_ - chunks + rest.length)) ?_ ?_
      · rintro b h' ⟨rfl, hb⟩
        refine cnd_of (fun e => hJ53 _ _ ⟨rfl, hb⟩) (fun e => ?_)
        refine withJ.inl (cnd_f rfl (cnd_f rfl (cnd_f rfl (hJ53 _ _ ⟨rfl, ?_⟩))))
        rw [← hb, e]
      · intro J63 hJ63
        refine cnd_t rfl (ldI_row (o := 0 + 1) row' rfl (ldI_row (o := 0 + 3) row' rfl (hJ63 _ _ ⟨rfl, ?_⟩)))
        rw [hd, hsz, w64_id (by omega) (by omega), Bool.eq_iff_iff, decide_eq_true_eq, decide_eq_true_eq]
        omega
  | some i =>
    rw [hc] at hr
    replace hr : r12 = (i : Int) := hr
    subst hr
    have hlt := crlf_lt hc
    have big : w64 (w64 (w64 ((at_ : Int) - (chunks : Int)) + (i : Int)) + 2) = ((at_ - chunks + i + 2 : Nat) : Int) := by
      rw [hd, w64_id (x := ((at_ - chunks : Nat) : Int) + (i : Int)) (by omega) (by omega), w64_id (by omega) (by omega)]; omega
    refine withJ.intro (fun (o' : Sl) h' => o' = o ∧ h' = h2 ∧ i ≠ 0 ∧ ¬ 65536 < at_ - chunks + i + 2 ∧ lines ≠ 100) ?_ ?_
    · rintro o' h' ⟨rfl, rfl, hi0, hnb, hl100⟩
      obtain ⟨k, hk⟩ : ∃ k, 100 - lines = k + 1 := ⟨100 - lines - 1, by omega⟩
      have e0 := headersF_step (k := k) (hd := at_ - chunks) hc hi0 hnb
      rw [← hk] at e0
      refine pre_ssl (by omega) ?_
      have hts := ofL_size (rest.take i)
      rw [List.length_take] at hts
      refine cut_spec (c := 58) rfl (by omega) ?_
      rw [bl_ofL]
      have cl := cutAt_len 58 (rest.take i)
      rw [List.length_take] at cl
      have hf : headF (rest.take i) = if bareL (rest.take i) || (!(cutAt 58 (rest.take i)).2.2 || (!tokenL (cutAt 58 (rest.take i)).1 || !valueL (cutAt 58 (rest.take i)).2.1)) then none else some (ofL (lowerL (cutAt 58 (rest.take i)).1), ofL (trimL (cutAt 58 (rest.take i)).2.1)) := rfl
      generalize hcv : cutAt 58 (rest.take i) = cv at cl hf ⊢
      obtain ⟨n, v, c⟩ := cv
      simp only at cl hf ⊢
      have sn := ofL_size n
      have sv := ofL_size v
      refine withJ.intro (fun _ h3 => Nw h' h3 ∧ headF (rest.take i) = some (ofL (lowerL n), ofL (trimL v))) ?_ ?_
      · rintro _ h3 ⟨k3, hsome⟩
        rw [hsome] at e0
        simp only at e0
        have r3 := k3.row row (fun h => h)
        unfold rdRow at r3
        refine ldI_row (o := 0 + 1) r3 rfl ?_
        rw [w64_id (x := (i : Int) + 2) (by omega) (by omega), w64_id (by omega) (by omega)]
        refine stC_row r3 (by simp) rfl ?_
        intro h4 s4 r4 k4
        refine ldI_row (o := 0 + 2) r4 rfl ?_
        rw [w64_id (by omega) (by omega)]
        refine stC_row r4 (by simp) rfl ?_
        intro h5 s5 r5 k5
        have r5' : Row h5 p (rdRow s (at_ + (i + 2)) (lines + 1) chunks 0) := by
          have e1 : ((at_ : Int) + ((i : Int) + 2)) = ((at_ + (i + 2) : Nat) : Int) := by omega
          have e2 : ((lines : Int) + 1) = ((lines + 1 : Nat) : Int) := by omega
          unfold rdRow
          rw [← e1, ← e2]
          exact r5
        refine lower_spec (by omega) ?_
        intro h6 k6
        rw [bl_ofL]
        refine trim_spec (by omega) ?_
        rw [bl_ofL]
        have K5 : Keep (· = p) h' h5 := ((k3.mono (fun _ _ h => h.elim)).trans' k4).trans' k5
        have K6 : Keep (· = p) h' h6 := keepP K5 k6
        have own6 : Own h h6 2 o' (hdV acc) := own.keep K6 (fun b hb e => by have := own.fresh b hb; have e' : b = p := e; omega)
        refine own6.push (kp.trans' K6) rfl rfl rfl (fun x hx => by simp at hx; rcases hx with rfl | rfl <;> rfl) (by omega) ?_
        intro a' c' h7 q1 q2 q3 q4
        show (∃ acc at_ lines, HdI h p s at0 lines0 chunks ⟨a', o'.len + 1, c'⟩ acc at_ lines h7) ∧ 101 - (o'.len + 1) < 101 - o'.len
        refine ⟨⟨acc ++ [(ofL (lowerL n), ofL (trimL v))], at_ + (i + 2), lines + 1, ?_, ?_, by omega, by omega, by omega, by simp; omega, q2, ?_⟩, by omega⟩
        · rw [hdV_snoc]; exact q1
        · refine q3.row (k6.row r5' (fun h => h)) (fun hb => ?_)
          have := own.fresh p hb
          omega
        · rw [← eq, e0, addH_cons, hdrop, show 100 - (lines + 1) = k by omega, show at_ - chunks + i + 2 = at_ + (i + 2) - chunks by omega, show at_ - at0 + (i + 2) = at_ + (i + 2) - at0 by omega]
      · intro J21 hJ21
        refine withJ.intro (fun (b : Bool) h3 => Nw h' h3 ∧ b = (bareL (rest.take i) || (!c || (!tokenL n || !valueL v)))) ?_ ?_
        · rintro b h3 ⟨k3, hb⟩
          rw [← hb] at hf
          refine cnd_of (fun e => ?_) (fun e => hJ21 _ _ ⟨k3, by rw [hf, e]; rfl⟩)
          rw [e, if_pos rfl] at hf
          rw [hf] at e0
          have r3 := k3.row row (fun h => h)
          unfold rdRow at r3
          refine stC_row r3 (by simp) rfl ?_
          intro h4 s4 r4 k4
          exact flt 308 e0 h4 ⟨_, _, _, r4⟩ ((k3.mono (fun _ _ h => h.elim)).trans' k4)
        · intro J42 hJ42
          refine bare_spec (by omega) ?_
          intro h3 k3
          rw [bl_ofL]
          refine cnd_of (fun e => hJ42 _ _ ⟨k3, by rw [e]; rfl⟩) (fun e => ?_)
          refine cnd_of (fun e2 => hJ42 _ _ ⟨k3, by rw [e, e2]; rfl⟩) (fun e2 => ?_)
          refine token_spec (by omega) ?_
          rw [bl_ofL]
          refine cnd_of (fun e3 => hJ42 _ _ ⟨k3, by rw [e, e2, e3]; rfl⟩) (fun e3 => ?_)
          refine value_spec (by omega) ?_
          rw [bl_ofL]
          exact hJ42 _ _ ⟨k3, by rw [e, e2, e3]; rfl⟩
    · intro J15 hJ15
      refine withJ.intro (fun (b : Bool) h' => h' = h2 ∧ b = (decide (65536 < at_ - chunks + i + 2) || (decide (0 < i) && decide (lines = 100)))) ?_ ?_
      · rintro b h' ⟨rfl, rfl⟩
        refine cnd_of (fun e => ?_) (fun e => ?_)
        · refine st339 ?_
          by_cases hb : 65536 < at_ - chunks + i + 2
          · exact headersF_big hc hb
          · rw [decide_eq_false hb] at e
            simp at e
            rw [e.2]
            exact headersF_many hc (by omega)
        · simp at e
          refine cnd_neg (by omega) ?_
          refine cnd_of (fun e2 => ?_) (fun e2 => ?_)
          · have hi0 : i = 0 := by have := eq_of_beq e2; omega
            subst hi0
            have e0 := headersF_end (k := 100 - lines) (hd := at_ - chunks) hc (by omega)
            rw [e0] at eq
            refine ldI_row (o := 0 + 1) row' rfl ?_
            rw [w64_id (by omega) (by omega)]
            refine stC_row row' (by simp) rfl ?_
            intro h3 s3 r3 k3
            have own3 : Own h h3 2 o (hdV acc) := own.keep k3 (fun b hb e => by have := own.fresh b hb; have e' : b = p := e; omega)
            have hf := Own.cut (K := fun o l c => R (⟨o, l, c⟩, true) h3) own3 (fun a2 q3 _ => hok _ acc (at_ - at0 + 2) (100 - lines) h3 (by rw [← eq]; simp [addH]) q3 (by
              have e1 : ((at_ : Int) + 2) = ((at0 + (at_ - at0 + 2) : Nat) : Int) := by omega
              have e2 : (lines : Int) = ((100 - (100 - lines) : Nat) : Int) := by omega
              unfold rdRow
              rw [← e1, ← e2]
              exact r3) (kp.trans' k3))
            exact hf
          · have hi0 : i ≠ 0 := fun e3 => by subst e3; simp at e2
            exact hJ15 _ _ ⟨rfl, rfl, hi0, by omega, by omega⟩
      · intro J53 hJ53
        refine withJ.inl ?_
        refine cnd_f (decide_eq_false (by omega)) ?_
        refine cnd_f rfl ?_
        refine withJ.inl ?_
        refine cnd_t (decide_eq_true (by omega)) ?_
        refine ldI_row (o := 0 + 1) row' rfl (ldI_row (o := 0 + 3) row' rfl ?_)
        rw [big]
        refine cnd_dec (fun e => hJ53 _ _ ⟨rfl, ?_⟩) (fun e => ?_)
        · rw [decide_eq_true e, decide_eq_true (show 65536 < at_ - chunks + i + 2 by omega)]; rfl
        · refine cnd_dec (fun e2 => ?_) (fun e2 => hJ53 _ _ ⟨rfl, ?_⟩)
          · refine ldI_row (o := 0 + 2) row' rfl (hJ53 _ _ ⟨rfl, ?_⟩)
            rw [Bool.eq_iff_iff]
            simp
            omega
          · rw [decide_eq_false (show ¬ 65536 < at_ - chunks + i + 2 by omega), decide_eq_false (show ¬ 0 < i by omega)]; rfl
end Go.Proofs.Ytjpmjhnjdnbopaa
