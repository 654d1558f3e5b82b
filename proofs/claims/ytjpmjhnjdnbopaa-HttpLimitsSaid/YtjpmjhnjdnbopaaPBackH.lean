/- What is printed and read as it was takes all its bytes. HttpBack. -/
import Derived.Test.YtjpmjhnjdnbopaaPPrint
namespace Go.Proofs.Ytjpmjhnjdnbopaa
open Go D
set_option linter.unusedVariables false
set_option linter.unusedSimpArgs false

theorem crlf_line : ∀ {L r : List UInt8}, (∀ b ∈ L, b ≠ 13) → crlf (L ++ 13 :: 10 :: r) = some L.length
  | [], r, _ => by simp [crlf]
  | a :: L, r, h => by
    have ih := crlf_line (L := L) (r := r) (fun b hb => h b (by simp [hb]))
    have ha : a ≠ 13 := h a (by simp)
    show crlf (a :: (L ++ 13 :: 10 :: r)) = _
    unfold crlf
    rw [if_neg (fun hh => ha hh.1), ih]
    simp

def joinC (c : UInt8) : List (List UInt8) → List UInt8
  | [] => []
  | [x] => x
  | x :: y :: r => x ++ c :: joinC c (y :: r)
theorem splitA_ne (c : UInt8) : ∀ (s cur : List UInt8), splitA c cur s ≠ []
  | [], cur => by simp [splitA]
  | b :: r, cur => by
    unfold splitA
    split
    · simp
    · exact splitA_ne c r _
theorem joinC_cons {c : UInt8} {x : List UInt8} {l : List (List UInt8)} (h : l ≠ []) : joinC c (x :: l) = x ++ c :: joinC c l := by
  cases l with
  | nil => exact absurd rfl h
  | cons y r => rfl
theorem split_join (c : UInt8) : ∀ (s cur : List UInt8), joinC c (splitA c cur s) = cur ++ s
  | [], cur => by simp [splitA, joinC]
  | b :: r, cur => by
    unfold splitA
    split
    · rename_i hb
      subst hb
      rw [joinC_cons (splitA_ne _ _ _), split_join b r []]
      simp
    · rw [split_join c r (cur ++ [b])]
      simp
theorem cutAt_join {c : UInt8} : ∀ {s : List UInt8}, (cutAt c s).2.2 = true → s = (cutAt c s).1 ++ c :: (cutAt c s).2.1
  | [], h => by simp [cutAt] at h
  | a :: r, h => by
    unfold cutAt at h ⊢
    split
    · rename_i ha
      subst ha
      rfl
    · rename_i ha
      rw [if_neg ha] at h
      have := cutAt_join (s := r) h
      simp only [List.cons_append]
      rw [← this]
theorem lowB_13 {b : UInt8} (h : lowB b = 13) : b = 13 := by
  unfold lowB at h
  split at h
  · rename_i hb
    have := low_iff b hb
    rw [h] at this
    have e : (13 : UInt8).toNat = 13 := rfl
    omega
  · exact h
theorem mem_dropWhile {p : UInt8 → Bool} {b : UInt8} : ∀ {s : List UInt8}, b ∈ s.dropWhile p → b ∈ s
  | [], h => by simp at h
  | a :: r, h => by
    rw [List.dropWhile_cons] at h
    split at h
    · exact List.mem_cons_of_mem _ (mem_dropWhile h)
    · exact h
theorem mem_trimL {b : UInt8} {s : List UInt8} (h : b ∈ trimL s) : b ∈ s := by
  unfold trimL at h
  rw [List.mem_reverse] at h
  have h2 := mem_dropWhile h
  rw [List.mem_reverse] at h2
  exact mem_dropWhile h2
theorem bareL_no {s : List UInt8} (h : bareL s = false) : ∀ b ∈ s, b ≠ 13 := by
  intro b hb e
  subst e
  unfold bareL at h
  rw [List.any_eq_false] at h
  exact h _ hb (by decide)

theorem headF_no13 {L : List UInt8} {p : HP} (h : headF L = some p) : ∀ b ∈ bl p.1 ++ [58, 32] ++ bl p.2, b ≠ 13 := by
  unfold headF at h
  split at h
  · cases h
  · rename_i hb
    injection h with h
    subst h
    have hb' : (bareL L || (!(cutAt 58 L).2.2 || (!tokenL (cutAt 58 L).1 || !valueL (cutAt 58 L).2.1))) = false := by simpa using hb
    simp only [Bool.or_eq_false_iff] at hb'
    have hc : (cutAt 58 L).2.2 = true := by simpa using hb'.2.1
    have hj := cutAt_join hc
    have no := bareL_no hb'.1
    intro b hbm e
    subst e
    rw [bl_ofL, bl_ofL] at hbm
    simp only [List.mem_append] at hbm
    rcases hbm with (hbm | hbm) | hbm
    · unfold lowerL at hbm
      obtain ⟨x, hx, hx2⟩ := List.mem_map.1 hbm
      have := lowB_13 hx2
      subst this
      exact no 13 (by rw [hj]; simp [hx]) rfl
    · simp at hbm
    · exact no 13 (by rw [hj]; simp [mem_trimL hbm]) rfl

theorem head_len : ∀ {hs : List HP} {k hd : Nat} {X : List UInt8} {c k' : Nat}, headersF k (hdLines hs ++ 13 :: 10 :: X) hd = .ok (hs, c, k') → c = (hdLines hs).length + 2
  | [], k, hd, X, c, k', h => by
    have hc : crlf (hdLines [] ++ 13 :: 10 :: X) = some 0 := crlf_line (L := []) (by simp)
    by_cases hb : 65536 < hd + 0 + 2
    · rw [headersF_big hc hb] at h; cases h
    · rw [headersF_end hc (by omega)] at h
      injection h with h
      injection h with _ h
      injection h with h _
      exact h.symm
  | p :: r, 0, hd, X, c, k', h => by
    unfold headersF at h
    split at h
    · split at h <;> cases h
    · split at h
      · cases h
      · split at h
        · injection h with h
          injection h with h _
          cases h
        · cases h
  | p :: r, k + 1, hd, X, c, k', h => by
    cases hc : crlf (hdLines (p :: r) ++ 13 :: 10 :: X) with
    | none => rw [headersF_no hc] at h; split at h <;> cases h
    | some i =>
      by_cases hb : 65536 < hd + i + 2
      · rw [headersF_big hc hb] at h; cases h
      by_cases hi : i = 0
      · subst hi
        rw [headersF_end hc (by omega)] at h
        injection h with h
        injection h with h _
        cases h
      cases hp : headF ((hdLines (p :: r) ++ 13 :: 10 :: X).take i) with
      | none => rw [headersF_308 hc hi hb hp] at h; cases h
      | some q =>
        rw [headersF_hcons hc hi hb hp] at h
        cases hr : headersF k ((hdLines (p :: r) ++ 13 :: 10 :: X).drop (i + 2)) (hd + i + 2) with
        | error e => rw [hr] at h; cases h
        | ok z =>
          obtain ⟨l, n, k2⟩ := z
          rw [hr] at h
          injection h with h
          injection h with h1 h
          injection h with h2 h3
          injection h1 with h1 h4
          subst h1 h4
          have no := headF_no13 hp
          have e1 : hdLines (q :: l) ++ 13 :: 10 :: X = (bl q.1 ++ [58, 32] ++ bl q.2) ++ 13 :: 10 :: (hdLines l ++ 13 :: 10 :: X) := by
            have : hdLines (q :: l) = hdLine q ++ hdLines l := rfl
            rw [this]
            unfold hdLine
            simp
          rw [e1, crlf_line no] at hc
          injection hc with hc
          have hlen : (bl q.1 ++ [58, 32] ++ bl q.2).length + 2 = (hdLine q).length := by unfold hdLine; simp; omega
          have e2 : (hdLines (q :: l) ++ 13 :: 10 :: X).drop (i + 2) = hdLines l ++ 13 :: 10 :: X := by
            have : hdLines (q :: l) = hdLine q ++ hdLines l := rfl
            rw [this, List.append_assoc, show i + 2 = (hdLine q).length by omega, List.drop_left']
            rfl
          rw [e2] at hr
          have ih := head_len hr
          have : hdLines (q :: l) = hdLine q ++ hdLines l := rfl
          rw [this, List.length_append]
          omega

theorem print_len {m t : ByteArray} {hs : List HP} {body : List UInt8} {n : Nat} (h : requestF (printF m t hs body) = .ok (⟨bl m, bl t, hs, body⟩, n)) : n = (printF m t hs body).length := by
  have hP : printF m t hs body = frontL m t ++ (hdLines hs ++ 13 :: 10 :: body) := by unfold printF; simp
  have hfl : (frontL m t).length = m.size + t.size + 12 := by unfold frontL verL; simp [bl_len]; omega
  generalize hPP : printF m t hs body = P at *
  cases hb : beginF P with
  | error e => rw [reqF_begin hb] at h; cases h
  | ok y =>
    obtain ⟨m', t', n0⟩ := y
    cases hh : headersF 100 (P.drop n0) n0 with
    | error e => rw [reqF_head hb hh] at h; cases h
    | ok z =>
      obtain ⟨hs', c, k⟩ := z
      have hle := (beginF_le hb).1
      obtain ⟨_, hcl, _, _⟩ := headersF_small hh
      rw [List.length_drop] at hcl
      by_cases h3 : (checkF hs').2 = 0
      · -- the request line
        have key : m' = bl m → t' = bl t → n0 = m.size + t.size + 12 := by
          rintro rfl rfl
          unfold beginF at hb
          split at hb
          · cases hb
          · rename_i l n' hL
            obtain ⟨i, g1, g2, g3, _, _, g6⟩ := lineF_ok hL
            split at hb
            · rename_i m2 t2 v hsp
              split at hb
              · rename_i hst
                injection hb with hb
                injection hb with b1 hb
                injection hb with b2 b3
                subst b1 b2
                have hv : v = http11 := by
                  unfold startF at hst
                  split at hst
                  · cases hst
                  · split at hst
                    · rename_i hv; exact absurd hst hv
                    · rename_i hv
                      have hv' : versionF v = 0 := by simpa using hv
                      unfold versionF at hv'
                      split at hv'
                      · cases hv'
                      · split at hv'
                        · assumption
                        · cases hv'
                have hj := split_join 32 l []
                unfold splitL at hsp
                rw [hsp] at hj
                simp only [joinC, List.nil_append] at hj
                have hll : l.length = m.size + t.size + 10 := by
                  rw [← hj, hv]
                  simp [bl_len, http11]
                  omega
                have : l.length = i := by rw [g2, List.length_take]; omega
                omega
              · cases hb
            · cases hb
        by_cases h4 : (checkF hs').1 < 0
        · rw [reqF_rpc hb hh h3 h4] at h
          cases hp : piecesF (P.drop (n0 + c)) [] (n0 + c) k with
          | error e => rw [hp] at h; cases h
          | ok w =>
            obtain ⟨b, d⟩ := w
            have g2 := piecesF_short _ (Nat.le_refl _) hp
            have g3 := piecesF_le _ (Nat.le_refl _) hp
            rw [hp] at h
            injection h with h
            injection h with h1 h
            injection h1 with q1 q2 q3 q4
            subst q3 q4
            have hn0 := key q1 q2
            rw [hn0, hP, show m.size + t.size + 12 = (frontL m t).length by omega, List.drop_left'] at hh
            · have hc := head_len hh
              have hPl : P.length = (frontL m t).length + (hdLines hs').length + 2 + b.length := by rw [hP]; simp; omega
              rw [List.length_drop] at g3
              simp at g2
              omega
            · rfl
        · by_cases h5 : P.length - (n0 + c) < (checkF hs').1.toNat
          · rw [reqF_short hb hh h3 h4 h5] at h; cases h
          · rw [reqF_ok hb hh h3 h4 h5] at h
            injection h with h
            injection h with h1 h
            injection h1 with q1 q2 q3 q4
            subst q3
            have hn0 := key q1 q2
            rw [hn0, hP, show m.size + t.size + 12 = (frontL m t).length by omega, List.drop_left'] at hh
            · have hc := head_len hh
              have hPl : P.length = (frontL m t).length + (hdLines hs').length + 2 + body.length := by rw [hP]; simp; omega
              have hl := congrArg List.length q4
              rw [List.length_take, List.length_drop] at hl
              omega
            · rfl
      · rw [reqF_check hb hh h3] at h; cases h

theorem httpBack_spec {h : Heap} {n : Nat} {m t : ByteArray} {hl bo : Sl} {hs : List HP} {body : List UInt8} {x1 : Sl} {more : List UInt8} (hg : MaxG h) (ha : ReqA h n m t hl bo hs body) (hn : n ≤ 1048576) (hm : Rb h x1.a x1.len more) (hml : x1.len ≤ 1048576) {R : Bool → Heap → Prop} (hR : ∀ h', Nw h h' → R true h') :
    CallT Try.prog 10 [.agg #[.string m, .string t, .slice hl.a hl.len hl.cap, .slice bo.a bo.len bo.cap], .slice x1.a x1.len x1.cap] h [.sc .bool] R := by
  have hcall := law16_HttpBack_call (r_0 := (m, t, hl, bo)) (more_1 := x1) (R := R) (h := h)
  apply hcall
  unfold law16_HttpBack
  have htot := ha.tot
  have hhl := hdLines_len hs
  have hln := ha.hd.1
  have hblen := ha.rb.len
  have hmlen := hm.len
  have hfl : (frontL m t).length = m.size + t.size + 12 := by unfold frontL verL; simp [bl_len]; omega
  have hPl : (printF m t hs body).length = (frontL m t).length + (hdLines hs).length + 2 + body.length := by unfold printF; simp; omega
  refine newB_row ?_
  intro h2 s2 r2 k2
  replace r2 : Row h2 h.size [.string m, .string t, .slice hl.a hl.len hl.cap, .slice bo.a bo.len bo.cap] := r2
  simp only [add_mk]
  have at_ : ∀ {h'}, Nw h h' → ReqA h' n m t hl bo hs body := fun k => ⟨ha.hd.keep0 k, ha.hc, Rb.nwK ha.rb k, ha.bc, ha.tot⟩
  have ld4 : ∀ {h'} {K : ByteArray → ByteArray → Option Addr → Nat → Nat → Option Addr → Nat → Nat → Prop}, Row h' h.size [.string m, .string t, .slice hl.a hl.len hl.cap, .slice bo.a bo.len bo.cap] → K m t hl.a hl.len hl.cap bo.a bo.len bo.cap →
      ldS ⟨h.size, 0, none⟩ h' fun s3 => ldS ⟨h.size, 0 + 1, none⟩ h' fun s4 => ldL ⟨h.size, 0 + 2, none⟩ h' fun o5 l5 c5 => ldL ⟨h.size, 0 + 3, none⟩ h' fun o6 l6 c6 => K s3 s4 o5 l5 c5 o6 l6 c6 := fun r hK =>
    ldS_row (o := 0) r rfl (ldS_row (o := 0 + 1) r rfl (ldL_row (o := 0 + 2) r rfl (ldL_row (o := 0 + 3) r rfl hK)))
  refine ld4 r2 ?_
  refine print_spec (at_ k2) hn ?_
  intro o7 h8 own7 k8
  have K8 := k2.trans' k8
  have r8 := k8.row r2 (fun h => h)
  have b7 : Rb h8 o7.a o7.len (printF m t hs body) := own7.rv
  have l7 := b7.len
  refine Rb.str b7 ?_
  refine ld4 r8 ?_
  refine print16_spec (at_ K8) hn ?_
  intro o14 h15 own14 k15
  have K15 := K8.trans' k15
  have r15 := k15.row r8 (fun h => h)
  have b7' : Rb h15 o7.a o7.len (printF m t hs body) := Rb.nwK b7 k15
  have b14 : Rb h15 o14.a o14.len (printF m t hs body) := own14.rv
  refine ⟨Rb.str b7' rfl, ?_⟩
  refine Rb.str b14 ?_
  rw [seq_self]
  refine cnd_f rfl ?_
  refine parse16_all b7' (by omega) ?_
  intro w h19 st1 k19
  refine lay9_spec (t := 40) ?_
  intro h30 r30 k30
  have K19_30 := k19.trans' k30
  have K30 := K15.trans' K19_30
  have r30q := K19_30.row r15 (fun h => h)
  have aw : ∀ {h'}, Nw h h' → CallT Try.prog law16_awake_no [] h' [.sc .bool] fun (r77 : Bool) h78 => R r77 h78 := fun k => awake_spec (hg.nw k) (fun h2 k2 => hR h2 (k.trans' k2))
  refine withJ.intro (fun _ h33 => Nw h30 h33 ∧ ∃ nn, requestF (printF m t hs body) = .ok (⟨bl m, bl t, hs, body⟩, nn)) ?_ ?_
  · rintro _ h33 ⟨k33, nn, hreq⟩
    have hnn := print_len hreq
    have K33 := K30.trans' k33
    have b7'' : Rb h33 o7.a o7.len (printF m t hs body) := Rb.nwK b7' (K19_30.trans' k33)
    refine newB_row ?_
    intro h35 s35 r35 k35
    refine Rv.rd (Rb.nwK b7'' k35) ?_
    refine (emp_own r35 (Nat.le_refl _)).app (new := (printF m t hs body).map byteV) (m := o7.len) k35 rfl (by rw [List.length_map]; omega) (fun v hv => by obtain ⟨x, _, rfl⟩ := List.mem_map.1 hv; rfl) (by show (2 * (0 + o7.len) + 1024) * 1 ≤ _; omega) ?_
    intro o36 c37 h38 own38 k38 _ _
    rw [List.nil_append] at own38
    have hm38 : Rb h38 x1.a x1.len more := Rb.nwK hm (K33.trans' k38)
    refine Rv.rd hm38 ?_
    refine own38.app (new := more.map byteV) (m := x1.len) k38 rfl (by rw [List.length_map]; omega) (fun v hv => by obtain ⟨x, _, rfl⟩ := List.mem_map.1 hv; rfl) (by show (2 * (0 + o7.len + x1.len) + 1024) * 1 ≤ _; omega) ?_
    intro o40 c41 h42 own42 k42 _ _
    rw [← List.map_append] at own42
    have K42 := K33.trans' k42
    have b42 : Rb h42 o40 (0 + o7.len + x1.len) (printF m t hs body ++ more) := own42.rv
    refine parse_all (x0 := ⟨o40, 0 + o7.len + x1.len, c41⟩) b42 (by show 0 + o7.len + x1.len ≤ _; omega) (hg.nw K42) ?_
    intro s h45 st2 k45
    refine lay9_spec (t := 29) ?_
    intro h56 r56 k56
    have hreq2 := (requestF_app (a := printF m t hs body) (b := more)).1 _ hreq
    obtain ⟨a, b, rfl, sm, o1, o2, _⟩ := st2.ok hreq2
    have k42_56 := k45.trans' k56
    have K56 := K42.trans' k42_56
    have r56q := (k33.trans' (k42.trans' k42_56)).row r30q (fun h => h)
    simp only [add_mk]
    unfold row9 at r56
    refine withJ.intro (fun (q : Bool) h' => q = true ∧ Nw h h') (by rintro q h' ⟨rfl, k⟩; exact hR h' k) ?_
    intro J hJ
    refine ldI_row (o := 0) r56 rfl (cnd_t rfl ?_)
    refine ldI_row (o := 0 + 1) r56 rfl (cnd_t ?_ ?_)
    · show (((nn : Nat) : Int) == (o7.len : Int)) = true
      rw [hnn, l7]; simp
    refine ldS_row (o := 0 + 2) r56 rfl (ldS_row (o := 0 + 2 + 1) r56 rfl (ldL_row (o := 0 + 2 + 2) r56 rfl (ldL_row (o := 0 + 2 + 3) r56 rfl ?_)))
    refine ld4 r56q ?_
    have A56 := at_ K56
    have H1 := SlR.hds (o1.nw k56).sl
    refine same_spec (a1 := a) (b1 := b) (a2 := hl) (b2 := bo) (hs1 := hs) (hs2 := hs) (bd1 := body) (bd2 := body) H1 ((o2.nw k56).rv) A56.hd A56.rb (by have h1 : a.len = hs.length := H1.1; have h2 : hs.length ≤ 1000 := sm.1; omega) ?_
    intro h71 k71
    refine cnd_t (decide_eq_true ⟨ofL_bl m, ofL_bl t, rfl, rfl⟩) ?_
    exact awake_spec (hg.nw (K56.trans' k71)) (fun h2 k2 => hJ _ _ ⟨rfl, (K56.trans' k71).trans' k2⟩)
  · intro J hJ
    refine withJ.intro (fun (q : Bool) h' => Nw h30 h' ∧ (q = false → ∃ nn, requestF (printF m t hs body) = .ok (⟨bl m, bl t, hs, body⟩, nn))) ?_ ?_
    · rintro q h' ⟨k, hq⟩
      refine cnd_of (fun e => aw (K30.trans' k)) (fun e => hJ _ _ ⟨k, hq e⟩)
    · intro J2 hJ2
      have r30' := r30
      unfold row9 at r30'
      refine ldI_row (o := 0) r30' rfl ?_
      refine cnd_of (fun e => hJ2 _ _ ⟨.refl _ _, fun e => by cases e⟩) (fun e => ?_)
      refine ldS_row (o := 0 + 2) r30' rfl (ldS_row (o := 0 + 2 + 1) r30' rfl (ldL_row (o := 0 + 2 + 2) r30' rfl (ldL_row (o := 0 + 2 + 3) r30' rfl ?_)))
      refine ld4 r30q ?_
      rcases st1 with ⟨rq, nn, a, b, rfl, hreq, sm, o1, o2, _⟩ | ⟨f, rfl, _, _⟩ | ⟨rfl, _⟩
      · have A30 := at_ K30
        have H1 := SlR.hds (o1.nw k30).sl
        refine same_spec (a1 := a) (b1 := b) (a2 := hl) (b2 := bo) (hs1 := rq.hs) (hs2 := hs) (bd1 := rq.body) (bd2 := body) H1 ((o2.nw k30).rv) A30.hd A30.rb (by have := H1.1; have := sm.1; omega) ?_
        intro h89 k89
        refine hJ2 _ _ ⟨k89, fun e => ⟨nn, ?_⟩⟩
        have he : ofL rq.m = m ∧ ofL rq.t = t ∧ rq.hs = hs ∧ rq.body = body := by
          have e' : (!decide (ofL rq.m = m ∧ ofL rq.t = t ∧ rq.hs = hs ∧ rq.body = body)) = false := e
          simpa using e'
        obtain ⟨e1, e2, e3, e4⟩ := he
        rw [hreq]
        obtain ⟨q1, q2, q3, q4⟩ := rq
        simp only at e1 e2 e3 e4
        subst e1 e2 e3 e4
        rw [bl_ofL, bl_ofL]
      · simp [stBad] at e
      · simp [stMore] at e
end Go.Proofs.Ytjpmjhnjdnbopaa
