/- The document's reader: one header line, blocks of them; sizes and chunks. -/
import Derived.Test.YtjpmjhnjdnbopaaPRefH
namespace Go.Proofs.Ytjpmjhnjdnbopaa
open Go D
set_option linter.unusedVariables false
set_option linter.unusedSimpArgs false

theorem headF_name {l : List UInt8} {q : HP} (h : headF l = some q) : q.1 ≠ ⟨#[]⟩ := by
  unfold headF at h
  split at h
  · cases h
  · rename_i hb
    injection h with h
    subst h
    intro e
    have e2 : lowerL (cutAt 58 l).1 = [] := ofL_inj (a := lowerL (cutAt 58 l).1) (b := []) e
    have e3 : (cutAt 58 l).1 = [] := by unfold lowerL at e2; exact List.map_eq_nil_iff.1 e2
    have : tokenL (cutAt 58 l).1 = false := by rw [e3]; rfl
    rw [this] at hb
    simp at hb

/-- a header as it is handed back -/
def retH (q : Nat) (x : HP) (ok : Bool) (R : HP × Bool → Heap → Prop) (h : Heap) : Prop :=
  stC ⟨q, 0, none⟩ (.string x.1) h fun h56 =>
  stC ⟨q, 0 + 1, none⟩ (.string x.2) h56 fun h57 =>
  ldS ⟨q, 0, none⟩ h57 fun s58 =>
  ldS ⟨q, 0 + 1, none⟩ h57 fun s59 =>
  R ((s58, s59), ok) h57
theorem retH_spec {h : Heap} {q : Nat} {y x : HP} {ok : Bool} {R : HP × Bool → Heap → Prop} (r : Row h q [.string y.1, .string y.2]) (hk : ∀ h', Keep (· = q) h h' → R (x, ok) h') : retH q x ok R h := by
  unfold retH
  refine stC_row r (by simp) rfl ?_
  intro h1 s1 r1 k1
  refine stC_row r1 (by simp) rfl ?_
  intro h2 s2 r2 k2
  exact ldS_row (o := 0) r2 rfl (ldS_row (o := 0 + 1) r2 rfl (hk h2 (k1.trans' k2)))

theorem header16_spec {h : Heap} {p : Nat} {s : ByteArray} {at_ head lines : Nat} (r : Row h p (dRow s at_ head lines false 0)) (hs : s.size ≤ 4000000000000) (hat : at_ ≤ s.size) (hhd : head ≤ 100000) (hln : lines ≤ 100) {R : HP × Bool → Heap → Prop}
    (hok : ∀ q n h', hd1F (100 - lines) ((bl s).drop at_) head = .ok (some q, n) → Row h' p (dRow s (at_ + n) (head + n) (lines + 1) false 0) → Keep (· = p) h h' → R (q, true) h')
    (hend : ∀ h', hd1F (100 - lines) ((bl s).drop at_) head = .ok (none, 2) → Row h' p (dRow s (at_ + 2) (head + 2) lines false 0) → Keep (· = p) h h' → R ((⟨#[]⟩, ⟨#[]⟩), true) h')
    (hno : ∀ f h', hd1F (100 - lines) ((bl s).drop at_) head = .error f → DStop h' p s f → Keep (· = p) h h' → R ((⟨#[]⟩, ⟨#[]⟩), false) h') :
    CallT Try.prog ref16_Reader_header_no [.pointer (some ⟨p, 0, none⟩)] h [.agg [.str, .str], .sc .bool] R := by
  apply ref16_Reader_header_call
  unfold ref16_Reader_header
  have hplt := r.lt
  refine newB_row ?_
  intro h1 s1 r1 k1
  simp only [nn_eq, add_mk]
  have rp := k1.row r (fun h => h)
  have rp' := rp
  unfold dRow at rp'
  have hl := bl_len s
  refine ldS_row (o := 0) rp' rfl (ldI_row (o := 0 + 1) rp' rfl ?_)
  refine end_spec hs hat ?_
  refine ldS_row (o := 0) rp' rfl (ldI_row (o := 0 + 1) rp' rfl ?_)
  have hrl : ((bl s).drop at_).length = s.size - at_ := by rw [List.length_drop]; omega
  unfold hd1F at hok hend hno
  obtain ⟨r7, hr⟩ : ∃ x : Int, x = endR (bl s) at_ := ⟨_, rfl⟩
  rw [← hr]
  unfold endR at hr
  have K1 : Keep (· = p) h h1 := k1.mono (fun _ _ h => h.elim)
  have ret : ∀ {x y : HP} {ok : Bool} {h2 : Heap}, Row h2 h.size [.string y.1, .string y.2] → Keep (· = p) h h2 → (∀ h', Keep (· = h.size) h2 h' → Keep (· = p) h h' → R (x, ok) h') → retH h.size x ok R h2 := fun r k hk => retH_spec r (fun h' k' => hk h' k' (k.trans k' (fun x hx e => by have e' : x = h.size := e; omega)))
  have st339 : ∀ h2, (∃ hh : Heap, True) → Row h2 p (dRow s at_ head lines false 0) → Row h2 h.size [.string (⟨#[]⟩ : ByteArray), .string (⟨#[]⟩ : ByteArray)] → Keep (· = p) h h2 → (∀ h', DStop h' p s 339 → Keep (· = p) h h' → R ((⟨#[]⟩, ⟨#[]⟩), false) h') → stC ⟨p, 0 + 5, none⟩ (.int .i64 339) h2 fun h79 => retH h.size (⟨#[]⟩, ⟨#[]⟩) false R h79 := fun h2 _ rr rq k hk => by
    unfold dRow at rr
    refine stC_row rr (by simp) rfl ?_
    intro h3 s3 r3 k3
    refine ret (y := (⟨#[]⟩, ⟨#[]⟩)) (k3.row rq (by omega)) (k.trans' k3) (fun h' k' K' => hk h' ⟨at_, head, lines, false, k'.row r3 (by omega)⟩ K')
  cases hc : crlf ((bl s).drop at_) with
  | none =>
    rw [hc] at hr hok hend hno
    replace hr : r7 = -1 := hr
    subst hr
    simp only at hok hend hno
    refine withJ.intro (fun (sz : Int) h' => h' = h1 ∧ sz = ((((bl s).drop at_).length : Nat) : Int)) ?_ ?_
    · rintro sz h' ⟨rfl, rfl⟩
      refine withJ.intro (fun (full : Bool) h2 => h2 = h' ∧ full = true) ?_ ?_
      · rintro full h2 ⟨rfl, rfl⟩
        refine withJ.intro (fun _ h3 => h3 = h2 ∧ ¬ 65536 < head + ((bl s).drop at_).length) ?_ ?_
        · rintro _ h3 ⟨rfl, hb⟩
          rw [if_neg hb] at hno
          refine cnd_t rfl ?_
          refine stC_row rp' (by simp) rfl ?_
          intro h4 s4 r4 k4
          refine ret (x := (⟨#[]⟩, ⟨#[]⟩)) (y := (⟨#[]⟩, ⟨#[]⟩)) (k4.row r1 (by omega)) (K1.trans' k4) (fun h' k' K' => hno 0 h' rfl ⟨at_, head, lines, true, k'.row r4 (by omega)⟩ K')
        · intro J hJ
          refine withJ.intro (fun (q : Bool) h3 => h3 = h2 ∧ q = decide (65536 < head + ((bl s).drop at_).length)) ?_ ?_
          · rintro q h3 ⟨rfl, rfl⟩
            refine cnd_dec (fun e => ?_) (fun e => hJ _ _ ⟨rfl, e⟩)
            rw [if_pos e] at hno
            exact st339 _ ⟨h, trivial⟩ rp r1 K1 (fun h' st k => hno 339 h' rfl st k)
          · intro J2 hJ2
            refine ldI_row (o := 0 + 2) rp' rfl ?_
            rw [w64_id (by omega) (by omega)]
            refine cnd_dec (fun e => hJ2 _ _ ⟨rfl, (decide_eq_true (by omega)).symm⟩) (fun e => cnd_f rfl (hJ2 _ _ ⟨rfl, (decide_eq_false (by omega)).symm⟩))
      · intro J hJ
        exact cnd_t rfl (hJ _ _ ⟨rfl, rfl⟩)
    · intro J hJ
      refine cnd_f rfl (hJ _ _ ⟨rfl, ?_⟩)
      rw [w64_id (by omega) (by omega), hrl]
      omega
  | some i =>
    rw [hc] at hr hok hend hno
    replace hr : r7 = ((at_ + i : Nat) : Int) := hr
    subst hr
    simp only at hok hend hno
    have hlt := crlf_lt hc
    rw [hrl] at hlt
    refine withJ.intro (fun (sz : Int) h' => h' = h1 ∧ sz = ((i + 2 : Nat) : Int)) ?_ ?_
    · rintro sz h' ⟨rfl, rfl⟩
      refine withJ.intro (fun (full : Bool) h2 => h2 = h' ∧ full = decide (0 < i)) ?_ ?_
      · rintro full h2 ⟨rfl, rfl⟩
        refine withJ.intro (fun _ h3 => h3 = h2 ∧ ¬ 65536 < head + (i + 2) ∧ ¬ (i ≠ 0 ∧ 100 - lines = 0)) ?_ ?_
        · rintro _ h3 ⟨rfl, hb, hb2⟩
          rw [if_neg hb, if_neg hb2] at hok hend hno
          refine cnd_neg (by omega) ?_
          refine ldS_row (o := 0) rp' rfl (ldI_row (o := 0 + 1) rp' rfl ?_)
          refine mid_ssl (by omega) ?_
          rw [w64_id (x := ((at_ + i : Nat) : Int) + 2) (by omega) (by omega)]
          refine stC_row rp' (by simp) rfl ?_
          intro h4 s4 r4 k4
          refine ldI_row (o := 0 + 2) r4 rfl ?_
          rw [w64_id (by omega) (by omega)]
          refine stC_row r4 (by simp) rfl ?_
          intro h5 s5 r5 k5
          have K45 := k4.trans' k5
          have q5 := K45.row r1 (by omega)
          have K5 : Keep (· = p) h h5 := K1.trans' K45
          have r5' : Row h5 p (dRow s (at_ + (i + 2)) (head + (i + 2)) lines false 0) := by
            have e1 : (((at_ + i : Nat) : Int) + 2) = ((at_ + (i + 2) : Nat) : Int) := by omega
            have e2 : ((head : Int) + ((i + 2 : Nat) : Int)) = ((head + (i + 2) : Nat) : Int) := by omega
            unfold dRow
            rw [← e1, ← e2]
            exact r5
          rw [seq_nilB, bl_ofL]
          have htl : (((bl s).drop at_).take i).length = i := by rw [List.length_take]; omega
          by_cases hi0 : i = 0
          · subst hi0
            rw [if_pos rfl] at hend
            refine cnd_t (by simp) ?_
            refine ret (x := (⟨#[]⟩, ⟨#[]⟩)) (y := (⟨#[]⟩, ⟨#[]⟩)) q5 K5 (fun h' k' K' => hend h' rfl (k'.row r5' (by omega)) K')
          · rw [if_neg hi0] at hok hend hno
            refine cnd_f (by
              rw [decide_eq_false_iff_not]
              intro e
              rw [e] at htl
              exact hi0 htl.symm) ?_
            unfold dRow at r5'
            refine ldI_row (o := 0 + 3) r5' rfl ?_
            rw [w64_id (by omega) (by omega)]
            refine stC_row r5' (by simp) rfl ?_
            intro h6 s6 r6 k6
            replace r6 : Row h6 p (dRow s (at_ + (i + 2)) (head + (i + 2)) (lines + 1) false 0) := by
              have e1 : ((lines : Int) + 1) = ((lines + 1 : Nat) : Int) := by omega
              unfold dRow
              rw [← e1]
              exact r6
            have q6 := k6.row q5 (by omega)
            have K6 := K5.trans' k6
            have hts := ofL_size (((bl s).drop at_).take i)
            rw [htl] at hts
            refine cut3_spec (c := 58) (by omega) ?_
            rw [bl_ofL]
            have cl := cutAt_len 58 (((bl s).drop at_).take i)
            rw [htl] at cl
            have hf : headF (((bl s).drop at_).take i) = if bareL (((bl s).drop at_).take i) || (!(cutAt 58 (((bl s).drop at_).take i)).2.2 || (!tokenL (cutAt 58 (((bl s).drop at_).take i)).1 || !valueL (cutAt 58 (((bl s).drop at_).take i)).2.1)) then none else some (ofL (lowerL (cutAt 58 (((bl s).drop at_).take i)).1), ofL (trimL (cutAt 58 (((bl s).drop at_).take i)).2.1)) := rfl
            generalize hcv : cutAt 58 (((bl s).drop at_).take i) = cv at cl hf ⊢
            obtain ⟨n, v, c⟩ := cv
            simp only at cl hf ⊢
            have sn := ofL_size n
            have sv := ofL_size v
            refine withJ.intro (fun _ h7 => h7 = h6 ∧ headF (((bl s).drop at_).take i) = some (ofL (lowerL n), ofL (trimL v))) ?_ ?_
            · rintro _ h7 ⟨rfl, hsome⟩
              rw [hsome] at hok
              refine lower3_spec (by omega) ?_
              intro h8 k8
              rw [bl_ofL]
              refine trim3_spec (by omega) ?_
              rw [bl_ofL]
              refine ret (x := (ofL (lowerL n), ofL (trimL v))) (y := (⟨#[]⟩, ⟨#[]⟩)) (k8.row q6 (fun h => h)) (keepP K6 k8) (fun h' k' K' => hok _ _ h' rfl (k'.row (k8.row r6 (fun h => h)) (by omega)) K')
            · intro J21 hJ21
              refine withJ.intro (fun (b : Bool) h7 => h7 = h6 ∧ b = (bareL (((bl s).drop at_).take i) || (!c || (!tokenL n || !valueL v)))) ?_ ?_
              · rintro b h7 ⟨rfl, hb⟩
                rw [← hb] at hf
                refine cnd_of (fun e => ?_) (fun e => hJ21 _ _ ⟨rfl, by rw [hf, e]; rfl⟩)
                rw [e, if_pos rfl] at hf
                rw [hf] at hno
                unfold dRow at r6
                refine stC_row r6 (by simp) rfl ?_
                intro h8 s8 r8 k8
                refine ret (x := (⟨#[]⟩, ⟨#[]⟩)) (y := (⟨#[]⟩, ⟨#[]⟩)) (k8.row q6 (by omega)) (K6.trans' k8) (fun h' k' K' => hno 308 h' rfl ⟨_, _, _, _, k'.row r8 (by omega)⟩ K')
              · intro J42 hJ42
                refine bare16_spec (by omega) ?_
                rw [bl_ofL]
                refine cnd_of (fun e => hJ42 _ _ ⟨rfl, by rw [e]; rfl⟩) (fun e => ?_)
                refine cnd_of (fun e2 => hJ42 _ _ ⟨rfl, by rw [e, e2]; rfl⟩) (fun e2 => ?_)
                refine token3_spec (by omega) ?_
                rw [bl_ofL]
                refine cnd_of (fun e3 => hJ42 _ _ ⟨rfl, by rw [e, e2, e3]; rfl⟩) (fun e3 => ?_)
                refine value3_spec (by omega) ?_
                rw [bl_ofL]
                exact hJ42 _ _ ⟨rfl, by rw [e, e2, e3]; rfl⟩
        · intro J20 hJ20
          refine withJ.intro (fun (q : Bool) h3 => h3 = h2 ∧ q = (decide (65536 < head + (i + 2)) || decide (i ≠ 0 ∧ 100 - lines = 0))) ?_ ?_
          · rintro q h3 ⟨rfl, rfl⟩
            refine cnd_of (fun e => ?_) (fun e => ?_)
            · have hno339 : ∀ h', DStop h' p s 339 → Keep (· = p) h h' → R ((⟨#[]⟩, ⟨#[]⟩), false) h' := fun h' st k => by
                refine hno 339 h' ?_ st k
                by_cases hb : 65536 < head + (i + 2)
                · rw [if_pos hb]
                · rw [if_neg hb]
                  rw [decide_eq_false hb, Bool.false_or, decide_eq_true_eq] at e
                  rw [if_pos e]
              exact st339 _ ⟨h, trivial⟩ rp r1 K1 hno339
            · simp only [Bool.or_eq_false_iff, decide_eq_false_iff_not] at e
              exact hJ20 _ _ ⟨rfl, e.1, e.2⟩
          · intro J2 hJ2
            refine ldI_row (o := 0 + 2) rp' rfl ?_
            rw [w64_id (by omega) (by omega)]
            refine cnd_dec (fun e => hJ2 _ _ ⟨rfl, ?_⟩) (fun e => ?_)
            · rw [decide_eq_true (show 65536 < head + (i + 2) by omega)]; rfl
            · rw [decide_eq_false (show ¬ 65536 < head + (i + 2) by omega), Bool.false_or] at hJ2
              refine cnd_pos (by omega) ?_
              refine cnd_dec (fun e2 => ?_) (fun e2 => hJ2 _ _ ⟨rfl, ?_⟩)
              · refine ldI_row (o := 0 + 3) rp' rfl (hJ2 _ _ ⟨rfl, ?_⟩)
                rw [Bool.eq_iff_iff]
                simp
                omega
              · symm
                exact decide_eq_false (by omega)
      · intro J hJ
        refine cnd_neg (by omega) ?_
        refine ldI_row (o := 0 + 1) rp' rfl (hJ _ _ ⟨rfl, ?_⟩)
        rw [Bool.eq_iff_iff, decide_eq_true_eq, decide_eq_true_eq]
        omega
    · intro J hJ
      refine cnd_pos (by omega) ?_
      refine ldI_row (o := 0 + 1) rp' rfl (hJ _ _ ⟨rfl, ?_⟩)
      rw [w64_id (x := ((at_ + i : Nat) : Int) + 2) (by omega) (by omega), w64_id (by omega) (by omega)]
      omega

/-! ### a block -/
structure BkI (h : Heap) (p : Nat) (s : ByteArray) (at0 head0 lines0 : Nat) (o : Sl) (acc : List HP) (n : Nat) (lines : Nat) (h' : Heap) : Prop where
  own : Own h h' 2 o (hdV acc)
  row : Row h' p (dRow s (at0 + n) (head0 + n) lines false 0)
  a2 : at0 + n ≤ s.size
  b2 : head0 + n ≤ 100000
  l1 : lines ≤ 100
  l2 : acc.length ≤ lines
  kp : Keep (· = p) h h'
  eq : addH acc n (headersF (100 - lines) ((bl s).drop (at0 + n)) (head0 + n)) = headersF (100 - lines0) ((bl s).drop at0) head0

theorem block16_spec {h : Heap} {p : Nat} {s : ByteArray} {at0 head0 lines0 : Nat} (r : Row h p (dRow s at0 head0 lines0 false 0)) (hs : s.size ≤ 4000000000000) (hat : at0 ≤ s.size) (hhd : head0 ≤ 100000) (hln : lines0 ≤ 100) {R : Sl × Bool → Heap → Prop}
    (hok : ∀ o l n k h', headersF (100 - lines0) ((bl s).drop at0) head0 = .ok (l, n, k) → Own h h' 2 o (hdV l) → Row h' p (dRow s (at0 + n) (head0 + n) (100 - k) false 0) → Keep (· = p) h h' → R (o, true) h')
    (hno : ∀ f h', headersF (100 - lines0) ((bl s).drop at0) head0 = .error f → DStop h' p s f → Keep (· = p) h h' → R (⟨none, 0, 0⟩, false) h') :
    CallT Try.prog ref16_Reader_block_no [.pointer (some ⟨p, 0, none⟩)] h [.sc .sl, .sc .bool] R := by
  apply ref16_Reader_block_call
  unfold ref16_Reader_block
  have hplt := r.lt
  have hl := bl_len s
  refine LoopT.intro (fun (o : Sl) h' => ∃ acc n lines, BkI h p s at0 head0 lines0 o acc n lines h') (fun o _ => 101 - o.len) ⟨[], 0, lines0, Own.nil _ _ _, r, hat, hhd, hln, by simp, .refl _ _, ?_⟩ ?_
  · rw [Nat.add_zero, Nat.add_zero]
    cases headersF (100 - lines0) ((bl s).drop at0) head0 with
    | ok x => obtain ⟨l, n, k⟩ := x; simp [addH]
    | error e => rfl
  rintro o h2 ⟨acc, n, lines, own, row, a2, b2, l1, l2, kp, eq⟩
  have olen := own.len
  rw [hdV_len] at olen
  obtain ⟨e1, e2, e3⟩ := headersF_1 (k := 100 - lines) (hd := head0 + n) (rest := (bl s).drop (at0 + n))
  have ownK : ∀ {h3}, Keep (· = p) h2 h3 → Own h h3 2 o (hdV acc) := fun k => own.keep k (fun x hx e => by have := own.fresh x hx; have e' : x = p := e; omega)
  -- the header is laid into a row of its own
  have lay : ∀ (x : HP) (h3 : Heap) (K : Addr → Heap → Prop), (∀ h', Row h' h3.size [.string x.1, .string x.2] → Nw h3 h' → K ⟨h3.size, 0, none⟩ h') → newB [.string (⟨#[]⟩ : ByteArray), .string (⟨#[]⟩ : ByteArray)] 37 h3 fun a6 h7 => stC a6 (.string x.1) h7 fun h8 => stC (a6.add 1) (.string x.2) h8 fun h9 => K a6 h9 := fun x h3 K hK => by
    refine newB_row ?_
    intro h4 s4 r4 k4
    rw [add_mk]
    refine stC_row r4 (by simp) rfl ?_
    intro h5 s5 r5 k5
    refine stC_row r5 (by simp) rfl ?_
    intro h6 s6 r6 k6
    exact hK h6 r6 (Nw.st (Nw.st k4 k5 (Nat.le_refl _)) k6 (Nat.le_refl _))
  refine header16_spec row hs a2 b2 l1 ?_ ?_ ?_
  · intro q m h3 e r3 k3
    obtain ⟨k', hk', hm, hm2, ee⟩ := e3 q m e
    rw [List.length_drop] at hm
    have hq : q.1 ≠ ⟨#[]⟩ := by
      unfold hd1F at e
      split at e
      · split at e <;> cases e
      · split at e
        · cases e
        · split at e
          · cases e
          · split at e
            · injection e with e
              injection e with e _
              cases e
            · split at e
              · cases e
              · rename_i hp
                injection e with e
                injection e with e _
                injection e with e
                subst e
                exact headF_name hp
    refine lay q h3 _ ?_
    intro h4 r4 k4
    refine cnd_f rfl ?_
    refine ldS_row (o := 0) r4 rfl ?_
    refine cnd_f (seq_false hq) ?_
    rw [add_mk]
    refine ldS_row (o := 0) r4 rfl (ldS_row (o := 0 + 1) r4 rfl ?_)
    have K4 := keepP k3 k4
    refine (ownK K4).push (kp.trans' K4) rfl rfl rfl (fun x hx => by simp at hx; rcases hx with rfl | rfl <;> rfl) (by omega) ?_
    intro a' c' h5 q1 q2 q3 q4
    refine ⟨⟨acc ++ [q], n + m, lines + 1, ?_, ?_, by omega, by omega, by omega, by simp; omega, q2, ?_⟩, by show 101 - (o.len + 1) < 101 - o.len; omega⟩
    · rw [hdV_snoc]; exact q1
    · have := q3.row (k4.row r3 (fun h => h)) (fun hb => by have := own.fresh p hb; omega)
      rw [show at0 + (n + m) = at0 + n + m by omega, show head0 + (n + m) = head0 + n + m by omega]
      exact this
    · rw [← eq, ee, show 100 - (lines + 1) = k' by omega, show at0 + (n + m) = at0 + n + m by omega, show head0 + (n + m) = head0 + n + m by omega, ← List.drop_drop]
      cases headersF k' (((bl s).drop (at0 + n)).drop m) (head0 + n + m) with
      | ok x => obtain ⟨l, a, b⟩ := x; simp [addH]; omega
      | error e => rfl
  · intro h3 e r3 k3
    have ee := e2 e
    rw [ee] at eq
    refine lay (⟨#[]⟩, ⟨#[]⟩) h3 _ ?_
    intro h4 r4 k4
    refine cnd_f rfl ?_
    refine ldS_row (o := 0) r4 rfl ?_
    refine cnd_t (seq_self _) ?_
    have K4 := keepP k3 k4
    refine hok o acc (n + 2) (100 - lines) h4 (by rw [← eq]; simp [addH]) (ownK K4) ?_ (kp.trans' K4)
    have := k4.row r3 (fun h => h)
    rw [show 100 - (100 - lines) = lines by omega, show at0 + (n + 2) = at0 + n + 2 by omega, show head0 + (n + 2) = head0 + n + 2 by omega]
    exact this
  · intro f h3 e st k3
    have ee := e1 f e
    rw [ee] at eq
    refine lay (⟨#[]⟩, ⟨#[]⟩) h3 _ ?_
    intro h4 r4 k4
    refine cnd_t rfl ?_
    obtain ⟨a, b, c, m, rw⟩ := st
    exact hno f h4 eq.symm ⟨a, b, c, m, k4.row rw (fun h => h)⟩ (kp.trans' (keepP k3 k4))
end Go.Proofs.Ytjpmjhnjdnbopaa
