/- del comes to delF. -/
import Derived.Test.YtopnljjfpfnhfaaPJoin
import Derived.Test.YtopnljjfpfnhfaaPOrdC
namespace Go.Proofs.Ytopnljjfpfnhfaa
open Go D
set_option linter.unusedVariables false
set_option linter.unusedSimpArgs false

theorem delV {α β : Type} (f : α → β) (l : List α) (i : Nat) : (delL l i).map f = delL (l.map f) i := by unfold delL; simp
theorem Reps.del {h : Heap} {F : Nat → Prop} {n : Nat} {ss : List (T n)} {vs : List Value} (hr : Reps h F n ss vs) {a : T n} {v : Value} (ha : Rep h F n a v) {i : Nat} : Reps h F n (repL ss i a) (repL vs i v) := by
  unfold repL
  exact (hr.take i).append (Reps.append (ss := [a]) (vs := [v]) ⟨rfl, fun j s w h1 h2 => by
    cases j with
    | zero => simp at h1 h2; subst h1 h2; exact ha
    | succ j => simp at h1⟩ (hr.drop (i + 2)))

theorem del_leaf_spec {h : Heap} {F : Nat → Prop} {v : Value} {k : Key} {t : List KV} (hr : Rep h F 0 t v) (hA : Asc (t.map (·.1))) (hl : t.length ≤ 1000000) {R : Value × Bool → Heap → Prop}
    (hn : delF k 0 t = none → ∀ h', Nw h h' → R (v, false) h')
    (hs : ∀ (u : List KV) a h', delF k 0 t = some u → Nw h h' → Rep h' (New h h') 0 u a → R (a, true) h') : CallT Try.prog btree_del_no [v, .string k] h [.sc .raw, .sc .bool] R := by
  have hcall := btree_del_call v k (R := R) (h := h)
  apply hcall
  clear hcall
  unfold btree_del
  obtain ⟨p, ka, kl, kc, va, vl, vc, rfl, fp, row, k1, k2, f1, f2⟩ := hr
  have len1 : kl = t.length := by have := k1.1; simpa using this
  have len2 : vl = t.length := by have := k2.1; simpa using this
  have hd : delF k 0 t = if (t.map (·.1))[below k (t.map (·.1))]? = some k then some (delL t (below k (t.map (·.1)))) else none := rfl
  refine isP_yes rfl ?_
  refine ldL_row (o := 0) row rfl ?_
  refine bsearch_spec k1 hA (by omega) ?_
  have hm := below_le k (t.map (·.1))
  generalize below k (t.map (·.1)) = m at hm hd ⊢
  refine cnd_of (fun c => ?_) (fun c => ?_)
  · have c' : ¬ (t.map (·.1))[m]? = some k := by simpa using c
    rw [if_neg c'] at hd
    exact hn hd h (Keep.refl _ _)
  · have c' : (t.map (·.1))[m]? = some k := by simpa using c
    rw [if_pos c'] at hd
    have hml : m < t.length := by have := (List.getElem?_eq_some_iff.1 c').1; simpa using this
    refine ldL_row (o := 0) row rfl ?_
    refine ldL_row (o := 0 + 1) row rfl ?_
    refine cloneS_spec (s := ⟨ka, kl, kc⟩) k1 (keysV_one _) (by show kl ≤ _; omega) ?_
    intro rk h11 oK lK nK
    replace lK : rk.len = kl := lK
    refine ⟨ldL_row (o := 0 + 1) (nK.row row (fun h => h)) rfl rfl, ?_⟩
    have w1 : w64 ((m : Int) + 1) = ((m + 1 : Nat) : Int) := by rw [w64_id (by omega) (by omega)]; push_cast; rfl
    simp only [w1]
    refine deleteS_spec oK (keysV_one _) (by omega) (by omega) nK ?_
    intro r13 h14 o13 l13 n14 k14 b14
    refine ⟨ldL_row (o := 0 + 1) (n14.row row (fun h => h)) rfl rfl, ?_⟩
    refine cloneS_spec (s := ⟨va, vl, vc⟩) (k2.keep0 n14) (keysV_one _) (by show vl ≤ _; omega) ?_
    intro rv h17 oV lV nV
    replace lV : rv.len = vl := lV
    have o13' := o13.nw nV
    have z14 := n14.size
    refine deleteS_spec (oV.up z14) (keysV_one _) (by omega) (by omega) (n14.trans' nV) ?_
    intro r18 h19 o18 l18 n19 k19 b19
    have o13'' := o13'.keep k19 (fun b hb e => by have e1 := oV.fresh b e; have e2 := o13.lt hb; omega)
    refine newB_row ?_
    intro h21 s21 w21 k21
    have z19 := n19.size
    refine hs _ _ h21 hd (n19.trans' k21) (rep_leaf' w21 ?_ ?_ (by omega))
    · rw [delV]; unfold keysV; rw [delV]; exact o13''.nw k21
    · rw [delV]; unfold keysV; rw [delV]; exact o18.nw k21

theorem joined_spec {n : Nat} {h : Heap} {F : Nat → Prop} {v v' : Value} {mid : Key} {x y : T n} (hx : Rep h F n x v) (hy : Rep h F n y v') (ox : Okn 3 n x) (oy : Okn 3 n y) {R : Value × Value × ByteArray → Heap → Prop}
    (hkR : ∀ a b m h', Nw h h' → Rep h' (Fn F h h') n (joinF n x y mid).1 a → Opt h' (Fn F h h') n (joinF n x y mid).2 m b → R (a, b, m) h') : CallT Try.prog btree_joined_no [v, v', .string mid] h [.sc .raw, .sc .raw, .sc .str] R := by
  cases n with
  | zero =>
    refine joined_leaf hx hy (by have := ox.2; omega) (by have := oy.2; omega) (fun a b m h' nw ra ob => hkR a b m h' nw (ra.mono (fun _ h => .inr h)) ?_)
    have e : (joinF 0 x y mid).2 = (cutF (List.append x y)).2 := rfl
    rw [e]
    replace ob : Opt h' (New h h') 0 (cutF (List.append x y)).2 m b := ob
    cases hO : (cutF (List.append x y)).2 with
    | none => rw [hO] at ob; exact ob
    | some q => rw [hO] at ob; exact ⟨ob.1, ob.2.mono (fun _ h => .inr h)⟩
  | succ n => exact joined_inner hx hy (by have := ox.2.2.1; omega) ox.1 (by have := oy.2.2.1; omega) oy.1 hkR
theorem size_spec {n : Nat} {h : Heap} {F : Nat → Prop} {v : Value} {t : T n} (hr : Rep h F n t v) {K : Int → Heap → Prop} (hk : K ((siz n t : Nat) : Int) h) :
    isP v 56 (fun p => CallT Try.prog btree_leaf_size_no [.pointer p] h [.sc (.int .i64)] K) (isP v 66 (fun p => CallT Try.prog btree_inner_size_no [.pointer p] h [.sc (.int .i64)] K) False) := by
  cases n with
  | zero =>
    obtain ⟨p, ka, kl, kc, va, vl, vc, rfl, _, row, k1, k2, _, _⟩ := hr
    refine isP_yes rfl ?_
    apply btree_leaf_size_call
    unfold btree_leaf_size
    refine ldL_row (o := 0) row rfl ?_
    have : kl = List.length t := k1.1.trans ((List.length_map _).trans (List.length_map _))
    rw [this]; exact hk
  | succ n =>
    obtain ⟨p, ka, kl, kc, va, vl, vc, us1, rfl, row, k1, k2, rs1⟩ := Reps.cat hr
    refine isP_no rfl ?_
    refine isP_yes rfl ?_
    apply btree_inner_size_call
    unfold btree_inner_size
    refine ldL_row (o := 0 + 1) row rfl ?_
    have : vl = t.2.length := by have := k2.1; have := rs1.1; omega
    rw [this]; exact hk
theorem minI_nat (i j : Nat) : minI (i : Int) (j : Int) = ((min i j : Nat) : Int) := by
  unfold minI
  split
  · congr 1; omega
  · congr 1; omega
theorem Own.idxset {h0 h : Heap} {s : Sl} {vs : List Value} {v : Value} {i : Nat} (hs : Own h0 h 1 s vs) (hi : i < s.len) (hv : v.oneCell' = true) {K : Heap → Prop}
    (hk : ∀ h' x, h'.size = h.size → blk s.a x → Own h0 h' 1 s (vs.set i v) → Keep (· = x) h h' → K h') : idx s.a s.len (i : Int) fun a => stC (a.add ((i : Int).toNat * 1)) v h K := by
  refine hs.sl.idx (by omega) (by omega) ?_
  intro x ex _
  have sl := hs.sl
  rw [ex] at sl
  rw [Int.toNat_natCast, Nat.mul_one]
  refine sl.set (i := i) (by omega) hv ?_
  intro h' z sl' k
  rw [← ex] at sl'
  exact hk h' x.block z (by rw [ex]; exact blk_some.2 rfl) ⟨sl', fun b hb => hs.fresh b hb⟩ k

theorem del_inner {n lo : Nat} {k : Key}
    (IH : ∀ {h : Heap} {F : Nat → Prop} {v : Value} {s : T n}, Rep h F n s v → (∀ b, F b → b < h.size) → Okn 4 n s → Srt n s → ∀ {R : Value × Bool → Heap → Prop},
      (delF k n s = none → ∀ h', Nw h h' → R (v, false) h') → (∀ u a h', delF k n s = some u → Nw h h' → Rep h' (Fn F h h') n u a → R (a, true) h') → CallT Try.prog btree_del_no [v, .string k] h [.sc .raw, .sc .bool] R)
    {h : Heap} {F : Nat → Prop} {v : Value} {t : T (n + 1)} (hr : Rep h F (n + 1) t v) (hF : ∀ b, F b → b < h.size) (hok : Okn lo (n + 1) t) (hlo : 2 ≤ lo) (hA : Srt (n + 1) t) {R : Value × Bool → Heap → Prop}
    (hn : delF k (n + 1) t = none → ∀ h', Nw h h' → R (v, false) h')
    (hs : ∀ (u : T (n + 1)) a h', delF k (n + 1) t = some u → Nw h h' → Rep h' (Fn F h h') (n + 1) u a → R (a, true) h') : CallT Try.prog btree_del_no [v, .string k] h [.sc .raw, .sc .bool] R := by
  have hcall := btree_del_call v k (R := R) (h := h)
  apply hcall
  clear hcall
  unfold btree_del
  obtain ⟨p, ka, kl, kc, sa, sl, sc, vs, rfl, fp, row, k1, k2, lc, f1, f2, lv, hsons⟩ := hr
  obtain ⟨a1, a2, a3, a4⟩ := hA
  obtain ⟨b1, b2, b3, b4⟩ := hok
  have len1 : kl = t.1.length := by have := k1.1; simpa using this
  have len2 : sl = t.2.length := by have := k2.1; omega
  refine isP_no rfl ?_
  refine isP_yes rfl ?_
  refine at_spec (x := ⟨p, 0, none⟩) (by rw [row.cells]; rfl) k1 a1 (by omega) ?_
  intro h24 n24
  have hm := upto_le k t.1
  have hd := delF_succ k t
  generalize upto k t.1 = i at hm hd ⊢
  have hi2 : i < t.2.length := by omega
  have hi3 : i < vs.length := by omega
  rw [List.getElem?_eq_getElem hi2] at hd
  replace hd : delF k (n + 1) t = match delF k n t.2[i] with
      | none => none
      | some a => some (if 4 ≤ siz n a then (t.1, t.2.set i a) else fixF t.1 (t.2.set i a) (min i (t.2.length - 2))) := hd
  have row24 := n24.row row (fun h => h)
  refine ldL_row (o := 0 + 1) row24 rfl ?_
  refine Rv.at (k2.keep0 n24) (by omega) (by omega) (v := vs[i]) (by rw [Int.toNat_natCast, List.getElem?_eq_getElem hi3]) ?_
  intro a27 c27
  refine ⟨_, c27, ?_⟩
  have reps0 : Reps h F n t.2 vs := ⟨lv, hsons⟩
  have son : Rep h24 F n t.2[i] vs[i] := (hsons i _ _ (List.getElem?_eq_getElem hi2) (List.getElem?_eq_getElem hi3)).nw n24
  have z24 := n24.size
  have o4 := b4 _ (List.getElem_mem hi2)
  refine IH son (fun b hb => by have := hF b hb; omega) o4 (a4 _ (List.getElem_mem hi2)) ?_ ?_
  · intro e h30 n30
    rw [e] at hd
    exact cnd_t rfl (hn hd h30 (n24.trans' n30))
  · intro A a h30 e n30 ra
    rw [e] at hd
    refine cnd_f rfl ?_
    have n1 : Nw h h30 := n24.trans' n30
    have z30 := n30.size
    have z1 := n1.size
    have row1 := n1.row row (fun h => h)
    refine ldL_row (o := 0) row1 rfl ?_
    refine ldL_row (o := 0 + 1) row1 rfl ?_
    refine cloneS_spec (s := ⟨ka, kl, kc⟩) (k1.keep0 n1) (keysV_one _) (by show kl ≤ _; omega) ?_
    intro rk h36 oK lK nK
    replace lK : rk.len = kl := lK
    refine ⟨ldL_row (o := 0 + 1) (nK.row row1 (fun h => h)) rfl rfl, ?_⟩
    refine cloneN_spec (s := ⟨sa, sl, sc⟩) ((k2.keep0 n1).keep0 nK) reps0.one (by show sl ≤ _; omega) ?_
    intro rv h39 oV lV nV
    replace lV : rv.len = sl := lV
    refine newB_row ?_
    intro h41 s41 row41 k41
    have zK := nK.size
    have zV := nV.size
    have B10 : ∀ b, blk rk.a b → h30.size ≤ b ∧ b < h36.size := fun b hb => ⟨oK.fresh b hb, oK.lt hb⟩
    have B13 : ∀ b, blk rv.a b → h36.size ≤ b ∧ b < h39.size := fun b hb => ⟨oV.fresh b hb, oV.lt hb⟩
    replace oK := (oK.nw nV).nw k41
    replace oV := (oV.up nK.size).nw k41
    refine ldL_row (o := 0 + 1) row41 rfl ?_
    refine oV.idxset (by omega) ra.one.2 ?_
    intro h44 bx z44 hbx oV' k44
    have B := B13 bx hbx
    have n41 : Nw h30 h41 := (nK.trans' nV).trans' k41
    have nI : Nw h30 h44 := Nw.st n41 k44 (by omega)
    have rowI := k44.row row41 (fun e => by have e1 : h39.size = bx := e; omega)
    have oK' := oK.keep k44 (fun b hb e => by have e1 : b = bx := e; have := B10 b hb; omega)
    have zI := nI.size
    have reps : Reps h30 (Fn F h h30) n (t.2.set i A) (vs.set i a) := ((reps0.nw n1).mono (fun b hb => .inl hb)).set (ra.mono (fun b hb => fn_mono z24 (Nat.le_refl _) hb)) i
    have hF1 : ∀ b, Fn F h h30 b → b < h30.size := fun b hb => by
      rcases hb with hb | hb
      · have := hF b hb; omega
      · exact hb.2
    have repI : Reps h44 (Fn F h h30) n (t.2.set i A) (vs.set i a) := reps.nw nI
    have vone : ∀ v ∈ vs.set i a, v.oneCell' = true := reps.one
    have ill : (t.2.set i A).length = t.2.length := List.length_set
    have vil : (vs.set i a).length = vs.length := List.length_set
    have raI : Rep h44 (Fn F h h30) n A a := (ra.nw nI).mono (fun b hb => fn_mono z24 (Nat.le_refl _) hb)
    refine size_spec raI ?_
    refine cnd_dec (fun c => ?_) (fun c => ?_)
    · have c' : 4 ≤ siz n A := by have : ((siz n A : Nat) : Int) ≥ 4 := c; omega
      exact hs _ _ h44 (hd.trans (congrArg some (if_pos c'))) (n1.trans' nI) (rep_inner' rowI (oK'.up z1) (oV'.up z1) (by omega) (repI.mono (fun b hb => fn_mono (Nat.le_refl _) zI hb)))
    · have c' : ¬ 4 ≤ siz n A := fun e => c (by show ((siz n A : Nat) : Int) ≥ 4; omega)
      replace hd := hd.trans (congrArg some (if_neg c'))
      have h3A : Okn 3 n A := delF_ok (lo := 4) k o4 (.inr (by omega)) e
      have o3 : ∀ s ∈ t.2.set i A, Okn 3 n s := fun s hs => by
        rcases List.mem_or_eq_of_mem_set hs with e | e
        · exact (b4 s e).mono (by omega)
        · rw [e]; exact h3A
      obtain ⟨x, y, mid, x1, y1, m1, hf⟩ := fixF_eq (ks := t.1) (ss := t.2.set i A) (j := min i (t.2.length - 2)) (by omega) (by omega)
      rw [hf] at hd
      refine ldL_row (o := 0 + 1) rowI rfl ?_
      have hj : minI (i : Int) (w64 ((rv.len : Int) - 2)) = ((min i (t.2.length - 2) : Nat) : Int) := by
        have e : w64 ((rv.len : Int) - 2) = ((t.2.length - 2 : Nat) : Int) := by rw [w64_id (by omega) (by omega)]; omega
        rw [e, minI_nat]
      simp only [hj]
      have hjl : min i (t.2.length - 2) + 1 < t.2.length := by omega
      generalize min i (t.2.length - 2) = j at x1 y1 m1 hd hjl ⊢
      have w1 : w64 ((j : Int) + 1) = ((j + 1 : Nat) : Int) := by rw [w64_id (by omega) (by omega)]; push_cast; rfl
      have w2 : w64 ((j : Int) + 2) = ((j + 2 : Nat) : Int) := by rw [w64_id (by omega) (by omega)]; push_cast; rfl
      simp only [w1, w2]
      have jv : j < (vs.set i a).length := by omega
      have jv1 : j + 1 < (vs.set i a).length := by omega
      refine ldL_row (o := 0 + 1) rowI rfl ?_
      refine oV'.rv.at (by omega) (by omega) (v := (vs.set i a)[j]) (by rw [Int.toNat_natCast, List.getElem?_eq_getElem jv]) ?_
      intro a50 c50
      refine ⟨_, c50, ?_⟩
      refine ldL_row (o := 0 + 1) rowI rfl ?_
      refine oV'.rv.at (by omega) (by omega) (v := (vs.set i a)[j + 1]) (by rw [Int.toNat_natCast, List.getElem?_eq_getElem jv1]) ?_
      intro a53 c53
      refine ⟨_, c53, ?_⟩
      refine ldL_row (o := 0) rowI rfl ?_
      refine oK'.rv.at (by omega) (by omega) (v := .string mid) (by rw [Int.toNat_natCast, List.getElem?_map, m1]; rfl) ?_
      intro a56 c56
      refine ldS_at c56 ?_
      refine joined_spec (repI.2 j _ _ x1 (List.getElem?_eq_getElem jv)) (repI.2 (j + 1) _ _ y1 (List.getElem?_eq_getElem jv1)) (o3 _ (List.mem_of_getElem? x1)) (o3 _ (List.mem_of_getElem? y1)) ?_
      intro za zb zm h59 n59 rz oz
      have z59 := n59.size
      rcases hq : joinF n x y mid with ⟨z, O⟩
      rw [hq] at rz oz hd
      have nJ : Nw h30 h59 := nI.trans' n59
      have zJ := nJ.size
      have rowJ := n59.row rowI (fun h => h)
      replace oK' := oK'.nw n59
      replace oV' := oV'.nw n59
      have repJ : Reps h59 (Fn (Fn F h h30) h44 h59) n (t.2.set i A) (vs.set i a) := (repI.nw n59).mono (fun b hb => .inl hb)
      have fin : ∀ {h' : Heap}, h59.size ≤ h'.size → Keep (fun b => blk rv.a b ∨ b = h39.size ∨ blk rk.a b ∨ h59.size ≤ b) h59 h' → ∀ {ss : List (T n)} {us : List Value}, Reps h59 (Fn (Fn F h h30) h44 h59) n ss us → Reps h' (Fn F h h') n ss us := by
        intro h' z' kk ss us hr
        refine ⟨hr.1, fun j s w q1 q2 => ((hr.2 j s w q1 q2).keep kk (fun b hb e => ?_)).mono (fun b hb => ?_)⟩
        · have hb' : b < h30.size ∨ (h44.size ≤ b ∧ b < h59.size) := by
            rcases hb with hb | hb
            · exact .inl (hF1 b hb)
            · exact .inr hb
          rcases e with e | e | e | e
          · have := B13 b e; omega
          · omega
          · have := B10 b e; omega
          · omega
        · rcases hb with hb | hb
          · exact fn_mono (Nat.le_refl _) (by omega) hb
          · exact .inr ⟨by have := hb.1; omega, by have := hb.2; omega⟩
      refine withJ.inl ?_
      cases O with
      | none =>
        have oz' : zb = .nilIface := oz
        subst oz'
        refine isNil_t ?_
        refine cnd_t rfl ?_
        refine ldL_row (o := 0 + 1) rowJ rfl ?_
        refine ⟨rz.one.1, newB_row ?_⟩
        intro h66 s66 w66 k66
        refine replace_spec (oV'.nw k66) w66 (fun b hb e => by have := B13 b hb; omega) rz.one.2 vone (by omega) (by omega) (nJ.trans' k66) ?_
        intro r67 h68 o67 l67 n68 k68 b68
        have z68 := n68.size
        have row68 := k68.row (k66.row rowJ (fun h => h)) (fun e => by have := B13 _ e; omega)
        have oK68 := (oK'.nw k66).keep k68 (fun b hb e => by have := B13 b e; have := B10 b hb; omega)
        have zk68 := k68.size
        refine stC_row (b := h39.size) (o := 0 + 1) row68 (by simp) rfl ?_
        intro h69 s69 w69 k69
        have nw69 : Nw h30 h69 := Nw.st n68 k69 (by omega)
        have oK69 := oK68.keep k69 (fun b hb e => by have e1 : b = _ := e; have := B10 b hb; omega)
        have o69 := o67.keep k69 (fun b hb e => by have e1 : b = _ := e; have := B13 b (b68 b hb); omega)
        refine ldL_row (o := 0) w69 rfl ?_
        refine deleteS_spec oK69 (keysV_one _) (by omega) (by omega) nw69 ?_
        intro r71 h72 o71 l71 n72 k72 b72
        have row72 := k72.row w69 (fun e => by have := B10 _ e; omega)
        have o72 := o69.keep k72 (fun b hb e => by have := B10 b e; have := B13 b (b68 b hb); omega)
        have zk72 := k72.size
        refine stC_row (b := h39.size) (o := 0) row72 (by simp) rfl ?_
        intro h73 s73 w73 k73
        have nw73 : Nw h30 h73 := Nw.st n72 k73 (by omega)
        have o71' := o71.keep k73 (fun b hb e => by have e1 : b = _ := e; have := B10 b (b72 b hb); omega)
        have o72' := o72.keep k73 (fun b hb e => by have e1 : b = _ := e; have := B13 b (b68 b hb); omega)
        have kk : Keep (fun b => blk rv.a b ∨ b = h39.size ∨ blk rk.a b ∨ h59.size ≤ b) h59 h73 := by
          have q0 := k66.mono (T := fun b => blk rv.a b ∨ b = h39.size ∨ blk rk.a b ∨ h59.size ≤ b) (fun _ _ e => e.elim)
          have q1 := q0.trans k68 (fun b _ e => .inl e)
          have q2 := q1.trans k69 (fun b _ e => .inr (.inl e))
          have q3 := q2.trans k72 (fun b _ e => .inr (.inr (.inl e)))
          exact q3.trans k73 (fun b _ e => .inr (.inl e))
        exact hs _ _ h73 hd (n1.trans' nw73) (rep_inner' w73 (by unfold keysV; rw [delV]; exact o71'.up z1) (o72'.up z1) (by omega) (fin kk.size kk (Reps.del repJ rz)))
      | some q =>
        obtain ⟨m', w⟩ := q
        obtain ⟨em, rw'⟩ : zm = m' ∧ Rep h59 (Fn (Fn F h h30) h44 h59) n w zb := oz
        subst em
        have isn : ∀ {X : Bool → Prop}, X false → isNilI zb X := fun hX => by
          cases n with
          | zero => obtain ⟨p, ka, kl, kc, va, vl, vc, rfl, _⟩ := rw'; exact hX
          | succ n => obtain ⟨p, ka, kl, kc, sa, sl, sc, vs, rfl, _⟩ := rw'; exact hX
        refine isn ?_
        refine cnd_f rfl ?_
        refine ldL_row (o := 0 + 1) rowJ rfl ?_
        refine ldL_row (o := 0 + 1) rowJ rfl ?_
        refine ldL_row (o := 0) rowJ rfl ?_
        refine oV'.idxset (by omega) rz.one.2 ?_
        intro h78 x78 s78 b78 o78 k78
        have oK78 := oK'.keep k78 (fun b hb e => by have e1 : b = x78 := e; have := B10 b hb; have := B13 _ b78; omega)
        have row78 := k78.row rowJ (fun e => by have e1 : _ = x78 := e; have := B13 _ b78; omega)
        refine o78.idxset (by omega) rw'.one.2 ?_
        intro h80 x80 s80 b80 o80 k80
        have oK80 := oK78.keep k80 (fun b hb e => by have e1 : b = x80 := e; have := B10 b hb; have := B13 _ b80; omega)
        have row80 := k80.row row78 (fun e => by have e1 : _ = x80 := e; have := B13 _ b80; omega)
        refine oK80.idxset (v := .string zm) (by omega) rfl ?_
        intro h82 x82 s82 b82 o82 k82
        have row82 := k82.row row80 (fun e => by have e1 : _ = x82 := e; have := B10 _ b82; omega)
        have o80' := o80.keep k82 (fun b hb e => by have e1 : b = x82 := e; have := B13 b hb; have := B10 _ b82; omega)
        have kk : Keep (fun b => blk rv.a b ∨ b = h39.size ∨ blk rk.a b ∨ h59.size ≤ b) h59 h82 := by
          have q1 := k78.mono (T := fun b => blk rv.a b ∨ b = h39.size ∨ blk rk.a b ∨ h59.size ≤ b) (fun b _ e => by have e1 : b = x78 := e; subst e1; exact .inl b78)
          have q2 := q1.trans k80 (fun b _ e => by have e1 : b = x80 := e; subst e1; exact .inl b80)
          exact q2.trans k82 (fun b _ e => by have e1 : b = x82 := e; subst e1; exact .inr (.inr (.inl b82)))
        have nw82 : Nw h30 h82 := nJ.trans kk (fun b hb e => by
          rcases e with e | e | e | e
          · have := B13 b e; omega
          · omega
          · have := B10 b e; omega
          · omega)
        exact hs _ _ h82 hd (n1.trans' nw82) (rep_inner' row82 (by unfold keysV; rw [List.map_set]; exact o82.up z1) (o80'.up z1) (by omega) (fin kk.size kk ((repJ.set rz j).set rw' (j + 1))))

theorem del_spec (k : Key) : ∀ (n : Nat) {lo : Nat} {h : Heap} {F : Nat → Prop} {v : Value} {t : T n} (hr : Rep h F n t v) (hF : ∀ b, F b → b < h.size) (hok : Okn lo n t) (hlo : n = 0 ∨ 2 ≤ lo) (hA : Srt n t) {R : Value × Bool → Heap → Prop}
    (hn : delF k n t = none → ∀ h', Nw h h' → R (v, false) h') (hs : ∀ (u : T n) a h', delF k n t = some u → Nw h h' → Rep h' (Fn F h h') n u a → R (a, true) h'), CallT Try.prog btree_del_no [v, .string k] h [.sc .raw, .sc .bool] R
  | 0, lo, h, F, v, t, hr, hF, hok, hlo, hA, R, hn, hs => del_leaf_spec hr hA.1 hA.2 hn (fun u a h' e nw ra => hs u a h' e nw (ra.mono (fun _ h => .inr h)))
  | n + 1, lo, h, F, v, t, hr, hF, hok, hlo, hA, R, hn, hs => del_inner (@fun _ _ _ _ hr hF ho hA _ hn hs => del_spec k n (lo := 4) hr hF ho (.inr (by omega)) hA hn hs) hr hF hok (by rcases hlo with e | e <;> omega) hA hn hs
end Go.Proofs.Ytopnljjfpfnhfaa
