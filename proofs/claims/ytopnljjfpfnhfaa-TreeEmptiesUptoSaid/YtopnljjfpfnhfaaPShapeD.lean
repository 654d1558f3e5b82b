/- shape. -/
import Derived.Test.YtopnljjfpfnhfaaPShapeC
import Derived.Test.YtopnljjfpfnhfaaPRngB
namespace Go.Proofs.Ytopnljjfpfnhfaa
open Go D
set_option linter.unusedVariables false
set_option linter.unusedSimpArgs false

theorem prs_pos {n : Nat} {t : T n} (h : Okn 4 n t) : 1 ≤ (prs n t).length := by
  have := many h
  have h2 : 0 < 4 ^ (n + 1) := Nat.pow_pos (by omega)
  omega
theorem row_le {n : Nat} {row : List (T n)} (h : ∀ s ∈ row, Okn 4 n s) : row.length ≤ ((row.map (prs n)).flatten).length := by
  have := sum_ge (f := prs n) (c := 1) (l := row) (fun s hs => prs_pos (h s hs))
  omega
theorem sons_ok {lo n : Nat} {row : List (T (n + 1))} (h : ∀ s ∈ row, Okn lo (n + 1) s) : ∀ s ∈ sonsOf row, Okn 4 n s := by
  intro s hs
  obtain ⟨l, hl, hs2⟩ := List.mem_flatten.1 hs
  obtain ⟨t, ht, rfl⟩ := List.mem_map.1 hl
  exact (h t ht).2.2.2 s hs2
theorem sons_prs {n : Nat} (row : List (T (n + 1))) : ((sonsOf row).map (prs n)).flatten = (row.map (prs (n + 1))).flatten := by
  induction row with
  | nil => rfl
  | cons t row ih =>
    have e : sonsOf (t :: row) = t.2 ++ sonsOf row := by
      have := sons_app [t] row
      rw [sons_one] at this; exact this
    rw [e, List.map_append, List.flatten_append, ih]
    rfl
theorem wf_of : ∀ {lo n : Nat} {row : List (T n)}, (∀ s ∈ row, Okn lo n s) → row.length ≤ 1000000 → ((row.map (prs n)).flatten).length ≤ 1000000 → Wf n row ∧ Small n row
  | lo, 0, row, h, h1, h2 => ⟨⟨h1, fun t ht => (h t ht).2⟩, ⟨h1, fun t ht => (h t ht).2⟩⟩
  | lo, n + 1, row, h, h1, h2 => by
    have so := sons_ok h
    have sl := row_le so
    rw [sons_prs] at sl
    have ih := wf_of so (by omega) (by rw [sons_prs]; exact h2)
    have h8 : ∀ t ∈ row, t.1.length ≤ 8 ∧ t.2.length ≤ 8 ∧ t.2.length = t.1.length + 1 := fun t ht => by
      have := h t ht
      have a1 := this.1
      have a2 := this.2.2.1
      exact ⟨by omega, a2, a1⟩
    exact ⟨⟨h1, fun t ht => ⟨(h8 t ht).1, (h8 t ht).2.2⟩, ih.1⟩, ⟨h1, fun t ht => ⟨(h8 t ht).1, (h8 t ht).2.1⟩, by omega, ih.2⟩⟩
theorem leaves_ok : ∀ {n : Nat} {row : List (T n)}, (∀ s ∈ row, Okn 4 n s) → (leavesOf n row).length ≤ ((row.map (prs n)).flatten).length
  | 0, row, h => row_le h
  | n + 1, row, h => by
    have := leaves_ok (sons_ok h)
    rw [sons_prs] at this
    exact this
theorem leaves_le {n : Nat} {t : T n} (h : Rt n t) : (leavesOf n [t]).length ≤ max 1 (prs n t).length := by
  cases n with
  | zero => simp [leavesOf]; omega
  | succ n =>
    have h1 := leaves_ok (row := t.2) (fun s hs => h.ok.2.2.2 s hs)
    have e : leavesOf (n + 1) [t] = leavesOf n t.2 := by
      show leavesOf n (sonsOf [t]) = _
      rw [sons_one]
    rw [e]
    have e2 : prs (n + 1) t = (t.2.map (prs n)).flatten := rfl
    rw [e2]
    omega
/-- every level of a whole tree is as it must be -/
theorem levels_ok {n : Nat} {t : T n} (h : Rt n t) (hl : (prs n t).length ≤ 1000000) : ∀ d, d ≤ n → ∃ (m : Nat) (row : List (T m)), m + d = n ∧ (levF n [t]).drop d = levF m row ∧ Wf m row ∧ leavesOf m row = leavesOf n [t] ∧ ∀ s ∈ row, Okn (if d = 0 then lo0 m else 4) m s ∧ Pw (flat m s)
  | 0, _ => by
    have h1 : ∀ s ∈ [t], Okn (lo0 n) n s := fun s hs => by simp only [List.mem_singleton] at hs; subst hs; exact h.ok
    refine ⟨n, [t], rfl, rfl, (wf_of h1 (by simp) (by simpa using hl)).1, rfl, fun s hs => ?_⟩
    simp only [List.mem_singleton] at hs
    subst hs
    exact ⟨by rw [if_pos rfl]; exact h.ok, h.pw⟩
  | d + 1, hd => by
    obtain ⟨m, row, e1, e2, w, e3, hs⟩ := levels_ok h hl d (by omega)
    obtain ⟨m', rfl⟩ : ∃ m', m = m' + 1 := ⟨m - 1, by omega⟩
    obtain ⟨g0, g1⟩ := drop_lev e2
    refine ⟨m', sonsOf row, by omega, g1, w.2.2, e3, fun s hs' => ?_⟩
    obtain ⟨l, hl', hs2⟩ := List.mem_flatten.1 hs'
    obtain ⟨t', ht', rfl⟩ := List.mem_map.1 hl'
    obtain ⟨ok, pw⟩ := hs t' ht'
    obtain ⟨i, hi, rfl⟩ := List.mem_iff_getElem.1 hs2
    exact ⟨by rw [if_neg (by omega)]; exact ok.2.2.2 _ (List.getElem_mem hi), pw_at ok pw hi⟩
theorem height_le {n : Nat} {t : T n} (h : Rt n t) : n = 0 ∨ 4 ^ n ≤ (prs n t).length := by
  cases n with
  | zero => exact .inl rfl
  | succ n =>
    have := many_root h.ok
    exact .inr (by omega)
theorem leaf_keys {n : Nat} (t : T n) : (((leavesOf n [t]).map (keysOf 0)).flatten) = (prs n t).map (·.1) := by
  have e := leaves_prs [t]
  have e2 : ((List.map (prs n) [t]).flatten) = prs n t := by simp
  rw [e2] at e
  rw [← e]
  have : ∀ l : List (T 0), ((l.map (keysOf 0)).flatten) = ((l.map (prs 0)).flatten).map (·.1) := by
    intro l
    induction l with
    | nil => rfl
    | cons a l ih =>
      rw [List.map_cons, List.map_cons, List.flatten_cons, List.flatten_cons, List.map_append, ih]
      rfl
  exact this _

set_option maxRecDepth 20000 in
theorem shape_spec {h : Heap} {F : Nat → Prop} {p : Nat} {l : List KV} (ht : TreeAt h F p l) (hF : ∀ b, F b → b < h.size) (hl : l.length ≤ 10000) {R : Bool → Heap → Prop} (hk : ∀ h', Nw h h' → R true h') :
    CallT Try.prog law8_shape_no [.pointer (some ⟨p, 0, none⟩)] h [.sc .bool] R := by
  have hcall := law8_shape_call (some ⟨p, 0, none⟩) (R := R) (h := h)
  apply hcall
  clear hcall
  unfold law8_shape
  refine newB_row ?_
  intro h2 s2 r2 k2
  have ht0 := ht
  obtain ⟨n, t, tr, rt, e⟩ := ht
  have lp : (prs n t).length ≤ 10000 := by rw [e]; exact hl
  have lok := levels_ok rt (by omega)
  have hh := height_le rt
  have hn : n ≤ 100 := by
    rcases hh with hh | hh
    · omega
    · have : n < 4 ^ n := Nat.lt_pow_self (by omega)
      rcases Nat.lt_or_ge n 100 with q | q
      · omega
      · exfalso
        have h1 : 4 ^ 100 ≤ 4 ^ n := Nat.pow_le_pow_right (by omega) q
        have h2 : (10001 : Nat) ≤ 4 ^ 100 := by decide
        omega
  have lle := leaves_le rt
  have lk := leaf_keys t
  rw [e] at lk
  obtain ⟨_, sm⟩ := wf_of (row := [t]) (lo := lo0 n) (fun s hs => by simp only [List.mem_singleton] at hs; subst hs; exact rt.ok) (by simp) (by simp; omega)
  have llen := lev_len (n := n) [t]
  have lhead := lev_head (n := n) [t]
  have llast := lev_last (n := n) [t]
  refine levels_spec (tr.nw k2) (fun b hb => by have := hF b hb; omega) sm (by omega) rt.ok (lo0_or n) ?_
  intro r us h4 n4 rv fr ks
  generalize levF n [t] = lvs at ks llen lhead llast lok
  have l1 := rv.1
  have l2 := ks.1
  have a1 := n4.row r2 (fun h => h)
  have t4 := (ht0.nw k2).nw n4
  have n04 := k2.trans' n4
  have z4 := n4.size
  refine withJ.inl (withJ.inl ?_)
  refine cnd_f (decide_eq_false (by omega)) ?_
  have e0 : lvs[0]'(by omega) = [t].map (keysOf n) := by rw [List.getElem?_eq_getElem (by omega)] at lhead; injection lhead
  refine Ksss.at (i := 0) rv ks (by omega) ?_
  intro a' c' us' r' k'
  refine cnd_f (by rw [e0]; rfl) ?_
  refine treeLen t4 ?_
  refine LoopT.intro (fun (s : Int × Int) hx => hx = h4 ∧ ∃ q x : Nat, s = ((q : Int), (x : Int)) ∧ 1 ≤ q ∧ q ≤ 41 ∧ 4 ^ (q - 1) * x ≤ l.length ∧ l.length < 4 ^ (q - 1) * (x + 1)) (fun s _ => s.2.toNat) ⟨rfl, 1, l.length, rfl, Nat.le_refl _, by omega, by simp, by simp⟩ ?_
  rintro _ hx ⟨rfl, q, x, rfl, hq1, hq2, hq3, hq4⟩
  refine withJ.inl ?_
  refine cnd_share (n + 1 ≤ q) ?_ ?_ ?_
  · intro hnq
    refine cnd_f (decide_eq_false (by omega)) ?_
    -- every level
    refine LoopT.intro (fun (s : Int) hy => hy = hx ∧ ∃ d : Nat, s = (d : Int) ∧ d ≤ n + 1) (fun s _ => ((n + 1 : Int) - s).toNat) ⟨rfl, 0, rfl, Nat.zero_le _⟩ ?_
    rintro _ hy ⟨rfl, d, rfl, hd⟩
    refine cnd_dec (fun cd => ?_) (fun cd => ?_)
    · have hdn : d ≤ n := by have : (d : Int) < (r.len : Int) := cd; omega
      obtain ⟨m, row, q1, q2, q3, q4, q5⟩ := lok d hdn
      refine level_spec rv ks q2 q3 (by omega) (by rw [q4]; omega) q5 ?_
      refine cnd_f rfl ?_
      have w1 : w64 ((d : Int) + 1) = ((d + 1 : Nat) : Int) := by rw [w64_id (by omega) (by omega)]; push_cast; rfl
      exact ⟨⟨rfl, d + 1, w1, by omega⟩, by rw [w1]; omega⟩
    · have wl : w64 ((r.len : Int) - 1) = (n : Int) := by rw [w64_id (by omega) (by omega)]; omega
      simp only [wl]
      have el : lvs[n]'(by omega) = (leavesOf n [t]).map (keysOf 0) := by rw [List.getElem?_eq_getElem (by omega)] at llast; injection llast
      refine Ksss.at (i := n) rv ks (by omega) ?_
      intro o28 c28 us2 r28 k28
      rw [el] at r28 k28 ⊢
      rw [List.length_map] at r28 ⊢
      have lls : (leavesOf n [t]).length ≤ 10000 := by omega
      have kl8 : ∀ k ∈ (leavesOf n [t]).map (keysOf 0), k.length ≤ 10000 := by
        intro k hk'
        have : k.length ≤ (((leavesOf n [t]).map (keysOf 0)).flatten).length := by
          obtain ⟨a, b, e⟩ := List.append_of_mem hk'
          rw [e]; simp; omega
        rw [lk, List.length_map] at this
        omega
      have lsl : ((leavesOf n [t]).map (keysOf 0)).length = (leavesOf n [t]).length := List.length_map _
      generalize (leavesOf n [t]).map (keysOf 0) = lf at k28 lk kl8 lsl
      refine newB_row ?_
      intro h30 s30 r30 k30
      refine stC_row (o := 0) r30 (by simp) rfl ?_
      intro h31 s31 r31 k31
      refine newB_row ?_
      intro h33 s33 r33 k33
      have n33 : Nw hy h33 := (Nw.st k30 k31 (Nat.le_refl _)).trans' k33
      have b29 : Row h33 hy.size [.int .i64 0] := k33.row r31 (fun h => h)
      have kp1 : ∀ i, (lf.take i).flatten.length ≤ l.length := fun i => by
        have h1 : lf.flatten = (lf.take i).flatten ++ (lf.drop i).flatten := by rw [← List.flatten_append, List.take_append_drop]
        have h2 := congrArg List.length lk
        rw [h1, List.length_append, List.length_map] at h2
        omega
      refine LoopT.intro (fun (s : Int) hz => ∃ (i : Nat) (ksl : Sl), s = (i : Int) ∧ i ≤ lf.length ∧ Row hz h31.size [.slice ksl.a ksl.len ksl.cap] ∧ Own h33 hz 1 ksl (keysV (lf.take i).flatten) ∧ Keep (fun b => b = h31.size) h33 hz) (fun s _ => ((lf.length : Int) - s).toNat)
        ⟨0, ⟨none, 0, 0⟩, rfl, Nat.zero_le _, r33, Own.nil _ _ _, Keep.refl _ _⟩ ?_
      rintro _ hz ⟨i, ksl, rfl, hi, w1, w2, w3⟩
      have z33 := w3.size
      have ksL := w2.len
      rw [List.length_map, Nat.mul_one] at ksL
      have kpi := kp1 i
      have rz : Rv hz o28 (leavesOf n [t]).length us2 := r28.keep (n33.trans w3 (fun b hb e => by have e' : b = h31.size := e; omega)) (fun _ _ _ e => e)
      have kz : Kss hz _ us2 lf := k28.keep (n33.trans w3 (fun b hb e => by have e' : b = h31.size := e; omega) : Nw hy hz) (fun _ _ e => e)
      refine cnd_dec (fun ci => ?_) (fun ci => ?_)
      · have hil : i < lf.length := by have : (i : Int) < ((leavesOf n [t]).length : Int) := ci; omega
        refine ldL_row (o := 0) w1 rfl ?_
        refine Kss.at rz kz hil ?_
        intro o39 c39 r39
        refine Rv.rd r39 ?_
        have b8 := kl8 _ (List.getElem_mem hil)
        refine SlR.app w2.sl (new := keysV lf[i]) (m := lf[i].length) rfl (by rw [List.length_map, Nat.mul_one]) (keysV_one _) (by omega) ?_
        intro a2 c2 h42 v1 v2 v3
        have sb : ∀ b, blk ksl.a b → h33.size ≤ b ∧ b < hz.size := fun b hb => ⟨w2.fresh b hb, w2.lt hb⟩
        have ab : ∀ b, blk a2 b → blk ksl.a b ∨ hz.size ≤ b := fun b hb => by
          rcases v3 with ⟨e, _⟩ | ⟨e, _⟩
          · rw [e] at hb; exact .inl hb
          · rw [e, blk_some] at hb; simp only at hb; exact .inr (by omega)
        refine stC_row (o := 0) (v2.row w1 (fun e => by have := sb _ e; omega)) (by simp) rfl ?_
        intro h44 s44 r44 k44
        have wi : w64 ((i : Int) + 1) = ((i + 1 : Nat) : Int) := by rw [w64_id (by omega) (by omega)]; push_cast; rfl
        refine ⟨⟨i + 1, ⟨a2, ksl.len + lf[i].length, c2⟩, wi, by omega, r44, ⟨?_, fun b hb => ?_⟩, ?_⟩, by rw [wi]; omega⟩
        · have e1 : keysV (lf.take (i + 1)).flatten = keysV (lf.take i).flatten ++ keysV lf[i] := by
            rw [List.take_succ_eq_append_getElem hil, List.flatten_append]
            unfold keysV
            rw [List.map_append]; simp
          rw [e1]
          exact v1.keep k44 (fun b hb e => by
            have e' : b = h31.size := e
            rcases ab b hb with q | q
            · have := sb b q; omega
            · omega)
        · rcases ab b hb with q | q
          · exact (sb b q).1
          · omega
        · exact (w3.trans v2 (fun b hb e => by have := sb b e; omega)).trans k44 (fun b hb e => e)
      · have hil : i = lf.length := by have : ¬ (i : Int) < ((leavesOf n [t]).length : Int) := ci; omega
        subst hil
        rw [List.take_length, lk] at w2
        rw [List.take_length, lk] at ksL
        have nz : Nw hy hz := n33.trans w3 (fun b hb e => by have e' : b = h31.size := e; omega)
        have tz := t4.nw nz
        refine treeFrom tz (fun b hb => by have := hF b hb; have := nz.size; omega) ?_
        intro rv9 h9 n9 s9 sq
        rw [from_nok] at sq
        have q1 := n9.row (nz.row a1 (fun h => h)) (fun h => h)
        have q29 : Row h9 hy.size [.int .i64 0] := n9.row (w3.row b29 (fun e => by have e' : hy.size = h31.size := e; omega)) (fun h => h)
        have q32 := n9.row w1 (fun h => h)
        have qk := w2.nw n9
        have z9 := n9.size
        have zz := nz.size
        have kb : ∀ b, blk ksl.a b → h33.size ≤ b ∧ b < h9.size := fun b hb => ⟨qk.fresh b hb, qk.lt hb⟩
        rw [List.length_map] at ksL
        refine rng_cells sq (fun b hb => ?_) (fun b => b = hy.size) (fun b hb => ⟨fun hd => ?_, ?_⟩) (fun ex pre hh => ex = .nrm ∧ Row hh hy.size [.int .i64 ((pre.length : Nat) : Int)]) ⟨rfl, q29⟩ ?_ ?_ ?_ ?_ ?_ ?_ ?_
        · rcases hb with hb | hb | hb
          · have := hF b hb; omega
          · omega
          · omega
        · rcases hd with hd | hd | hd
          · have := hF b hd; omega
          · omega
          · omega
        · omega
        · rintro ex pre ha hb ⟨rfl, w1⟩ hk'
          exact ⟨rfl, hk'.row w1 (fun e => e.1 rfl)⟩
        · rintro ex pre ha ⟨rfl, w1⟩ b hb
          subst hb
          exact ⟨_, w1⟩
        · rintro pre y h52 Q ⟨_, w29⟩ k9 hpre hQ
          obtain ⟨hi', ex⟩ := pre_get hpre
          have c32 := k9.row q32 (fun e => by rcases e with e | e <;> omega)
          have ck := qk.keep k9 (fun b hb e => by have := kb b hb; rcases e with e | e <;> omega)
          refine withJ.inl (withJ.inl ?_)
          refine ldI_row (o := 0) w29 rfl ?_
          refine ldL_row (o := 0) c32 rfl ?_
          refine cnd_f (decide_eq_false (by omega)) ?_
          refine ldL_row (o := 0) c32 rfl ?_
          refine ldI_row (o := 0) w29 rfl ?_
          refine ck.rv.at (by omega) (by omega) (v := .string y.1) (by rw [Int.toNat_natCast, List.getElem?_map, List.getElem?_map, List.getElem?_eq_getElem hi', ex]; rfl) ?_
          intro b1 hb1
          refine ldS_at hb1 ?_
          rw [seq_self]
          refine cnd_f rfl ?_
          refine ldI_row (o := 0) w29 rfl ?_
          refine stC_row (o := 0) w29 (by simp) rfl ?_
          intro h57 s57 r57 k57
          have e1 : w64 (((pre.length : Nat) : Int) + 1) = (((pre ++ [y]).length : Nat) : Int) := by rw [w64_id (by omega) (by omega)]; simp
          rw [e1] at r57
          exact hQ .nrm h57 ⟨rfl, r57⟩ (k57.mono (fun b _ e => .inl e))
        · rintro h' ⟨_, w29⟩ k9
          have c1 := k9.row q1 (fun e => by rcases e with e | e <;> omega)
          have c32 := k9.row q32 (fun e => by rcases e with e | e <;> omega)
          refine ldI_row (o := 0) w29 rfl ?_
          refine ldL_row (o := 0) c32 rfl ?_
          have eq : ((((l.length : Nat) : Int)) == ((ksl.len : Nat) : Int)) = true := by rw [beq_iff_eq]; omega
          simp only [eq]
          refine stC_row (o := 0) c1 (by simp) rfl ?_
          intro h71 s71 r71 k71
          intro hv zv sv
          refine ldB_row (o := 0) (shut_row zv sv r71) rfl ?_
          refine hk hv (shut_nw (Nw.st (((n04.trans' nz).trans' n9).trans k9 (fun b hb e => by rcases e with e | e <;> omega)) k71 (Nat.le_refl _)) (Nat.le_refl _) zv sv)
        · rintro pre hh ⟨e, _⟩; cases e
        · rintro i pre hh ⟨e, _⟩; cases e
        · rintro i pre hh ⟨e, _⟩; cases e
  · intro cx hT
    have hx4 : 4 ≤ x := by have : (x : Int) ≥ 4 := cx; omega
    refine cnd_dec ?_ ?_
    · intro c40
      have hq40 : q < 40 := by have : (q : Int) < 40 := c40; omega
      have w1 : w64 ((q : Int) + 1) = ((q + 1 : Nat) : Int) := by rw [w64_id (by omega) (by omega)]; push_cast; rfl
      have xl : x ≤ l.length := by
        have : 1 ≤ 4 ^ (q - 1) := Nat.pow_pos (by omega)
        have := Nat.mul_le_mul_right x this
        omega
      have w2 : w64 ((x : Int).tdiv 4) = ((x / 4 : Nat) : Int) := by
        have e : (x : Int).tdiv 4 = ((x / 4 : Nat) : Int) := by rw [Int.tdiv_eq_ediv_of_nonneg (by omega)]; omega
        rw [e]; exact w64_id (by omega) (by omega)
      have ep : 4 ^ (q + 1 - 1) = 4 ^ (q - 1) * 4 := by rw [← Nat.pow_succ]; congr 1; omega
      refine ⟨⟨rfl, q + 1, x / 4, ?_, by omega, by omega, ?_, ?_⟩, ?_⟩
      · show (w64 ((q : Int) + 1), w64 ((x : Int).tdiv 4)) = _
        rw [w1, w2]
      · rw [ep, Nat.mul_assoc]
        have := Nat.mul_le_mul_left (4 ^ (q - 1)) (show 4 * (x / 4) ≤ x by omega)
        omega
      · rw [ep, Nat.mul_assoc]
        have := Nat.mul_le_mul_left (4 ^ (q - 1)) (show x + 1 ≤ 4 * (x / 4 + 1) by omega)
        omega
      · show (w64 ((x : Int).tdiv 4)).toNat < ((x : Int)).toNat
        rw [w2]; omega
    · intro c40
      have hq40 : 40 ≤ q := by have : ¬ (q : Int) < 40 := c40; omega
      exfalso
      have h1 : 4 ^ 39 ≤ 4 ^ (q - 1) := Nat.pow_le_pow_right (by omega) (by omega)
      have h2 : (10001 : Nat) ≤ 4 ^ 39 := by decide
      have h3 := Nat.mul_le_mul h1 hx4
      omega
  · intro cx
    have hx4 : x < 4 := by have : ¬ (x : Int) ≥ 4 := cx; omega
    rcases hh with rfl | hh
    · omega
    · rw [e] at hh
      have h1 : 4 ^ (q - 1) * (x + 1) ≤ 4 ^ (q - 1) * 4 := Nat.mul_le_mul_left _ (by omega)
      have h2 : 4 ^ (q - 1) * 4 = 4 ^ q := by rw [← Nat.pow_succ]; congr 1; omega
      have h3 : 4 ^ n < 4 ^ q := by omega
      have := (Nat.pow_lt_pow_iff_right (show 1 < 4 by omega)).1 h3
      omega
end Go.Proofs.Ytopnljjfpfnhfaa
