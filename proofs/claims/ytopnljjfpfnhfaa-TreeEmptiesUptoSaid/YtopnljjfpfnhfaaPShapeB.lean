/- shape: between, level. -/
import Derived.Test.YtopnljjfpfnhfaaPShape
namespace Go.Proofs.Ytopnljjfpfnhfaa
open Go D
set_option linter.unusedVariables false
set_option linter.unusedSimpArgs false

theorem take_sons {n : Nat} {row : List (T (n + 1))} (hw : ∀ t ∈ row, t.2.length = t.1.length + 1) (a : Nat) : (sonsOf row).take (firstF (row.map (keysOf (n + 1))) a) = sonsOf (row.take a) := by
  rw [← sons_len hw a]
  have e : sonsOf row = sonsOf (row.take a) ++ sonsOf (row.drop a) := by rw [← sons_app, List.take_append_drop]
  rw [e, List.take_left']
  rfl
theorem drop_lev {n : Nat} {lvs : List (List (List Key))} {d : Nat} {row : List (T (n + 1))} (h : lvs.drop d = levF (n + 1) row) : lvs[d]? = some (row.map (keysOf (n + 1))) ∧ lvs.drop (d + 1) = levF n (sonsOf row) := by
  have e : levF (n + 1) row = row.map (keysOf (n + 1)) :: levF n (sonsOf row) := rfl
  rw [e] at h
  have h0 := congrArg (fun l => l[0]?) h
  have h1 := congrArg (fun l => l.drop 1) h
  simp only [List.getElem?_drop, Nat.add_zero, List.getElem?_cons_zero, List.drop_drop, List.drop_succ_cons, List.drop_zero] at h0 h1
  exact ⟨h0, h1⟩
theorem drop_len {n : Nat} {lvs : List (List (List Key))} {d : Nat} {row : List (T n)} (h : lvs.drop d = levF n row) : lvs.length = d + n + 1 := by
  have := congrArg List.length h
  rw [lev_len, List.length_drop] at this
  omega
theorem drop_head {n : Nat} {lvs : List (List (List Key))} {d : Nat} {row : List (T n)} (h : lvs.drop d = levF n row) : lvs[d]? = some (row.map (keysOf n)) := by
  have h0 := congrArg (fun l => l[0]?) h
  simp only [List.getElem?_drop, Nat.add_zero, lev_head] at h0
  exact h0

theorem between_spec {h : Heap} {D : Nat → Prop} {s : Sl} {us : List Value} {lvs : List (List (List Key))} {d m child : Nat} {row : List (T m)} {key : Key} (hr : Rv h s.a s.len us) (hk : Ksss h D us lvs) (hd : lvs.drop (d + 1) = levF m row) (hw : Wf m row) (hc : child + 1 < row.length) (hlv : lvs.length ≤ 1000) (hls : (leavesOf m row).length ≤ 1000000)
    (o1 : ∀ u ∈ leavesOf m [row[child]], ∀ p ∈ prs 0 u, klt p.1 key) (o2 : ∀ u ∈ leavesOf m [row[child + 1]], ∀ p ∈ prs 0 u, ¬ klt p.1 key) {R : Bool → Heap → Prop} (hK : R true h) :
    CallT Try.prog law8_between_no [.slice s.a s.len s.cap, .int .i64 (d : Int), .int .i64 (child : Int), .string key] h [.sc .bool] R := by
  have hcall := law8_between_call s (d : Int) (child : Int) key (R := R) (h := h)
  apply hcall
  clear hcall
  unfold law8_between
  have ll := drop_len hd
  have l1 := hr.1
  have l2 := hk.1
  have rl := hw.len
  have w1 : w64 ((d : Int) + 1) = ((d + 1 : Nat) : Int) := by rw [w64_id (by omega) (by omega)]; push_cast; rfl
  have w2 : w64 ((child : Int) + 1) = ((child + 1 : Nat) : Int) := by rw [w64_id (by omega) (by omega)]; push_cast; rfl
  have w3 : w64 ((child : Int) + 2) = ((child + 2 : Nat) : Int) := by rw [w64_id (by omega) (by omega)]; push_cast; rfl
  simp only [w1, w2, w3]
  have hd0 := drop_head hd
  have hdl : d + 1 < lvs.length := by omega
  have el : lvs[d + 1] = row.map (keysOf m) := by rw [List.getElem?_eq_getElem hdl] at hd0; injection hd0
  refine Ksss.at hr hk hdl ?_
  intro a' c' us' r' k'
  refine cnd_f (decide_eq_false (by rw [el, List.length_map]; omega)) ?_
  -- the row's leaves in three parts
  have hcr : child < row.length := by omega
  have e0 : row = row.take child ++ (row[child] :: row[child + 1] :: row.drop (child + 2)) := by
    rw [← List.drop_eq_getElem_cons hc, ← List.drop_eq_getElem_cons hcr, List.take_append_drop]
  generalize hA : (leavesOf m (row.take child)).length = A
  have pB : leavesOf m (row.take (child + 1)) = leavesOf m (row.take child) ++ leavesOf m [row[child]] := by rw [List.take_succ_eq_append_getElem hcr, leaves_app]
  have pC : leavesOf m (row.take (child + 2)) = leavesOf m (row.take (child + 1)) ++ leavesOf m [row[child + 1]] := by rw [List.take_succ_eq_append_getElem hc, leaves_app]
  generalize hB : (leavesOf m (row.take (child + 1))).length = B
  generalize hC : (leavesOf m (row.take (child + 2))).length = C
  have pl : leavesOf m row = leavesOf m (row.take (child + 2)) ++ leavesOf m (row.drop (child + 2)) := by rw [← leaves_app, List.take_append_drop]
  have hAB : A ≤ B := by rw [← hA, ← hB, pB, List.length_append]; omega
  have hBC : B ≤ C := by rw [← hB, ← hC, pC, List.length_append]; omega
  have hCl : C ≤ (leavesOf m row).length := by rw [← hC, pl, List.length_append]; omega
  have ord1 : ∀ n (hn : n < (leavesOf m row).length), A ≤ n → n < B → ∀ p ∈ prs 0 (leavesOf m row)[n], klt p.1 key := by
    intro n hn h1 h2 p hp
    refine o1 (leavesOf m row)[n] ?_ p hp
    have g : (leavesOf m row)[n]? = (leavesOf m [row[child]])[n - A]? := by
      rw [pl, List.getElem?_append_left (by omega), pC, List.getElem?_append_left (by omega), pB, List.getElem?_append_right (by omega), hA]
    rw [List.getElem?_eq_getElem hn] at g
    exact List.mem_of_getElem? g.symm
  have ord2 : ∀ n (hn : n < (leavesOf m row).length), B ≤ n → n < C → ∀ p ∈ prs 0 (leavesOf m row)[n], ¬ klt p.1 key := by
    intro n hn h1 h2 p hp
    refine o2 (leavesOf m row)[n] ?_ p hp
    have g : (leavesOf m row)[n]? = (leavesOf m [row[child + 1]])[n - B]? := by
      rw [pl, List.getElem?_append_left (by omega), pC, List.getElem?_append_right (by omega), hB]
    rw [List.getElem?_eq_getElem hn] at g
    exact List.mem_of_getElem? g.symm
  have key8 : ∀ u ∈ leavesOf m row, List.length u ≤ 8 := by
    have : ∀ {m : Nat} {row : List (T m)}, Wf m row → ∀ u ∈ leavesOf m row, List.length u ≤ 8 := by
      intro m
      induction m with
      | zero => intro row hw u hu; exact hw.2 u hu
      | succ m ih => intro row hw u hu; exact ih hw.2.2 u hu
    exact this hw
  refine LoopT.introN (fun N (st : Int × Int × Int × Int) h' => h' = h ∧ ∃ (m' : Nat) (row' : List (T m')) (a b c k : Nat), N = m' ∧ st = ((a : Int), (b : Int), (c : Int), (k : Int)) ∧ lvs.drop k = levF m' row' ∧ Wf m' row' ∧ leavesOf m' row' = leavesOf m row ∧ a ≤ row'.length ∧ b ≤ row'.length ∧ c ≤ row'.length ∧
      (leavesOf m' (row'.take a)).length = A ∧ (leavesOf m' (row'.take b)).length = B ∧ (leavesOf m' (row'.take c)).length = C)
    ⟨m, rfl, m, row, child, child + 1, child + 2, d + 1, rfl, rfl, hd, hw, rfl, by omega, by omega, by omega, hA, hB, hC⟩ ?_
  rintro N st h' ⟨rfl, m', row', a, b, c, k, rfl, rfl, hdk, hw', hlv', ha, hb, hc', eA, eB, eC⟩
  have lk := drop_len hdk
  have rl' := hw'.len
  have wk : w64 ((k : Int) + 1) = ((k + 1 : Nat) : Int) := by rw [w64_id (by omega) (by omega)]; push_cast; rfl
  simp only [wk]
  have hkl : k < lvs.length := by omega
  refine cnd_dec (fun c1 => ?_) (fun c1 => ?_)
  · obtain ⟨m'', rfl⟩ : ∃ m'', N = m'' + 1 := ⟨N - 1, by have : ((k + 1 : Nat) : Int) < (s.len : Int) := c1; omega⟩
    obtain ⟨g0, g1⟩ := drop_lev hdk
    have ek : lvs[k] = row'.map (keysOf (m'' + 1)) := by rw [List.getElem?_eq_getElem hkl] at g0; injection g0
    have lvl : ∀ {K : Option Addr → Nat → Nat → Prop}, (∀ a1 c1 us1, Rv h' a1 row'.length us1 → Kss h' D us1 (row'.map (keysOf (m'' + 1))) → K a1 row'.length c1) → idx s.a s.len (k : Int) fun x => ldL (x.add ((k : Int).toNat * 1)) h' K := by
      intro K hK'
      refine Ksss.at hr hk hkl ?_
      intro a1 c1 us1 r1 k1
      rw [ek] at r1 k1 ⊢
      rw [List.length_map] at r1 ⊢
      exact hK' a1 c1 us1 r1 k1
    have k8 := hw'.k8
    have ws : ∀ t ∈ row', t.2.length = t.1.length + 1 := fun t ht => (hw'.2.1 t ht).2
    -- three loads of one level
    have l1k := hr.1
    obtain ⟨a1, l1', c1', us1, ev1, r1, _, k1⟩ := hk.2 k (us[k]'(by omega)) _ (List.getElem?_eq_getElem (by omega)) (List.getElem?_eq_getElem hkl)
    rw [ek] at k1
    obtain ⟨x, ex, hx, cx⟩ := hr.2 k _ (List.getElem?_eq_getElem (show k < us.length by omega))
    rw [ev1] at cx
    have one : ∀ {K : Option Addr → Nat → Nat → Prop}, K a1 l1' c1' → ldL (x.add ((k : Int).toNat * 1)) h' K := fun hK' => ldL_at (by rw [Int.toNat_natCast, Nat.mul_one]; exact cx) hK'
    refine ⟨x, ex, by omega, by show (k : Int) < _; omega, one ?_⟩
    refine ⟨x, ex, by omega, by show (k : Int) < _; omega, one ?_⟩
    refine ⟨x, ex, by omega, by show (k : Int) < _; omega, one ?_⟩
    have lm : (row'.map (keysOf (m'' + 1))).length ≤ 10000000 := by rw [List.length_map]; omega
    refine first_spec r1 k1 k8 lm (by omega) ?_
    refine ⟨one rfl, one rfl, ?_⟩
    refine first_spec r1 k1 k8 lm (by omega) ?_
    refine ⟨one rfl, ?_⟩
    refine first_spec r1 k1 k8 lm (by omega) ?_
    have fl : ∀ q, firstF (row'.map (keysOf (m'' + 1))) q ≤ (sonsOf row').length := fun q => by
      rw [← sons_len ws q]
      have e : sonsOf row' = sonsOf (row'.take q) ++ sonsOf (row'.drop q) := by rw [← sons_app, List.take_append_drop]
      rw [e, List.length_append]; omega
    refine ⟨m'', by omega, rfl, m'', sonsOf row', _, _, _, k + 1, rfl, rfl, g1, hw'.2.2, hlv', fl a, fl b, fl c, ?_, ?_, ?_⟩
    · rw [take_sons ws]; exact eA
    · rw [take_sons ws]; exact eB
    · rw [take_sons ws]; exact eC
  · have hN : N = 0 := by have : ¬ ((k + 1 : Nat) : Int) < (s.len : Int) := c1; omega
    subst hN
    have hlast := drop_head hdk
    have eL : leavesOf 0 row' = row' := rfl
    rw [eL] at hlv'
    have eA' : a = A := by have : (row'.take a).length = A := eA; rw [List.length_take] at this; omega
    have eB' : b = B := by have : (row'.take b).length = B := eB; rw [List.length_take] at this; omega
    have eC' : c = C := by have : (row'.take c).length = C := eC; rw [List.length_take] at this; omega
    subst eA' eB' eC'
    have hk1 : w64 ((s.len : Int) - 1) = (k : Int) := by rw [w64_id (by omega) (by omega)]; omega
    simp only [hk1]
    have ek : lvs[k] = row'.map (keysOf 0) := by rw [List.getElem?_eq_getElem hkl] at hlast; injection hlast
    refine Ksss.at hr hk hkl ?_
    intro a1 c1' us1 r1 k1
    rw [ek] at r1 k1 ⊢
    rw [List.length_map] at r1 ⊢
    refine cnd_f (decide_eq_false (by show ¬ (c : Int) > (row'.length : Int); omega)) ?_
    refine LoopT.intro (fun (t : Int) hh => hh = h' ∧ ∃ n : Nat, t = (n : Int) ∧ a ≤ n) (fun t _ => ((c : Int) - t).toNat) ⟨rfl, a, rfl, Nat.le_refl _⟩ ?_
    rintro _ hh ⟨rfl, n, rfl, han⟩
    refine cnd_dec (fun c2 => ?_) (fun c2 => hK)
    have hnc : n < c := by have : (n : Int) < (c : Int) := c2; omega
    have hnl : n < row'.length := by omega
    have hnL : n < (leavesOf m row).length := by rw [← hlv']; exact hnl
    have ent : ∀ {K : Option Addr → Nat → Nat → Prop}, (∀ a2 c2, Rv hh a2 (List.length row'[n]) (keysV (keysOf 0 row'[n])) → K a2 (List.length row'[n]) c2) → idx a1 row'.length (n : Int) fun x => ldL (x.add ((n : Int).toNat * 1)) hh K := by
      intro K hK'
      refine Kss.at r1 k1 (i := n) (by rw [List.length_map]; exact hnl) ?_
      intro a2 c2 r2
      have e : (row'.map (keysOf 0))[n]'(by rw [List.length_map]; exact hnl) = keysOf 0 row'[n] := List.getElem_map _
      rw [e] at r2 ⊢
      have e2 : (keysOf 0 row'[n]).length = List.length row'[n] := List.length_map _
      rw [e2] at r2 ⊢
      exact hK' a2 c2 r2
    have kat : ∀ {i : Nat} (hi : i < List.length row'[n]), ∃ x, (keysV (keysOf 0 row'[n]))[(i : Int).toNat]? = some (.string x) ∧ (n < b → klt x key) ∧ (b ≤ n → ¬ klt x key) := by
      intro i hi
      have e1 : ∀ (u : List KV) (hi : i < u.length), (keysV (keysOf 0 u))[(i : Int).toNat]? = some (.string u[i].1) := by
        intro u hi
        rw [Int.toNat_natCast, List.getElem?_map]
        show Option.map _ ((List.map _ u)[i]?) = _
        rw [List.getElem?_map, List.getElem?_eq_getElem hi]; rfl
      refine ⟨_, e1 row'[n] hi, fun hb' => ?_, fun hb' => ?_⟩
      · refine ord1 n hnL han hb' _ ?_
        have : (leavesOf m row)[n] = row'[n] := by simp only [← hlv']
        rw [this]
        exact List.getElem_mem (l := (row'[n] : List KV)) hi
      · refine ord2 n hnL hb' hnc _ ?_
        have : (leavesOf m row)[n] = row'[n] := by simp only [← hlv']
        rw [this]
        exact List.getElem_mem (l := (row'[n] : List KV)) hi
    have n8 := key8 row'[n] (by rw [← hlv']; exact List.getElem_mem hnl)
    have wn : w64 ((n : Int) + 1) = ((n + 1 : Nat) : Int) := by rw [w64_id (by omega) (by omega)]; push_cast; rfl
    refine LoopT.intro (fun (t : Int) hh' => hh' = hh ∧ ∃ i : Nat, t = (i : Int) ∧ i ≤ List.length row'[n]) (fun t _ => ((List.length row'[n] : Int) - t).toNat) ⟨rfl, 0, rfl, Nat.zero_le _⟩ ?_
    rintro _ h3 ⟨rfl, i, rfl, hil⟩
    have wi : w64 ((i : Int) + 1) = ((i + 1 : Nat) : Int) := by rw [w64_id (by omega) (by omega)]; push_cast; rfl
    refine ent ?_
    intro a2 c2' r2
    refine cnd_dec (fun c3 => ?_) (fun c3 => ?_)
    · have hi : i < List.length row'[n] := by have : (i : Int) < (List.length row'[n] : Int) := c3; omega
      obtain ⟨x, ex, b1, b2⟩ := kat hi
      have ldk : ∀ {K : Key → Prop}, K x → idx a1 row'.length (n : Int) fun x => ldL (x.add ((n : Int).toNat * 1)) h3 fun o l c => idx o l (i : Int) fun y => ldS (y.add ((i : Int).toNat * 1)) h3 K := by
        intro K hK'
        refine ent ?_
        intro a3 c3 r3
        refine r3.at (by omega) (by omega) ex ?_
        intro y hy
        exact ldS_at hy hK'
      have done : (∃ i_1 : Nat, (w64 ((i : Int) + 1)) = (i_1 : Int) ∧ i_1 ≤ List.length row'[n]) ∧ ((List.length row'[n] : Int) - w64 ((i : Int) + 1)).toNat < ((List.length row'[n] : Int) - (i : Int)).toNat := by
        rw [wi]; exact ⟨⟨i + 1, rfl, by omega⟩, by omega⟩
      refine withJ.inl (withJ.inl ?_)
      refine cnd_dec (fun c4 => ?_) (fun c4 => ?_)
      · have hnb : n < b := by have : (n : Int) < (b : Int) := c4; omega
        refine ldk ?_
        rw [slt_dec]
        refine cnd_f (by simpa using b1 hnb) ?_
        refine cnd_f (decide_eq_false (by omega)) ?_
        exact cnd_f rfl ⟨⟨rfl, done.1⟩, done.2⟩
      · have hnb : b ≤ n := by have : ¬ (n : Int) < (b : Int) := c4; omega
        refine cnd_t (decide_eq_true (by omega)) ?_
        refine ldk ?_
        rw [slt_dec]
        exact cnd_f (decide_eq_false (b2 hnb)) ⟨⟨rfl, done.1⟩, done.2⟩
    · refine ⟨⟨rfl, n + 1, wn, by omega⟩, ?_⟩
      rw [wn]; omega
end Go.Proofs.Ytopnljjfpfnhfaa
