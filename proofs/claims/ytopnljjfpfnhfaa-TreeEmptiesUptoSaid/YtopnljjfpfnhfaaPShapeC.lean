/- shape: level. -/
import Derived.Test.YtopnljjfpfnhfaaPShapeB
namespace Go.Proofs.Ytopnljjfpfnhfaa
open Go D
set_option linter.unusedVariables false
set_option linter.unusedSimpArgs false

theorem lft_memk {k : Key} : ∀ {X : List (List Itm)} {ka : List Key}, ka.length ≤ X.length → k ∈ ka → (true, k) ∈ lft X ka
  | s :: X, a :: ka, hl, h => by
    rcases List.mem_cons.1 h with rfl | h
    · exact List.mem_append.2 (.inr (List.mem_cons_self ..))
    · exact List.mem_append.2 (.inr (List.mem_cons_of_mem _ (lft_memk (by simpa using hl) h)))
  | [], a :: ka, hl, _ => by simp at hl
  | _, [], _, h => by cases h
theorem sep_left {n lo : Nat} {t : T (n + 1)} (ok : Okn lo (n + 1) t) (hp : Pw (flat (n + 1) t)) {i : Nat} (hi : i < t.1.length) {x : Key} (hx : (false, x) ∈ flat n (t.2[i]'(by have := ok.1; omega))) : klt x t.1[i] := by
  have hl := ok.1
  rw [flat_self (i := i) hl (by omega)] at hp
  have h1 := (List.pairwise_append.1 (List.pairwise_append.1 hp).2.1).2.2
  have h2 := h1 (false, x) hx (true, t.1[i]) (rgt_mem (by rw [List.length_map, List.length_drop, List.length_drop]; omega) (by rw [List.drop_eq_getElem_cons hi]; exact List.mem_cons_self ..))
  exact h2
theorem sep_right {n lo : Nat} {t : T (n + 1)} (ok : Okn lo (n + 1) t) (hp : Pw (flat (n + 1) t)) {i : Nat} (hi : i < t.1.length) {x : Key} (hx : (false, x) ∈ flat n (t.2[i + 1]'(by have := ok.1; omega))) : ¬ klt x t.1[i] := by
  have hl := ok.1
  rw [flat_self (i := i + 1) hl (by omega)] at hp
  have h1 := (List.pairwise_append.1 hp).2.2
  have hm : t.1[i] ∈ t.1.take (i + 1) := by
    rw [List.take_succ_eq_append_getElem hi]; exact List.mem_append.2 (.inr (List.mem_cons_self ..))
  have h2 := h1 (true, t.1[i]) (lft_memk (by rw [List.length_map, List.length_take, List.length_take]; omega) hm) (false, x) (List.mem_append.2 (.inl hx))
  exact h2
theorem keys_asc {lo : Nat} : ∀ {m : Nat} {t : T m}, Okn lo m t → Pw (flat m t) → Asc (keysOf m t)
  | 0, t, _, hp => leaf_asc hp
  | m + 1, t, ok, hp => flat_asc ok.1 hp

theorem level_spec {h : Heap} {D : Nat → Prop} {s : Sl} {us : List Value} {lvs : List (List (List Key))} {d m : Nat} {row : List (T m)} (hr : Rv h s.a s.len us) (hk : Ksss h D us lvs) (hd : lvs.drop d = levF m row) (hw : Wf m row) (hlv : lvs.length ≤ 1000) (hls : (leavesOf m row).length ≤ 1000000)
    (hn : ∀ t ∈ row, Okn (if d = 0 then lo0 m else 4) m t ∧ Pw (flat m t)) {R : Bool → Heap → Prop} (hK : R true h) :
    CallT Try.prog law8_level_no [.slice s.a s.len s.cap, .int .i64 (d : Int)] h [.sc .bool] R := by
  have hcall := law8_level_call s (d : Int) (R := R) (h := h)
  apply hcall
  clear hcall
  unfold law8_level
  have ll := drop_len hd
  have l1 := hr.1
  have l2 := hk.1
  have rl := hw.len
  have wl : w64 ((s.len : Int) - 1) = ((lvs.length - 1 : Nat) : Int) := by rw [w64_id (by omega) (by omega)]; omega
  have wd : w64 ((d : Int) + 1) = ((d + 1 : Nat) : Int) := by rw [w64_id (by omega) (by omega)]; push_cast; rfl
  have eqd : ((d : Int) == w64 ((s.len : Int) - 1)) = decide (m = 0) := by
    rw [wl, Bool.eq_iff_iff, beq_iff_eq, decide_eq_true_eq]; omega
  have eq0 : ((d : Int) == 0) = decide (d = 0) := by
    rw [Bool.eq_iff_iff, beq_iff_eq, decide_eq_true_eq]; omega
  simp only [eqd, eq0, wd]
  have hd0 := drop_head hd
  have hdl : d < lvs.length := by omega
  have el : lvs[d] = row.map (keysOf m) := by rw [List.getElem?_eq_getElem hdl] at hd0; injection hd0
  have lvl : ∀ {K : Option Addr → Nat → Nat → Prop}, (∀ a1 c1 us1, Rv h a1 row.length us1 → Kss h D us1 (row.map (keysOf m)) → K a1 row.length c1) → idx s.a s.len (d : Int) fun x => ldL (x.add ((d : Int).toNat * 1)) h K := by
    intro K hK'
    refine Ksss.at hr hk hdl ?_
    intro a1 c1 us1 r1 k1
    rw [el] at r1 k1 ⊢
    rw [List.length_map] at r1 ⊢
    exact hK' a1 c1 us1 r1 k1
  have k8 := hw.k8
  -- how many sons the nodes before have
  have chd : ∃ ch : Nat → Nat, ch 0 = 0 ∧ (m = 0 → ∀ n, ch n = 0) ∧ (m ≠ 0 → ∀ n, ch n = firstF (row.map (keysOf m)) n) := by
    by_cases e : m = 0
    · exact ⟨fun _ => 0, rfl, fun _ _ => rfl, fun h => absurd e h⟩
    · exact ⟨fun n => firstF (row.map (keysOf m)) n, rfl, fun h => absurd h e, fun _ _ => rfl⟩
  obtain ⟨ch, ch0, chz, chs⟩ := chd
  have chb : ∀ n, ch n ≤ 9000000 := fun n => by
    by_cases e : m = 0
    · rw [chz e]; omega
    · rw [chs e]
      have := first_le k8 n
      rw [List.length_map] at this; omega
  refine LoopT.intro (fun (t : Int × Int) hh => hh = h ∧ ∃ n : Nat, t = ((ch n : Int), (n : Int)) ∧ n ≤ row.length) (fun t _ => ((row.length : Int) - t.2).toNat) ⟨rfl, 0, by rw [ch0]; rfl, Nat.zero_le _⟩ ?_
  rintro _ hh ⟨rfl, n, rfl, hnl⟩
  refine lvl ?_
  intro a1 c1 us1 r1 k1
  refine cnd_dec (fun cn => ?_) (fun cn => ?_)
  · have hn2 : n < row.length := by have : (n : Int) < (row.length : Int) := cn; omega
    obtain ⟨ok, pw⟩ := hn _ (List.getElem_mem hn2)
    have asc := keys_asc ok pw
    have wn : w64 ((n : Int) + 1) = ((n + 1 : Nat) : Int) := by rw [w64_id (by omega) (by omega)]; push_cast; rfl
    refine withJ.inl ?_
    refine lvl ?_
    intro a2 c2 us2 r2 k2
    have en : (row.map (keysOf m))[n]'(by rw [List.length_map]; exact hn2) = keysOf m row[n] := List.getElem_map _
    refine Kss.at r2 k2 (i := n) (by rw [List.length_map]; exact hn2) ?_
    intro o12 c12 r12
    rw [en] at r12 ⊢
    have kl8 : (keysOf m row[n]).length ≤ 8 := k8 _ (List.mem_map_of_mem (List.getElem_mem hn2))
    have kb : (m = 0 → d ≠ 0 → 4 ≤ (keysOf m row[n]).length) ∧ (m ≠ 0 → (keysOf m row[n]).length ≤ 7 ∧ 1 ≤ (keysOf m row[n]).length ∧ (d ≠ 0 → 3 ≤ (keysOf m row[n]).length)) := by
      cases m with
      | zero =>
        refine ⟨fun _ hd' => ?_, fun e => absurd rfl e⟩
        rw [if_neg hd'] at ok
        exact Nat.le_trans ok.1 (Nat.le_of_eq (List.length_map _).symm)
      | succ m =>
        refine ⟨fun e => (by cases e), fun _ => ?_⟩
        have q1 := ok.1
        have q2 := ok.2.1
        have q3 := ok.2.2.1
        have q4 : 2 ≤ (if d = 0 then lo0 (m + 1) else 4) := by split <;> simp [lo0]
        have e : (keysOf (m + 1) row[n]).length = (row[n] : T (m + 1)).1.length := rfl
        rw [e]
        refine ⟨by omega, by omega, fun hd' => ?_⟩
        rw [if_neg hd'] at q2
        omega
    generalize hkl : (keysOf m row[n]).length = kl at r12 kl8 kb ⊢
    refine withJ.intro (fun (q : Int × Int) h15 => h15 = hh ∧ (kl : Int) ≤ q.2 ∧ (d ≠ 0 → q.1 ≤ (kl : Int))) ?_ ?_
    · rintro ⟨q1, q2⟩ h15 ⟨rfl, b1, b2⟩
      simp only at b1 b2
      refine withJ.intro (fun (q : Int) h18 => h18 = h15 ∧ q ≤ (kl : Int)) ?_ ?_
      · rintro q h18 ⟨rfl, b3⟩
        refine withJ.inl (withJ.inl ?_)
        refine cnd_f (decide_eq_false (by omega)) ?_
        refine cnd_f (decide_eq_false (by omega)) ?_
        -- the keys rise
        refine LoopT.intro (fun (t : Int) h2 => h2 = h18 ∧ ∃ i : Nat, t = (i : Int) ∧ 1 ≤ i ∧ i ≤ max 1 kl) (fun t _ => ((kl : Int) - t).toNat) ⟨rfl, 1, rfl, Nat.le_refl _, by omega⟩ ?_
        rintro _ h2 ⟨rfl, i, rfl, hi1, hik⟩
        refine cnd_dec (fun ci => ?_) (fun ci => ?_)
        · have hil : i < kl := by have : (i : Int) < (kl : Int) := ci; omega
          have wi : w64 ((i : Int) + 1) = ((i + 1 : Nat) : Int) := by rw [w64_id (by omega) (by omega)]; push_cast; rfl
          have wi1 : w64 ((i : Int) - 1) = ((i - 1 : Nat) : Int) := by rw [w64_id (by omega) (by omega)]; omega
          simp only [wi1]
          refine r12.at (by omega) (by omega) (v := .string ((keysOf m row[n])[i]'(by omega))) (by rw [Int.toNat_natCast, List.getElem?_map, List.getElem?_eq_getElem (by omega)]; rfl) ?_
          intro y1 hy1
          refine ldS_at hy1 ?_
          refine r12.at (by omega) (by omega) (v := .string ((keysOf m row[n])[i - 1]'(by omega))) (by rw [Int.toNat_natCast, List.getElem?_map, List.getElem?_eq_getElem (by omega)]; rfl) ?_
          intro y2 hy2
          refine ldS_at hy2 ?_
          have lt := asc_get (i := i - 1) (j := i) asc (by omega) (List.getElem?_eq_getElem (by omega)) (List.getElem?_eq_getElem (by omega))
          rw [slt_dec, seq_dec]
          refine cnd_f ?_ ?_
          · rw [decide_eq_false (klt_asymm lt), decide_eq_false (fun e => by rw [e] at lt; exact klt_irrefl _ lt)]; rfl
          · exact ⟨⟨by first | rfl | trivial, i + 1, wi, by omega, by omega⟩, by rw [wi]; omega⟩
        · refine cnd_dec (fun cm => ?_) (fun cm => ?_)
          · refine ⟨⟨rfl, n + 1, ?_, by omega⟩, ?_⟩
            · show ((ch n : Int), w64 ((n : Int) + 1)) = _
              rw [wn, chz cm, chz cm]
            · show ((row.length : Int) - w64 ((n : Int) + 1)).toNat < ((row.length : Int) - (n : Int)).toNat
              rw [wn]; omega
          · -- the keys part the sons
            obtain ⟨m', rfl⟩ : ∃ m', m = m' + 1 := ⟨m - 1, by omega⟩
            obtain ⟨g0, g1⟩ := drop_lev hd
            have ws : ∀ t ∈ row, t.2.length = t.1.length + 1 := fun t ht => (hw.2.1 t ht).2
            have esplit : sonsOf row = sonsOf (row.take n) ++ ((row[n] : T (m' + 1)).2 ++ sonsOf (row.drop (n + 1))) := by
              have e1 : row = row.take n ++ ([row[n]] ++ row.drop (n + 1)) := by
                rw [List.singleton_append, ← List.drop_eq_getElem_cons hn2, List.take_append_drop]
              conv => lhs; rw [e1]
              rw [sons_app, sons_app, sons_one]
            have echn : ch n = (sonsOf (row.take n)).length := by rw [chs cm, sons_len ws]
            have l2' := ok.1
            have ekl : (row[n] : T (m' + 1)).1.length = kl := hkl
            have son : ∀ {j : Nat} (hj : j < (row[n] : T (m' + 1)).2.length), (sonsOf row)[ch n + j]? = some (row[n] : T (m' + 1)).2[j] := by
              intro j hj
              rw [esplit, echn, List.getElem?_append_right (by omega), List.getElem?_append_left (by omega), show (sonsOf (row.take n)).length + j - (sonsOf (row.take n)).length = j by omega, List.getElem?_eq_getElem hj]
            have chb' := chb n
            refine LoopT.intro (fun (t : Int) h2' => h2' = h2 ∧ ∃ i : Nat, t = (i : Int) ∧ i ≤ kl) (fun t _ => ((kl : Int) - t).toNat) ⟨rfl, 0, rfl, Nat.zero_le _⟩ ?_
            rintro _ h3 ⟨rfl, j, rfl, hjk⟩
            refine cnd_dec (fun cj => ?_) (fun cj => ?_)
            · have hjl : j < kl := by have : (j : Int) < (kl : Int) := cj; omega
              have wj : w64 ((j : Int) + 1) = ((j + 1 : Nat) : Int) := by rw [w64_id (by omega) (by omega)]; push_cast; rfl
              have wc : w64 ((ch n : Int) + (j : Int)) = ((ch n + j : Nat) : Int) := by rw [w64_id (by omega) (by omega)]; push_cast; rfl
              simp only [wc]
              refine r12.at (by omega) (by omega) (v := .string ((row[n] : T (m' + 1)).1[j]'(by omega))) (by rw [Int.toNat_natCast, List.getElem?_map]; show Option.map _ ((row[n] : T (m' + 1)).1[j]?) = _; rw [List.getElem?_eq_getElem (by omega)]; rfl) ?_
              intro y1 hy1
              refine ldS_at hy1 ?_
              have s1 := son (j := j) (by omega)
              have s2 := son (j := j + 1) (by omega)
              obtain ⟨b1', e1'⟩ := List.getElem?_eq_some_iff.1 s1
              obtain ⟨b2', e2'⟩ := List.getElem?_eq_some_iff.1 s2
              refine between_spec hr hk g1 hw.2.2 (child := ch n + j) (by omega) hlv hls ?_ ?_ ?_
              · intro u hu p hp
                rw [e1'] at hu
                exact sep_left ok pw (by omega) (leaf_flat hp (ok.2.2.2 _ (List.getElem_mem (by omega))) hu)
              · intro u hu p hp
                have e2'' : (sonsOf row)[ch n + j + 1]'(by omega) = (row[n] : T (m' + 1)).2[j + 1]'(by omega) := by
                  have : ch n + (j + 1) = ch n + j + 1 := by omega
                  simp only [this] at e2'
                  exact e2'
                rw [e2''] at hu
                exact sep_right ok pw (by omega) (leaf_flat hp (ok.2.2.2 _ (List.getElem_mem (by omega))) hu)
              · refine cnd_f rfl ?_
                exact ⟨⟨by first | rfl | trivial, j + 1, wj, by omega⟩, by rw [wj]; omega⟩
            · have w0 : w64 ((ch n : Int) + (kl : Int)) = ((ch n + kl : Nat) : Int) := by rw [w64_id (by omega) (by omega)]; push_cast; rfl
              have w1 : w64 (((ch n + kl : Nat) : Int) + 1) = ((ch (n + 1) : Nat) : Int) := by
                have e : ch (n + 1) = ch n + (kl + 1) := by
                  rw [chs cm, chs cm, first_succ (by rw [List.length_map]; exact hn2), en, hkl]
                rw [e, w64_id (by omega) (by omega)]; push_cast; omega
              refine ⟨⟨rfl, n + 1, ?_, by omega⟩, ?_⟩
              · show (w64 (w64 ((ch n : Int) + (kl : Int)) + 1), w64 ((n : Int) + 1)) = _
                rw [w0, w1, wn]
              · show ((row.length : Int) - w64 ((n : Int) + 1)).toNat < ((row.length : Int) - (n : Int)).toNat
                rw [wn]; omega
      · intro J hJ
        refine cnd_dec (fun c0 => ?_) (fun c0 => ?_)
        · refine cnd_dec (fun cm => ?_) (fun cm => ?_)
          · exact hJ _ _ ⟨rfl, by omega⟩
          · have := (kb.2 cm).2.1
            exact hJ _ _ ⟨rfl, by omega⟩
        · exact hJ _ _ ⟨rfl, b2 c0⟩
    · intro J hJ
      refine cnd_of (fun cm => ?_) (fun cm => ?_)
      · have cm' : m ≠ 0 := by simpa using cm
        obtain ⟨q1, q2, q3⟩ := kb.2 cm'
        exact hJ _ _ ⟨rfl, by show (kl : Int) ≤ 7; omega, fun h0 => by have := q3 h0; show (3 : Int) ≤ _; omega⟩
      · have cm' : m = 0 := by simpa using cm
        exact hJ _ _ ⟨rfl, by show (kl : Int) ≤ 8; omega, fun h0 => by have := kb.1 cm' h0; show (4 : Int) ≤ _; omega⟩
  · have hn2 : n = row.length := by have : ¬ (n : Int) < (row.length : Int) := cn; omega
    subst hn2
    refine withJ.inl ?_
    refine cnd_dec (fun cm => ?_) (fun cm => ?_)
    · exact hK
    · obtain ⟨m', rfl⟩ : ∃ m', m = m' + 1 := ⟨m - 1, by omega⟩
      obtain ⟨g0, g1⟩ := drop_lev hd
      have ws : ∀ t ∈ row, t.2.length = t.1.length + 1 := fun t ht => (hw.2.1 t ht).2
      have hd1 := drop_head g1
      have hdl1 : d + 1 < lvs.length := by omega
      have el1 : lvs[d + 1] = (sonsOf row).map (keysOf m') := by rw [List.getElem?_eq_getElem hdl1] at hd1; injection hd1
      refine Ksss.at hr hk hdl1 ?_
      intro a3 c3 us3 r3 k3
      have e : ch row.length = (lvs[d + 1]).length := by
        rw [chs cm, el1, List.length_map, ← sons_len ws, List.take_length]
      have : (((ch row.length : Nat) : Int) == (((lvs[d + 1]).length : Nat) : Int)) = true := by rw [e]; simp
      rw [this]
      exact hK
end Go.Proofs.Ytopnljjfpfnhfaa
