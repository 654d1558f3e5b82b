/- The pairs behind del, a key's value, what an iterator gives, how many pairs there are at least. -/
import Derived.Test.YtopnljjfpfnhfaaPOrdB
namespace Go.Proofs.Ytopnljjfpfnhfaa
open Go D
set_option linter.unusedVariables false
set_option linter.unusedSimpArgs false

def delKV (k : Key) (l : List KV) : List KV := l.filter fun p => decide (p.1 ≠ k)
theorem delKV_app (k : Key) (a b : List KV) : delKV k (a ++ b) = delKV k a ++ delKV k b := List.filter_append ..
theorem delKV_self {k : Key} {l : List KV} (h : ∀ p ∈ l, p.1 ≠ k) : delKV k l = l := List.filter_eq_self.2 (fun p hp => decide_eq_true (h p hp))
theorem klt_ne {a b : Key} (h : klt a b) : a ≠ b := fun e => by subst e; exact klt_irrefl _ h
theorem joinF_prs {n : Nat} (x y : T n) (mid : Key) : prsO n (joinF n x y mid) = prs n x ++ prs n y := by
  cases n with
  | zero => exact cutF_prs' _
  | succ n =>
    show prsO (n + 1) (cutN _ _) = _
    rw [cutN_prs]
    show ((x.2 ++ y.2).map (prs n)).flatten = _
    rw [List.map_append, List.flatten_append]
    rfl
theorem fix_prs {n : Nat} {ks : List Key} {ss : List (T n)} {j : Nat} (hl : ss.length = ks.length + 1) (hj : j + 1 < ss.length) : prs (n + 1) (fixF ks ss j) = prs (n + 1) (ks, ss) := by
  obtain ⟨x, y, mid, x1, y1, m1, hf⟩ := fixF_eq hl hj
  obtain ⟨xl, ex⟩ := List.getElem?_eq_some_iff.1 x1
  obtain ⟨yl, ey⟩ := List.getElem?_eq_some_iff.1 y1
  have s0 : ss = ss.take j ++ x :: ([y] ++ ss.drop (j + 2)) := by
    have e1 := List.drop_eq_getElem_cons xl
    have e2 := List.drop_eq_getElem_cons yl
    rw [ex] at e1; rw [ey] at e2
    rw [List.singleton_append, ← e2, ← e1, List.take_append_drop]
  have jp := joinF_prs x y mid
  rw [hf]
  have w : prs (n + 1) (ks, ss) = ((ss.take j).map (prs n)).flatten ++ ((prs n x ++ prs n y) ++ ((ss.drop (j + 2)).map (prs n)).flatten) := by
    show (ss.map (prs n)).flatten = _
    conv => lhs; rw [s0]
    simp
  rw [w, ← jp]
  rcases hq : joinF n x y mid with ⟨z, O⟩
  cases O with
  | none =>
    show ((repL ss j z).map (prs n)).flatten = _ ++ ((prs n z ++ []) ++ _)
    unfold repL; simp
  | some q =>
    obtain ⟨m', v⟩ := q
    show (((ss.set j z).set (j + 1) v).map (prs n)).flatten = _ ++ ((prs n z ++ prs n v) ++ _)
    have es : (ss.set j z).set (j + 1) v = ss.take j ++ z :: ([v] ++ ss.drop (j + 2)) := by
      apply List.ext_getElem?
      intro q
      rw [List.getElem?_set, List.getElem?_set]
      have lt : (ss.take j).length = j := by rw [List.length_take]; omega
      by_cases c1 : j + 1 = q
      · subst c1
        rw [if_pos rfl, if_pos (by simpa using hj), List.getElem?_append_right (by omega), lt, show j + 1 - j = 1 by omega]; rfl
      · rw [if_neg c1]
        by_cases c2 : j = q
        · subst c2
          rw [if_pos rfl, if_pos xl, List.getElem?_append_right (by omega), lt, Nat.sub_self]; rfl
        · rw [if_neg c2]
          by_cases c3 : q < j
          · rw [List.getElem?_append_left (by omega), List.getElem?_take, if_pos c3]
          · rw [List.getElem?_append_right (by omega), lt, show q - j = (q - j - 2) + 1 + 1 by omega]
            simp only [List.getElem?_cons_succ, List.singleton_append, List.getElem?_drop]
            congr 1; omega
    rw [es]; simp
theorem del_leaf {k : Key} {t : List KV} (ha : Asc (t.map (·.1))) : (delF k 0 t = none → ∀ p ∈ t, p.1 ≠ k) ∧ (∀ a : List KV, delF k 0 t = some a → a = delKV k t ∧ (∃ p ∈ t, p.1 = k) ∧ a.length + 1 = t.length) := by
  have hm := below_le k (t.map (·.1))
  have hml : (t.map (·.1)).length = t.length := List.length_map _
  have lt : ∀ (i : Nat) x, i < below k (t.map (·.1)) → (t.map (·.1))[i]? = some x → klt x k := fun i x hi hx => below_lt hi hx
  have ge : ∀ (i : Nat) x, below k (t.map (·.1)) ≤ i → (t.map (·.1))[i]? = some x → ¬ klt x k := fun i x hi hx => below_ge ha hi hx
  have hd : delF k 0 t = if (t.map (·.1))[below k (t.map (·.1))]? = some k then some (delL t (below k (t.map (·.1)))) else none := rfl
  rw [hd]
  clear hd
  generalize below k (t.map (·.1)) = m at hm lt ge ⊢
  have memi : ∀ p ∈ t, ∃ i : Nat, (t.map (·.1))[i]? = some p.1 := by
    intro p hp
    obtain ⟨i, hi, rfl⟩ := List.mem_iff_getElem.1 hp
    exact ⟨i, by rw [List.getElem?_map, List.getElem?_eq_getElem hi]; rfl⟩
  by_cases c : (t.map (·.1))[m]? = some k
  · refine ⟨fun e => (by rw [if_pos c] at e; cases e), fun a e => ?_⟩
    rw [if_pos c] at e
    injection e with e
    subst e
    have hmt : m < t.length := Nat.lt_of_lt_of_eq (List.getElem?_eq_some_iff.1 c).1 hml
    have hk : t[m].1 = k := by
      have c2 := c
      rw [List.getElem?_map, List.getElem?_eq_getElem hmt] at c2
      injection c2
    refine ⟨?_, ⟨t[m], List.getElem_mem hmt, hk⟩, ?_⟩
    · show delL t m = delKV k t
      have e1 : t = List.take m t ++ t[m] :: List.drop (m + 1) t := by
        rw [← List.drop_eq_getElem_cons hmt, List.take_append_drop]
      unfold delL
      conv => rhs; rw [e1]
      rw [delKV_app]
      have e2 : delKV k (List.take m t) = List.take m t := delKV_self (fun p hp => by
        obtain ⟨i, hi, rfl⟩ := List.mem_iff_getElem.1 hp
        rw [List.length_take] at hi
        rw [List.getElem_take]
        exact klt_ne (lt i _ (by omega) (by rw [List.getElem?_map, List.getElem?_eq_getElem (by omega)]; rfl)))
      have e3 : delKV k (List.drop (m + 1) t) = List.drop (m + 1) t := delKV_self (fun p hp => by
        obtain ⟨i, hi, rfl⟩ := List.mem_iff_getElem.1 hp
        rw [List.length_drop] at hi
        rw [List.getElem_drop]
        have := asc_get (i := m) (j := m + 1 + i) ha (by omega) c (show _ = some t[m + 1 + i].1 by rw [List.getElem?_map, List.getElem?_eq_getElem (by omega)]; rfl)
        exact fun e => klt_ne this e.symm)
      have e4 : delKV k (t[m] :: List.drop (m + 1) t) = delKV k (List.drop (m + 1) t) := by
        unfold delKV
        rw [List.filter_cons_of_neg (by simp [hk])]
      rw [e2, e4, e3]
    · show (delL t m).length + 1 = t.length
      rw [delL_len hmt]; omega
  · refine ⟨fun _ p hp => ?_, fun a e => (by rw [if_neg c] at e; cases e)⟩
    obtain ⟨i, hi⟩ := memi p hp
    intro e
    rw [e] at hi
    rcases Nat.lt_or_ge i m with q | q
    · exact klt_irrefl _ (lt i k q hi)
    · rcases Nat.lt_or_ge m i with q2 | q2
      · have hl := (List.getElem?_eq_some_iff.1 hi).1
        have hg := ge m (t.map (·.1))[m] (Nat.le_refl _) (List.getElem?_eq_getElem (by omega))
        exact hg (asc_get ha q2 (List.getElem?_eq_getElem (by omega)) hi)
      · have : i = m := by omega
        subst this
        exact c hi
theorem del_prs {lo : Nat} (k : Key) : ∀ {n : Nat} {t : T n}, Okn lo n t → (n = 0 ∨ 2 ≤ lo) → Pw (flat n t) →
    (delF k n t = none → ∀ p ∈ prs n t, p.1 ≠ k) ∧ (∀ a, delF k n t = some a → prs n a = delKV k (prs n t) ∧ (∃ p ∈ prs n t, p.1 = k) ∧ (prs n a).length + 1 = (prs n t).length)
  | 0, t, h, _, hp => del_leaf (leaf_asc hp)
  | n + 1, t, h, hlo, hp => by
    have hi := upto_le k t.1
    have q1 := P1_lt (k := k) h hp
    have q2 := P2_gt (k := k) h hp
    obtain ⟨h1, h2, h3, h4⟩ := h
    rw [delF_succ]
    have hpw : ∀ {i : Nat} (hi : i < t.2.length), Pw (flat n t.2[i]) := fun hi => pw_at (lo := lo) ⟨h1, h2, h3, h4⟩ hp hi
    generalize upto k t.1 = i at hi q1 q2
    have hil : i < t.2.length := by omega
    have ih := del_prs (lo := 4) k (h4 _ (List.getElem_mem hil)) (.inr (by omega)) (hpw hil)
    rw [List.getElem?_eq_getElem hil, prs_self hil, delKV_app, delKV_app, delKV_self (fun p hp => klt_ne (q1 p hp)), delKV_self (l := P2 t i) (fun p hp e => klt_ne (q2 p hp) e.symm)]
    simp only
    cases hq : delF k n t.2[i] with
    | none =>
      refine ⟨fun _ p hpm => ?_, fun a e => (by cases e)⟩
      rcases List.mem_append.1 hpm with e | e
      · exact klt_ne (q1 p e)
      · rcases List.mem_append.1 e with e | e
        · exact ih.1 hq p e
        · exact fun e2 => klt_ne (q2 p e) e2.symm
    | some b =>
      refine ⟨fun e => (by cases e), fun a e => ?_⟩
      simp only [Option.some.injEq] at e
      obtain ⟨j1, ⟨p, j2, j3⟩, j4⟩ := ih.2 b hq
      have e1 : (t.2.set i b).length = t.2.length := List.length_set
      have ea : prs (n + 1) a = P1 t i ++ (prs n b ++ P2 t i) := by
        by_cases c : 4 ≤ siz n b
        · replace e := (if_pos c).symm.trans e
          subst e
          exact prs_set hil b
        · replace e := (if_neg c).symm.trans e
          subst e
          rw [fix_prs (by omega) (by rcases hlo with e | e <;> omega)]
          exact prs_set hil b
      refine ⟨by rw [ea, j1], ⟨p, List.mem_append.2 (.inr (List.mem_append.2 (.inl j2))), j3⟩, ?_⟩
      rw [ea]
      simp only [List.length_append]
      omega

/-! ### a key's value -/
def getL (k : Key) (l : List KV) : Option Key := (l.find? fun p => decide (p.1 = k)).map (·.2)
theorem getL_app {k : Key} {a b : List KV} (h : ∀ p ∈ a, p.1 ≠ k) : getL k (a ++ b) = getL k b := by
  unfold getL
  rw [List.find?_append, List.find?_eq_none.2 (fun p hp => by simpa using h p hp)]
  rfl
theorem getL_app2 {k : Key} {a b : List KV} (h : ∀ p ∈ b, p.1 ≠ k) : getL k (a ++ b) = getL k a := by
  unfold getL
  rw [List.find?_append, show b.find? (fun p => decide (p.1 = k)) = none from List.find?_eq_none.2 (fun p hp => by simpa using h p hp), Option.or_none]
theorem getL_none {k : Key} {l : List KV} (h : ∀ p ∈ l, p.1 ≠ k) : getL k l = none := by
  unfold getL
  rw [List.find?_eq_none.2 (fun p hp => by simpa using h p hp)]; rfl
theorem get_at {lo n : Nat} {t : T (n + 1)} {k : Key} (h : Okn lo (n + 1) t) (hp : Pw (flat (n + 1) t)) (hi : upto k t.1 < t.2.length) : getL k (prs (n + 1) t) = getL k (prs n t.2[upto k t.1]) := by
  rw [prs_self hi, getL_app (fun p hp' => klt_ne (P1_lt h hp p hp')), getL_app2 (fun p hp' e => klt_ne (P2_gt h hp p hp') e.symm)]
theorem get_leaf {k : Key} : ∀ {t : List KV}, Asc (t.map (·.1)) → getL k t = if (t.map (·.1))[below k (t.map (·.1))]? = some k then t[below k (t.map (·.1))]?.map (·.2) else none
  | [], _ => rfl
  | (a, x) :: t, ha => by
    have ih := get_leaf (k := k) (t := t) ha.2
    simp only [List.map_cons, below]
    by_cases c : klt a k
    · rw [if_pos c]
      have e : getL k ((a, x) :: t) = getL k t := by
        unfold getL
        rw [List.find?_cons_of_neg (by simpa using klt_ne c)]
      rw [e, ih]
      rfl
    · rw [if_neg c]
      simp only [List.getElem?_cons_zero, Option.some.injEq]
      by_cases c2 : a = k
      · rw [if_pos c2]
        show (List.find? _ _).map _ = _
        rw [List.find?_cons_of_pos (by simpa using c2)]
      · rw [if_neg c2]
        refine getL_none (fun p hp => ?_)
        rcases List.mem_cons.1 hp with rfl | hp
        · exact c2
        · have h1 := ha.1 p.1 (List.mem_map_of_mem hp)
          intro e
          rw [e] at h1
          exact c h1

/-! ### from a key on -/
def fromKV (k : Key) (l : List KV) : List KV := l.filter fun p => !decide (klt p.1 k)
theorem fromKV_app (k : Key) (a b : List KV) : fromKV k (a ++ b) = fromKV k a ++ fromKV k b := List.filter_append ..
theorem fromKV_all {k : Key} {l : List KV} (h : ∀ p ∈ l, ¬ klt p.1 k) : fromKV k l = l := List.filter_eq_self.2 (fun p hp => by simpa using h p hp)
theorem fromKV_none {k : Key} {l : List KV} (h : ∀ p ∈ l, klt p.1 k) : fromKV k l = [] := List.filter_eq_nil_iff.2 (fun p hp => by simpa using h p hp)
theorem frm_leaf {k : Key} : ∀ {t : List KV}, Asc (t.map (·.1)) → t.drop (below k (t.map (·.1))) = fromKV k t
  | [], _ => rfl
  | (a, x) :: t, ha => by
    have ih := frm_leaf (k := k) (t := t) ha.2
    simp only [List.map_cons, below]
    by_cases c : klt a k
    · rw [if_pos c, List.drop_succ_cons, ih]
      unfold fromKV
      rw [List.filter_cons_of_neg (by simpa using c)]
    · rw [if_neg c, List.drop_zero]
      refine (fromKV_all (fun p hp => ?_)).symm
      rcases List.mem_cons.1 hp with rfl | hp
      · exact c
      · exact fun e => c (klt_trans (ha.1 p.1 (List.mem_map_of_mem hp)) e)
theorem frm_prs {lo : Nat} (k : Key) : ∀ {n : Nat} {t : T n}, Okn lo n t → Pw (flat n t) → frm k n t = fromKV k (prs n t)
  | 0, t, h, hp => frm_leaf (leaf_asc hp)
  | n + 1, t, h, hp => by
    have hi := upto_le k t.1
    have h1 := h.1
    have hil : upto k t.1 < t.2.length := by omega
    have q1 := P1_lt (k := k) h hp
    rw [prs_self hil, fromKV_app, fromKV_none q1, List.nil_append]
    show ((t.2.drop (upto k t.1)).map (frm k n)).flatten = _
    rw [fromKV_app, List.drop_eq_getElem_cons hil, List.map_cons, List.flatten_cons, frm_prs k (h.2.2.2 _ (List.getElem_mem hil)) (pw_at h hp hil)]
    congr 1
    rw [fromKV_all (fun p hp' => klt_asymm (P2_gt h hp p hp'))]
    unfold P2
    congr 1
    refine List.map_congr_left (fun s hs => ?_)
    have hs2 := List.mem_of_mem_drop hs
    obtain ⟨i, hi2, rfl⟩ := List.mem_iff_getElem.1 hs2
    rw [frm_prs k (h.2.2.2 _ hs2) (pw_at h hp hi2)]
    exact fromKV_all (fun p hp' => klt_asymm (P2_gt h hp p (List.mem_flatten.2 ⟨_, List.mem_map_of_mem hs, hp'⟩)))

/-! ### how many -/
theorem sum_ge {α : Type} {f : α → List KV} {c : Nat} : ∀ {l : List α}, (∀ s ∈ l, c ≤ (f s).length) → l.length * c ≤ ((l.map f).flatten).length
  | [], _ => by simp
  | a :: l, h => by
    have ih := sum_ge (f := f) (c := c) (l := l) (fun s hs => h s (by simp [hs]))
    have h0 := h a (by simp)
    simp only [List.length_cons, List.map_cons, List.flatten_cons, List.length_append, Nat.add_mul]
    omega
theorem many : ∀ {n : Nat} {t : T n}, Okn 4 n t → 4 ^ (n + 1) ≤ (prs n t).length
  | 0, t, h => h.1
  | n + 1, t, h => by
    have h1 := sum_ge (f := prs n) (c := 4 ^ (n + 1)) (l := t.2) (fun s hs => many (h.2.2.2 s hs))
    have h2 := h.2.1
    have h3 := Nat.mul_le_mul_right (4 ^ (n + 1)) h2
    have e : 4 ^ (n + 1 + 1) = 4 * 4 ^ (n + 1) := by rw [Nat.pow_succ, Nat.mul_comm]
    show _ ≤ ((t.2.map (prs n)).flatten).length
    omega
theorem many_root {n : Nat} {t : T (n + 1)} (h : Okn 2 (n + 1) t) : 2 * 4 ^ (n + 1) ≤ (prs (n + 1) t).length := by
  have h1 := sum_ge (f := prs n) (c := 4 ^ (n + 1)) (l := t.2) (fun s hs => many (h.2.2.2 s hs))
  have h3 := Nat.mul_le_mul_right (4 ^ (n + 1)) h.2.1
  show _ ≤ ((t.2.map (prs n)).flatten).length
  omega
end Go.Proofs.Ytopnljjfpfnhfaa
