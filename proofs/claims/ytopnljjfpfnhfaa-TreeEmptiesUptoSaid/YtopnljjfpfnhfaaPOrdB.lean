/- The pairs of a tree behind put and del; what an iterator gives; how many. -/
import Derived.Test.YtopnljjfpfnhfaaPOrd
namespace Go.Proofs.Ytopnljjfpfnhfaa
open Go D
set_option linter.unusedVariables false
set_option linter.unusedSimpArgs false

theorem join_ord {n : Nat} {x y : T n} {mid : Key} {A B : List Itm} (hl : ∀ m, (e : n = m + 1) → (e ▸ x : T (m + 1)).2.length = (e ▸ x : T (m + 1)).1.length + 1 ∧ (e ▸ y : T (m + 1)).2.length = (e ▸ y : T (m + 1)).1.length + 1) (h : Pw (A ++ (flat n x ++ (true, mid) :: flat n y) ++ B)) : Pw (A ++ flatO n (joinF n x y mid) ++ B) := by
  cases n with
  | zero =>
    refine cutF_ord ?_
    have e : flat 0 (List.append x y) = flat 0 x ++ flat 0 y := List.map_append
    rw [e]
    refine List.Pairwise.sublist ?_ h
    refine List.Sublist.append (List.Sublist.append (List.Sublist.refl _) (List.Sublist.append (List.Sublist.refl _) (List.sublist_cons_self _ _))) (List.Sublist.refl _)
  | succ n =>
    obtain ⟨xk, xs⟩ := x
    obtain ⟨yk, ys⟩ := y
    obtain ⟨hx, hy⟩ := hl n rfl
    replace hx : xs.length = xk.length + 1 := hx
    replace hy : ys.length = yk.length + 1 := hy
    show Pw (A ++ flatO (n + 1) (cutN (xk ++ mid :: yk) (xs ++ ys)) ++ B)
    rw [cutN_flat (by simp; omega)]
    have e : flat (n + 1) (xk ++ mid :: yk, xs ++ ys) = flat (n + 1) (xk, xs) ++ (true, mid) :: flat (n + 1) (yk, ys) := by
      show inter ((xs ++ ys).map (flat n)) (xk ++ mid :: yk) = inter (xs.map (flat n)) xk ++ (true, mid) :: inter (ys.map (flat n)) yk
      rw [List.map_append]
      exact inter_cut (by intro e; have := congrArg List.length e; simp at this; simp [this] at hy) (by rw [List.length_map]; exact hx)
    rw [e]; exact h

/-- the sons from j + 2 on -/
def R2 {n : Nat} (ks : List Key) (ss : List (T n)) (j : Nat) : List Itm := rgt (ks.drop (j + 1)) ((ss.drop (j + 2)).map (flat n))
theorem fix_ord {n : Nat} {ks : List Key} {ss : List (T n)} {j : Nat} {A B : List Itm} (hl : ss.length = ks.length + 1) (hj : j + 1 < ss.length) (hs : ∀ s ∈ ss, Okn 3 n s) (h : Pw (A ++ flat (n + 1) (ks, ss) ++ B)) : Pw (A ++ flat (n + 1) (fixF ks ss j) ++ B) := by
  obtain ⟨x, y, mid, x1, y1, m1, hf⟩ := fixF_eq hl hj
  have hx := hs x (List.mem_of_getElem? x1)
  have hy := hs y (List.mem_of_getElem? y1)
  have key : ∀ (k' : List Key) (r : List (T n)) (z : T n), flat (n + 1) (ks.take j ++ (k' ++ ks.drop (j + 1)), ss.take j ++ z :: (r ++ ss.drop (j + 2))) = lft ((ss.take j).map (flat n)) (ks.take j) ++ (flat n z ++ rgt (k' ++ ks.drop (j + 1)) ((r ++ ss.drop (j + 2)).map (flat n))) := by
    intro k' r z
    show inter ((ss.take j ++ z :: (r ++ ss.drop (j + 2))).map (flat n)) _ = _
    rw [List.map_append, List.map_cons]
    exact inter_mid (by rw [List.length_map, List.length_take, List.length_take]; omega)
  obtain ⟨xl, ex⟩ := List.getElem?_eq_some_iff.1 x1
  obtain ⟨yl, ey⟩ := List.getElem?_eq_some_iff.1 y1
  obtain ⟨ml, em⟩ := List.getElem?_eq_some_iff.1 m1
  have s0 : ss = ss.take j ++ x :: ([y] ++ ss.drop (j + 2)) := by
    have e1 := List.drop_eq_getElem_cons xl
    have e2 := List.drop_eq_getElem_cons yl
    rw [ex] at e1; rw [ey] at e2
    rw [List.singleton_append, ← e2, ← e1, List.take_append_drop]
  have k0 : ks = ks.take j ++ ([mid] ++ ks.drop (j + 1)) := by
    have e1 := List.drop_eq_getElem_cons ml
    rw [em] at e1
    rw [List.singleton_append, ← e1, List.take_append_drop]
  have f0 : flat (n + 1) (ks, ss) = lft ((ss.take j).map (flat n)) (ks.take j) ++ ((flat n x ++ (true, mid) :: flat n y) ++ R2 ks ss j) := by
    have e := key [mid] [y] x
    rw [← s0, ← k0] at e
    rw [e]
    show _ ++ (flat n x ++ (true, mid) :: (flat n y ++ R2 ks ss j)) = _
    simp
  rw [f0] at h
  have h' : Pw ((A ++ lft ((ss.take j).map (flat n)) (ks.take j)) ++ (flat n x ++ (true, mid) :: flat n y) ++ (R2 ks ss j ++ B)) := by simpa using h
  have jo := join_ord (hl := fun m e => by subst e; exact ⟨hx.1, hy.1⟩) h'
  rw [hf]
  rcases hq : joinF n x y mid with ⟨z, O⟩
  rw [hq] at jo
  cases O with
  | none =>
    have e := key [] [] z
    have e2 : flat (n + 1) (delL ks j, repL ss j z) = lft ((ss.take j).map (flat n)) (ks.take j) ++ (flat n z ++ R2 ks ss j) := e
    show Pw (A ++ flat (n + 1) (delL ks j, repL ss j z) ++ B)
    rw [e2]
    have e3 : flatO n (z, none) = flat n z := List.append_nil _
    rw [e3] at jo
    simpa using jo
  | some q =>
    obtain ⟨m', w⟩ := q
    have e := key [m'] [w] z
    have ek : ks.set j m' = ks.take j ++ ([m'] ++ ks.drop (j + 1)) := by rw [List.set_eq_take_append_cons_drop, if_pos ml]; rfl
    have es : (ss.set j z).set (j + 1) w = ss.take j ++ z :: ([w] ++ ss.drop (j + 2)) := by
      apply List.ext_getElem?
      intro q
      rw [List.getElem?_set, List.getElem?_set]
      have lt : (ss.take j).length = j := by rw [List.length_take]; omega
      by_cases c1 : j + 1 = q
      · subst c1
        rw [if_pos rfl, if_pos (by simpa using hj), List.getElem?_append_right (by omega), lt, show j + 1 - j = 1 by omega]; rfl
      · rw [if_neg c1]
        by_cases c2 : j = q
        · subst c2
          rw [if_pos rfl, if_pos xl, List.getElem?_append_right (by omega), lt, Nat.sub_self]; rfl
        · rw [if_neg c2]
          by_cases c3 : q < j
          · rw [List.getElem?_append_left (by omega), List.getElem?_take, if_pos c3]
          · rw [List.getElem?_append_right (by omega), lt, show q - j = (q - j - 2) + 1 + 1 by omega]
            simp only [List.getElem?_cons_succ, List.singleton_append, List.getElem?_drop]
            congr 1; omega
    show Pw (A ++ flat (n + 1) (ks.set j m', (ss.set j z).set (j + 1) w) ++ B)
    rw [ek, es, e]
    have e3 : flatO n (z, some (m', w)) = flat n z ++ (true, m') :: flat n w := rfl
    rw [e3] at jo
    show Pw (A ++ (_ ++ (flat n z ++ (true, m') :: (flat n w ++ R2 ks ss j))) ++ B)
    simpa using jo

theorem del_ord {lo : Nat} (k : Key) : ∀ {n : Nat} {t a : T n} {A B : List Itm}, Okn lo n t → (n = 0 ∨ 2 ≤ lo) → Pw (A ++ flat n t ++ B) → delF k n t = some a → Pw (A ++ flat n a ++ B)
  | 0, t, a, A, B, h, _, hp, hd => by
    unfold delF at hd
    split at hd
    · injection hd with hd
      subst hd
      refine List.Pairwise.sublist ?_ hp
      refine List.Sublist.append (List.Sublist.append (List.Sublist.refl _) ?_) (List.Sublist.refl _)
      refine List.Sublist.map _ ?_
      unfold delL
      generalize below k (List.map (·.1) t) = m
      have e : (t : List KV) = List.take m t ++ List.drop m t := (List.take_append_drop m t).symm
      conv => rhs; rw [e]
      exact List.Sublist.append (List.Sublist.refl _) (List.drop_sublist_drop_left _ (by omega))
    · cases hd
  | n + 1, t, a, A, B, h, hlo, hp, hd => by
    have hok := h
    obtain ⟨h1, h2, h3, h4⟩ := h
    rw [delF_succ] at hd
    have hi := upto_le k t.1
    generalize upto k t.1 = i at hi hd
    rw [List.getElem?_eq_getElem (by omega)] at hd
    simp only at hd
    have hs4 := h4 t.2[i] (List.getElem_mem (by omega))
    cases hq : delF k n t.2[i] with
    | none => rw [hq] at hd; cases hd
    | some b =>
      rw [hq] at hd
      simp only [Option.some.injEq] at hd
      have ih3 : Okn 3 n b := delF_ok (lo := 4) k hs4 (.inr (by omega)) hq
      rw [flat_self h1 hi] at hp
      have hp' : Pw ((A ++ Lf t i) ++ flat n t.2[i] ++ (Rg t i ++ B)) := by simpa using hp
      have ih := del_ord (lo := 4) k hs4 (.inr (by omega)) hp' hq
      have hw : Pw (A ++ flat (n + 1) (t.1, t.2.set i b) ++ B) := by rw [flat_set h1 hi]; simpa using ih
      have e1 : (t.2.set i b).length = t.2.length := List.length_set
      by_cases c : 4 ≤ siz n b
      · replace hd := (if_pos c).symm.trans hd
        subst hd
        exact hw
      · replace hd := (if_neg c).symm.trans hd
        subst hd
        refine fix_ord (by omega) ?_ (fun s hs => ?_) hw
        · rcases hlo with e | e
          · omega
          · omega
        · rcases List.mem_or_eq_of_mem_set hs with e | e
          · exact (h4 s e).mono (by omega)
          · rw [e]; exact ih3

/-! ### pairs -/
def prsO (n : Nat) (r : T n × Option (Key × T n)) : List KV := prs n r.1 ++ (match r.2 with | none => [] | some q => prs n q.2)
theorem cutN_prs {n : Nat} (ks : List Key) (ss : List (T n)) : prsO (n + 1) (cutN ks ss) = prs (n + 1) (ks, ss) := by
  unfold cutN
  split
  · exact List.append_nil _
  · show ((ss.take _).map (prs n)).flatten ++ ((ss.drop _).map (prs n)).flatten = (ss.map (prs n)).flatten
    rw [← List.flatten_append, ← List.map_append, List.take_append_drop]
def P1 {n : Nat} (t : T (n + 1)) (i : Nat) : List KV := ((t.2.take i).map (prs n)).flatten
def P2 {n : Nat} (t : T (n + 1)) (i : Nat) : List KV := ((t.2.drop (i + 1)).map (prs n)).flatten
theorem prs_set {n : Nat} {t : T (n + 1)} {i : Nat} (hi : i < t.2.length) (a : T n) : prs (n + 1) (t.1, t.2.set i a) = P1 t i ++ (prs n a ++ P2 t i) := by
  show ((t.2.set i a).map (prs n)).flatten = _
  rw [List.set_eq_take_append_cons_drop, if_pos hi]
  simp [P1, P2]
theorem prs_self {n : Nat} {t : T (n + 1)} {i : Nat} (hi : i < t.2.length) : prs (n + 1) t = P1 t i ++ (prs n t.2[i] ++ P2 t i) := by
  have h := prs_set hi t.2[i]
  rw [List.set_getElem_self] at h
  exact h
theorem prs_two {n : Nat} {t : T (n + 1)} {i : Nat} (hi : i < t.2.length) (a b : T n) (ks : List Key) : prs (n + 1) (ks, insL (t.2.set i a) (i + 1) b) = P1 t i ++ ((prs n a ++ prs n b) ++ P2 t i) := by
  show ((insL (t.2.set i a) (i + 1) b).map (prs n)).flatten = _
  unfold insL
  have e1 : (t.2.set i a).take (i + 1) = t.2.take i ++ [a] := by
    rw [List.take_add_one, List.take_set_of_le (Nat.le_refl _)]
    simp [hi]
  have e2 : (t.2.set i a).drop (i + 1) = t.2.drop (i + 1) := List.drop_set_of_lt (by omega)
  rw [e1, e2]
  simp [P1, P2]
theorem lft_mem {x : Itm} {s : List Itm} (hx : x ∈ s) : ∀ {X : List (List Itm)} {ka : List Key}, X.length ≤ ka.length → s ∈ X → x ∈ lft X ka
  | a :: X, k :: ka, hl, hs => by
    rcases List.mem_cons.1 hs with rfl | hs
    · exact List.mem_append.2 (.inl hx)
    · exact List.mem_append.2 (.inr (List.mem_cons_of_mem _ (lft_mem hx (by simpa using hl) hs)))
  | [], _, _, hs => by cases hs
  | _ :: _, [], hl, _ => by simp at hl
theorem rgt_mem2 {x : Itm} {s : List Itm} (hx : x ∈ s) : ∀ {X : List (List Itm)} {ka : List Key}, X.length ≤ ka.length → s ∈ X → x ∈ rgt ka X
  | a :: X, k :: ka, hl, hs => by
    rcases List.mem_cons.1 hs with rfl | hs
    · exact List.mem_cons_of_mem _ (List.mem_append.2 (.inl hx))
    · exact List.mem_cons_of_mem _ (List.mem_append.2 (.inr (rgt_mem2 hx (by simpa using hl) hs)))
  | [], _, _, hs => by cases hs
  | _ :: _, [], hl, _ => by simp at hl
theorem prs_flat {lo : Nat} {p : KV} : ∀ {n : Nat} {t : T n}, Okn lo n t → p ∈ prs n t → (false, p.1) ∈ flat n t
  | 0, t, _, hp => List.mem_map.2 ⟨p, hp, rfl⟩
  | n + 1, t, h, hp => by
    obtain ⟨l, hl, hpl⟩ := List.mem_flatten.1 hp
    obtain ⟨s, hs, rfl⟩ := List.mem_map.1 hl
    have ih := prs_flat (h.2.2.2 s hs) hpl
    obtain ⟨i, hi, rfl⟩ := List.mem_iff_getElem.1 hs
    rw [flat_self (i := i) h.1 (by have := h.1; omega)]
    exact List.mem_append.2 (.inr (List.mem_append.2 (.inl ih)))
theorem P1_lt {lo n : Nat} {t : T (n + 1)} {k : Key} (h : Okn lo (n + 1) t) (hp : Pw (flat (n + 1) t)) : ∀ p ∈ P1 t (upto k t.1), klt p.1 k := by
  intro p hpm
  have hi := upto_le k t.1
  obtain ⟨l, hl, hpl⟩ := List.mem_flatten.1 hpm
  obtain ⟨s, hs, rfl⟩ := List.mem_map.1 hl
  have s1 := upto_seps (k := k) (ks := t.1)
  rw [flat_self h.1 hi] at hp
  have h1 := h.1
  exact lft_bef (List.pairwise_append.1 hp).1 s1 (false, p.1) (lft_mem (prs_flat (h.2.2.2 s (List.mem_of_mem_take hs)) hpl) (by rw [List.length_map, List.length_take, List.length_take]; omega) (List.mem_map_of_mem hs))
theorem P2_gt {lo n : Nat} {t : T (n + 1)} {k : Key} (h : Okn lo (n + 1) t) (hp : Pw (flat (n + 1) t)) : ∀ p ∈ P2 t (upto k t.1), klt k p.1 := by
  intro p hpm
  have hi := upto_le k t.1
  obtain ⟨l, hl, hpl⟩ := List.mem_flatten.1 hpm
  obtain ⟨s, hs, rfl⟩ := List.mem_map.1 hl
  have s1 := upto_seps2 (k := k) (flat_asc h.1 hp)
  rw [flat_self h.1 hi] at hp
  have h1 := h.1
  exact rgt_bef (List.pairwise_append.1 (List.pairwise_append.1 hp).2.1).2.1 s1 (false, p.1) (rgt_mem2 (prs_flat (h.2.2.2 s (List.mem_of_mem_drop hs)) hpl) (by rw [List.length_map, List.length_drop, List.length_drop]; omega) (List.mem_map_of_mem hs))
theorem pw_at {lo n : Nat} {t : T (n + 1)} (h : Okn lo (n + 1) t) (hp : Pw (flat (n + 1) t)) {i : Nat} (hi : i < t.2.length) : Pw (flat n t.2[i]) := by
  have h1 := h.1
  rw [flat_self (i := i) h.1 (by omega)] at hp
  exact pw_son hp

theorem insKV_left {k v : Key} {X : List KV} : ∀ {P : List KV}, (∀ p ∈ P, klt p.1 k) → insKV k v (P ++ X) = P ++ insKV k v X
  | [], _ => rfl
  | (a, x) :: P, h => by
    have e : insKV k v ((a, x) :: (P ++ X)) = (a, x) :: insKV k v (P ++ X) := if_pos (h (a, x) (by simp))
    rw [insKV_left (fun p hp => h p (by simp [hp]))] at e
    exact e
theorem insKV_right {k v : Key} {P : List KV} (h : ∀ p ∈ P, klt k p.1) : ∀ {X : List KV}, insKV k v (X ++ P) = insKV k v X ++ P
  | [] => by
    cases P with
    | nil => rfl
    | cons p P =>
      have h0 := h p (by simp)
      show insKV k v (p :: P) = (k, v) :: p :: P
      obtain ⟨a, x⟩ := p
      unfold insKV
      rw [if_neg (klt_asymm h0), if_neg (fun e => by have e' : a = k := e; subst e'; exact klt_irrefl _ h0)]
  | (a, x) :: X => by
    show insKV k v ((a, x) :: (X ++ P)) = insKV k v ((a, x) :: X) ++ P
    rw [insKV, insKV]
    split
    · rw [insKV_right h]; rfl
    · split <;> rfl
theorem cutF_prs' (t : List KV) : prsO 0 (cutF t) = t := by
  unfold cutF
  split
  · exact List.append_nil _
  · exact List.take_append_drop _ _
theorem put_prs {lo : Nat} (k w : Key) : ∀ {n : Nat} {t : T n}, Okn lo n t → Pw (flat n t) → prsO n (putF k w n t).1 = insKV k w (prs n t)
  | 0, t, h, hp => by
    rw [putF_zero]
    have e := leafF_ins k w t
    cases c : (leafF t k w).2 with
    | true =>
      show prsO 0 (cutF (leafF t k w).1) = _
      exact (cutF_prs' _).trans e
    | false =>
      show (leafF t k w).1 ++ [] = _
      rw [List.append_nil]; exact e
  | n + 1, t, h, hp => by
    have hi := upto_le k t.1
    have h1 := h.1
    have q1 := P1_lt (k := k) h hp
    have q2 := P2_gt (k := k) h hp
    rw [putF_succ]
    generalize upto k t.1 = i at hi q1 q2
    have hil : i < t.2.length := by omega
    have ih := put_prs (lo := 4) k w (h.2.2.2 _ (List.getElem_mem hil)) (pw_at h hp hil)
    rw [List.getElem?_eq_getElem hil, prs_self hil, insKV_left q1, insKV_right q2, ← ih]
    simp only
    rcases hq : putF k w n t.2[i] with ⟨⟨a, O⟩, more⟩
    cases O with
    | none =>
      show prs (n + 1) (t.1, t.2.set i a) ++ [] = _
      rw [prs_set hil, List.append_nil]
      show _ = P1 t i ++ ((prs n a ++ []) ++ P2 t i)
      rw [List.append_nil]
    | some q =>
      obtain ⟨m, b⟩ := q
      show prsO (n + 1) (cutN (insL t.1 i m) (insL (t.2.set i a) (i + 1) b)) = _
      rw [cutN_prs, prs_two hil]
      rfl
theorem put_len (k w : Key) : ∀ {lo n : Nat} {t : T n}, Okn lo n t → (prsO n (putF k w n t).1).length = (prs n t).length + (putF k w n t).2.toNat
  | lo, 0, t, h => by
    rw [putF_zero]
    have e := leafF_len k w t
    cases c : (leafF t k w).2 with
    | true =>
      rw [c] at e
      have := congrArg List.length (cutF_prs' (leafF t k w).1)
      show (prsO 0 (cutF (leafF t k w).1)).length = List.length t + 1
      exact this.trans e
    | false =>
      rw [c] at e
      show ((leafF t k w).1 ++ []).length = List.length t + 0
      rw [List.append_nil]; exact e
  | lo, n + 1, t, h => by
    have hi := upto_le k t.1
    have h1 := h.1
    rw [putF_succ]
    generalize upto k t.1 = i at hi
    have hil : i < t.2.length := by omega
    have ih := put_len k w (h.2.2.2 _ (List.getElem_mem hil))
    rw [List.getElem?_eq_getElem hil, prs_self hil]
    simp only
    rcases hq : putF k w n t.2[i] with ⟨⟨a, O⟩, more⟩
    rw [hq] at ih
    cases O with
    | none =>
      have ih' : (prs n a ++ []).length = (prs n t.2[i]).length + more.toNat := ih
      show (prs (n + 1) (t.1, t.2.set i a) ++ []).length = _ + more.toNat
      rw [prs_set hil, List.append_nil]
      simp only [List.length_append, List.append_nil] at ih' ⊢
      omega
    | some q =>
      obtain ⟨m, b⟩ := q
      have ih' : (prs n a ++ prs n b).length = (prs n t.2[i]).length + more.toNat := ih
      show (prsO (n + 1) (cutN (insL t.1 i m) (insL (t.2.set i a) (i + 1) b))).length = _ + more.toNat
      rw [cutN_prs, prs_two hil]
      simp only [List.length_append] at ih' ⊢
      omega
end Go.Proofs.Ytopnljjfpfnhfaa
