/- Trees on the model: del, what sizes nodes have, the row of separators and keys, the pairs. -/
import Derived.Test.YtopnljjfpfnhfaaPMk
namespace Go.Proofs.Ytopnljjfpfnhfaa
open Go D
set_option linter.unusedVariables false
set_option linter.unusedSimpArgs false

def siz : (n : Nat) → T n → Nat
  | 0, t => List.length t
  | n + 1, t => t.2.length
def joinF : (n : Nat) → T n → T n → Key → T n × Option (Key × T n)
  | 0, x, y, _ => cutF (List.append x y)
  | n + 1, x, y, mid => cutN (x.1 ++ mid :: y.1) (x.2 ++ y.2)
def fixF {n : Nat} (ks : List Key) (ss : List (T n)) (j : Nat) : T (n + 1) :=
  match ss[j]?, ss[j + 1]?, ks[j]? with
  | some x, some y, some mid => match joinF n x y mid with
    | (z, none) => (delL ks j, repL ss j z)
    | (z, some q) => (ks.set j q.1, (ss.set j z).set (j + 1) q.2)
  | _, _, _ => (ks, ss)
def delF (k : Key) : (n : Nat) → T n → Option (T n)
  | 0, t => if (List.map (·.1) t)[below k (List.map (·.1) t)]? = some k then some (delL t (below k (List.map (·.1) t))) else none
  | n + 1, t => match t.2[upto k t.1]? with
    | none => none
    | some s => match delF k n s with
      | none => none
      | some a => some (if 4 ≤ siz n a then (t.1, t.2.set (upto k t.1) a) else fixF t.1 (t.2.set (upto k t.1) a) (min (upto k t.1) (t.2.length - 2)))

/-- sizes: lo at least in this node, four at least below it -/
def Okn (lo : Nat) : (n : Nat) → T n → Prop
  | 0, t => lo ≤ List.length t ∧ List.length t ≤ 8
  | n + 1, t => t.2.length = t.1.length + 1 ∧ lo ≤ t.2.length ∧ t.2.length ≤ 8 ∧ ∀ s ∈ t.2, Okn 4 n s

theorem Okn.mono {lo lo' : Nat} (hl : lo' ≤ lo) : ∀ {n : Nat} {t : T n}, Okn lo n t → Okn lo' n t
  | 0, t, h => ⟨Nat.le_trans hl h.1, h.2⟩
  | n + 1, t, h => ⟨h.1, Nat.le_trans hl h.2.1, h.2.2⟩
theorem Okn.sz {lo : Nat} : ∀ {n : Nat} {t : T n}, Okn lo n t → lo ≤ siz n t ∧ siz n t ≤ 8
  | 0, t, h => h
  | n + 1, t, h => ⟨h.2.1, h.2.2.1⟩
theorem Okn.up {lo lo' : Nat} : ∀ {n : Nat} {t : T n}, Okn lo n t → lo' ≤ siz n t → Okn lo' n t
  | 0, t, h, hl => ⟨hl, h.2⟩
  | n + 1, t, h, hl => ⟨h.1, hl, h.2.2⟩
theorem cutF_ok {lo : Nat} {t : List KV} (h : lo ≤ t.length) (h2 : t.length ≤ 16) : (∀ q, (cutF t).2 = some q → Okn 4 0 (cutF t).1 ∧ Okn 4 0 q.2) ∧ ((cutF t).2 = none → Okn lo 0 (cutF t).1) := by
  unfold cutF
  split
  · rename_i c
    exact ⟨fun q hq => (by cases hq), fun _ => ⟨h, c⟩⟩
  · rename_i c
    refine ⟨fun q hq => ?_, fun hq => by cases hq⟩
    injection hq with hq
    subst hq
    refine ⟨⟨?_, ?_⟩, ⟨?_, ?_⟩⟩
    · show 4 ≤ (List.take _ _).length; rw [List.length_take]; omega
    · show (List.take _ _).length ≤ 8; rw [List.length_take]; omega
    · show 4 ≤ (List.drop _ _).length; rw [List.length_drop]; omega
    · show (List.drop _ _).length ≤ 8; rw [List.length_drop]; omega
theorem cutN_ok {n lo : Nat} {ks : List Key} {ss : List (T n)} (hl : ss.length = ks.length + 1) (h : lo ≤ ss.length) (h2 : ss.length ≤ 16) (hs : ∀ s ∈ ss, Okn 4 n s) :
    (∀ q, (cutN ks ss).2 = some q → Okn 4 (n + 1) (cutN ks ss).1 ∧ Okn 4 (n + 1) q.2) ∧ ((cutN ks ss).2 = none → Okn lo (n + 1) (cutN ks ss).1) := by
  unfold cutN
  split
  · rename_i c
    exact ⟨fun q hq => (by cases hq), fun _ => ⟨hl, h, c, hs⟩⟩
  · rename_i c
    refine ⟨fun q hq => ?_, fun hq => by cases hq⟩
    injection hq with hq
    subst hq
    refine ⟨⟨?_, ?_, ?_, fun s h => hs s (List.mem_of_mem_take h)⟩, ⟨?_, ?_, ?_, fun s h => hs s (List.mem_of_mem_drop h)⟩⟩
    · show (List.take _ _).length = (List.take _ _).length + 1; rw [List.length_take, List.length_take]; omega
    · show 4 ≤ (List.take _ _).length; rw [List.length_take]; omega
    · show (List.take _ _).length ≤ 8; rw [List.length_take]; omega
    · show (List.drop _ _).length = (List.drop _ _).length + 1; rw [List.length_drop, List.length_drop]; omega
    · show 4 ≤ (List.drop _ _).length; rw [List.length_drop]; omega
    · show (List.drop _ _).length ≤ 8; rw [List.length_drop]; omega
theorem mem_insL {α : Type} {l : List α} {i : Nat} {v x : α} (h : x ∈ insL l i v) : x = v ∨ x ∈ l := by
  unfold insL at h
  rcases List.mem_append.1 h with h | h
  · exact .inr (List.mem_of_mem_take h)
  · rcases List.mem_cons.1 h with h | h
    · exact .inl h
    · exact .inr (List.mem_of_mem_drop h)

theorem putF_succ (k w : Key) {n : Nat} (t : T (n + 1)) : putF k w (n + 1) t = match t.2[upto k t.1]? with
    | none => ((t, none), false)
    | some s => match putF k w n s with
      | ((a, none), more) => (((t.1, t.2.set (upto k t.1) a), none), more)
      | ((a, some (m, b)), more) => (cutN (insL t.1 (upto k t.1) m) (insL (t.2.set (upto k t.1) a) (upto k t.1 + 1) b), more) := rfl
theorem putF_zero (k w : Key) (t : T 0) : putF k w 0 t = if (leafF t k w).2 then (cutF (leafF t k w).1, true) else (((leafF t k w).1, none), false) := rfl
theorem leafF_len (k w : Key) (t : List KV) : (leafF t k w).1.length = t.length + (if (leafF t k w).2 then 1 else 0) := by
  have hm := below_le k (t.map (·.1))
  rw [List.length_map] at hm
  unfold leafF
  by_cases c : (t.map (·.1))[below k (t.map (·.1))]? = some k
  · simp only [if_pos c]; simp
  · simp only [if_neg c]; rw [insL_len hm]; simp

theorem putF_ok {lo : Nat} (k w : Key) : ∀ {n : Nat} {t : T n}, Okn lo n t → (∀ q, (putF k w n t).1.2 = some q → Okn 4 n (putF k w n t).1.1 ∧ Okn 4 n q.2) ∧ ((putF k w n t).1.2 = none → Okn lo n (putF k w n t).1.1)
  | 0, t, h => by
    have l1 := leafF_len k w t
    have hh := h.2
    have h1 := h.1
    rw [putF_zero]
    cases c : (leafF t k w).2 with
    | true =>
      rw [c] at l1
      simp only [if_true] at l1 ⊢
      exact cutF_ok (by omega) (by omega)
    | false =>
      rw [c] at l1
      simp only [Bool.false_eq_true, if_false, Nat.add_zero] at l1
      have e : (if false = true then (cutF (leafF t k w).1, true) else (((leafF t k w).1, none), false)) = (((leafF t k w).1, none), false) := rfl
      rw [e]
      exact ⟨fun q hq => (by cases hq), fun _ => ⟨by show lo ≤ (leafF t k w).1.length; omega, by show (leafF t k w).1.length ≤ 8; omega⟩⟩
  | n + 1, t, h => by
    obtain ⟨h1, h2, h3, h4⟩ := h
    rw [putF_succ]
    have hi := upto_le k t.1
    generalize upto k t.1 = i at hi
    rw [List.getElem?_eq_getElem (by omega)]
    have ih := putF_ok (lo := 4) k w (h4 t.2[i] (List.getElem_mem (by omega)))
    simp only
    rcases hp : putF k w n t.2[i] with ⟨⟨a, O⟩, more⟩
    rw [hp] at ih
    have hset : ∀ s ∈ t.2.set i a, s = a ∨ s ∈ t.2 := fun s hs => (List.mem_or_eq_of_mem_set hs).symm
    cases O with
    | none =>
      refine ⟨fun q hq => (by cases hq), fun _ => ⟨?_, ?_, ?_, fun s hs => ?_⟩⟩
      · show (t.2.set i a).length = _; rw [List.length_set]; exact h1
      · show lo ≤ (t.2.set i a).length; rw [List.length_set]; exact h2
      · show (t.2.set i a).length ≤ 8; rw [List.length_set]; exact h3
      · rcases hset s hs with e | e
        · rw [e]; exact ih.2 rfl
        · exact h4 s e
    | some q =>
      obtain ⟨m, b⟩ := q
      obtain ⟨ia, ib⟩ := ih.1 (m, b) rfl
      have e1 : (t.2.set i a).length = t.2.length := List.length_set
      refine cutN_ok ?_ ?_ ?_ ?_
      · rw [insL_len (by omega), insL_len (by omega)]; omega
      · rw [insL_len (by omega)]; omega
      · rw [insL_len (by omega)]; omega
      · intro s hs
        rcases mem_insL hs with e | e
        · rw [e]; exact ib
        · rcases hset s e with e | e
          · rw [e]; exact ia
          · exact h4 s e

theorem joinF_ok {n : Nat} {x y : T n} {mid : Key} (hx : Okn 3 n x) (hy : Okn 3 n y) (h7 : 7 ≤ siz n x + siz n y) : (∀ q, (joinF n x y mid).2 = some q → Okn 4 n (joinF n x y mid).1 ∧ Okn 4 n q.2) ∧ ((joinF n x y mid).2 = none → Okn 4 n (joinF n x y mid).1) := by
  cases n with
  | zero =>
    have a1 := hx.2; have a2 := hy.2
    have e : (List.append x y).length = List.length x + List.length y := List.length_append
    replace h7 : 7 ≤ List.length x + List.length y := h7
    exact cutF_ok (by omega) (by omega)
  | succ n =>
    obtain ⟨b1, b2, b3, b4⟩ := hx
    obtain ⟨c1, c2, c3, c4⟩ := hy
    replace h7 : 7 ≤ x.2.length + y.2.length := h7
    refine cutN_ok ?_ ?_ ?_ ?_
    · simp; omega
    · rw [List.length_append]; omega
    · rw [List.length_append]; omega
    · intro s hs
      rcases List.mem_append.1 hs with e | e
      · exact b4 s e
      · exact c4 s e
theorem mem_repL {α : Type} {l : List α} {i : Nat} {v x : α} (h : x ∈ repL l i v) : x = v ∨ x ∈ l := by
  unfold repL at h
  rcases List.mem_append.1 h with h | h
  · exact .inr (List.mem_of_mem_take h)
  · rcases List.mem_cons.1 h with h | h
    · exact .inl h
    · exact .inr (List.mem_of_mem_drop h)
theorem delF_succ (k : Key) {n : Nat} (t : T (n + 1)) : delF k (n + 1) t = match t.2[upto k t.1]? with
    | none => none
    | some s => match delF k n s with
      | none => none
      | some a => some (if 4 ≤ siz n a then (t.1, t.2.set (upto k t.1) a) else fixF t.1 (t.2.set (upto k t.1) a) (min (upto k t.1) (t.2.length - 2))) := rfl
/-- what a node with one son too small, and its neighbour, come to -/
theorem fixF_eq {n : Nat} {ks : List Key} {ss : List (T n)} {j : Nat} (hl : ss.length = ks.length + 1) (hj : j + 1 < ss.length) : ∃ x y mid, ss[j]? = some x ∧ ss[j + 1]? = some y ∧ ks[j]? = some mid ∧
    fixF ks ss j = match joinF n x y mid with
      | (z, none) => (delL ks j, repL ss j z)
      | (z, some q) => (ks.set j q.1, (ss.set j z).set (j + 1) q.2) := by
  refine ⟨ss[j], ss[j + 1], ks[j]'(by omega), List.getElem?_eq_getElem _, List.getElem?_eq_getElem _, List.getElem?_eq_getElem _, ?_⟩
  unfold fixF
  rw [List.getElem?_eq_getElem (by omega), List.getElem?_eq_getElem (by omega), List.getElem?_eq_getElem (by omega)]
theorem delF_ok {lo : Nat} (k : Key) : ∀ {n : Nat} {t a : T n}, Okn lo n t → (n = 0 ∨ 2 ≤ lo) → delF k n t = some a → Okn (lo - 1) n a
  | 0, t, a, h, _, hd => by
    have h1 := h.1; have h2 := h.2
    unfold delF at hd
    split at hd
    · rename_i c
      injection hd with hd
      subst hd
      have hm : below k (List.map (·.1) t) < List.length t := Nat.lt_of_lt_of_eq (List.getElem?_eq_some_iff.1 c).1 (List.length_map _)
      have e := delL_len hm
      exact ⟨by show _ ≤ (delL _ _).length; omega, by show (delL _ _).length ≤ _; omega⟩
    · cases hd
  | n + 1, t, a, h, hlo, hd => by
    obtain ⟨h1, h2, h3, h4⟩ := h
    rw [delF_succ] at hd
    have hi := upto_le k t.1
    generalize upto k t.1 = i at hi hd
    rw [List.getElem?_eq_getElem (by omega)] at hd
    simp only at hd
    have hs4 := h4 t.2[i] (List.getElem_mem (by omega))
    cases hp : delF k n t.2[i] with
    | none => rw [hp] at hd; cases hd
    | some b =>
      rw [hp] at hd
      simp only [Option.some.injEq] at hd
      have ih : Okn 3 n b := delF_ok (lo := 4) k hs4 (.inr (by omega)) hp
      have hset : ∀ s ∈ t.2.set i b, s = b ∨ s ∈ t.2 := fun s hs => (List.mem_or_eq_of_mem_set hs).symm
      have e1 : (t.2.set i b).length = t.2.length := List.length_set
      by_cases c : 4 ≤ siz n b
      · replace hd := (if_pos c).symm.trans hd
        subst hd
        refine ⟨?_, ?_, ?_, fun s hs => ?_⟩
        · show (t.2.set i b).length = t.1.length + 1; omega
        · show _ ≤ (t.2.set i b).length; omega
        · show (t.2.set i b).length ≤ 8; omega
        · rcases hset s hs with e | e
          · rw [e]; exact ih.up c
          · exact h4 s e
      · replace hd := (if_neg c).symm.trans hd
        have h5 : 2 ≤ lo := by rcases hlo with e | e
                               · omega
                               · exact e
        obtain ⟨x, y, mid, x1, y1, m1, hf⟩ := fixF_eq (ks := t.1) (ss := t.2.set i b) (j := min i (t.2.length - 2)) (by omega) (by omega)
        rw [hf] at hd
        generalize hj : min i (t.2.length - 2) = j at hd x1 y1 m1
        have ok : ∀ {q : Nat} {x : T n}, (t.2.set i b)[q]? = some x → (q = i → x = b) ∧ (q ≠ i → Okn 4 n x) := by
          intro q x hx
          rw [List.getElem?_set] at hx
          refine ⟨fun e => ?_, fun e => ?_⟩
          · rw [if_pos e.symm, if_pos (by omega)] at hx; injection hx with hx; exact hx.symm
          · rw [if_neg (fun e2 => e e2.symm)] at hx; exact h4 x (List.mem_of_getElem? hx)
        have okx := ok x1
        have oky := ok y1
        have hb := ih.sz
        have o3 : ∀ {q : Nat} {x : T n}, (t.2.set i b)[q]? = some x → Okn 3 n x := by
          intro q x hx
          by_cases e : q = i
          · rw [(ok hx).1 e]; exact ih
          · exact ((ok hx).2 e).mono (by omega)
        have h7 : 7 ≤ siz n x + siz n y := by
          by_cases e : j = i
          · rw [okx.1 e]
            have := (oky.2 (by omega)).sz
            omega
          · rw [oky.1 (by omega)]
            have := (okx.2 (by omega)).sz
            omega
        have jo := joinF_ok (mid := mid) (o3 x1) (o3 y1) h7
        rcases hq : joinF n x y mid with ⟨z, O⟩
        rw [hq] at jo hd
        cases O with
        | none =>
          have oz : Okn 4 n z := jo.2 rfl
          simp only at hd
          subst hd
          have r1 : (repL (t.2.set i b) j z).length = t.2.length - 1 := by rw [repL_len (by omega), e1]
          have r2 : (delL t.1 j).length = t.1.length - 1 := delL_len (by omega)
          refine ⟨?_, ?_, ?_, fun s hs => ?_⟩
          · show (repL (t.2.set i b) j z).length = (delL t.1 j).length + 1; omega
          · show _ ≤ (repL (t.2.set i b) j z).length; omega
          · show (repL (t.2.set i b) j z).length ≤ 8; omega
          · obtain ⟨q, hql, rfl⟩ := List.mem_iff_getElem.1 hs
            have hg := repL_get (vs := t.2.set i b) (i := j) (j := q) (v := z) (by omega)
            replace hql : q < (repL (t.2.set i b) j z).length := hql
            have hg2 : (repL (t.2.set i b) j z)[q]? = some (repL (t.2.set i b) j z)[q] := List.getElem?_eq_getElem hql
            rw [hg2] at hg
            show Okn 4 n (repL (t.2.set i b) j z)[q]
            by_cases c1 : q < j
            · rw [if_pos c1] at hg
              exact (ok hg.symm).2 (by omega)
            · rw [if_neg c1] at hg
              by_cases c2 : q = j
              · rw [if_pos c2] at hg; injection hg with hg; rw [hg]; exact oz
              · rw [if_neg c2] at hg
                exact (ok hg.symm).2 (by omega)
        | some q =>
          obtain ⟨m', w⟩ := q
          obtain ⟨oz, ow⟩ := jo.1 (m', w) rfl
          simp only at hd
          subst hd
          have r1 : (((t.2.set i b).set j z).set (j + 1) w).length = t.2.length := by simp
          refine ⟨?_, ?_, ?_, fun s hs => ?_⟩
          · show (((t.2.set i b).set j z).set (j + 1) w).length = (t.1.set j m').length + 1; rw [r1, List.length_set]; exact h1
          · show _ ≤ (((t.2.set i b).set j z).set (j + 1) w).length; omega
          · show (((t.2.set i b).set j z).set (j + 1) w).length ≤ 8; omega
          · obtain ⟨q, hql, rfl⟩ := List.mem_iff_getElem.1 hs
            replace hql : q < (((t.2.set i b).set j z).set (j + 1) w).length := hql
            show Okn 4 n (((t.2.set i b).set j z).set (j + 1) w)[q]
            rw [List.getElem_set]
            by_cases c1 : j + 1 = q
            · rw [if_pos c1]; exact ow
            · rw [if_neg c1, List.getElem_set]
              by_cases c2 : j = q
              · rw [if_pos c2]; exact oz
              · rw [if_neg c2]
                exact (ok (List.getElem?_eq_getElem (by omega))).2 (by omega)
end Go.Proofs.Ytopnljjfpfnhfaa
