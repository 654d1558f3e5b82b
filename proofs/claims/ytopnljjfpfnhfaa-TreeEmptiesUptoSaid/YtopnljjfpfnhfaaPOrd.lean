/- A tree as a row of separators and keys: what put and del do to it, and to the pairs. -/
import Derived.Test.YtopnljjfpfnhfaaPFlat
namespace Go.Proofs.Ytopnljjfpfnhfaa
open Go D
set_option linter.unusedVariables false
set_option linter.unusedSimpArgs false

/-- (true, k): a key between sons; (false, k): a key of a leaf -/
abbrev Itm := Bool × Key
def bef : Itm → Itm → Prop
  | (true, a), (false, b) => ¬ klt b a
  | (_, a), (_, b) => klt a b
theorem bef_trans {a b c : Itm} (h : bef a b) (k : bef b c) : bef a c := by
  obtain ⟨a1, a⟩ := a; obtain ⟨b1, b⟩ := b; obtain ⟨c1, c⟩ := c
  have kn : ∀ {x y z : Key}, ¬ klt y x → klt y z → ¬ klt z x := fun h1 h2 h3 => h1 (klt_trans h2 h3)
  have kn2 : ∀ {x y z : Key}, klt x y → ¬ klt z y → klt x z := fun {x y z} h1 h2 => by
    by_cases e : klt x z
    · exact e
    · by_cases e2 : klt z x
      · exact absurd (klt_trans e2 h1) h2
      · rw [klt_tri e e2] at h1; exact absurd h1 h2
  cases a1 <;> cases b1 <;> cases c1 <;> simp only [bef] at h k ⊢
  · exact klt_trans h k
  · exact klt_trans h k
  · exact kn2 h k
  · exact klt_trans h k
  · exact kn h k
  · exact klt_of_nlt h k
  · exact fun e => k (klt_trans e h)
  · exact klt_trans h k

def rgt : List Key → List (List Itm) → List Itm
  | k :: ks, s :: ss => (true, k) :: (s ++ rgt ks ss)
  | _, _ => []
def inter : List (List Itm) → List Key → List Itm
  | [], _ => []
  | s :: ss, ks => s ++ rgt ks ss
def lft : List (List Itm) → List Key → List Itm
  | s :: ss, k :: ks => s ++ (true, k) :: lft ss ks
  | _, _ => []
def flat : (n : Nat) → T n → List Itm
  | 0, t => List.map (fun p => (false, p.1)) t
  | n + 1, t => inter (t.2.map (flat n)) t.1
theorem rgt_cons {k : Key} {ks : List Key} {ss : List (List Itm)} (h : ss ≠ []) : rgt (k :: ks) ss = (true, k) :: inter ss ks := by
  cases ss with
  | nil => exact absurd rfl h
  | cons s ss => rfl
theorem inter_mid {s : List Itm} {B : List (List Itm)} {kb : List Key} : ∀ {A : List (List Itm)} {ka : List Key}, A.length = ka.length → inter (A ++ s :: B) (ka ++ kb) = lft A ka ++ (s ++ rgt kb B)
  | [], [], _ => rfl
  | a :: A, k :: ka, h => by
    have ih := inter_mid (s := s) (B := B) (kb := kb) (A := A) (ka := ka) (by simpa using h)
    show a ++ rgt (k :: (ka ++ kb)) (A ++ s :: B) = _
    rw [rgt_cons (by simp), ih]
    simp [lft]
  | [], k :: ka, h => by simp at h
  | a :: A, [], h => by simp at h
theorem inter_cut {m : Key} {ky : List Key} {Y : List (List Itm)} (hY : Y ≠ []) : ∀ {X : List (List Itm)} {kx : List Key}, X.length = kx.length + 1 → inter (X ++ Y) (kx ++ m :: ky) = inter X kx ++ (true, m) :: inter Y ky
  | [s], [], _ => by
    show s ++ rgt (m :: ky) Y = _
    rw [rgt_cons hY]; simp [inter, rgt]
  | s :: s' :: X, k :: kx, h => by
    have ih := inter_cut hY (m := m) (ky := ky) (X := s' :: X) (kx := kx) (by simp at h ⊢; exact h)
    show s ++ rgt (k :: (kx ++ m :: ky)) ((s' :: X) ++ Y) = _
    rw [rgt_cons (by simp), ih]
    show _ = (s ++ rgt (k :: kx) (s' :: X)) ++ _
    rw [rgt_cons (by simp)]
    simp
  | [], _, h => by simp at h
  | [_], _ :: _, h => by simp at h
  | _ :: _ :: _, [], h => by simp at h

/-- the sons before, and behind -/
def Lf {n : Nat} (t : T (n + 1)) (i : Nat) : List Itm := lft ((t.2.take i).map (flat n)) (t.1.take i)
def Rg {n : Nat} (t : T (n + 1)) (i : Nat) : List Itm := rgt (t.1.drop i) ((t.2.drop (i + 1)).map (flat n))
theorem flat_at {n : Nat} {t : T (n + 1)} {i : Nat} (hl : t.2.length = t.1.length + 1) (hi : i ≤ t.1.length) (a : T n) (k' : List Key) (r : List (T n)) :
    inter ((t.2.take i ++ a :: (r ++ t.2.drop (i + 1))).map (flat n)) (t.1.take i ++ (k' ++ t.1.drop i)) = Lf t i ++ (flat n a ++ rgt (k' ++ t.1.drop i) ((r ++ t.2.drop (i + 1)).map (flat n))) := by
  rw [List.map_append, List.map_cons]
  exact inter_mid (by rw [List.length_map, List.length_take, List.length_take]; omega)
theorem flat_set {n : Nat} {t : T (n + 1)} {i : Nat} (hl : t.2.length = t.1.length + 1) (hi : i ≤ t.1.length) (a : T n) : flat (n + 1) (t.1, t.2.set i a) = Lf t i ++ (flat n a ++ Rg t i) := by
  have h := flat_at hl hi a [] []
  show inter ((t.2.set i a).map (flat n)) t.1 = _
  have e : t.2.set i a = t.2.take i ++ a :: t.2.drop (i + 1) := by
    rw [List.set_eq_take_append_cons_drop, if_pos (by omega)]
  have e2 : t.1 = t.1.take i ++ t.1.drop i := (List.take_append_drop i t.1).symm
  rw [e]
  conv => lhs; rw [e2]
  exact h
theorem flat_self {n : Nat} {t : T (n + 1)} {i : Nat} (hl : t.2.length = t.1.length + 1) (hi : i ≤ t.1.length) : flat (n + 1) t = Lf t i ++ (flat n (t.2[i]'(by omega)) ++ Rg t i) := by
  have h := flat_set hl hi (t.2[i]'(by omega))
  rw [List.set_getElem_self] at h
  exact h
theorem flat_two {n : Nat} {t : T (n + 1)} {i : Nat} (hl : t.2.length = t.1.length + 1) (hi : i ≤ t.1.length) (a b : T n) (m : Key) :
    flat (n + 1) (insL t.1 i m, insL (t.2.set i a) (i + 1) b) = Lf t i ++ (flat n a ++ (true, m) :: (flat n b ++ Rg t i)) := by
  have h := flat_at hl hi a [m] [b]
  show inter ((insL (t.2.set i a) (i + 1) b).map (flat n)) (insL t.1 i m) = _
  have e : insL (t.2.set i a) (i + 1) b = t.2.take i ++ a :: ([b] ++ t.2.drop (i + 1)) := by
    unfold insL
    have e1 : (t.2.set i a).take (i + 1) = t.2.take i ++ [a] := by
      rw [List.take_add_one, List.take_set_of_le (Nat.le_refl _)]
      simp [show i < t.2.length by omega]
    have e2 : (t.2.set i a).drop (i + 1) = t.2.drop (i + 1) := List.drop_set_of_lt (by omega)
    rw [e1, e2]; simp
  rw [e]
  exact h
/-- one node, or two with a separator -/
def flatO (n : Nat) (r : T n × Option (Key × T n)) : List Itm := flat n r.1 ++ (match r.2 with | none => [] | some q => (true, q.1) :: flat n q.2)
theorem cutN_flat {n : Nat} {ks : List Key} {ss : List (T n)} (hl : ss.length = ks.length + 1) : flatO (n + 1) (cutN ks ss) = flat (n + 1) (ks, ss) := by
  unfold cutN
  split
  · exact List.append_nil _
  · rename_i c
    have h := inter_cut (m := (ks[ss.length / 2 - 1]?).getD ⟨#[]⟩) (ky := ks.drop (ss.length / 2)) (Y := (ss.drop (ss.length / 2)).map (flat n)) (X := (ss.take (ss.length / 2)).map (flat n)) (kx := ks.take (ss.length / 2 - 1))
      (by intro e; have := congrArg List.length e; simp at this; omega) (by rw [List.length_map, List.length_take, List.length_take]; omega)
    have e1 : (ss.take (ss.length / 2)).map (flat n) ++ (ss.drop (ss.length / 2)).map (flat n) = ss.map (flat n) := by rw [← List.map_append, List.take_append_drop]
    have e2 : ks.take (ss.length / 2 - 1) ++ (ks[ss.length / 2 - 1]?).getD ⟨#[]⟩ :: ks.drop (ss.length / 2) = ks := by
      have hlt : ss.length / 2 - 1 < ks.length := by omega
      rw [List.getElem?_eq_getElem hlt, Option.getD_some]
      have := List.drop_eq_getElem_cons hlt
      rw [show ss.length / 2 - 1 + 1 = ss.length / 2 by omega] at this
      rw [← this, List.take_append_drop]
    rw [e1, e2] at h
    exact h.symm

abbrev Pw (l : List Itm) : Prop := l.Pairwise bef
/-- a separator laid between two keys of a leaf -/
theorem pw_sep {A B : List Itm} {l r : List Itm} {x y : Key} (h : Pw (A ++ ((l ++ [(false, x)]) ++ (false, y) :: r) ++ B)) : Pw (A ++ ((l ++ [(false, x)]) ++ (true, y) :: (false, y) :: r) ++ B) := by
  have h' : Pw ((A ++ l) ++ ((false, x) :: (false, y) :: (r ++ B))) := by simpa using h
  suffices Pw ((A ++ l) ++ ((false, x) :: (true, y) :: (false, y) :: (r ++ B))) by simpa using this
  obtain ⟨h1, h2, h3⟩ := List.pairwise_append.1 h'
  refine List.pairwise_append.2 ?_
  rw [List.pairwise_cons] at h2
  obtain ⟨h4, h5⟩ := h2
  have h6 := h5
  rw [List.pairwise_cons] at h6
  obtain ⟨h7, h8⟩ := h6
  have hxy : bef (false, x) (true, y) := h4 (false, y) (by simp)
  refine ⟨h1, ?_, ?_⟩
  · rw [List.pairwise_cons]
    refine ⟨?_, ?_⟩
    · intro b hb
      rcases List.mem_cons.1 hb with rfl | hb
      · exact hxy
      · exact h4 b hb
    · rw [List.pairwise_cons]
      refine ⟨?_, h5⟩
      intro b hb
      rcases List.mem_cons.1 hb with rfl | hb
      · exact klt_irrefl y
      · exact bef_trans (b := (false, y)) (klt_irrefl y) (h7 b hb)
  · intro a ha b hb
    rcases List.mem_cons.1 hb with rfl | hb
    · exact h3 a ha _ (by simp)
    · rcases List.mem_cons.1 hb with rfl | hb
      · exact bef_trans (h3 a ha (false, x) (by simp)) hxy
      · exact h3 a ha b (List.mem_cons_of_mem _ hb)
theorem cutF_ord {A B : List Itm} {t : List KV} (h : Pw (A ++ flat 0 t ++ B)) : Pw (A ++ flatO 0 (cutF t) ++ B) := by
  unfold cutF
  split
  · have e : flatO 0 ((t, none) : T 0 × Option (Key × T 0)) = flat 0 t := List.append_nil _
    rw [e]; exact h
  · rename_i c
    have hH : 0 < t.length / 2 := by omega
    have hH2 : t.length / 2 < t.length := by omega
    generalize t.length / 2 = H at hH hH2
    have e1 : t.take H = t.take (H - 1) ++ [t[H - 1]] := by
      have := List.take_succ_eq_append_getElem (l := t) (i := H - 1) (by omega)
      rwa [show H - 1 + 1 = H by omega] at this
    have e2 : t.drop H = t[H] :: t.drop (H + 1) := List.drop_eq_getElem_cons hH2
    have f : ∀ l : List KV, flat 0 l = l.map fun p => ((false, p.1) : Itm) := fun _ => rfl
    have h2 : Pw (A ++ (((t.take (H - 1)).map (fun p => ((false, p.1) : Itm)) ++ [(false, t[H - 1].1)]) ++ (false, t[H].1) :: (t.drop (H + 1)).map (fun p => ((false, p.1) : Itm))) ++ B) := by
      have e : (((t.take (H - 1)).map (fun p => ((false, p.1) : Itm)) ++ [(false, t[H - 1].1)]) ++ (false, t[H].1) :: (t.drop (H + 1)).map (fun p => ((false, p.1) : Itm))) = flat 0 t := by
        rw [f]
        conv => rhs; rw [← List.take_append_drop H t, e1, e2]
        simp only [List.map_append, List.map_cons, List.map_nil, List.append_assoc]
      rw [e]; exact h
    have h3 := pw_sep h2
    have e : flatO 0 ((t.take H, some ((t[H]?.map (·.1)).getD ⟨#[]⟩, t.drop H)) : T 0 × Option (Key × T 0)) = ((t.take (H - 1)).map (fun p => ((false, p.1) : Itm)) ++ [(false, t[H - 1].1)]) ++ (true, t[H].1) :: (false, t[H].1) :: (t.drop (H + 1)).map (fun p => ((false, p.1) : Itm)) := by
      show flat 0 (t.take H) ++ (true, (t[H]?.map (·.1)).getD ⟨#[]⟩) :: flat 0 (t.drop H) = _
      rw [f, f, e1, e2, List.getElem?_eq_getElem hH2]
      simp only [List.map_append, List.map_cons, List.map_nil, List.append_assoc, Option.map_some, Option.getD_some]
    rw [e]; exact h3

theorem upto_seps {k : Key} {ks : List Key} : ∀ s ∈ ks.take (upto k ks), ¬ klt k s := by
  intro s hs
  obtain ⟨i, hi, rfl⟩ := List.mem_iff_getElem.1 hs
  rw [List.length_take] at hi
  rw [List.getElem_take]
  exact upto_lt (by omega) (List.getElem?_eq_getElem (by omega))
theorem upto_seps2 {k : Key} {ks : List Key} (ha : Asc ks) : ∀ s ∈ ks.drop (upto k ks), klt k s := by
  intro s hs
  obtain ⟨i, hi, rfl⟩ := List.mem_iff_getElem.1 hs
  rw [List.length_drop] at hi
  rw [List.getElem_drop]
  exact upto_ge ha (by omega) (List.getElem?_eq_getElem (by omega))
theorem lft_bef {k : Key} : ∀ {X : List (List Itm)} {ka : List Key}, Pw (lft X ka) → (∀ s ∈ ka, ¬ klt k s) → ∀ x ∈ lft X ka, bef x (false, k)
  | [], _, _, _, x, hx => by cases hx
  | _ :: _, [], _, _, x, hx => by cases hx
  | s :: X, a :: ka, hp, hk, x, hx => by
    obtain ⟨h1, h2, h3⟩ := List.pairwise_append.1 hp
    have ha : bef (true, a) (false, k) := hk a (by simp)
    rcases List.mem_append.1 hx with hx | hx
    · exact bef_trans (h3 x hx (true, a) (by simp)) ha
    · rcases List.mem_cons.1 hx with rfl | hx
      · exact ha
      · exact lft_bef (List.pairwise_cons.1 h2).2 (fun s hs => hk s (by simp [hs])) x hx
theorem rgt_bef {k : Key} : ∀ {ks : List Key} {X : List (List Itm)}, Pw (rgt ks X) → (∀ s ∈ ks, klt k s) → ∀ x ∈ rgt ks X, bef (false, k) x
  | [], _, _, _, x, hx => by cases hx
  | _ :: _, [], _, _, x, hx => by cases hx
  | a :: ks, s :: X, hp, hk, x, hx => by
    obtain ⟨h1, h2⟩ := List.pairwise_cons.1 hp
    have ha : bef (false, k) (true, a) := hk a (by simp)
    rcases List.mem_cons.1 hx with rfl | hx
    · exact ha
    · rcases List.mem_append.1 hx with hx2 | hx2
      · exact bef_trans ha (h1 x (by simp [hx2]))
      · exact rgt_bef (List.pairwise_append.1 h2).2.1 (fun s hs => hk s (by simp [hs])) x hx2
theorem rgt_mem {b : Key} : ∀ {ks : List Key} {X : List (List Itm)}, ks.length ≤ X.length → b ∈ ks → (true, b) ∈ rgt ks X
  | a :: ks, s :: X, hl, hb => by
    rcases List.mem_cons.1 hb with rfl | hb
    · simp [rgt]
    · simp only [rgt, List.mem_cons, List.mem_append]
      exact .inr (.inr (rgt_mem (by simpa using hl) hb))
  | [], _, _, hb => by cases hb
  | _ :: _, [], hl, _ => by simp at hl
theorem rgt_asc : ∀ {ks : List Key} {X : List (List Itm)}, ks.length ≤ X.length → Pw (rgt ks X) → Asc ks
  | [], _, _, _ => trivial
  | _ :: _, [], hl, _ => by simp at hl
  | a :: ks, s :: X, hl, hp => by
    obtain ⟨h1, h2⟩ := List.pairwise_cons.1 hp
    refine ⟨fun b hb => h1 (true, b) (List.mem_append.2 (.inr (rgt_mem (by simpa using hl) hb))), rgt_asc (by simpa using hl) (List.pairwise_append.1 h2).2.1⟩
theorem flat_asc {n : Nat} {t : T (n + 1)} (hl : t.2.length = t.1.length + 1) (hp : Pw (flat (n + 1) t)) : Asc t.1 := by
  have h : Pw (inter (t.2.map (flat n)) t.1) := hp
  cases e : t.2.map (flat n) with
  | nil => have := congrArg List.length e; simp at this; rw [this] at hl; simp at hl
  | cons s X =>
    rw [e] at h
    have hx := congrArg List.length e
    simp at hx
    exact rgt_asc (by omega) (List.pairwise_append.1 h).2.1
theorem leaf_asc : ∀ {t : List KV}, Pw (flat 0 t) → Asc (t.map (·.1))
  | [], _ => trivial
  | p :: t, h => by
    obtain ⟨h1, h2⟩ := List.pairwise_cons.1 (show Pw ((false, p.1) :: flat 0 t) from h)
    refine ⟨fun b hb => ?_, leaf_asc h2⟩
    obtain ⟨q, hq, rfl⟩ := List.mem_map.1 hb
    exact h1 (false, q.1) (List.mem_map.2 ⟨q, hq, rfl⟩)
/-- a son in its place is ordered -/
theorem pw_son {A B X : List Itm} (h : Pw (A ++ (X ++ B))) : Pw X := (List.pairwise_append.1 (List.pairwise_append.1 h).2.1).1
theorem srt_of {lo : Nat} : ∀ {n : Nat} {t : T n}, Okn lo n t → Pw (flat n t) → Srt n t
  | 0, t, h, hp => ⟨leaf_asc hp, by have := h.2; omega⟩
  | n + 1, t, h, hp => by
    refine ⟨flat_asc h.1 hp, h.1, by have := h.2.2.1; omega, fun s hs => ?_⟩
    obtain ⟨i, hi, rfl⟩ := List.mem_iff_getElem.1 hs
    rw [flat_self (i := i) h.1 (by have := h.1; omega)] at hp
    exact srt_of (h.2.2.2 _ hs) (pw_son hp)

theorem pw_ins {A L Rr B : List Itm} {x : Itm} (h : Pw (A ++ (L ++ Rr) ++ B)) (h1 : ∀ a ∈ A, bef a x) (h2 : ∀ a ∈ L, bef a x) (h3 : ∀ b ∈ Rr, bef x b) (h4 : ∀ b ∈ B, bef x b) : Pw (A ++ (L ++ x :: Rr) ++ B) := by
  have h' : Pw ((A ++ L) ++ (Rr ++ B)) := by simpa using h
  suffices Pw ((A ++ L) ++ x :: (Rr ++ B)) by simpa using this
  obtain ⟨q1, q2, q3⟩ := List.pairwise_append.1 h'
  refine List.pairwise_append.2 ⟨q1, List.pairwise_cons.2 ⟨fun b hb => ?_, q2⟩, fun a ha b hb => ?_⟩
  · rcases List.mem_append.1 hb with e | e
    · exact h3 b e
    · exact h4 b e
  · rcases List.mem_cons.1 hb with rfl | hb
    · rcases List.mem_append.1 ha with e | e
      · exact h1 a e
      · exact h2 a e
    · exact q3 a ha b hb
theorem leafF_ord {A B : List Itm} {t : List KV} {k w : Key} (h : Pw (A ++ flat 0 t ++ B)) (hA : ∀ x ∈ A, bef x (false, k)) (hB : ∀ x ∈ B, bef (false, k) x) : Pw (A ++ flat 0 (leafF t k w).1 ++ B) := by
  have ha : Asc (t.map (·.1)) := leaf_asc (pw_son (show Pw (A ++ (flat 0 t ++ B)) by rw [← List.append_assoc]; exact h))
  have hm := below_le k (t.map (·.1))
  rw [List.length_map] at hm
  have f : ∀ l : List KV, flat 0 l = l.map fun p => ((false, p.1) : Itm) := fun _ => rfl
  unfold leafF
  have lt : ∀ (i : Nat) x, i < below k (t.map (·.1)) → (t.map (·.1))[i]? = some x → klt x k := fun i x hi hx => below_lt hi hx
  have ge : ∀ (i : Nat) x, below k (t.map (·.1)) ≤ i → (t.map (·.1))[i]? = some x → ¬ klt x k := fun i x hi hx => below_ge ha hi hx
  generalize below k (t.map (·.1)) = m at hm lt ge
  by_cases c : (t.map (·.1))[m]? = some k
  · simp only [if_pos c]
    have hml : m < t.length := by have := (List.getElem?_eq_some_iff.1 c).1; simpa using this
    have e : flat 0 (t.set m (k, w)) = flat 0 t := by
      rw [f, f, List.map_set]
      apply List.ext_getElem?
      intro j
      rw [List.getElem?_set]
      by_cases e : m = j
      · subst e
        rw [List.getElem?_map] at c
        rw [if_pos rfl, if_pos (by simpa using hml), List.getElem?_map]
        cases hx : t[m]? with
        | none => rw [hx] at c; cases c
        | some p => rw [hx] at c; simp at c; simp [c]
      · rw [if_neg e]
    rw [e]; exact h
  · simp only [if_neg c]
    have e : flat 0 (insL t m (k, w)) = flat 0 (t.take m) ++ (false, k) :: flat 0 (t.drop m) := by
      rw [f, f, f]; unfold insL
      simp only [List.map_append, List.map_cons]
    rw [e]
    have e2 : flat 0 t = flat 0 (t.take m) ++ flat 0 (t.drop m) := by
      rw [f, f, f, ← List.map_append, List.take_append_drop]
    rw [e2] at h
    refine pw_ins h hA ?_ ?_ hB
    · intro a ha'
      obtain ⟨p, hp, rfl⟩ := List.mem_map.1 ha'
      obtain ⟨i, hi, rfl⟩ := List.mem_iff_getElem.1 hp
      rw [List.length_take] at hi
      rw [List.getElem_take]
      exact lt i _ (by omega) (by rw [List.getElem?_map, List.getElem?_eq_getElem (by omega)]; rfl)
    · intro b hb
      obtain ⟨p, hp, rfl⟩ := List.mem_map.1 hb
      obtain ⟨i, hi, rfl⟩ := List.mem_iff_getElem.1 hp
      rw [List.length_drop] at hi
      rw [List.getElem_drop]
      have hg := ge (m + i) t[m + i].1 (by omega) (by rw [List.getElem?_map, List.getElem?_eq_getElem (by omega)]; rfl)
      show klt k t[m + i].1
      by_cases e1 : klt k t[m + i].1
      · exact e1
      · have e3 := klt_tri hg e1
        exfalso
        rcases Nat.eq_zero_or_pos i with rfl | hi0
        · apply c
          rw [List.getElem?_map, List.getElem?_eq_getElem (by omega)]
          simp only [Nat.add_zero] at e3
          exact congrArg some e3
        · have h0 := ge m t[m].1 (Nat.le_refl _) (by rw [List.getElem?_map, List.getElem?_eq_getElem (by omega)]; rfl)
          have h1 := asc_get (i := m) (j := m + i) ha (by omega) (show (t.map (·.1))[m]? = some t[m].1 by rw [List.getElem?_map, List.getElem?_eq_getElem (by omega)]; rfl) (show (t.map (·.1))[m + i]? = some t[m + i].1 by rw [List.getElem?_map, List.getElem?_eq_getElem (by omega)]; rfl)
          rw [e3] at h1
          exact h0 h1

theorem put_ord {lo : Nat} (k w : Key) : ∀ {n : Nat} {t : T n} {A B : List Itm}, Okn lo n t → Pw (A ++ flat n t ++ B) → (∀ x ∈ A, bef x (false, k)) → (∀ x ∈ B, bef (false, k) x) → Pw (A ++ flatO n (putF k w n t).1 ++ B)
  | 0, t, A, B, h, hp, hA, hB => by
    have ho := leafF_ord (w := w) hp hA hB
    rw [putF_zero]
    cases c : (leafF t k w).2 with
    | true => exact cutF_ord ho
    | false =>
      have e : flatO 0 ((leafF t k w).1, none) = flat 0 (leafF t k w).1 := List.append_nil _
      show Pw (A ++ flatO 0 ((leafF t k w).1, none) ++ B)
      rw [e]; exact ho
  | n + 1, t, A, B, h, hp, hA, hB => by
    have hi := upto_le k t.1
    have hl := h.1
    have hasc : Asc t.1 := flat_asc hl (pw_son (by rw [← List.append_assoc]; exact hp))
    have s1 := upto_seps (k := k) (ks := t.1)
    have s2 := upto_seps2 (k := k) hasc
    rw [putF_succ]
    generalize upto k t.1 = i at hi s1 s2
    rw [List.getElem?_eq_getElem (by omega), flat_self hl hi] at *
    have hp' : Pw ((A ++ Lf t i) ++ flat n (t.2[i]'(by omega)) ++ (Rg t i ++ B)) := by simpa using hp
    have pL : Pw (Lf t i) := by
      have := (List.pairwise_append.1 (List.pairwise_append.1 (show Pw (A ++ ((Lf t i ++ (flat n (t.2[i]'(by omega)) ++ Rg t i)) ++ B)) by simpa using hp)).2.1).1
      exact (List.pairwise_append.1 this).1
    have pR : Pw (Rg t i) := by
      have := (List.pairwise_append.1 (List.pairwise_append.1 (show Pw (A ++ ((Lf t i ++ (flat n (t.2[i]'(by omega)) ++ Rg t i)) ++ B)) by simpa using hp)).2.1).1
      exact (List.pairwise_append.1 (List.pairwise_append.1 this).2.1).2.1
    have ih := put_ord (lo := 4) k w (h.2.2.2 _ (List.getElem_mem (by omega))) hp' (fun x hx => by
      rcases List.mem_append.1 hx with e | e
      · exact hA x e
      · exact lft_bef pL s1 x e) (fun x hx => by
      rcases List.mem_append.1 hx with e | e
      · exact rgt_bef pR s2 x e
      · exact hB x e)
    simp only
    rcases hq : putF k w n (t.2[i]'(by omega)) with ⟨⟨a, O⟩, more⟩
    rw [hq] at ih
    cases O with
    | none =>
      show Pw (A ++ (flat (n + 1) (t.1, t.2.set i a) ++ []) ++ B)
      rw [flat_set hl hi, List.append_nil]
      have e : flatO n (a, none) = flat n a := List.append_nil _
      simp only [e] at ih
      simpa using ih
    | some q =>
      obtain ⟨m, b⟩ := q
      show Pw (A ++ flatO (n + 1) (cutN (insL t.1 i m) (insL (t.2.set i a) (i + 1) b)) ++ B)
      rw [cutN_flat (by rw [insL_len (by rw [List.length_set]; omega), insL_len hi, List.length_set]; omega), flat_two hl hi]
      have e : flatO n (a, some (m, b)) = flat n a ++ (true, m) :: flat n b := rfl
      simp only [e] at ih
      simpa using ih
end Go.Proofs.Ytopnljjfpfnhfaa
