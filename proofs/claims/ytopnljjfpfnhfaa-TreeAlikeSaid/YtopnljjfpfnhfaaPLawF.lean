/- TreeAlike: the plain part, and a row of changes in memory. -/
import Derived.Test.YtopnljjfpfnhfaaPLawE
namespace Go.Proofs.Ytopnljjfpfnhfaa
open Go D
set_option linter.unusedVariables false
set_option linter.unusedSimpArgs false

/-! ### what puts in any order come to -/
def putsL (l : List KV) : List KV := l.foldl (fun acc p => insKV p.1 p.2 acc) []
theorem puts_snoc (l : List KV) (p : KV) : putsL (l ++ [p]) = insKV p.1 p.2 (putsL l) := by unfold putsL; rw [List.foldl_append]; rfl
theorem mem_ins {k v : Key} {l : List KV} (ha : Asc (l.map (·.1))) (q : KV) : q ∈ insKV k v l ↔ q = (k, v) ∨ (q ∈ l ∧ q.1 ≠ k) := by
  have e : q ∈ delKV k l ↔ (q ∈ l ∧ q.1 ≠ k) := by unfold delKV; rw [List.mem_filter]; simp
  rw [← e, insKV_eq, delKV_eq k ha, List.mem_append, List.mem_append, List.mem_cons]
  constructor
  · rintro (h | h | h)
    · exact .inr (.inl h)
    · exact .inl h
    · exact .inr (.inr h)
  · rintro (h | h | h)
    · exact .inr (.inl h)
    · exact .inl h
    · exact .inr (.inr h)
theorem asc_ins {k v : Key} : ∀ {l : List KV}, Asc (l.map (·.1)) → Asc ((insKV k v l).map (·.1))
  | [], _ => ⟨fun b hb => (by cases hb), trivial⟩
  | (a, x) :: r, h => by
    have ih := asc_ins (k := k) (v := v) h.2
    unfold insKV
    by_cases c : klt a k
    · rw [if_pos c]
      refine ⟨fun b hb => ?_, ih⟩
      obtain ⟨q, hq, rfl⟩ := List.mem_map.1 hb
      rcases (mem_ins h.2 q).1 hq with rfl | ⟨hq, _⟩
      · exact c
      · exact h.1 q.1 (List.mem_map_of_mem hq)
    · rw [if_neg c]
      by_cases c2 : a = k
      · rw [if_pos c2]; subst c2; exact h
      · rw [if_neg c2]
        have hk : klt k a := by
          by_cases e : klt k a
          · exact e
          · exact absurd (klt_tri c e) c2
        refine ⟨fun b hb => ?_, h⟩
        rcases List.mem_cons.1 hb with rfl | hb
        · exact hk
        · exact klt_trans hk (h.1 b hb)
theorem asc_puts : ∀ (l : List KV) (acc : List KV), Asc (acc.map (·.1)) → Asc ((l.foldl (fun acc p => insKV p.1 p.2 acc) acc).map (·.1))
  | [], _, h => h
  | p :: l, acc, h => asc_puts l _ (asc_ins h)
abbrev Dis (l : List KV) : Prop := l.Pairwise fun a b => a.1 ≠ b.1
theorem mem_puts {l : List KV} (hd : Dis l) : ∀ n, n ≤ l.length → (∀ q, q ∈ putsL (l.take n) ↔ q ∈ l.take n) ∧ (putsL (l.take n)).length = n
  | 0, _ => by simp [putsL]
  | n + 1, hn => by
    obtain ⟨ih, il⟩ := mem_puts hd n (by omega)
    have e := List.take_succ_eq_append_getElem (l := l) (i := n) (by omega)
    have ha : Asc ((putsL (l.take n)).map (·.1)) := asc_puts _ _ trivial
    have dn : ∀ q ∈ l.take n, q.1 ≠ (l[n]'(by omega)).1 := by
      intro q hq
      have hd2 : Dis (l.take (n + 1)) := List.Pairwise.sublist (List.take_sublist _ _) hd
      rw [e] at hd2
      exact (List.pairwise_append.1 hd2).2.2 q hq _ (by simp)
    rw [e, puts_snoc]
    refine ⟨fun q => ?_, ?_⟩
    · rw [mem_ins ha, List.mem_append, List.mem_singleton, ih q]
      constructor
      · rintro (h | ⟨h, _⟩)
        · exact .inr h
        · exact .inl h
      · rintro (h | h)
        · exact .inr ⟨h, dn q h⟩
        · exact .inl h
    · have key : ∀ {k v : Key} {m : List KV}, (∀ q ∈ m, q.1 ≠ k) → (insKV k v m).length = m.length + 1 := by
        intro k v m
        induction m with
        | nil => intro _; rfl
        | cons a m ihm =>
          intro h
          obtain ⟨a, x⟩ := a
          have i1 := ihm (fun q hq => h q (by simp [hq]))
          have i2 := h (a, x) (by simp)
          unfold insKV
          split
          · simp [i1]
          · simp
      rw [key (fun q hq => dn q ((ih q).1 hq)), il]
theorem asc_ext : ∀ {l m : List KV}, Asc (l.map (·.1)) → Asc (m.map (·.1)) → (∀ q, q ∈ l ↔ q ∈ m) → l = m
  | [], [], _, _, _ => rfl
  | [], b :: m, _, _, h => by have := (h b).2 (by simp); cases this
  | a :: l, [], _, _, h => by have := (h a).1 (by simp); cases this
  | a :: l, b :: m, ha, hb, h => by
    have e : a = b := by
      rcases List.mem_cons.1 ((h a).1 (by simp)) with e | e
      · exact e
      · rcases List.mem_cons.1 ((h b).2 (by simp)) with e2 | e2
        · exact e2.symm
        · exact absurd (hb.1 a.1 (List.mem_map_of_mem e)) (klt_asymm (ha.1 b.1 (List.mem_map_of_mem e2)))
    subst e
    congr 1
    refine asc_ext ha.2 hb.2 (fun q => ?_)
    constructor
    · intro hq
      rcases List.mem_cons.1 ((h q).1 (by simp [hq])) with e | e
      · subst e; exact absurd (ha.1 q.1 (List.mem_map_of_mem hq)) (klt_irrefl _)
      · exact e
    · intro hq
      rcases List.mem_cons.1 ((h q).2 (by simp [hq])) with e | e
      · subst e; exact absurd (hb.1 q.1 (List.mem_map_of_mem hq)) (klt_irrefl _)
      · exact e
theorem puts_perm {l m : List KV} (hp : m.Perm l) (hd : Dis l) : putsL m = putsL l := by
  have hd2 : Dis m := (hp.pairwise_iff (fun {a b} h e => h e.symm)).2 hd
  have h1 := (mem_puts hd l.length (Nat.le_refl _)).1
  have h2 := (mem_puts hd2 m.length (Nat.le_refl _)).1
  rw [List.take_length] at h1 h2
  exact asc_ext (asc_puts _ _ trivial) (asc_puts _ _ trivial) (fun q => by rw [h1, h2]; exact hp.mem_iff)
theorem swap_form {α : Type} (A B C : List α) (a b : α) : ((A ++ a :: (B ++ b :: C)).set A.length b).set (A.length + 1 + B.length) a = A ++ b :: (B ++ a :: C) := by
  have e1 : (A ++ a :: (B ++ b :: C)).set A.length b = A ++ b :: (B ++ b :: C) := by
    rw [List.set_append_right _ _ (Nat.le_refl _), Nat.sub_self]; rfl
  rw [e1, List.set_append_right _ _ (by omega), show A.length + 1 + B.length - A.length = B.length + 1 by omega, List.set_cons_succ, List.set_append_right _ _ (Nat.le_refl _), Nat.sub_self]; rfl
theorem perm_form {α : Type} (A B C : List α) (a b : α) : (A ++ b :: (B ++ a :: C)).Perm (A ++ a :: (B ++ b :: C)) := by
  refine List.Perm.append (List.Perm.refl _) ?_
  refine (List.Perm.cons b List.perm_middle).trans ?_
  refine (List.Perm.swap a b _).trans ?_
  exact List.Perm.cons a List.perm_middle.symm
theorem swap_lt {α : Type} {m : List α} {i k : Nat} (h : i < k) (hk : k < m.length) : ((m.set i m[k]).set k (m[i]'(by omega))).Perm m := by
  have hi : i < m.length := by omega
  have e : m.take i ++ m[i] :: ((m.drop (i + 1)).take (k - i - 1) ++ m[k] :: m.drop (k + 1)) = m := by
    have e1 : m.drop i = m[i] :: m.drop (i + 1) := List.drop_eq_getElem_cons hi
    have e2 : (m.drop (i + 1)).take (k - i - 1) ++ (m.drop (i + 1)).drop (k - i - 1) = m.drop (i + 1) := List.take_append_drop _ _
    rw [List.drop_drop, show i + 1 + (k - i - 1) = k by omega, List.drop_eq_getElem_cons hk] at e2
    rw [e2, ← e1, List.take_append_drop]
  have f := swap_form (m.take i) ((m.drop (i + 1)).take (k - i - 1)) (m.drop (k + 1)) m[i] m[k]
  have g := perm_form (m.take i) ((m.drop (i + 1)).take (k - i - 1)) (m.drop (k + 1)) m[i] m[k]
  have l1 : (m.take i).length = i := by rw [List.length_take]; omega
  have l2 : ((m.drop (i + 1)).take (k - i - 1)).length = k - i - 1 := by rw [List.length_take, List.length_drop]; omega
  rw [e, l1, l2, show i + 1 + (k - i - 1) = k by omega] at f
  rw [e] at g
  rw [f]; exact g
theorem swap_perm {α : Type} {m : List α} {i k : Nat} (hi : i < m.length) (hk : k < m.length) : ((m.set i m[k]).set k m[i]).Perm m := by
  rcases Nat.lt_trichotomy i k with h | h | h
  · exact swap_lt h hk
  · subst h
    have : (m.set i m[i]).set i m[i] = m := by simp
    rw [this]
  · rw [List.set_comm _ _ (by omega)]
    exact swap_lt h hi

/-! ### changes in memory -/
abbrev OpV := KV × Bool
def ocells : List OpV → List Value
  | [] => []
  | p :: l => .string p.1.1 :: .string p.1.2 :: .bool p.2 :: ocells l
theorem ocells_len : ∀ l : List OpV, (ocells l).length = l.length * 3
  | [] => rfl
  | p :: l => by simp only [ocells, List.length_cons, ocells_len l]; omega
theorem ocells_one : ∀ l : List OpV, ∀ v ∈ ocells l, v.oneCell' = true
  | [], v, hv => by cases hv
  | p :: l, v, hv => by
    simp only [ocells, List.mem_cons] at hv
    rcases hv with rfl | rfl | rfl | hv
    · rfl
    · rfl
    · rfl
    · exact ocells_one l v hv
theorem ocells_get : ∀ (l : List OpV) (i : Nat) (hi : i < l.length), (ocells l)[i * 3]? = some (.string l[i].1.1) ∧ (ocells l)[i * 3 + 1]? = some (.string l[i].1.2) ∧ (ocells l)[i * 3 + 2]? = some (.bool l[i].2)
  | p :: l, 0, _ => ⟨rfl, rfl, rfl⟩
  | p :: l, i + 1, hi => by
    have ih := ocells_get l i (by simpa using hi)
    have e : (i + 1) * 3 = i * 3 + 1 + 1 + 1 := by omega
    rw [e]
    simp only [ocells, List.getElem?_cons_succ, List.getElem_cons_succ]
    exact ih
theorem ocells_set : ∀ (l : List OpV) (i : Nat) (e : OpV), ocells (l.set i e) = (((ocells l).set (i * 3) (.string e.1.1)).set (i * 3 + 1) (.string e.1.2)).set (i * 3 + 2) (.bool e.2)
  | [], i, e => by simp [ocells]
  | p :: l, 0, e => rfl
  | p :: l, i + 1, e => by
    have ih := ocells_set l i e
    have h : (i + 1) * 3 = i * 3 + 1 + 1 + 1 := by omega
    rw [h]
    simp only [List.set_cons_succ, ocells, ih]
section
variable {h0 h : Heap} {s : Sl} {l : List OpV}
theorem Own.olen (ho : Own h0 h 3 s (ocells l)) : s.len = l.length := by have := ho.len; rw [ocells_len] at this; omega
theorem Own.old (ho : Own h0 h 3 s (ocells l)) {i : Nat} (hi : i < l.length) {K : Addr → Prop} (hk : ∀ x : Addr, x.spot = none → s.a = some x → cellH h (x.add (i * 3)) = some (.string l[i].1.1) → cellH h ((x.add (i * 3)).add 1) = some (.string l[i].1.2) → cellH h ((x.add (i * 3)).add 2) = some (.bool l[i].2) → K x) : idx s.a s.len (i : Int) K := by
  have hl := ho.olen
  obtain ⟨g1, g2, g3⟩ := ocells_get l i hi
  refine ho.sl.idx (by omega) (by omega) ?_
  intro x ex hx
  have sl := ho.sl
  rw [ex] at sl
  refine hk x hx ex ?_ ?_ ?_
  · rw [sl.cell (by omega)]; exact g1
  · rw [add_add hx, sl.cell (by omega)]; exact g2
  · rw [add_add hx, sl.cell (by omega)]; exact g3
theorem Own.ost (ho : Own h0 h 3 s (ocells l)) {i : Nat} (hi : i < l.length) (e : OpV) {K : Heap → Prop} (hk : ∀ h', h'.size = h.size → Own h0 h' 3 s (ocells (l.set i e)) → Keep (blk s.a) h h' → K h') :
    idx s.a s.len (i : Int) fun a => stC (a.add ((i : Int).toNat * 3)) (.string e.1.1) h fun h1 => stC ((a.add ((i : Int).toNat * 3)).add 1) (.string e.1.2) h1 fun h2 => stC ((a.add ((i : Int).toNat * 3)).add 2) (.bool e.2) h2 K := by
  have hl := ho.olen
  refine ho.sl.idx (by omega) (by omega) ?_
  intro x ex hx
  have sl := ho.sl
  rw [ex] at sl
  rw [Int.toNat_natCast, add_add hx, add_add hx]
  refine sl.set (by omega) rfl ?_
  intro h1 z1 s1 k1
  refine s1.set (by omega) rfl ?_
  intro h2 z2 s2 k2
  refine s2.set (by omega) rfl ?_
  intro h3 z3 s3 k3
  rw [← ex] at s3
  rw [← ocells_set] at s3
  refine hk h3 (by omega) ⟨s3, ho.fresh⟩ ?_
  have kk : Keep (fun b => b = x.block) h h3 := (k1.trans' k2).trans' k3
  exact kk.mono (fun b _ e => by rw [ex]; exact blk_some.2 (show x.block = b from e.symm))
end
end Go.Proofs.Ytopnljjfpfnhfaa
