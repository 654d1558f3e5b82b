/- slices.Grow of nothing, slices.Concat. -/
import Derived.Test.YtopnljjfpfnhfaaPRepl
namespace Go.Proofs.Ytopnljjfpfnhfaa
open Go D
set_option linter.unusedVariables false
set_option linter.unusedSimpArgs false

def sumL (xs : List (Sl × List Value)) : Nat := (xs.map fun p => p.1.len).sum
theorem sumL_snoc (xs : List (Sl × List Value)) (p : Sl × List Value) : sumL (xs ++ [p]) = sumL xs + p.1.len := by unfold sumL; simp
theorem sumL_le {xs : List (Sl × List Value)} (h : ∀ p ∈ xs, p.1.len ≤ 1000000) : sumL xs ≤ 1000000 * xs.length := by
  induction xs with
  | nil => simp [sumL]
  | cons p r ih =>
    have h1 := h p (by simp)
    have h2 := ih (fun q hq => h q (by simp [hq]))
    unfold sumL at *
    simp only [List.map_cons, List.sum_cons, List.length_cons]
    omega
def flatL (xs : List (Sl × List Value)) : List Value := (xs.map (·.2)).flatten
theorem flatL_snoc (xs : List (Sl × List Value)) (p : Sl × List Value) : flatL (xs ++ [p]) = flatL xs ++ p.2 := by unfold flatL; simp
theorem flatL_len {xs : List (Sl × List Value)} (h : ∀ p ∈ xs, p.2.length = p.1.len) : (flatL xs).length = sumL xs := by
  induction xs with
  | nil => rfl
  | cons p r ih =>
    have h1 := h p (by simp)
    have h2 := ih (fun q hq => h q (by simp [hq]))
    unfold flatL sumL at *
    simp only [List.map_cons, List.flatten_cons, List.length_append, List.sum_cons]
    omega

theorem growS_spec {h : Heap} {n : Nat} (hn : n ≤ 100000000) {R : Sl → Heap → Prop} (hk : ∀ r h', Own h h' 1 r [] → r.len = 0 → Nw h h' → R r h') :
    CallT Try.prog slices_Grow_string_no [.slice none 0 0, .int .i64 (n : Int)] h [.sc .sl] R := by
  have hcall := slices_Grow_string_call ⟨none, 0, 0⟩ (n : Int) (R := R) (h := h)
  apply hcall
  unfold slices_Grow_string
  refine withJ.inl ?_
  refine cnd_f (decide_eq_false (by omega)) ?_
  refine withJ.inl ?_
  have w1 : w64 ((n : Int) - w64 (((0 : Nat) : Int) - ((0 : Nat) : Int))) = (n : Int) := by
    rw [w64_id (x := ((0 : Nat) : Int) - ((0 : Nat) : Int)) (by omega) (by omega), w64_id (by omega) (by omega)]; omega
  simp only [w1]
  refine cnd_dec (fun c1 => ?_) (fun c1 => ?_)
  · refine ⟨by omega, by omega, by omega, by omega, ?_⟩
    have e0 : ∀ (p : Prop) [Decidable p] (f : Addr → Addr), (if p then (none : Option Addr) else Option.map f none) = none := fun p _ f => by split <;> rfl
    rw [e0]
    show appZ [(.string (⟨#[]⟩ : ByteArray) : Value)] 9 1 16 none 0 0 (n : Int) h _
    refine ⟨by omega, by show (n : Int) * ((16 : Nat) : Int) ≤ _; omega, ?_⟩
    simp only [Int.toNat_natCast]
    refine SlR.app (new := zerosL [(.string (⟨#[]⟩ : ByteArray) : Value)] n) (SlR.nil _ _) rfl (by rw [zerosL_one]; simp) (by intro u hu; rw [zerosL_one] at hu; rw [List.eq_of_mem_replicate hu]; rfl) (by show (2 * (0 + n) + 1024) * 16 ≤ _; omega) ?_
    intro a' c' h' q1 q2 q3
    have nw : Nw h h' := q2.mono (fun x _ e => by obtain ⟨y, e2, _⟩ := e; cases e2)
    rcases q1 with ⟨_, e2, _⟩ | ⟨b, o, cs, e1, row, p1, p2, p3, p4⟩
    · omega
    subst e1
    refine ⟨by omega, by omega, by omega, by omega, ?_⟩
    have hc : ¬ (c' : Int) = 0 := by omega
    rw [if_neg hc, Option.map_some, add_mk]
    have hb : h.size ≤ b := by
      rcases q3 with ⟨e2, _⟩ | ⟨e2, _⟩
      · cases e2
      · injection e2 with e2; injection e2 with e2; omega
    refine hk ⟨some ⟨b, o + (0 : Int).toNat * 1, none⟩, _, _⟩ h' ⟨.inr ⟨b, o, cs, rfl, row, by show 0 ≤ _; omega, ?_, rfl, by simp⟩, fun x hx => ?_⟩ rfl nw
    · show o + ((c' : Int) - 0).toNat * 1 ≤ _; omega
    · rw [blk_some] at hx; simp only at hx; omega
  · exact hk ⟨none, 0, 0⟩ h (Own.nil _ _ _) rfl (Keep.refl _ _)

theorem concatS_spec {h : Heap} {a : Option Addr} {n c : Nat} {xs : List (Sl × List Value)} (hs : Rv h a n (xs.map fun p => Value.slice p.1.a p.1.len p.1.cap)) (hx : ∀ p ∈ xs, Rv h p.1.a p.1.len p.2 ∧ p.1.len ≤ 1000000 ∧ ∀ v ∈ p.2, v.oneCell' = true) (hn : n ≤ 10) {R : Sl → Heap → Prop}
    (hk : ∀ r h', Own h h' 1 r (flatL xs) → r.len = sumL xs → Nw h h' → R r h') : CallT Try.prog slices_Concat_string_no [.slice a n c] h [.sc .sl] R := by
  have hcall := slices_Concat_string_call ⟨a, n, c⟩ (R := R) (h := h)
  apply hcall
  unfold slices_Concat_string
  have hl : n = xs.length := by have := hs.1; rwa [List.length_map] at this
  have sle : ∀ i, sumL (xs.take i) ≤ 10000000 := fun i => by
    have h1 := sumL_le (xs := xs.take i) (fun p hp => (hx p (List.mem_of_mem_take hp)).2.1)
    have h2 : (xs.take i).length ≤ 10 := by rw [List.length_take]; omega
    omega
  have get : ∀ {h' : Heap} {i : Nat} {K : Option Addr → Nat → Nat → Prop}, Nw h h' → (hi : i < xs.length) → K xs[i].1.a xs[i].1.len xs[i].1.cap → idx a n (i : Int) fun y => ldL (y.add ((i : Int).toNat * 1)) h' K := by
    intro h' i K nw hi hK
    refine Rv.at (hs.keep0 nw) (by omega) (by omega) (v := .slice xs[i].1.a xs[i].1.len xs[i].1.cap) (by rw [Int.toNat_natCast, List.getElem?_map, List.getElem?_eq_getElem hi]; rfl) ?_
    intro y hy
    exact ⟨_, _, _, hy, hK⟩
  have tk : ∀ i (hi : i < xs.length), xs.take (i + 1) = xs.take i ++ [xs[i]] := fun i hi => List.take_succ_eq_append_getElem hi
  refine LoopT.intro (fun (t : Int × Int) h' => h' = h ∧ ∃ i : Nat, t = (((sumL (xs.take i) : Nat) : Int), (i : Int)) ∧ i ≤ n) (fun t _ => ((n : Int) - t.2).toNat) ⟨rfl, 0, rfl, by omega⟩ ?_
  rintro _ h' ⟨e1, i, rfl, hi⟩
  have e1' := e1.symm
  subst e1'
  refine cnd_dec (fun c1 => ?_) (fun c1 => ?_)
  · have hin : i < xs.length := by have : (i : Int) < (n : Int) := c1; omega
    refine withJ.inl ?_
    refine get (Keep.refl _ _) hin ?_
    have h1 := sle i
    have h2 := sle (i + 1)
    rw [tk i hin, sumL_snoc] at h2
    have w : w64 (((sumL (xs.take i) : Nat) : Int) + ((xs[i].1.len : Nat) : Int)) = ((sumL (xs.take (i + 1)) : Nat) : Int) := by
      rw [w64_id (by omega) (by omega), tk i hin, sumL_snoc]; push_cast; rfl
    have w2 : w64 ((i : Int) + 1) = ((i + 1 : Nat) : Int) := by rw [w64_id (by omega) (by omega)]; push_cast; rfl
    simp only [w, w2]
    refine cnd_f (decide_eq_false (by omega)) ?_
    refine ⟨⟨by first | rfl | trivial, i + 1, rfl, by omega⟩, ?_⟩
    show ((n : Int) - ((i + 1 : Nat) : Int)).toNat < ((n : Int) - (i : Int)).toNat
    omega
  · have hin : i = n := by have : ¬ (i : Int) < (n : Int) := c1; omega
    subst hin
    have h1 := sle i
    refine growS_spec (by omega) ?_
    intro r9 h10 o9 l9 n9
    have htake : xs.take i = xs := List.take_of_length_le (by omega)
    refine LoopT.intro (fun (t : Sl × Int) hh => ∃ j : Nat, t.2 = (j : Int) ∧ j ≤ i ∧ Own h hh 1 t.1 (flatL (xs.take j)) ∧ t.1.len = sumL (xs.take j) ∧ Nw h hh) (fun t _ => ((i : Int) - t.2).toNat) ⟨0, rfl, by omega, o9, l9, n9⟩ ?_
    rintro ⟨r, t2⟩ h13 ⟨j, e2, hj, ow, rl, nw⟩
    simp only at e2
    subst e2
    refine cnd_dec (fun c2 => ?_) (fun c2 => ?_)
    · have hjn : j < xs.length := by have : (j : Int) < (i : Int) := c2; omega
      refine get nw hjn ?_
      obtain ⟨g1, g2, g3⟩ := hx xs[j] (List.getElem_mem hjn)
      refine Rv.rd (g1.keep0 nw) ?_
      have h3 := sle j
      have gl := g1.1
      replace rl : r.len = sumL (xs.take j) := rl
      refine ow.app nw rfl (by omega) g3 (by show (2 * (r.len + _) + 1024) * 16 ≤ _; omega) ?_
      intro a' c' h18 q1 q2 q3 q4
      refine ⟨⟨j + 1, ?_, by omega, ?_, ?_, q2⟩, ?_⟩
      · show w64 ((j : Int) + 1) = ((j + 1 : Nat) : Int); rw [w64_id (by omega) (by omega)]; push_cast; rfl
      · rw [tk j hjn, flatL_snoc]; exact q1
      · show r.len + _ = _; rw [tk j hjn, sumL_snoc, rl]
      · show ((i : Int) - w64 ((j : Int) + 1)).toNat < ((i : Int) - (j : Int)).toNat
        rw [w64_id (by omega) (by omega)]; omega
    · have hjn : j = i := by have : ¬ (j : Int) < (i : Int) := c2; omega
      subst hjn
      rw [htake] at ow rl
      exact hk r h13 ow rl nw

theorem growN_spec {h : Heap} {n : Nat} (hn : n ≤ 100000000) {R : Sl → Heap → Prop} (hk : ∀ r h', Own h h' 1 r [] → r.len = 0 → Nw h h' → R r h') :
    CallT Try.prog slices_Grow_btree_node_no [.slice none 0 0, .int .i64 (n : Int)] h [.sc .sl] R := by
  have hcall := slices_Grow_btree_node_call ⟨none, 0, 0⟩ (n : Int) (R := R) (h := h)
  apply hcall
  unfold slices_Grow_btree_node
  refine withJ.inl ?_
  refine cnd_f (decide_eq_false (by omega)) ?_
  refine withJ.inl ?_
  have w1 : w64 ((n : Int) - w64 (((0 : Nat) : Int) - ((0 : Nat) : Int))) = (n : Int) := by
    rw [w64_id (x := ((0 : Nat) : Int) - ((0 : Nat) : Int)) (by omega) (by omega), w64_id (by omega) (by omega)]; omega
  simp only [w1]
  refine cnd_dec (fun c1 => ?_) (fun c1 => ?_)
  · refine ⟨by omega, by omega, by omega, by omega, ?_⟩
    have e0 : ∀ (p : Prop) [Decidable p] (f : Addr → Addr), (if p then (none : Option Addr) else Option.map f none) = none := fun p _ f => by split <;> rfl
    rw [e0]
    show appZ [(.nilIface : Value)] 60 1 16 none 0 0 (n : Int) h _
    refine ⟨by omega, by show (n : Int) * ((16 : Nat) : Int) ≤ _; omega, ?_⟩
    simp only [Int.toNat_natCast]
    refine SlR.app (new := zerosL [(.nilIface : Value)] n) (SlR.nil _ _) rfl (by rw [zerosL_one]; simp) (by intro u hu; rw [zerosL_one] at hu; rw [List.eq_of_mem_replicate hu]; rfl) (by show (2 * (0 + n) + 1024) * 16 ≤ _; omega) ?_
    intro a' c' h' q1 q2 q3
    have nw : Nw h h' := q2.mono (fun x _ e => by obtain ⟨y, e2, _⟩ := e; cases e2)
    rcases q1 with ⟨_, e2, _⟩ | ⟨b, o, cs, e1, row, p1, p2, p3, p4⟩
    · omega
    subst e1
    refine ⟨by omega, by omega, by omega, by omega, ?_⟩
    have hc : ¬ (c' : Int) = 0 := by omega
    rw [if_neg hc, Option.map_some, add_mk]
    have hb : h.size ≤ b := by
      rcases q3 with ⟨e2, _⟩ | ⟨e2, _⟩
      · cases e2
      · injection e2 with e2; injection e2 with e2; omega
    refine hk ⟨some ⟨b, o + (0 : Int).toNat * 1, none⟩, _, _⟩ h' ⟨.inr ⟨b, o, cs, rfl, row, by show 0 ≤ _; omega, ?_, rfl, by simp⟩, fun x hx => ?_⟩ rfl nw
    · show o + ((c' : Int) - 0).toNat * 1 ≤ _; omega
    · rw [blk_some] at hx; simp only at hx; omega
  · exact hk ⟨none, 0, 0⟩ h (Own.nil _ _ _) rfl (Keep.refl _ _)

theorem concatN_spec {h : Heap} {a : Option Addr} {n c : Nat} {xs : List (Sl × List Value)} (hs : Rv h a n (xs.map fun p => Value.slice p.1.a p.1.len p.1.cap)) (hx : ∀ p ∈ xs, Rv h p.1.a p.1.len p.2 ∧ p.1.len ≤ 1000000 ∧ ∀ v ∈ p.2, v.oneCell' = true) (hn : n ≤ 10) {R : Sl → Heap → Prop}
    (hk : ∀ r h', Own h h' 1 r (flatL xs) → r.len = sumL xs → Nw h h' → R r h') : CallT Try.prog slices_Concat_btree_node_no [.slice a n c] h [.sc .sl] R := by
  have hcall := slices_Concat_btree_node_call ⟨a, n, c⟩ (R := R) (h := h)
  apply hcall
  unfold slices_Concat_btree_node
  have hl : n = xs.length := by have := hs.1; rwa [List.length_map] at this
  have sle : ∀ i, sumL (xs.take i) ≤ 10000000 := fun i => by
    have h1 := sumL_le (xs := xs.take i) (fun p hp => (hx p (List.mem_of_mem_take hp)).2.1)
    have h2 : (xs.take i).length ≤ 10 := by rw [List.length_take]; omega
    omega
  have get : ∀ {h' : Heap} {i : Nat} {K : Option Addr → Nat → Nat → Prop}, Nw h h' → (hi : i < xs.length) → K xs[i].1.a xs[i].1.len xs[i].1.cap → idx a n (i : Int) fun y => ldL (y.add ((i : Int).toNat * 1)) h' K := by
    intro h' i K nw hi hK
    refine Rv.at (hs.keep0 nw) (by omega) (by omega) (v := .slice xs[i].1.a xs[i].1.len xs[i].1.cap) (by rw [Int.toNat_natCast, List.getElem?_map, List.getElem?_eq_getElem hi]; rfl) ?_
    intro y hy
    exact ⟨_, _, _, hy, hK⟩
  have tk : ∀ i (hi : i < xs.length), xs.take (i + 1) = xs.take i ++ [xs[i]] := fun i hi => List.take_succ_eq_append_getElem hi
  refine LoopT.intro (fun (t : Int × Int) h' => h' = h ∧ ∃ i : Nat, t = (((sumL (xs.take i) : Nat) : Int), (i : Int)) ∧ i ≤ n) (fun t _ => ((n : Int) - t.2).toNat) ⟨rfl, 0, rfl, by omega⟩ ?_
  rintro _ h' ⟨e1, i, rfl, hi⟩
  have e1' := e1.symm
  subst e1'
  refine cnd_dec (fun c1 => ?_) (fun c1 => ?_)
  · have hin : i < xs.length := by have : (i : Int) < (n : Int) := c1; omega
    refine withJ.inl ?_
    refine get (Keep.refl _ _) hin ?_
    have h1 := sle i
    have h2 := sle (i + 1)
    rw [tk i hin, sumL_snoc] at h2
    have w : w64 (((sumL (xs.take i) : Nat) : Int) + ((xs[i].1.len : Nat) : Int)) = ((sumL (xs.take (i + 1)) : Nat) : Int) := by
      rw [w64_id (by omega) (by omega), tk i hin, sumL_snoc]; push_cast; rfl
    have w2 : w64 ((i : Int) + 1) = ((i + 1 : Nat) : Int) := by rw [w64_id (by omega) (by omega)]; push_cast; rfl
    simp only [w, w2]
    refine cnd_f (decide_eq_false (by omega)) ?_
    refine ⟨⟨by first | rfl | trivial, i + 1, rfl, by omega⟩, ?_⟩
    show ((n : Int) - ((i + 1 : Nat) : Int)).toNat < ((n : Int) - (i : Int)).toNat
    omega
  · have hin : i = n := by have : ¬ (i : Int) < (n : Int) := c1; omega
    subst hin
    have h1 := sle i
    refine growN_spec (by omega) ?_
    intro r9 h10 o9 l9 n9
    have htake : xs.take i = xs := List.take_of_length_le (by omega)
    refine LoopT.intro (fun (t : Sl × Int) hh => ∃ j : Nat, t.2 = (j : Int) ∧ j ≤ i ∧ Own h hh 1 t.1 (flatL (xs.take j)) ∧ t.1.len = sumL (xs.take j) ∧ Nw h hh) (fun t _ => ((i : Int) - t.2).toNat) ⟨0, rfl, by omega, o9, l9, n9⟩ ?_
    rintro ⟨r, t2⟩ h13 ⟨j, e2, hj, ow, rl, nw⟩
    simp only at e2
    subst e2
    refine cnd_dec (fun c2 => ?_) (fun c2 => ?_)
    · have hjn : j < xs.length := by have : (j : Int) < (i : Int) := c2; omega
      refine get nw hjn ?_
      obtain ⟨g1, g2, g3⟩ := hx xs[j] (List.getElem_mem hjn)
      refine Rv.rd (g1.keep0 nw) ?_
      have h3 := sle j
      have gl := g1.1
      replace rl : r.len = sumL (xs.take j) := rl
      refine ow.app nw rfl (by omega) g3 (by show (2 * (r.len + _) + 1024) * 16 ≤ _; omega) ?_
      intro a' c' h18 q1 q2 q3 q4
      refine ⟨⟨j + 1, ?_, by omega, ?_, ?_, q2⟩, ?_⟩
      · show w64 ((j : Int) + 1) = ((j + 1 : Nat) : Int); rw [w64_id (by omega) (by omega)]; push_cast; rfl
      · rw [tk j hjn, flatL_snoc]; exact q1
      · show r.len + _ = _; rw [tk j hjn, sumL_snoc, rl]
      · show ((i : Int) - w64 ((j : Int) + 1)).toNat < ((i : Int) - (j : Int)).toNat
        rw [w64_id (by omega) (by omega)]; omega
    · have hjn : j = i := by have : ¬ (j : Int) < (i : Int) := c2; omega
      subst hjn
      rw [htake] at ow rl
      exact hk r h13 ow rl nw
end Go.Proofs.Ytopnljjfpfnhfaa
