/- shape: the leaves below a row, first, between. -/
import Derived.Test.YtopnljjfpfnhfaaPLawC
namespace Go.Proofs.Ytopnljjfpfnhfaa
open Go D
set_option linter.unusedVariables false
set_option linter.unusedSimpArgs false

/-- the leaves below a row -/
def leavesOf : (n : Nat) → List (T n) → List (T 0)
  | 0, row => row
  | n + 1, row => leavesOf n (sonsOf row)
theorem sons_app {n : Nat} (a b : List (T (n + 1))) : sonsOf (a ++ b) = sonsOf a ++ sonsOf b := by unfold sonsOf; simp
theorem leaves_app : ∀ {n : Nat} (a b : List (T n)), leavesOf n (a ++ b) = leavesOf n a ++ leavesOf n b
  | 0, _, _ => rfl
  | n + 1, a, b => by
    show leavesOf n (sonsOf (a ++ b)) = _
    rw [sons_app, leaves_app]; rfl
theorem leaves_nil : ∀ (n : Nat), leavesOf n [] = []
  | 0 => rfl
  | n + 1 => leaves_nil n
theorem sons_one {n : Nat} (t : T (n + 1)) : sonsOf [t] = t.2 := by unfold sonsOf; simp
theorem leaves_mem {n : Nat} {u : T 0} : ∀ {row : List (T n)}, u ∈ leavesOf n row → ∃ s ∈ row, u ∈ leavesOf n [s]
  | [], h => by rw [leaves_nil] at h; cases h
  | s :: row, h => by
    have e : leavesOf n (s :: row) = leavesOf n [s] ++ leavesOf n row := leaves_app [s] row
    rw [e] at h
    rcases List.mem_append.1 h with h | h
    · exact ⟨s, by simp, h⟩
    · obtain ⟨s', h1, h2⟩ := leaves_mem h
      exact ⟨s', by simp [h1], h2⟩
theorem leaf_flat {lo : Nat} {u : T 0} {p : KV} (hp : p ∈ prs 0 u) : ∀ {n : Nat} {s : T n}, Okn lo n s → u ∈ leavesOf n [s] → (false, p.1) ∈ flat n s
  | 0, s, _, h => by
    have e : u = s := by simpa [leavesOf] using h
    subst e
    exact List.mem_map.2 ⟨p, hp, rfl⟩
  | n + 1, s, ok, h => by
    have h' : u ∈ leavesOf n s.2 := by
      have : leavesOf (n + 1) [s] = leavesOf n (sonsOf [s]) := rfl
      rw [this, sons_one] at h; exact h
    obtain ⟨s', h1, h2⟩ := leaves_mem h'
    have ih := leaf_flat hp (ok.2.2.2 s' h1) h2
    obtain ⟨i, hi, rfl⟩ := List.mem_iff_getElem.1 h1
    rw [flat_self (i := i) ok.1 (by have := ok.1; omega)]
    exact List.mem_append.2 (.inr (List.mem_append.2 (.inl ih)))
theorem leaves_prs : ∀ {n : Nat} (row : List (T n)), ((leavesOf n row).map (prs 0)).flatten = (row.map (prs n)).flatten
  | 0, row => rfl
  | n + 1, row => by
    show ((leavesOf n (sonsOf row)).map (prs 0)).flatten = _
    rw [leaves_prs (sonsOf row)]
    induction row with
    | nil => rfl
    | cons t row ih =>
      have e : sonsOf (t :: row) = t.2 ++ sonsOf row := by
        have := sons_app [t] row
        rw [sons_one] at this; exact this
      rw [e, List.map_append, List.flatten_append, ih]
      rfl
/-- the last level -/
theorem lev_last : ∀ {n : Nat} (row : List (T n)), (levF n row)[n]? = some ((leavesOf n row).map (keysOf 0))
  | 0, row => rfl
  | n + 1, row => by
    show (row.map _ :: levF n (sonsOf row))[n + 1]? = _
    rw [List.getElem?_cons_succ, lev_last]; rfl
theorem lev_len : ∀ {n : Nat} (row : List (T n)), (levF n row).length = n + 1
  | 0, row => rfl
  | n + 1, row => by
    show (row.map _ :: levF n (sonsOf row)).length = _
    rw [List.length_cons, lev_len]
theorem lev_head {n : Nat} (row : List (T n)) : (levF n row)[0]? = some (row.map (keysOf n)) := by cases n <;> rfl

def firstF (ls : List (List Key)) (a : Nat) : Nat := ((ls.take a).map fun k => k.length + 1).sum
theorem first_succ {ls : List (List Key)} {a : Nat} (h : a < ls.length) : firstF ls (a + 1) = firstF ls a + (ls[a].length + 1) := by
  unfold firstF
  rw [List.take_succ_eq_append_getElem h]
  simp only [List.map_append, List.map_cons, List.map_nil, List.sum_append, List.sum_cons, List.sum_nil, Nat.add_zero]
theorem first_all {ls : List (List Key)} {a : Nat} (h : ls.length ≤ a) : firstF ls a = firstF ls ls.length := by
  unfold firstF; rw [List.take_of_length_le h, List.take_length]
theorem first_le {ls : List (List Key)} (h8 : ∀ k ∈ ls, k.length ≤ 8) (a : Nat) : firstF ls a ≤ 9 * ls.length := by
  unfold firstF
  have : ∀ l : List (List Key), (∀ k ∈ l, k.length ≤ 8) → (l.map fun k => k.length + 1).sum ≤ 9 * l.length := by
    intro l
    induction l with
    | nil => intro _; simp
    | cons a l ih =>
      intro h
      have i1 := ih (fun k hk => h k (by simp [hk]))
      have i2 := h a (by simp)
      simp only [List.map_cons, List.sum_cons, List.length_cons]; omega
  have h1 := this (ls.take a) (fun k hk => h8 k (List.mem_of_mem_take hk))
  have h2 : (ls.take a).length ≤ ls.length := by rw [List.length_take]; omega
  omega
/-- what a level's slice holds -/
theorem Kss.at {h : Heap} {D : Nat → Prop} {a : Option Addr} {l : Nat} {us : List Value} {ls : List (List Key)} (hr : Rv h a l us) (hk : Kss h D us ls) {i : Nat} (hi : i < ls.length) {K : Option Addr → Nat → Nat → Prop} (hK : ∀ a' c', Rv h a' ls[i].length (keysV ls[i]) → K a' ls[i].length c') :
    idx a l (i : Int) fun x => ldL (x.add ((i : Int).toNat * 1)) h K := by
  have l1 := hr.1
  have l2 := hk.1
  obtain ⟨a', l', c', e, r, _⟩ := hk.2 i (us[i]'(by omega)) _ (List.getElem?_eq_getElem (by omega)) (List.getElem?_eq_getElem hi)
  refine hr.at (by omega) (by omega) (v := us[i]'(by omega)) (by rw [Int.toNat_natCast, List.getElem?_eq_getElem (by omega)]) ?_
  intro x hx
  rw [e] at hx
  have l3 := r.1
  rw [List.length_map] at l3
  subst l3
  exact ldL_at hx (hK a' c' r)
theorem Ksss.at {h : Heap} {D : Nat → Prop} {a : Option Addr} {l : Nat} {us : List Value} {ls : List (List (List Key))} (hr : Rv h a l us) (hk : Ksss h D us ls) {i : Nat} (hi : i < ls.length) {K : Option Addr → Nat → Nat → Prop} (hK : ∀ a' c' us', Rv h a' ls[i].length us' → Kss h D us' ls[i] → K a' ls[i].length c') :
    idx a l (i : Int) fun x => ldL (x.add ((i : Int).toNat * 1)) h K := by
  have l1 := hr.1
  have l2 := hk.1
  obtain ⟨a', l', c', us', e, r, _, k⟩ := hk.2 i (us[i]'(by omega)) _ (List.getElem?_eq_getElem (by omega)) (List.getElem?_eq_getElem hi)
  refine hr.at (by omega) (by omega) (v := us[i]'(by omega)) (by rw [Int.toNat_natCast, List.getElem?_eq_getElem (by omega)]) ?_
  intro x hx
  rw [e] at hx
  have l3 := r.1
  have l4 := k.1
  have l5 : l' = ls[i].length := by omega
  subst l5
  exact ldL_at hx (hK a' c' us' r k)

theorem first_spec {h : Heap} {D : Nat → Prop} {a : Option Addr} {l c : Nat} {us : List Value} {ls : List (List Key)} {at1 : Nat} (hr : Rv h a l us) (hk : Kss h D us ls) (h8 : ∀ k ∈ ls, k.length ≤ 8) (hl : ls.length ≤ 10000000) (hat : at1 ≤ 100000000) {R : Int → Heap → Prop} (hK : R ((firstF ls at1 : Nat) : Int) h) :
    CallT Try.prog law8_first_no [.slice a l c, .int .i64 (at1 : Int)] h [.sc (.int .i64)] R := by
  have hcall := law8_first_call ⟨a, l, c⟩ (at1 : Int) (R := R) (h := h)
  apply hcall
  unfold law8_first
  have l1 := hr.1
  have l2 := hk.1
  refine LoopT.intro (fun (s : Int × Int) h' => h' = h ∧ ∃ i : Nat, s = (((firstF ls i : Nat) : Int), (i : Int)) ∧ i ≤ at1 ∧ i ≤ ls.length) (fun s _ => ((ls.length : Int) - s.2).toNat) ⟨rfl, 0, rfl, Nat.zero_le _, Nat.zero_le _⟩ ?_
  rintro _ h' ⟨rfl, i, rfl, hi, hi2⟩
  have fl := first_le h8 i
  refine withJ.inl ?_
  refine cnd_dec (fun c1 => ?_) (fun c1 => ?_)
  · have hi1 : i < at1 := by have : (i : Int) < (at1 : Int) := c1; omega
    refine cnd_dec (fun c2 => ?_) (fun c2 => ?_)
    · have hil : i < ls.length := by have : (i : Int) < (l : Int) := c2; omega
      refine Kss.at hr hk hil ?_
      intro a' c' r
      have b8 := h8 _ (List.getElem_mem hil)
      have w0 : w64 (((firstF ls i : Nat) : Int) + ((ls[i].length : Nat) : Int)) = ((firstF ls i + ls[i].length : Nat) : Int) := by rw [w64_id (by omega) (by omega)]; push_cast; rfl
      have w1 : w64 (((firstF ls i + ls[i].length : Nat) : Int) + 1) = ((firstF ls (i + 1) : Nat) : Int) := by rw [first_succ hil, w64_id (by omega) (by omega)]; push_cast; omega
      have w2 : w64 ((i : Int) + 1) = ((i + 1 : Nat) : Int) := by rw [w64_id (by omega) (by omega)]; push_cast; rfl
      refine ⟨⟨rfl, i + 1, ?_, by omega, by omega⟩, ?_⟩
      · show (w64 (w64 (((firstF ls i : Nat) : Int) + ((ls[i].length : Nat) : Int)) + 1), w64 ((i : Int) + 1)) = _
        rw [w0, w1, w2]
      · show ((ls.length : Int) - w64 ((i : Int) + 1)).toNat < ((ls.length : Int) - (i : Int)).toNat
        rw [w2]; omega
    · have hil : i = ls.length := by have : ¬ (i : Int) < (l : Int) := c2; omega
      have e : firstF ls at1 = firstF ls i := by rw [hil]; exact first_all (by omega)
      rw [e] at hK
      exact hK
  · have hi1 : i = at1 := by have : ¬ (i : Int) < (at1 : Int) := c1; omega
    subst hi1
    exact hK

/-- a row's nodes have keys and sons as they must -/
def Wf : (n : Nat) → List (T n) → Prop
  | 0, row => row.length ≤ 1000000 ∧ ∀ t ∈ row, List.length t ≤ 8
  | n + 1, row => row.length ≤ 1000000 ∧ (∀ t ∈ row, t.1.length ≤ 8 ∧ t.2.length = t.1.length + 1) ∧ Wf n (sonsOf row)
theorem Wf.len : ∀ {n : Nat} {row : List (T n)}, Wf n row → row.length ≤ 1000000
  | 0, _, h => h.1
  | _ + 1, _, h => h.1
theorem Wf.k8 : ∀ {n : Nat} {row : List (T n)}, Wf n row → ∀ k ∈ row.map (keysOf n), k.length ≤ 8
  | 0, row, h, k, hk => by
    obtain ⟨t, ht, rfl⟩ := List.mem_map.1 hk
    exact Nat.le_trans (Nat.le_of_eq (List.length_map _)) (h.2 t ht)
  | _ + 1, row, h, k, hk => by
    obtain ⟨t, ht, rfl⟩ := List.mem_map.1 hk
    exact (h.2.1 t ht).1
theorem sons_len {n : Nat} : ∀ {row : List (T (n + 1))}, (∀ t ∈ row, t.2.length = t.1.length + 1) → ∀ a, (sonsOf (row.take a)).length = firstF (row.map (keysOf (n + 1))) a := by
  intro row hw a
  have : ∀ (l : List (T (n + 1))), (∀ t ∈ l, t.2.length = t.1.length + 1) → (sonsOf l).length = ((l.map (keysOf (n + 1))).map fun k => k.length + 1).sum := by
    intro l
    induction l with
    | nil => intro _; rfl
    | cons t l ih =>
      intro h
      have i1 := ih (fun t ht => h t (by simp [ht]))
      have i2 := h t (by simp)
      have e : sonsOf (t :: l) = t.2 ++ sonsOf l := by
        have := sons_app [t] l
        rw [sons_one] at this; exact this
      rw [e, List.length_append, i1, List.map_cons, List.map_cons, List.sum_cons, i2]; rfl
  unfold firstF
  rw [this _ (fun t ht => hw t (List.mem_of_mem_take ht)), List.map_take]
end Go.Proofs.Ytopnljjfpfnhfaa
