/- sort.Search; in which son a key lies; slices.Clone. -/
import Derived.Test.YtopnljjfpfnhfaaPSlc
namespace Go.Proofs.Ytopnljjfpfnhfaa
open Go D
set_option linter.unusedVariables false
set_option linter.unusedSimpArgs false

theorem search_spec {h : Heap} {n : Nat} {v : Value} {p : Nat → Bool} (hn : n ≤ 1000000000) (hf : ∀ i, i < n → ∀ K : Bool → Heap → Prop, K (p i) h → callY Try.prog v [.int .i64 (i : Int)] h K) {m : Nat} (hm : m ≤ n)
    (h1 : ∀ i, i < m → p i = false) (h2 : ∀ i, m ≤ i → i < n → p i = true) {R : Int → Heap → Prop} (hk : R (m : Int) h) : CallT Try.prog sort_Search_no [.int .i64 (n : Int), v] h [.sc (.int .i64)] R := by
  apply sort_Search_call
  unfold sort_Search
  refine LoopT.intro (fun (t : Int × Int) h' => h' = h ∧ ∃ i j : Nat, t = ((i : Int), (j : Int)) ∧ i ≤ m ∧ m ≤ j ∧ j ≤ n) (fun t _ => (t.2 - t.1).toNat) ⟨rfl, 0, n, rfl, by omega, hm, Nat.le_refl _⟩ ?_
  rintro _ h' ⟨e1, i, j, rfl, a1, a2, a3⟩
  have e1' := e1.symm
  subst e1'
  refine cnd_dec (fun c1 => ?_) (fun c1 => ?_)
  · have hij : i < j := by simpa using c1
    show callY Try.prog v [.int .i64 _] _ _
    rw [mid_is hij (by omega)]
    refine hf _ (by omega) _ ?_
    rcases Nat.lt_or_ge ((i + j) / 2) m with hlt | hge
    · rw [h1 _ hlt]
      refine cnd_t rfl ?_
      rw [w64_id (by omega) (by omega)]
      refine ⟨⟨rfl, (i + j) / 2 + 1, j, by push_cast; rfl, by omega, a2, a3⟩, ?_⟩
      show ((j : Int) - (((i + j) / 2 : Nat) + 1)).toNat < ((j : Int) - i).toNat
      omega
    · rw [h2 _ hge (by omega)]
      refine cnd_f rfl ?_
      refine ⟨⟨rfl, i, (i + j) / 2, rfl, a1, hge, by omega⟩, ?_⟩
      show ((((i + j) / 2 : Nat) : Int) - i).toNat < ((j : Int) - i).toNat
      omega
  · have hij : i = m := by have : ¬ (i : Int) < (j : Int) := c1; omega
    subst hij
    exact hk

/-- how many are not above k -/
def upto (k : Key) : List Key → Nat
  | [] => 0
  | a :: r => if klt k a then 0 else upto k r + 1
theorem upto_le (k : Key) : ∀ l : List Key, upto k l ≤ l.length
  | [] => Nat.le_refl _
  | a :: r => by
    unfold upto
    split
    · simp
    · have := upto_le k r; simp; omega
theorem upto_lt {k : Key} : ∀ {l : List Key} {i : Nat} {x : Key}, i < upto k l → l[i]? = some x → ¬ klt k x
  | a :: r, i, x, hi, hx => by
    unfold upto at hi
    split at hi
    · omega
    · rename_i h
      cases i with
      | zero => simp at hx; subst hx; exact h
      | succ i => exact upto_lt (l := r) (i := i) (by omega) (by simpa using hx)
theorem upto_ge {k : Key} : ∀ {l : List Key}, Asc l → ∀ {i : Nat} {x : Key}, upto k l ≤ i → l[i]? = some x → klt k x
  | a :: r, hs, i, x, hi, hx => by
    unfold upto at hi
    split at hi
    · rename_i h
      cases i with
      | zero => simp at hx; subst hx; exact h
      | succ i => exact klt_trans h (hs.1 x (List.mem_of_getElem? (by simpa using hx)))
    · cases i with
      | zero => omega
      | succ i => exact upto_ge hs.2 (i := i) (by omega) (by simpa using hx)

theorem at_spec {h : Heap} {x : Addr} {a : Option Addr} {l c : Nat} {ks : List Key} {k : Key} (hc : cellH h x = some (.slice a l c)) (hs : Rv h a l (keysV ks)) (ha : Asc ks) (hl : l ≤ 1000000000) {R : Int → Heap → Prop}
    (hk : ∀ h', Nw h h' → R ((upto k ks : Nat) : Int) h') : CallT Try.prog btree_inner_at_no [.pointer (some x), .string k] h [.sc (.int .i64)] R := by
  apply btree_inner_at_call
  unfold btree_inner_at
  refine newB_row ?_
  intro h1 s1 r1 k1
  refine newB_row ?_
  intro h2 s2 r2 k2
  have R1 := k2.row r1 (fun h => h)
  have K2 : Nw h h2 := k1.trans' k2
  refine ldP_row (o := 0) R1 rfl ?_
  have cell2 := K2.cell hc (fun h => h)
  refine ldL_at cell2 ?_
  have rv2 := hs.keep0 K2
  have len : l = ks.length := by have := hs.1; rwa [List.length_map] at this
  refine search_spec (p := fun i => match ks[i]? with | some y => decide (klt k y) | none => false) hl ?_ (m := upto k ks) (by rw [len]; exact upto_le k ks) ?_ ?_ (hk _ K2)
  · intro i hi K hK
    refine .inl ⟨36, #[], _, rfl, by kernel_rfl, by kernel_rfl, ?_⟩
    have hcall := btree_inner_at_1_call (i : Int) (some ⟨h.size, 0, none⟩) (some ⟨h1.size, 0, none⟩) (R := K) (h := h2)
    apply hcall
    unfold btree_inner_at_1
    refine ldP_row (o := 0) R1 rfl ?_
    refine ldL_at cell2 ?_
    have hi2 : i < ks.length := by omega
    refine Rv.at rv2 (by omega) (by omega) (v := .string ks[i]) (by rw [Int.toNat_natCast, List.getElem?_map, List.getElem?_eq_getElem hi2]; rfl) ?_
    intro y hy
    refine ⟨_, hy, ?_⟩
    refine ldS_row (o := 0) r2 rfl ?_
    rw [List.getElem?_eq_getElem hi2] at hK
    have e : (!(slt ks[i] k || seq ks[i] k)) = decide (klt k ks[i]) := by
      rw [slt_dec, seq_dec, Bool.eq_iff_iff]
      simp only [Bool.not_eq_true', Bool.or_eq_false_iff, decide_eq_false_iff_not, decide_eq_true_eq]
      constructor
      · rintro ⟨q1, q2⟩
        by_cases q3 : klt k ks[i]
        · exact q3
        · exact absurd (klt_tri q1 q3) q2
      · intro q
        exact ⟨klt_asymm q, fun e => by rw [e] at q; exact klt_irrefl _ q⟩
    rw [e]; exact hK
  · intro i hi
    cases hx : ks[i]? with
    | none => rfl
    | some y => exact decide_eq_false (upto_lt hi hx)
  · intro i hi hn
    rw [List.getElem?_eq_getElem (by omega)]
    exact decide_eq_true (upto_ge ha hi (List.getElem?_eq_getElem (by omega)))
end Go.Proofs.Ytopnljjfpfnhfaa
