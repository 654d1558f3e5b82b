/- slices.BinarySearch, sort.Search for inner.at, slices.Clone, .. -/
import Derived.Test.YtopnljjfpfnhfaaPKey
import Derived.Test.YtopnljjfpfnhfaaPNew
import Derived.Test.YtopnljjfpfnhfaaPRng
import Derived.Test.YtopnljjfpfnhfaaGTree
namespace Go.Proofs.Ytopnljjfpfnhfaa
open Go D
set_option linter.unusedVariables false
set_option linter.unusedSimpArgs false

abbrev keysV (l : List Key) : List Value := l.map Value.string

theorem cisNaN_spec {h : Heap} {s : ByteArray} {R : Bool → Heap → Prop} (hk : R false h) : CallT Try.prog cmp_isNaN_string_no [.string s] h [.sc .bool] R := by
  apply cmp_isNaN_string_call
  unfold cmp_isNaN_string
  rw [seq_self]; exact hk
theorem sisNaN_spec {h : Heap} {s : ByteArray} {R : Bool → Heap → Prop} (hk : R false h) : CallT Try.prog slices_isNaN_string_no [.string s] h [.sc .bool] R := by
  apply slices_isNaN_string_call
  unfold slices_isNaN_string
  rw [seq_self]; exact hk
theorem less_spec {h : Heap} {s t : ByteArray} {R : Bool → Heap → Prop} (hk : R (decide (klt s t)) h) : CallT Try.prog cmp_Less_string_no [.string s, .string t] h [.sc .bool] R := by
  apply cmp_Less_string_call
  unfold cmp_Less_string
  refine withJ.inl (cisNaN_spec (cnd_f rfl ?_))
  rw [slt_dec]; exact hk

/-- where k stands among rising keys, and whether it is there -/
theorem bsearch_spec {h : Heap} {a : Option Addr} {l c : Nat} {ks : List Key} {k : Key} (hs : Rv h a l (keysV ks)) (ha : Asc ks) (hl : l ≤ 1000000000) {R : Int × Bool → Heap → Prop}
    (hk : R (((below k ks : Nat) : Int), decide (ks[below k ks]? = some k)) h) : CallT Try.prog slices_BinarySearch_string_no [.slice a l c, .string k] h [.sc (.int .i64), .sc .bool] R := by
  have hcall := slices_BinarySearch_string_call ⟨a, l, c⟩ k (R := R) (h := h)
  apply hcall
  unfold slices_BinarySearch_string
  have len : l = ks.length := by have := hs.1; rwa [List.length_map] at this
  have get : ∀ {n : Nat} {K : ByteArray → Prop}, n < l → (∀ x, ks[n]? = some x → K x) → idx a l (n : Int) fun y => ldS (y.add ((n : Int).toNat * 1)) h K := by
    intro n K hn hK
    have hn2 : n < ks.length := by omega
    refine Rv.at hs (by omega) (by omega) (v := .string ks[n]) (by rw [Int.toNat_natCast, List.getElem?_map, List.getElem?_eq_getElem hn2]; rfl) ?_
    intro x hx
    exact ⟨_, hx, hK _ (List.getElem?_eq_getElem hn2)⟩
  refine LoopT.intro (fun (t : Int × Int) h' => h' = h ∧ ∃ i j : Nat, t = ((i : Int), (j : Int)) ∧ i ≤ j ∧ j ≤ l ∧ (∀ (n : Nat) x, n < i → ks[n]? = some x → klt x k) ∧ (∀ (n : Nat) x, j ≤ n → ks[n]? = some x → ¬ klt x k)) (fun t _ => (t.2 - t.1).toNat)
    ⟨rfl, 0, l, rfl, by omega, Nat.le_refl _, fun n x hn => by omega, fun n x hn hx => by have := (List.getElem?_eq_some_iff.1 hx).1; omega⟩ ?_
  rintro _ h' ⟨e1, i, j, rfl, h1, h2, h3, h4⟩
  have e1' := e1.symm
  subst e1'
  refine cnd_dec (fun c1 => ?_) (fun c1 => ?_)
  · have hij : i < j := by simpa using c1
    show idx a l _ fun a4 => _
    rw [mid_is hij (by omega)]
    refine get (by omega) (fun x hx => ?_)
    refine less_spec ?_
    refine cnd_dec (fun c2 => ?_) (fun c2 => ?_)
    · rw [w64_id (by omega) (by omega)]
      refine ⟨⟨rfl, (i + j) / 2 + 1, j, by push_cast; rfl, by omega, h2, fun n y hn hy => ?_, h4⟩, ?_⟩
      · rcases Nat.lt_or_ge n ((i + j) / 2) with hlt | hge
        · have hasc : klt y x := asc_get ha hlt hy hx
          exact klt_trans hasc c2
        · have : n = (i + j) / 2 := by omega
          subst this
          rw [hx] at hy; injection hy with hy; subst hy; exact c2
      · show ((j : Int) - (((i + j) / 2 : Nat) + 1)).toNat < ((j : Int) - i).toNat
        omega
    · refine ⟨⟨rfl, i, (i + j) / 2, rfl, by omega, by omega, h3, fun n y hn hy => ?_⟩, ?_⟩
      · rcases Nat.lt_or_ge ((i + j) / 2) n with hlt | hge
        · have hasc : klt x y := asc_get ha hlt hx hy
          exact fun hyk => c2 (klt_trans hasc hyk)
        · have : n = (i + j) / 2 := by omega
          subst this
          rw [hx] at hy; injection hy with hy; subst hy; exact c2
      · show ((((i + j) / 2 : Nat) : Int) - i).toNat < ((j : Int) - i).toNat
        omega
  · have hij : i = j := by have : ¬ (i : Int) < (j : Int) := c1; omega
    subst hij
    have hb : below k ks = i := below_is (by omega) h3 (fun x hx => h4 i x (Nat.le_refl _) hx)
    rw [hb] at hk
    refine withJ.inl ?_
    refine cnd_dec (fun c2 => ?_) (fun c2 => ?_)
    · have hi : i < l := by have : (i : Int) < (l : Int) := c2; omega
      refine get hi (fun x hx => ?_)
      rw [hx] at hk
      rw [seq_dec]
      refine cnd_dec (fun c3 => ?_) (fun c3 => ?_)
      · subst c3; simpa using hk
      · refine get hi (fun y hy => ?_)
        refine sisNaN_spec (cnd_f rfl ?_)
        have : decide (some x = some k) = false := decide_eq_false (fun e => c3 (by injection e))
        rw [this] at hk; exact hk
    · have hi : ¬ i < l := fun hh => c2 (by show (i : Int) < (l : Int); omega)
      rw [List.getElem?_eq_none (by omega)] at hk
      simpa using hk
end Go.Proofs.Ytopnljjfpfnhfaa
