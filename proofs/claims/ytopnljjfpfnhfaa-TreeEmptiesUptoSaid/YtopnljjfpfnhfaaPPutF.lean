/- What put comes to, on the model. -/
import Derived.Test.YtopnljjfpfnhfaaPTr
namespace Go.Proofs.Ytopnljjfpfnhfaa
open Go D
set_option linter.unusedVariables false
set_option linter.unusedSimpArgs false

/-- a leaf with a pair, whole -/
def leafF (t : List KV) (k v : Key) : List KV × Bool :=
  let m := below k (t.map (·.1))
  if (t.map (·.1))[m]? = some k then (t.set m (k, v), false) else (insL t m (k, v), true)
/-- in two, where it is too long -/
def cutF (t : List KV) : T 0 × Option (Key × T 0) :=
  if t.length ≤ 8 then (t, none) else (t.take (t.length / 2), some ((t[t.length / 2]?.map (·.1)).getD ⟨#[]⟩, t.drop (t.length / 2)))
def cutN {n : Nat} (ks : List Key) (ss : List (T n)) : T (n + 1) × Option (Key × T (n + 1)) :=
  if ss.length ≤ 8 then ((ks, ss), none) else ((ks.take (ss.length / 2 - 1), ss.take (ss.length / 2)), some ((ks[ss.length / 2 - 1]?).getD ⟨#[]⟩, (ks.drop (ss.length / 2), ss.drop (ss.length / 2))))
def putF (k v : Key) : (n : Nat) → T n → (T n × Option (Key × T n)) × Bool
  | 0, t => if (leafF t k v).2 then (cutF (leafF t k v).1, true) else (((leafF t k v).1, none), false)
  | n + 1, t => match t.2[upto k t.1]? with
    | none => ((t, none), false)
    | some s => match putF k v n s with
      | ((a, none), more) => (((t.1, t.2.set (upto k t.1) a), none), more)
      | ((a, some (m, b)), more) => (cutN (insL t.1 (upto k t.1) m) (insL (t.2.set (upto k t.1) a) (upto k t.1 + 1) b), more)

/-- pairs with one more, or with another value -/
def insKV (k v : Key) : List KV → List KV
  | [] => [(k, v)]
  | (a, x) :: r => if klt a k then (a, x) :: insKV k v r else if a = k then (k, v) :: r else (k, v) :: (a, x) :: r
theorem leafF_ins (k v : Key) : ∀ t : List KV, (leafF t k v).1 = insKV k v t
  | [] => rfl
  | (a, x) :: r => by
    have ih := leafF_ins k v r
    unfold leafF at ih ⊢
    unfold insKV
    simp only [List.map_cons, below]
    by_cases h : klt a k
    · rw [if_pos h, if_pos h, ← ih]
      simp only [List.getElem?_cons_succ]
      by_cases h2 : (r.map (·.1))[below k (r.map (·.1))]? = some k
      · rw [if_pos h2, if_pos h2]; rfl
      · rw [if_neg h2, if_neg h2]; rfl
    · rw [if_neg h, if_neg h]
      simp only [List.getElem?_cons_zero, Option.some.injEq]
      by_cases h2 : a = k
      · rw [if_pos h2, if_pos h2]; rfl
      · rw [if_neg h2, if_neg h2]; rfl
theorem cutF_prs (t : List KV) : prs 0 (cutF t).1 ++ (match (cutF t).2 with | none => [] | some q => prs 0 q.2) = t := by
  unfold cutF
  split
  · exact List.append_nil _
  · exact List.take_append_drop _ _
end Go.Proofs.Ytopnljjfpfnhfaa
