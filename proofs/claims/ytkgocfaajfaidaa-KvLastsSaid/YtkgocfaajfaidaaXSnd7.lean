/- Soundness of regions: in the listed order; in whatever order the tape draws. -/
import Derived.Test.YtkgocfaajfaidaaXSnd6
namespace Go.Proofs.Ytkgocfaajfaidaa.D
open Go
set_option linter.unusedVariables false
set_option linter.unusedSimpArgs false

theorem Agrees.put {n d : Nat} {env : Env} {a : Act} (h : Agrees n env a) (hd : d < n) (v : Value) : Agrees n ((d, v) :: env) (a.put (some d) v) := by
  refine ⟨by simpa [Act.put] using h.1, ?_⟩
  intro k u hk
  rw [look_cons] at hk
  by_cases e : d = k
  · subst e
    rw [if_pos rfl] at hk
    injection hk with hk; subst hk
    refine ⟨hd, ?_⟩
    simp only [Act.put, Array.getElem?_setIfInBounds, h.1, if_true, hd, if_pos]
  · rw [if_neg e] at hk
    obtain ⟨h1, h2⟩ := h.2 k u hk
    refine ⟨h1, ?_⟩
    simp only [Act.put]
    rw [Array.getElem?_setIfInBounds_ne e]; exact h2

/-- an entry that says what is known already -/
theorem Agrees.again {n d : Nat} {env : Env} {a : Act} {v : Value} (h : Agrees n env a) (hd : look d env = some v) : Agrees n ((d, v) :: env) a := by
  refine ⟨h.1, ?_⟩
  intro k u hk
  rw [look_cons] at hk
  by_cases e : d = k
  · subst e
    rw [if_pos rfl] at hk
    injection hk with hk; subst hk
    exact h.2 d _ hd
  · rw [if_neg e] at hk
    exact h.2 k u hk

theorem look_again {d : Nat} {env : Env} {v : Value} (hd : look d env = some v) (k : Nat) : look k ((d, v) :: env) = look k env := by
  rw [look_cons]
  by_cases e : d = k
  · subst e; rw [if_pos rfl, hd]
  · rw [if_neg e]

theorem putK_inv {n : Nat} {dst : Option Tmp} {v : Value} {env : Env} {K : Env → Prop} {a : Act} (ha : Agrees n env a) (h : putK n dst v env K) :
    ∃ env', K env' ∧ Agrees n env' (a.put dst v) ∧ (∀ d, dst ≠ some d → look d env' = look d env) ∧ (∀ d, dst = some d → look d env' = some v) := by
  unfold putK at h
  cases dst with
  | none => exact ⟨env, h, ha, fun _ _ => rfl, fun d hd => by cases hd⟩
  | some d =>
    simp only at h
    cases hb : Nat.blt d n with
    | false => simp [hb] at h
    | true =>
      simp only [hb] at h
      have hlt : d < n := by unfold Nat.blt at hb; exact Nat.le_of_ble_eq_true hb
      refine ⟨_, h, ha.put hlt v, ?_, ?_⟩
      · intro k hk
        rw [look_cons, if_neg (fun e => hk (by rw [e]))]
      · intro k hk
        injection hk with hk; subst hk
        rw [look_cons, if_pos rfl]

theorem put_defers' (a : Act) (dst : Option Tmp) (v : Value) : (a.put dst v).defers = a.defers := by cases dst <;> rfl

section
variable {P : Program} {F : List Nat}

/-- behind one operation -/
structure After (n : Nat) (o : Oper) (env : Env) (a : Act) (w : World) (K : Env → Heap → Prop) (a' : Act) (w' : World) : Prop where
  os : SameOs w w'
  defers : a'.defers = a.defers
  ex : ∃ env' v, a' = a.put o.dst v ∧ Agrees n env' a' ∧ K env' w'.heap ∧ (∀ d, o.dst ≠ some d → look d env' = look d env) ∧ (∀ d, o.dst = some d → look d env' = some v)

theorem opX_sound (hF : FnsOk P F) {n : Nat} {env : Env} {a : Act} {w : World} (ha : Agrees n env a) {o : Oper} {K : Env → Heap → Prop} (h : opX P F n o env w.heap K) (ro : Option Nat) (Q : Exit → Act → World → Prop) :
    o.wpIn (Wf ro) 0 P a w (After n o env a w K) Q := by
  unfold opX at h
  cases hq : isQuiet P o.op with
  | true =>
    simp only [hq] at h
    obtain ⟨u, h1, h2⟩ := qx_sound (P := P) (w := w) ha h
    obtain ⟨env', h3, h4, h5, h6⟩ := putK_inv ha h2
    refine wpIn_of (fun c e => by rw [e] at hq; cases hq) ?_
    rw [h1]
    exact ⟨.refl w, put_defers' _ _ _, env', u, rfl, h4, h3, h5, h6⟩
  | false =>
    simp only [hq] at h
    refine Oper.wpIn_mono ?_ (lx_sound hF ha h ro Q)
    rintro a' w' ⟨v, rfl, h1, h2⟩
    obtain ⟨env', h3, h4, h5, h6⟩ := putK_inv ha h2
    exact ⟨h1, put_defers' _ _ _, env', v, rfl, h4, h3, h5, h6⟩

theorem guardX_inv {n : Nat} {ops : Array Oper} {o : Oper} {env : Env} {a : Act} (ha : Agrees n env a) {yes no : Env → Prop} (h : guardX ops.toList o env yes no) :
    ∃ env', Agrees n env' a ∧ (∀ d, look d env' = look d env) ∧ ((Region.wanted o (yielded ops a.tmps) = true ∧ yes env') ∨ (Region.wanted o (yielded ops a.tmps) = false ∧ no env')) := by
  unfold guardX at h
  split at h
  · rename_i hg
    exact ⟨env, ha, fun _ => rfl, .inl ⟨by simp [Region.wanted, hg], h⟩⟩
  · rename_i j want hg
    split at h
    · rename_i g hgj
      have hgj' : ops[j]? = some g := by rw [← Array.getElem?_toList]; exact hgj
      split at h
      · rename_i d hd
        split at h
        · rename_i vs hl
          have hy : yielded ops a.tmps j = none := by
            simp [yielded, hgj', hd, (ha.2 _ _ hl).2]
          exact ⟨env, ha, fun _ => rfl, .inr ⟨by simp [Region.wanted, hg, hy], h⟩⟩
        · rename_i b hl
          have hy : yielded ops a.tmps j = some b := by
            simp [yielded, hgj', hd, (ha.2 _ _ hl).2]
          cases want with
          | true =>
            rcases cnd_inv h with ⟨rfl, h1⟩ | ⟨rfl, h1⟩
            · exact ⟨_, ha.again hl, look_again hl, .inl ⟨by simp [Region.wanted, hg, hy], h1⟩⟩
            · exact ⟨_, ha.again hl, look_again hl, .inr ⟨by simp [Region.wanted, hg, hy], h1⟩⟩
          | false =>
            rcases cnd_inv h with ⟨rfl, h1⟩ | ⟨rfl, h1⟩
            · exact ⟨_, ha.again hl, look_again hl, .inr ⟨by simp [Region.wanted, hg, hy], h1⟩⟩
            · exact ⟨_, ha.again hl, look_again hl, .inl ⟨by simp [Region.wanted, hg, hy], h1⟩⟩
        · exact h.elim
      · exact h.elim
    · exact h.elim

theorem memN_iff {d : Nat} : ∀ {l : List Nat}, memN d l = true ↔ d ∈ l
  | [] => by simp [memN]
  | k :: r => by
    unfold memN
    cases hb : Nat.beq k d with
    | true => have := Nat.eq_of_beq_eq_true hb; simp [this]
    | false =>
      have : k ≠ d := fun e => by rw [e] at hb; simp at hb
      simp only [List.mem_cons]
      rw [memN_iff (l := r)]
      constructor
      · exact .inr
      · rintro (h | h)
        · exact absurd h.symm this
        · exact h

/-- what a piece of code leaves: 'ws': the slots that it may have written -/
structure Left (n : Nat) (ws : List Nat) (env : Env) (a : Act) (w : World) (K : Env → Heap → Prop) (a' : Act) (w' : World) : Prop where
  os : SameOs w w'
  defers : a'.defers = a.defers
  ex : ∃ env', Agrees n env' a' ∧ K env' w'.heap ∧ (∀ d, d ∉ ws → look d env' = look d env)

def dstsOf (ops : List Oper) : List Nat := ops.filterMap (·.dst)

theorem regX_sound (hF : FnsOk P F) (ro : Option Nat) {n : Nat} {ops : Array Oper} {Q : Exit → Act → World → Prop} : ∀ (rest : List Oper) (k : Nat) (env : Env) (a : Act) (w : World) (K : Env → Heap → Prop),
    ops.toList.drop k = rest → Agrees n env a → regX P F n ops.toList rest env w.heap K → (∀ a' w', Left n (dstsOf ops.toList) env a w K a' w' → Q .normal a' w') →
    wpOpsIn (Wf ro) 0 P ops Q (List.range' k rest.length) a w
  | [], k, env, a, w, K, hd, ha, h, hQ => by
    simp only [List.length_nil, List.range'_zero, wpOpsIn]
    exact hQ a w ⟨.refl w, rfl, env, ha, h, fun _ _ => rfl⟩
  | o :: r, k, env, a, w, K, hd, ha, h, hQ => by
    have hok : ops[k]? = some o := by
      rw [← Array.getElem?_toList]
      have := congrArg (fun l => l[0]?) hd
      simpa using this
    have hmem : o ∈ ops.toList := List.mem_of_mem_drop (by rw [hd]; simp : o ∈ ops.toList.drop k)
    have hdr : ops.toList.drop (k + 1) = r := by
      have := congrArg List.tail hd
      simpa [List.tail_drop] using this
    have hdst : ∀ d, d ∉ dstsOf ops.toList → o.dst ≠ some d := fun d hd1 hd2 => hd1 (List.mem_filterMap.2 ⟨o, hmem, hd2⟩)
    simp only [List.length_cons, List.range'_succ]
    rw [wpOpsIn_cons]
    unfold wpOpIn
    simp only [hok]
    unfold regX at h
    obtain ⟨env1, ha1, hl1, hg⟩ := guardX_inv ha h
    rcases hg with ⟨hw, hg⟩ | ⟨hw, hg⟩
    · rw [if_pos hw]
      refine Oper.wpIn_mono ?_ (opX_sound hF ha1 hg ro Q)
      rintro a' w' ⟨hos, hdf, env2, v, rfl, ha2, hk, hl2, _⟩
      refine regX_sound hF ro r (k + 1) env2 _ w' K hdr ha2 hk ?_
      rintro a3 w3 ⟨hos3, hdf3, env3, ha3, hk3, hl3⟩
      exact hQ a3 w3 ⟨hos.trans hos3, hdf3.trans hdf, env3, ha3, hk3, fun d hd => (hl3 d hd).trans ((hl2 d (hdst d hd)).trans (hl1 d))⟩
    · rw [if_neg (by simp [hw])]
      obtain ⟨env2, h2, ha2, hl2, _⟩ := putK_inv ha1 hg
      refine ⟨fun _ _ => trivial, ?_⟩
      refine regX_sound hF ro r (k + 1) env2 _ w K hdr ha2 h2 ?_
      rintro a3 w3 ⟨hos3, hdf3, env3, ha3, hk3, hl3⟩
      exact hQ a3 w3 ⟨hos3, hdf3.trans (put_defers' _ _ _), env3, ha3, hk3, fun d hd => (hl3 d hd).trans ((hl2 d (hdst d hd)).trans (hl1 d))⟩

end
end Go.Proofs.Ytkgocfaajfaidaa.D
