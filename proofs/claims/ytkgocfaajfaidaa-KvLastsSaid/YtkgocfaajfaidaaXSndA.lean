/- What a piece of code leaves; rules of loops and scopes. -/
import Derived.Test.YtkgocfaajfaidaaXSnd9
import Derived.Scope
import Derived.RangeFuncLeaves
import Derived.RangeFuncRecord
namespace Go.Proofs.Ytkgocfaajfaidaa.D
open Go
set_option linter.unusedVariables false
set_option linter.unusedSimpArgs false

theorem Sc.get_mk {s : Sc} {v : Value} {x : s.T} (h : s.get v = some x) : v = s.mk x := by
  cases s <;> cases v <;> simp only [Sc.get] at h <;> first | cases h | skip
  case int.int k k' n =>
    cases hk : kEq k k' with
    | false => simp [hk] at h
    | true => simp only [hk] at h; injection h with h; subst h; rw [kEq_eq hk]; rfl
  all_goals first
    | rfl
    | (injection h with h; subst h; rfl)

theorem getS_mk : ∀ {l : List Sc} {vs : List Value} {s : TupS l}, getS l vs = some s → vs = mkS l s
  | [], [], _, _ => rfl
  | [], _ :: _, _, h => by simp [getS] at h
  | [a], [v], s, h => by simp only [getS] at h; simp only [mkS]; rw [Sc.get_mk h]
  | [a], [], _, h => by simp [getS] at h
  | [a], _ :: _ :: _, _, h => by simp [getS] at h
  | a :: b :: r, [], _, h => by simp [getS] at h
  | a :: b :: r, [_], _, h => by simp [getS] at h
  | a :: b :: r, v :: w :: vs, s, h => by
    unfold getS at h
    split at h
    · rename_i x hx
      split at h
      · rename_i y hy
        injection h with h; subst h
        simp only [mkS]
        rw [Sc.get_mk hx, getS_mk hy]
      · cases h
    · cases h

theorem Sh.get_mk {s : Sh} {v : Value} {x : s.T} (h : s.get v = some x) : v = s.mk x := by
  cases s with
  | sc s => exact Sc.get_mk h
  | agg l =>
    cases v <;> simp only [Sh.get] at h <;> first | cases h | skip
    rename_i cs
    have := getS_mk h
    show Value.agg cs = .agg (mkS l x).toArray
    rw [← this]

theorem getT_mk : ∀ {l : List Sh} {vs : List Value} {s : Tup l}, getT l vs = some s → vs = mkT l s
  | [], [], _, _ => rfl
  | [], _ :: _, _, h => by simp [getT] at h
  | [a], [v], s, h => by simp only [getT] at h; simp only [mkT]; rw [Sh.get_mk h]
  | [a], [], _, h => by simp [getT] at h
  | [a], _ :: _ :: _, _, h => by simp [getT] at h
  | a :: b :: r, [], _, h => by simp [getT] at h
  | a :: b :: r, [_], _, h => by simp [getT] at h
  | a :: b :: r, v :: w :: vs, s, h => by
    unfold getT at h
    split at h
    · rename_i x hx
      split at h
      · rename_i y hy
        injection h with h; subst h
        simp only [mkT]
        rw [Sh.get_mk hx, getT_mk hy]
      · cases h
    · cases h

theorem look_zipE {d : Nat} {v : Value} {base : Env} : ∀ {ds : List Nat} {vs : List Value}, look d (zipE ds vs base) = some v → (∃ i : Nat, ds[i]? = some d ∧ vs[i]? = some v) ∨ (look d base = some v ∧ (d ∉ ds ∨ vs.length < ds.length))
  | [], vs, h => .inr ⟨by cases vs <;> exact h, .inl (by simp)⟩
  | _ :: _, [], h => .inr ⟨h, .inr (by simp)⟩
  | k :: ds, u :: vs, h => by
    unfold zipE at h
    rw [look_cons] at h
    by_cases e : k = d
    · rw [if_pos e] at h
      exact .inl ⟨0, by simp [e], by simpa using h⟩
    · rw [if_neg e] at h
      rcases look_zipE h with ⟨i, h1, h2⟩ | ⟨h1, h2⟩
      · exact .inl ⟨i + 1, by simpa using h1, by simpa using h2⟩
      · refine .inr ⟨h1, ?_⟩
        rcases h2 with h2 | h2
        · left; simp [h2, Ne.symm e]
        · right; simpa using h2

theorem look_zipE_mem {d : Nat} {base : Env} : ∀ {ds : List Nat} {vs : List Value}, vs.length = ds.length → d ∈ ds → ∃ i : Nat, ds[i]? = some d ∧ look d (zipE ds vs base) = vs[i]?
  | k :: ds, u :: vs, hl, hd => by
    unfold zipE
    rw [look_cons]
    by_cases e : k = d
    · exact ⟨0, by simp [e], by simp [e]⟩
    · rw [if_neg e]
      have hd' : d ∈ ds := by
        rcases List.mem_cons.1 hd with h | h
        · exact absurd h.symm e
        · exact h
      obtain ⟨i, h1, h2⟩ := look_zipE_mem (base := base) (vs := vs) (by simpa using hl) hd'
      exact ⟨i + 1, by simpa using h1, by simpa using h2⟩

theorem look_zipE_not {d : Nat} {base : Env} : ∀ {ds : List Nat} {vs : List Value}, d ∉ ds → look d (zipE ds vs base) = look d base
  | [], vs, _ => by cases vs <;> rfl
  | _ :: _, [], _ => rfl
  | k :: ds, u :: vs, hd => by
    unfold zipE
    rw [look_cons]
    rw [if_neg (fun e => hd (by simp [e]))]
    exact look_zipE_not (fun h => hd (by simp [h]))

theorem lookL_get {env : Env} : ∀ {ds : List Nat} {vs : List Value}, lookL env ds = some vs → vs.length = ds.length ∧ ∀ (i d : Nat), ds[i]? = some d → look d env = vs[i]?
  | [], vs, h => by unfold lookL at h; injection h with h; subst h; simp
  | k :: ds, vs, h => by
    unfold lookL at h
    split at h
    · rename_i v hv
      split at h
      · rename_i us hus
        injection h with h; subst h
        obtain ⟨h1, h2⟩ := lookL_get hus
        refine ⟨by simp [h1], ?_⟩
        intro i d hd
        cases i with
        | zero => simp at hd; subst hd; simpa using hv
        | succ i => simpa using h2 i d (by simpa using hd)
      · cases h
    · cases h

theorem look_dropE {d : Nat} {ws : List Nat} : ∀ {env : Env}, look d (dropE ws env) = if d ∈ ws then none else look d env
  | [] => by simp [dropE, look]
  | (k, v) :: r => by
    unfold dropE
    cases hm : memN k ws with
    | true =>
      have hk : k ∈ ws := memN_iff.1 hm
      simp only
      rw [look_dropE, look_cons]
      by_cases e : k = d
      · subst e; simp [hk]
      · simp [e]
    | false =>
      have hk : k ∉ ws := fun h => by rw [memN_iff.2 h] at hm; cases hm
      simp only
      rw [look_cons, look_cons, look_dropE]
      by_cases e : k = d
      · subst e; simp [hk]
      · simp [e]

theorem getE_inv {l : List (Nat × Sc)} {env : Env} {K : TupS (l.map (·.2)) → Prop} (h : getE l env K) :
    ∃ s, K s ∧ lookL env (l.map (·.1)) = some (mkS _ s) := by
  unfold getE at h
  split at h
  · rename_i vs hvs
    split at h
    · rename_i s hs
      exact ⟨s, h, by rw [hvs, getS_mk hs]⟩
    · exact h.elim
  · exact h.elim

/-- the frame at a place where ways meet: what is named, and what has not been written -/
theorem agrees_mkE {n : Nat} {l : List (Nat × Sc)} {s : TupS (l.map (·.2))} {env env' : Env} {ws : List Nat} {a : Act} (ha : Agrees n env' a) (hl : lookL env' (l.map (·.1)) = some (mkS _ s))
    (hk : ∀ d, d ∉ ws → look d env' = look d env) : Agrees n (mkE l s (dropE ws env)) a ∧ ∀ d, d ∉ ws → look d (mkE l s (dropE ws env)) = look d env := by
  obtain ⟨hlen, hget⟩ := lookL_get hl
  constructor
  · refine ⟨ha.1, ?_⟩
    intro d v hd
    unfold mkE at hd
    rcases look_zipE hd with ⟨i, h1, h2⟩ | ⟨h1, _⟩
    · exact ha.2 d v (by rw [hget i d h1]; exact h2)
    · rw [look_dropE] at h1
      split at h1
      · cases h1
      · rename_i hd'
        exact ha.2 d v (by rw [hk d hd']; exact h1)
  · intro d hd
    unfold mkE
    by_cases hm : d ∈ l.map (·.1)
    · obtain ⟨i, h1, h2⟩ := look_zipE_mem (base := dropE ws env) hlen hm
      rw [h2, ← hget i d h1, hk d hd]
    · rw [look_zipE_not hm, look_dropE, if_neg hd]

section
variable {P : Program} {F : List Nat}

/-- marks of blocks for deferred calls, the newest first; they lie at lo or beyond -/
def mkD (B : Nat) : Deferred := { target := .collected B, args := #[] }
def Marks (lo : Nat) (h : Heap) (bs : List Nat) : Prop := bs.Pairwise (fun a b => b < a) ∧ ∀ B ∈ bs, lo ≤ B ∧ h[B]? = some (.deferred (some []))
/-- what became of the deferred calls; nb: nothing -/
def Mk (nb : Bool) (w w' : World) (a a' : Act) : Prop := ∃ bs, a'.defers = bs.map mkD ++ a.defers ∧ Marks w.heap.size w'.heap bs ∧ (nb = true → bs = [])
theorem Mk.refl (nb : Bool) (w : World) (a : Act) : Mk nb w w a a := ⟨[], rfl, ⟨.nil, fun _ h => by cases h⟩, fun _ => rfl⟩
theorem Mk.of_eq {nb : Bool} {w w' : World} {a a' : Act} (h : a'.defers = a.defers) : Mk nb w w' a a' := ⟨[], h, ⟨.nil, fun _ h => by cases h⟩, fun _ => rfl⟩
theorem Mk.weak {nb nb' : Bool} {w w' : World} {a a' : Act} (h : Mk nb w w' a a') (hb : nb' = true → nb = true) : Mk nb' w w' a a' := by
  obtain ⟨bs, h1, h2, h3⟩ := h
  exact ⟨bs, h1, h2, fun e => h3 (hb e)⟩
theorem Mk.trans {nb1 nb2 nb : Bool} {w w1 w2 : World} {a a1 a2 : Act} (h : Mk nb1 w w1 a a1) (k : Mk nb2 w1 w2 a1 a2) (os1 : SameOs w w1) (os : SameOs w1 w2) (hb1 : nb = true → nb1 = true) (hb2 : nb = true → nb2 = true) : Mk nb w w2 a a2 := by
  obtain ⟨bs1, e1, ⟨p1, m1⟩, n1⟩ := h
  obtain ⟨bs2, e2, ⟨p2, m2⟩, n2⟩ := k
  refine ⟨bs2 ++ bs1, by rw [e2, e1, List.map_append, List.append_assoc], ⟨?_, ?_⟩, fun e => by rw [n1 (hb1 e), n2 (hb2 e)]; rfl⟩
  · refine List.pairwise_append.2 ⟨p2, p1, fun x hx y hy => ?_⟩
    have h1 := (m2 x hx).1
    have h2 := (Array.getElem?_eq_some_iff.1 (m1 y hy).2).1
    omega
  · intro B hB
    rcases List.mem_append.1 hB with hB | hB
    · have := m2 B hB
      have := os1.2.2.2.1
      exact ⟨by omega, (m2 B hB).2⟩
    · exact ⟨(m1 B hB).1, os.2.2.2.2 B (m1 B hB).2⟩

/-- what a piece of code leaves, marks and all -/
structure DL (nb : Bool) (n : Nat) (ws : List Nat) (env : Env) (a : Act) (w : World) (K : Env → Heap → Prop) (a' : Act) (w' : World) : Prop where
  os : SameOs w w'
  marks : Mk nb w w' a a'
  ex : ∃ env', Agrees n env' a' ∧ K env' w'.heap ∧ (∀ d, d ∉ ws → look d env' = look d env)

def DPost (nb : Bool) (n : Nat) (ws : List Nat) (env : Env) (a : Act) (w : World) (Q : Ex → Env → Heap → Prop) : Exit → Act → World → Prop
  | .normal, a', w' => DL nb n ws env a w (Q .nrm) a' w'
  | .exit i, a', w' => DL nb n ws env a w (Q (.exit i)) a' w'
  | .goto l, a', w' => DL nb n ws env a w (Q (.goto l)) a' w'
  | .ret, a', w' => DL nb n ws env a w (Q .ret) a' w'
  | _, _, _ => False

theorem DL.refl {nb : Bool} {n : Nat} {ws : List Nat} {env : Env} {a : Act} {w : World} {K : Env → Heap → Prop} (ha : Agrees n env a) (h : K env w.heap) : DL nb n ws env a w K a w :=
  ⟨.refl w, .refl _ _ _, env, ha, h, fun _ _ => rfl⟩
theorem Left.dl {nb : Bool} {n : Nat} {ws : List Nat} {env : Env} {a : Act} {w : World} {K : Env → Heap → Prop} {a' : Act} {w' : World} (h : Left n ws env a w K a' w') : DL nb n ws env a w K a' w' :=
  ⟨h.os, .of_eq h.defers, h.ex⟩

/-- two pieces, one behind the other -/
theorem DL.trans {nb nb1 nb2 : Bool} {n : Nat} {ws ws' us : List Nat} {env env1 : Env} {a a1 a2 : Act} {w w1 w2 : World} {K : Env → Heap → Prop} (hos : SameOs w w1) (hd : Mk nb1 w w1 a a1) (hl : ∀ d, d ∉ ws → look d env1 = look d env)
    (h : DL nb2 n ws' env1 a1 w1 K a2 w2) (h1 : ∀ d, d ∈ ws → d ∈ us) (h2 : ∀ d, d ∈ ws' → d ∈ us) (b1 : nb = true → nb1 = true) (b2 : nb = true → nb2 = true) : DL nb n us env a w K a2 w2 := by
  obtain ⟨e1, e2, env2, e3, e4, e5⟩ := h
  exact ⟨hos.trans e1, hd.trans e2 hos e1 b1 b2, env2, e3, e4, fun d hdd => (e5 d (fun h => hdd (h2 d h))).trans (hl d (fun h => hdd (h1 d h)))⟩

theorem DPost.mono {nb nb1 nb2 : Bool} {n : Nat} {ws ws' us : List Nat} {env env1 : Env} {a a1 : Act} {w w1 : World} {Q : Ex → Env → Heap → Prop} (hos : SameOs w w1) (hd : Mk nb1 w w1 a a1) (hl : ∀ d, d ∉ ws → look d env1 = look d env)
    (h1 : ∀ d, d ∈ ws → d ∈ us) (h2 : ∀ d, d ∈ ws' → d ∈ us) (b1 : nb = true → nb1 = true) (b2 : nb = true → nb2 = true) {e : Exit} {a2 : Act} {w2 : World} (h : DPost nb2 n ws' env1 a1 w1 Q e a2 w2) : DPost nb n us env a w Q e a2 w2 := by
  cases e <;> first | exact DL.trans hos hd hl h h1 h2 b1 b2 | exact h
theorem DPost.sub {nb nb2 : Bool} {n : Nat} {ws' us : List Nat} {env : Env} {a : Act} {w : World} {Q : Ex → Env → Heap → Prop}
    (h2 : ∀ d, d ∈ ws' → d ∈ us) (b2 : nb = true → nb2 = true) {e : Exit} {a2 : Act} {w2 : World} (h : DPost nb2 n ws' env a w Q e a2 w2) : DPost nb n us env a w Q e a2 w2 :=
  DPost.mono (ws := []) (nb1 := true) (.refl w) (.refl _ _ _) (fun _ _ => rfl) (fun d hd => by cases hd) h2 (fun _ => rfl) b2 h

theorem exists_least {Z : Nat → Prop} (h : ∃ k, Z k) : ∃ m, Z m ∧ ∀ k, Z k → m ≤ k := by
  obtain ⟨k, hk⟩ := h
  induction k using Nat.strongRecOn with
  | _ k ih =>
    by_cases hx : ∃ j, j < k ∧ Z j
    · obtain ⟨j, h1, h2⟩ := hx
      exact ih j h1 h2
    · exact ⟨k, hk, fun j hj => by
        rcases Nat.lt_or_ge j k with h | h
        · exact absurd ⟨j, h, hj⟩ hx
        · exact h⟩

/-- a loop whose measure stands in no slot -/
theorem wpIn_loop_ghost {Fc : Fence} {m : Nat} {σ : Type} {c : Code} {Q : Exit → Act → World → Prop} (I : σ → Act → World → Prop) (μ : σ → World → Nat) {s : σ} {a : Act} {w : World} (h0 : I s a w)
    (round : ∀ s a w, I s a w → c.wpIn Fc m P (Exit.then (fun a' w' => ∃ s', I s' a' w' ∧ μ s' w' < μ s w) Q) a w) : (Code.loop c).wpIn Fc m P Q a w := by
  classical
  let Z : Act → World → Nat → Prop := fun a w k => ∃ s, I s a w ∧ μ s w = k
  let M : Act → World → Nat := fun a w => if h : ∃ k, Z a w k then Classical.choose (exists_least h) else 0
  have hM : ∀ a w s, I s a w → M a w ≤ μ s w := fun a w s hs => by
    have h : ∃ k, Z a w k := ⟨_, s, hs, rfl⟩
    show (if h : ∃ k, Z a w k then Classical.choose (exists_least h) else 0) ≤ _
    rw [dif_pos h]
    exact (Classical.choose_spec (exists_least h)).2 _ ⟨s, hs, rfl⟩
  refine wpIn_loop (fun a w => ∃ s, I s a w) M ⟨s, h0⟩ ?_
  intro a w hI
  have h : ∃ k, Z a w k := by obtain ⟨s, hs⟩ := hI; exact ⟨_, s, hs, rfl⟩
  obtain ⟨s, hs, hk⟩ := (Classical.choose_spec (exists_least h)).1
  have hMs : M a w = μ s w := by
    show (if h : ∃ k, Z a w k then Classical.choose (exists_least h) else 0) = _
    rw [dif_pos h, hk]
  refine wpIn_mono (round s a w hs) ?_
  intro e a' w' hq
  cases e with
  | normal =>
    obtain ⟨s', h1, h2⟩ := hq
    exact ⟨⟨s', h1⟩, by rw [hMs]; exact Nat.lt_of_le_of_lt (hM a' w' s' h1) h2⟩
  | _ => exact hq

theorem hasL_none {l : Nat} : ∀ {c : Code}, hasL l c = false → findLabel c l = none
  | .seq a b, h => by
    unfold hasL at h
    split at h
    · cases h
    · rename_i ha
      unfold findLabel
      rw [hasL_none ha]
      exact hasL_none h
  | .label l', h => by
    unfold hasL at h
    unfold findLabel
    have : ¬ (l' == l) = true := fun e => by
      have e' : l' = l := by simpa using e
      subst e'
      simp at h
    rw [if_neg this]
  | .skip, h => rfl
  | .region _ _ _, h => rfl
  | .cond _ _ _, h => rfl
  | .block _ _, h => rfl
  | .loop _, h => rfl
  | .scope _, h => rfl
  | .exit _, h => rfl
  | .goto _, h => rfl
  | .ret, h => rfl
  | .rangeFunc _ _ _ _, h => rfl
  | .refuse _, h => rfl

theorem stepR_scope {b : Frame} {a : Act} {k : List Item} {cs : List Frame} {w : World} {c : Code} :
    step P (lone (b.atR a (.code (.scope c) :: k)) cs w) = .next (lone (b.atR a (.code c :: .inScope c :: k)) cs w) :=
  step_lone_go (by simp [stepG, stepG.exec, Frame.atR])
theorem stepR_inScope {b : Frame} {a : Act} {k : List Item} {cs : List Frame} {w : World} {c : Code} :
    step P (lone (b.atR a (.inScope c :: k)) cs w) = .next (lone (b.atR a k) cs w) :=
  step_lone_go (by simp [stepG, stepG.exec, Frame.atR])

theorem wpIn_scope_g {Fc : Fence} {m : Nat} {c : Code} {Q : Exit → Act → World → Prop} {a : Act} {w : World}
    (h : c.wpIn Fc m P (fun e a w => match e with | .goto l => ∃ rest, findLabel c l = some rest ∧ rest.wpIn Fc m P (Exit.noGoto Q) a w | e => Q e a w) a w) : (Code.scope c).wpIn Fc m P Q a w := by
  intro b k cs hro hb hr
  have h0 : (lone (b.atR a (.code (.scope c) :: k)) cs w).fenced P Fc := fenced_calm hb hr rfl
  have hx : ∀ id, exitTo id (.inScope c :: k) = exitTo id k := fun id => by simp [exitTo]
  obtain ⟨e, a1, w1, hq, harr⟩ := h b (.inScope c :: k) cs hro hb hr
  cases e with
  | normal => exact ⟨.normal, a1, w1, hq, .head h0 stepR_scope (StepsIn.trans harr (.one (fenced_calm hb hr rfl) stepR_inScope))⟩
  | exit id =>
    exact ⟨.exit id, a1, w1, hq, fun k' hk => .head h0 stepR_scope (harr.1 k' (by rw [hx]; exact hk)),
      fun hr' hk => let ⟨k₁, h1, h2⟩ := harr.2 hr' (by rw [hx]; exact hk); ⟨k₁, h1, .head h0 stepR_scope h2⟩⟩
  | goto l =>
    obtain ⟨rest, hf, hrr⟩ := hq
    have st := harr.1 (.code rest :: .inScope c :: k) (by simp [gotoIn, hf])
    obtain ⟨e2, a2, w2, hq2, harr2⟩ := hrr b (.inScope c :: k) cs hro hb hr
    cases e2 with
    | normal => exact ⟨.normal, a2, w2, hq2, .head h0 stepR_scope (StepsIn.trans st (StepsIn.trans harr2 (.one (fenced_calm hb hr rfl) stepR_inScope)))⟩
    | exit id =>
      exact ⟨.exit id, a2, w2, hq2, fun k' hk => .head h0 stepR_scope (StepsIn.trans st (harr2.1 k' (by rw [hx]; exact hk))),
        fun hr' hk => let ⟨k₁, h1, h2⟩ := harr2.2 hr' (by rw [hx]; exact hk); ⟨k₁, h1, .head h0 stepR_scope (StepsIn.trans st h2)⟩⟩
    | goto l => exact hq2.elim
    | ret => exact ⟨_, a2, w2, hq2, .of_steps (.head h0 stepR_scope st) harr2⟩
    | panic ch => exact ⟨_, a2, w2, hq2, .of_steps (.head h0 stepR_scope st) harr2⟩
    | outgrown => exact ⟨_, a2, w2, hq2, .of_steps (.head h0 stepR_scope st) harr2⟩
  | ret => exact ⟨_, a1, w1, hq, .of_steps (.one h0 stepR_scope) harr⟩
  | panic ch => exact ⟨_, a1, w1, hq, .of_steps (.one h0 stepR_scope) harr⟩
  | outgrown => exact ⟨_, a1, w1, hq, .of_steps (.one h0 stepR_scope) harr⟩

end
end Go.Proofs.Ytkgocfaajfaidaa.D
