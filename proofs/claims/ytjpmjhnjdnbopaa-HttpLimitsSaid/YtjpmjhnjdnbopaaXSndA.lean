/- Soundness of the whole: 'den' of a body gives the call. -/
import Derived.Test.YtjpmjhnjdnbopaaXSnd9
import Derived.Scope
namespace Go.Proofs.Ytjpmjhnjdnbopaa.D
open Go
set_option linter.unusedVariables false
set_option linter.unusedSimpArgs false

theorem Sc.get_mk {s : Sc} {v : Value} {x : s.T} (h : s.get v = some x) : v = s.mk x := by
  cases s <;> cases v <;> simp only [Sc.get] at h <;> first | cases h | skip
  case int.int k k' n =>
    cases hk : kEq k k' with
    | false => simp [hk] at h
    | true => simp only [hk] at h; injection h with h; subst h; rw [kEq_eq hk]; rfl
  all_goals first
    | rfl
    | (injection h with h; subst h; rfl)

theorem getS_mk : ∀ {l : List Sc} {vs : List Value} {s : TupS l}, getS l vs = some s → vs = mkS l s
  | [], [], _, _ => rfl
  | [], _ :: _, _, h => by simp [getS] at h
  | [a], [v], s, h => by simp only [getS] at h; simp only [mkS]; rw [Sc.get_mk h]
  | [a], [], _, h => by simp [getS] at h
  | [a], _ :: _ :: _, _, h => by simp [getS] at h
  | a :: b :: r, [], _, h => by simp [getS] at h
  | a :: b :: r, [_], _, h => by simp [getS] at h
  | a :: b :: r, v :: w :: vs, s, h => by
    unfold getS at h
    split at h
    · rename_i x hx
      split at h
      · rename_i y hy
        injection h with h; subst h
        simp only [mkS]
        rw [Sc.get_mk hx, getS_mk hy]
      · cases h
    · cases h

theorem Sh.get_mk {s : Sh} {v : Value} {x : s.T} (h : s.get v = some x) : v = s.mk x := by
  cases s with
  | sc s => exact Sc.get_mk h
  | agg l =>
    cases v <;> simp only [Sh.get] at h <;> first | cases h | skip
    rename_i cs
    have := getS_mk h
    show Value.agg cs = .agg (mkS l x).toArray
    rw [← this]

theorem getT_mk : ∀ {l : List Sh} {vs : List Value} {s : Tup l}, getT l vs = some s → vs = mkT l s
  | [], [], _, _ => rfl
  | [], _ :: _, _, h => by simp [getT] at h
  | [a], [v], s, h => by simp only [getT] at h; simp only [mkT]; rw [Sh.get_mk h]
  | [a], [], _, h => by simp [getT] at h
  | [a], _ :: _ :: _, _, h => by simp [getT] at h
  | a :: b :: r, [], _, h => by simp [getT] at h
  | a :: b :: r, [_], _, h => by simp [getT] at h
  | a :: b :: r, v :: w :: vs, s, h => by
    unfold getT at h
    split at h
    · rename_i x hx
      split at h
      · rename_i y hy
        injection h with h; subst h
        simp only [mkT]
        rw [Sh.get_mk hx, getT_mk hy]
      · cases h
    · cases h

theorem look_zipE {d : Nat} {v : Value} {base : Env} : ∀ {ds : List Nat} {vs : List Value}, look d (zipE ds vs base) = some v → (∃ i : Nat, ds[i]? = some d ∧ vs[i]? = some v) ∨ (look d base = some v ∧ (d ∉ ds ∨ vs.length < ds.length))
  | [], vs, h => .inr ⟨by cases vs <;> exact h, .inl (by simp)⟩
  | _ :: _, [], h => .inr ⟨h, .inr (by simp)⟩
  | k :: ds, u :: vs, h => by
    unfold zipE at h
    rw [look_cons] at h
    by_cases e : k = d
    · rw [if_pos e] at h
      exact .inl ⟨0, by simp [e], by simpa using h⟩
    · rw [if_neg e] at h
      rcases look_zipE h with ⟨i, h1, h2⟩ | ⟨h1, h2⟩
      · exact .inl ⟨i + 1, by simpa using h1, by simpa using h2⟩
      · refine .inr ⟨h1, ?_⟩
        rcases h2 with h2 | h2
        · left; simp [h2, Ne.symm e]
        · right; simpa using h2

theorem look_zipE_mem {d : Nat} {base : Env} : ∀ {ds : List Nat} {vs : List Value}, vs.length = ds.length → d ∈ ds → ∃ i : Nat, ds[i]? = some d ∧ look d (zipE ds vs base) = vs[i]?
  | k :: ds, u :: vs, hl, hd => by
    unfold zipE
    rw [look_cons]
    by_cases e : k = d
    · exact ⟨0, by simp [e], by simp [e]⟩
    · rw [if_neg e]
      have hd' : d ∈ ds := by
        rcases List.mem_cons.1 hd with h | h
        · exact absurd h.symm e
        · exact h
      obtain ⟨i, h1, h2⟩ := look_zipE_mem (base := base) (vs := vs) (by simpa using hl) hd'
      exact ⟨i + 1, by simpa using h1, by simpa using h2⟩

theorem look_zipE_not {d : Nat} {base : Env} : ∀ {ds : List Nat} {vs : List Value}, d ∉ ds → look d (zipE ds vs base) = look d base
  | [], vs, _ => by cases vs <;> rfl
  | _ :: _, [], _ => rfl
  | k :: ds, u :: vs, hd => by
    unfold zipE
    rw [look_cons]
    rw [if_neg (fun e => hd (by simp [e]))]
    exact look_zipE_not (fun h => hd (by simp [h]))

theorem lookL_get {env : Env} : ∀ {ds : List Nat} {vs : List Value}, lookL env ds = some vs → vs.length = ds.length ∧ ∀ (i d : Nat), ds[i]? = some d → look d env = vs[i]?
  | [], vs, h => by unfold lookL at h; injection h with h; subst h; simp
  | k :: ds, vs, h => by
    unfold lookL at h
    split at h
    · rename_i v hv
      split at h
      · rename_i us hus
        injection h with h; subst h
        obtain ⟨h1, h2⟩ := lookL_get hus
        refine ⟨by simp [h1], ?_⟩
        intro i d hd
        cases i with
        | zero => simp at hd; subst hd; simpa using hv
        | succ i => simpa using h2 i d (by simpa using hd)
      · cases h
    · cases h

theorem look_dropE {d : Nat} {ws : List Nat} : ∀ {env : Env}, look d (dropE ws env) = if d ∈ ws then none else look d env
  | [] => by simp [dropE, look]
  | (k, v) :: r => by
    unfold dropE
    cases hm : memN k ws with
    | true =>
      have hk : k ∈ ws := memN_iff.1 hm
      simp only
      rw [look_dropE, look_cons]
      by_cases e : k = d
      · subst e; simp [hk]
      · simp [e]
    | false =>
      have hk : k ∉ ws := fun h => by rw [memN_iff.2 h] at hm; cases hm
      simp only
      rw [look_cons, look_cons, look_dropE]
      by_cases e : k = d
      · subst e; simp [hk]
      · simp [e]

theorem getE_inv {l : List (Nat × Sc)} {env : Env} {K : TupS (l.map (·.2)) → Prop} (h : getE l env K) :
    ∃ s, K s ∧ lookL env (l.map (·.1)) = some (mkS _ s) := by
  unfold getE at h
  split at h
  · rename_i vs hvs
    split at h
    · rename_i s hs
      exact ⟨s, h, by rw [hvs, getS_mk hs]⟩
    · exact h.elim
  · exact h.elim

/-- the frame at a place where ways meet: what is named, and what has not been written -/
theorem agrees_mkE {n : Nat} {l : List (Nat × Sc)} {s : TupS (l.map (·.2))} {env env' : Env} {ws : List Nat} {a : Act} (ha : Agrees n env' a) (hl : lookL env' (l.map (·.1)) = some (mkS _ s))
    (hk : ∀ d, d ∉ ws → look d env' = look d env) : Agrees n (mkE l s (dropE ws env)) a ∧ ∀ d, d ∉ ws → look d (mkE l s (dropE ws env)) = look d env := by
  obtain ⟨hlen, hget⟩ := lookL_get hl
  constructor
  · refine ⟨ha.1, ?_⟩
    intro d v hd
    unfold mkE at hd
    rcases look_zipE hd with ⟨i, h1, h2⟩ | ⟨h1, _⟩
    · exact ha.2 d v (by rw [hget i d h1]; exact h2)
    · rw [look_dropE] at h1
      split at h1
      · cases h1
      · rename_i hd'
        exact ha.2 d v (by rw [hk d hd']; exact h1)
  · intro d hd
    unfold mkE
    by_cases hm : d ∈ l.map (·.1)
    · obtain ⟨i, h1, h2⟩ := look_zipE_mem (base := dropE ws env) hlen hm
      rw [h2, ← hget i d h1, hk d hd]
    · rw [look_zipE_not hm, look_dropE, if_neg hd]

section
variable {P : Program} {F : List Nat}

def DPost (n : Nat) (ws : List Nat) (env : Env) (a : Act) (w : World) (Q : Ex → Env → Heap → Prop) : Exit → Act → World → Prop
  | .normal, a', w' => Left n ws env a w (Q .nrm) a' w'
  | .exit i, a', w' => Left n ws env a w (Q (.exit i)) a' w'
  | .goto l, a', w' => Left n ws env a w (Q (.goto l)) a' w'
  | .ret, a', w' => Left n ws env a w (Q .ret) a' w'
  | _, _, _ => False

theorem Left.refl {n : Nat} {ws : List Nat} {env : Env} {a : Act} {w : World} {K : Env → Heap → Prop} (ha : Agrees n env a) (h : K env w.heap) : Left n ws env a w K a w :=
  ⟨.refl w, rfl, env, ha, h, fun _ _ => rfl⟩

/-- two pieces, one behind the other -/
theorem Left.trans {n : Nat} {ws ws' us : List Nat} {env env1 : Env} {a a1 a2 : Act} {w w1 w2 : World} {K : Env → Heap → Prop} (hos : SameOs w w1) (hd : a1.defers = a.defers) (hl : ∀ d, d ∉ ws → look d env1 = look d env)
    (h : Left n ws' env1 a1 w1 K a2 w2) (h1 : ∀ d, d ∈ ws → d ∈ us) (h2 : ∀ d, d ∈ ws' → d ∈ us) : Left n us env a w K a2 w2 := by
  obtain ⟨e1, e2, env2, e3, e4, e5⟩ := h
  exact ⟨hos.trans e1, e2.trans hd, env2, e3, e4, fun d hdd => (e5 d (fun h => hdd (h2 d h))).trans (hl d (fun h => hdd (h1 d h)))⟩

theorem DPost.mono {n : Nat} {ws ws' us : List Nat} {env env1 : Env} {a a1 : Act} {w w1 : World} {Q : Ex → Env → Heap → Prop} (hos : SameOs w w1) (hd : a1.defers = a.defers) (hl : ∀ d, d ∉ ws → look d env1 = look d env)
    (h1 : ∀ d, d ∈ ws → d ∈ us) (h2 : ∀ d, d ∈ ws' → d ∈ us) {e : Exit} {a2 : Act} {w2 : World} (h : DPost n ws' env1 a1 w1 Q e a2 w2) : DPost n us env a w Q e a2 w2 := by
  cases e <;> first | exact Left.trans hos hd hl h h1 h2 | exact h

theorem exists_least {Z : Nat → Prop} (h : ∃ k, Z k) : ∃ m, Z m ∧ ∀ k, Z k → m ≤ k := by
  obtain ⟨k, hk⟩ := h
  induction k using Nat.strongRecOn with
  | _ k ih =>
    by_cases hx : ∃ j, j < k ∧ Z j
    · obtain ⟨j, h1, h2⟩ := hx
      exact ih j h1 h2
    · exact ⟨k, hk, fun j hj => by
        rcases Nat.lt_or_ge j k with h | h
        · exact absurd ⟨j, h, hj⟩ hx
        · exact h⟩

/-- a loop whose measure stands in no slot -/
theorem wp_loop_ghost {σ : Type} {c : Code} {Q : Exit → Act → World → Prop} (I : σ → Act → World → Prop) (μ : σ → World → Nat) {s : σ} {a : Act} {w : World} (h0 : I s a w)
    (round : ∀ s a w, I s a w → c.wp P (Exit.then (fun a' w' => ∃ s', I s' a' w' ∧ μ s' w' < μ s w) Q) a w) : (Code.loop c).wp P Q a w := by
  classical
  let Z : Act → World → Nat → Prop := fun a w k => ∃ s, I s a w ∧ μ s w = k
  let M : Act → World → Nat := fun a w => if h : ∃ k, Z a w k then Classical.choose (exists_least h) else 0
  have hM : ∀ a w s, I s a w → M a w ≤ μ s w := fun a w s hs => by
    have h : ∃ k, Z a w k := ⟨_, s, hs, rfl⟩
    show (if h : ∃ k, Z a w k then Classical.choose (exists_least h) else 0) ≤ _
    rw [dif_pos h]
    exact (Classical.choose_spec (exists_least h)).2 _ ⟨s, hs, rfl⟩
  refine wp_loop (fun a w => ∃ s, I s a w) M ⟨s, h0⟩ ?_
  intro a w hI
  have h : ∃ k, Z a w k := by obtain ⟨s, hs⟩ := hI; exact ⟨_, s, hs, rfl⟩
  obtain ⟨s, hs, hk⟩ := (Classical.choose_spec (exists_least h)).1
  have hMs : M a w = μ s w := by
    show (if h : ∃ k, Z a w k then Classical.choose (exists_least h) else 0) = _
    rw [dif_pos h, hk]
  refine wp_mono (round s a w hs) ?_
  intro e a' w' hq
  cases e with
  | normal =>
    obtain ⟨s', h1, h2⟩ := hq
    exact ⟨⟨s', h1⟩, by rw [hMs]; exact Nat.lt_of_le_of_lt (hM a' w' s' h1) h2⟩
  | _ => exact hq

theorem hasL_none {l : Nat} : ∀ {c : Code}, hasL l c = false → findLabel c l = none
  | .seq a b, h => by
    unfold hasL at h
    split at h
    · cases h
    · rename_i ha
      unfold findLabel
      rw [hasL_none ha]
      exact hasL_none h
  | .label l', h => by
    unfold hasL at h
    unfold findLabel
    have : ¬ (l' == l) = true := fun e => by
      have e' : l' = l := by simpa using e
      subst e'
      simp at h
    rw [if_neg this]
  | .skip, h => rfl
  | .region _ _ _, h => rfl
  | .cond _ _ _, h => rfl
  | .block _ _, h => rfl
  | .loop _, h => rfl
  | .scope _, h => rfl
  | .exit _, h => rfl
  | .goto _, h => rfl
  | .ret, h => rfl
  | .rangeFunc _ _ _ _, h => rfl
  | .refuse _, h => rfl

theorem wp_scope_g {c : Code} {Q : Exit → Act → World → Prop} {a : Act} {w : World}
    (h : c.wp P (fun e a w => match e with | .goto l => ∃ rest, findLabel c l = some rest ∧ rest.wp P (Exit.noGoto Q) a w | e => Q e a w) a w) : (Code.scope c).wp P Q a w := by
  intro b k cs
  obtain ⟨e, a1, w1, hq, harr⟩ := h b (.inScope c :: k) cs
  cases e with
  | normal => exact ⟨.normal, a1, w1, hq, .head step_scope (Steps.trans harr (.one step_inScope))⟩
  | exit id => exact ⟨.exit id, a1, w1, hq, fun k' hk => .head step_scope (harr k' (by simp [exitTo, hk]))⟩
  | goto l =>
    obtain ⟨rest, hf, hr⟩ := hq
    have st := harr (.code rest :: .inScope c :: k) (by simp [gotoIn, hf])
    obtain ⟨e2, a2, w2, hq2, harr2⟩ := hr b (.inScope c :: k) cs
    cases e2 with
    | normal => exact ⟨.normal, a2, w2, hq2, .head step_scope (Steps.trans st (Steps.trans harr2 (.one step_inScope)))⟩
    | exit id => exact ⟨.exit id, a2, w2, hq2, fun k' hk => .head step_scope (Steps.trans st (harr2 k' (by simp [exitTo, hk])))⟩
    | goto l => exact hq2.elim
    | ret => exact ⟨_, a2, w2, hq2, .of_steps (.head step_scope st) harr2⟩
    | panic ch => exact ⟨_, a2, w2, hq2, .of_steps (.head step_scope st) harr2⟩
    | outgrown => exact ⟨_, a2, w2, hq2, .of_steps (.head step_scope st) harr2⟩
  | ret => exact ⟨_, a1, w1, hq, .of_steps (.one step_scope) harr⟩
  | panic ch => exact ⟨_, a1, w1, hq, .of_steps (.one step_scope) harr⟩
  | outgrown => exact ⟨_, a1, w1, hq, .of_steps (.one step_scope) harr⟩

/-- what a piece of code does, from its start or from a label -/
def FromP (P : Program) (c : Code) (m : Option Nat) (Q : Exit → Act → World → Prop) (a : Act) (w : World) : Prop :=
  match m with
  | none => c.wp P Q a w
  | some l => ∃ rest, findLabel c l = some rest ∧ rest.wp P Q a w

theorem den_sound (hF : FnsOk P F) (hm : P.follows .mixedOrders = true) (n : Nat) : ∀ (c : Code) (m : Option Nat) (A : Ann) (Q : Ex → Env → Heap → Prop) (env : Env) (a : Act) (w : World), Agrees n env a →
    den P F n c m A Q env w.heap → FromP P c m (DPost n (written c) env a w Q) a w := by
  intro c
  induction c with
  | skip =>
    intro m A Q env a w ha h
    cases m with
    | none => exact wp_skip (Left.refl ha h)
    | some l => exact h.elim
  | label l =>
    intro m A Q env a w ha h
    cases m with
    | none => exact wp_label (Left.refl ha h)
    | some l' =>
      unfold den at h
      simp only at h
      split at h
      · rename_i hb
        refine ⟨.skip, ?_, wp_skip (Left.refl ha h)⟩
        unfold findLabel
        rw [if_pos (by rw [Nat.eq_of_beq_eq_true hb]; simp)]
      · exact h.elim
  | region id ops draw =>
    intro m A Q env a w ha h
    cases m with
    | none =>
      refine regionX_sound hF hm (fun _ _ _ h => h) ha h ?_
      intro a' w' hl
      exact hl
    | some l => exact h.elim
  | seq x y ihx ihy =>
    intro m A Q env a w ha h
    have plain : ∀ {x' : Code} {Ax Ay : Ann}, x'.wp P (DPost n (written x) env a w (nrmK (den P F n y none Ay Q) Q)) a w → (Code.seq x' y).wp P (DPost n (written (.seq x y)) env a w Q) a w := by
      intro x' Ax Ay hx
      refine wp_seq (wp_mono hx ?_)
      intro e a1 w1 hq
      cases e with
      | normal =>
        obtain ⟨hos, hd, env1, ha1, hk1, hl1⟩ := hq
        refine wp_mono (ihy none Ay Q env1 a1 w1 ha1 hk1) ?_
        intro e a2 w2 hq2
        exact DPost.mono hos hd hl1 (fun d hd => by simp [written, hd]) (fun d hd => by simp [written, hd]) hq2
      | exit i => exact DPost.mono (Q := Q) (e := .exit i) (.refl w) rfl (fun _ _ => rfl) (ws := written x) (fun d hd => by simp [written, hd]) (fun d hd => by simp [written, hd]) hq
      | goto i => exact DPost.mono (Q := Q) (e := .goto i) (.refl w) rfl (fun _ _ => rfl) (ws := written x) (fun d hd => by simp [written, hd]) (fun d hd => by simp [written, hd]) hq
      | ret => exact DPost.mono (Q := Q) (e := .ret) (.refl w) rfl (fun _ _ => rfl) (ws := written x) (fun d hd => by simp [written, hd]) (fun d hd => by simp [written, hd]) hq
      | _ => exact hq.elim
    cases m with
    | none =>
      unfold den at h
      simp only at h
      split at h
      · rename_i l Ax Ay
        refine wp_seq ?_
        refine wp_mono (ihx none Ax _ env a w ha h) ?_
        intro e a1 w1 hq
        cases e with
        | normal =>
          obtain ⟨hos, hd, env1, ha1, hk1, hl1⟩ := hq
          obtain ⟨s, hs, hls⟩ := getE_inv hk1
          obtain ⟨ha2, hl2⟩ := agrees_mkE ha1 hls hl1
          refine wp_mono (ihy none Ay Q _ a1 w1 ha2 hs) ?_
          intro e a2 w2 hq2
          exact DPost.mono hos hd hl2 (fun d hd => by simp [written, hd]) (fun d hd => by simp [written, hd]) hq2
        | exit i => exact DPost.mono (Q := Q) (e := .exit i) (.refl w) rfl (fun _ _ => rfl) (ws := written x) (fun d hd => by simp [written, hd]) (fun d hd => by simp [written, hd]) hq
        | goto i => exact DPost.mono (Q := Q) (e := .goto i) (.refl w) rfl (fun _ _ => rfl) (ws := written x) (fun d hd => by simp [written, hd]) (fun d hd => by simp [written, hd]) hq
        | ret => exact DPost.mono (Q := Q) (e := .ret) (.refl w) rfl (fun _ _ => rfl) (ws := written x) (fun d hd => by simp [written, hd]) (fun d hd => by simp [written, hd]) hq
        | _ => exact hq.elim
      · exact plain (Ax := A) (ihx none A.fst _ env a w ha h)
    | some l =>
      unfold den at h
      simp only at h
      split at h
      · obtain ⟨rest, hf, hr⟩ := ihx (some l) A.fst _ env a w ha h
        refine ⟨.seq rest y, ?_, plain (Ax := A) hr⟩
        unfold findLabel
        rw [hf]
      · rename_i hb
        obtain ⟨rest, hf, hr⟩ := ihy (some l) A.snd _ env a w ha h
        refine ⟨rest, ?_, wp_mono hr ?_⟩
        · unfold findLabel
          rw [hasL_none hb]
          exact hf
        · intro e a2 w2 hq2
          exact DPost.mono (.refl w) rfl (fun _ _ => rfl) (ws := written y) (fun d hd => by simp [written, hd]) (fun d hd => by simp [written, hd]) hq2
  | cond c x y ihx ihy =>
    intro m A Q env a w ha h
    cases m with
    | some l => exact h.elim
    | none =>
    unfold den at h
    have h1 := ev1_eval ha h
    split at h1
    · rename_i t ht
      rcases cnd_inv h1 with ⟨rfl, h2⟩ | ⟨rfl, h2⟩
      · refine wp_cond_true ht (wp_mono (ihx none A.fst Q env a w ha h2) ?_)
        intro e a2 w2 hq2
        exact DPost.mono (.refl w) rfl (fun _ _ => rfl) (ws := written x) (fun d hd => by simp [written, hd]) (fun d hd => by simp [written, hd]) hq2
      · refine wp_cond_false ht (wp_mono (ihy none A.snd Q env a w ha h2) ?_)
        intro e a2 w2 hq2
        exact DPost.mono (.refl w) rfl (fun _ _ => rfl) (ws := written y) (fun d hd => by simp [written, hd]) (fun d hd => by simp [written, hd]) hq2
    · exact h1.elim
  | block id x ih =>
    intro m A Q env a w ha h
    cases m with
    | some l => exact h.elim
    | none =>
    refine wp_block (wp_mono (ih none A.sub (blkK id Q) env a w ha h) ?_)
    intro e a1 w1 hq
    cases e with
    | normal => exact hq
    | exit j =>
      unfold Exit.inBlock
      have hq' : Left n (written x) env a w (blkK id Q (.exit j)) a1 w1 := hq
      unfold blkK at hq'
      by_cases e : j = id
      · subst e
        show (if j = j then DPost n (written (.block j x)) env a w Q .normal a1 w1 else _)
        rw [if_pos rfl]
        simp only [Nat.beq_refl] at hq'
        exact hq'
      · have hb : Nat.beq j id = false := by
          cases hb : Nat.beq j id with
          | true => exact absurd (Nat.eq_of_beq_eq_true hb) e
          | false => rfl
        show (if j = id then DPost n (written (.block id x)) env a w Q .normal a1 w1 else DPost n (written (.block id x)) env a w Q (.exit j) a1 w1)
        rw [if_neg e]
        simp only [hb] at hq'
        exact hq'
    | goto l => exact hq
    | ret => exact hq
    | _ => exact hq.elim
  | loop x ih =>
    intro m A Q env a w ha h
    cases m with
    | some l => exact h.elim
    | none =>
    unfold den at h
    split at h
    · rename_i l Ax
      obtain ⟨s0, hs0, hl0⟩ := getE_inv h
      obtain ⟨I, μ, hI, hround⟩ := hs0
      let J : TupS (l.map (·.2)) → Act → World → Prop := fun s a' w' => SameOs w w' ∧ a'.defers = a.defers ∧ Agrees n (mkE l s (dropE (written x) env)) a' ∧ I s w'.heap ∧ (∀ d, d ∉ written x → look d (mkE l s (dropE (written x) env)) = look d env)
      obtain ⟨haJ, hlJ⟩ := agrees_mkE (ws := written x) (env := env) ha hl0 (fun _ _ => rfl)
      refine wp_loop_ghost J (fun s w => μ s w.heap) (s := s0) ⟨.refl w, rfl, haJ, hI, hlJ⟩ ?_
      rintro s a1 w1 ⟨hos, hd, ha1, hI1, hl1⟩
      refine wp_mono (ih none Ax _ _ a1 w1 ha1 (hround s w1.heap hI1)) ?_
      intro e a2 w2 hq
      cases e with
      | normal =>
        obtain ⟨hos2, hd2, env2, ha2, hk2, hl2⟩ := hq
        obtain ⟨s2, ⟨hI2, hlt⟩, hls⟩ := getE_inv hk2
        obtain ⟨ha3, hl3⟩ := agrees_mkE (ws := written x) (env := env) ha2 hls (fun d hd => (hl2 d hd).trans (hl1 d hd))
        exact ⟨s2, ⟨hos.trans hos2, hd2.trans hd, ha3, hI2, hl3⟩, hlt⟩
      | exit i => exact DPost.mono (Q := Q) (e := .exit i) hos hd hl1 (fun d hd => by simp [written, hd]) (fun d hd => by simp [written, hd]) hq
      | goto i => exact DPost.mono (Q := Q) (e := .goto i) hos hd hl1 (fun d hd => by simp [written, hd]) (fun d hd => by simp [written, hd]) hq
      | ret => exact DPost.mono (Q := Q) (e := .ret) hos hd hl1 (fun d hd => by simp [written, hd]) (fun d hd => by simp [written, hd]) hq
      | _ => exact hq.elim
    · exact h.elim
  | scope x ih =>
    intro m A Q env a w ha h
    cases m with
    | some l => exact h.elim
    | none =>
    have drop : ∀ {e : Exit} {env1 : Env} {a1 : Act} {w1 : World} {a2 : Act} {w2 : World}, DPost n (written x) env1 a1 w1 (noG Q) e a2 w2 → Exit.noGoto (DPost n (written x) env1 a1 w1 Q) e a2 w2 := by
      intro e env1 a1 w1 a2 w2 hq
      cases e with
      | goto l => obtain ⟨_, _, _, _, hk, _⟩ := hq; exact hk.elim
      | _ => exact hq
    unfold den at h
    split at h
    · rename_i t l Ax Ay
      refine wp_scope_g (wp_mono (ih none Ax _ env a w ha h) ?_)
      intro e a1 w1 hq
      cases e with
      | normal => exact hq
      | exit i => exact hq
      | goto l' =>
        obtain ⟨hos, hd, env1, ha1, hk1, hl1⟩ := hq
        cases hb : Nat.beq l' t with
        | true =>
          have e := Nat.eq_of_beq_eq_true hb
          subst e
          unfold scpK at hk1
          simp only [hb] at hk1
          obtain ⟨s, hs, hls⟩ := getE_inv hk1
          obtain ⟨ha2, hl2⟩ := agrees_mkE ha1 hls hl1
          obtain ⟨rest, hf, hr⟩ := ih (some l') Ay (noG Q) _ a1 w1 ha2 hs
          refine ⟨rest, hf, wp_mono hr ?_⟩
          intro e a2 w2 hq2
          have hq3 := drop hq2
          cases e with
          | goto l => exact hq3.elim
          | normal => exact DPost.mono (Q := Q) (e := .normal) hos hd hl2 (ws := written x) (fun d hd => hd) (fun d hd => hd) hq3
          | exit i => exact DPost.mono (Q := Q) (e := .exit i) hos hd hl2 (ws := written x) (fun d hd => hd) (fun d hd => hd) hq3
          | ret => exact DPost.mono (Q := Q) (e := .ret) hos hd hl2 (ws := written x) (fun d hd => hd) (fun d hd => hd) hq3
          | _ => exact hq3.elim
        | false =>
          unfold scpK at hk1
          simp only [hb] at hk1
      | ret => exact hq
      | _ => exact hq.elim
    · refine wp_scope_straight (wp_mono (ih none A.sub (noG Q) env a w ha h) ?_)
      intro e a1 w1 hq
      exact drop hq
  | exit i =>
    intro m A Q env a w ha h
    cases m with
    | none => exact wp_exit (Left.refl ha h)
    | some l => exact h.elim
  | ret =>
    intro m A Q env a w ha h
    cases m with
    | none => exact wp_ret (Left.refl ha h)
    | some l => exact h.elim
  | goto l =>
    intro m A Q env a w ha h
    cases m with
    | none => exact wp_goto (Left.refl ha h)
    | some l' => exact h.elim
  | rangeFunc f ps x y _ _ => intro m A Q env a w ha h; cases m <;> exact h.elim
  | refuse s => intro m A Q env a w ha h; cases m <;> exact h.elim

def resOne (a : Act) : ResultVar → Sem Value
  | .tmp t => pure (a.tmps.getD t undef)
  | .cell ad t => do loadVar t (← asAddr (a.tmps.getD ad undef))

theorem results_eq (fn : Func) (a : Act) : results fn a.tmps = (do
    let vs ← fn.results.mapM (resOne a)
    pure (if h : vs.size = 1 then vs[0] else .tuple vs)) := rfl

theorem resX_run {env : Env} {a : Act} {w : World} {n : Nat} (ha : Agrees n env a) : ∀ {rs : List ResultVar} {K : List Value → Prop}, resX P env w.heap rs K →
    ∃ vs : List Value, (rs.mapM (resOne a)).run P w = .ok vs w ∧ vs.length = rs.length ∧ K vs
  | [], K, h => ⟨[], rfl, rfl, h⟩
  | .tmp t :: r, K, h => by
    unfold resX at h
    have h1 := ev1_eval ha h
    obtain ⟨vs, h2, h3, h4⟩ := resX_run ha h1
    refine ⟨a.tmps.getD t undef :: vs, ?_, by simp [h3], h4⟩
    simp only [List.mapM_cons, resOne, Sem.run_bind, Sem.run_pure, Result.andThen_ok, h2]
  | .cell ad t :: r, K, h => by
    unfold resX at h
    split at h
    · rename_i d hd
      have h1 := ev1_eval ha h
      split at h1
      · rename_i q hq
        cases q with
        | none => exact h1.elim
        | some b =>
          have h1' : ldT P t b w.heap fun v => resX P env w.heap r fun vs => K (v :: vs) := h1
          obtain ⟨u, h5, h6⟩ := ldT_run (P := P) (w := w) h1' hd
          obtain ⟨vs, h2, h3, h4⟩ := resX_run ha h6
          refine ⟨u :: vs, ?_, by simp [h3], h4⟩
          have hq' : a.tmps.getD ad undef = .pointer (some b) := hq
          simp only [List.mapM_cons, resOne, Sem.run_bind, hq', asAddr, Sem.run_pure, Result.andThen_ok, h5, h2]
      · exact h1.elim
    · exact h.elim

theorem results_run {fn : Func} {env : Env} {a : Act} {w : World} {n : Nat} (ha : Agrees n env a) {K : List Value → Prop} (h : resX P env w.heap fn.results.toList K) :
    ∃ vs : List Value, (results fn a.tmps).run P w = .ok (retOf vs) w ∧ K vs := by
  obtain ⟨vs, h1, h2, h3⟩ := resX_run ha h
  refine ⟨vs, ?_, h3⟩
  rw [results_eq, Array.mapM_eq_mapM_toList]
  simp only [Sem.run_bind, Sem.run_map, h1, Result.andThen_ok, Sem.run_pure]
  congr 1
  unfold retOf
  clear h1 h2 h3
  match vs with
  | [] => rfl
  | [v] => rfl
  | v :: u :: r => simp

/-- a whole function -/
theorem call_of_fnX (hF : FnsOk P F) (hm : P.follows .mixedOrders = true) {f : FuncId} {fn : Func} (hfn : P.funcs[f]? = some fn) {A : Ann} {l : List Sh} {args : List Value} {h : Heap} {R : Tup l → Heap → Prop}
    (hn : Nat.ble args.length fn.ntmps = true) (hx : fnX P F fn A l args h R) : CallT P f args h l R := by
  intro w hw
  subst hw
  unfold fnX at hx
  split at hx
  · rename_i c hc
    refine calls_of_wp hfn hc ?_
    have hle : args.length ≤ fn.ntmps := Nat.le_of_ble_eq_true hn
    have ha : Agrees fn.ntmps (zipE (List.range args.length) args []) { tmps := args.toArray ++ Array.replicate (fn.ntmps - args.toArray.size) undef, defers := [] } := by
      refine ⟨by simp; omega, ?_⟩
      intro d v hd
      rcases look_zipE hd with ⟨i, h1, h2⟩ | ⟨h1, _⟩
      · have hi : i < args.length := (List.getElem?_eq_some_iff.1 h2).1
        have hdi : d = i := by
          rw [List.getElem?_range hi] at h1
          injection h1 with h1; exact h1.symm
        subst hdi
        refine ⟨by omega, ?_⟩
        rw [Array.getElem?_append_left (by simpa using hi)]
        simpa using h2
      · simp [look] at h1
    refine wp_mono (den_sound hF hm fn.ntmps c none A _ _ _ w ha hx) ?_
    intro e a' w' hq
    have fin : ∀ (ha' : Left fn.ntmps (written c) (zipE (List.range args.length) args []) { tmps := args.toArray ++ Array.replicate (fn.ntmps - args.toArray.size) undef, defers := [] } w
        (fun env h => resX P env h fn.results.toList fun vs => match getT l vs with | some s => R s h | none => False) a' w'),
        a'.defers = [] ∧ ∃ v, (results fn a'.tmps).run P w' = .ok v w' ∧ (SameOs w w' ∧ ∃ s, Ending.returned v = .returned (retOf (mkT l s)) ∧ R s w'.heap) := by
      rintro ⟨hos, hd, env', ha', hk, _⟩
      obtain ⟨vs, h1, h2⟩ := results_run ha' hk
      split at h2
      · rename_i s hs
        exact ⟨hd, _, h1, hos, s, by rw [getT_mk hs], h2⟩
      · exact h2.elim
    cases e with
    | normal => exact fin hq
    | ret => exact fin hq
    | exit i => obtain ⟨_, _, _, _, hk, _⟩ := hq; exact hk.elim
    | goto i => obtain ⟨_, _, _, _, hk, _⟩ := hq; exact hk.elim
    | _ => exact hq.elim
  · exact hx.elim

end
end Go.Proofs.Ytjpmjhnjdnbopaa.D
