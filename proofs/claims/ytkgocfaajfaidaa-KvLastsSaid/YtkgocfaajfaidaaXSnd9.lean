/- Soundness of regions that draw their order: one walk, the quiet operations as early as they may come, serves every order. -/
import Derived.Test.YtkgocfaajfaidaaXSnd8
namespace Go.Proofs.Ytkgocfaajfaidaa.D
open Go
set_option linter.unusedVariables false
set_option linter.unusedSimpArgs false

theorem bitsOf_inv {acc : List Nat} {i : Nat} : ∀ {es : List Edge} {s : Nat}, (bitsOf acc es s).testBit i = true → s.testBit i = true ∨ ∃ e ∈ es, Region.binds .any e = true ∧ (e.on = i ∨ (acc.getD e.on 0).testBit i = true)
  | [], s, h => .inl h
  | e :: r, s, h => by
    unfold bitsOf at h
    cases hb : Region.binds .any e with
    | false =>
      simp only [hb] at h
      rcases bitsOf_inv h with h | ⟨e', h1, h2⟩
      · exact .inl h
      · exact .inr ⟨e', List.mem_cons_of_mem _ h1, h2⟩
    | true =>
      simp only [hb] at h
      rcases bitsOf_inv h with h | ⟨e', h1, h2⟩
      · rw [Nat.testBit_or, Nat.testBit_or, Nat.testBit_two_pow] at h
        simp only [Bool.or_eq_true, decide_eq_true_eq] at h
        rcases h with (h | h) | h
        · exact .inl h
        · exact .inr ⟨e, by simp, hb, .inl h⟩
        · exact .inr ⟨e, by simp, hb, .inr h⟩
      · exact .inr ⟨e', List.mem_cons_of_mem _ h1, h2⟩

theorem bitsOf_mono {acc : List Nat} {i : Nat} : ∀ {es : List Edge} {s : Nat}, s.testBit i = true → (bitsOf acc es s).testBit i = true
  | [], s, h => h
  | e :: r, s, h => by
    unfold bitsOf
    cases hb : Region.binds .any e with
    | false => exact bitsOf_mono h
    | true => exact bitsOf_mono (by rw [Nat.testBit_or, Nat.testBit_or, h]; simp)

theorem bitsOf_direct {acc : List Nat} : ∀ {es : List Edge} {s : Nat} {e : Edge}, e ∈ es → Region.binds .any e = true → (bitsOf acc es s).testBit e.on = true
  | e' :: r, s, e, he, hb => by
    unfold bitsOf
    rcases List.mem_cons.1 he with rfl | he
    · simp only [hb]
      exact bitsOf_mono (by rw [Nat.testBit_or, Nat.testBit_or, Nat.testBit_two_pow]; simp)
    · cases hb' : Region.binds .any e' with
      | false => exact bitsOf_direct he hb
      | true => exact bitsOf_direct he hb

/-- what 'closL' has made of the first operations -/
structure ClosPart (ops : Array Oper) (acc : List Nat) : Prop where
  only : ∀ listed, Closed ops listed → ∀ j o, j < acc.length → ops[j]? = some o → (∀ e ∈ o.after, Region.binds .any e = true → listed.getD e.on false = true) → ∀ i, (acc.getD j 0).testBit i = true → listed.getD i false = true
  direct : ∀ j o, j < acc.length → ops[j]? = some o → ∀ e ∈ o.after, Region.binds .any e = true → (acc.getD j 0).testBit e.on = true
  le : acc.length ≤ ops.size

theorem getD_false_true {listed : Array Bool} {i : Nat} (h : listed.getD i false = true) (d : Bool) : listed.getD i d = true := by
  rcases Nat.lt_or_ge i listed.size with h' | h'
  · simp [h'] at h ⊢; exact h
  · simp [Array.getElem?_eq_none h'] at h

theorem closL_part {ops : Array Oper} : ∀ (l : List Oper) (acc : List Nat), ops.toList.drop acc.length = l → ClosPart ops acc → ClosPart ops (closL l acc) ∧ (closL l acc).length = acc.length + l.length
  | [], acc, _, h => ⟨h, rfl⟩
  | o :: r, acc, hd, h => by
    have hok : ops[acc.length]? = some o := by
      rw [← Array.getElem?_toList]
      have := congrArg (fun l => l[0]?) hd
      simpa using this
    have hlt : acc.length < ops.size := (Array.getElem?_eq_some_iff.1 hok).1
    have hdr : ops.toList.drop (acc ++ [bitsOf acc o.after.toList 0]).length = r := by
      have := congrArg List.tail hd
      simpa [List.tail_drop] using this
    have hold : ∀ j, j < acc.length → (acc ++ [bitsOf acc o.after.toList 0]).getD j 0 = acc.getD j 0 := fun j hj => by
      simp [List.getD_eq_getElem?_getD, List.getElem?_append_left hj]
    have hnew : (acc ++ [bitsOf acc o.after.toList 0]).getD acc.length 0 = bitsOf acc o.after.toList 0 := by
      simp [List.getD_eq_getElem?_getD]
    have hp : ClosPart ops (acc ++ [bitsOf acc o.after.toList 0]) := by
      refine ⟨?_, ?_, by simp; omega⟩
      · intro listed hcl j oj hj hoj hpre i hi
        by_cases hj' : j < acc.length
        · rw [hold j hj'] at hi
          exact h.only listed hcl j oj hj' hoj hpre i hi
        · have : j = acc.length := by simp at hj; omega
          subst this
          rw [hok] at hoj; injection hoj with hoj; subst hoj
          rw [hnew] at hi
          rcases bitsOf_inv hi with h0 | ⟨e, he, hb, hor⟩
          · simp at h0
          · have hl := hpre e (by simpa using he) hb
            rcases hor with rfl | hor
            · exact hl
            · have hlt' : e.on < acc.length := by
                rcases Nat.lt_or_ge e.on acc.length with h' | h'
                · exact h'
                · rw [List.getD_eq_getElem?_getD, List.getElem?_eq_none h'] at hor
                  simp at hor
              obtain ⟨oe, hoe⟩ : ∃ oe, ops[e.on]? = some oe := ⟨_, Array.getElem?_eq_getElem (by omega)⟩
              exact h.only listed hcl e.on oe hlt' hoe (hcl e.on oe hoe (getD_false_true hl true)) i hor
      · intro j oj hj hoj e he hb
        by_cases hj' : j < acc.length
        · rw [hold j hj']; exact h.direct j oj hj' hoj e he hb
        · have : j = acc.length := by simp at hj; omega
          subst this
          rw [hok] at hoj; injection hoj with hoj; subst hoj
          rw [hnew]
          exact bitsOf_direct (by simpa using he) hb
    obtain ⟨h1, h2⟩ := closL_part r _ hdr hp
    exact ⟨h1, by
      show (closL r (acc ++ [bitsOf acc o.after.toList 0])).length = _
      rw [h2]; simp; omega⟩

theorem closL_ok (ops : Array Oper) : ClosPart ops (closL ops.toList []) ∧ (closL ops.toList []).length = ops.size := by
  have h := closL_part (ops := ops) ops.toList [] (by simp) ⟨fun _ _ j _ hj => by simp at hj, fun j _ hj => by simp at hj, by simp⟩
  exact ⟨h.1, by simpa using h.2⟩

theorem closL_ClosOk (ops : Array Oper) : ClosOk ops (closL ops.toList []) := by
  intro listed hcl hsz j hj i hi
  obtain ⟨h1, h2⟩ := closL_ok ops
  obtain ⟨_, o, ho, hall⟩ := mem_ready.1 hj
  exact h1.only listed hcl j o (by rw [h2]; exact (Array.getElem?_eq_some_iff.1 ho).1) ho hall i hi

theorem early_quiet {P : Program} {op : Op} (h : isEarly P op = true) : isQuiet P op = true := by
  cases op <;> first | exact h | cases h

theorem findQ_some {P : Program} {ops : Array Oper} {i : Nat} : ∀ {l : List Nat}, findQ P ops l = some i → i ∈ l ∧ ∃ o, ops[i]? = some o ∧ isEarly P o.op = true
  | k :: r, h => by
    unfold findQ at h
    split at h
    · rename_i o ho
      split at h
      · rename_i he
        injection h with h; subst h
        exact ⟨by simp, o, ho, he⟩
      · obtain ⟨h1, h2⟩ := findQ_some h
        exact ⟨List.mem_cons_of_mem _ h1, h2⟩
    · obtain ⟨h1, h2⟩ := findQ_some h
      exact ⟨List.mem_cons_of_mem _ h1, h2⟩

theorem findQ_none {P : Program} {ops : Array Oper} : ∀ {l : List Nat}, findQ P ops l = none → ∀ i ∈ l, ∀ o, ops[i]? = some o → isEarly P o.op = false
  | k :: r, h, i, hi, o, ho => by
    unfold findQ at h
    split at h
    · rename_i o' ho'
      split at h
      · cases h
      · rename_i he
        rcases List.mem_cons.1 hi with rfl | hi
        · rw [ho'] at ho; injection ho with ho; subst ho; exact he
        · exact findQ_none h i hi o ho
    · rename_i hn
      rcases List.mem_cons.1 hi with rfl | hi
      · rw [hn] at ho; cases ho
      · exact findQ_none h i hi o ho

theorem freshB_spec {ops : Array Oper} {listed : Array Bool} {i : Nat} (h : freshB ops listed i = true) : ∃ o d, ops[i]? = some o ∧ o.dst = some d ∧ d ∉ o.looksAt ops ∧
    ∀ p q, ops[p]? = some q → listed.getD p false = true → d ∉ q.looksAt ops ∧ q.dst ≠ some d := by
  unfold freshB at h
  split at h
  · cases h
  · rename_i o ho
    split at h
    · cases h
    · rename_i d hd
      simp only [Bool.and_eq_true, Bool.not_eq_true', List.all_eq_true, List.mem_range] at h
      obtain ⟨h1, h2⟩ := h
      refine ⟨o, d, ho, hd, by simpa using h1, ?_⟩
      intro p q hq hl
      have h3 := h2 p (Array.getElem?_eq_some_iff.1 hq).1
      simp only [hl, Bool.not_true, Bool.false_or, hq, Bool.and_eq_true, Bool.not_eq_true', bne_iff_ne] at h3
      exact ⟨by simpa using h3.1, h3.2⟩

theorem keepL_mem {b : Nat} {j : Nat} : ∀ {l : List Nat}, j ∈ l → b.testBit j = false → j ∈ keepL b l
  | k :: r, hj, hb => by
    unfold keepL
    rcases List.mem_cons.1 hj with rfl | hj
    · rw [hb]; exact List.mem_cons_self ..
    · cases hk : b.testBit k with
      | true => exact keepL_mem hj hb
      | false => exact List.mem_cons_of_mem _ (keepL_mem hj hb)

theorem stabX_inv {P : Program} {all : List Oper} {env : Env} {h : Heap} {K : Prop} : ∀ {l : List Nat}, stabX P all env h l K →
    K ∧ ∀ j ∈ l, ∃ o, all[j]? = some o ∧ (isPure P o.op = true ∨ ∃ d v, o.dst = some d ∧ look d env = some v ∧ qx P o.op env h (fun v' => v' = v))
  | [], hs => ⟨hs, by simp⟩
  | j :: r, hs => by
    unfold stabX at hs
    split at hs
    · rename_i o ho
      split at hs
      · rename_i hp
        obtain ⟨h1, h2⟩ := stabX_inv hs
        refine ⟨h1, fun k hk => ?_⟩
        rcases List.mem_cons.1 hk with rfl | hk
        · exact ⟨o, ho, .inl hp⟩
        · exact h2 k hk
      · split at hs
        · rename_i d hd
          obtain ⟨v, hv, h3, h4⟩ := ev1_inv hs
          obtain ⟨h1, h2⟩ := stabX_inv h4
          refine ⟨h1, fun k hk => ?_⟩
          rcases List.mem_cons.1 hk with rfl | hk
          · exact ⟨o, ho, .inr ⟨d, v, hd, hv, h3⟩⟩
          · exact h2 k hk
        · exact hs.elim
    · exact hs.elim

section
variable {P : Program} {F : List Nat} {ops : Array Oper} {Q : Exit → Act → World → Prop}

/-- what is known of an operation that was taken early -/
structure Held (P : Program) (ops : Array Oper) (listed : Array Bool) (pend : List Nat) (env : Env) (a : Act) (h : Heap) (p : Nat × Value) (o : Oper) (d : Nat) : Prop where
  op : ops[p.1]? = some o
  early : isEarly P o.op = true
  dst : o.dst = some d
  isl : listed.getD p.1 false = true
  free : ∀ j oj, ops[j]? = some oj → j ≠ p.1 → listed.getD j true = false → (∀ e ∈ oj.after, Region.binds .any e = true → e.on ≠ p.1) → o.apart ops oj = true
  self : d ∉ o.looksAt ops
  val : (Region.wanted o (yielded ops a.tmps) = true ∧ look d env = some p.2 ∧ qx P o.op env h (fun v => v = p.2) ∧ p.1 ∈ pend) ∨ (Region.wanted o (yielded ops a.tmps) = false ∧ p.2 = undef)

theorem Held.yl {listed : Array Bool} {pend : List Nat} {env : Env} {a : Act} {w : World} {p : Nat × Value} {o : Oper} {d n : Nat} (hh : Held P ops listed pend env a w.heap p o d) (ha : Agrees n env a) : YlAt P ops p a w := by
  refine ⟨o, hh.op, ?_⟩
  rcases hh.val with ⟨h1, _, h3, _⟩ | ⟨h1, h2⟩
  · obtain ⟨u, h4, rfl⟩ := qx_sound (P := P) (w := w) ha h3
    exact .inl ⟨h1, h4⟩
  · exact .inr ⟨h1, h2⟩

theorem operand_looks {o : Oper} {x : Operand} {t : Nat} (hx : x ∈ o.op.operands) (ht : x = .tmp t) : t ∈ o.looksAt ops := by
  subst ht
  exact List.mem_append_left _ (List.mem_filterMap.2 ⟨.tmp t, by simpa using hx, rfl⟩)

/-- operands are known as before where no slot of theirs was written -/
theorem operands_same {o : Oper} {env env' : Env} {dst : Option Tmp} (h : ∀ d, dst ≠ some d → look d env' = look d env) (hn : ∀ d, dst = some d → d ∉ o.looksAt ops) : ∀ x ∈ o.op.operands, ev env x = ev env' x := by
  intro x hx
  cases x with
  | tmp t =>
    have : dst ≠ some t := fun e => hn t e (operand_looks hx rfl)
    exact (h t this).symm
  | _ => rfl

/-- behind another operation, which writes no slot that this one looks at, nor its own -/
theorem Held.step {listed : Array Bool} {pend pend' : List Nat} {env env' : Env} {a : Act} {h h' : Heap} {p : Nat × Value} {o : Oper} {d : Nat} (hh : Held P ops listed pend env a h p o d)
    {i : Nat} {dst : Option Tmp} {u : Value} (hlook : ∀ d, dst ≠ some d → look d env' = look d env) (h1 : ∀ k, dst = some k → k ∉ o.looksAt ops) (h2 : dst ≠ some d)
    (hpend : p.1 ∈ pend → p.1 ∈ pend') (hheap : Region.wanted o (yielded ops a.tmps) = true → qx P o.op env h (fun v => v = p.2) → p.1 ∈ pend → qx P o.op env' h' (fun v => v = p.2)) :
    Held P ops (listed.setIfInBounds i true) pend' env' (a.put dst u) h' p o d := by
  refine ⟨hh.op, hh.early, hh.dst, getD_set_true hh.isl, ?_, hh.self, ?_⟩
  · intro j oj hj hne hun hno
    refine hh.free j oj hj hne ?_ hno
    by_cases hij : i = j
    · subst hij
      rcases Nat.lt_or_ge i listed.size with h' | h'
      · simp [h'] at hun
      · simp [Array.getElem?_eq_none h'] at hun
    · rw [getD_set_ne true hij] at hun; exact hun
  · rw [wanted_put o a dst u h1]
    rcases hh.val with ⟨w1, w2, w3, w4⟩ | ⟨w1, w2⟩
    · exact .inl ⟨w1, by rw [hlook d h2]; exact w2, hheap w1 w3 w4, hpend w4⟩
    · exact .inr ⟨w1, w2⟩

theorem ready_size {listed : Array Bool} {i : Nat} (h : i ∈ Region.ready .any ops listed) : listed.getD i true = false := (mem_ready.1 h).1

theorem drawX_sound (hF : FnsOk P F) (ro : Option Nat) {n : Nat} (hs : Region.noSelect ops = true) (hnd : ∀ (j : Nat) (o : Oper) c, ops[j]? = some o → o.op ≠ .defer c) (hQ : ∀ c a w, ¬ Q (.panic c) a w) : ∀ (fuel : Nat) (order : Ord) (listed : Array Bool) (L : List (Nat × Value)) (pend : List Nat) (env : Env) (a : Act) (w : World) (K : Env → Heap → Prop),
    canonD P ops fuel listed = some order → Closed ops listed → listed.size = ops.size → Agrees n env a → (∀ p ∈ L, ∃ o d, Held P ops listed pend env a w.heap p o d) →
    drawX P F n ops.toList (closL ops.toList []) order pend env w.heap K → (∀ a' w', Left n (dstsOf ops.toList) env a w K a' w' → Q .normal a' w') →
    wpAnyI ro P ops (closL ops.toList []) Q fuel L listed a w
  | 0, order, listed, L, pend, env, a, w, K, hc, hcl, hsz, ha, hL, h, hq => by
    unfold canonD at hc
    split at hc
    · rename_i hr
      injection hc with hc; subst hc
      exact ⟨hr, hq a w ⟨.refl w, rfl, env, ha, h, fun _ _ => rfl⟩⟩
    · cases hc
  | fuel + 1, order, listed, L, pend, env, a, w, K, hc, hcl, hsz, ha, hL, h, hq => by
    have hsel := Region.noSelect_spec hs
    unfold canonD at hc
    split at hc
    · -- a quiet operation, taken early
      rename_i i hfq
      obtain ⟨hi, o, ho, hearly⟩ := findQ_some hfq
      split at hc
      · rename_i hfree hfresh
        split at hc
        · rename_i r hr
          injection hc with hc; subst hc
          obtain ⟨o', d, ho', hd, hself, hfr⟩ := freshB_spec hfresh
          rw [ho] at ho'; injection ho' with ho'; subst ho'
          have hot : ops.toList[i]? = some o := by rw [Array.getElem?_toList]; exact ho
          have hmem : o ∈ ops.toList := List.mem_of_getElem? hot
          have hdst : ∀ k, k ∉ dstsOf ops.toList → o.dst ≠ some k := fun k hk hk2 => hk (List.mem_filterMap.2 ⟨o, hmem, hk2⟩)
          have hself' : ∀ k, o.dst = some k → k ∉ o.looksAt ops := fun k hk => by rw [hd] at hk; injection hk with hk; subst hk; exact hself
          have hfr' : ∀ p ∈ L, ∀ q, ops[p.1]? = some q → ∀ k, o.dst = some k → k ∉ q.looksAt ops := fun p hp q hq k hk => by
            rw [hd] at hk; injection hk with hk; subst hk
            obtain ⟨q', d', hh⟩ := hL p hp
            exact (hfr p.1 q hq hh.isl).1
          have hlisted : (listed.setIfInBounds i true).getD i false = true := by
            have : i < listed.size := by rw [hsz]; exact (Array.getElem?_eq_some_iff.1 ho).1
            simp [this]
          have hfreeI : ∀ (pend' : List Nat) j oj, ops[j]? = some oj → j ≠ i → (listed.setIfInBounds i true).getD j true = false → (∀ e ∈ oj.after, Region.binds .any e = true → e.on ≠ i) → o.apart ops oj = true := fun _ j oj hj hne hun hno => by
            rw [getD_set_ne true (Ne.symm hne)] at hun
            exact Region.free_spec ho hfree j oj hj hne hun hno
          unfold drawX at h
          simp only [hot, hearly] at h
          obtain ⟨env1, ha1, hl1, hg⟩ := guardX_inv ha h
          have hL1 : ∀ p ∈ L, ∃ o d, Held P ops listed pend env1 a w.heap p o d := fun p hp => by
            obtain ⟨q, d', hh⟩ := hL p hp
            refine ⟨q, d', hh.op, hh.early, hh.dst, hh.isl, hh.free, hh.self, ?_⟩
            rcases hh.val with ⟨w1, w2, w3, w4⟩ | hv
            · refine .inl ⟨w1, by rw [hl1]; exact w2, ?_, w4⟩
              rw [qx_congr (env' := env) (fun x hx => by cases x <;> first | exact hl1 _ | rfl)]; exact w3
            · exact .inr hv
          rcases hg with ⟨hw, hg⟩ | ⟨hw, hg⟩
          · unfold opX at hg
            simp only [early_quiet hearly] at hg
            obtain ⟨v, hk, hdet⟩ := det_qx _ hg
            have hqv : qx P o.op env1 w.heap (fun x => x = v) := hdet _ rfl
            obtain ⟨u, hrun, rfl⟩ := qx_sound (P := P) (w := w) ha1 hqv
            obtain ⟨env2, hk2, ha2, hl2, hv2⟩ := putK_inv ha1 hk
            have hL2 : ∀ p ∈ (i, u) :: L, ∃ q d', Held P ops (listed.setIfInBounds i true) (i :: pend) env2 (a.put o.dst u) w.heap p q d' := by
              intro p hp
              rcases List.mem_cons.1 hp with rfl | hp
              · refine ⟨o, d, ho, hearly, hd, hlisted, hfreeI [], hself, .inl ⟨?_, hv2 d hd, ?_, by simp⟩⟩
                · rw [wanted_put o a o.dst u hself']; exact hw
                · rw [← qx_congr (env := env1) (operands_same hl2 hself')]; exact hqv
              · obtain ⟨q, d', hh⟩ := hL1 p hp
                obtain ⟨f1, f2⟩ := hfr p.1 q hh.op hh.isl
                have f1' : ∀ k, o.dst = some k → k ∉ q.looksAt ops := fun k hk => by rw [hd] at hk; injection hk with hk; subst hk; exact f1
                refine ⟨q, d', hh.step hl2 f1' ?_ (fun hm => List.mem_cons_of_mem _ hm) ?_⟩
                · rw [hd, ← hh.dst]; exact Ne.symm f2
                · intro _ hqx _
                  rw [← qx_congr (env := env1) (operands_same hl2 f1')]; exact hqx
            refine wpAnyI_first (closL_ClosOk ops) ho hsel hnd hself' hQ fuel L listed a w hcl hsz (fun j oj hj hne hun hno => Region.free_spec ho hfree j oj hj hne hun hno) hi (.inl ⟨hw, hrun⟩) hfr' ?_ ?_
            · intro p hp
              obtain ⟨q, d', hh⟩ := hL2 p (List.mem_cons_of_mem _ hp)
              exact hh.yl ha2
            · refine drawX_sound hF ro hs hnd hQ fuel r _ ((i, u) :: L) (i :: pend) env2 _ w K hr (hcl.step hi) (by simpa using hsz) ha2 hL2 hk2 ?_
              rintro a3 w3 ⟨hos3, hdf3, env3, ha3, hk3, hl3⟩
              exact hq a3 w3 ⟨hos3, hdf3.trans (put_defers' _ _ _), env3, ha3, hk3, fun k hk => (hl3 k hk).trans ((hl2 k (hdst k hk)).trans (hl1 k))⟩
          · obtain ⟨env2, hk2, ha2, hl2, hv2⟩ := putK_inv ha1 hg
            have hL2 : ∀ p ∈ (i, undef) :: L, ∃ q d', Held P ops (listed.setIfInBounds i true) pend env2 (a.put o.dst undef) w.heap p q d' := by
              intro p hp
              rcases List.mem_cons.1 hp with rfl | hp
              · refine ⟨o, d, ho, hearly, hd, hlisted, hfreeI [], hself, .inr ⟨?_, rfl⟩⟩
                rw [wanted_put o a o.dst undef hself']; exact hw
              · obtain ⟨q, d', hh⟩ := hL1 p hp
                obtain ⟨f1, f2⟩ := hfr p.1 q hh.op hh.isl
                have f1' : ∀ k, o.dst = some k → k ∉ q.looksAt ops := fun k hk => by rw [hd] at hk; injection hk with hk; subst hk; exact f1
                refine ⟨q, d', hh.step hl2 f1' ?_ (fun hm => hm) ?_⟩
                · rw [hd, ← hh.dst]; exact Ne.symm f2
                · intro _ hqx _
                  rw [← qx_congr (env := env1) (operands_same hl2 f1')]; exact hqx
            refine wpAnyI_first (closL_ClosOk ops) ho hsel hnd hself' hQ fuel L listed a w hcl hsz (fun j oj hj hne hun hno => Region.free_spec ho hfree j oj hj hne hun hno) hi (.inr ⟨hw, rfl⟩) hfr' ?_ ?_
            · intro p hp
              obtain ⟨q, d', hh⟩ := hL2 p (List.mem_cons_of_mem _ hp)
              exact hh.yl ha2
            · refine drawX_sound hF ro hs hnd hQ fuel r _ ((i, undef) :: L) pend env2 _ w K hr (hcl.step hi) (by simpa using hsz) ha2 hL2 hk2 ?_
              rintro a3 w3 ⟨hos3, hdf3, env3, ha3, hk3, hl3⟩
              exact hq a3 w3 ⟨hos3, hdf3.trans (put_defers' _ _ _), env3, ha3, hk3, fun k hk => (hl3 k hk).trans ((hl2 k (hdst k hk)).trans (hl1 k))⟩
        · cases hc
      · cases hc
    · -- no quiet one may come: one operation may, or two
      rename_i hfq
      have hne0 : Region.ready .any ops listed ≠ [] := fun h0 => by
        rw [h0] at hc; cases hc
      have hex : ∀ j, j ∈ Region.ready .any ops listed → ∃ r, canonD P ops fuel (listed.setIfInBounds j true) = some r ∧ loudX P F n ops.toList (closL ops.toList []) j pend env w.heap (fun pend' env' h' => drawX P F n ops.toList (closL ops.toList []) r pend' env' h' K) := by
        have hfe : ∀ j ∈ Region.ready .any ops listed, ∀ o, ops[j]? = some o → isEarly P o.op = false := fun j hj o ho => findQ_none hfq j hj o ho
        intro j hj
        split at hc
        · rename_i i hr1
          rw [hr1] at hj hfe
          have hji : j = i := by simpa using hj
          subst hji
          split at hc
          · rename_i r hr
            injection hc with hc; subst hc
            refine ⟨r, hr, ?_⟩
            unfold drawX at h
            split at h
            · exact h.elim
            · rename_i o ho
              rw [Array.getElem?_toList] at ho
              rw [hfe j (by simp) o ho] at h
              exact h
          · cases hc
        · rename_i i i' hr1
          rw [hr1] at hj
          split at hc
          · rename_i r r' hr hr'
            injection hc with hc; subst hc
            unfold drawX at h
            have hji : j = i ∨ j = i' := by simpa using hj
            rcases hji with rfl | rfl
            · exact ⟨r, hr, h.1⟩
            · exact ⟨r', hr', h.2⟩
          · cases hc
        · cases hc
      clear hc h
      refine ⟨fun h0 => absurd h0 hne0, fun j hi => ?_⟩
      obtain ⟨r, hr, h⟩ := hex j hi
      obtain ⟨hun, o, ho, hall⟩ := mem_ready.1 hi
      have hearly : isEarly P o.op = false := findQ_none hfq j hi o ho
      have hot : ops.toList[j]? = some o := by rw [Array.getElem?_toList]; exact ho
      have hmem : o ∈ ops.toList := List.mem_of_getElem? hot
      have hdst : ∀ k, k ∉ dstsOf ops.toList → o.dst ≠ some k := fun k hk hk2 => hk (List.mem_filterMap.2 ⟨o, hmem, hk2⟩)
      have hclos := closL_ok ops
      -- of those that stay: they are apart from this one
      have hap : ∀ p ∈ keepP ((closL ops.toList []).getD j 0) L, ∀ q d', Held P ops listed pend env a w.heap p q d' → q.apart ops o = true ∧ ((closL ops.toList []).getD j 0).testBit p.1 = false := by
        intro p hp q d' hh
        have hnb : ((closL ops.toList []).getD j 0).testBit p.1 = false := by
          have := (List.mem_filter.1 hp).2
          simpa using this
        refine ⟨hh.free j o ho ?_ hun ?_, hnb⟩
        · intro e
          have := getD_false_true hh.isl true
          rw [← e, hun] at this; cases this
        · intro e he hb heq
          have := hclos.1.direct j o (by rw [hclos.2]; exact (Array.getElem?_eq_some_iff.1 ho).1) ho e he hb
          rw [heq, hnb] at this; cases this
      unfold loudX at h
      simp only [hot] at h
      obtain ⟨env1, ha1, hl1, hg⟩ := guardX_inv ha h
      have hL1 : ∀ p ∈ L, ∀ q d', Held P ops listed pend env a w.heap p q d' → Held P ops listed pend env1 a w.heap p q d' := fun p hp q d' hh => by
        refine ⟨hh.op, hh.early, hh.dst, hh.isl, hh.free, hh.self, ?_⟩
        rcases hh.val with ⟨w1, w2, w3, w4⟩ | hv
        · refine .inl ⟨w1, by rw [hl1]; exact w2, ?_, w4⟩
          rw [qx_congr (env' := env) (fun x hx => by cases x <;> first | exact hl1 _ | rfl)]; exact w3
        · exact .inr hv
      -- what is left of L behind this one
      have hstep : ∀ (env2 : Env) (u : Value) (h2 : Heap), (∀ d, o.dst ≠ some d → look d env2 = look d env1) →
          (∀ q : Oper, ∀ p : Nat × Value, ops[p.1]? = some q → p.1 ∈ keepL ((closL ops.toList []).getD j 0) pend → (∀ k, o.dst = some k → k ∉ q.looksAt ops) → look (q.dst.getD 0) env2 = some p.2 → q.dst.isSome = true → qx P q.op env1 w.heap (fun v => v = p.2) → qx P q.op env2 h2 (fun v => v = p.2)) →
          ∀ p ∈ keepP ((closL ops.toList []).getD j 0) L, ∃ q d', Held P ops (listed.setIfInBounds j true) (keepL ((closL ops.toList []).getD j 0) pend) env2 (a.put o.dst u) h2 p q d' := by
        intro env2 u h2 hl2 hq2 p hp
        have hpL := (List.mem_filter.1 hp).1
        obtain ⟨q, d', hh⟩ := hL p hpL
        obtain ⟨hap1, hnb⟩ := hap p hp q d' hh
        obtain ⟨_, a2, a3⟩ := Oper.apart_spec hap1
        have hne : o.dst ≠ some d' := fun e => a2 d' hh.dst e
        refine ⟨q, d', (hL1 p hpL q d' hh).step hl2 a3 hne (fun hm => keepL_mem hm hnb) ?_⟩
        intro hw hqx hm
        refine hq2 q p hh.op (keepL_mem hm hnb) a3 ?_ (by rw [hh.dst]; rfl) hqx
        rw [hh.dst]
        show look d' env2 = some p.2
        rw [hl2 d' hne]
        rcases (hL1 p hpL q d' hh).val with ⟨_, w2, _, _⟩ | ⟨w1, _⟩
        · exact w2
        · rw [hw] at w1; cases w1
      unfold wpOpIn
      simp only [ho]
      rcases hg with ⟨hw, hg⟩ | ⟨hw, hg⟩
      · rw [if_pos hw]
        cases hqt : isQuiet P o.op with
        | true =>
          unfold opX at hg
          simp only [hqt] at hg
          obtain ⟨v, hrun, hk⟩ := qx_sound (P := P) (w := w) ha1 hg
          obtain ⟨env2, hk2, ha2, hl2, hv2⟩ := putK_inv ha1 hk
          refine wpIn_of (fun c => hnd j o c ho) ?_
          rw [hrun]
          have hL2 := hstep env2 v w.heap hl2 (fun q p hqo hpk hnl hlk _ hqx => by
            rw [← qx_congr (env := env1) (operands_same hl2 hnl)]; exact hqx)
          refine ⟨fun p hp => ?_, ?_⟩
          · obtain ⟨q, d', hh⟩ := hL2 p hp
            exact hh.yl ha2
          · refine drawX_sound hF ro hs hnd hQ fuel r _ _ _ env2 _ w K hr (hcl.step hi) (by simpa using hsz) ha2 hL2 hk2 ?_
            rintro a3 w3 ⟨hos3, hdf3, env3, ha3, hk3, hl3⟩
            exact hq a3 w3 ⟨hos3, hdf3.trans (put_defers' _ _ _), env3, ha3, hk3, fun k hk => (hl3 k hk).trans ((hl2 k (hdst k hk)).trans (hl1 k))⟩
        | false =>
          simp only [hqt] at hg
          refine Oper.wpIn_mono ?_ (opX_sound hF ha1 hg ro Q)
          rintro a' w' ⟨hos, hdf, env2, v, rfl, ha2, hk, hl2, hv2⟩
          obtain ⟨hk2, hst⟩ := stabX_inv hk
          have hL2 := hstep env2 v w'.heap hl2 (fun q p hqo hpk hnl hlk hds hqx => by
            obtain ⟨q', hq', hor⟩ := hst p.1 hpk
            rw [Array.getElem?_toList, hqo] at hq'
            injection hq' with hq'; subst hq'
            rcases hor with hp | ⟨d', v', hd', hv', hx⟩
            · refine qx_pure (h := w.heap) hp ?_
              rw [← qx_congr (env := env1) (operands_same hl2 hnl)]; exact hqx
            · rw [hd'] at hlk
              have : v' = p.2 := by
                have e : look d' env2 = some p.2 := hlk
                rw [hv'] at e; injection e
              rw [← this]; exact hx)
          refine ⟨fun p hp => ?_, ?_⟩
          · obtain ⟨q, d', hh⟩ := hL2 p hp
            exact hh.yl ha2
          · refine drawX_sound hF ro hs hnd hQ fuel r _ _ _ env2 _ w' K hr (hcl.step hi) (by simpa using hsz) ha2 hL2 hk2 ?_
            rintro a3 w3 ⟨hos3, hdf3, env3, ha3, hk3, hl3⟩
            exact hq a3 w3 ⟨hos.trans hos3, hdf3.trans (put_defers' _ _ _), env3, ha3, hk3, fun k hk => (hl3 k hk).trans ((hl2 k (hdst k hk)).trans (hl1 k))⟩
      · rw [if_neg (by simp [hw])]
        obtain ⟨env2, hk2, ha2, hl2, hv2⟩ := putK_inv ha1 hg
        have hL2 := hstep env2 undef w.heap hl2 (fun q p hqo hpk hnl hlk _ hqx => by
          rw [← qx_congr (env := env1) (operands_same hl2 hnl)]; exact hqx)
        refine ⟨fun _ _ => trivial, fun p hp => ?_, ?_⟩
        · obtain ⟨q, d', hh⟩ := hL2 p hp
          exact hh.yl ha2
        · refine drawX_sound hF ro hs hnd hQ fuel r _ _ _ env2 _ w K hr (hcl.step hi) (by simpa using hsz) ha2 hL2 hk2 ?_
          rintro a3 w3 ⟨hos3, hdf3, env3, ha3, hk3, hl3⟩
          exact hq a3 w3 ⟨hos3, hdf3.trans (put_defers' _ _ _), env3, ha3, hk3, fun k hk => (hl3 k hk).trans ((hl2 k (hdst k hk)).trans (hl1 k))⟩

theorem Left.mono {n : Nat} {ws ws' : List Nat} {env : Env} {a : Act} {w : World} {K : Env → Heap → Prop} {a' : Act} {w' : World} (h : Left n ws env a w K a' w') (hs : ∀ d, d ∈ ws → d ∈ ws') : Left n ws' env a w K a' w' :=
  ⟨h.os, h.defers, let ⟨e, h1, h2, h3⟩ := h.ex; ⟨e, h1, h2, fun d hd => h3 d (fun hd' => hd (hs d hd'))⟩⟩

theorem regionX_sound (hF : FnsOk P F) (ro : Option Nat) (hm : P.follows .mixedOrders = true) (hQ : ∀ c a w, ¬ Q (.panic c) a w) {n id : Nat} {draw : Bool} {env : Env} {a : Act} {w : World} {K : Env → Heap → Prop} (ha : Agrees n env a)
    (h : regionX P F n ops draw env w.heap K) (hq : ∀ a' w', Left n (dstsOf ops.toList) env a w K a' w' → Q .normal a' w') : (Code.region id ops draw).wpIn (Wf ro) 0 P Q a w := by
  unfold regionX at h
  cases draw with
  | false =>
    have := regX_sound hF ro ops.toList 0 env a w K (by simp) ha h hq
    refine wpIn_region ?_
    rw [List.range_eq_range']
    simpa using this
  | true =>
    simp only at h
    split at h
    · rename_i order hs2 hc
      obtain ⟨hs, hnd0⟩ : Region.noSelect ops = true ∧ noDefer ops.toList = true := by simpa using hs2
      have hnd : ∀ (j : Nat) (o : Oper) c, ops[j]? = some o → o.op ≠ .defer c := fun j o c ho => noDefer_spec hnd0 o (List.mem_of_getElem? (by rw [Array.getElem?_toList]; exact ho)) c
      refine wpIn_region_any hm ?_
      have hw : ({ w with drawn := w.drawn + 1 } : World).heap = w.heap := rfl
      refine wpAnyI_any (cl := closL ops.toList []) (L := []) ?_
      refine drawX_sound hF ro hs hnd hQ ops.size order _ [] [] env a { w with drawn := w.drawn + 1 } K hc ?_ (by simp) ha (by simp) h ?_
      · intro j o ho hl
        have hlt : j < ops.size := (Array.getElem?_eq_some_iff.1 ho).1
        simp [hlt] at hl
      · rintro a' w' ⟨hos, h2, h3⟩
        exact hq a' w' ⟨⟨hos.1, hos.2.1, hos.2.2⟩, h2, h3⟩
    · exact h.elim

end
end Go.Proofs.Ytkgocfaajfaidaa.D
