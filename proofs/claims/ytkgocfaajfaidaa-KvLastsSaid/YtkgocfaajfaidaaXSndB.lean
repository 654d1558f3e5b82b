/- Soundness of the whole: 'den' of a body gives the call. -/
import Derived.Test.YtkgocfaajfaidaaXSndA
namespace Go.Proofs.Ytkgocfaajfaidaa.D
open Go
set_option linter.unusedVariables false
set_option linter.unusedSimpArgs false

section
variable {P : Program} {F : List Nat}

theorem mkS_len : ∀ (l : List Sc) (s : TupS l), (mkS l s).length = l.length
  | [], _ => rfl
  | [a], _ => rfl
  | a :: b :: r, x => by
    show (mkS (b :: r) x.2).length + 1 = _
    rw [mkS_len (b :: r) x.2]; rfl
theorem fold_zip (ps : Array Nat) (vs : List Value) (t : Array Value) : (ps.zip vs.toArray).foldl (fun tmps (p : Nat × Value) => tmps.setIfInBounds p.1 p.2) t = (ps.toList.zip vs).foldl (fun tmps (p : Nat × Value) => tmps.setIfInBounds p.1 p.2) t := by
  rw [← Array.foldl_toList, Array.toList_zip]
theorem okPs_inv {n d : Nat} {r : List Nat} (h : okPs n (d :: r) = true) : d < n ∧ d ∉ r ∧ okPs n r = true := by
  unfold okPs at h
  simp only [Bool.and_eq_true, Bool.not_eq_true'] at h
  refine ⟨?_, fun hm => ?_, h.2.2⟩
  · have := h.1; unfold Nat.blt at this; exact Nat.le_of_ble_eq_true this
  · rw [memN_iff.2 hm] at h; exact absurd h.2.1 (by simp)
theorem fold_get {n : Nat} : ∀ (ds : List Nat) (vs : List Value) (t : Array Value), okPs n ds = true → vs.length = ds.length → t.size = n →
    ((ds.zip vs).foldl (fun tmps (p : Nat × Value) => tmps.setIfInBounds p.1 p.2) t).size = n ∧
    (∀ k, k ∉ ds → ((ds.zip vs).foldl (fun tmps (p : Nat × Value) => tmps.setIfInBounds p.1 p.2) t)[k]? = t[k]?) ∧
    (∀ (i d : Nat) v, ds[i]? = some d → vs[i]? = some v → d < n ∧ ((ds.zip vs).foldl (fun tmps (p : Nat × Value) => tmps.setIfInBounds p.1 p.2) t)[d]? = some v)
  | [], [], t, _, _, ht => ⟨ht, fun _ _ => rfl, fun i d v h => by simp at h⟩
  | [], _ :: _, t, _, hl, _ => by simp at hl
  | _ :: _, [], t, _, hl, _ => by simp at hl
  | d :: ds, v :: vs, t, hok, hl, ht => by
    obtain ⟨h1, h2, h3⟩ := okPs_inv hok
    obtain ⟨g1, g2, g3⟩ := fold_get ds vs (t.setIfInBounds d v) h3 (by simpa using hl) (by simpa using ht)
    refine ⟨g1, fun k hk => ?_, fun i e u he hu => ?_⟩
    · simp only [List.zip_cons_cons, List.foldl_cons]
      rw [g2 k (fun hm => hk (by simp [hm])), Array.getElem?_setIfInBounds_ne (fun e => hk (by simp [e]))]
    · cases i with
      | zero =>
        simp only [List.getElem?_cons_zero, Option.some.injEq] at he hu
        subst he hu
        refine ⟨h1, ?_⟩
        simp only [List.zip_cons_cons, List.foldl_cons]
        rw [g2 d h2]
        simp [ht, h1]
      | succ i => exact g3 i e u (by simpa using he) (by simpa using hu)
theorem agrees_round {n : Nat} {env : Env} {a : Act} (ha : Agrees n env a) {ds : List Nat} (hok : okPs n ds = true) {vs : List Value} (hl : vs.length = ds.length) :
    Agrees n (zipE ds vs env) { tmps := (ds.zip vs).foldl (fun tmps (p : Nat × Value) => tmps.setIfInBounds p.1 p.2) a.tmps, defers := [] } := by
  obtain ⟨g1, g2, g3⟩ := fold_get ds vs a.tmps hok hl ha.1
  refine ⟨g1, fun d v hd => ?_⟩
  rcases look_zipE hd with ⟨i, h1, h2⟩ | ⟨h1, h2⟩
  · exact g3 i d v h1 h2
  · rcases h2 with h2 | h2
    · obtain ⟨q1, q2⟩ := ha.2 d v h1
      exact ⟨q1, (g2 d h2).trans q2⟩
    · omega

/-- what a piece of code does, from its start or from a label -/
def FromP (ro : Option Nat) (P : Program) (c : Code) (m : Option Nat) (Q : Exit → Act → World → Prop) (a : Act) (w : World) : Prop :=
  match m with
  | none => c.wpIn (Wf ro) 0 P Q a w
  | some l => ∃ rest, findLabel c l = some rest ∧ rest.wpIn (Wf ro) 0 P Q a w

theorem den_sound (hF : FnsOk P F) (hm : P.follows .mixedOrders = true) (n : Nat) : ∀ (c : Code) (ro : Option Nat) (m : Option Nat) (A : Ann) (Q : Ex → Env → Heap → Prop) (env : Env) (a : Act) (w : World), (ro.isSome = true → noRange c = true) → Agrees n env a →
    den P F n c m A Q env w.heap → FromP ro P c m (DPost (noRange c) n (written c) env a w Q) a w := by
  intro c
  induction c with
  | skip =>
    intro ro m A Q env a w hro ha h
    cases m with
    | none => exact wpIn_skip (DL.refl ha h)
    | some l => exact h.elim
  | label l =>
    intro ro m A Q env a w hro ha h
    cases m with
    | none => exact wpIn_label (DL.refl ha h)
    | some l' =>
      unfold den at h
      simp only at h
      split at h
      · rename_i hb
        refine ⟨.skip, ?_, wpIn_skip (DL.refl ha h)⟩
        unfold findLabel
        rw [if_pos (by rw [Nat.eq_of_beq_eq_true hb]; simp)]
      · exact h.elim
  | region id ops draw =>
    intro ro m A Q env a w hro ha h
    cases m with
    | none =>
      refine regionX_sound hF ro hm (fun _ _ _ h => h) ha h ?_
      intro a' w' hl
      exact hl.dl
    | some l => exact h.elim
  | seq x y ihx ihy =>
    intro ro m A Q env a w hro ha h
    have nx : noRange (.seq x y) = true → noRange x = true := fun e => by unfold noRange at e; simp only [Bool.and_eq_true] at e; exact e.1
    have ny : noRange (.seq x y) = true → noRange y = true := fun e => by unfold noRange at e; simp only [Bool.and_eq_true] at e; exact e.2
    have plain : ∀ {x' : Code} {Ax Ay : Ann}, x'.wpIn (Wf ro) 0 P (DPost (noRange x) n (written x) env a w (nrmK (den P F n y none Ay Q) Q)) a w → (Code.seq x' y).wpIn (Wf ro) 0 P (DPost (noRange (.seq x y)) n (written (.seq x y)) env a w Q) a w := by
      intro x' Ax Ay hx
      refine wpIn_seq (wpIn_mono hx ?_)
      intro e a1 w1 hq
      cases e with
      | normal =>
        obtain ⟨hos, hd, env1, ha1, hk1, hl1⟩ := hq
        refine wpIn_mono (ihy ro none Ay Q env1 a1 w1 (fun e => ny (hro e)) ha1 hk1) ?_
        intro e a2 w2 hq2
        exact DPost.mono hos hd hl1 (fun d hd => by simp [written, hd]) (fun d hd => by simp [written, hd]) nx ny hq2
      | exit i => exact DPost.sub (Q := Q) (e := .exit i) (fun d hd => by simp [written, hd]) nx hq
      | goto i => exact DPost.sub (Q := Q) (e := .goto i) (fun d hd => by simp [written, hd]) nx hq
      | ret => exact DPost.sub (Q := Q) (e := .ret) (fun d hd => by simp [written, hd]) nx hq
      | _ => exact hq.elim
    cases m with
    | none =>
      unfold den at h
      simp only at h
      split at h
      · rename_i l Ax Ay
        refine wpIn_seq ?_
        refine wpIn_mono (ihx ro none Ax _ env a w (fun e => nx (hro e)) ha h) ?_
        intro e a1 w1 hq
        cases e with
        | normal =>
          obtain ⟨hos, hd, env1, ha1, hk1, hl1⟩ := hq
          obtain ⟨s, hs, hls⟩ := getE_inv hk1
          obtain ⟨ha2, hl2⟩ := agrees_mkE ha1 hls hl1
          refine wpIn_mono (ihy ro none Ay Q _ a1 w1 (fun e => ny (hro e)) ha2 hs) ?_
          intro e a2 w2 hq2
          exact DPost.mono hos hd hl2 (fun d hd => by simp [written, hd]) (fun d hd => by simp [written, hd]) nx ny hq2
        | exit i => exact DPost.sub (Q := Q) (e := .exit i) (fun d hd => by simp [written, hd]) nx hq
        | goto i => exact DPost.sub (Q := Q) (e := .goto i) (fun d hd => by simp [written, hd]) nx hq
        | ret => exact DPost.sub (Q := Q) (e := .ret) (fun d hd => by simp [written, hd]) nx hq
        | _ => exact hq.elim
      · exact plain (Ax := A) (ihx ro none A.fst _ env a w (fun e => nx (hro e)) ha h)
    | some l =>
      unfold den at h
      simp only at h
      split at h
      · obtain ⟨rest, hf, hr⟩ := ihx ro (some l) A.fst _ env a w (fun e => nx (hro e)) ha h
        refine ⟨.seq rest y, ?_, plain (Ax := A) hr⟩
        unfold findLabel
        rw [hf]
      · rename_i hb
        obtain ⟨rest, hf, hr⟩ := ihy ro (some l) A.snd _ env a w (fun e => ny (hro e)) ha h
        refine ⟨rest, ?_, wpIn_mono hr ?_⟩
        · unfold findLabel
          rw [hasL_none hb]
          exact hf
        · intro e a2 w2 hq2
          exact DPost.sub (fun d hd => by simp [written, hd]) ny hq2
  | cond c x y ihx ihy =>
    intro ro m A Q env a w hro ha h
    have nx : noRange (.cond c x y) = true → noRange x = true := fun e => by unfold noRange at e; simp only [Bool.and_eq_true] at e; exact e.1
    have ny : noRange (.cond c x y) = true → noRange y = true := fun e => by unfold noRange at e; simp only [Bool.and_eq_true] at e; exact e.2
    cases m with
    | some l => exact h.elim
    | none =>
    unfold den at h
    have h1 := ev1_eval ha h
    split at h1
    · rename_i t ht
      rcases cnd_inv h1 with ⟨rfl, h2⟩ | ⟨rfl, h2⟩
      · refine wpIn_cond_true ht (wpIn_mono (ihx ro none A.fst Q env a w (fun e => nx (hro e)) ha h2) ?_)
        intro e a2 w2 hq2
        exact DPost.sub (fun d hd => by simp [written, hd]) nx hq2
      · refine wpIn_cond_false ht (wpIn_mono (ihy ro none A.snd Q env a w (fun e => ny (hro e)) ha h2) ?_)
        intro e a2 w2 hq2
        exact DPost.sub (fun d hd => by simp [written, hd]) ny hq2
    · exact h1.elim
  | block id x ih =>
    intro ro m A Q env a w hro ha h
    cases m with
    | some l => exact h.elim
    | none =>
    refine wpIn_block (wpIn_mono (ih ro none A.sub (blkK id Q) env a w hro ha h) ?_)
    intro e a1 w1 hq
    cases e with
    | normal => exact hq
    | exit j =>
      unfold Exit.inBlock
      have hq' : DL (noRange x) n (written x) env a w (blkK id Q (.exit j)) a1 w1 := hq
      unfold blkK at hq'
      by_cases e : j = id
      · subst e
        show (if j = j then DPost (noRange (.block j x)) n (written (.block j x)) env a w Q .normal a1 w1 else _)
        rw [if_pos rfl]
        simp only [Nat.beq_refl] at hq'
        exact hq'
      · have hb : Nat.beq j id = false := by
          cases hb : Nat.beq j id with
          | true => exact absurd (Nat.eq_of_beq_eq_true hb) e
          | false => rfl
        show (if j = id then DPost (noRange (.block id x)) n (written (.block id x)) env a w Q .normal a1 w1 else DPost (noRange (.block id x)) n (written (.block id x)) env a w Q (.exit j) a1 w1)
        rw [if_neg e]
        simp only [hb] at hq'
        exact hq'
    | goto l => exact hq
    | ret => exact hq
    | _ => exact hq.elim
  | loop x ih =>
    intro ro m A Q env a w hro ha h
    cases m with
    | some l => exact h.elim
    | none =>
    unfold den at h
    split at h
    · rename_i l Ax
      obtain ⟨s0, hs0, hl0⟩ := getE_inv h
      obtain ⟨I, μ, hI, hround⟩ := hs0
      let J : TupS (l.map (·.2)) → Act → World → Prop := fun s a' w' => SameOs w w' ∧ Mk (noRange x) w w' a a' ∧ Agrees n (mkE l s (dropE (written x) env)) a' ∧ I s w'.heap ∧ (∀ d, d ∉ written x → look d (mkE l s (dropE (written x) env)) = look d env)
      obtain ⟨haJ, hlJ⟩ := agrees_mkE (ws := written x) (env := env) ha hl0 (fun _ _ => rfl)
      refine wpIn_loop_ghost J (fun s w => μ s w.heap) (s := s0) ⟨.refl w, .refl _ _ _, haJ, hI, hlJ⟩ ?_
      rintro s a1 w1 ⟨hos, hd, ha1, hI1, hl1⟩
      refine wpIn_mono (ih ro none Ax _ _ a1 w1 hro ha1 (hround s w1.heap hI1)) ?_
      intro e a2 w2 hq
      cases e with
      | normal =>
        obtain ⟨hos2, hd2, env2, ha2, hk2, hl2⟩ := hq
        obtain ⟨s2, ⟨hI2, hlt⟩, hls⟩ := getE_inv hk2
        obtain ⟨ha3, hl3⟩ := agrees_mkE (ws := written x) (env := env) ha2 hls (fun d hd => (hl2 d hd).trans (hl1 d hd))
        exact ⟨s2, ⟨hos.trans hos2, hd.trans hd2 hos hos2 (fun e => e) (fun e => e), ha3, hI2, hl3⟩, hlt⟩
      | exit i => exact DPost.mono (Q := Q) (e := .exit i) hos hd hl1 (fun d hd => by simp [written, hd]) (fun d hd => by simp [written, hd]) (fun e => e) (fun e => e) hq
      | goto i => exact DPost.mono (Q := Q) (e := .goto i) hos hd hl1 (fun d hd => by simp [written, hd]) (fun d hd => by simp [written, hd]) (fun e => e) (fun e => e) hq
      | ret => exact DPost.mono (Q := Q) (e := .ret) hos hd hl1 (fun d hd => by simp [written, hd]) (fun d hd => by simp [written, hd]) (fun e => e) (fun e => e) hq
      | _ => exact hq.elim
    · exact h.elim
  | scope x ih =>
    intro ro m A Q env a w hro ha h
    cases m with
    | some l => exact h.elim
    | none =>
    have drop : ∀ {e : Exit} {env1 : Env} {a1 : Act} {w1 : World} {a2 : Act} {w2 : World}, DPost (noRange x) n (written x) env1 a1 w1 (noG Q) e a2 w2 → Exit.noGoto (DPost (noRange x) n (written x) env1 a1 w1 Q) e a2 w2 := by
      intro e env1 a1 w1 a2 w2 hq
      cases e with
      | goto l => obtain ⟨_, _, _, _, hk, _⟩ := hq; exact hk.elim
      | _ => exact hq
    unfold den at h
    split at h
    · rename_i t l Ax Ay
      refine wpIn_scope_g (wpIn_mono (ih ro none Ax _ env a w hro ha h) ?_)
      intro e a1 w1 hq
      cases e with
      | normal => exact hq
      | exit i => exact hq
      | goto l' =>
        obtain ⟨hos, hd, env1, ha1, hk1, hl1⟩ := hq
        cases hb : Nat.beq l' t with
        | true =>
          have e := Nat.eq_of_beq_eq_true hb
          subst e
          unfold scpK at hk1
          simp only [hb] at hk1
          obtain ⟨s, hs, hls⟩ := getE_inv hk1
          obtain ⟨ha2, hl2⟩ := agrees_mkE ha1 hls hl1
          obtain ⟨rest, hf, hr⟩ := ih ro (some l') Ay (noG Q) _ a1 w1 hro ha2 hs
          refine ⟨rest, hf, wpIn_mono hr ?_⟩
          intro e a2 w2 hq2
          have hq3 := drop hq2
          cases e with
          | goto l => exact hq3.elim
          | normal => exact DPost.mono (Q := Q) (e := .normal) hos hd hl2 (ws := written x) (fun d hd => hd) (fun d hd => hd) (fun e => e) (fun e => e) hq3
          | exit i => exact DPost.mono (Q := Q) (e := .exit i) hos hd hl2 (ws := written x) (fun d hd => hd) (fun d hd => hd) (fun e => e) (fun e => e) hq3
          | ret => exact DPost.mono (Q := Q) (e := .ret) hos hd hl2 (ws := written x) (fun d hd => hd) (fun d hd => hd) (fun e => e) (fun e => e) hq3
          | _ => exact hq3.elim
        | false =>
          unfold scpK at hk1
          simp only [hb] at hk1
      | ret => exact hq
      | _ => exact hq.elim
    · refine wpIn_scope_g (wpIn_mono (ih ro none A.sub (noG Q) env a w hro ha h) ?_)
      intro e a1 w1 hq
      have hq2 := drop hq
      cases e <;> first | exact hq2 | exact hq2.elim
  | exit i =>
    intro ro m A Q env a w hro ha h
    cases m with
    | none => exact wpIn_exit (DL.refl ha h)
    | some l => exact h.elim
  | ret =>
    intro ro m A Q env a w hro ha h
    cases m with
    | none => exact wpIn_ret (DL.refl ha h)
    | some l => exact h.elim
  | goto l =>
    intro ro m A Q env a w hro ha h
    cases m with
    | none => exact wpIn_goto (DL.refl ha h)
    | some l' => exact h.elim
  | rangeFunc g ps x y ihx ihy =>
    intro ro m A Q env a w hro ha h
    cases m with
    | some l => exact h.elim
    | none =>
    have hron : ro = none := by
      cases ro with
      | none => rfl
      | some l => have := hro rfl; cases this
    subst hron
    unfold den at h
    split at h
    · rename_i l Ax Ay
      split at h
      · rename_i hchk
        simp only [Bool.and_eq_true] at hchk
        obtain ⟨c1, c2, c3, c4⟩ := hchk
        replace c1 := Nat.eq_of_beq_eq_true c1
        have h1 := ev1_eval ha h
        obtain ⟨f, first, captured, hv, hbd, hsh, hr⟩ := h1
        obtain ⟨fnf, hfnf, hbody, hname⟩ := bodyB_ok hbd
        refine wpIn_rangeFunc ?_
        intro fn hfn
        obtain ⟨r0, hr0⟩ : ∃ r0 : Loop, r0 = { state := .ready, pending := none, fn := fn, tmps := a.tmps, params := ps, assign := x, body := y, defers := w.heap.size } := ⟨_, rfl⟩
        have hrdy : recO r0 .ready none = .loop { state := .ready, pending := none, fn := fn, tmps := a.tmps, params := ps, assign := x, body := y, defers := w.heap.size } := by rw [hr0]; rfl
        have hY : ∀ (s : TupS l) (h1 : Heap) (R : Bool → Heap → Prop), h1[w.heap.size + 1]? = some (recO r0 .ready none) →
            den P F n x none Ax (nrmK (fun env' h2 => h2[w.heap.size + 1]? = some (recO r0 .ready none) ∧ den P F n y none Ay (fun ex _ h3 => h3[w.heap.size + 1]? = some (recO r0 .busy none) ∧ R (nrmB ex) (h3.setIfInBounds (w.heap.size + 1) (recO r0 (match nrmB ex with | true => .ready | false => .done) (jumpC ex)))) env' (h2.setIfInBounds (w.heap.size + 1) (recO r0 .busy none))) (fun _ _ _ => False)) (zipE ps.toList (mkS l s) env) h1 →
            YldT P (w.heap.size + 1) (mkS l s) h1 R := by
          intro s h1 R hrec hden w1 hw1
          subst hw1
          rw [hrdy] at hrec
          have hy := run_yield (P := P) (args := (mkS l s).toArray) hrec (by simp [mkS_len, c1])
          refine ⟨fn, _, x, y, hy, ?_⟩
          have hag := agrees_round ha c2 (vs := mkS l s) (by rw [mkS_len, ← c1]; simp)
          have hx := ihx (some (w.heap.size + 1)) none Ax _ _ _ w1 (fun _ => c3) hag hden
          refine roundIn_of_wpIn (F := Fence.wide) trivial ?_
          rw [fold_zip]
          refine wpIn_mono (show x.wpIn (Fence.wide.inRound (w.heap.size + 1)) 0 P _ _ w1 from hx) ?_
          intro e a2 w2 hq
          cases e with
          | normal =>
            obtain ⟨os2, mk2, env2, ag2, ⟨hr2, hden2⟩, _⟩ := hq
            refine ⟨w2.putObj (w.heap.size + 1) (recO r0 .busy none), by rw [hrdy] at hr2; rw [run_beginRound hr2 rfl, hr0]; rfl, ?_⟩
            refine wpIn_mono (show y.wpIn (Fence.wide.inRound (w.heap.size + 1)) 0 P _ a2 _ from ihy (some (w.heap.size + 1)) none Ay _ env2 a2 (w2.putObj (w.heap.size + 1) (recO r0 .busy none)) (fun _ => c4) ag2 hden2) ?_
            have osb : SameOs w2 (w2.putObj (w.heap.size + 1) (recO r0 .busy none)) := ⟨rfl, rfl, rfl, .set _ _ _ _ hr2 (by simp [recO])⟩
            have done : ∀ (ex : Ex) (jump : Option Code) (w3 : World), jumpC ex = jump → SameOs (w2.putObj (w.heap.size + 1) (recO r0 .busy none)) w3 → w3.heap[w.heap.size + 1]? = some (recO r0 .busy none) →
                R (nrmB ex) (w3.heap.setIfInBounds (w.heap.size + 1) (recO r0 (match nrmB ex with | true => .ready | false => .done) (jumpC ex))) →
                ∃ v w', (Instr.endRound (w.heap.size + 1) jump).run P w3 = .ok v w' ∧ (SameOs w1 w' ∧ ∃ b, Ending.returned v = .returned (.bool b) ∧ R b w'.heap) := by
              intro ex jump w3 hj os3 hr3 hR
              subst hj
              refine ⟨_, _, run_endRound (jumpC ex) hr3, (os2.trans osb).trans (os3.trans ⟨rfl, rfl, rfl, .set _ _ _ _ hr3 (by simp [recO])⟩), nrmB ex, ?_, ?_⟩
              · cases ex <;> rfl
              · cases ex <;> exact hR
            intro e a3 w3 hq3
            cases e with
            | normal => obtain ⟨os3, _, env3, _, ⟨hr3, hR⟩, _⟩ := hq3; exact done .nrm _ w3 rfl os3 hr3 hR
            | ret => obtain ⟨os3, _, env3, _, ⟨hr3, hR⟩, _⟩ := hq3; exact done .ret _ w3 rfl os3 hr3 hR
            | exit i => obtain ⟨os3, _, env3, _, ⟨hr3, hR⟩, _⟩ := hq3; exact done (.exit i) _ w3 rfl os3 hr3 hR
            | goto i => obtain ⟨os3, _, env3, _, ⟨hr3, hR⟩, _⟩ := hq3; exact done (.goto i) _ w3 rfl os3 hr3 hR
            | _ => exact hq3.elim
          | exit i => obtain ⟨_, _, _, _, hk, _⟩ := hq; exact hk.elim
          | goto i => obtain ⟨_, _, _, _, hk, _⟩ := hq; exact hk.elim
          | ret => obtain ⟨_, _, _, _, hk, _⟩ := hq; exact hk.elim
          | _ => exact hq.elim
        have hk := hr r0 hY
        have he1 : first ++ #[Value.func (.yield (w.heap.size + 1)) #[] #[]] ++ captured = (first.toList ++ [Value.func (.yield (w.heap.size + 1)) #[] #[]] ++ captured.toList).toArray := by
          apply Array.toList_inj.1; simp
        refine ⟨w.heap.size + 1, [mkD w.heap.size], (w.alloc (.deferred (some []))).alloc (recO r0 .ready none), { target := .fn (.func f) captured, args := first ++ #[.func (.yield (w.heap.size + 1)) #[] #[]] }, (w.alloc (.deferred (some []))).alloc (recO r0 .ready none), f,
          (first.toList ++ [Value.func (.yield (w.heap.size + 1)) #[] #[]] ++ captured.toList).toArray, (w.alloc (.deferred (some []))).alloc (recO r0 .ready none), ?_, ?_, fun _ _ => trivial, ?_, (fun e => by cases e), ?_⟩
        · rw [hrdy]; exact run_enterLoop_outer _ _ _ _ _
        · simp only [resolve, hv, Deferred.ofValue, Sem.run_pure, rangeCall]
          simp [Act.eval]
        · have hnone : fnf.body.isNone = false := by cases hb2 : fnf.body with | none => rw [hb2] at hbody; cases hbody | some _ => rfl
          simp only [invoke, callFunc, Sem.run_bind, Sem.run_pure, Result.andThen_ok, run_program, hfnf, hname, hnone, Bool.false_eq_true, if_false, he1]
        · refine (callsW (hk _ rfl)).mono ?_
          rintro e w4 ⟨os4, s, rfl, hor⟩
          obtain ⟨ex, hrec4, hQ⟩ : ∃ ex, w4.heap[w.heap.size + 1]? = some (recO r0 (match nrmB ex with | true => .ready | false => .done) (jumpC ex)) ∧ Q ex env (w4.heap.setIfInBounds (w.heap.size + 1) (recO r0 .exhausted (jumpC ex))) := by
            rcases hor with ⟨q1, q2⟩ | ⟨q1, q2⟩ | ⟨p, hp, q1, q2⟩
            · exact ⟨.nrm, q1, q2⟩
            · refine ⟨.ret, q1, ?_⟩
              generalize hasRet y = hb at q2
              cases hb with
              | true => exact q2
              | false => exact q2.elim
            · obtain ⟨i, _, rfl⟩ := List.mem_map.1 hp
              exact ⟨.exit i, q1, q2⟩
          have os1 : SameOs w ((w.alloc (.deferred (some []))).alloc (recO r0 .ready none)) := ⟨rfl, rfl, rfl, (DefKept.push _ _).trans (.push _ _)⟩
          have hB : ((w.alloc (.deferred (some []))).alloc (recO r0 .ready none)).heap[w.heap.size]? = some (.deferred (some [])) := (DefKept.push _ _).2 _ (World.alloc_heap_new w _)
          have os5 : SameOs w4 (w4.putObj (w.heap.size + 1) (recO r0 .exhausted (jumpC ex))) := ⟨rfl, rfl, rfl, .set _ _ _ _ hrec4 (by simp [recO])⟩
          have dl : DL (noRange (.rangeFunc g ps x y)) n (written (.rangeFunc g ps x y)) env a w (Q ex) { a with defers := [mkD w.heap.size] ++ a.defers } (w4.putObj (w.heap.size + 1) (recO r0 .exhausted (jumpC ex))) := by
            refine ⟨os1.trans (os4.trans os5), ⟨[w.heap.size], rfl, ⟨by simp, fun B hb => ?_⟩, fun e => by cases e⟩, env, ⟨ha.1, ha.2⟩, hQ, fun _ _ => rfl⟩
            have : B = w.heap.size := by simpa using hb
            subst this
            exact ⟨Nat.le_refl _, os5.2.2.2.2 _ (os4.2.2.2.2 _ hB)⟩
          refine ⟨jumpC ex, w4.putObj (w.heap.size + 1) (recO r0 .exhausted (jumpC ex)), ?_, ?_⟩
          · have := run_endLoop (P := P) hrec4 (by cases ex <;> simp [nrmB])
            rw [this]; rfl
          · cases ex with
            | nrm => exact dl
            | exit i => exact wpIn_exit dl
            | goto i => exact wpIn_goto dl
            | ret => exact wpIn_ret dl
      · exact h.elim
    · exact h.elim
  | refuse s => intro ro m A Q env a w hro ha h; cases m <;> exact h.elim

def resOne (a : Act) : ResultVar → Sem Value
  | .tmp t => pure (a.tmps.getD t undef)
  | .cell ad t => do loadVar t (← asAddr (a.tmps.getD ad undef))

theorem results_eq (fn : Func) (a : Act) : results fn a.tmps = (do
    let vs ← fn.results.mapM (resOne a)
    pure (if h : vs.size = 1 then vs[0] else .tuple vs)) := rfl

theorem resX_run {env : Env} {a : Act} {w : World} {n : Nat} (ha : Agrees n env a) : ∀ {rs : List ResultVar} {K : List Value → Prop}, resX P env w.heap rs K →
    ∃ vs : List Value, (rs.mapM (resOne a)).run P w = .ok vs w ∧ vs.length = rs.length ∧ K vs
  | [], K, h => ⟨[], rfl, rfl, h⟩
  | .tmp t :: r, K, h => by
    unfold resX at h
    have h1 := ev1_eval ha h
    obtain ⟨vs, h2, h3, h4⟩ := resX_run ha h1
    refine ⟨a.tmps.getD t undef :: vs, ?_, by simp [h3], h4⟩
    simp only [List.mapM_cons, resOne, Sem.run_bind, Sem.run_pure, Result.andThen_ok, h2]
  | .cell ad t :: r, K, h => by
    unfold resX at h
    split at h
    · rename_i d hd
      have h1 := ev1_eval ha h
      split at h1
      · rename_i q hq
        cases q with
        | none => exact h1.elim
        | some b =>
          have h1' : ldT P t b w.heap fun v => resX P env w.heap r fun vs => K (v :: vs) := h1
          obtain ⟨u, h5, h6⟩ := ldT_run (P := P) (w := w) h1' hd
          obtain ⟨vs, h2, h3, h4⟩ := resX_run ha h6
          refine ⟨u :: vs, ?_, by simp [h3], h4⟩
          have hq' : a.tmps.getD ad undef = .pointer (some b) := hq
          simp only [List.mapM_cons, resOne, Sem.run_bind, hq', asAddr, Sem.run_pure, Result.andThen_ok, h5, h2]
      · exact h1.elim
    · exact h.elim

theorem results_run {fn : Func} {env : Env} {a : Act} {w : World} {n : Nat} (ha : Agrees n env a) {K : List Value → Prop} (h : resX P env w.heap fn.results.toList K) :
    ∃ vs : List Value, (results fn a.tmps).run P w = .ok (retOf vs) w ∧ K vs := by
  obtain ⟨vs, h1, h2, h3⟩ := resX_run ha h
  refine ⟨vs, ?_, h3⟩
  rw [results_eq, Array.mapM_eq_mapM_toList]
  simp only [Sem.run_bind, Sem.run_map, h1, Result.andThen_ok, Sem.run_pure]
  congr 1
  unfold retOf
  clear h1 h2 h3
  match vs with
  | [] => rfl
  | [v] => rfl
  | v :: u :: r => simp

/-- on the way out: block by block is shut -/
def SameW (w w' : World) : Prop := w'.os = w.os ∧ w'.tape = w.tape ∧ w'.output = w.output
def ShutR (lo : Nat) (h h' : Heap) : Prop := h'.size = h.size ∧ ∀ b : Nat, h'[b]? = h[b]? ∨ (lo ≤ b ∧ h[b]? = some (.deferred (some [])) ∧ h'[b]? = some (.deferred none))
theorem leavesM {fn : Func} {tmps : Array Value} {R : Ending → World → Prop} {lo : Nat} : ∀ (bs : List Nat) (w : World), Marks lo w.heap bs →
    (∀ w2, SameW w w2 → ShutR lo w.heap w2.heap → ∃ v, (results fn tmps).run P w2 = .ok v w2 ∧ R (.returned v) w2) → LeavesInM Fence.wide 0 P fn tmps R (bs.map mkD) .returning w
  | [], w, _, hk => hk w ⟨rfl, rfl, rfl⟩ ⟨rfl, fun _ => .inl rfl⟩
  | B :: r, w, ⟨hp, hm⟩, hk => by
    obtain ⟨hlo, hB⟩ := hm B (by simp)
    have hlt := (Array.getElem?_eq_some_iff.1 hB).1
    refine ⟨by simp, .inl ⟨B, w.putObj B (.deferred none), rfl, run_takeDeferred hB, ?_⟩⟩
    have hne : ∀ b, b ≠ B → (w.putObj B (.deferred none)).heap[b]? = w.heap[b]? := fun b hb => World.putObj_heap_other hb
    refine leavesM (lo := lo) r _ ⟨(List.pairwise_cons.1 hp).2, fun b hb => ?_⟩ ?_
    · have h1 : b < B := (List.pairwise_cons.1 hp).1 b hb
      exact ⟨(hm b (by simp [hb])).1, by rw [hne b (by omega)]; exact (hm b (by simp [hb])).2⟩
    · rintro w2 ⟨s1, s2, s3⟩ ⟨z, hs⟩
      refine hk w2 ⟨s1, s2, s3⟩ ⟨by rw [z, World.putObj_size], fun b => ?_⟩
      by_cases e : b = B
      · subst e
        have h5 : (w.putObj b (.deferred none)).heap[b]? = some (.deferred none) := World.putObj_heap_same hlt
        rcases hs b with h | ⟨_, h, _⟩
        · exact .inr ⟨hlo, hB, by rw [h, h5]⟩
        · rw [h5] at h; cases h
      · rcases hs b with h | ⟨h1, h2, h3⟩
        · exact .inl (by rw [h, hne b e])
        · exact .inr ⟨h1, by rw [← hne b e]; exact h2, h3⟩
theorem ShutR.def {lo : Nat} {h0 h h' : Heap} (hk : DefKept h0 h) (hs : ShutR lo h h') (hlo : h0.size ≤ lo) : DefKept h0 h' := by
  refine ⟨by rw [hs.1]; exact hk.1, fun b hb => ?_⟩
  have hlt := (Array.getElem?_eq_some_iff.1 hb).1
  rcases hs.2 b with h1 | ⟨h1, _⟩
  · rw [h1]; exact hk.2 b hb
  · omega

/-- a whole function -/
theorem call_of_fnX (hF : FnsOk P F) (hm : P.follows .mixedOrders = true) {f : FuncId} {fn : Func} (hfn : P.funcs[f]? = some fn) {A : Ann} {l : List Sh} {args : List Value} {h : Heap} {R : Tup l → Heap → Prop}
    (hn : Nat.ble args.length fn.ntmps = true) (hx : fnX P F fn A l args h R) : CallT P f args h l R := by
  intro w hw
  subst hw
  unfold fnX at hx
  split at hx
  · rename_i c hc
    have hle : args.length ≤ fn.ntmps := Nat.le_of_ble_eq_true hn
    have ha : Agrees fn.ntmps (zipE (List.range args.length) args []) { tmps := args.toArray ++ Array.replicate (fn.ntmps - args.toArray.size) undef, defers := [] } := by
      refine ⟨by simp; omega, ?_⟩
      intro d v hd
      rcases look_zipE hd with ⟨i, h1, h2⟩ | ⟨h1, _⟩
      · have hi : i < args.length := (List.getElem?_eq_some_iff.1 h2).1
        have hdi : d = i := by
          rw [List.getElem?_range hi] at h1
          injection h1 with h1; exact h1.symm
        subst hdi
        refine ⟨by omega, ?_⟩
        rw [Array.getElem?_append_left (by simpa using hi)]
        simpa using h2
      · simp [look] at h1
    refine (callsIn_wide (n := 0)).1 ?_
    refine callsIn_of_wp_marks hfn hc trivial ?_
    split at hx
    · rename_i hnr
      refine wpIn_mono (show c.wpIn Fence.wide 0 P _ _ w from den_sound hF hm fn.ntmps c none none A _ _ _ w (fun e => by cases e) ha hx) ?_
      intro e a' w' hq
      have fin : ∀ (ha' : DL (noRange c) fn.ntmps (written c) (zipE (List.range args.length) args []) { tmps := args.toArray ++ Array.replicate (fn.ntmps - args.toArray.size) undef, defers := [] } w
          (fun env h => resX P env h fn.results.toList fun vs => match getT l vs with | some s => R s h | none => False) a' w'),
          LeavesInM Fence.wide 0 P fn a'.tmps (fun e w' => SameOs w w' ∧ ∃ s, e = .returned (retOf (mkT l s)) ∧ R s w'.heap) a'.defers .returning w' := by
        rintro ⟨hos, ⟨bs, hd, hms, hnil⟩, env', ha', hk, _⟩
        have e0 := hnil hnr
        subst e0
        have hd' : a'.defers = [] := hd
        rw [hd']
        obtain ⟨vs, h1, h2⟩ := results_run ha' hk
        split at h2
        · rename_i s hs
          exact ⟨_, h1, hos, s, by rw [getT_mk hs], h2⟩
        · exact h2.elim
      cases e with
      | normal => exact fin hq
      | ret => exact fin hq
      | exit i => obtain ⟨_, _, _, _, hk, _⟩ := hq; exact hk.elim
      | goto i => obtain ⟨_, _, _, _, hk, _⟩ := hq; exact hk.elim
      | _ => exact hq.elim
    · refine wpIn_mono (show c.wpIn Fence.wide 0 P _ _ w from den_sound hF hm fn.ntmps c none none A _ _ _ w (fun e => by cases e) ha hx) ?_
      intro e a' w' hq
      have fin : ∀ (ha' : DL (noRange c) fn.ntmps (written c) (zipE (List.range args.length) args []) { tmps := args.toArray ++ Array.replicate (fn.ntmps - args.toArray.size) undef, defers := [] } w
          (fun env h1 => shutX w.heap.size h1 fun h2 => resX P env h2 fn.results.toList fun vs => match getT l vs with | some s => R s h2 | none => False) a' w'),
          LeavesInM Fence.wide 0 P fn a'.tmps (fun e w' => SameOs w w' ∧ ∃ s, e = .returned (retOf (mkT l s)) ∧ R s w'.heap) a'.defers .returning w' := by
        rintro ⟨hos, ⟨bs, hd, hms, _⟩, env', ha', hk, _⟩
        have hd' : a'.defers = bs.map mkD := by rw [hd]; simp
        rw [hd']
        refine leavesM bs w' hms ?_
        rintro w2 ⟨s1, s2, s3⟩ hsh
        have hk2 := hk w2.heap hsh.1 hsh.2
        obtain ⟨vs, h1, h2⟩ := results_run ha' hk2
        split at h2
        · rename_i s hs
          exact ⟨_, h1, ⟨s1.trans hos.1, s2.trans hos.2.1, s3.trans hos.2.2.1, ShutR.def hos.2.2.2 hsh (Nat.le_refl _)⟩, s, by rw [getT_mk hs], h2⟩
        · exact h2.elim
      cases e with
      | normal => exact fin hq
      | ret => exact fin hq
      | exit i => obtain ⟨_, _, _, _, hk, _⟩ := hq; exact hk.elim
      | goto i => obtain ⟨_, _, _, _, hk, _⟩ := hq; exact hk.elim
      | _ => exact hq.elim
  · exact hx.elim

end
end Go.Proofs.Ytkgocfaajfaidaa.D
