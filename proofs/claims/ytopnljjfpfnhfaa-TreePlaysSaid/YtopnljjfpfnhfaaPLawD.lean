/- TreePlays. -/
import Derived.Test.YtopnljjfpfnhfaaPLawC
namespace Go.Proofs.Ytopnljjfpfnhfaa
open Go D
set_option linter.unusedVariables false
set_option linter.unusedSimpArgs false

/-- blocks that neither list lies in -/
def Dd (h : Heap) (old was : Sl) (b : Nat) : Prop := b < h.size ∧ ¬ blk old.a b ∧ ¬ blk was.a b
def Prd (h : Heap) (D : Nat → Prop) (s : Sl) (l : List KV) : Prop := Pr h s l ∧ s.len ≤ s.cap ∧ ∀ b, blk s.a b → D b
theorem Prd.keep {h h' : Heap} {D D' S : Nat → Prop} {s : Sl} {l : List KV} (hp : Prd h D s l) (hk : Keep S h h') (hS : ∀ b, D b → ¬ S b) (hD : ∀ b, D b → D' b) : Prd h' D' s l := ⟨hp.1.keep hk (fun b hb => hS b (hp.2.2 b hb)), hp.2.1, fun b hb => hD b (hp.2.2 b hb)⟩
abbrev Ent := Nat × Sl × List KV
structure PI (h2 h' : Heap) (old was : Sl) (p : Nat) (l : Sl) (ps : List KV) (es : List Ent) : Prop where
  nw : Nw h2 h'
  ow : Own h2 h' 1 old (es.map fun e => .pointer (some ⟨e.1, 0, none⟩))
  ww : Own h2 h' 1 was (es.map fun e => .slice e.2.1.a e.2.1.len e.2.1.cap)
  tr : TreeAt h' (Dd h' old was) p ps
  pr : Prd h' (Dd h' old was) l ps
  es : ∀ e ∈ es, TreeAt h' (Dd h' old was) e.1 e.2.2 ∧ Prd h' (Dd h' old was) e.2.1 e.2.2 ∧ e.2.2.length ≤ 1000
  ne : ∀ b, blk old.a b → ¬ blk was.a b
section
variable {h2 h' h'' : Heap} {old was : Sl} {p : Nat} {l : Sl} {ps : List KV} {es : List Ent}
theorem Dd.nw {b : Nat} (hb : Dd h' old was b) (hk : Nw h' h'') : Dd h'' old was b := ⟨by have := hk.size; have := hb.1; omega, hb.2⟩
theorem PI.step (hi : PI h2 h' old was p l ps es) (hk : Nw h' h'') : PI h2 h'' old was p l ps es := by
  refine ⟨hi.nw.trans' hk, hi.ow.nw hk, hi.ww.nw hk, (hi.tr.nw hk).mono (fun b hb => hb.nw hk), hi.pr.keep hk (fun _ _ h => h) (fun b hb => hb.nw hk), fun e he => ?_, hi.ne⟩
  obtain ⟨q1, q2, q3⟩ := hi.es e he
  exact ⟨(q1.nw hk).mono (fun b hb => hb.nw hk), q2.keep hk (fun _ _ h => h) (fun b hb => hb.nw hk), q3⟩
theorem PI.lt (hi : PI h2 h' old was p l ps es) : ∀ b, Dd h' old was b → b < h'.size := fun b hb => hb.1
/-- another tree, another list -/
theorem PI.next (hi : PI h2 h' old was p l ps es) {p2 : Nat} {l2 : Sl} {ps2 : List KV} (ht : TreeAt h' (Dd h' old was) p2 ps2) (hp : Prd h' (Dd h' old was) l2 ps2) : PI h2 h' old was p2 l2 ps2 es := ⟨hi.nw, hi.ow, hi.ww, ht, hp, hi.es, hi.ne⟩
end

/-- the tree and its list are kept -/
theorem PI.push {h2 h' : Heap} {old was : Sl} {p : Nat} {l : Sl} {ps : List KV} {es : List Ent} (hi : PI h2 h' old was p l ps es) (he : es.length ≤ 1000) (hps : ps.length ≤ 1000) {K : Sl → Sl → Heap → Prop}
    (hk : ∀ o w h'', PI h2 h'' o w p l ps (es ++ [(p, l, ps)]) → (∀ {b cs}, Row h' b cs → ¬ blk old.a b → ¬ blk was.a b → Row h'' b cs) → K o w h'') :
    newB [.pointer (some ⟨p, 0, none⟩)] 24 h' fun a60 h61 => ldRow (1 * 1) a60 h61 fun cs65 => app [.pointer none] 24 1 8 old.a old.len old.cap cs65 1 h61 fun o62 c63 h64 =>
      newB [.slice l.a l.len l.cap] 30 h64 fun a66 h67 => ldRow (1 * 1) a66 h67 fun cs71 => app [.slice none 0 0] 30 1 24 was.a was.len was.cap cs71 1 h67 fun o68 c69 h70 => K ⟨o62, old.len + 1, c63⟩ ⟨o68, was.len + 1, c69⟩ h70 := by
  have lo := hi.ow.len
  have lw := hi.ww.len
  rw [List.length_map] at lo lw
  refine hi.ow.push (N := 1) hi.nw rfl rfl rfl (by intro u hu; simp only [List.mem_singleton] at hu; subst hu; rfl) (by omega) ?_
  intro o c h64 q1 q2 q3 q4
  have z64 := q3.size
  have oldlt : ∀ b, blk old.a b → b < h'.size := fun b hb => hi.ow.lt hb
  have waslt : ∀ b, blk was.a b → b < h'.size := fun b hb => hi.ww.lt hb
  have ww64 := hi.ww.keep q3 (fun b hb e => hi.ne b e hb)
  refine ww64.push (N := 1) q2 rfl rfl rfl (by intro u hu; simp only [List.mem_singleton] at hu; subst hu; rfl) (by omega) ?_
  intro w c' h70 r1 r2 r3 r4
  have z70 := r3.size
  have onl : ∀ b, blk o b → blk old.a b ∨ h'.size ≤ b ∧ b < h64.size := fun b hb => by
    rcases q4 b hb with e | e
    · exact .inl e
    · exact .inr ⟨e, q1.lt hb⟩
  have o70 := q1.keep r3 (fun b hb e => by
    rcases onl b hb with e2 | e2
    · exact hi.ne b e2 e
    · have := waslt b e; omega)
  have kk : ∀ {D : Nat → Prop}, (∀ b, D b → Dd h' old was b) → True := fun _ => trivial
  have dd : ∀ b, Dd h' old was b → Dd h70 ⟨o, old.len + 1, c⟩ ⟨w, was.len + 1, c'⟩ b := fun b hb => by
    refine ⟨by have := hb.1; omega, fun e => ?_, fun e => ?_⟩
    · rcases onl b e with e2 | e2
      · exact hb.2.1 e2
      · have := hb.1; omega
    · rcases r4 b e with e2 | e2
      · exact hb.2.2 e2
      · have := hb.1; omega
  have tk : ∀ {q : Nat} {qs : List KV}, TreeAt h' (Dd h' old was) q qs → TreeAt h70 (Dd h70 ⟨o, old.len + 1, c⟩ ⟨w, was.len + 1, c'⟩) q qs := fun ht => ((ht.keep q3 (fun b hb e => hb.2.1 e)).keep r3 (fun b hb e => hb.2.2 e)).mono dd
  have pk : ∀ {q : Sl} {qs : List KV}, Prd h' (Dd h' old was) q qs → Prd h70 (Dd h70 ⟨o, old.len + 1, c⟩ ⟨w, was.len + 1, c'⟩) q qs := fun ht => (ht.keep q3 (fun b hb e => hb.2.1 e) (fun b hb => hb)).keep r3 (fun b hb e => hb.2.2 e) dd
  refine hk ⟨o, old.len + 1, c⟩ ⟨w, was.len + 1, c'⟩ h70 ⟨r2, ?_, ?_, tk hi.tr, pk hi.pr, ?_, ?_⟩ ?_
  · rw [List.map_append]; exact o70
  · rw [List.map_append]; exact r1
  · intro e he'
    rcases List.mem_append.1 he' with h1 | h1
    · obtain ⟨a1, a2, a3⟩ := hi.es e h1
      exact ⟨tk a1, pk a2, a3⟩
    · simp only [List.mem_singleton] at h1
      subst h1
      exact ⟨tk hi.tr, pk hi.pr, hps⟩
  · intro b hb hw
    rcases onl b hb with e | e
    · rcases r4 b hw with e2 | e2
      · exact hi.ne b e e2
      · have := oldlt b e; omega
    · rcases r4 b hw with e2 | e2
      · have := waslt b e2; omega
      · omega
  · intro b cs hr n1 n2
    exact r3.row (q3.row hr n1) n2

theorem getOk {x y : Option Key} (e : x = y) : (!((x.isSome) == y.isSome)) = false := by subst e; simp
theorem insKV_len (k v : Key) : ∀ l : List KV, (insKV k v l).length ≤ l.length + 1
  | [] => by simp [insKV]
  | (a, x) :: r => by
    have ih := insKV_len k v r
    unfold insKV
    split
    · simp only [List.length_cons]; omega
    · split <;> simp
theorem delKV_len (k : Key) (l : List KV) : (delKV k l).length ≤ l.length := List.length_filter_le _ _
theorem withKV_len (k v : Key) (d : Bool) (l : List KV) : (withKV k v d l).length ≤ l.length + 1 := by
  unfold withKV
  split
  · have := delKV_len k l; omega
  · exact insKV_len k v l
theorem has_get (k : Key) (l : List KV) : hasK k l = (getL k l).isSome := by
  unfold hasK getL
  rw [Option.isSome_map, List.isSome_find?]

set_option maxRecDepth 20000 in
theorem treePlays_spec {h : Heap} {x0 x1 : Sl} (h0 : OpS h x0.a x0.len) (h1 : StrsAt h x1.a x1.len) {R : Bool → Heap → Prop} (hk : ∀ h', Nw h h' → R true h') : CallT Try.prog law8_TreePlays_no [.slice x0.a x0.len x0.cap, .slice x1.a x1.len x1.cap] h [.sc .bool] R := by
  have hcall := law8_TreePlays_call x0 x1 (R := R) (h := h)
  apply hcall
  clear hcall
  unfold law8_TreePlays
  refine treeNew ?_
  intro p2 h2 n2 t2
  refine withJ.inl (withJ.inl ?_)
  refine cnd_f rfl ?_
  refine awake_spec ?_
  intro h3 n3
  refine cnd_f rfl ?_
  have N3 := n2.trans' n3
  have PI0 : PI h3 h3 ⟨none, 0, 0⟩ ⟨none, 0, 0⟩ p2 ⟨none, 0, 0⟩ [] [] := by
    have nob : ∀ b, ¬ blk (none : Option Addr) b := fun b hb => by obtain ⟨y, e, _⟩ := hb; cases e
    refine ⟨Keep.refl _ _, Own.nil _ _ _, Own.nil _ _ _, (t2.nw n3).mono (fun b hb => ⟨by have := hb.2; have := n3.size; omega, nob b, nob b⟩), ⟨⟨rfl, fun i v hv => by simp [pcells] at hv⟩, Nat.le_refl _, fun b hb => (nob b hb).elim⟩, fun e he => by simp at he, fun b hb => (nob b hb).elim⟩
  refine LoopT.intro (fun (s : Option Addr × Sl × Sl × Sl × Int) hh => ∃ (i p : Nat) (ps : List KV) (es : List Ent), s.1 = some ⟨p, 0, none⟩ ∧ s.2.2.2.2 = (i : Int) ∧ i ≤ 150 ∧ ps.length ≤ i ∧ es.length ≤ i ∧ PI h3 hh s.2.2.1 s.2.2.2.1 p s.2.1 ps es) (fun s _ => (150 - s.2.2.2.2).toNat)
    ⟨0, p2, [], [], rfl, rfl, by omega, by simp, by simp, PI0⟩ ?_
  rintro ⟨tp, l, old, was, ix⟩ ha ⟨i, p, ps, es, rfl, rfl, hi, lps, les, pi⟩
  simp only at pi
  refine withJ.inl ?_
  refine cnd_share True ?_ ?_ (fun _ => trivial)
  · intro _
    have lo := pi.ow.len
    have lw := pi.ww.len
    rw [List.length_map] at lo lw
    refine LoopT.intro (fun (s : Int) hh => ∃ j : Nat, s = (j : Int) ∧ j ≤ es.length ∧ Nw ha hh) (fun s _ => ((es.length : Int) - s).toNat) ⟨0, rfl, Nat.zero_le _, Keep.refl _ _⟩ ?_
    rintro _ hb ⟨j, rfl, hj, nb⟩
    have pib := pi.step nb
    refine cnd_dec (fun c => ?_) (fun c => ?_)
    · have hjl : j < es.length := by have : (j : Int) < (old.len : Int) := c; omega
      have ent := pib.es _ (List.getElem_mem hjl)
      refine pib.ow.rv.at (by omega) (by show (j : Int) < (old.len : Int); omega) (v := .pointer (some ⟨es[j].1, 0, none⟩)) (by rw [Int.toNat_natCast, List.getElem?_map, List.getElem?_eq_getElem hjl]; rfl) ?_
      intro x hx
      refine ldP_at hx ?_
      refine pib.ww.rv.at (by omega) (by show (j : Int) < (was.len : Int); omega) (v := .slice es[j].2.1.a es[j].2.1.len es[j].2.1.cap) (by rw [Int.toNat_natCast, List.getElem?_map, List.getElem?_eq_getElem hjl]; rfl) ?_
      intro y hy
      refine ldL_at hy ?_
      refine same_spec ent.1 pib.lt ent.2.1.1 (by have := ent.2.2; omega) ?_
      intro hc nc
      refine cnd_f rfl ?_
      have w1 : w64 ((j : Int) + 1) = ((j + 1 : Nat) : Int) := by rw [w64_id (by omega) (by omega)]; push_cast; rfl
      exact ⟨⟨j + 1, w1, by omega, nb.trans' nc⟩, by rw [w1]; omega⟩
    · refine LoopT.intro (fun (s : Int) hh => ∃ j : Nat, s = (j : Int) ∧ j ≤ 20 ∧ Nw ha hh) (fun s _ => (20 - s).toNat) ⟨0, rfl, Nat.zero_le _, nb⟩ ?_
      rintro _ hc ⟨q, rfl, hq, nc⟩
      have pic := pi.step nc
      have done : R true hc := hk hc (N3.trans' (pi.nw.trans' nc))
      refine withJ.inl ?_
      refine cnd_dec (fun c1 => ?_) (fun _ => done)
      refine cnd_dec (fun c2 => ?_) (fun _ => done)
      refine h1.ld (N3.trans' (pi.nw.trans' nc)) (by omega) ?_
      intro z
      refine from_law pic.tr pic.lt pic.pr.1 (by omega) ?_
      intro hd nd
      refine cnd_f rfl ?_
      have w1 : w64 ((q : Int) + 1) = ((q + 1 : Nat) : Int) := by rw [w64_id (by omega) (by omega)]; push_cast; rfl
      exact ⟨⟨q + 1, w1, by omega, nc.trans' nd⟩, by rw [w1]; omega⟩
  · intro c hT
    refine cnd_dec ?_ ?_
    rotate_left
    · intro _
      exact hT trivial
    intro c150
    have hil : i < x0.len := by have : (i : Int) < (x0.len : Int) := c; omega
    have hi150 : i < 150 := by have : (i : Int) < 150 := c150; omega
    have na := N3.trans' pi.nw
    have w1 : w64 ((i : Int) + 1) = ((i + 1 : Nat) : Int) := by rw [w64_id (by omega) (by omega)]; push_cast; rfl
    refine withJ.inl ?_
    refine h0.all na hil ?_
    generalize (opK h x0.a i).1 = k
    generalize (opK h x0.a i).2 = v
    generalize opD h x0.a i = d
    refine newB_row ?_
    intro hb sb rb kb
    refine stC_row (o := 0) rb (by simp) rfl ?_
    intro hc sc rc kc
    refine stC_row (b := ha.size) (o := 0 + 1) rc (by simp) rfl ?_
    intro hd sd rd kd
    refine stC_row (b := ha.size) (o := 0 + 2) rd (by simp) rfl ?_
    intro he se re ke
    have ne : Nw ha he := Nw.st (Nw.st (Nw.st kb kc (Nat.le_refl _)) kd (Nat.le_refl _)) ke (Nat.le_refl _)
    have re' : Row he ha.size [.string k, .string v, .bool d] := re
    refine ldS_row (o := 0) re' rfl ?_
    have pie := pi.step ne
    refine treeGet pie.tr ?_
    intro hf nf
    have pif := pie.step nf
    have rf := nf.row re' (fun h => h)
    refine ldS_row (o := 0) rf rfl ?_
    refine rget_spec (s := l) pif.pr.1 (by omega) ?_
    refine withJ.inl (withJ.inl ?_)
    refine cnd_f (by rw [seq_self]; rfl) ?_
    refine cnd_f (getOk rfl) ?_
    refine withJ.intro (fun (s : Sl × Sl) h35 => ∃ es', es'.length ≤ i + 1 ∧ PI h3 h35 s.1 s.2 p l ps es' ∧ Row h35 ha.size [.string k, .string v, .bool d]) ?_ ?_
    · rintro ⟨old', was'⟩ h35 ⟨es', les', pi35, r35⟩
      simp only at pi35
      refine withJ.intro (fun (t' : Option Addr) h38 => ∃ p', t' = some ⟨p', 0, none⟩ ∧ Nw h35 h38 ∧ TreeAt h38 (Dd h38 old' was') p' (withKV k v d ps)) ?_ ?_
      · rintro _ h38 ⟨p', rfl, n38, t38⟩
        have pi38 := pi35.step n38
        have r38 := n38.row r35 (fun h => h)
        refine ldS_row (o := 0) r38 rfl ?_
        refine ldS_row (o := 0 + 1) r38 rfl ?_
        refine ldB_row (o := 0 + 2) r38 rfl ?_
        refine rwith_spec (s := l) pi38.pr.1 (by omega) pi38.pr.2.1 pi35.tr.asc ?_
        intro r h43 n43 o43
        have wl := withKV_len k v d ps
        refine same_spec (t38.nw n43) (fun b hb => by have := hb.1; have := n43.size; omega) o43.pr (by omega) ?_
        intro h45 n45
        refine cnd_f rfl ?_
        have nn := n43.trans' n45
        refine ⟨⟨i + 1, p', withKV k v d ps, es', rfl, w1, by omega, by omega, les', (pi38.step nn).next ((t38.nw nn).mono (fun b hb => hb.nw nn)) ⟨(o43.pr).nw n45, o43.le, fun b hb => ⟨?_, fun e => ?_, fun e => ?_⟩⟩⟩, ?_⟩
        · have := o43.lt hb; have := n45.size; omega
        · have := o43.fresh b hb; have := pi38.ow.lt e; omega
        · have := o43.fresh b hb; have := pi38.ww.lt e; omega
        · show (150 - w64 ((i : Int) + 1)).toNat < (150 - (i : Int)).toNat
          rw [w1]; omega
      · intro J hJ
        have fin : ∀ {p' : Nat} {h59 : Heap} {ps' : List KV}, Nw h35 h59 → TreeAt h59 (Fn (Dd h35 old' was') h35 h59) p' ps' → TreeAt h59 (Dd h59 old' was') p' ps' := by
          intro p' h59 ps' n59 t59
          refine t59.mono (fun b hb => ?_)
          rcases hb with hb | hb
          · exact hb.nw n59
          · exact ⟨hb.2, fun e => by have := pi35.ow.lt e; have := hb.1; omega, fun e => by have := pi35.ww.lt e; have := hb.1; omega⟩
        refine ldB_row (o := 0 + 2) r35 rfl ?_
        cases d with
        | true =>
          refine cnd_t rfl ?_
          refine ldS_row (o := 0) r35 rfl ?_
          refine treeDel pi35.tr pi35.lt (by omega) ?_ ?_
          · intro hh h49 n49
            refine withJ.inl (withJ.inl ?_)
            refine cnd_f rfl ?_
            refine cnd_f (by rw [← has_get, hh]; rfl) ?_
            refine hJ _ _ ⟨p, rfl, n49, ?_⟩
            have e : withKV k v true ps = ps := by
              unfold withKV
              rw [if_pos rfl]
              refine delKV_self (fun q hq e => ?_)
              unfold hasK at hh
              rw [List.any_eq_false] at hh
              exact hh q hq (by simpa using e)
            rw [e]
            exact (pi35.step n49).tr
          · intro hh p' h49 n49 t49 _
            refine withJ.inl (withJ.inl ?_)
            refine cnd_f rfl ?_
            refine cnd_f (by rw [← has_get, hh]; rfl) ?_
            exact hJ _ _ ⟨p', rfl, n49, fin n49 t49⟩
        | false =>
          refine cnd_f rfl ?_
          refine ldS_row (o := 0) r35 rfl ?_
          refine ldS_row (o := 0 + 1) r35 rfl ?_
          refine treePut pi35.tr pi35.lt (by omega) ?_
          intro p' h59 n59 t59
          refine cnd_f rfl ?_
          exact hJ _ _ ⟨p', rfl, n59, fin n59 t59⟩
    · intro J hJ
      refine cnd_of (fun cm => ?_) (fun cm => ?_)
      · refine pif.push (K := fun o w hh => J (o, w) hh) (by omega) (by omega) ?_
        intro o w h70 pi70 keep
        refine hJ (o, w) h70 ⟨_, by simp; omega, pi70, keep rf (fun e => ?_) (fun e => ?_)⟩
        · have := pi.ow.lt e; omega
        · have := pi.ww.lt e; omega
      · exact hJ (old, was) _ ⟨es, by omega, pif, rf⟩
end Go.Proofs.Ytopnljjfpfnhfaa
