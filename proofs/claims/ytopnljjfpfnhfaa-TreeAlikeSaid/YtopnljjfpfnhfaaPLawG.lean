/- TreeAlike. -/
import Derived.Test.YtopnljjfpfnhfaaPLawF
namespace Go.Proofs.Ytopnljjfpfnhfaa
open Go D
set_option linter.unusedVariables false
set_option linter.unusedSimpArgs false

theorem tmod_in {n : Int} {l : Nat} (hl : 0 < l) (hl2 : l ≤ 1000000) (hn : InI n) : ∃ k : Nat, k < l ∧ (w64 (n.tmod (l : Int) + (l : Int))).tmod (l : Int) = (k : Int) := by
  have h1 : -(l : Int) < n.tmod l := Int.lt_tmod_of_pos n (by omega)
  have h2 : n.tmod l < l := Int.tmod_lt_of_pos n (by omega)
  rw [w64_id (by omega) (by omega)]
  have h3 : (n.tmod (l : Int) + (l : Int)).tmod l = (n.tmod (l : Int) + (l : Int)) % l := Int.tmod_eq_emod_of_nonneg (by omega)
  have h4 := Int.emod_lt_of_pos (n.tmod (l : Int) + (l : Int)) (show (0 : Int) < l by omega)
  have h5 := Int.emod_nonneg (n.tmod (l : Int) + (l : Int)) (show (l : Int) ≠ 0 by omega)
  exact ⟨((n.tmod (l : Int) + (l : Int)) % l).toNat, by omega, by rw [h3]; omega⟩
/-- the changes that came in, as a list -/
def opsL (h : Heap) (a : Option Addr) (l : Nat) : List OpV := (List.range l).map fun i => (opK h a i, opD h a i)
theorem opsL_len (h : Heap) (a : Option Addr) (l : Nat) : (opsL h a l).length = l := by simp [opsL]
theorem opsL_get {h : Heap} {a : Option Addr} {l i : Nat} (hi : i < (opsL h a l).length) : (opsL h a l)[i] = (opK h a i, opD h a i) := by simp [opsL]
theorem OpS.rd {h h' : Heap} {a : Option Addr} {l : Nat} (hs : OpS h a l) (hk : Nw h h') {K : List Value → Prop} (hK : K (ocells (opsL h a l))) : rdCells a (l * 3) h' K := by
  cases a with
  | none =>
    have : l = 0 := by
      rcases Nat.eq_zero_or_pos l with e | e
      · exact e
      · obtain ⟨x, e2, _⟩ := hs 0 e; cases e2
    subst this
    exact hK
  | some x =>
    refine ⟨_, by rw [ocells_len, opsL_len], ?_, hK⟩
    intro j v hv
    have hj := (List.getElem?_eq_some_iff.1 hv).1
    rw [ocells_len, opsL_len] at hj
    have hsp : x.spot = none := by
      obtain ⟨y, e, c, _⟩ := hs 0 (by omega)
      injection e with e
      subst e
      rw [Nat.zero_mul, add_zero] at c
      unfold cellH at c
      cases hx : x.spot with
      | none => rfl
      | some t =>
        rw [hx] at c
        split at c
        · simp at c
        · cases c
    obtain ⟨y, e, c1, c2, c3⟩ := hs (j / 3) (by omega)
    injection e with e
    subst e
    rw [add_add hsp] at c2 c3
    have hd : j / 3 < (opsL h (some x) l).length := by rw [opsL_len]; omega
    obtain ⟨g1, g2, g3⟩ := ocells_get _ (j / 3) hd
    rw [opsL_get hd] at g1 g2 g3
    have hj3 : j = j / 3 * 3 ∨ j = j / 3 * 3 + 1 ∨ j = j / 3 * 3 + 2 := by omega
    generalize j / 3 = i at g1 g2 g3 c1 c2 c3 hj3
    rcases hj3 with rfl | rfl | rfl
    · rw [g1] at hv; injection hv with hv; subst hv
      exact hk.cell c1 (fun h => h)
    · rw [g2] at hv; injection hv with hv; subst hv
      exact hk.cell c2 (fun h => h)
    · rw [g3] at hv; injection hv with hv; subst hv
      exact hk.cell c3 (fun h => h)
theorem dis_snoc {l : List KV} {p : KV} (h : Dis l) (hp : ∀ q ∈ l, q.1 ≠ p.1) : Dis (l ++ [p]) := by
  refine List.pairwise_append.2 ⟨h, List.pairwise_singleton _ _, fun a ha b hb => ?_⟩
  simp only [List.mem_singleton] at hb
  subst hb
  exact hp a ha

set_option maxRecDepth 20000 in
theorem treeAlike_spec {h : Heap} {x0 x1 : Sl} (h0 : OpS h x0.a x0.len) (h1 : IntsAt h x1.a x1.len) {R : Bool → Heap → Prop} (hk : ∀ h', Nw h h' → R true h') : CallT Try.prog law8_TreeAlike_no [.slice x0.a x0.len x0.cap, .slice x1.a x1.len x1.cap] h [.sc .bool] R := by
  have hcall := law8_TreeAlike_call x0 x1 (R := R) (h := h)
  apply hcall
  clear hcall
  unfold law8_TreeAlike
  refine treeNew ?_
  intro p2 h2 n2 t2
  refine treeNew ?_
  intro p4 h4 n4 t4
  have n04 := n2.trans' n4
  refine withJ.inl (withJ.inl ?_)
  refine cnd_f rfl ?_
  refine cnd_f rfl ?_
  refine cnd_dec (fun c => ?_) (fun c => ?_)
  · refine withJ.inl ?_
    refine cnd_t rfl ?_
    refine cnd_t rfl ?_
    refine awake_spec ?_
    intro hx nx
    intro hy zy sy
    exact hk hy (shut_nw (n04.trans' nx) (Nat.le_refl _) zy sy)
  have hl : x0.len ≤ 100 := by have : ¬ (x0.len : Int) > 100 := c; omega
  have LL := opsL_len h x0.a x0.len
  have Lg : ∀ {i : Nat} (hi : i < (opsL h x0.a x0.len).length), (opsL h x0.a x0.len)[i] = (opK h x0.a i, opD h x0.a i) := fun hi => opsL_get hi
  refine newB_row ?_
  intro h9 s9 r9 k9
  refine h0.rd (n04.trans' k9) ?_
  generalize opsL h x0.a x0.len = L at LL Lg ⊢
  have sl0 : SlR h9 3 (some ⟨h4.size, 0, none⟩) 0 0 [] := .inr ⟨h4.size, 0, [], rfl, r9, Nat.le_refl _, by simp, rfl, rfl⟩
  refine SlR.app (new := ocells L) sl0 rfl (by rw [ocells_len, LL]) (ocells_one L) (by omega) ?_
  intro o10 c11 h12 q1 q2 q3
  rw [List.nil_append] at q1
  have n12 : Nw h4 h12 := k9.trans q2 (fun x hx e => by rw [blk_some] at e; simp only at e; omega)
  have o12 : Own h4 h12 3 ⟨o10, 0 + x0.len, c11⟩ (ocells L) := ⟨q1, fun b hb => by
    rcases q3 with ⟨e, _⟩ | ⟨e, _⟩
    · rw [e, blk_some] at hb; simp only at hb; omega
    · rw [e, blk_some] at hb; simp only at hb; omega⟩
  refine LoopT.intro (fun (s : Int) hh => ∃ (i : Nat) (m : List OpV), s = (i : Int) ∧ i ≤ x0.len ∧ m.Perm L ∧ Own h4 hh 3 ⟨o10, 0 + x0.len, c11⟩ (ocells m) ∧ Nw h4 hh) (fun s _ => ((x0.len : Int) - s).toNat) ⟨0, L, rfl, Nat.zero_le _, List.Perm.refl _, o12, n12⟩ ?_
  rintro _ ha ⟨i, m, rfl, hi, pm, om, na⟩
  have ml : m.length = x0.len := by rw [pm.length_eq, LL]
  have n0a := n04.trans' na
  refine withJ.inl ?_
  refine cnd_share True ?_ ?_ (fun _ => trivial)
  · intro _
    -- both trees are built
    refine LoopT.intro (fun (s : Option Addr × Option Addr × Int) hh => ∃ (j p q : Nat), s.1 = some ⟨p, 0, none⟩ ∧ s.2.1 = some ⟨q, 0, none⟩ ∧ s.2.2 = (j : Int) ∧ j ≤ x0.len ∧ Nw ha hh ∧ Dis ((L.take j).map (·.1)) ∧ TreeAt hh (fun b => b < hh.size) p (putsL ((L.take j).map (·.1))) ∧ TreeAt hh (fun b => b < hh.size) q (putsL ((m.take j).map (·.1)))) (fun s _ => ((x0.len : Int) - s.2.2).toNat)
      ⟨0, p2, p4, rfl, rfl, rfl, Nat.zero_le _, Keep.refl _ _, List.Pairwise.nil, ((t2.nw n4).nw na).mono (fun b hb => by have := hb.2; have := n4.size; have := na.size; omega), (t4.nw na).mono (fun b hb => by have := hb.2; have := na.size; omega)⟩ ?_
    rintro ⟨tp, tq, jx⟩ hB ⟨j, p, q, rfl, rfl, rfl, hj, nb, dj, tp, tq⟩
    have n0b := n0a.trans' nb
    refine cnd_dec (fun c => ?_) (fun c => ?_)
    · have hjl : j < x0.len := by have : (j : Int) < (x0.len : Int) := c; omega
      refine withJ.inl ?_
      refine LoopT.intro (fun (s : Int) hh => hh = hB ∧ ∃ k : Nat, s = (k : Int) ∧ k ≤ j ∧ ∀ r, r < k → (opK h x0.a r).1 ≠ (opK h x0.a j).1) (fun s _ => ((j : Int) - s).toNat) ⟨rfl, 0, rfl, Nat.zero_le _, fun r hr => by omega⟩ ?_
      rintro _ hc ⟨rfl, k, rfl, hkj, hne⟩
      refine cnd_dec (fun c2 => ?_) (fun c2 => ?_)
      · have hkl : k < j := by have : (k : Int) < (j : Int) := c2; omega
        refine h0.k n0b (by omega) ?_
        refine h0.k n0b hjl ?_
        rw [seq_dec]
        refine cnd_dec (fun c3 => ?_) (fun c3 => ?_)
        · refine awake_spec ?_
          intro hx nx
          intro hy zy sy
          exact hk hy (shut_nw (n0b.trans' nx) (Nat.le_refl _) zy sy)
        · have w1 : w64 ((k : Int) + 1) = ((k + 1 : Nat) : Int) := by rw [w64_id (by omega) (by omega)]; push_cast; rfl
          refine ⟨⟨rfl, k + 1, w1, by omega, fun r hr => ?_⟩, ?_⟩
          · rcases Nat.lt_or_ge r k with q | q
            · exact hne r q
            · have : r = k := by omega
              subst this; exact c3
          · show ((j : Int) - w64 ((k : Int) + 1)).toNat < ((j : Int) - (k : Int)).toNat
            rw [w1]; omega
      · have hkj' : k = j := by have : ¬ (k : Int) < (j : Int) := c2; omega
        subst hkj'
        have hjL : k < L.length := by omega
        have tl : L.take (k + 1) = L.take k ++ [L[k]] := List.take_succ_eq_append_getElem hjL
        have ml' : k < m.length := by omega
        have tm : m.take (k + 1) = m.take k ++ [m[k]] := List.take_succ_eq_append_getElem ml'
        refine h0.k n0b hjl ?_
        refine h0.v n0b hjl ?_
        have lt : ∀ {X : List KV}, X.length ≤ 100 → X.length ≤ 1000000000 := fun h => by omega
        have lp : ∀ (X : List KV), (putsL X).length ≤ X.length := by
          intro X
          have : ∀ (X acc : List KV), (X.foldl (fun acc p => insKV p.1 p.2 acc) acc).length ≤ acc.length + X.length := by
            intro X
            induction X with
            | nil => intro acc; simp
            | cons a X ih =>
              intro acc
              have i1 := ih (insKV a.1 a.2 acc)
              have i2 := insKV_len' a.1 a.2 acc
              simp only [List.foldl_cons, List.length_cons]; omega
          have := this X []
          simpa [putsL] using this
        have lpL := lp ((L.take k).map (·.1))
        have lpm := lp ((m.take k).map (·.1))
        rw [List.length_map, List.length_take] at lpL lpm
        refine treePut tp (fun b hb => hb) (by omega) ?_
        intro p' hd nd td
        have omd := (om.nw nb).nw nd
        refine omd.old ml' ?_
        intro y sy ey e1 e2 e3
        refine ldS_at (by rw [Int.toNat_natCast]; exact e1) ?_
        refine omd.old ml' ?_
        intro y sy ey e1 e2 e3
        refine ldS_at (by rw [Int.toNat_natCast]; exact e2) ?_
        refine treePut (tq.nw nd) (fun b hb => by have := nd.size; omega) (by omega) ?_
        intro q' he ne te
        refine withJ.inl ?_
        refine cnd_f rfl ?_
        refine cnd_f rfl ?_
        have w1 : w64 ((k : Int) + 1) = ((k + 1 : Nat) : Int) := by rw [w64_id (by omega) (by omega)]; push_cast; rfl
        refine ⟨⟨k + 1, p', q', rfl, rfl, w1, by omega, (nb.trans' nd).trans' ne, ?_, ?_, ?_⟩, ?_⟩
        · rw [tl, List.map_append]
          refine dis_snoc dj (fun r hr => ?_)
          obtain ⟨e, he, rfl⟩ := List.mem_map.1 hr
          obtain ⟨r, hr2, rfl⟩ := List.mem_iff_getElem.1 he
          rw [List.length_take] at hr2
          rw [List.getElem_take, Lg (by omega), Lg hjL]
          exact hne r (by omega)
        · have e : putsL ((L.take (k + 1)).map (·.1)) = insKV (opK h x0.a k).1 (opK h x0.a k).2 (putsL ((L.take k).map (·.1))) := by
            rw [tl, List.map_append]
            show putsL (_ ++ [L[k].1]) = _
            rw [puts_snoc, Lg hjL]
          rw [e]
          refine (td.nw ne).mono (fun b hb => ?_)
          have z1 := nd.size; have z2 := ne.size
          rcases hb with hb | hb
          · omega
          · have := hb.2; omega
        · have e : putsL ((m.take (k + 1)).map (·.1)) = insKV m[k].1.1 m[k].1.2 (putsL ((m.take k).map (·.1))) := by
            rw [tm, List.map_append]
            show putsL (_ ++ [m[k].1]) = _
            rw [puts_snoc]
          rw [e]
          refine te.mono (fun b hb => ?_)
          have z1 := nd.size; have z2 := ne.size
          rcases hb with hb | hb
          · omega
          · have := hb.2; omega
        · show ((x0.len : Int) - w64 ((k : Int) + 1)).toNat < ((x0.len : Int) - (k : Int)).toNat
          rw [w1]; omega
    · have hje : j = x0.len := by have : ¬ (j : Int) < (x0.len : Int) := c; omega
      subst hje
      have tL : L.take x0.len = L := List.take_of_length_le (by omega)
      have tM : m.take x0.len = m := List.take_of_length_le (by omega)
      rw [tL] at dj tp
      rw [tM] at tq
      have pe := puts_perm (pm.map (·.1)) dj
      rw [pe] at tq
      have pl := (mem_puts dj _ (Nat.le_refl _)).2
      rw [List.take_length, List.length_map, LL] at pl
      generalize putsL (L.map (·.1)) = ps at tp tq pl
      refine newB_row ?_
      intro hc sc rc kc
      refine treeFrom (tp.nw kc) (fun b hb => by omega) ?_
      intro rv h9' n9' s9' sq
      rw [from_nok] at sq
      have tq9 := (tq.nw kc).nw n9'
      have r9' := n9'.row rc (fun h => h)
      have z9 := n9'.size
      refine rng_grow sq (fun b hb => ?_) (fun b => b = hB.size) (fun b hb => ⟨fun hd => ?_, ?_⟩) (fun ex pre O hh => ex = .nrm ∧ ∃ s : Sl, Row hh hB.size [.slice s.a s.len s.cap] ∧ Own h9' hh 2 s (pcells pre) ∧ (∀ b, O b ↔ b = hB.size ∨ blk s.a b) ∧ (∀ b, blk s.a b → ∃ cs, Row hh b cs)) ?_ ?_ ?_ ?_ ?_ ?_ ?_ ?_
      · rcases hb with hb | hb | hb <;> omega
      · rcases hd with hd | hd | hd
        · have : b < hB.size := hd; omega
        · omega
        · omega
      · omega
      · refine ⟨rfl, ⟨none, 0, 0⟩, r9', Own.nil _ _ _, fun b => ⟨fun e => .inl e, fun e => ?_⟩, fun b hb => ?_⟩
        · rcases e with e | ⟨y, e, _⟩
          · exact e
          · cases e
        · obtain ⟨y, e, _⟩ := hb; cases e
      · rintro ex pre O hx hy ⟨rfl, s, w1, w2, w3, w4⟩ hk'
        refine ⟨rfl, s, hk'.row w1 (fun e => e.1 ((w3 _).2 (.inl rfl))), w2.keep hk' (fun b hb e => e.1 ((w3 b).2 (.inr hb))), w3, fun b hb => ?_⟩
        obtain ⟨cs, hcs⟩ := w4 b hb
        exact ⟨cs, hk'.row hcs (fun e => e.1 ((w3 b).2 (.inr hb)))⟩
      · rintro ex pre O hx ⟨rfl, s, w1, w2, w3, w4⟩ b hb
        rcases (w3 b).1 hb with rfl | e
        · exact ⟨_, w1⟩
        · exact w4 b e
      · rintro pre x O h4' Q ⟨_, s, w1, w2, w3, w4⟩ k9 hpre hQ
        obtain ⟨hi', ex⟩ := pre_get hpre
        have sl := w2.len
        rw [pcells_len] at sl
        have zk := k9.size
        refine ldL_row (o := 0) w1 rfl ?_
        refine newB_row ?_
        intro h82 s82 r82 k82
        refine ldRow_row (o := 0) r82 (by simp) ?_
        rw [List.drop_zero, List.take_of_length_le (by simp)]
        have wS := w2.nw k82
        have hS : Keep (fun b => h9'.size ≤ b) h9' h9' := Keep.refl _ _
        refine SlR.app wS.sl (new := [.string x.1, .string x.2]) rfl rfl (by intro u hu; rcases List.mem_cons.1 hu with rfl | hu; rfl; rcases List.mem_cons.1 hu with rfl | hu; rfl; cases hu) (by show (2 * (s.len + 1) + 1024) * 32 ≤ _; omega) ?_
        intro a' c' h85 v1 v2 v3
        have sb : ∀ b, blk s.a b → h9'.size ≤ b ∧ b < h4'.size := fun b hb => ⟨w2.fresh b hb, w2.lt hb⟩
        have ab : ∀ b, blk a' b → blk s.a b ∨ h4'.size ≤ b := fun b hb => by
          rcases v3 with ⟨e, _⟩ | ⟨e, _⟩
          · rw [e] at hb; exact .inl hb
          · rw [e, blk_some] at hb; simp only at hb; exact .inr (by omega)
        have w1' : Row h85 hB.size [.slice s.a s.len s.cap] := v2.row (k82.row w1 (fun h => h)) (fun e => by have := sb _ e; omega)
        refine stC_row (o := 0) w1' (by simp) rfl ?_
        intro h87 s87 r87 k87
        have bO : Keep (fun b => O b ∨ h4'.size ≤ b) h4' h87 := by
          have e1 := k82.mono (T := fun b => O b ∨ h4'.size ≤ b) (fun b _ e => e.elim)
          have e2 := e1.trans v2 (fun b _ e => .inl ((w3 b).2 (.inr e)))
          exact e2.trans k87 (fun b _ e => .inl ((w3 b).2 (.inl e)))
        have v1' : SlR h87 2 a' (s.len + 1) c' (pcells pre ++ [.string x.1, .string x.2]) := v1.keep k87 (fun b hb e => by
          have e' : b = hB.size := e
          rcases ab b hb with q | q
          · have := sb b q; omega
          · omega)
        refine hQ .nrm (fun b => b = hB.size ∨ blk a' b) h87 ⟨rfl, ⟨a', s.len + 1, c'⟩, r87, ⟨?_, fun b hb => ?_⟩, fun b => Iff.rfl, fun b hb => ?_⟩ bO ?_
        · rw [pcells_app]; exact v1'
        · rcases ab b hb with q | q
          · exact (sb b q).1
          · omega
        · rcases v1' with ⟨e, _⟩ | ⟨b', o', cs, e, hr, _⟩
          · have hb' : blk a' b := hb
            rw [e] at hb'; obtain ⟨y, e2, _⟩ := hb'; cases e2
          · have hb' : blk a' b := hb
            rw [e, blk_some] at hb'
            simp only at hb'
            subst hb'
            exact ⟨cs, hr⟩
        · rintro b (rfl | e)
          · exact ⟨.inl ((w3 _).2 (.inl rfl)), r87.lt⟩
          · refine ⟨(ab b e).imp (fun q => (w3 b).2 (.inr q)) id, v1'.blk_lt e⟩
      · rintro O h' ⟨_, s, w1, w2, w3, w4⟩ k9
        have zk := k9.size
        have tq' : TreeAt h' (fun b => b < hB.size) q ps := tq9.keep k9 (fun b hb' e => by rcases e with e | e <;> omega)
        have nw' : Nw h h' := (((n0b.trans' kc).trans' n9').trans k9 (fun b hb' e => by have := n0b.size; rcases e with e | e <;> omega))
        refine withJ.inl ?_
        refine ldL_row (o := 0) w1 rfl ?_
        refine same_spec tq' (fun b hb' => by omega) w2.pr (by omega) ?_
        intro h95 n95
        refine cnd_t rfl ?_
        refine ldL_row (o := 0) (n95.row w1 (fun h => h)) rfl ?_
        have lenp := w2.pr.len
        refine cnd_t (by rw [beq_iff_eq]; omega) ?_
        refine awake_spec ?_
        intro hx nx
        intro hy zy sy
        exact hk hy (shut_nw ((nw'.trans' n95).trans' nx) (Nat.le_refl _) zy sy)
      · rintro pre O hh ⟨e, _⟩; cases e
      · rintro i pre O hh ⟨e, _⟩; cases e
      · rintro i pre O hh ⟨e, _⟩; cases e
  · intro c1 hT
    refine cnd_dec ?_ ?_
    rotate_left
    · intro _; exact hT trivial
    intro c2
    have hil : i < m.length := by have : (i : Int) < ((0 + x0.len : Nat) : Int) := c1; omega
    have hil2 : i < x1.len := by have : (i : Int) < (x1.len : Int) := c2; omega
    have l0 : 0 < x0.len := by omega
    refine h1.ld (n0a.mono (fun b _ e => e.elim)) (by omega) (by omega) ?_
    intro z hz
    refine ⟨by omega, by omega, ?_⟩
    obtain ⟨kk, hkk, ek⟩ := tmod_in l0 (by omega) hz
    have e0 : (0 : Int) + (x0.len : Int) = (x0.len : Int) := Int.zero_add _
    simp only [e0, ek]
    have hkm : kk < m.length := by omega
    refine om.old hkm ?_
    intro y sy ey e1 e2 e3
    refine ldS_at (by rw [Int.toNat_natCast]; exact e1) ?_
    refine ldS_at (by rw [Int.toNat_natCast]; exact e2) ?_
    refine ldB_at (by rw [Int.toNat_natCast]; exact e3) ?_
    refine om.old hil ?_
    intro y sy ey f1 f2 f3
    refine ldS_at (by rw [Int.toNat_natCast]; exact f1) ?_
    refine ldS_at (by rw [Int.toNat_natCast]; exact f2) ?_
    refine ldB_at (by rw [Int.toNat_natCast]; exact f3) ?_
    refine om.ost hil m[kk] ?_
    intro h33 z33 o33 k33
    refine o33.ost (by rw [List.length_set]; exact hkm) m[i] ?_
    intro h37 z37 o37 k37
    have w1 : w64 ((i : Int) + 1) = ((i + 1 : Nat) : Int) := by rw [w64_id (by omega) (by omega)]; push_cast; rfl
    refine ⟨⟨i + 1, _, w1, by omega, (swap_perm hil hkm).trans pm, o37, ?_⟩, by rw [w1]; omega⟩
    exact (na.trans k33 (fun b hb e => by have := om.fresh b e; omega)).trans k37 (fun b hb e => by have := om.fresh b e; omega)
end Go.Proofs.Ytopnljjfpfnhfaa
