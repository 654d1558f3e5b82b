/- TreeRanges. -/
import Derived.Test.YtopnljjfpfnhfaaPLawC
import Derived.Test.YtopnljjfpfnhfaaPRngB
namespace Go.Proofs.Ytopnljjfpfnhfaa
open Go D
set_option linter.unusedVariables false
set_option linter.unusedSimpArgs false

theorem insKV_len' (k v : Key) : ∀ l : List KV, (insKV k v l).length ≤ l.length + 1
  | [] => by simp [insKV]
  | (a, x) :: r => by
    have ih := insKV_len' k v r
    unfold insKV
    split
    · simp only [List.length_cons]; omega
    · split <;> simp
theorem new_fn {h0 h h' : Heap} (hz : h0.size ≤ h.size) (hz2 : h.size ≤ h'.size) {b : Nat} (hb : Fn (New h0 h) h h' b) : New h0 h' b := by
  rcases hb with hb | hb
  · exact ⟨hb.1, by have := hb.2; omega⟩
  · exact ⟨by have := hb.1; omega, hb.2⟩
def lastK (pre : List KV) : Key := (pre.getLast?.map (·.1)).getD nok
theorem asc_drop {m : Nat} : ∀ {l : List Key}, Asc l → Asc (l.drop m) := by
  induction m with
  | zero => intro l h; exact h
  | succ m ih =>
    intro l h
    cases l with
    | nil => exact h
    | cons a l => exact ih h.2
theorem asc_from {k : Key} {l : List KV} (h : Asc (l.map (·.1))) : Asc ((fromKV k l).map (·.1)) := by
  rw [← frm_leaf h, List.map_drop]
  exact asc_drop h

theorem treeRanges_spec {h : Heap} {x0 : Sl} {k : Key} (h0 : OpS h x0.a x0.len) {R : Bool → Heap → Prop} (hk : ∀ h', Nw h h' → R true h') : CallT Try.prog law8_TreeRanges_no [.slice x0.a x0.len x0.cap, .string k] h [.sc .bool] R := by
  have hcall := law8_TreeRanges_call x0 k (R := R) (h := h)
  apply hcall
  clear hcall
  unfold law8_TreeRanges
  refine newB_row ?_
  intro h2 s2 r2 k2
  refine newB_row ?_
  intro h4 s4 r4 k4
  have n4 : Nw h h4 := k2.trans' k4
  have a1 := k4.row r2 (fun h => h)
  refine treeNew ?_
  intro p6 h6 n6 t6
  have n06 := n4.trans' n6
  refine withJ.inl (withJ.inl ?_)
  refine cnd_f rfl ?_
  refine cnd_dec (fun c200 => ?_) (fun c200 => ?_)
  · refine withJ.inl ?_
    refine cnd_t rfl ?_
    refine awake_spec ?_
    intro hx nx
    refine stC_row (o := 0) (nx.row (n6.row r4 (fun h => h)) (fun h => h)) (by simp) rfl ?_
    intro hy sy ry ky
    intro hz zz sz
    refine ldB_row (o := 0) (shut_row zz sz ry) rfl ?_
    exact hk hz (shut_nw (Nw.st (n06.trans' nx) ky (by omega)) (Nat.le_refl _) zz sz)
  have hl200 : x0.len ≤ 200 := by have : ¬ (x0.len : Int) > 200 := c200; omega
  refine LoopT.intro (fun (s : Option Addr × Int) hh => ∃ (i p : Nat) (l : List KV), s.1 = some ⟨p, 0, none⟩ ∧ s.2 = (i : Int) ∧ i ≤ x0.len ∧ l.length ≤ i ∧ Nw h4 hh ∧ TreeAt hh (New h4 hh) p l) (fun s _ => ((x0.len : Int) - s.2).toNat)
    ⟨0, p6, [], rfl, rfl, Nat.zero_le _, by simp, n6, t6⟩ ?_
  rintro ⟨tp, ix⟩ ha ⟨i, p, l, rfl, rfl, hi, ll, na, ta⟩
  have n0a := n4.trans' na
  have za := na.size
  refine cnd_dec (fun c => ?_) (fun c => ?_)
  · have hil : i < x0.len := by have : (i : Int) < (x0.len : Int) := c; omega
    refine h0.k n0a hil ?_
    refine h0.v n0a hil ?_
    refine treePut ta (fun b hb => hb.2) (by omega) ?_
    intro p' hb nb tb
    refine cnd_f rfl ?_
    have w1 : w64 ((i : Int) + 1) = ((i + 1 : Nat) : Int) := by rw [w64_id (by omega) (by omega)]; push_cast; rfl
    have hle := insKV_len' (opK h x0.a i).1 (opK h x0.a i).2 l
    refine ⟨⟨i + 1, p', _, rfl, w1, by omega, by omega, na.trans' nb, tb.mono (fun b hb' => new_fn za nb.size hb')⟩, ?_⟩
    show ((x0.len : Int) - w64 ((i : Int) + 1)).toNat < ((x0.len : Int) - (i : Int)).toNat
    rw [w1]; omega
  · have asc := ta.asc
    have b1 := na.row a1 (fun h => h)
    have b3 := na.row r4 (fun h => h)
    refine newB_row ?_
    intro hb sb rb kb
    refine newB_row ?_
    intro hc sc rc kc
    refine stC_row (b := ha.size) (o := 0) (kc.row rb (fun h => h)) (by simp) rfl ?_
    intro hd sd rd kd
    refine stC_row (b := hb.size) (o := 0) (kd.row rc (fun e => by have e' : hb.size = ha.size := e; omega)) (by simp) rfl ?_
    intro he se re ke
    refine newB_row ?_
    intro hf sf rf kf
    refine stC_row (o := 0) rf (by simp) rfl ?_
    intro hg sg rg kg
    have nag : Nw ha hg := Nw.st ((Nw.st (Nw.st (kb.trans' kc) kd (Nat.le_refl _)) ke (by omega)).trans' kf) kg (by omega)
    have g1 := nag.row b1 (fun h => h)
    have g3 := nag.row b3 (fun h => h)
    have g22 : Row hg ha.size [.int .i64 0] := kg.row (kf.row (ke.row rd (fun e => by have e' : ha.size = hb.size := e; omega)) (fun h => h)) (fun e => by have e' : ha.size = he.size := e; omega)
    have g24 : Row hg hb.size [.int .i64 0] := kg.row (kf.row re (fun h => h)) (fun e => by have e' : hb.size = he.size := e; omega)
    have zg := nag.size
    refine ldS_row (o := 0) g1 rfl ?_
    refine treeFrom (ta.nw nag) (fun b hb => by have := hb.2; omega) ?_
    intro rv h9 n9 s9 sq
    have t9 := (ta.nw nag).nw n9
    have q1 := n9.row g1 (fun h => h)
    have q3 := n9.row g3 (fun h => h)
    have q22 := n9.row g22 (fun h => h)
    have q24 := n9.row g24 (fun h => h)
    have q28 : Row h9 he.size [.string nok] := n9.row rg (fun h => h)
    have asc1 := asc_from (k := k) asc
    have hxs : ∀ q ∈ fromKV k l, ¬ klt q.1 k := fun q hq => by
      have := (List.mem_filter.1 hq).2
      simpa using this
    have lx : (fromKV k l).length ≤ l.length := List.length_filter_le _ _
    refine rng_cells sq (fun b hb => ?_) (fun b => b = ha.size ∨ b = he.size) (fun b hb => ⟨fun hd => ?_, ?_⟩) (fun ex pre hh => ex = .nrm ∧ Row hh ha.size [.int .i64 ((pre.length : Nat) : Int)] ∧ Row hh he.size [.string (lastK pre)]) ⟨rfl, q22, q28⟩ ?_ ?_ ?_ ?_ ?_ ?_ ?_
    · rcases hb with hb | hb | hb
      · have := hb.2; omega
      · omega
      · omega
    · rcases hd with hd | hd | hd
      · have := hd.2; rcases hb with rfl | rfl <;> omega
      · rcases hb with rfl | rfl <;> omega
      · rcases hb with rfl | rfl <;> omega
    · rcases hb with rfl | rfl <;> omega
    · rintro ex pre hx hy ⟨rfl, w1, w2⟩ hk'
      exact ⟨rfl, hk'.row w1 (fun e => e.1 (.inl rfl)), hk'.row w2 (fun e => e.1 (.inr rfl))⟩
    · rintro ex pre hx ⟨rfl, w1, w2⟩ b hb
      rcases hb with rfl | rfl
      · exact ⟨_, w1⟩
      · exact ⟨_, w2⟩
    · rintro pre x h4' Q ⟨_, w1, w2⟩ k9 hpre hQ
      obtain ⟨hi', ex⟩ := pre_get hpre
      have c1 := k9.row q1 (fun e => by rcases e with (e | e) | e <;> omega)
      refine withJ.inl (withJ.inl ?_)
      refine ldS_row (o := 0) c1 rfl ?_
      have hnk : ¬ klt x.1 k := by rw [← ex]; exact hxs _ (List.getElem_mem hi')
      rw [slt_dec]
      refine cnd_f (decide_eq_false hnk) ?_
      refine ldI_row (o := 0) w1 rfl ?_
      have tail : cnd false (stC ⟨h2.size, 0, none⟩ (.bool false) h4' fun h49 => Q .ret h49) (stC ⟨he.size, 0, none⟩ (.string x.1) h4' fun h43 => ldI .i64 ⟨ha.size, 0, none⟩ h43 fun n44 => stC ⟨ha.size, 0, none⟩ (.int .i64 (w64 (n44 + 1))) h43 fun h45 => Q .nrm h45) := by
        refine cnd_f rfl ?_
        refine stC_row (o := 0) w2 (by simp) rfl ?_
        intro h43 s43 r43 k43
        have w1' := k43.row w1 (fun e => by have e' : ha.size = he.size := e; omega)
        refine ldI_row (o := 0) w1' rfl ?_
        refine stC_row (o := 0) w1' (by simp) rfl ?_
        intro h45 s45 r45 k45
        have e1 : w64 (((pre.length : Nat) : Int) + 1) = (((pre ++ [x]).length : Nat) : Int) := by rw [w64_id (by omega) (by omega)]; simp
        rw [e1] at r45
        refine hQ .nrm h45 ⟨rfl, r45, ?_⟩ ((k43.mono (fun b _ e => .inl (.inr e))).trans k45 (fun b _ e => .inl (.inl e)))
        have el : lastK (pre ++ [x]) = x.1 := by unfold lastK; simp
        rw [el]
        exact k45.row r43 (fun e => by have e' : he.size = ha.size := e; omega)
      refine cnd_dec (fun cp => ?_) (fun _ => tail)
      have hp0 : 0 < pre.length := by have : ((pre.length : Nat) : Int) > 0 := cp; omega
      refine ldS_row (o := 0) w2 rfl ?_
      have hgt : klt (lastK pre) x.1 := by
        have e1 : lastK pre = (fromKV k l)[pre.length - 1].1 := by
          obtain ⟨r, er⟩ := hpre
          have e2 : (fromKV k l)[pre.length - 1]? = some pre[pre.length - 1] := by
            rw [← er, List.append_assoc, List.getElem?_append_left (by omega), List.getElem?_eq_getElem (by omega)]
          rw [List.getElem?_eq_getElem (by omega)] at e2
          injection e2 with e2
          rw [e2]
          unfold lastK
          rw [List.getLast?_eq_getElem?, List.getElem?_eq_getElem (by omega)]; rfl
        rw [e1, ← ex]
        exact asc_get (i := pre.length - 1) (j := pre.length) asc1 (by omega) (by rw [List.getElem?_map, List.getElem?_eq_getElem (by omega)]; rfl) (by rw [List.getElem?_map, List.getElem?_eq_getElem hi']; rfl)
      have ef : (slt x.1 (lastK pre) || seq x.1 (lastK pre)) = false := by
        rw [slt_dec, seq_dec, decide_eq_false (klt_asymm hgt), decide_eq_false (fun e => by rw [e] at hgt; exact klt_irrefl _ hgt)]; rfl
      rw [ef]
      exact tail
    · rintro h' ⟨_, w1, w2⟩ k9'
      have z' := k9'.size
      have c1 := k9'.row q1 (fun e => by rcases e with (e | e) | e <;> omega)
      have c3 := k9'.row q3 (fun e => by rcases e with (e | e) | e <;> omega)
      have c24 := k9'.row q24 (fun e => by rcases e with (e | e) | e <;> omega)
      have t' : TreeAt h' (New h4 ha) p l := t9.keep k9' (fun b hb e => by have := hb.2; rcases e with (e | e) | e <;> omega)
      have nw' : Nw h h' := ((n0a.trans' nag).trans' n9).trans k9' (fun b hb e => by have := n0a.size; rcases e with (e | e) | e <;> omega)
      refine treeFrom t' (fun b hb => by have := hb.2; omega) ?_
      intro rv2 i9 m9 z9 sq2
      rw [from_nok] at sq2
      have d1 := m9.row c1 (fun h => h)
      have d3 := m9.row c3 (fun h => h)
      have d22 := m9.row w1 (fun h => h)
      have d24 := m9.row c24 (fun h => h)
      have t9' := t'.nw m9
      refine rng_cells sq2 (fun b hb => ?_) (fun b => b = hb.size) (fun b hb => ⟨fun hd => ?_, ?_⟩) (fun ex pre hh => ex = .nrm ∧ Row hh hb.size [.int .i64 (((fromKV k pre).length : Nat) : Int)]) ⟨rfl, d24⟩ ?_ ?_ ?_ ?_ ?_ ?_ ?_
      · rcases hb with hb | hb | hb
        · have := hb.2; omega
        · omega
        · omega
      · rcases hd with hd | hd | hd
        · have := hd.2; omega
        · omega
        · omega
      · omega
      · rintro ex pre hx hy ⟨rfl, w1⟩ hk'
        exact ⟨rfl, hk'.row w1 (fun e => e.1 rfl)⟩
      · rintro ex pre hx ⟨rfl, w1⟩ b hb
        subst hb
        exact ⟨_, w1⟩
      · rintro pre x h4' Q ⟨_, w1⟩ k9 hpre hQ
        obtain ⟨hi', ex⟩ := pre_get hpre
        have c1 := k9.row d1 (fun e => by rcases e with e | e <;> omega)
        refine ldS_row (o := 0) c1 rfl ?_
        have fl : (fromKV k pre).length ≤ pre.length := List.length_filter_le _ _
        have ea : fromKV k (pre ++ [x]) = fromKV k pre ++ fromKV k [x] := fromKV_app _ _ _
        rw [slt_dec]
        refine cnd_of (fun cc => ?_) (fun cc => ?_)
        · have hnk : ¬ klt x.1 k := by simpa using cc
          refine ldI_row (o := 0) w1 rfl ?_
          refine stC_row (o := 0) w1 (by simp) rfl ?_
          intro h45 s45 r45 k45
          have e1 : w64 (((fromKV k pre).length : Int) + 1) = (((fromKV k (pre ++ [x])).length : Nat) : Int) := by
            rw [w64_id (by omega) (by omega), ea, fromKV_all (l := [x]) (fun q hq => by simp only [List.mem_singleton] at hq; subst hq; exact hnk)]
            simp
          rw [e1] at r45
          exact hQ .nrm h45 ⟨rfl, r45⟩ (k45.mono (fun b _ e => .inl e))
        · have hnk : klt x.1 k := by simpa using cc
          refine hQ .nrm h4' ⟨rfl, ?_⟩ (Keep.refl _ _)
          rw [ea, fromKV_none (l := [x]) (fun q hq => by simp only [List.mem_singleton] at hq; subst hq; exact hnk), List.append_nil]
          exact w1
      · rintro i' ⟨_, w24⟩ k9''
        have z'' := k9''.size
        have f1 := k9''.row d1 (fun e => by rcases e with e | e <;> omega)
        have f3 := k9''.row d3 (fun e => by rcases e with e | e <;> omega)
        have f22 := k9''.row d22 (fun e => by rcases e with e | e <;> omega)
        have t'' : TreeAt i' (New h4 ha) p l := t9'.keep k9'' (fun b hb e => by have := hb.2; rcases e with e | e <;> omega)
        have nw'' : Nw h i' := (nw'.trans' m9).trans k9'' (fun b hb e => by have := n0a.size; rcases e with e | e <;> omega)
        refine withJ.intro (fun _ h68 => Nw h h68 ∧ Row h68 ha.size [.int .i64 (((fromKV k l).length : Nat) : Int)] ∧ Row h68 hb.size [.int .i64 (((fromKV k l).length : Nat) : Int)] ∧ Row h68 h2.size [.bool false]) ?_ ?_
        · rintro _ h68 ⟨w0, w1, w2, w3⟩
          refine withJ.inl ?_
          refine ldI_row (o := 0) w1 rfl ?_
          refine ldI_row (o := 0) w2 rfl ?_
          refine cnd_t (beq_self_eq_true _) ?_
          refine awake_spec ?_
          intro hx nx
          refine stC_row (o := 0) (nx.row w3 (fun h => h)) (by simp) rfl ?_
          intro hy sy ry ky
          intro hz zz sz
          refine ldB_row (o := 0) (shut_row zz sz ry) rfl ?_
          exact hk hz (shut_nw (Nw.st (w0.trans' nx) ky (by omega)) (Nat.le_refl _) zz sz)
        · intro J hJ
          refine ldS_row (o := 0) f1 rfl ?_
          refine treeFrom t'' (fun b hb => by have := hb.2; omega) ?_
          intro rv3 j9 p9 y9 sq3
          have g1' := p9.row f1 (fun h => h)
          have J' : ∀ hh, Keep (fun b => False ∨ j9.size ≤ b) j9 hh → J () hh := by
            intro hh kk
            have nn : Nw j9 hh := kk.mono (fun b hb e => by rcases e with e | e; exact e; omega)
            exact hJ () hh ⟨(nw''.trans' p9).trans' nn, nn.row (p9.row f22 (fun h => h)) (fun h => h), nn.row (p9.row w24 (fun h => h)) (fun h => h), nn.row (p9.row f3 (fun h => h)) (fun h => h)⟩
          refine rng_cells sq3 (fun b hb => ?_) (fun _ => False) (fun b hb => hb.elim) (fun ex pre hh => (ex = .nrm ∧ pre = []) ∨ ex = .exit 6) (.inl ⟨rfl, rfl⟩) ?_ ?_ ?_ ?_ ?_ ?_ ?_
          · rcases hb with hb | hb | hb
            · have := hb.2; omega
            · omega
            · omega
          · intro ex pre hx hy hh _; exact hh
          · intro ex pre hx _ b hb; exact hb.elim
          · intro pre x h4' Q _ k9 hpre hQ
            obtain ⟨hi', ex⟩ := pre_get hpre
            have c1 := k9.row g1' (fun e => by rcases e with e | e; exact e; omega)
            refine ldS_row (o := 0) c1 rfl ?_
            have hnk : ¬ klt x.1 k := by rw [← ex]; exact hxs _ (List.getElem_mem hi')
            rw [slt_dec]
            refine cnd_f (decide_eq_false hnk) ?_
            exact hQ (.exit 6) h4' (.inr rfl) (Keep.refl _ _)
          · intro hh _ kk; exact J' hh kk
          · intro pre hh e _
            rcases e with ⟨e, _⟩ | e <;> cases e
          · intro i pre hh e kk
            rcases e with ⟨e, _⟩ | e
            · cases e
            · injection e with e
              exact ⟨_, List.mem_singleton.2 rfl, e.symm, J' hh kk⟩
          · intro i pre hh e
            rcases e with ⟨e, _⟩ | e <;> cases e
      · rintro pre hh ⟨e, _⟩; cases e
      · rintro i pre hh ⟨e, _⟩; cases e
      · rintro i pre hh ⟨e, _⟩; cases e
    · rintro pre hh ⟨e, _⟩; cases e
    · rintro i pre hh ⟨e, _⟩; cases e
    · rintro i pre hh ⟨e, _⟩; cases e
end Go.Proofs.Ytopnljjfpfnhfaa
