/- PJoin PFlat POrd POrdB POrdC PRem PTree PTreeB joined, for seat work that lacks some functions; written by wip/tool/cut.py. -/
import Derived.Test.YtkgocfaajfaidaaKTreeB
namespace Go.Proofs.Ytkgocfaajfaidaa
open Go D
set_option linter.unusedVariables false
set_option linter.unusedSimpArgs false
theorem rv_row {h : Heap} {b n : Nat} {cs : List Value} (hr : Row h b cs) (hn : n = cs.length) : Rv h (some ⟨b, 0, none⟩) n cs := by
  refine ⟨hn, fun i v hv => ⟨_, rfl, rfl, ?_⟩⟩
  rw [add_mk, hr.cells, Nat.zero_add]; exact hv
theorem Reps.cat {h : Heap} {F : Nat → Prop} {n : Nat} {t : T (n + 1)} {v : Value} (hr : Rep h F (n + 1) t v) : ∃ p ka kl kc sa sl sc vs, v = .iface inT (.pointer (some ⟨p, 0, none⟩)) ∧ Row h p [.slice ka kl kc, .slice sa sl sc] ∧ Rv h ka kl (keysV t.1) ∧ Rv h sa sl vs ∧ Reps h F n t.2 vs := by
  obtain ⟨p, ka, kl, kc, sa, sl, sc, vs, e, fp, row, k1, k2, lc, f1, f2, lv, hsons⟩ := hr
  exact ⟨p, ka, kl, kc, sa, sl, sc, vs, e, row, k1, k2, lv, hsons⟩

theorem joined_leaf {h : Heap} {F : Nat → Prop} {v v' : Value} {mid : Key} {x y : List KV} (hx : Rep h F 0 x v) (hy : Rep h F 0 y v') (lx : x.length ≤ 1000000) (ly : y.length ≤ 1000000) {R : Value × Value × ByteArray → Heap → Prop}
    (hkR : ∀ a b m h', Nw h h' → Rep h' (New h h') 0 (cutF (x ++ y)).1 a → Opt h' (New h h') 0 (cutF (x ++ y)).2 m b → R (a, b, m) h') : CallT Try.prog btree_joined_no [v, v', .string mid] h [.sc .raw, .sc .raw, .sc .str] R := by
  have hcall := btree_joined_call v v' mid (R := R) (h := h)
  apply hcall
  clear hcall
  unfold btree_joined
  obtain ⟨p, ka, kl, kc, va, vl, vc, rfl, _, row, k1, k2, _, _⟩ := hx
  obtain ⟨q, ka2, kl2, kc2, va2, vl2, vc2, rfl, _, row2, k3, k4, _, _⟩ := hy
  have len1 : kl = x.length := by have := k1.1; simpa using this
  have len2 : vl = x.length := by have := k2.1; simpa using this
  have len3 : kl2 = y.length := by have := k3.1; simpa using this
  have len4 : vl2 = y.length := by have := k4.1; simpa using this
  refine isP_yes rfl ?_
  refine isP_yes rfl ?_
  have ul : (x ++ y).length = x.length + y.length := List.length_append
  refine withJ.intro (fun (s : Sl × Sl) h5 => Own h h5 1 s.1 (keysV ((x ++ y).map (·.1))) ∧ Own h h5 1 s.2 (keysV ((x ++ y).map (·.2))) ∧ s.1.len = (x ++ y).length ∧ s.2.len = (x ++ y).length ∧ Nw h h5) ?_ ?_
  · rintro ⟨r, r'⟩ h22 ⟨o1, o2, e1, e2, n22⟩
    simp only at o1 o2 e1 e2
    generalize x ++ y = u at o1 o2 e1 e2 hkR ul
    refine cnd_dec (fun c2 => ?_) (fun c2 => ?_)
    · replace c2 : (r.len : Int) ≤ 8 := c2
      have hc : cutF u = (u, none) := by unfold cutF; rw [if_pos (by omega)]; rfl
      rw [hc] at hkR
      refine newB_row ?_
      intro h7 s7 w7 k7
      exact hkR _ _ _ h7 (n22.trans' k7) (rep_leaf' w7 (o1.nw k7) (o2.nw k7) n22.size) rfl
    · replace c2 : ¬ (r.len : Int) ≤ 8 := c2
      have hc : cutF u = (u.take (u.length / 2), some ((u[u.length / 2]?.map (·.1)).getD ⟨#[]⟩, u.drop (u.length / 2))) := by unfold cutF; rw [if_neg (by omega)]; rfl
      rw [hc] at hkR
      refine withJ.inl ?_
      have hh : w64 ((r.len : Int).tdiv 2) = ((u.length / 2 : Nat) : Int) := by rw [half_is (by omega), e1]
      simp only [hh]
      generalize hH : u.length / 2 = H at hkR ⊢
      refine o1.rv.lo (by omega) o1.le ?_
      intro o11 c11 rvA
      refine o2.rv.lo (by omega) o2.le ?_
      intro o12 c12 rvB
      refine o1.rv.hi (by omega) o1.le ?_
      intro o13 c13 rvC
      refine o2.rv.hi (by omega) o2.le ?_
      intro o14 c14 rvD
      have hHl : H < u.length := by omega
      refine o1.rv.at (by omega) (by omega) (v := .string u[H].1) (by rw [Int.toNat_natCast, List.getElem?_map, List.getElem?_map, List.getElem?_eq_getElem hHl]; rfl) ?_
      intro a37 c37
      refine ldS_at c37 ?_
      rw [List.getElem?_eq_getElem hHl] at hkR
      have n0 : Nw h22 h22 := Keep.refl _ _
      have fin : ∀ {p q : Nat} {h' : Heap} {a b c d : Sl}, Nw h22 h' → h22.size ≤ p → Row h' p [.slice a.a a.len a.cap, .slice b.a b.len b.cap] → h22.size ≤ q → Row h' q [.slice c.a c.len c.cap, .slice d.a d.len d.cap] → Own h22 h' 1 a ((keysV (u.map (·.1))).take H) → Own h22 h' 1 b ((keysV (u.map (·.2))).take H) → Own h22 h' 1 c ((keysV (u.map (·.1))).drop H) → Own h22 h' 1 d ((keysV (u.map (·.2))).drop H) →
          R (.iface lfT (.pointer (some ⟨p, 0, none⟩)), .iface lfT (.pointer (some ⟨q, 0, none⟩)), u[H].1) h' := by
        intro p q h' a b c d nw zp rp zq rq oa ob oc od
        have z22 := n22.size
        refine hkR _ _ _ h' (n22.trans' nw) ((rep_leaf' rp (t := u.take H) ?_ ?_ zp).mono (fun b hb => new_mono z22 (Nat.le_refl _) hb)) ⟨rfl, (rep_leaf' rq (t := u.drop H) ?_ ?_ zq).mono (fun b hb => new_mono z22 (Nat.le_refl _) hb)⟩
        · unfold keysV at oa ⊢; rw [List.map_take, List.map_take]; exact oa
        · unfold keysV at ob ⊢; rw [List.map_take, List.map_take]; exact ob
        · unfold keysV at oc ⊢; rw [List.map_drop, List.map_drop]; exact oc
        · unfold keysV at od ⊢; rw [List.map_drop, List.map_drop]; exact od
      refine cloneS_spec (s := ⟨o11, _, c11⟩) (rvA.keep0 n0) (fun v hv => keysV_one _ v (List.mem_of_mem_take hv)) (by dsimp only; omega) ?_
      intro r17 h18 o18 l18 k18
      replace o18 := o18.up n0.size
      have n18 := n0.trans' k18
      refine ⟨by first | exact ldS_at (n18.cell c37 (fun h => h)) rfl, ?_⟩
      refine cloneS_spec (s := ⟨o12, _, c12⟩) (rvB.keep0 n18) (fun v hv => keysV_one _ v (List.mem_of_mem_take hv)) (by dsimp only; omega) ?_
      intro r20 h21 o21 l21 k21
      replace o21 := o21.up n18.size
      have n21 := n18.trans' k21
      refine ⟨by first | exact ldS_at (n21.cell c37 (fun h => h)) rfl, ?_⟩
      refine ⟨?_, ?_⟩
      · refine newB_row ?_
        intro h24 s24 w24 k24
        have z24 := n21.size
        have n24 := n21.trans' k24
        refine ⟨by first | exact ldS_at (n24.cell c37 (fun h => h)) rfl, ?_⟩
        refine cloneS_spec (s := ⟨o13, _, c13⟩) (rvC.keep0 n24) (fun v hv => keysV_one _ v (List.mem_of_mem_drop hv)) (by dsimp only; omega) ?_
        intro r26 h27 o27 l27 k27
        replace o27 := o27.up n24.size
        have n27 := n24.trans' k27
        refine ⟨by first | exact ldS_at (n27.cell c37 (fun h => h)) rfl, ?_⟩
        refine cloneS_spec (s := ⟨o14, _, c14⟩) (rvD.keep0 n27) (fun v hv => keysV_one _ v (List.mem_of_mem_drop hv)) (by dsimp only; omega) ?_
        intro r29 h30 o30 l30 k30
        replace o30 := o30.up n27.size
        have n30 := n27.trans' k30
        refine ⟨by first | exact ldS_at (n30.cell c37 (fun h => h)) rfl, ?_⟩
        refine ⟨?_, ?_⟩
        · refine newB_row ?_
          intro h33 s33 w33 k33
          have z33 := n30.size
          have n33 := n30.trans' k33
          refine ⟨by first | exact ldS_at (n33.cell c37 (fun h => h)) rfl, ?_⟩
          exact fin n33 z24 (k33.row (k30.row (k27.row w24 (fun h => h)) (fun h => h)) (fun h => h)) z33 w33 (((((o18.nw k21).nw k24).nw k27).nw k30).nw k33) ((((o21.nw k24).nw k27).nw k30).nw k33) ((o27.nw k30).nw k33) (o30.nw k33)
        · refine newB_row ?_
          intro h36 s36 w36 k36
          have z36 := n30.size
          have n36 := n30.trans' k36
          refine ⟨by first | exact ldS_at (n36.cell c37 (fun h => h)) rfl, ?_⟩
          exact fin n36 z24 (k36.row (k30.row (k27.row w24 (fun h => h)) (fun h => h)) (fun h => h)) z36 w36 (((((o18.nw k21).nw k24).nw k27).nw k30).nw k36) ((((o21.nw k24).nw k27).nw k30).nw k36) ((o27.nw k30).nw k36) (o30.nw k36)
      · refine cloneS_spec (s := ⟨o13, _, c13⟩) (rvC.keep0 n21) (fun v hv => keysV_one _ v (List.mem_of_mem_drop hv)) (by dsimp only; omega) ?_
        intro r38 h39 o39 l39 k39
        replace o39 := o39.up n21.size
        have n39 := n21.trans' k39
        refine ⟨by first | exact ldS_at (n39.cell c37 (fun h => h)) rfl, ?_⟩
        refine ⟨?_, ?_⟩
        · refine newB_row ?_
          intro h42 s42 w42 k42
          have z42 := n39.size
          have n42 := n39.trans' k42
          refine ⟨by first | exact ldS_at (n42.cell c37 (fun h => h)) rfl, ?_⟩
          refine cloneS_spec (s := ⟨o14, _, c14⟩) (rvD.keep0 n42) (fun v hv => keysV_one _ v (List.mem_of_mem_drop hv)) (by dsimp only; omega) ?_
          intro r44 h45 o45 l45 k45
          replace o45 := o45.up n42.size
          have n45 := n42.trans' k45
          refine ⟨by first | exact ldS_at (n45.cell c37 (fun h => h)) rfl, ?_⟩
          refine ⟨?_, ?_⟩
          · refine newB_row ?_
            intro h48 s48 w48 k48
            have z48 := n45.size
            have n48 := n45.trans' k48
            refine ⟨by first | exact ldS_at (n48.cell c37 (fun h => h)) rfl, ?_⟩
            exact fin n48 z42 (k48.row (k45.row w42 (fun h => h)) (fun h => h)) z48 w48 (((((o18.nw k21).nw k39).nw k42).nw k45).nw k48) ((((o21.nw k39).nw k42).nw k45).nw k48) (((o39.nw k42).nw k45).nw k48) (o45.nw k48)
          · refine newB_row ?_
            intro h51 s51 w51 k51
            have z51 := n45.size
            have n51 := n45.trans' k51
            refine ⟨by first | exact ldS_at (n51.cell c37 (fun h => h)) rfl, ?_⟩
            exact fin n51 z42 (k51.row (k45.row w42 (fun h => h)) (fun h => h)) z51 w51 (((((o18.nw k21).nw k39).nw k42).nw k45).nw k51) ((((o21.nw k39).nw k42).nw k45).nw k51) (((o39.nw k42).nw k45).nw k51) (o45.nw k51)
        · refine cloneS_spec (s := ⟨o14, _, c14⟩) (rvD.keep0 n39) (fun v hv => keysV_one _ v (List.mem_of_mem_drop hv)) (by dsimp only; omega) ?_
          intro r53 h54 o54 l54 k54
          replace o54 := o54.up n39.size
          have n54 := n39.trans' k54
          refine ⟨by first | exact ldS_at (n54.cell c37 (fun h => h)) rfl, ?_⟩
          refine ⟨?_, ?_⟩
          · refine newB_row ?_
            intro h57 s57 w57 k57
            have z57 := n54.size
            have n57 := n54.trans' k57
            refine ⟨by first | exact ldS_at (n57.cell c37 (fun h => h)) rfl, ?_⟩
            refine ⟨?_, ?_⟩
            · refine newB_row ?_
              intro h60 s60 w60 k60
              have z60 := n57.size
              have n60 := n57.trans' k60
              refine ⟨by first | exact ldS_at (n60.cell c37 (fun h => h)) rfl, ?_⟩
              exact fin n60 z57 (k60.row w57 (fun h => h)) z60 w60 (((((o18.nw k21).nw k39).nw k54).nw k57).nw k60) ((((o21.nw k39).nw k54).nw k57).nw k60) (((o39.nw k54).nw k57).nw k60) ((o54.nw k57).nw k60)
            · refine newB_row ?_
              intro h63 s63 w63 k63
              have z63 := n57.size
              have n63 := n57.trans' k63
              refine ⟨by first | exact ldS_at (n63.cell c37 (fun h => h)) rfl, ?_⟩
              exact fin n63 z57 (k63.row w57 (fun h => h)) z63 w63 (((((o18.nw k21).nw k39).nw k54).nw k57).nw k63) ((((o21.nw k39).nw k54).nw k57).nw k63) (((o39.nw k54).nw k57).nw k63) ((o54.nw k57).nw k63)
          · refine newB_row ?_
            intro h66 s66 w66 k66
            have z66 := n54.size
            have n66 := n54.trans' k66
            refine ⟨by first | exact ldS_at (n66.cell c37 (fun h => h)) rfl, ?_⟩
            refine newB_row ?_
            intro h69 s69 w69 k69
            have z69 := n66.size
            have n69 := n66.trans' k69
            refine ⟨by first | exact ldS_at (n69.cell c37 (fun h => h)) rfl, ?_⟩
            exact fin n69 z69 w69 z66 (k69.row w66 (fun h => h)) (((((o18.nw k21).nw k39).nw k54).nw k66).nw k69) ((((o21.nw k39).nw k54).nw k66).nw k69) (((o39.nw k54).nw k66).nw k69) ((o54.nw k66).nw k69)
  · intro J hJ
    refine ldL_row (o := 0) row rfl ?_
    refine ldL_row (o := 0) row2 rfl ?_
    refine ldL_row (o := 0 + 1) row rfl ?_
    refine ldL_row (o := 0 + 1) row2 rfl ?_
    have n0 : Nw h h := Keep.refl _ _
    have hxK : ∀ {h' : Heap}, Nw h h' → ∀ p ∈ [((⟨ka, kl, kc⟩ : Sl), keysV (x.map (·.1))), (⟨ka2, kl2, kc2⟩, keysV (y.map (·.1)))], Rv h' p.1.a p.1.len p.2 ∧ p.1.len ≤ 1000000 ∧ ∀ v ∈ p.2, v.oneCell' = true := by
      intro h' nw p hp
      simp only [List.mem_cons, List.not_mem_nil, or_false] at hp
      rcases hp with rfl | rfl
      · exact ⟨k1.keep0 nw, by dsimp only; omega, keysV_one _⟩
      · exact ⟨k3.keep0 nw, by dsimp only; omega, keysV_one _⟩
    have hxV : ∀ {h' : Heap}, Nw h h' → ∀ p ∈ [((⟨va, vl, vc⟩ : Sl), keysV (x.map (·.2))), (⟨va2, vl2, vc2⟩, keysV (y.map (·.2)))], Rv h' p.1.a p.1.len p.2 ∧ p.1.len ≤ 1000000 ∧ ∀ v ∈ p.2, v.oneCell' = true := by
      intro h' nw p hp
      simp only [List.mem_cons, List.not_mem_nil, or_false] at hp
      rcases hp with rfl | rfl
      · exact ⟨k2.keep0 nw, by dsimp only; omega, keysV_one _⟩
      · exact ⟨k4.keep0 nw, by dsimp only; omega, keysV_one _⟩
    have fin : ∀ {r r' : Sl} {h' : Heap}, Nw h h' → Own h h' 1 r (flatL [((⟨ka, kl, kc⟩ : Sl), keysV (x.map (·.1))), (⟨ka2, kl2, kc2⟩, keysV (y.map (·.1)))]) → r.len = sumL [((⟨ka, kl, kc⟩ : Sl), keysV (x.map (·.1))), (⟨ka2, kl2, kc2⟩, keysV (y.map (·.1)))] → Own h h' 1 r' (flatL [((⟨va, vl, vc⟩ : Sl), keysV (x.map (·.2))), (⟨va2, vl2, vc2⟩, keysV (y.map (·.2)))]) → r'.len = sumL [((⟨va, vl, vc⟩ : Sl), keysV (x.map (·.2))), (⟨va2, vl2, vc2⟩, keysV (y.map (·.2)))] → J (r, r') h' := by
      intro r r' h' nw q1 q2 q3 q4
      refine hJ (r, r') h' ⟨?_, ?_, ?_, ?_, nw⟩
      · have e : keysV ((x ++ y).map (·.1)) = flatL [((⟨ka, kl, kc⟩ : Sl), keysV (x.map (·.1))), (⟨ka2, kl2, kc2⟩, keysV (y.map (·.1)))] := by simp [flatL, keysV]
        rw [e]; exact q1
      · have e : keysV ((x ++ y).map (·.2)) = flatL [((⟨va, vl, vc⟩ : Sl), keysV (x.map (·.2))), (⟨va2, vl2, vc2⟩, keysV (y.map (·.2)))] := by simp [flatL, keysV]
        rw [e]; exact q3
      · show r.len = _; rw [q2]; simp [sumL]; omega
      · show r'.len = _; rw [q4]; simp [sumL]; omega
    refine ⟨?_, ?_⟩
    · refine newB_row ?_
      intro h80 s80 w80 k80
      have n80 := n0.trans' k80
      refine ⟨by first | exact ldL_row (o := 0) (n80.row row (fun h => h)) rfl rfl | exact ldL_row (o := 0) (n80.row row2 (fun h => h)) rfl rfl | exact ldL_row (o := 0 + 1) (n80.row row (fun h => h)) rfl rfl | exact ldL_row (o := 0 + 1) (n80.row row2 (fun h => h)) rfl rfl, ?_⟩
      refine ⟨by first | exact ldL_row (o := 0) (n80.row row (fun h => h)) rfl rfl | exact ldL_row (o := 0) (n80.row row2 (fun h => h)) rfl rfl | exact ldL_row (o := 0 + 1) (n80.row row (fun h => h)) rfl rfl | exact ldL_row (o := 0 + 1) (n80.row row2 (fun h => h)) rfl rfl, ?_⟩
      refine ⟨?_, ?_⟩
      · refine concatS_spec (rv_row w80 rfl) (hxK n80) (Nat.le_of_ble_eq_true rfl) ?_
        intro r83 h84 o84 l84 k84
        replace o84 := o84.up n80.size
        have n84 := n80.trans' k84
        refine ⟨by first | exact ldL_row (o := 0) (n84.row row (fun h => h)) rfl rfl | exact ldL_row (o := 0) (n84.row row2 (fun h => h)) rfl rfl | exact ldL_row (o := 0 + 1) (n84.row row (fun h => h)) rfl rfl | exact ldL_row (o := 0 + 1) (n84.row row2 (fun h => h)) rfl rfl, ?_⟩
        refine ⟨by first | exact ldL_row (o := 0) (n84.row row (fun h => h)) rfl rfl | exact ldL_row (o := 0) (n84.row row2 (fun h => h)) rfl rfl | exact ldL_row (o := 0 + 1) (n84.row row (fun h => h)) rfl rfl | exact ldL_row (o := 0 + 1) (n84.row row2 (fun h => h)) rfl rfl, ?_⟩
        refine newB_row ?_
        intro h88 s88 w88 k88
        have n88 := n84.trans' k88
        refine concatS_spec (rv_row w88 rfl) (hxV n88) (Nat.le_of_ble_eq_true rfl) ?_
        intro r89 h90 o90 l90 k90
        replace o90 := o90.up n88.size
        have n90 := n88.trans' k90
        exact fin n90 ((o84.nw k88).nw k90) l84 o90 l90
      · refine newB_row ?_
        intro h92 s92 w92 k92
        have n92 := n80.trans' k92
        refine concatS_spec (rv_row (k92.row w80 (fun h => h)) rfl) (hxK n92) (Nat.le_of_ble_eq_true rfl) ?_
        intro r93 h94 o94 l94 k94
        replace o94 := o94.up n92.size
        have n94 := n92.trans' k94
        refine concatS_spec (rv_row (k94.row w92 (fun h => h)) rfl) (hxV n94) (Nat.le_of_ble_eq_true rfl) ?_
        intro r95 h96 o96 l96 k96
        replace o96 := o96.up n94.size
        have n96 := n94.trans' k96
        exact fin n96 (o94.nw k96) l94 o96 l96
    · refine newB_row ?_
      intro h98 s98 w98 k98
      have n98 := n0.trans' k98
      refine ⟨by first | exact ldL_row (o := 0) (n98.row row (fun h => h)) rfl rfl | exact ldL_row (o := 0) (n98.row row2 (fun h => h)) rfl rfl | exact ldL_row (o := 0 + 1) (n98.row row (fun h => h)) rfl rfl | exact ldL_row (o := 0 + 1) (n98.row row2 (fun h => h)) rfl rfl, ?_⟩
      refine ⟨by first | exact ldL_row (o := 0) (n98.row row (fun h => h)) rfl rfl | exact ldL_row (o := 0) (n98.row row2 (fun h => h)) rfl rfl | exact ldL_row (o := 0 + 1) (n98.row row (fun h => h)) rfl rfl | exact ldL_row (o := 0 + 1) (n98.row row2 (fun h => h)) rfl rfl, ?_⟩
      refine newB_row ?_
      intro h102 s102 w102 k102
      have n102 := n98.trans' k102
      refine concatS_spec (rv_row w102 rfl) (hxK n102) (Nat.le_of_ble_eq_true rfl) ?_
      intro r103 h104 o104 l104 k104
      replace o104 := o104.up n102.size
      have n104 := n102.trans' k104
      refine concatS_spec (rv_row (k104.row (k102.row w98 (fun h => h)) (fun h => h)) rfl) (hxV n104) (Nat.le_of_ble_eq_true rfl) ?_
      intro r105 h106 o106 l106 k106
      replace o106 := o106.up n104.size
      have n106 := n104.trans' k106
      exact fin n106 (o104.nw k106) l104 o106 l106

theorem joined_inner {n : Nat} {h : Heap} {F : Nat → Prop} {v v' : Value} {mid : Key} {x y : T (n + 1)} (hx : Rep h F (n + 1) x v) (hy : Rep h F (n + 1) y v') (lx : x.2.length ≤ 100000) (lx2 : x.2.length = x.1.length + 1) (ly : y.2.length ≤ 100000) (ly2 : y.2.length = y.1.length + 1) {R : Value × Value × ByteArray → Heap → Prop}
    (hkR : ∀ a b m h', Nw h h' → Rep h' (Fn F h h') (n + 1) (cutN (x.1 ++ mid :: y.1) (x.2 ++ y.2)).1 a → Opt h' (Fn F h h') (n + 1) (cutN (x.1 ++ mid :: y.1) (x.2 ++ y.2)).2 m b → R (a, b, m) h') : CallT Try.prog btree_joined_no [v, v', .string mid] h [.sc .raw, .sc .raw, .sc .str] R := by
  have hcall := btree_joined_call v v' mid (R := R) (h := h)
  apply hcall
  clear hcall
  unfold btree_joined
  obtain ⟨p, ka, kl, kc, va, vl, vc, us1, rfl, row, k1, k2, rs1⟩ := Reps.cat hx
  obtain ⟨q, ka2, kl2, kc2, va2, vl2, vc2, us2, rfl, row2, k3, k4, rs2⟩ := Reps.cat hy
  have len1 : kl = x.1.length := by have := k1.1; simpa using this
  have len2 : vl = x.2.length := by have := k2.1; have := rs1.1; omega
  have len3 : kl2 = y.1.length := by have := k3.1; simpa using this
  have len4 : vl2 = y.2.length := by have := k4.1; have := rs2.1; omega
  refine isP_no rfl ?_
  refine isP_yes rfl ?_
  refine isP_yes rfl ?_
  have ul : (x.1 ++ mid :: y.1).length = x.1.length + y.1.length + 1 := by simp; omega
  have ul2 : (x.2 ++ y.2).length = x.2.length + y.2.length := List.length_append
  have reps := rs1.append rs2
  refine withJ.intro (fun (s : Sl × Sl) h5 => Own h h5 1 s.1 (keysV (x.1 ++ mid :: y.1)) ∧ Own h h5 1 s.2 (us1 ++ us2) ∧ s.1.len = (x.1 ++ mid :: y.1).length ∧ s.2.len = (x.2 ++ y.2).length ∧ Nw h h5) ?_ ?_
  · rintro ⟨r, r'⟩ h22 ⟨o1, o2, e1, e2, n22⟩
    simp only at o1 o2 e1 e2
    have z0 := n22.size
    have repsI : Reps h22 (Fn F h h22) n (x.2 ++ y.2) (us1 ++ us2) := (reps.nw n22).mono (fun b hb => .inl hb)
    generalize x.1 ++ mid :: y.1 = ks at o1 e1 hkR ul
    generalize x.2 ++ y.2 = ss at e2 hkR ul2 repsI
    generalize us1 ++ us2 = us at o2 repsI
    have vone : ∀ v ∈ us, v.oneCell' = true := repsI.one
    refine cnd_dec (fun c2 => ?_) (fun c2 => ?_)
    · replace c2 : (r'.len : Int) ≤ 8 := c2
      rw [cutN_one (by omega)] at hkR
      refine newB_row ?_
      intro h7 s7 w7 k7
      exact hkR _ _ _ h7 (n22.trans' k7) (rep_inner' w7 (o1.nw k7) (o2.nw k7) n22.size ((repsI.nw k7).mono (fun b hb => fn_mono (Nat.le_refl _) k7.size hb))) rfl
    · replace c2 : ¬ (r'.len : Int) ≤ 8 := c2
      rw [cutN_two (by omega)] at hkR
      refine withJ.inl ?_
      have hh : w64 ((r'.len : Int).tdiv 2) = ((ss.length / 2 : Nat) : Int) := by rw [half_is (by omega), e2]
      have hh2 : w64 (((ss.length / 2 : Nat) : Int) - 1) = ((ss.length / 2 - 1 : Nat) : Int) := by rw [w64_id (by omega) (by omega)]; omega
      simp only [hh, hh2]
      have hH2 : 1 ≤ ss.length / 2 := by omega
      have hH3 : ss.length / 2 ≤ ks.length := by omega
      have hH4 : ss.length / 2 ≤ ss.length := by omega
      generalize ss.length / 2 = H at hkR hH2 hH3 hH4 ⊢
      refine o1.rv.lo (by omega) o1.le ?_
      intro o117 c117 rvA
      refine o2.rv.lo (by omega) o2.le ?_
      intro o118 c118 rvB
      refine o1.rv.hi (by omega) o1.le ?_
      intro o119 c119 rvC
      refine o2.rv.hi (by omega) o2.le ?_
      intro o120 c120 rvD
      have hHl : H - 1 < ks.length := by omega
      refine o1.rv.at (by omega) (by omega) (v := .string ks[H - 1]) (by rw [Int.toNat_natCast, List.getElem?_map, List.getElem?_eq_getElem hHl]; rfl) ?_
      intro a37 c37
      refine ldS_at c37 ?_
      rw [List.getElem?_eq_getElem hHl] at hkR
      have n0 : Nw h22 h22 := Keep.refl _ _
      have fin : ∀ {p q : Nat} {h' : Heap} {a b c d : Sl}, Nw h22 h' → h22.size ≤ p → Row h' p [.slice a.a a.len a.cap, .slice b.a b.len b.cap] → h22.size ≤ q → Row h' q [.slice c.a c.len c.cap, .slice d.a d.len d.cap] → Own h22 h' 1 a ((keysV ks).take (H - 1)) → Own h22 h' 1 b (us.take H) → Own h22 h' 1 c ((keysV ks).drop H) → Own h22 h' 1 d (us.drop H) →
          R (.iface inT (.pointer (some ⟨p, 0, none⟩)), .iface inT (.pointer (some ⟨q, 0, none⟩)), ks[H - 1]) h' := by
        intro p q h' a b c d nw zp rp zq rq oa ob oc od
        have z22 := n22.size
        have zn := nw.size
        have rI : Reps h' (Fn F h h') n ss us := (repsI.nw nw).mono (fun b hb => fn_mono (Nat.le_refl _) zn hb)
        refine hkR _ _ _ h' (n22.trans' nw) (rep_inner' rp (ks := ks.take (H - 1)) (ss := ss.take H) ?_ (ob.up z22) (by omega) (rI.take H)) ⟨rfl, rep_inner' rq (ks := ks.drop H) (ss := ss.drop H) ?_ (od.up z22) (by omega) (rI.drop H)⟩
        · unfold keysV at oa ⊢; rw [List.map_take]; exact oa.up z22
        · unfold keysV at oc ⊢; rw [List.map_drop]; exact oc.up z22
      refine cloneS_spec (s := ⟨o117, _, c117⟩) (rvA.keep0 n0) (fun v hv => keysV_one _ v (List.mem_of_mem_take hv)) (by dsimp only; omega) ?_
      intro r123 h124 o124 l124 k124
      replace o124 := o124.up n0.size
      have n124 := n0.trans' k124
      refine ⟨by first | exact ldS_at (n124.cell c37 (fun h => h)) rfl, ?_⟩
      refine cloneN_spec (s := ⟨o118, _, c118⟩) (rvB.keep0 n124) (fun v hv => vone v (List.mem_of_mem_take hv)) (by dsimp only; omega) ?_
      intro r126 h127 o127 l127 k127
      replace o127 := o127.up n124.size
      have n127 := n124.trans' k127
      refine ⟨by first | exact ldS_at (n127.cell c37 (fun h => h)) rfl, ?_⟩
      refine ⟨?_, ?_⟩
      · refine newB_row ?_
        intro h130 s130 w130 k130
        have z130 := n127.size
        have n130 := n127.trans' k130
        refine ⟨by first | exact ldS_at (n130.cell c37 (fun h => h)) rfl, ?_⟩
        refine cloneS_spec (s := ⟨o119, _, c119⟩) (rvC.keep0 n130) (fun v hv => keysV_one _ v (List.mem_of_mem_drop hv)) (by dsimp only; omega) ?_
        intro r132 h133 o133 l133 k133
        replace o133 := o133.up n130.size
        have n133 := n130.trans' k133
        refine ⟨by first | exact ldS_at (n133.cell c37 (fun h => h)) rfl, ?_⟩
        refine cloneN_spec (s := ⟨o120, _, c120⟩) (rvD.keep0 n133) (fun v hv => vone v (List.mem_of_mem_drop hv)) (by dsimp only; omega) ?_
        intro r135 h136 o136 l136 k136
        replace o136 := o136.up n133.size
        have n136 := n133.trans' k136
        refine ⟨by first | exact ldS_at (n136.cell c37 (fun h => h)) rfl, ?_⟩
        refine ⟨?_, ?_⟩
        · refine newB_row ?_
          intro h139 s139 w139 k139
          have z139 := n136.size
          have n139 := n136.trans' k139
          refine ⟨by first | exact ldS_at (n139.cell c37 (fun h => h)) rfl, ?_⟩
          exact fin n139 z130 (k139.row (k136.row (k133.row w130 (fun h => h)) (fun h => h)) (fun h => h)) z139 w139 (((((o124.nw k127).nw k130).nw k133).nw k136).nw k139) ((((o127.nw k130).nw k133).nw k136).nw k139) ((o133.nw k136).nw k139) (o136.nw k139)
        · refine newB_row ?_
          intro h142 s142 w142 k142
          have z142 := n136.size
          have n142 := n136.trans' k142
          refine ⟨by first | exact ldS_at (n142.cell c37 (fun h => h)) rfl, ?_⟩
          exact fin n142 z130 (k142.row (k136.row (k133.row w130 (fun h => h)) (fun h => h)) (fun h => h)) z142 w142 (((((o124.nw k127).nw k130).nw k133).nw k136).nw k142) ((((o127.nw k130).nw k133).nw k136).nw k142) ((o133.nw k136).nw k142) (o136.nw k142)
      · refine cloneS_spec (s := ⟨o119, _, c119⟩) (rvC.keep0 n127) (fun v hv => keysV_one _ v (List.mem_of_mem_drop hv)) (by dsimp only; omega) ?_
        intro r144 h145 o145 l145 k145
        replace o145 := o145.up n127.size
        have n145 := n127.trans' k145
        refine ⟨by first | exact ldS_at (n145.cell c37 (fun h => h)) rfl, ?_⟩
        refine ⟨?_, ?_⟩
        · refine newB_row ?_
          intro h148 s148 w148 k148
          have z148 := n145.size
          have n148 := n145.trans' k148
          refine ⟨by first | exact ldS_at (n148.cell c37 (fun h => h)) rfl, ?_⟩
          refine cloneN_spec (s := ⟨o120, _, c120⟩) (rvD.keep0 n148) (fun v hv => vone v (List.mem_of_mem_drop hv)) (by dsimp only; omega) ?_
          intro r150 h151 o151 l151 k151
          replace o151 := o151.up n148.size
          have n151 := n148.trans' k151
          refine ⟨by first | exact ldS_at (n151.cell c37 (fun h => h)) rfl, ?_⟩
          refine ⟨?_, ?_⟩
          · refine newB_row ?_
            intro h154 s154 w154 k154
            have z154 := n151.size
            have n154 := n151.trans' k154
            refine ⟨by first | exact ldS_at (n154.cell c37 (fun h => h)) rfl, ?_⟩
            exact fin n154 z148 (k154.row (k151.row w148 (fun h => h)) (fun h => h)) z154 w154 (((((o124.nw k127).nw k145).nw k148).nw k151).nw k154) ((((o127.nw k145).nw k148).nw k151).nw k154) (((o145.nw k148).nw k151).nw k154) (o151.nw k154)
          · refine newB_row ?_
            intro h157 s157 w157 k157
            have z157 := n151.size
            have n157 := n151.trans' k157
            refine ⟨by first | exact ldS_at (n157.cell c37 (fun h => h)) rfl, ?_⟩
            exact fin n157 z148 (k157.row (k151.row w148 (fun h => h)) (fun h => h)) z157 w157 (((((o124.nw k127).nw k145).nw k148).nw k151).nw k157) ((((o127.nw k145).nw k148).nw k151).nw k157) (((o145.nw k148).nw k151).nw k157) (o151.nw k157)
        · refine cloneN_spec (s := ⟨o120, _, c120⟩) (rvD.keep0 n145) (fun v hv => vone v (List.mem_of_mem_drop hv)) (by dsimp only; omega) ?_
          intro r159 h160 o160 l160 k160
          replace o160 := o160.up n145.size
          have n160 := n145.trans' k160
          refine ⟨by first | exact ldS_at (n160.cell c37 (fun h => h)) rfl, ?_⟩
          refine ⟨?_, ?_⟩
          · refine newB_row ?_
            intro h163 s163 w163 k163
            have z163 := n160.size
            have n163 := n160.trans' k163
            refine ⟨by first | exact ldS_at (n163.cell c37 (fun h => h)) rfl, ?_⟩
            refine ⟨?_, ?_⟩
            · refine newB_row ?_
              intro h166 s166 w166 k166
              have z166 := n163.size
              have n166 := n163.trans' k166
              refine ⟨by first | exact ldS_at (n166.cell c37 (fun h => h)) rfl, ?_⟩
              exact fin n166 z163 (k166.row w163 (fun h => h)) z166 w166 (((((o124.nw k127).nw k145).nw k160).nw k163).nw k166) ((((o127.nw k145).nw k160).nw k163).nw k166) (((o145.nw k160).nw k163).nw k166) ((o160.nw k163).nw k166)
            · refine newB_row ?_
              intro h169 s169 w169 k169
              have z169 := n163.size
              have n169 := n163.trans' k169
              refine ⟨by first | exact ldS_at (n169.cell c37 (fun h => h)) rfl, ?_⟩
              exact fin n169 z163 (k169.row w163 (fun h => h)) z169 w169 (((((o124.nw k127).nw k145).nw k160).nw k163).nw k169) ((((o127.nw k145).nw k160).nw k163).nw k169) (((o145.nw k160).nw k163).nw k169) ((o160.nw k163).nw k169)
          · refine newB_row ?_
            intro h172 s172 w172 k172
            have z172 := n160.size
            have n172 := n160.trans' k172
            refine ⟨by first | exact ldS_at (n172.cell c37 (fun h => h)) rfl, ?_⟩
            refine newB_row ?_
            intro h175 s175 w175 k175
            have z175 := n172.size
            have n175 := n172.trans' k175
            refine ⟨by first | exact ldS_at (n175.cell c37 (fun h => h)) rfl, ?_⟩
            exact fin n175 z175 w175 z172 (k175.row w172 (fun h => h)) (((((o124.nw k127).nw k145).nw k160).nw k172).nw k175) ((((o127.nw k145).nw k160).nw k172).nw k175) (((o145.nw k160).nw k172).nw k175) ((o160.nw k172).nw k175)
  · intro J hJ
    refine ldL_row (o := 0) row rfl ?_
    refine ldL_row (o := 0) row2 rfl ?_
    refine ldL_row (o := 0 + 1) row rfl ?_
    refine ldL_row (o := 0 + 1) row2 rfl ?_
    have n0 : Nw h h := Keep.refl _ _
    have hxK : ∀ {h' : Heap} {m : Nat}, Nw h h' → Row h' m [.string mid] → ∀ p ∈ [((⟨ka, kl, kc⟩ : Sl), keysV x.1), (⟨some ⟨m, 0, none⟩, 1, 1⟩, [.string mid]), (⟨ka2, kl2, kc2⟩, keysV y.1)], Rv h' p.1.a p.1.len p.2 ∧ p.1.len ≤ 1000000 ∧ ∀ v ∈ p.2, v.oneCell' = true := by
      intro h' m nw rm p hp
      simp only [List.mem_cons, List.not_mem_nil, or_false] at hp
      rcases hp with rfl | rfl | rfl
      · exact ⟨k1.keep0 nw, by dsimp only; omega, keysV_one _⟩
      · exact ⟨rv_row rm rfl, by dsimp only; omega, keysV_one [mid]⟩
      · exact ⟨k3.keep0 nw, by dsimp only; omega, keysV_one _⟩
    have hxV : ∀ {h' : Heap}, Nw h h' → ∀ p ∈ [((⟨va, vl, vc⟩ : Sl), us1), (⟨va2, vl2, vc2⟩, us2)], Rv h' p.1.a p.1.len p.2 ∧ p.1.len ≤ 1000000 ∧ ∀ v ∈ p.2, v.oneCell' = true := by
      intro h' nw p hp
      simp only [List.mem_cons, List.not_mem_nil, or_false] at hp
      rcases hp with rfl | rfl
      · exact ⟨k2.keep0 nw, by dsimp only; omega, rs1.one⟩
      · exact ⟨k4.keep0 nw, by dsimp only; omega, rs2.one⟩
    have fin : ∀ {m : Nat} {r r' : Sl} {h' : Heap}, Nw h h' → Own h h' 1 r (flatL [((⟨ka, kl, kc⟩ : Sl), keysV x.1), (⟨some ⟨m, 0, none⟩, 1, 1⟩, [.string mid]), (⟨ka2, kl2, kc2⟩, keysV y.1)]) → r.len = sumL [((⟨ka, kl, kc⟩ : Sl), keysV x.1), (⟨some ⟨m, 0, none⟩, 1, 1⟩, [.string mid]), (⟨ka2, kl2, kc2⟩, keysV y.1)] → Own h h' 1 r' (flatL [((⟨va, vl, vc⟩ : Sl), us1), (⟨va2, vl2, vc2⟩, us2)]) → r'.len = sumL [((⟨va, vl, vc⟩ : Sl), us1), (⟨va2, vl2, vc2⟩, us2)] → J (r, r') h' := by
      intro m r r' h' nw q1 q2 q3 q4
      refine hJ (r, r') h' ⟨?_, ?_, ?_, ?_, nw⟩
      · have e : keysV (x.1 ++ mid :: y.1) = flatL [((⟨ka, kl, kc⟩ : Sl), keysV x.1), (⟨some ⟨m, 0, none⟩, 1, 1⟩, [.string mid]), (⟨ka2, kl2, kc2⟩, keysV y.1)] := by simp [flatL, keysV]
        rw [e]; exact q1
      · have e : us1 ++ us2 = flatL [((⟨va, vl, vc⟩ : Sl), us1), (⟨va2, vl2, vc2⟩, us2)] := by simp [flatL]
        rw [e]; exact q3
      · show r.len = _; rw [q2]; simp [sumL]; omega
      · show r'.len = _; rw [q4]; simp [sumL]; omega
    refine ⟨?_, ?_⟩
    · refine newB_row ?_
      intro h186 s186 w186 k186
      have n186 := n0.trans' k186
      refine ⟨by first | exact ldL_row (o := 0) (n186.row row (fun h => h)) rfl rfl | exact ldL_row (o := 0) (n186.row row2 (fun h => h)) rfl rfl | exact ldL_row (o := 0 + 1) (n186.row row (fun h => h)) rfl rfl | exact ldL_row (o := 0 + 1) (n186.row row2 (fun h => h)) rfl rfl, ?_⟩
      refine ⟨by first | exact ldL_row (o := 0) (n186.row row (fun h => h)) rfl rfl | exact ldL_row (o := 0) (n186.row row2 (fun h => h)) rfl rfl | exact ldL_row (o := 0 + 1) (n186.row row (fun h => h)) rfl rfl | exact ldL_row (o := 0 + 1) (n186.row row2 (fun h => h)) rfl rfl, ?_⟩
      refine ⟨by first | exact ldL_row (o := 0) (n186.row row (fun h => h)) rfl rfl | exact ldL_row (o := 0) (n186.row row2 (fun h => h)) rfl rfl | exact ldL_row (o := 0 + 1) (n186.row row (fun h => h)) rfl rfl | exact ldL_row (o := 0 + 1) (n186.row row2 (fun h => h)) rfl rfl, ?_⟩
      refine ⟨by first | exact ldL_row (o := 0) (n186.row row (fun h => h)) rfl rfl | exact ldL_row (o := 0) (n186.row row2 (fun h => h)) rfl rfl | exact ldL_row (o := 0 + 1) (n186.row row (fun h => h)) rfl rfl | exact ldL_row (o := 0 + 1) (n186.row row2 (fun h => h)) rfl rfl, ?_⟩
      refine ⟨?_, ?_⟩
      · refine newB_row ?_
        intro h192 s192 w192 k192
        have n192 := n186.trans' k192
        refine ⟨by first | exact ldL_row (o := 0) (n192.row row (fun h => h)) rfl rfl | exact ldL_row (o := 0) (n192.row row2 (fun h => h)) rfl rfl | exact ldL_row (o := 0 + 1) (n192.row row (fun h => h)) rfl rfl | exact ldL_row (o := 0 + 1) (n192.row row2 (fun h => h)) rfl rfl, ?_⟩
        refine ⟨by first | exact ldL_row (o := 0) (n192.row row (fun h => h)) rfl rfl | exact ldL_row (o := 0) (n192.row row2 (fun h => h)) rfl rfl | exact ldL_row (o := 0 + 1) (n192.row row (fun h => h)) rfl rfl | exact ldL_row (o := 0 + 1) (n192.row row2 (fun h => h)) rfl rfl, ?_⟩
        refine ⟨?_, ?_⟩
        · refine concatS_spec (rv_row w192 rfl) (hxK n192 (k192.row w186 (fun h => h))) (Nat.le_of_ble_eq_true rfl) ?_
          intro r195 h196 o196 l196 k196
          replace o196 := o196.up n192.size
          have n196 := n192.trans' k196
          refine ⟨by first | exact ldL_row (o := 0) (n196.row row (fun h => h)) rfl rfl | exact ldL_row (o := 0) (n196.row row2 (fun h => h)) rfl rfl | exact ldL_row (o := 0 + 1) (n196.row row (fun h => h)) rfl rfl | exact ldL_row (o := 0 + 1) (n196.row row2 (fun h => h)) rfl rfl, ?_⟩
          refine ⟨by first | exact ldL_row (o := 0) (n196.row row (fun h => h)) rfl rfl | exact ldL_row (o := 0) (n196.row row2 (fun h => h)) rfl rfl | exact ldL_row (o := 0 + 1) (n196.row row (fun h => h)) rfl rfl | exact ldL_row (o := 0 + 1) (n196.row row2 (fun h => h)) rfl rfl, ?_⟩
          refine newB_row ?_
          intro h200 s200 w200 k200
          have n200 := n196.trans' k200
          refine concatN_spec (rv_row w200 rfl) (hxV n200) (Nat.le_of_ble_eq_true rfl) ?_
          intro r201 h202 o202 l202 k202
          replace o202 := o202.up n200.size
          have n202 := n200.trans' k202
          exact fin n202 ((o196.nw k200).nw k202) l196 o202 l202
        · refine newB_row ?_
          intro h204 s204 w204 k204
          have n204 := n192.trans' k204
          refine concatS_spec (rv_row (k204.row w192 (fun h => h)) rfl) (hxK n204 (k204.row (k192.row w186 (fun h => h)) (fun h => h))) (Nat.le_of_ble_eq_true rfl) ?_
          intro r205 h206 o206 l206 k206
          replace o206 := o206.up n204.size
          have n206 := n204.trans' k206
          refine concatN_spec (rv_row (k206.row w204 (fun h => h)) rfl) (hxV n206) (Nat.le_of_ble_eq_true rfl) ?_
          intro r207 h208 o208 l208 k208
          replace o208 := o208.up n206.size
          have n208 := n206.trans' k208
          exact fin n208 (o206.nw k208) l206 o208 l208
      · refine newB_row ?_
        intro h210 s210 w210 k210
        have n210 := n186.trans' k210
        refine ⟨by first | exact ldL_row (o := 0) (n210.row row (fun h => h)) rfl rfl | exact ldL_row (o := 0) (n210.row row2 (fun h => h)) rfl rfl | exact ldL_row (o := 0 + 1) (n210.row row (fun h => h)) rfl rfl | exact ldL_row (o := 0 + 1) (n210.row row2 (fun h => h)) rfl rfl, ?_⟩
        refine ⟨by first | exact ldL_row (o := 0) (n210.row row (fun h => h)) rfl rfl | exact ldL_row (o := 0) (n210.row row2 (fun h => h)) rfl rfl | exact ldL_row (o := 0 + 1) (n210.row row (fun h => h)) rfl rfl | exact ldL_row (o := 0 + 1) (n210.row row2 (fun h => h)) rfl rfl, ?_⟩
        refine newB_row ?_
        intro h214 s214 w214 k214
        have n214 := n210.trans' k214
        refine concatS_spec (rv_row w214 rfl) (hxK n214 (k214.row (k210.row w186 (fun h => h)) (fun h => h))) (Nat.le_of_ble_eq_true rfl) ?_
        intro r215 h216 o216 l216 k216
        replace o216 := o216.up n214.size
        have n216 := n214.trans' k216
        refine concatN_spec (rv_row (k216.row (k214.row w210 (fun h => h)) (fun h => h)) rfl) (hxV n216) (Nat.le_of_ble_eq_true rfl) ?_
        intro r217 h218 o218 l218 k218
        replace o218 := o218.up n216.size
        have n218 := n216.trans' k218
        exact fin n218 (o216.nw k218) l216 o218 l218
    · refine newB_row ?_
      intro h220 s220 w220 k220
      have n220 := n0.trans' k220
      refine ⟨by first | exact ldL_row (o := 0) (n220.row row (fun h => h)) rfl rfl | exact ldL_row (o := 0) (n220.row row2 (fun h => h)) rfl rfl | exact ldL_row (o := 0 + 1) (n220.row row (fun h => h)) rfl rfl | exact ldL_row (o := 0 + 1) (n220.row row2 (fun h => h)) rfl rfl, ?_⟩
      refine ⟨by first | exact ldL_row (o := 0) (n220.row row (fun h => h)) rfl rfl | exact ldL_row (o := 0) (n220.row row2 (fun h => h)) rfl rfl | exact ldL_row (o := 0 + 1) (n220.row row (fun h => h)) rfl rfl | exact ldL_row (o := 0 + 1) (n220.row row2 (fun h => h)) rfl rfl, ?_⟩
      refine newB_row ?_
      intro h224 s224 w224 k224
      have n224 := n220.trans' k224
      refine ⟨by first | exact ldL_row (o := 0) (n224.row row (fun h => h)) rfl rfl | exact ldL_row (o := 0) (n224.row row2 (fun h => h)) rfl rfl | exact ldL_row (o := 0 + 1) (n224.row row (fun h => h)) rfl rfl | exact ldL_row (o := 0 + 1) (n224.row row2 (fun h => h)) rfl rfl, ?_⟩
      refine ⟨by first | exact ldL_row (o := 0) (n224.row row (fun h => h)) rfl rfl | exact ldL_row (o := 0) (n224.row row2 (fun h => h)) rfl rfl | exact ldL_row (o := 0 + 1) (n224.row row (fun h => h)) rfl rfl | exact ldL_row (o := 0 + 1) (n224.row row2 (fun h => h)) rfl rfl, ?_⟩
      refine newB_row ?_
      intro h228 s228 w228 k228
      have n228 := n224.trans' k228
      refine concatS_spec (rv_row w228 rfl) (hxK n228 (k228.row w224 (fun h => h))) (Nat.le_of_ble_eq_true rfl) ?_
      intro r229 h230 o230 l230 k230
      replace o230 := o230.up n228.size
      have n230 := n228.trans' k230
      refine concatN_spec (rv_row (k230.row (k228.row (k224.row w220 (fun h => h)) (fun h => h)) (fun h => h)) rfl) (hxV n230) (Nat.le_of_ble_eq_true rfl) ?_
      intro r231 h232 o232 l232 k232
      replace o232 := o232.up n230.size
      have n232 := n230.trans' k232
      exact fin n232 (o230.nw k232) l230 o232 l232
def siz : (n : Nat) → T n → Nat
  | 0, t => List.length t
  | n + 1, t => t.2.length
def joinF : (n : Nat) → T n → T n → Key → T n × Option (Key × T n)
  | 0, x, y, _ => cutF (List.append x y)
  | n + 1, x, y, mid => cutN (x.1 ++ mid :: y.1) (x.2 ++ y.2)
def fixF {n : Nat} (ks : List Key) (ss : List (T n)) (j : Nat) : T (n + 1) :=
  match ss[j]?, ss[j + 1]?, ks[j]? with
  | some x, some y, some mid => match joinF n x y mid with
    | (z, none) => (delL ks j, repL ss j z)
    | (z, some q) => (ks.set j q.1, (ss.set j z).set (j + 1) q.2)
  | _, _, _ => (ks, ss)
def delF (k : Key) : (n : Nat) → T n → Option (T n)
  | 0, t => if (List.map (·.1) t)[below k (List.map (·.1) t)]? = some k then some (delL t (below k (List.map (·.1) t))) else none
  | n + 1, t => match t.2[upto k t.1]? with
    | none => none
    | some s => match delF k n s with
      | none => none
      | some a => some (if 4 ≤ siz n a then (t.1, t.2.set (upto k t.1) a) else fixF t.1 (t.2.set (upto k t.1) a) (min (upto k t.1) (t.2.length - 2)))

/-- sizes: lo at least in this node, four at least below it -/
def Okn (lo : Nat) : (n : Nat) → T n → Prop
  | 0, t => lo ≤ List.length t ∧ List.length t ≤ 8
  | n + 1, t => t.2.length = t.1.length + 1 ∧ lo ≤ t.2.length ∧ t.2.length ≤ 8 ∧ ∀ s ∈ t.2, Okn 4 n s

theorem Okn.mono {lo lo' : Nat} (hl : lo' ≤ lo) : ∀ {n : Nat} {t : T n}, Okn lo n t → Okn lo' n t
  | 0, t, h => ⟨Nat.le_trans hl h.1, h.2⟩
  | n + 1, t, h => ⟨h.1, Nat.le_trans hl h.2.1, h.2.2⟩
theorem Okn.sz {lo : Nat} : ∀ {n : Nat} {t : T n}, Okn lo n t → lo ≤ siz n t ∧ siz n t ≤ 8
  | 0, t, h => h
  | n + 1, t, h => ⟨h.2.1, h.2.2.1⟩
theorem Okn.up {lo lo' : Nat} : ∀ {n : Nat} {t : T n}, Okn lo n t → lo' ≤ siz n t → Okn lo' n t
  | 0, t, h, hl => ⟨hl, h.2⟩
  | n + 1, t, h, hl => ⟨h.1, hl, h.2.2⟩
theorem cutF_ok {lo : Nat} {t : List KV} (h : lo ≤ t.length) (h2 : t.length ≤ 16) : (∀ q, (cutF t).2 = some q → Okn 4 0 (cutF t).1 ∧ Okn 4 0 q.2) ∧ ((cutF t).2 = none → Okn lo 0 (cutF t).1) := by
  unfold cutF
  split
  · rename_i c
    exact ⟨fun q hq => (by cases hq), fun _ => ⟨h, c⟩⟩
  · rename_i c
    refine ⟨fun q hq => ?_, fun hq => by cases hq⟩
    injection hq with hq
    subst hq
    refine ⟨⟨?_, ?_⟩, ⟨?_, ?_⟩⟩
    · show 4 ≤ (List.take _ _).length; rw [List.length_take]; omega
    · show (List.take _ _).length ≤ 8; rw [List.length_take]; omega
    · show 4 ≤ (List.drop _ _).length; rw [List.length_drop]; omega
    · show (List.drop _ _).length ≤ 8; rw [List.length_drop]; omega
theorem cutN_ok {n lo : Nat} {ks : List Key} {ss : List (T n)} (hl : ss.length = ks.length + 1) (h : lo ≤ ss.length) (h2 : ss.length ≤ 16) (hs : ∀ s ∈ ss, Okn 4 n s) :
    (∀ q, (cutN ks ss).2 = some q → Okn 4 (n + 1) (cutN ks ss).1 ∧ Okn 4 (n + 1) q.2) ∧ ((cutN ks ss).2 = none → Okn lo (n + 1) (cutN ks ss).1) := by
  unfold cutN
  split
  · rename_i c
    exact ⟨fun q hq => (by cases hq), fun _ => ⟨hl, h, c, hs⟩⟩
  · rename_i c
    refine ⟨fun q hq => ?_, fun hq => by cases hq⟩
    injection hq with hq
    subst hq
    refine ⟨⟨?_, ?_, ?_, fun s h => hs s (List.mem_of_mem_take h)⟩, ⟨?_, ?_, ?_, fun s h => hs s (List.mem_of_mem_drop h)⟩⟩
    · show (List.take _ _).length = (List.take _ _).length + 1; rw [List.length_take, List.length_take]; omega
    · show 4 ≤ (List.take _ _).length; rw [List.length_take]; omega
    · show (List.take _ _).length ≤ 8; rw [List.length_take]; omega
    · show (List.drop _ _).length = (List.drop _ _).length + 1; rw [List.length_drop, List.length_drop]; omega
    · show 4 ≤ (List.drop _ _).length; rw [List.length_drop]; omega
    · show (List.drop _ _).length ≤ 8; rw [List.length_drop]; omega
theorem mem_insL {α : Type} {l : List α} {i : Nat} {v x : α} (h : x ∈ insL l i v) : x = v ∨ x ∈ l := by
  unfold insL at h
  rcases List.mem_append.1 h with h | h
  · exact .inr (List.mem_of_mem_take h)
  · rcases List.mem_cons.1 h with h | h
    · exact .inl h
    · exact .inr (List.mem_of_mem_drop h)

theorem putF_succ (k w : Key) {n : Nat} (t : T (n + 1)) : putF k w (n + 1) t = match t.2[upto k t.1]? with
    | none => ((t, none), false)
    | some s => match putF k w n s with
      | ((a, none), more) => (((t.1, t.2.set (upto k t.1) a), none), more)
      | ((a, some (m, b)), more) => (cutN (insL t.1 (upto k t.1) m) (insL (t.2.set (upto k t.1) a) (upto k t.1 + 1) b), more) := rfl
theorem putF_zero (k w : Key) (t : T 0) : putF k w 0 t = if (leafF t k w).2 then (cutF (leafF t k w).1, true) else (((leafF t k w).1, none), false) := rfl
theorem leafF_len (k w : Key) (t : List KV) : (leafF t k w).1.length = t.length + (if (leafF t k w).2 then 1 else 0) := by
  have hm := below_le k (t.map (·.1))
  rw [List.length_map] at hm
  unfold leafF
  by_cases c : (t.map (·.1))[below k (t.map (·.1))]? = some k
  · simp only [if_pos c]; simp
  · simp only [if_neg c]; rw [insL_len hm]; simp

theorem putF_ok {lo : Nat} (k w : Key) : ∀ {n : Nat} {t : T n}, Okn lo n t → (∀ q, (putF k w n t).1.2 = some q → Okn 4 n (putF k w n t).1.1 ∧ Okn 4 n q.2) ∧ ((putF k w n t).1.2 = none → Okn lo n (putF k w n t).1.1)
  | 0, t, h => by
    have l1 := leafF_len k w t
    have hh := h.2
    have h1 := h.1
    rw [putF_zero]
    cases c : (leafF t k w).2 with
    | true =>
      rw [c] at l1
      simp only [if_true] at l1 ⊢
      exact cutF_ok (by omega) (by omega)
    | false =>
      rw [c] at l1
      simp only [Bool.false_eq_true, if_false, Nat.add_zero] at l1
      have e : (if false = true then (cutF (leafF t k w).1, true) else (((leafF t k w).1, none), false)) = (((leafF t k w).1, none), false) := rfl
      rw [e]
      exact ⟨fun q hq => (by cases hq), fun _ => ⟨by show lo ≤ (leafF t k w).1.length; omega, by show (leafF t k w).1.length ≤ 8; omega⟩⟩
  | n + 1, t, h => by
    obtain ⟨h1, h2, h3, h4⟩ := h
    rw [putF_succ]
    have hi := upto_le k t.1
    generalize upto k t.1 = i at hi
    rw [List.getElem?_eq_getElem (by omega)]
    have ih := putF_ok (lo := 4) k w (h4 t.2[i] (List.getElem_mem (by omega)))
    simp only
    rcases hp : putF k w n t.2[i] with ⟨⟨a, O⟩, more⟩
    rw [hp] at ih
    have hset : ∀ s ∈ t.2.set i a, s = a ∨ s ∈ t.2 := fun s hs => (List.mem_or_eq_of_mem_set hs).symm
    cases O with
    | none =>
      refine ⟨fun q hq => (by cases hq), fun _ => ⟨?_, ?_, ?_, fun s hs => ?_⟩⟩
      · show (t.2.set i a).length = _; rw [List.length_set]; exact h1
      · show lo ≤ (t.2.set i a).length; rw [List.length_set]; exact h2
      · show (t.2.set i a).length ≤ 8; rw [List.length_set]; exact h3
      · rcases hset s hs with e | e
        · rw [e]; exact ih.2 rfl
        · exact h4 s e
    | some q =>
      obtain ⟨m, b⟩ := q
      obtain ⟨ia, ib⟩ := ih.1 (m, b) rfl
      have e1 : (t.2.set i a).length = t.2.length := List.length_set
      refine cutN_ok ?_ ?_ ?_ ?_
      · rw [insL_len (by omega), insL_len (by omega)]; omega
      · rw [insL_len (by omega)]; omega
      · rw [insL_len (by omega)]; omega
      · intro s hs
        rcases mem_insL hs with e | e
        · rw [e]; exact ib
        · rcases hset s e with e | e
          · rw [e]; exact ia
          · exact h4 s e

theorem joinF_ok {n : Nat} {x y : T n} {mid : Key} (hx : Okn 3 n x) (hy : Okn 3 n y) (h7 : 7 ≤ siz n x + siz n y) : (∀ q, (joinF n x y mid).2 = some q → Okn 4 n (joinF n x y mid).1 ∧ Okn 4 n q.2) ∧ ((joinF n x y mid).2 = none → Okn 4 n (joinF n x y mid).1) := by
  cases n with
  | zero =>
    have a1 := hx.2; have a2 := hy.2
    have e : (List.append x y).length = List.length x + List.length y := List.length_append
    replace h7 : 7 ≤ List.length x + List.length y := h7
    exact cutF_ok (by omega) (by omega)
  | succ n =>
    obtain ⟨b1, b2, b3, b4⟩ := hx
    obtain ⟨c1, c2, c3, c4⟩ := hy
    replace h7 : 7 ≤ x.2.length + y.2.length := h7
    refine cutN_ok ?_ ?_ ?_ ?_
    · simp; omega
    · rw [List.length_append]; omega
    · rw [List.length_append]; omega
    · intro s hs
      rcases List.mem_append.1 hs with e | e
      · exact b4 s e
      · exact c4 s e
theorem mem_repL {α : Type} {l : List α} {i : Nat} {v x : α} (h : x ∈ repL l i v) : x = v ∨ x ∈ l := by
  unfold repL at h
  rcases List.mem_append.1 h with h | h
  · exact .inr (List.mem_of_mem_take h)
  · rcases List.mem_cons.1 h with h | h
    · exact .inl h
    · exact .inr (List.mem_of_mem_drop h)
theorem delF_succ (k : Key) {n : Nat} (t : T (n + 1)) : delF k (n + 1) t = match t.2[upto k t.1]? with
    | none => none
    | some s => match delF k n s with
      | none => none
      | some a => some (if 4 ≤ siz n a then (t.1, t.2.set (upto k t.1) a) else fixF t.1 (t.2.set (upto k t.1) a) (min (upto k t.1) (t.2.length - 2))) := rfl
/-- what a node with one son too small, and its neighbour, come to -/
theorem fixF_eq {n : Nat} {ks : List Key} {ss : List (T n)} {j : Nat} (hl : ss.length = ks.length + 1) (hj : j + 1 < ss.length) : ∃ x y mid, ss[j]? = some x ∧ ss[j + 1]? = some y ∧ ks[j]? = some mid ∧
    fixF ks ss j = match joinF n x y mid with
      | (z, none) => (delL ks j, repL ss j z)
      | (z, some q) => (ks.set j q.1, (ss.set j z).set (j + 1) q.2) := by
  refine ⟨ss[j], ss[j + 1], ks[j]'(by omega), List.getElem?_eq_getElem _, List.getElem?_eq_getElem _, List.getElem?_eq_getElem _, ?_⟩
  unfold fixF
  rw [List.getElem?_eq_getElem (by omega), List.getElem?_eq_getElem (by omega), List.getElem?_eq_getElem (by omega)]
theorem delF_ok {lo : Nat} (k : Key) : ∀ {n : Nat} {t a : T n}, Okn lo n t → (n = 0 ∨ 2 ≤ lo) → delF k n t = some a → Okn (lo - 1) n a
  | 0, t, a, h, _, hd => by
    have h1 := h.1; have h2 := h.2
    unfold delF at hd
    split at hd
    · rename_i c
      injection hd with hd
      subst hd
      have hm : below k (List.map (·.1) t) < List.length t := Nat.lt_of_lt_of_eq (List.getElem?_eq_some_iff.1 c).1 (List.length_map _)
      have e := delL_len hm
      exact ⟨by show _ ≤ (delL _ _).length; omega, by show (delL _ _).length ≤ _; omega⟩
    · cases hd
  | n + 1, t, a, h, hlo, hd => by
    obtain ⟨h1, h2, h3, h4⟩ := h
    rw [delF_succ] at hd
    have hi := upto_le k t.1
    generalize upto k t.1 = i at hi hd
    rw [List.getElem?_eq_getElem (by omega)] at hd
    simp only at hd
    have hs4 := h4 t.2[i] (List.getElem_mem (by omega))
    cases hp : delF k n t.2[i] with
    | none => rw [hp] at hd; cases hd
    | some b =>
      rw [hp] at hd
      simp only [Option.some.injEq] at hd
      have ih : Okn 3 n b := delF_ok (lo := 4) k hs4 (.inr (by omega)) hp
      have hset : ∀ s ∈ t.2.set i b, s = b ∨ s ∈ t.2 := fun s hs => (List.mem_or_eq_of_mem_set hs).symm
      have e1 : (t.2.set i b).length = t.2.length := List.length_set
      by_cases c : 4 ≤ siz n b
      · replace hd := (if_pos c).symm.trans hd
        subst hd
        refine ⟨?_, ?_, ?_, fun s hs => ?_⟩
        · show (t.2.set i b).length = t.1.length + 1; omega
        · show _ ≤ (t.2.set i b).length; omega
        · show (t.2.set i b).length ≤ 8; omega
        · rcases hset s hs with e | e
          · rw [e]; exact ih.up c
          · exact h4 s e
      · replace hd := (if_neg c).symm.trans hd
        have h5 : 2 ≤ lo := by rcases hlo with e | e
                               · omega
                               · exact e
        obtain ⟨x, y, mid, x1, y1, m1, hf⟩ := fixF_eq (ks := t.1) (ss := t.2.set i b) (j := min i (t.2.length - 2)) (by omega) (by omega)
        rw [hf] at hd
        generalize hj : min i (t.2.length - 2) = j at hd x1 y1 m1
        have ok : ∀ {q : Nat} {x : T n}, (t.2.set i b)[q]? = some x → (q = i → x = b) ∧ (q ≠ i → Okn 4 n x) := by
          intro q x hx
          rw [List.getElem?_set] at hx
          refine ⟨fun e => ?_, fun e => ?_⟩
          · rw [if_pos e.symm, if_pos (by omega)] at hx; injection hx with hx; exact hx.symm
          · rw [if_neg (fun e2 => e e2.symm)] at hx; exact h4 x (List.mem_of_getElem? hx)
        have okx := ok x1
        have oky := ok y1
        have hb := ih.sz
        have o3 : ∀ {q : Nat} {x : T n}, (t.2.set i b)[q]? = some x → Okn 3 n x := by
          intro q x hx
          by_cases e : q = i
          · rw [(ok hx).1 e]; exact ih
          · exact ((ok hx).2 e).mono (by omega)
        have h7 : 7 ≤ siz n x + siz n y := by
          by_cases e : j = i
          · rw [okx.1 e]
            have := (oky.2 (by omega)).sz
            omega
          · rw [oky.1 (by omega)]
            have := (okx.2 (by omega)).sz
            omega
        have jo := joinF_ok (mid := mid) (o3 x1) (o3 y1) h7
        rcases hq : joinF n x y mid with ⟨z, O⟩
        rw [hq] at jo hd
        cases O with
        | none =>
          have oz : Okn 4 n z := jo.2 rfl
          simp only at hd
          subst hd
          have r1 : (repL (t.2.set i b) j z).length = t.2.length - 1 := by rw [repL_len (by omega), e1]
          have r2 : (delL t.1 j).length = t.1.length - 1 := delL_len (by omega)
          refine ⟨?_, ?_, ?_, fun s hs => ?_⟩
          · show (repL (t.2.set i b) j z).length = (delL t.1 j).length + 1; omega
          · show _ ≤ (repL (t.2.set i b) j z).length; omega
          · show (repL (t.2.set i b) j z).length ≤ 8; omega
          · obtain ⟨q, hql, rfl⟩ := List.mem_iff_getElem.1 hs
            have hg := repL_get (vs := t.2.set i b) (i := j) (j := q) (v := z) (by omega)
            replace hql : q < (repL (t.2.set i b) j z).length := hql
            have hg2 : (repL (t.2.set i b) j z)[q]? = some (repL (t.2.set i b) j z)[q] := List.getElem?_eq_getElem hql
            rw [hg2] at hg
            show Okn 4 n (repL (t.2.set i b) j z)[q]
            by_cases c1 : q < j
            · rw [if_pos c1] at hg
              exact (ok hg.symm).2 (by omega)
            · rw [if_neg c1] at hg
              by_cases c2 : q = j
              · rw [if_pos c2] at hg; injection hg with hg; rw [hg]; exact oz
              · rw [if_neg c2] at hg
                exact (ok hg.symm).2 (by omega)
        | some q =>
          obtain ⟨m', w⟩ := q
          obtain ⟨oz, ow⟩ := jo.1 (m', w) rfl
          simp only at hd
          subst hd
          have r1 : (((t.2.set i b).set j z).set (j + 1) w).length = t.2.length := by simp
          refine ⟨?_, ?_, ?_, fun s hs => ?_⟩
          · show (((t.2.set i b).set j z).set (j + 1) w).length = (t.1.set j m').length + 1; rw [r1, List.length_set]; exact h1
          · show _ ≤ (((t.2.set i b).set j z).set (j + 1) w).length; omega
          · show (((t.2.set i b).set j z).set (j + 1) w).length ≤ 8; omega
          · obtain ⟨q, hql, rfl⟩ := List.mem_iff_getElem.1 hs
            replace hql : q < (((t.2.set i b).set j z).set (j + 1) w).length := hql
            show Okn 4 n (((t.2.set i b).set j z).set (j + 1) w)[q]
            rw [List.getElem_set]
            by_cases c1 : j + 1 = q
            · rw [if_pos c1]; exact ow
            · rw [if_neg c1, List.getElem_set]
              by_cases c2 : j = q
              · rw [if_pos c2]; exact oz
              · rw [if_neg c2]
                exact (ok (List.getElem?_eq_getElem (by omega))).2 (by omega)
/-- (true, k): a key between sons; (false, k): a key of a leaf -/
abbrev Itm := Bool × Key
def bef : Itm → Itm → Prop
  | (true, a), (false, b) => ¬ klt b a
  | (_, a), (_, b) => klt a b
theorem bef_trans {a b c : Itm} (h : bef a b) (k : bef b c) : bef a c := by
  obtain ⟨a1, a⟩ := a; obtain ⟨b1, b⟩ := b; obtain ⟨c1, c⟩ := c
  have kn : ∀ {x y z : Key}, ¬ klt y x → klt y z → ¬ klt z x := fun h1 h2 h3 => h1 (klt_trans h2 h3)
  have kn2 : ∀ {x y z : Key}, klt x y → ¬ klt z y → klt x z := fun {x y z} h1 h2 => by
    by_cases e : klt x z
    · exact e
    · by_cases e2 : klt z x
      · exact absurd (klt_trans e2 h1) h2
      · rw [klt_tri e e2] at h1; exact absurd h1 h2
  cases a1 <;> cases b1 <;> cases c1 <;> simp only [bef] at h k ⊢
  · exact klt_trans h k
  · exact klt_trans h k
  · exact kn2 h k
  · exact klt_trans h k
  · exact kn h k
  · exact klt_of_nlt h k
  · exact fun e => k (klt_trans e h)
  · exact klt_trans h k

def rgt : List Key → List (List Itm) → List Itm
  | k :: ks, s :: ss => (true, k) :: (s ++ rgt ks ss)
  | _, _ => []
def inter : List (List Itm) → List Key → List Itm
  | [], _ => []
  | s :: ss, ks => s ++ rgt ks ss
def lft : List (List Itm) → List Key → List Itm
  | s :: ss, k :: ks => s ++ (true, k) :: lft ss ks
  | _, _ => []
def flat : (n : Nat) → T n → List Itm
  | 0, t => List.map (fun p => (false, p.1)) t
  | n + 1, t => inter (t.2.map (flat n)) t.1
theorem rgt_cons {k : Key} {ks : List Key} {ss : List (List Itm)} (h : ss ≠ []) : rgt (k :: ks) ss = (true, k) :: inter ss ks := by
  cases ss with
  | nil => exact absurd rfl h
  | cons s ss => rfl
theorem inter_mid {s : List Itm} {B : List (List Itm)} {kb : List Key} : ∀ {A : List (List Itm)} {ka : List Key}, A.length = ka.length → inter (A ++ s :: B) (ka ++ kb) = lft A ka ++ (s ++ rgt kb B)
  | [], [], _ => rfl
  | a :: A, k :: ka, h => by
    have ih := inter_mid (s := s) (B := B) (kb := kb) (A := A) (ka := ka) (by simpa using h)
    show a ++ rgt (k :: (ka ++ kb)) (A ++ s :: B) = _
    rw [rgt_cons (by simp), ih]
    simp [lft]
  | [], k :: ka, h => by simp at h
  | a :: A, [], h => by simp at h
theorem inter_cut {m : Key} {ky : List Key} {Y : List (List Itm)} (hY : Y ≠ []) : ∀ {X : List (List Itm)} {kx : List Key}, X.length = kx.length + 1 → inter (X ++ Y) (kx ++ m :: ky) = inter X kx ++ (true, m) :: inter Y ky
  | [s], [], _ => by
    show s ++ rgt (m :: ky) Y = _
    rw [rgt_cons hY]; simp [inter, rgt]
  | s :: s' :: X, k :: kx, h => by
    have ih := inter_cut hY (m := m) (ky := ky) (X := s' :: X) (kx := kx) (by simp at h ⊢; exact h)
    show s ++ rgt (k :: (kx ++ m :: ky)) ((s' :: X) ++ Y) = _
    rw [rgt_cons (by simp), ih]
    show _ = (s ++ rgt (k :: kx) (s' :: X)) ++ _
    rw [rgt_cons (by simp)]
    simp
  | [], _, h => by simp at h
  | [_], _ :: _, h => by simp at h
  | _ :: _ :: _, [], h => by simp at h

/-- the sons before, and behind -/
def Lf {n : Nat} (t : T (n + 1)) (i : Nat) : List Itm := lft ((t.2.take i).map (flat n)) (t.1.take i)
def Rg {n : Nat} (t : T (n + 1)) (i : Nat) : List Itm := rgt (t.1.drop i) ((t.2.drop (i + 1)).map (flat n))
theorem flat_at {n : Nat} {t : T (n + 1)} {i : Nat} (hl : t.2.length = t.1.length + 1) (hi : i ≤ t.1.length) (a : T n) (k' : List Key) (r : List (T n)) :
    inter ((t.2.take i ++ a :: (r ++ t.2.drop (i + 1))).map (flat n)) (t.1.take i ++ (k' ++ t.1.drop i)) = Lf t i ++ (flat n a ++ rgt (k' ++ t.1.drop i) ((r ++ t.2.drop (i + 1)).map (flat n))) := by
  rw [List.map_append, List.map_cons]
  exact inter_mid (by rw [List.length_map, List.length_take, List.length_take]; omega)
theorem flat_set {n : Nat} {t : T (n + 1)} {i : Nat} (hl : t.2.length = t.1.length + 1) (hi : i ≤ t.1.length) (a : T n) : flat (n + 1) (t.1, t.2.set i a) = Lf t i ++ (flat n a ++ Rg t i) := by
  have h := flat_at hl hi a [] []
  show inter ((t.2.set i a).map (flat n)) t.1 = _
  have e : t.2.set i a = t.2.take i ++ a :: t.2.drop (i + 1) := by
    rw [List.set_eq_take_append_cons_drop, if_pos (by omega)]
  have e2 : t.1 = t.1.take i ++ t.1.drop i := (List.take_append_drop i t.1).symm
  rw [e]
  conv => lhs; rw [e2]
  exact h
theorem flat_self {n : Nat} {t : T (n + 1)} {i : Nat} (hl : t.2.length = t.1.length + 1) (hi : i ≤ t.1.length) : flat (n + 1) t = Lf t i ++ (flat n (t.2[i]'(by omega)) ++ Rg t i) := by
  have h := flat_set hl hi (t.2[i]'(by omega))
  rw [List.set_getElem_self] at h
  exact h
theorem flat_two {n : Nat} {t : T (n + 1)} {i : Nat} (hl : t.2.length = t.1.length + 1) (hi : i ≤ t.1.length) (a b : T n) (m : Key) :
    flat (n + 1) (insL t.1 i m, insL (t.2.set i a) (i + 1) b) = Lf t i ++ (flat n a ++ (true, m) :: (flat n b ++ Rg t i)) := by
  have h := flat_at hl hi a [m] [b]
  show inter ((insL (t.2.set i a) (i + 1) b).map (flat n)) (insL t.1 i m) = _
  have e : insL (t.2.set i a) (i + 1) b = t.2.take i ++ a :: ([b] ++ t.2.drop (i + 1)) := by
    unfold insL
    have e1 : (t.2.set i a).take (i + 1) = t.2.take i ++ [a] := by
      rw [List.take_add_one, List.take_set_of_le (Nat.le_refl _)]
      simp [show i < t.2.length by omega]
    have e2 : (t.2.set i a).drop (i + 1) = t.2.drop (i + 1) := List.drop_set_of_lt (by omega)
    rw [e1, e2]; simp
  rw [e]
  exact h
/-- one node, or two with a separator -/
def flatO (n : Nat) (r : T n × Option (Key × T n)) : List Itm := flat n r.1 ++ (match r.2 with | none => [] | some q => (true, q.1) :: flat n q.2)
theorem cutN_flat {n : Nat} {ks : List Key} {ss : List (T n)} (hl : ss.length = ks.length + 1) : flatO (n + 1) (cutN ks ss) = flat (n + 1) (ks, ss) := by
  unfold cutN
  split
  · exact List.append_nil _
  · rename_i c
    have h := inter_cut (m := (ks[ss.length / 2 - 1]?).getD ⟨#[]⟩) (ky := ks.drop (ss.length / 2)) (Y := (ss.drop (ss.length / 2)).map (flat n)) (X := (ss.take (ss.length / 2)).map (flat n)) (kx := ks.take (ss.length / 2 - 1))
      (by intro e; have := congrArg List.length e; simp at this; omega) (by rw [List.length_map, List.length_take, List.length_take]; omega)
    have e1 : (ss.take (ss.length / 2)).map (flat n) ++ (ss.drop (ss.length / 2)).map (flat n) = ss.map (flat n) := by rw [← List.map_append, List.take_append_drop]
    have e2 : ks.take (ss.length / 2 - 1) ++ (ks[ss.length / 2 - 1]?).getD ⟨#[]⟩ :: ks.drop (ss.length / 2) = ks := by
      have hlt : ss.length / 2 - 1 < ks.length := by omega
      rw [List.getElem?_eq_getElem hlt, Option.getD_some]
      have := List.drop_eq_getElem_cons hlt
      rw [show ss.length / 2 - 1 + 1 = ss.length / 2 by omega] at this
      rw [← this, List.take_append_drop]
    rw [e1, e2] at h
    exact h.symm

abbrev Pw (l : List Itm) : Prop := l.Pairwise bef
/-- a separator laid between two keys of a leaf -/
theorem pw_sep {A B : List Itm} {l r : List Itm} {x y : Key} (h : Pw (A ++ ((l ++ [(false, x)]) ++ (false, y) :: r) ++ B)) : Pw (A ++ ((l ++ [(false, x)]) ++ (true, y) :: (false, y) :: r) ++ B) := by
  have h' : Pw ((A ++ l) ++ ((false, x) :: (false, y) :: (r ++ B))) := by simpa using h
  suffices Pw ((A ++ l) ++ ((false, x) :: (true, y) :: (false, y) :: (r ++ B))) by simpa using this
  obtain ⟨h1, h2, h3⟩ := List.pairwise_append.1 h'
  refine List.pairwise_append.2 ?_
  rw [List.pairwise_cons] at h2
  obtain ⟨h4, h5⟩ := h2
  have h6 := h5
  rw [List.pairwise_cons] at h6
  obtain ⟨h7, h8⟩ := h6
  have hxy : bef (false, x) (true, y) := h4 (false, y) (by simp)
  refine ⟨h1, ?_, ?_⟩
  · rw [List.pairwise_cons]
    refine ⟨?_, ?_⟩
    · intro b hb
      rcases List.mem_cons.1 hb with rfl | hb
      · exact hxy
      · exact h4 b hb
    · rw [List.pairwise_cons]
      refine ⟨?_, h5⟩
      intro b hb
      rcases List.mem_cons.1 hb with rfl | hb
      · exact klt_irrefl y
      · exact bef_trans (b := (false, y)) (klt_irrefl y) (h7 b hb)
  · intro a ha b hb
    rcases List.mem_cons.1 hb with rfl | hb
    · exact h3 a ha _ (by simp)
    · rcases List.mem_cons.1 hb with rfl | hb
      · exact bef_trans (h3 a ha (false, x) (by simp)) hxy
      · exact h3 a ha b (List.mem_cons_of_mem _ hb)
theorem cutF_ord {A B : List Itm} {t : List KV} (h : Pw (A ++ flat 0 t ++ B)) : Pw (A ++ flatO 0 (cutF t) ++ B) := by
  unfold cutF
  split
  · have e : flatO 0 ((t, none) : T 0 × Option (Key × T 0)) = flat 0 t := List.append_nil _
    rw [e]; exact h
  · rename_i c
    have hH : 0 < t.length / 2 := by omega
    have hH2 : t.length / 2 < t.length := by omega
    generalize t.length / 2 = H at hH hH2
    have e1 : t.take H = t.take (H - 1) ++ [t[H - 1]] := by
      have := List.take_succ_eq_append_getElem (l := t) (i := H - 1) (by omega)
      rwa [show H - 1 + 1 = H by omega] at this
    have e2 : t.drop H = t[H] :: t.drop (H + 1) := List.drop_eq_getElem_cons hH2
    have f : ∀ l : List KV, flat 0 l = l.map fun p => ((false, p.1) : Itm) := fun _ => rfl
    have h2 : Pw (A ++ (((t.take (H - 1)).map (fun p => ((false, p.1) : Itm)) ++ [(false, t[H - 1].1)]) ++ (false, t[H].1) :: (t.drop (H + 1)).map (fun p => ((false, p.1) : Itm))) ++ B) := by
      have e : (((t.take (H - 1)).map (fun p => ((false, p.1) : Itm)) ++ [(false, t[H - 1].1)]) ++ (false, t[H].1) :: (t.drop (H + 1)).map (fun p => ((false, p.1) : Itm))) = flat 0 t := by
        rw [f]
        conv => rhs; rw [← List.take_append_drop H t, e1, e2]
        simp only [List.map_append, List.map_cons, List.map_nil, List.append_assoc]
      rw [e]; exact h
    have h3 := pw_sep h2
    have e : flatO 0 ((t.take H, some ((t[H]?.map (·.1)).getD ⟨#[]⟩, t.drop H)) : T 0 × Option (Key × T 0)) = ((t.take (H - 1)).map (fun p => ((false, p.1) : Itm)) ++ [(false, t[H - 1].1)]) ++ (true, t[H].1) :: (false, t[H].1) :: (t.drop (H + 1)).map (fun p => ((false, p.1) : Itm)) := by
      show flat 0 (t.take H) ++ (true, (t[H]?.map (·.1)).getD ⟨#[]⟩) :: flat 0 (t.drop H) = _
      rw [f, f, e1, e2, List.getElem?_eq_getElem hH2]
      simp only [List.map_append, List.map_cons, List.map_nil, List.append_assoc, Option.map_some, Option.getD_some]
    rw [e]; exact h3

theorem upto_seps {k : Key} {ks : List Key} : ∀ s ∈ ks.take (upto k ks), ¬ klt k s := by
  intro s hs
  obtain ⟨i, hi, rfl⟩ := List.mem_iff_getElem.1 hs
  rw [List.length_take] at hi
  rw [List.getElem_take]
  exact upto_lt (by omega) (List.getElem?_eq_getElem (by omega))
theorem upto_seps2 {k : Key} {ks : List Key} (ha : Asc ks) : ∀ s ∈ ks.drop (upto k ks), klt k s := by
  intro s hs
  obtain ⟨i, hi, rfl⟩ := List.mem_iff_getElem.1 hs
  rw [List.length_drop] at hi
  rw [List.getElem_drop]
  exact upto_ge ha (by omega) (List.getElem?_eq_getElem (by omega))
theorem lft_bef {k : Key} : ∀ {X : List (List Itm)} {ka : List Key}, Pw (lft X ka) → (∀ s ∈ ka, ¬ klt k s) → ∀ x ∈ lft X ka, bef x (false, k)
  | [], _, _, _, x, hx => by cases hx
  | _ :: _, [], _, _, x, hx => by cases hx
  | s :: X, a :: ka, hp, hk, x, hx => by
    obtain ⟨h1, h2, h3⟩ := List.pairwise_append.1 hp
    have ha : bef (true, a) (false, k) := hk a (by simp)
    rcases List.mem_append.1 hx with hx | hx
    · exact bef_trans (h3 x hx (true, a) (by simp)) ha
    · rcases List.mem_cons.1 hx with rfl | hx
      · exact ha
      · exact lft_bef (List.pairwise_cons.1 h2).2 (fun s hs => hk s (by simp [hs])) x hx
theorem rgt_bef {k : Key} : ∀ {ks : List Key} {X : List (List Itm)}, Pw (rgt ks X) → (∀ s ∈ ks, klt k s) → ∀ x ∈ rgt ks X, bef (false, k) x
  | [], _, _, _, x, hx => by cases hx
  | _ :: _, [], _, _, x, hx => by cases hx
  | a :: ks, s :: X, hp, hk, x, hx => by
    obtain ⟨h1, h2⟩ := List.pairwise_cons.1 hp
    have ha : bef (false, k) (true, a) := hk a (by simp)
    rcases List.mem_cons.1 hx with rfl | hx
    · exact ha
    · rcases List.mem_append.1 hx with hx2 | hx2
      · exact bef_trans ha (h1 x (by simp [hx2]))
      · exact rgt_bef (List.pairwise_append.1 h2).2.1 (fun s hs => hk s (by simp [hs])) x hx2
theorem rgt_mem {b : Key} : ∀ {ks : List Key} {X : List (List Itm)}, ks.length ≤ X.length → b ∈ ks → (true, b) ∈ rgt ks X
  | a :: ks, s :: X, hl, hb => by
    rcases List.mem_cons.1 hb with rfl | hb
    · simp [rgt]
    · simp only [rgt, List.mem_cons, List.mem_append]
      exact .inr (.inr (rgt_mem (by simpa using hl) hb))
  | [], _, _, hb => by cases hb
  | _ :: _, [], hl, _ => by simp at hl
theorem rgt_asc : ∀ {ks : List Key} {X : List (List Itm)}, ks.length ≤ X.length → Pw (rgt ks X) → Asc ks
  | [], _, _, _ => trivial
  | _ :: _, [], hl, _ => by simp at hl
  | a :: ks, s :: X, hl, hp => by
    obtain ⟨h1, h2⟩ := List.pairwise_cons.1 hp
    refine ⟨fun b hb => h1 (true, b) (List.mem_append.2 (.inr (rgt_mem (by simpa using hl) hb))), rgt_asc (by simpa using hl) (List.pairwise_append.1 h2).2.1⟩
theorem flat_asc {n : Nat} {t : T (n + 1)} (hl : t.2.length = t.1.length + 1) (hp : Pw (flat (n + 1) t)) : Asc t.1 := by
  have h : Pw (inter (t.2.map (flat n)) t.1) := hp
  cases e : t.2.map (flat n) with
  | nil => have := congrArg List.length e; simp at this; rw [this] at hl; simp at hl
  | cons s X =>
    rw [e] at h
    have hx := congrArg List.length e
    simp at hx
    exact rgt_asc (by omega) (List.pairwise_append.1 h).2.1
theorem leaf_asc : ∀ {t : List KV}, Pw (flat 0 t) → Asc (t.map (·.1))
  | [], _ => trivial
  | p :: t, h => by
    obtain ⟨h1, h2⟩ := List.pairwise_cons.1 (show Pw ((false, p.1) :: flat 0 t) from h)
    refine ⟨fun b hb => ?_, leaf_asc h2⟩
    obtain ⟨q, hq, rfl⟩ := List.mem_map.1 hb
    exact h1 (false, q.1) (List.mem_map.2 ⟨q, hq, rfl⟩)
/-- a son in its place is ordered -/
theorem pw_son {A B X : List Itm} (h : Pw (A ++ (X ++ B))) : Pw X := (List.pairwise_append.1 (List.pairwise_append.1 h).2.1).1
theorem srt_of {lo : Nat} : ∀ {n : Nat} {t : T n}, Okn lo n t → Pw (flat n t) → Srt n t
  | 0, t, h, hp => ⟨leaf_asc hp, by have := h.2; omega⟩
  | n + 1, t, h, hp => by
    refine ⟨flat_asc h.1 hp, h.1, by have := h.2.2.1; omega, fun s hs => ?_⟩
    obtain ⟨i, hi, rfl⟩ := List.mem_iff_getElem.1 hs
    rw [flat_self (i := i) h.1 (by have := h.1; omega)] at hp
    exact srt_of (h.2.2.2 _ hs) (pw_son hp)

theorem pw_ins {A L Rr B : List Itm} {x : Itm} (h : Pw (A ++ (L ++ Rr) ++ B)) (h1 : ∀ a ∈ A, bef a x) (h2 : ∀ a ∈ L, bef a x) (h3 : ∀ b ∈ Rr, bef x b) (h4 : ∀ b ∈ B, bef x b) : Pw (A ++ (L ++ x :: Rr) ++ B) := by
  have h' : Pw ((A ++ L) ++ (Rr ++ B)) := by simpa using h
  suffices Pw ((A ++ L) ++ x :: (Rr ++ B)) by simpa using this
  obtain ⟨q1, q2, q3⟩ := List.pairwise_append.1 h'
  refine List.pairwise_append.2 ⟨q1, List.pairwise_cons.2 ⟨fun b hb => ?_, q2⟩, fun a ha b hb => ?_⟩
  · rcases List.mem_append.1 hb with e | e
    · exact h3 b e
    · exact h4 b e
  · rcases List.mem_cons.1 hb with rfl | hb
    · rcases List.mem_append.1 ha with e | e
      · exact h1 a e
      · exact h2 a e
    · exact q3 a ha b hb
theorem leafF_ord {A B : List Itm} {t : List KV} {k w : Key} (h : Pw (A ++ flat 0 t ++ B)) (hA : ∀ x ∈ A, bef x (false, k)) (hB : ∀ x ∈ B, bef (false, k) x) : Pw (A ++ flat 0 (leafF t k w).1 ++ B) := by
  have ha : Asc (t.map (·.1)) := leaf_asc (pw_son (show Pw (A ++ (flat 0 t ++ B)) by rw [← List.append_assoc]; exact h))
  have hm := below_le k (t.map (·.1))
  rw [List.length_map] at hm
  have f : ∀ l : List KV, flat 0 l = l.map fun p => ((false, p.1) : Itm) := fun _ => rfl
  unfold leafF
  have lt : ∀ (i : Nat) x, i < below k (t.map (·.1)) → (t.map (·.1))[i]? = some x → klt x k := fun i x hi hx => below_lt hi hx
  have ge : ∀ (i : Nat) x, below k (t.map (·.1)) ≤ i → (t.map (·.1))[i]? = some x → ¬ klt x k := fun i x hi hx => below_ge ha hi hx
  generalize below k (t.map (·.1)) = m at hm lt ge
  by_cases c : (t.map (·.1))[m]? = some k
  · simp only [if_pos c]
    have hml : m < t.length := by have := (List.getElem?_eq_some_iff.1 c).1; simpa using this
    have e : flat 0 (t.set m (k, w)) = flat 0 t := by
      rw [f, f, List.map_set]
      apply List.ext_getElem?
      intro j
      rw [List.getElem?_set]
      by_cases e : m = j
      · subst e
        rw [List.getElem?_map] at c
        rw [if_pos rfl, if_pos (by simpa using hml), List.getElem?_map]
        cases hx : t[m]? with
        | none => rw [hx] at c; cases c
        | some p => rw [hx] at c; simp at c; simp [c]
      · rw [if_neg e]
    rw [e]; exact h
  · simp only [if_neg c]
    have e : flat 0 (insL t m (k, w)) = flat 0 (t.take m) ++ (false, k) :: flat 0 (t.drop m) := by
      rw [f, f, f]; unfold insL
      simp only [List.map_append, List.map_cons]
    rw [e]
    have e2 : flat 0 t = flat 0 (t.take m) ++ flat 0 (t.drop m) := by
      rw [f, f, f, ← List.map_append, List.take_append_drop]
    rw [e2] at h
    refine pw_ins h hA ?_ ?_ hB
    · intro a ha'
      obtain ⟨p, hp, rfl⟩ := List.mem_map.1 ha'
      obtain ⟨i, hi, rfl⟩ := List.mem_iff_getElem.1 hp
      rw [List.length_take] at hi
      rw [List.getElem_take]
      exact lt i _ (by omega) (by rw [List.getElem?_map, List.getElem?_eq_getElem (by omega)]; rfl)
    · intro b hb
      obtain ⟨p, hp, rfl⟩ := List.mem_map.1 hb
      obtain ⟨i, hi, rfl⟩ := List.mem_iff_getElem.1 hp
      rw [List.length_drop] at hi
      rw [List.getElem_drop]
      have hg := ge (m + i) t[m + i].1 (by omega) (by rw [List.getElem?_map, List.getElem?_eq_getElem (by omega)]; rfl)
      show klt k t[m + i].1
      by_cases e1 : klt k t[m + i].1
      · exact e1
      · have e3 := klt_tri hg e1
        exfalso
        rcases Nat.eq_zero_or_pos i with rfl | hi0
        · apply c
          rw [List.getElem?_map, List.getElem?_eq_getElem (by omega)]
          simp only [Nat.add_zero] at e3
          exact congrArg some e3
        · have h0 := ge m t[m].1 (Nat.le_refl _) (by rw [List.getElem?_map, List.getElem?_eq_getElem (by omega)]; rfl)
          have h1 := asc_get (i := m) (j := m + i) ha (by omega) (show (t.map (·.1))[m]? = some t[m].1 by rw [List.getElem?_map, List.getElem?_eq_getElem (by omega)]; rfl) (show (t.map (·.1))[m + i]? = some t[m + i].1 by rw [List.getElem?_map, List.getElem?_eq_getElem (by omega)]; rfl)
          rw [e3] at h1
          exact h0 h1

theorem put_ord {lo : Nat} (k w : Key) : ∀ {n : Nat} {t : T n} {A B : List Itm}, Okn lo n t → Pw (A ++ flat n t ++ B) → (∀ x ∈ A, bef x (false, k)) → (∀ x ∈ B, bef (false, k) x) → Pw (A ++ flatO n (putF k w n t).1 ++ B)
  | 0, t, A, B, h, hp, hA, hB => by
    have ho := leafF_ord (w := w) hp hA hB
    rw [putF_zero]
    cases c : (leafF t k w).2 with
    | true => exact cutF_ord ho
    | false =>
      have e : flatO 0 ((leafF t k w).1, none) = flat 0 (leafF t k w).1 := List.append_nil _
      show Pw (A ++ flatO 0 ((leafF t k w).1, none) ++ B)
      rw [e]; exact ho
  | n + 1, t, A, B, h, hp, hA, hB => by
    have hi := upto_le k t.1
    have hl := h.1
    have hasc : Asc t.1 := flat_asc hl (pw_son (by rw [← List.append_assoc]; exact hp))
    have s1 := upto_seps (k := k) (ks := t.1)
    have s2 := upto_seps2 (k := k) hasc
    rw [putF_succ]
    generalize upto k t.1 = i at hi s1 s2
    rw [List.getElem?_eq_getElem (by omega), flat_self hl hi] at *
    have hp' : Pw ((A ++ Lf t i) ++ flat n (t.2[i]'(by omega)) ++ (Rg t i ++ B)) := by simpa using hp
    have pL : Pw (Lf t i) := by
      have := (List.pairwise_append.1 (List.pairwise_append.1 (show Pw (A ++ ((Lf t i ++ (flat n (t.2[i]'(by omega)) ++ Rg t i)) ++ B)) by simpa using hp)).2.1).1
      exact (List.pairwise_append.1 this).1
    have pR : Pw (Rg t i) := by
      have := (List.pairwise_append.1 (List.pairwise_append.1 (show Pw (A ++ ((Lf t i ++ (flat n (t.2[i]'(by omega)) ++ Rg t i)) ++ B)) by simpa using hp)).2.1).1
      exact (List.pairwise_append.1 (List.pairwise_append.1 this).2.1).2.1
    have ih := put_ord (lo := 4) k w (h.2.2.2 _ (List.getElem_mem (by omega))) hp' (fun x hx => by
      rcases List.mem_append.1 hx with e | e
      · exact hA x e
      · exact lft_bef pL s1 x e) (fun x hx => by
      rcases List.mem_append.1 hx with e | e
      · exact rgt_bef pR s2 x e
      · exact hB x e)
    simp only
    rcases hq : putF k w n (t.2[i]'(by omega)) with ⟨⟨a, O⟩, more⟩
    rw [hq] at ih
    cases O with
    | none =>
      show Pw (A ++ (flat (n + 1) (t.1, t.2.set i a) ++ []) ++ B)
      rw [flat_set hl hi, List.append_nil]
      have e : flatO n (a, none) = flat n a := List.append_nil _
      simp only [e] at ih
      simpa using ih
    | some q =>
      obtain ⟨m, b⟩ := q
      show Pw (A ++ flatO (n + 1) (cutN (insL t.1 i m) (insL (t.2.set i a) (i + 1) b)) ++ B)
      rw [cutN_flat (by rw [insL_len (by rw [List.length_set]; omega), insL_len hi, List.length_set]; omega), flat_two hl hi]
      have e : flatO n (a, some (m, b)) = flat n a ++ (true, m) :: flat n b := rfl
      simp only [e] at ih
      simpa using ih
theorem join_ord {n : Nat} {x y : T n} {mid : Key} {A B : List Itm} (hl : ∀ m, (e : n = m + 1) → (e ▸ x : T (m + 1)).2.length = (e ▸ x : T (m + 1)).1.length + 1 ∧ (e ▸ y : T (m + 1)).2.length = (e ▸ y : T (m + 1)).1.length + 1) (h : Pw (A ++ (flat n x ++ (true, mid) :: flat n y) ++ B)) : Pw (A ++ flatO n (joinF n x y mid) ++ B) := by
  cases n with
  | zero =>
    refine cutF_ord ?_
    have e : flat 0 (List.append x y) = flat 0 x ++ flat 0 y := List.map_append
    rw [e]
    refine List.Pairwise.sublist ?_ h
    refine List.Sublist.append (List.Sublist.append (List.Sublist.refl _) (List.Sublist.append (List.Sublist.refl _) (List.sublist_cons_self _ _))) (List.Sublist.refl _)
  | succ n =>
    obtain ⟨xk, xs⟩ := x
    obtain ⟨yk, ys⟩ := y
    obtain ⟨hx, hy⟩ := hl n rfl
    replace hx : xs.length = xk.length + 1 := hx
    replace hy : ys.length = yk.length + 1 := hy
    show Pw (A ++ flatO (n + 1) (cutN (xk ++ mid :: yk) (xs ++ ys)) ++ B)
    rw [cutN_flat (by simp; omega)]
    have e : flat (n + 1) (xk ++ mid :: yk, xs ++ ys) = flat (n + 1) (xk, xs) ++ (true, mid) :: flat (n + 1) (yk, ys) := by
      show inter ((xs ++ ys).map (flat n)) (xk ++ mid :: yk) = inter (xs.map (flat n)) xk ++ (true, mid) :: inter (ys.map (flat n)) yk
      rw [List.map_append]
      exact inter_cut (by intro e; have := congrArg List.length e; simp at this; simp [this] at hy) (by rw [List.length_map]; exact hx)
    rw [e]; exact h

/-- the sons from j + 2 on -/
def R2 {n : Nat} (ks : List Key) (ss : List (T n)) (j : Nat) : List Itm := rgt (ks.drop (j + 1)) ((ss.drop (j + 2)).map (flat n))
theorem fix_ord {n : Nat} {ks : List Key} {ss : List (T n)} {j : Nat} {A B : List Itm} (hl : ss.length = ks.length + 1) (hj : j + 1 < ss.length) (hs : ∀ s ∈ ss, Okn 3 n s) (h : Pw (A ++ flat (n + 1) (ks, ss) ++ B)) : Pw (A ++ flat (n + 1) (fixF ks ss j) ++ B) := by
  obtain ⟨x, y, mid, x1, y1, m1, hf⟩ := fixF_eq hl hj
  have hx := hs x (List.mem_of_getElem? x1)
  have hy := hs y (List.mem_of_getElem? y1)
  have key : ∀ (k' : List Key) (r : List (T n)) (z : T n), flat (n + 1) (ks.take j ++ (k' ++ ks.drop (j + 1)), ss.take j ++ z :: (r ++ ss.drop (j + 2))) = lft ((ss.take j).map (flat n)) (ks.take j) ++ (flat n z ++ rgt (k' ++ ks.drop (j + 1)) ((r ++ ss.drop (j + 2)).map (flat n))) := by
    intro k' r z
    show inter ((ss.take j ++ z :: (r ++ ss.drop (j + 2))).map (flat n)) _ = _
    rw [List.map_append, List.map_cons]
    exact inter_mid (by rw [List.length_map, List.length_take, List.length_take]; omega)
  obtain ⟨xl, ex⟩ := List.getElem?_eq_some_iff.1 x1
  obtain ⟨yl, ey⟩ := List.getElem?_eq_some_iff.1 y1
  obtain ⟨ml, em⟩ := List.getElem?_eq_some_iff.1 m1
  have s0 : ss = ss.take j ++ x :: ([y] ++ ss.drop (j + 2)) := by
    have e1 := List.drop_eq_getElem_cons xl
    have e2 := List.drop_eq_getElem_cons yl
    rw [ex] at e1; rw [ey] at e2
    rw [List.singleton_append, ← e2, ← e1, List.take_append_drop]
  have k0 : ks = ks.take j ++ ([mid] ++ ks.drop (j + 1)) := by
    have e1 := List.drop_eq_getElem_cons ml
    rw [em] at e1
    rw [List.singleton_append, ← e1, List.take_append_drop]
  have f0 : flat (n + 1) (ks, ss) = lft ((ss.take j).map (flat n)) (ks.take j) ++ ((flat n x ++ (true, mid) :: flat n y) ++ R2 ks ss j) := by
    have e := key [mid] [y] x
    rw [← s0, ← k0] at e
    rw [e]
    show _ ++ (flat n x ++ (true, mid) :: (flat n y ++ R2 ks ss j)) = _
    simp
  rw [f0] at h
  have h' : Pw ((A ++ lft ((ss.take j).map (flat n)) (ks.take j)) ++ (flat n x ++ (true, mid) :: flat n y) ++ (R2 ks ss j ++ B)) := by simpa using h
  have jo := join_ord (hl := fun m e => by subst e; exact ⟨hx.1, hy.1⟩) h'
  rw [hf]
  rcases hq : joinF n x y mid with ⟨z, O⟩
  rw [hq] at jo
  cases O with
  | none =>
    have e := key [] [] z
    have e2 : flat (n + 1) (delL ks j, repL ss j z) = lft ((ss.take j).map (flat n)) (ks.take j) ++ (flat n z ++ R2 ks ss j) := e
    show Pw (A ++ flat (n + 1) (delL ks j, repL ss j z) ++ B)
    rw [e2]
    have e3 : flatO n (z, none) = flat n z := List.append_nil _
    rw [e3] at jo
    simpa using jo
  | some q =>
    obtain ⟨m', w⟩ := q
    have e := key [m'] [w] z
    have ek : ks.set j m' = ks.take j ++ ([m'] ++ ks.drop (j + 1)) := by rw [List.set_eq_take_append_cons_drop, if_pos ml]; rfl
    have es : (ss.set j z).set (j + 1) w = ss.take j ++ z :: ([w] ++ ss.drop (j + 2)) := by
      apply List.ext_getElem?
      intro q
      rw [List.getElem?_set, List.getElem?_set]
      have lt : (ss.take j).length = j := by rw [List.length_take]; omega
      by_cases c1 : j + 1 = q
      · subst c1
        rw [if_pos rfl, if_pos (by simpa using hj), List.getElem?_append_right (by omega), lt, show j + 1 - j = 1 by omega]; rfl
      · rw [if_neg c1]
        by_cases c2 : j = q
        · subst c2
          rw [if_pos rfl, if_pos xl, List.getElem?_append_right (by omega), lt, Nat.sub_self]; rfl
        · rw [if_neg c2]
          by_cases c3 : q < j
          · rw [List.getElem?_append_left (by omega), List.getElem?_take, if_pos c3]
          · rw [List.getElem?_append_right (by omega), lt, show q - j = (q - j - 2) + 1 + 1 by omega]
            simp only [List.getElem?_cons_succ, List.singleton_append, List.getElem?_drop]
            congr 1; omega
    show Pw (A ++ flat (n + 1) (ks.set j m', (ss.set j z).set (j + 1) w) ++ B)
    rw [ek, es, e]
    have e3 : flatO n (z, some (m', w)) = flat n z ++ (true, m') :: flat n w := rfl
    rw [e3] at jo
    show Pw (A ++ (_ ++ (flat n z ++ (true, m') :: (flat n w ++ R2 ks ss j))) ++ B)
    simpa using jo

theorem del_ord {lo : Nat} (k : Key) : ∀ {n : Nat} {t a : T n} {A B : List Itm}, Okn lo n t → (n = 0 ∨ 2 ≤ lo) → Pw (A ++ flat n t ++ B) → delF k n t = some a → Pw (A ++ flat n a ++ B)
  | 0, t, a, A, B, h, _, hp, hd => by
    unfold delF at hd
    split at hd
    · injection hd with hd
      subst hd
      refine List.Pairwise.sublist ?_ hp
      refine List.Sublist.append (List.Sublist.append (List.Sublist.refl _) ?_) (List.Sublist.refl _)
      refine List.Sublist.map _ ?_
      unfold delL
      generalize below k (List.map (·.1) t) = m
      have e : (t : List KV) = List.take m t ++ List.drop m t := (List.take_append_drop m t).symm
      conv => rhs; rw [e]
      exact List.Sublist.append (List.Sublist.refl _) (List.drop_sublist_drop_left _ (by omega))
    · cases hd
  | n + 1, t, a, A, B, h, hlo, hp, hd => by
    have hok := h
    obtain ⟨h1, h2, h3, h4⟩ := h
    rw [delF_succ] at hd
    have hi := upto_le k t.1
    generalize upto k t.1 = i at hi hd
    rw [List.getElem?_eq_getElem (by omega)] at hd
    simp only at hd
    have hs4 := h4 t.2[i] (List.getElem_mem (by omega))
    cases hq : delF k n t.2[i] with
    | none => rw [hq] at hd; cases hd
    | some b =>
      rw [hq] at hd
      simp only [Option.some.injEq] at hd
      have ih3 : Okn 3 n b := delF_ok (lo := 4) k hs4 (.inr (by omega)) hq
      rw [flat_self h1 hi] at hp
      have hp' : Pw ((A ++ Lf t i) ++ flat n t.2[i] ++ (Rg t i ++ B)) := by simpa using hp
      have ih := del_ord (lo := 4) k hs4 (.inr (by omega)) hp' hq
      have hw : Pw (A ++ flat (n + 1) (t.1, t.2.set i b) ++ B) := by rw [flat_set h1 hi]; simpa using ih
      have e1 : (t.2.set i b).length = t.2.length := List.length_set
      by_cases c : 4 ≤ siz n b
      · replace hd := (if_pos c).symm.trans hd
        subst hd
        exact hw
      · replace hd := (if_neg c).symm.trans hd
        subst hd
        refine fix_ord (by omega) ?_ (fun s hs => ?_) hw
        · rcases hlo with e | e
          · omega
          · omega
        · rcases List.mem_or_eq_of_mem_set hs with e | e
          · exact (h4 s e).mono (by omega)
          · rw [e]; exact ih3

/-! ### pairs -/
def prsO (n : Nat) (r : T n × Option (Key × T n)) : List KV := prs n r.1 ++ (match r.2 with | none => [] | some q => prs n q.2)
theorem cutN_prs {n : Nat} (ks : List Key) (ss : List (T n)) : prsO (n + 1) (cutN ks ss) = prs (n + 1) (ks, ss) := by
  unfold cutN
  split
  · exact List.append_nil _
  · show ((ss.take _).map (prs n)).flatten ++ ((ss.drop _).map (prs n)).flatten = (ss.map (prs n)).flatten
    rw [← List.flatten_append, ← List.map_append, List.take_append_drop]
def P1 {n : Nat} (t : T (n + 1)) (i : Nat) : List KV := ((t.2.take i).map (prs n)).flatten
def P2 {n : Nat} (t : T (n + 1)) (i : Nat) : List KV := ((t.2.drop (i + 1)).map (prs n)).flatten
theorem prs_set {n : Nat} {t : T (n + 1)} {i : Nat} (hi : i < t.2.length) (a : T n) : prs (n + 1) (t.1, t.2.set i a) = P1 t i ++ (prs n a ++ P2 t i) := by
  show ((t.2.set i a).map (prs n)).flatten = _
  rw [List.set_eq_take_append_cons_drop, if_pos hi]
  simp [P1, P2]
theorem prs_self {n : Nat} {t : T (n + 1)} {i : Nat} (hi : i < t.2.length) : prs (n + 1) t = P1 t i ++ (prs n t.2[i] ++ P2 t i) := by
  have h := prs_set hi t.2[i]
  rw [List.set_getElem_self] at h
  exact h
theorem prs_two {n : Nat} {t : T (n + 1)} {i : Nat} (hi : i < t.2.length) (a b : T n) (ks : List Key) : prs (n + 1) (ks, insL (t.2.set i a) (i + 1) b) = P1 t i ++ ((prs n a ++ prs n b) ++ P2 t i) := by
  show ((insL (t.2.set i a) (i + 1) b).map (prs n)).flatten = _
  unfold insL
  have e1 : (t.2.set i a).take (i + 1) = t.2.take i ++ [a] := by
    rw [List.take_add_one, List.take_set_of_le (Nat.le_refl _)]
    simp [hi]
  have e2 : (t.2.set i a).drop (i + 1) = t.2.drop (i + 1) := List.drop_set_of_lt (by omega)
  rw [e1, e2]
  simp [P1, P2]
theorem lft_mem {x : Itm} {s : List Itm} (hx : x ∈ s) : ∀ {X : List (List Itm)} {ka : List Key}, X.length ≤ ka.length → s ∈ X → x ∈ lft X ka
  | a :: X, k :: ka, hl, hs => by
    rcases List.mem_cons.1 hs with rfl | hs
    · exact List.mem_append.2 (.inl hx)
    · exact List.mem_append.2 (.inr (List.mem_cons_of_mem _ (lft_mem hx (by simpa using hl) hs)))
  | [], _, _, hs => by cases hs
  | _ :: _, [], hl, _ => by simp at hl
theorem rgt_mem2 {x : Itm} {s : List Itm} (hx : x ∈ s) : ∀ {X : List (List Itm)} {ka : List Key}, X.length ≤ ka.length → s ∈ X → x ∈ rgt ka X
  | a :: X, k :: ka, hl, hs => by
    rcases List.mem_cons.1 hs with rfl | hs
    · exact List.mem_cons_of_mem _ (List.mem_append.2 (.inl hx))
    · exact List.mem_cons_of_mem _ (List.mem_append.2 (.inr (rgt_mem2 hx (by simpa using hl) hs)))
  | [], _, _, hs => by cases hs
  | _ :: _, [], hl, _ => by simp at hl
theorem prs_flat {lo : Nat} {p : KV} : ∀ {n : Nat} {t : T n}, Okn lo n t → p ∈ prs n t → (false, p.1) ∈ flat n t
  | 0, t, _, hp => List.mem_map.2 ⟨p, hp, rfl⟩
  | n + 1, t, h, hp => by
    obtain ⟨l, hl, hpl⟩ := List.mem_flatten.1 hp
    obtain ⟨s, hs, rfl⟩ := List.mem_map.1 hl
    have ih := prs_flat (h.2.2.2 s hs) hpl
    obtain ⟨i, hi, rfl⟩ := List.mem_iff_getElem.1 hs
    rw [flat_self (i := i) h.1 (by have := h.1; omega)]
    exact List.mem_append.2 (.inr (List.mem_append.2 (.inl ih)))
theorem P1_lt {lo n : Nat} {t : T (n + 1)} {k : Key} (h : Okn lo (n + 1) t) (hp : Pw (flat (n + 1) t)) : ∀ p ∈ P1 t (upto k t.1), klt p.1 k := by
  intro p hpm
  have hi := upto_le k t.1
  obtain ⟨l, hl, hpl⟩ := List.mem_flatten.1 hpm
  obtain ⟨s, hs, rfl⟩ := List.mem_map.1 hl
  have s1 := upto_seps (k := k) (ks := t.1)
  rw [flat_self h.1 hi] at hp
  have h1 := h.1
  exact lft_bef (List.pairwise_append.1 hp).1 s1 (false, p.1) (lft_mem (prs_flat (h.2.2.2 s (List.mem_of_mem_take hs)) hpl) (by rw [List.length_map, List.length_take, List.length_take]; omega) (List.mem_map_of_mem hs))
theorem P2_gt {lo n : Nat} {t : T (n + 1)} {k : Key} (h : Okn lo (n + 1) t) (hp : Pw (flat (n + 1) t)) : ∀ p ∈ P2 t (upto k t.1), klt k p.1 := by
  intro p hpm
  have hi := upto_le k t.1
  obtain ⟨l, hl, hpl⟩ := List.mem_flatten.1 hpm
  obtain ⟨s, hs, rfl⟩ := List.mem_map.1 hl
  have s1 := upto_seps2 (k := k) (flat_asc h.1 hp)
  rw [flat_self h.1 hi] at hp
  have h1 := h.1
  exact rgt_bef (List.pairwise_append.1 (List.pairwise_append.1 hp).2.1).2.1 s1 (false, p.1) (rgt_mem2 (prs_flat (h.2.2.2 s (List.mem_of_mem_drop hs)) hpl) (by rw [List.length_map, List.length_drop, List.length_drop]; omega) (List.mem_map_of_mem hs))
theorem pw_at {lo n : Nat} {t : T (n + 1)} (h : Okn lo (n + 1) t) (hp : Pw (flat (n + 1) t)) {i : Nat} (hi : i < t.2.length) : Pw (flat n t.2[i]) := by
  have h1 := h.1
  rw [flat_self (i := i) h.1 (by omega)] at hp
  exact pw_son hp

theorem insKV_left {k v : Key} {X : List KV} : ∀ {P : List KV}, (∀ p ∈ P, klt p.1 k) → insKV k v (P ++ X) = P ++ insKV k v X
  | [], _ => rfl
  | (a, x) :: P, h => by
    have e : insKV k v ((a, x) :: (P ++ X)) = (a, x) :: insKV k v (P ++ X) := if_pos (h (a, x) (by simp))
    rw [insKV_left (fun p hp => h p (by simp [hp]))] at e
    exact e
theorem insKV_right {k v : Key} {P : List KV} (h : ∀ p ∈ P, klt k p.1) : ∀ {X : List KV}, insKV k v (X ++ P) = insKV k v X ++ P
  | [] => by
    cases P with
    | nil => rfl
    | cons p P =>
      have h0 := h p (by simp)
      show insKV k v (p :: P) = (k, v) :: p :: P
      obtain ⟨a, x⟩ := p
      unfold insKV
      rw [if_neg (klt_asymm h0), if_neg (fun e => by have e' : a = k := e; subst e'; exact klt_irrefl _ h0)]
  | (a, x) :: X => by
    show insKV k v ((a, x) :: (X ++ P)) = insKV k v ((a, x) :: X) ++ P
    rw [insKV, insKV]
    split
    · rw [insKV_right h]; rfl
    · split <;> rfl
theorem cutF_prs' (t : List KV) : prsO 0 (cutF t) = t := by
  unfold cutF
  split
  · exact List.append_nil _
  · exact List.take_append_drop _ _
theorem put_prs {lo : Nat} (k w : Key) : ∀ {n : Nat} {t : T n}, Okn lo n t → Pw (flat n t) → prsO n (putF k w n t).1 = insKV k w (prs n t)
  | 0, t, h, hp => by
    rw [putF_zero]
    have e := leafF_ins k w t
    cases c : (leafF t k w).2 with
    | true =>
      show prsO 0 (cutF (leafF t k w).1) = _
      exact (cutF_prs' _).trans e
    | false =>
      show (leafF t k w).1 ++ [] = _
      rw [List.append_nil]; exact e
  | n + 1, t, h, hp => by
    have hi := upto_le k t.1
    have h1 := h.1
    have q1 := P1_lt (k := k) h hp
    have q2 := P2_gt (k := k) h hp
    rw [putF_succ]
    generalize upto k t.1 = i at hi q1 q2
    have hil : i < t.2.length := by omega
    have ih := put_prs (lo := 4) k w (h.2.2.2 _ (List.getElem_mem hil)) (pw_at h hp hil)
    rw [List.getElem?_eq_getElem hil, prs_self hil, insKV_left q1, insKV_right q2, ← ih]
    simp only
    rcases hq : putF k w n t.2[i] with ⟨⟨a, O⟩, more⟩
    cases O with
    | none =>
      show prs (n + 1) (t.1, t.2.set i a) ++ [] = _
      rw [prs_set hil, List.append_nil]
      show _ = P1 t i ++ ((prs n a ++ []) ++ P2 t i)
      rw [List.append_nil]
    | some q =>
      obtain ⟨m, b⟩ := q
      show prsO (n + 1) (cutN (insL t.1 i m) (insL (t.2.set i a) (i + 1) b)) = _
      rw [cutN_prs, prs_two hil]
      rfl
theorem put_len (k w : Key) : ∀ {lo n : Nat} {t : T n}, Okn lo n t → (prsO n (putF k w n t).1).length = (prs n t).length + (putF k w n t).2.toNat
  | lo, 0, t, h => by
    rw [putF_zero]
    have e := leafF_len k w t
    cases c : (leafF t k w).2 with
    | true =>
      rw [c] at e
      have := congrArg List.length (cutF_prs' (leafF t k w).1)
      show (prsO 0 (cutF (leafF t k w).1)).length = List.length t + 1
      exact this.trans e
    | false =>
      rw [c] at e
      show ((leafF t k w).1 ++ []).length = List.length t + 0
      rw [List.append_nil]; exact e
  | lo, n + 1, t, h => by
    have hi := upto_le k t.1
    have h1 := h.1
    rw [putF_succ]
    generalize upto k t.1 = i at hi
    have hil : i < t.2.length := by omega
    have ih := put_len k w (h.2.2.2 _ (List.getElem_mem hil))
    rw [List.getElem?_eq_getElem hil, prs_self hil]
    simp only
    rcases hq : putF k w n t.2[i] with ⟨⟨a, O⟩, more⟩
    rw [hq] at ih
    cases O with
    | none =>
      have ih' : (prs n a ++ []).length = (prs n t.2[i]).length + more.toNat := ih
      show (prs (n + 1) (t.1, t.2.set i a) ++ []).length = _ + more.toNat
      rw [prs_set hil, List.append_nil]
      simp only [List.length_append, List.append_nil] at ih' ⊢
      omega
    | some q =>
      obtain ⟨m, b⟩ := q
      have ih' : (prs n a ++ prs n b).length = (prs n t.2[i]).length + more.toNat := ih
      show (prsO (n + 1) (cutN (insL t.1 i m) (insL (t.2.set i a) (i + 1) b))).length = _ + more.toNat
      rw [cutN_prs, prs_two hil]
      simp only [List.length_append] at ih' ⊢
      omega
def delKV (k : Key) (l : List KV) : List KV := l.filter fun p => decide (p.1 ≠ k)
theorem delKV_app (k : Key) (a b : List KV) : delKV k (a ++ b) = delKV k a ++ delKV k b := List.filter_append ..
theorem delKV_self {k : Key} {l : List KV} (h : ∀ p ∈ l, p.1 ≠ k) : delKV k l = l := List.filter_eq_self.2 (fun p hp => decide_eq_true (h p hp))
theorem klt_ne {a b : Key} (h : klt a b) : a ≠ b := fun e => by subst e; exact klt_irrefl _ h
theorem joinF_prs {n : Nat} (x y : T n) (mid : Key) : prsO n (joinF n x y mid) = prs n x ++ prs n y := by
  cases n with
  | zero => exact cutF_prs' _
  | succ n =>
    show prsO (n + 1) (cutN _ _) = _
    rw [cutN_prs]
    show ((x.2 ++ y.2).map (prs n)).flatten = _
    rw [List.map_append, List.flatten_append]
    rfl
theorem fix_prs {n : Nat} {ks : List Key} {ss : List (T n)} {j : Nat} (hl : ss.length = ks.length + 1) (hj : j + 1 < ss.length) : prs (n + 1) (fixF ks ss j) = prs (n + 1) (ks, ss) := by
  obtain ⟨x, y, mid, x1, y1, m1, hf⟩ := fixF_eq hl hj
  obtain ⟨xl, ex⟩ := List.getElem?_eq_some_iff.1 x1
  obtain ⟨yl, ey⟩ := List.getElem?_eq_some_iff.1 y1
  have s0 : ss = ss.take j ++ x :: ([y] ++ ss.drop (j + 2)) := by
    have e1 := List.drop_eq_getElem_cons xl
    have e2 := List.drop_eq_getElem_cons yl
    rw [ex] at e1; rw [ey] at e2
    rw [List.singleton_append, ← e2, ← e1, List.take_append_drop]
  have jp := joinF_prs x y mid
  rw [hf]
  have w : prs (n + 1) (ks, ss) = ((ss.take j).map (prs n)).flatten ++ ((prs n x ++ prs n y) ++ ((ss.drop (j + 2)).map (prs n)).flatten) := by
    show (ss.map (prs n)).flatten = _
    conv => lhs; rw [s0]
    simp
  rw [w, ← jp]
  rcases hq : joinF n x y mid with ⟨z, O⟩
  cases O with
  | none =>
    show ((repL ss j z).map (prs n)).flatten = _ ++ ((prs n z ++ []) ++ _)
    unfold repL; simp
  | some q =>
    obtain ⟨m', v⟩ := q
    show (((ss.set j z).set (j + 1) v).map (prs n)).flatten = _ ++ ((prs n z ++ prs n v) ++ _)
    have es : (ss.set j z).set (j + 1) v = ss.take j ++ z :: ([v] ++ ss.drop (j + 2)) := by
      apply List.ext_getElem?
      intro q
      rw [List.getElem?_set, List.getElem?_set]
      have lt : (ss.take j).length = j := by rw [List.length_take]; omega
      by_cases c1 : j + 1 = q
      · subst c1
        rw [if_pos rfl, if_pos (by simpa using hj), List.getElem?_append_right (by omega), lt, show j + 1 - j = 1 by omega]; rfl
      · rw [if_neg c1]
        by_cases c2 : j = q
        · subst c2
          rw [if_pos rfl, if_pos xl, List.getElem?_append_right (by omega), lt, Nat.sub_self]; rfl
        · rw [if_neg c2]
          by_cases c3 : q < j
          · rw [List.getElem?_append_left (by omega), List.getElem?_take, if_pos c3]
          · rw [List.getElem?_append_right (by omega), lt, show q - j = (q - j - 2) + 1 + 1 by omega]
            simp only [List.getElem?_cons_succ, List.singleton_append, List.getElem?_drop]
            congr 1; omega
    rw [es]; simp
theorem del_leaf {k : Key} {t : List KV} (ha : Asc (t.map (·.1))) : (delF k 0 t = none → ∀ p ∈ t, p.1 ≠ k) ∧ (∀ a : List KV, delF k 0 t = some a → a = delKV k t ∧ (∃ p ∈ t, p.1 = k) ∧ a.length + 1 = t.length) := by
  have hm := below_le k (t.map (·.1))
  have hml : (t.map (·.1)).length = t.length := List.length_map _
  have lt : ∀ (i : Nat) x, i < below k (t.map (·.1)) → (t.map (·.1))[i]? = some x → klt x k := fun i x hi hx => below_lt hi hx
  have ge : ∀ (i : Nat) x, below k (t.map (·.1)) ≤ i → (t.map (·.1))[i]? = some x → ¬ klt x k := fun i x hi hx => below_ge ha hi hx
  have hd : delF k 0 t = if (t.map (·.1))[below k (t.map (·.1))]? = some k then some (delL t (below k (t.map (·.1)))) else none := rfl
  rw [hd]
  clear hd
  generalize below k (t.map (·.1)) = m at hm lt ge ⊢
  have memi : ∀ p ∈ t, ∃ i : Nat, (t.map (·.1))[i]? = some p.1 := by
    intro p hp
    obtain ⟨i, hi, rfl⟩ := List.mem_iff_getElem.1 hp
    exact ⟨i, by rw [List.getElem?_map, List.getElem?_eq_getElem hi]; rfl⟩
  by_cases c : (t.map (·.1))[m]? = some k
  · refine ⟨fun e => (by rw [if_pos c] at e; cases e), fun a e => ?_⟩
    rw [if_pos c] at e
    injection e with e
    subst e
    have hmt : m < t.length := Nat.lt_of_lt_of_eq (List.getElem?_eq_some_iff.1 c).1 hml
    have hk : t[m].1 = k := by
      have c2 := c
      rw [List.getElem?_map, List.getElem?_eq_getElem hmt] at c2
      injection c2
    refine ⟨?_, ⟨t[m], List.getElem_mem hmt, hk⟩, ?_⟩
    · show delL t m = delKV k t
      have e1 : t = List.take m t ++ t[m] :: List.drop (m + 1) t := by
        rw [← List.drop_eq_getElem_cons hmt, List.take_append_drop]
      unfold delL
      conv => rhs; rw [e1]
      rw [delKV_app]
      have e2 : delKV k (List.take m t) = List.take m t := delKV_self (fun p hp => by
        obtain ⟨i, hi, rfl⟩ := List.mem_iff_getElem.1 hp
        rw [List.length_take] at hi
        rw [List.getElem_take]
        exact klt_ne (lt i _ (by omega) (by rw [List.getElem?_map, List.getElem?_eq_getElem (by omega)]; rfl)))
      have e3 : delKV k (List.drop (m + 1) t) = List.drop (m + 1) t := delKV_self (fun p hp => by
        obtain ⟨i, hi, rfl⟩ := List.mem_iff_getElem.1 hp
        rw [List.length_drop] at hi
        rw [List.getElem_drop]
        have := asc_get (i := m) (j := m + 1 + i) ha (by omega) c (show _ = some t[m + 1 + i].1 by rw [List.getElem?_map, List.getElem?_eq_getElem (by omega)]; rfl)
        exact fun e => klt_ne this e.symm)
      have e4 : delKV k (t[m] :: List.drop (m + 1) t) = delKV k (List.drop (m + 1) t) := by
        unfold delKV
        rw [List.filter_cons_of_neg (by simp [hk])]
      rw [e2, e4, e3]
    · show (delL t m).length + 1 = t.length
      rw [delL_len hmt]; omega
  · refine ⟨fun _ p hp => ?_, fun a e => (by rw [if_neg c] at e; cases e)⟩
    obtain ⟨i, hi⟩ := memi p hp
    intro e
    rw [e] at hi
    rcases Nat.lt_or_ge i m with q | q
    · exact klt_irrefl _ (lt i k q hi)
    · rcases Nat.lt_or_ge m i with q2 | q2
      · have hl := (List.getElem?_eq_some_iff.1 hi).1
        have hg := ge m (t.map (·.1))[m] (Nat.le_refl _) (List.getElem?_eq_getElem (by omega))
        exact hg (asc_get ha q2 (List.getElem?_eq_getElem (by omega)) hi)
      · have : i = m := by omega
        subst this
        exact c hi
theorem del_prs {lo : Nat} (k : Key) : ∀ {n : Nat} {t : T n}, Okn lo n t → (n = 0 ∨ 2 ≤ lo) → Pw (flat n t) →
    (delF k n t = none → ∀ p ∈ prs n t, p.1 ≠ k) ∧ (∀ a, delF k n t = some a → prs n a = delKV k (prs n t) ∧ (∃ p ∈ prs n t, p.1 = k) ∧ (prs n a).length + 1 = (prs n t).length)
  | 0, t, h, _, hp => del_leaf (leaf_asc hp)
  | n + 1, t, h, hlo, hp => by
    have hi := upto_le k t.1
    have q1 := P1_lt (k := k) h hp
    have q2 := P2_gt (k := k) h hp
    obtain ⟨h1, h2, h3, h4⟩ := h
    rw [delF_succ]
    have hpw : ∀ {i : Nat} (hi : i < t.2.length), Pw (flat n t.2[i]) := fun hi => pw_at (lo := lo) ⟨h1, h2, h3, h4⟩ hp hi
    generalize upto k t.1 = i at hi q1 q2
    have hil : i < t.2.length := by omega
    have ih := del_prs (lo := 4) k (h4 _ (List.getElem_mem hil)) (.inr (by omega)) (hpw hil)
    rw [List.getElem?_eq_getElem hil, prs_self hil, delKV_app, delKV_app, delKV_self (fun p hp => klt_ne (q1 p hp)), delKV_self (l := P2 t i) (fun p hp e => klt_ne (q2 p hp) e.symm)]
    simp only
    cases hq : delF k n t.2[i] with
    | none =>
      refine ⟨fun _ p hpm => ?_, fun a e => (by cases e)⟩
      rcases List.mem_append.1 hpm with e | e
      · exact klt_ne (q1 p e)
      · rcases List.mem_append.1 e with e | e
        · exact ih.1 hq p e
        · exact fun e2 => klt_ne (q2 p e) e2.symm
    | some b =>
      refine ⟨fun e => (by cases e), fun a e => ?_⟩
      simp only [Option.some.injEq] at e
      obtain ⟨j1, ⟨p, j2, j3⟩, j4⟩ := ih.2 b hq
      have e1 : (t.2.set i b).length = t.2.length := List.length_set
      have ea : prs (n + 1) a = P1 t i ++ (prs n b ++ P2 t i) := by
        by_cases c : 4 ≤ siz n b
        · replace e := (if_pos c).symm.trans e
          subst e
          exact prs_set hil b
        · replace e := (if_neg c).symm.trans e
          subst e
          rw [fix_prs (by omega) (by rcases hlo with e | e <;> omega)]
          exact prs_set hil b
      refine ⟨by rw [ea, j1], ⟨p, List.mem_append.2 (.inr (List.mem_append.2 (.inl j2))), j3⟩, ?_⟩
      rw [ea]
      simp only [List.length_append]
      omega

/-! ### a key's value -/
def getL (k : Key) (l : List KV) : Option Key := (l.find? fun p => decide (p.1 = k)).map (·.2)
theorem getL_app {k : Key} {a b : List KV} (h : ∀ p ∈ a, p.1 ≠ k) : getL k (a ++ b) = getL k b := by
  unfold getL
  rw [List.find?_append, List.find?_eq_none.2 (fun p hp => by simpa using h p hp)]
  rfl
theorem getL_app2 {k : Key} {a b : List KV} (h : ∀ p ∈ b, p.1 ≠ k) : getL k (a ++ b) = getL k a := by
  unfold getL
  rw [List.find?_append, show b.find? (fun p => decide (p.1 = k)) = none from List.find?_eq_none.2 (fun p hp => by simpa using h p hp), Option.or_none]
theorem getL_none {k : Key} {l : List KV} (h : ∀ p ∈ l, p.1 ≠ k) : getL k l = none := by
  unfold getL
  rw [List.find?_eq_none.2 (fun p hp => by simpa using h p hp)]; rfl
theorem get_at {lo n : Nat} {t : T (n + 1)} {k : Key} (h : Okn lo (n + 1) t) (hp : Pw (flat (n + 1) t)) (hi : upto k t.1 < t.2.length) : getL k (prs (n + 1) t) = getL k (prs n t.2[upto k t.1]) := by
  rw [prs_self hi, getL_app (fun p hp' => klt_ne (P1_lt h hp p hp')), getL_app2 (fun p hp' e => klt_ne (P2_gt h hp p hp') e.symm)]
theorem get_leaf {k : Key} : ∀ {t : List KV}, Asc (t.map (·.1)) → getL k t = if (t.map (·.1))[below k (t.map (·.1))]? = some k then t[below k (t.map (·.1))]?.map (·.2) else none
  | [], _ => rfl
  | (a, x) :: t, ha => by
    have ih := get_leaf (k := k) (t := t) ha.2
    simp only [List.map_cons, below]
    by_cases c : klt a k
    · rw [if_pos c]
      have e : getL k ((a, x) :: t) = getL k t := by
        unfold getL
        rw [List.find?_cons_of_neg (by simpa using klt_ne c)]
      rw [e, ih]
      rfl
    · rw [if_neg c]
      simp only [List.getElem?_cons_zero, Option.some.injEq]
      by_cases c2 : a = k
      · rw [if_pos c2]
        show (List.find? _ _).map _ = _
        rw [List.find?_cons_of_pos (by simpa using c2)]
      · rw [if_neg c2]
        refine getL_none (fun p hp => ?_)
        rcases List.mem_cons.1 hp with rfl | hp
        · exact c2
        · have h1 := ha.1 p.1 (List.mem_map_of_mem hp)
          intro e
          rw [e] at h1
          exact c h1

/-! ### from a key on -/
def fromKV (k : Key) (l : List KV) : List KV := l.filter fun p => !decide (klt p.1 k)
theorem fromKV_app (k : Key) (a b : List KV) : fromKV k (a ++ b) = fromKV k a ++ fromKV k b := List.filter_append ..
theorem fromKV_all {k : Key} {l : List KV} (h : ∀ p ∈ l, ¬ klt p.1 k) : fromKV k l = l := List.filter_eq_self.2 (fun p hp => by simpa using h p hp)
theorem fromKV_none {k : Key} {l : List KV} (h : ∀ p ∈ l, klt p.1 k) : fromKV k l = [] := List.filter_eq_nil_iff.2 (fun p hp => by simpa using h p hp)
theorem frm_leaf {k : Key} : ∀ {t : List KV}, Asc (t.map (·.1)) → t.drop (below k (t.map (·.1))) = fromKV k t
  | [], _ => rfl
  | (a, x) :: t, ha => by
    have ih := frm_leaf (k := k) (t := t) ha.2
    simp only [List.map_cons, below]
    by_cases c : klt a k
    · rw [if_pos c, List.drop_succ_cons, ih]
      unfold fromKV
      rw [List.filter_cons_of_neg (by simpa using c)]
    · rw [if_neg c, List.drop_zero]
      refine (fromKV_all (fun p hp => ?_)).symm
      rcases List.mem_cons.1 hp with rfl | hp
      · exact c
      · exact fun e => c (klt_trans (ha.1 p.1 (List.mem_map_of_mem hp)) e)
theorem frm_prs {lo : Nat} (k : Key) : ∀ {n : Nat} {t : T n}, Okn lo n t → Pw (flat n t) → frm k n t = fromKV k (prs n t)
  | 0, t, h, hp => frm_leaf (leaf_asc hp)
  | n + 1, t, h, hp => by
    have hi := upto_le k t.1
    have h1 := h.1
    have hil : upto k t.1 < t.2.length := by omega
    have q1 := P1_lt (k := k) h hp
    rw [prs_self hil, fromKV_app, fromKV_none q1, List.nil_append]
    show ((t.2.drop (upto k t.1)).map (frm k n)).flatten = _
    rw [fromKV_app, List.drop_eq_getElem_cons hil, List.map_cons, List.flatten_cons, frm_prs k (h.2.2.2 _ (List.getElem_mem hil)) (pw_at h hp hil)]
    congr 1
    rw [fromKV_all (fun p hp' => klt_asymm (P2_gt h hp p hp'))]
    unfold P2
    congr 1
    refine List.map_congr_left (fun s hs => ?_)
    have hs2 := List.mem_of_mem_drop hs
    obtain ⟨i, hi2, rfl⟩ := List.mem_iff_getElem.1 hs2
    rw [frm_prs k (h.2.2.2 _ hs2) (pw_at h hp hi2)]
    exact fromKV_all (fun p hp' => klt_asymm (P2_gt h hp p (List.mem_flatten.2 ⟨_, List.mem_map_of_mem hs, hp'⟩)))

/-! ### how many -/
theorem sum_ge {α : Type} {f : α → List KV} {c : Nat} : ∀ {l : List α}, (∀ s ∈ l, c ≤ (f s).length) → l.length * c ≤ ((l.map f).flatten).length
  | [], _ => by simp
  | a :: l, h => by
    have ih := sum_ge (f := f) (c := c) (l := l) (fun s hs => h s (by simp [hs]))
    have h0 := h a (by simp)
    simp only [List.length_cons, List.map_cons, List.flatten_cons, List.length_append, Nat.add_mul]
    omega
theorem many : ∀ {n : Nat} {t : T n}, Okn 4 n t → 4 ^ (n + 1) ≤ (prs n t).length
  | 0, t, h => h.1
  | n + 1, t, h => by
    have h1 := sum_ge (f := prs n) (c := 4 ^ (n + 1)) (l := t.2) (fun s hs => many (h.2.2.2 s hs))
    have h2 := h.2.1
    have h3 := Nat.mul_le_mul_right (4 ^ (n + 1)) h2
    have e : 4 ^ (n + 1 + 1) = 4 * 4 ^ (n + 1) := by rw [Nat.pow_succ, Nat.mul_comm]
    show _ ≤ ((t.2.map (prs n)).flatten).length
    omega
theorem many_root {n : Nat} {t : T (n + 1)} (h : Okn 2 (n + 1) t) : 2 * 4 ^ (n + 1) ≤ (prs (n + 1) t).length := by
  have h1 := sum_ge (f := prs n) (c := 4 ^ (n + 1)) (l := t.2) (fun s hs => many (h.2.2.2 s hs))
  have h3 := Nat.mul_le_mul_right (4 ^ (n + 1)) h.2.1
  show _ ≤ ((t.2.map (prs n)).flatten).length
  omega
theorem delV {α β : Type} (f : α → β) (l : List α) (i : Nat) : (delL l i).map f = delL (l.map f) i := by unfold delL; simp
theorem Reps.del {h : Heap} {F : Nat → Prop} {n : Nat} {ss : List (T n)} {vs : List Value} (hr : Reps h F n ss vs) {a : T n} {v : Value} (ha : Rep h F n a v) {i : Nat} : Reps h F n (repL ss i a) (repL vs i v) := by
  unfold repL
  exact (hr.take i).append (Reps.append (ss := [a]) (vs := [v]) ⟨rfl, fun j s w h1 h2 => by
    cases j with
    | zero => simp at h1 h2; subst h1 h2; exact ha
    | succ j => simp at h1⟩ (hr.drop (i + 2)))

theorem del_leaf_spec {h : Heap} {F : Nat → Prop} {v : Value} {k : Key} {t : List KV} (hr : Rep h F 0 t v) (hA : Asc (t.map (·.1))) (hl : t.length ≤ 1000000) {R : Value × Bool → Heap → Prop}
    (hn : delF k 0 t = none → ∀ h', Nw h h' → R (v, false) h')
    (hs : ∀ (u : List KV) a h', delF k 0 t = some u → Nw h h' → Rep h' (New h h') 0 u a → R (a, true) h') : CallT Try.prog btree_del_no [v, .string k] h [.sc .raw, .sc .bool] R := by
  have hcall := btree_del_call v k (R := R) (h := h)
  apply hcall
  clear hcall
  unfold btree_del
  obtain ⟨p, ka, kl, kc, va, vl, vc, rfl, fp, row, k1, k2, f1, f2⟩ := hr
  have len1 : kl = t.length := by have := k1.1; simpa using this
  have len2 : vl = t.length := by have := k2.1; simpa using this
  have hd : delF k 0 t = if (t.map (·.1))[below k (t.map (·.1))]? = some k then some (delL t (below k (t.map (·.1)))) else none := rfl
  refine isP_yes rfl ?_
  refine ldL_row (o := 0) row rfl ?_
  refine bsearch_spec k1 hA (by omega) ?_
  have hm := below_le k (t.map (·.1))
  generalize below k (t.map (·.1)) = m at hm hd ⊢
  refine cnd_of (fun c => ?_) (fun c => ?_)
  · have c' : ¬ (t.map (·.1))[m]? = some k := by simpa using c
    rw [if_neg c'] at hd
    exact hn hd h (Keep.refl _ _)
  · have c' : (t.map (·.1))[m]? = some k := by simpa using c
    rw [if_pos c'] at hd
    have hml : m < t.length := by have := (List.getElem?_eq_some_iff.1 c').1; simpa using this
    refine ldL_row (o := 0) row rfl ?_
    refine ldL_row (o := 0 + 1) row rfl ?_
    refine cloneS_spec (s := ⟨ka, kl, kc⟩) k1 (keysV_one _) (by show kl ≤ _; omega) ?_
    intro rk h11 oK lK nK
    replace lK : rk.len = kl := lK
    refine ⟨ldL_row (o := 0 + 1) (nK.row row (fun h => h)) rfl rfl, ?_⟩
    have w1 : w64 ((m : Int) + 1) = ((m + 1 : Nat) : Int) := by rw [w64_id (by omega) (by omega)]; push_cast; rfl
    simp only [w1]
    refine deleteS_spec oK (keysV_one _) (by omega) (by omega) nK ?_
    intro r13 h14 o13 l13 n14 k14 b14
    refine ⟨ldL_row (o := 0 + 1) (n14.row row (fun h => h)) rfl rfl, ?_⟩
    refine cloneS_spec (s := ⟨va, vl, vc⟩) (k2.keep0 n14) (keysV_one _) (by show vl ≤ _; omega) ?_
    intro rv h17 oV lV nV
    replace lV : rv.len = vl := lV
    have o13' := o13.nw nV
    have z14 := n14.size
    refine deleteS_spec (oV.up z14) (keysV_one _) (by omega) (by omega) (n14.trans' nV) ?_
    intro r18 h19 o18 l18 n19 k19 b19
    have o13'' := o13'.keep k19 (fun b hb e => by have e1 := oV.fresh b e; have e2 := o13.lt hb; omega)
    refine newB_row ?_
    intro h21 s21 w21 k21
    have z19 := n19.size
    refine hs _ _ h21 hd (n19.trans' k21) (rep_leaf' w21 ?_ ?_ (by omega))
    · rw [delV]; unfold keysV; rw [delV]; exact o13''.nw k21
    · rw [delV]; unfold keysV; rw [delV]; exact o18.nw k21

theorem joined_spec {n : Nat} {h : Heap} {F : Nat → Prop} {v v' : Value} {mid : Key} {x y : T n} (hx : Rep h F n x v) (hy : Rep h F n y v') (ox : Okn 3 n x) (oy : Okn 3 n y) {R : Value × Value × ByteArray → Heap → Prop}
    (hkR : ∀ a b m h', Nw h h' → Rep h' (Fn F h h') n (joinF n x y mid).1 a → Opt h' (Fn F h h') n (joinF n x y mid).2 m b → R (a, b, m) h') : CallT Try.prog btree_joined_no [v, v', .string mid] h [.sc .raw, .sc .raw, .sc .str] R := by
  cases n with
  | zero =>
    refine joined_leaf hx hy (by have := ox.2; omega) (by have := oy.2; omega) (fun a b m h' nw ra ob => hkR a b m h' nw (ra.mono (fun _ h => .inr h)) ?_)
    have e : (joinF 0 x y mid).2 = (cutF (List.append x y)).2 := rfl
    rw [e]
    replace ob : Opt h' (New h h') 0 (cutF (List.append x y)).2 m b := ob
    cases hO : (cutF (List.append x y)).2 with
    | none => rw [hO] at ob; exact ob
    | some q => rw [hO] at ob; exact ⟨ob.1, ob.2.mono (fun _ h => .inr h)⟩
  | succ n => exact joined_inner hx hy (by have := ox.2.2.1; omega) ox.1 (by have := oy.2.2.1; omega) oy.1 hkR
theorem size_spec {n : Nat} {h : Heap} {F : Nat → Prop} {v : Value} {t : T n} (hr : Rep h F n t v) {K : Int → Heap → Prop} (hk : K ((siz n t : Nat) : Int) h) :
    isP v lfT (fun p => CallT Try.prog btree_leaf_size_no [.pointer p] h [.sc (.int .i64)] K) (isP v inT (fun p => CallT Try.prog btree_inner_size_no [.pointer p] h [.sc (.int .i64)] K) False) := by
  cases n with
  | zero =>
    obtain ⟨p, ka, kl, kc, va, vl, vc, rfl, _, row, k1, k2, _, _⟩ := hr
    refine isP_yes rfl ?_
    apply btree_leaf_size_call
    unfold btree_leaf_size
    refine ldL_row (o := 0) row rfl ?_
    have : kl = List.length t := k1.1.trans ((List.length_map _).trans (List.length_map _))
    rw [this]; exact hk
  | succ n =>
    obtain ⟨p, ka, kl, kc, va, vl, vc, us1, rfl, row, k1, k2, rs1⟩ := Reps.cat hr
    refine isP_no rfl ?_
    refine isP_yes rfl ?_
    apply btree_inner_size_call
    unfold btree_inner_size
    refine ldL_row (o := 0 + 1) row rfl ?_
    have : vl = t.2.length := by have := k2.1; have := rs1.1; omega
    rw [this]; exact hk
theorem minI_nat (i j : Nat) : minI (i : Int) (j : Int) = ((min i j : Nat) : Int) := by
  unfold minI
  split
  · congr 1; omega
  · congr 1; omega
theorem Own.idxset {h0 h : Heap} {s : Sl} {vs : List Value} {v : Value} {i : Nat} (hs : Own h0 h 1 s vs) (hi : i < s.len) (hv : v.oneCell' = true) {K : Heap → Prop}
    (hk : ∀ h' x, h'.size = h.size → blk s.a x → Own h0 h' 1 s (vs.set i v) → Keep (· = x) h h' → K h') : idx s.a s.len (i : Int) fun a => stC (a.add ((i : Int).toNat * 1)) v h K := by
  refine hs.sl.idx (by omega) (by omega) ?_
  intro x ex _
  have sl := hs.sl
  rw [ex] at sl
  rw [Int.toNat_natCast, Nat.mul_one]
  refine sl.set (i := i) (by omega) hv ?_
  intro h' z sl' k
  rw [← ex] at sl'
  exact hk h' x.block z (by rw [ex]; exact blk_some.2 rfl) ⟨sl', fun b hb => hs.fresh b hb⟩ k

theorem del_inner {n lo : Nat} {k : Key}
    (IH : ∀ {h : Heap} {F : Nat → Prop} {v : Value} {s : T n}, Rep h F n s v → (∀ b, F b → b < h.size) → Okn 4 n s → Srt n s → ∀ {R : Value × Bool → Heap → Prop},
      (delF k n s = none → ∀ h', Nw h h' → R (v, false) h') → (∀ u a h', delF k n s = some u → Nw h h' → Rep h' (Fn F h h') n u a → R (a, true) h') → CallT Try.prog btree_del_no [v, .string k] h [.sc .raw, .sc .bool] R)
    {h : Heap} {F : Nat → Prop} {v : Value} {t : T (n + 1)} (hr : Rep h F (n + 1) t v) (hF : ∀ b, F b → b < h.size) (hok : Okn lo (n + 1) t) (hlo : 2 ≤ lo) (hA : Srt (n + 1) t) {R : Value × Bool → Heap → Prop}
    (hn : delF k (n + 1) t = none → ∀ h', Nw h h' → R (v, false) h')
    (hs : ∀ (u : T (n + 1)) a h', delF k (n + 1) t = some u → Nw h h' → Rep h' (Fn F h h') (n + 1) u a → R (a, true) h') : CallT Try.prog btree_del_no [v, .string k] h [.sc .raw, .sc .bool] R := by
  have hcall := btree_del_call v k (R := R) (h := h)
  apply hcall
  clear hcall
  unfold btree_del
  obtain ⟨p, ka, kl, kc, sa, sl, sc, vs, rfl, fp, row, k1, k2, lc, f1, f2, lv, hsons⟩ := hr
  obtain ⟨a1, a2, a3, a4⟩ := hA
  obtain ⟨b1, b2, b3, b4⟩ := hok
  have len1 : kl = t.1.length := by have := k1.1; simpa using this
  have len2 : sl = t.2.length := by have := k2.1; omega
  refine isP_no rfl ?_
  refine isP_yes rfl ?_
  refine at_spec (x := ⟨p, 0, none⟩) (by rw [row.cells]; rfl) k1 a1 (by omega) ?_
  intro h24 n24
  have hm := upto_le k t.1
  have hd := delF_succ k t
  generalize upto k t.1 = i at hm hd ⊢
  have hi2 : i < t.2.length := by omega
  have hi3 : i < vs.length := by omega
  rw [List.getElem?_eq_getElem hi2] at hd
  replace hd : delF k (n + 1) t = match delF k n t.2[i] with
      | none => none
      | some a => some (if 4 ≤ siz n a then (t.1, t.2.set i a) else fixF t.1 (t.2.set i a) (min i (t.2.length - 2))) := hd
  have row24 := n24.row row (fun h => h)
  refine ldL_row (o := 0 + 1) row24 rfl ?_
  refine Rv.at (k2.keep0 n24) (by omega) (by omega) (v := vs[i]) (by rw [Int.toNat_natCast, List.getElem?_eq_getElem hi3]) ?_
  intro a27 c27
  refine ⟨_, c27, ?_⟩
  have reps0 : Reps h F n t.2 vs := ⟨lv, hsons⟩
  have son : Rep h24 F n t.2[i] vs[i] := (hsons i _ _ (List.getElem?_eq_getElem hi2) (List.getElem?_eq_getElem hi3)).nw n24
  have z24 := n24.size
  have o4 := b4 _ (List.getElem_mem hi2)
  refine IH son (fun b hb => by have := hF b hb; omega) o4 (a4 _ (List.getElem_mem hi2)) ?_ ?_
  · intro e h30 n30
    rw [e] at hd
    exact cnd_t rfl (hn hd h30 (n24.trans' n30))
  · intro A a h30 e n30 ra
    rw [e] at hd
    refine cnd_f rfl ?_
    have n1 : Nw h h30 := n24.trans' n30
    have z30 := n30.size
    have z1 := n1.size
    have row1 := n1.row row (fun h => h)
    refine ldL_row (o := 0) row1 rfl ?_
    refine ldL_row (o := 0 + 1) row1 rfl ?_
    refine cloneS_spec (s := ⟨ka, kl, kc⟩) (k1.keep0 n1) (keysV_one _) (by show kl ≤ _; omega) ?_
    intro rk h36 oK lK nK
    replace lK : rk.len = kl := lK
    refine ⟨ldL_row (o := 0 + 1) (nK.row row1 (fun h => h)) rfl rfl, ?_⟩
    refine cloneN_spec (s := ⟨sa, sl, sc⟩) ((k2.keep0 n1).keep0 nK) reps0.one (by show sl ≤ _; omega) ?_
    intro rv h39 oV lV nV
    replace lV : rv.len = sl := lV
    refine newB_row ?_
    intro h41 s41 row41 k41
    have zK := nK.size
    have zV := nV.size
    have B10 : ∀ b, blk rk.a b → h30.size ≤ b ∧ b < h36.size := fun b hb => ⟨oK.fresh b hb, oK.lt hb⟩
    have B13 : ∀ b, blk rv.a b → h36.size ≤ b ∧ b < h39.size := fun b hb => ⟨oV.fresh b hb, oV.lt hb⟩
    replace oK := (oK.nw nV).nw k41
    replace oV := (oV.up nK.size).nw k41
    refine ldL_row (o := 0 + 1) row41 rfl ?_
    refine oV.idxset (by omega) ra.one.2 ?_
    intro h44 bx z44 hbx oV' k44
    have B := B13 bx hbx
    have n41 : Nw h30 h41 := (nK.trans' nV).trans' k41
    have nI : Nw h30 h44 := Nw.st n41 k44 (by omega)
    have rowI := k44.row row41 (fun e => by have e1 : h39.size = bx := e; omega)
    have oK' := oK.keep k44 (fun b hb e => by have e1 : b = bx := e; have := B10 b hb; omega)
    have zI := nI.size
    have reps : Reps h30 (Fn F h h30) n (t.2.set i A) (vs.set i a) := ((reps0.nw n1).mono (fun b hb => .inl hb)).set (ra.mono (fun b hb => fn_mono z24 (Nat.le_refl _) hb)) i
    have hF1 : ∀ b, Fn F h h30 b → b < h30.size := fun b hb => by
      rcases hb with hb | hb
      · have := hF b hb; omega
      · exact hb.2
    have repI : Reps h44 (Fn F h h30) n (t.2.set i A) (vs.set i a) := reps.nw nI
    have vone : ∀ v ∈ vs.set i a, v.oneCell' = true := reps.one
    have ill : (t.2.set i A).length = t.2.length := List.length_set
    have vil : (vs.set i a).length = vs.length := List.length_set
    have raI : Rep h44 (Fn F h h30) n A a := (ra.nw nI).mono (fun b hb => fn_mono z24 (Nat.le_refl _) hb)
    refine size_spec raI ?_
    refine cnd_dec (fun c => ?_) (fun c => ?_)
    · have c' : 4 ≤ siz n A := by have : ((siz n A : Nat) : Int) ≥ 4 := c; omega
      exact hs _ _ h44 (hd.trans (congrArg some (if_pos c'))) (n1.trans' nI) (rep_inner' rowI (oK'.up z1) (oV'.up z1) (by omega) (repI.mono (fun b hb => fn_mono (Nat.le_refl _) zI hb)))
    · have c' : ¬ 4 ≤ siz n A := fun e => c (by show ((siz n A : Nat) : Int) ≥ 4; omega)
      replace hd := hd.trans (congrArg some (if_neg c'))
      have h3A : Okn 3 n A := delF_ok (lo := 4) k o4 (.inr (by omega)) e
      have o3 : ∀ s ∈ t.2.set i A, Okn 3 n s := fun s hs => by
        rcases List.mem_or_eq_of_mem_set hs with e | e
        · exact (b4 s e).mono (by omega)
        · rw [e]; exact h3A
      obtain ⟨x, y, mid, x1, y1, m1, hf⟩ := fixF_eq (ks := t.1) (ss := t.2.set i A) (j := min i (t.2.length - 2)) (by omega) (by omega)
      rw [hf] at hd
      refine ldL_row (o := 0 + 1) rowI rfl ?_
      have hj : minI (i : Int) (w64 ((rv.len : Int) - 2)) = ((min i (t.2.length - 2) : Nat) : Int) := by
        have e : w64 ((rv.len : Int) - 2) = ((t.2.length - 2 : Nat) : Int) := by rw [w64_id (by omega) (by omega)]; omega
        rw [e, minI_nat]
      simp only [hj]
      have hjl : min i (t.2.length - 2) + 1 < t.2.length := by omega
      generalize min i (t.2.length - 2) = j at x1 y1 m1 hd hjl ⊢
      have w1 : w64 ((j : Int) + 1) = ((j + 1 : Nat) : Int) := by rw [w64_id (by omega) (by omega)]; push_cast; rfl
      have w2 : w64 ((j : Int) + 2) = ((j + 2 : Nat) : Int) := by rw [w64_id (by omega) (by omega)]; push_cast; rfl
      simp only [w1, w2]
      have jv : j < (vs.set i a).length := by omega
      have jv1 : j + 1 < (vs.set i a).length := by omega
      refine ldL_row (o := 0 + 1) rowI rfl ?_
      refine oV'.rv.at (by omega) (by omega) (v := (vs.set i a)[j]) (by rw [Int.toNat_natCast, List.getElem?_eq_getElem jv]) ?_
      intro a50 c50
      refine ⟨_, c50, ?_⟩
      refine ldL_row (o := 0 + 1) rowI rfl ?_
      refine oV'.rv.at (by omega) (by omega) (v := (vs.set i a)[j + 1]) (by rw [Int.toNat_natCast, List.getElem?_eq_getElem jv1]) ?_
      intro a53 c53
      refine ⟨_, c53, ?_⟩
      refine ldL_row (o := 0) rowI rfl ?_
      refine oK'.rv.at (by omega) (by omega) (v := .string mid) (by rw [Int.toNat_natCast, List.getElem?_map, m1]; rfl) ?_
      intro a56 c56
      refine ldS_at c56 ?_
      refine joined_spec (repI.2 j _ _ x1 (List.getElem?_eq_getElem jv)) (repI.2 (j + 1) _ _ y1 (List.getElem?_eq_getElem jv1)) (o3 _ (List.mem_of_getElem? x1)) (o3 _ (List.mem_of_getElem? y1)) ?_
      intro za zb zm h59 n59 rz oz
      have z59 := n59.size
      rcases hq : joinF n x y mid with ⟨z, O⟩
      rw [hq] at rz oz hd
      have nJ : Nw h30 h59 := nI.trans' n59
      have zJ := nJ.size
      have rowJ := n59.row rowI (fun h => h)
      replace oK' := oK'.nw n59
      replace oV' := oV'.nw n59
      have repJ : Reps h59 (Fn (Fn F h h30) h44 h59) n (t.2.set i A) (vs.set i a) := (repI.nw n59).mono (fun b hb => .inl hb)
      have fin : ∀ {h' : Heap}, h59.size ≤ h'.size → Keep (fun b => blk rv.a b ∨ b = h39.size ∨ blk rk.a b ∨ h59.size ≤ b) h59 h' → ∀ {ss : List (T n)} {us : List Value}, Reps h59 (Fn (Fn F h h30) h44 h59) n ss us → Reps h' (Fn F h h') n ss us := by
        intro h' z' kk ss us hr
        refine ⟨hr.1, fun j s w q1 q2 => ((hr.2 j s w q1 q2).keep kk (fun b hb e => ?_)).mono (fun b hb => ?_)⟩
        · have hb' : b < h30.size ∨ (h44.size ≤ b ∧ b < h59.size) := by
            rcases hb with hb | hb
            · exact .inl (hF1 b hb)
            · exact .inr hb
          rcases e with e | e | e | e
          · have := B13 b e; omega
          · omega
          · have := B10 b e; omega
          · omega
        · rcases hb with hb | hb
          · exact fn_mono (Nat.le_refl _) (by omega) hb
          · exact .inr ⟨by have := hb.1; omega, by have := hb.2; omega⟩
      refine withJ.inl ?_
      cases O with
      | none =>
        have oz' : zb = .nilIface := oz
        subst oz'
        refine isNil_t ?_
        refine cnd_t rfl ?_
        refine ldL_row (o := 0 + 1) rowJ rfl ?_
        refine ⟨rz.one.1, newB_row ?_⟩
        intro h66 s66 w66 k66
        refine replace_spec (oV'.nw k66) w66 (fun b hb e => by have := B13 b hb; omega) rz.one.2 vone (by omega) (by omega) (nJ.trans' k66) ?_
        intro r67 h68 o67 l67 n68 k68 b68
        have z68 := n68.size
        have row68 := k68.row (k66.row rowJ (fun h => h)) (fun e => by have := B13 _ e; omega)
        have oK68 := (oK'.nw k66).keep k68 (fun b hb e => by have := B13 b e; have := B10 b hb; omega)
        have zk68 := k68.size
        refine stC_row (b := h39.size) (o := 0 + 1) row68 (by simp) rfl ?_
        intro h69 s69 w69 k69
        have nw69 : Nw h30 h69 := Nw.st n68 k69 (by omega)
        have oK69 := oK68.keep k69 (fun b hb e => by have e1 : b = _ := e; have := B10 b hb; omega)
        have o69 := o67.keep k69 (fun b hb e => by have e1 : b = _ := e; have := B13 b (b68 b hb); omega)
        refine ldL_row (o := 0) w69 rfl ?_
        refine deleteS_spec oK69 (keysV_one _) (by omega) (by omega) nw69 ?_
        intro r71 h72 o71 l71 n72 k72 b72
        have row72 := k72.row w69 (fun e => by have := B10 _ e; omega)
        have o72 := o69.keep k72 (fun b hb e => by have := B10 b e; have := B13 b (b68 b hb); omega)
        have zk72 := k72.size
        refine stC_row (b := h39.size) (o := 0) row72 (by simp) rfl ?_
        intro h73 s73 w73 k73
        have nw73 : Nw h30 h73 := Nw.st n72 k73 (by omega)
        have o71' := o71.keep k73 (fun b hb e => by have e1 : b = _ := e; have := B10 b (b72 b hb); omega)
        have o72' := o72.keep k73 (fun b hb e => by have e1 : b = _ := e; have := B13 b (b68 b hb); omega)
        have kk : Keep (fun b => blk rv.a b ∨ b = h39.size ∨ blk rk.a b ∨ h59.size ≤ b) h59 h73 := by
          have q0 := k66.mono (T := fun b => blk rv.a b ∨ b = h39.size ∨ blk rk.a b ∨ h59.size ≤ b) (fun _ _ e => e.elim)
          have q1 := q0.trans k68 (fun b _ e => .inl e)
          have q2 := q1.trans k69 (fun b _ e => .inr (.inl e))
          have q3 := q2.trans k72 (fun b _ e => .inr (.inr (.inl e)))
          exact q3.trans k73 (fun b _ e => .inr (.inl e))
        exact hs _ _ h73 hd (n1.trans' nw73) (rep_inner' w73 (by unfold keysV; rw [delV]; exact o71'.up z1) (o72'.up z1) (by omega) (fin kk.size kk (Reps.del repJ rz)))
      | some q =>
        obtain ⟨m', w⟩ := q
        obtain ⟨em, rw'⟩ : zm = m' ∧ Rep h59 (Fn (Fn F h h30) h44 h59) n w zb := oz
        subst em
        have isn : ∀ {X : Bool → Prop}, X false → isNilI zb X := fun hX => by
          cases n with
          | zero => obtain ⟨p, ka, kl, kc, va, vl, vc, rfl, _⟩ := rw'; exact hX
          | succ n => obtain ⟨p, ka, kl, kc, sa, sl, sc, vs, rfl, _⟩ := rw'; exact hX
        refine isn ?_
        refine cnd_f rfl ?_
        refine ldL_row (o := 0 + 1) rowJ rfl ?_
        refine ldL_row (o := 0 + 1) rowJ rfl ?_
        refine ldL_row (o := 0) rowJ rfl ?_
        refine oV'.idxset (by omega) rz.one.2 ?_
        intro h78 x78 s78 b78 o78 k78
        have oK78 := oK'.keep k78 (fun b hb e => by have e1 : b = x78 := e; have := B10 b hb; have := B13 _ b78; omega)
        have row78 := k78.row rowJ (fun e => by have e1 : _ = x78 := e; have := B13 _ b78; omega)
        refine o78.idxset (by omega) rw'.one.2 ?_
        intro h80 x80 s80 b80 o80 k80
        have oK80 := oK78.keep k80 (fun b hb e => by have e1 : b = x80 := e; have := B10 b hb; have := B13 _ b80; omega)
        have row80 := k80.row row78 (fun e => by have e1 : _ = x80 := e; have := B13 _ b80; omega)
        refine oK80.idxset (v := .string zm) (by omega) rfl ?_
        intro h82 x82 s82 b82 o82 k82
        have row82 := k82.row row80 (fun e => by have e1 : _ = x82 := e; have := B10 _ b82; omega)
        have o80' := o80.keep k82 (fun b hb e => by have e1 : b = x82 := e; have := B13 b hb; have := B10 _ b82; omega)
        have kk : Keep (fun b => blk rv.a b ∨ b = h39.size ∨ blk rk.a b ∨ h59.size ≤ b) h59 h82 := by
          have q1 := k78.mono (T := fun b => blk rv.a b ∨ b = h39.size ∨ blk rk.a b ∨ h59.size ≤ b) (fun b _ e => by have e1 : b = x78 := e; subst e1; exact .inl b78)
          have q2 := q1.trans k80 (fun b _ e => by have e1 : b = x80 := e; subst e1; exact .inl b80)
          exact q2.trans k82 (fun b _ e => by have e1 : b = x82 := e; subst e1; exact .inr (.inr (.inl b82)))
        have nw82 : Nw h30 h82 := nJ.trans kk (fun b hb e => by
          rcases e with e | e | e | e
          · have := B13 b e; omega
          · omega
          · have := B10 b e; omega
          · omega)
        exact hs _ _ h82 hd (n1.trans' nw82) (rep_inner' row82 (by unfold keysV; rw [List.map_set]; exact o82.up z1) (o80'.up z1) (by omega) (fin kk.size kk ((repJ.set rz j).set rw' (j + 1))))

theorem del_spec (k : Key) : ∀ (n : Nat) {lo : Nat} {h : Heap} {F : Nat → Prop} {v : Value} {t : T n} (hr : Rep h F n t v) (hF : ∀ b, F b → b < h.size) (hok : Okn lo n t) (hlo : n = 0 ∨ 2 ≤ lo) (hA : Srt n t) {R : Value × Bool → Heap → Prop}
    (hn : delF k n t = none → ∀ h', Nw h h' → R (v, false) h') (hs : ∀ (u : T n) a h', delF k n t = some u → Nw h h' → Rep h' (Fn F h h') n u a → R (a, true) h'), CallT Try.prog btree_del_no [v, .string k] h [.sc .raw, .sc .bool] R
  | 0, lo, h, F, v, t, hr, hF, hok, hlo, hA, R, hn, hs => del_leaf_spec hr hA.1 hA.2 hn (fun u a h' e nw ra => hs u a h' e nw (ra.mono (fun _ h => .inr h)))
  | n + 1, lo, h, F, v, t, hr, hF, hok, hlo, hA, R, hn, hs => del_inner (@fun _ _ _ _ hr hF ho hA _ hn hs => del_spec k n (lo := 4) hr hF ho (.inr (by omega)) hA hn hs) hr hF hok (by rcases hlo with e | e <;> omega) hA hn hs
theorem least_of {P : Nat → Prop} : ∀ n, P n → ∃ m, P m ∧ ∀ k, k < m → ¬ P k := by
  intro n
  induction n using Nat.strongRecOn with
  | _ n ih =>
    intro hp
    by_cases c : ∃ k, k < n ∧ P k
    · obtain ⟨k, h1, h2⟩ := c
      exact ih k h1 h2
    · exact ⟨n, hp, fun k hk hpk => c ⟨k, hk, hpk⟩⟩
/-- a loop whose rounds lower a number that the state alone does not tell -/
theorem LoopT.introN {σ : Type} {F : (σ → Heap → Prop) → σ → Heap → Prop} {s : σ} {h : Heap} (I : Nat → σ → Heap → Prop) (h0 : ∃ n, I n s h)
    (hr : ∀ n s h, I n s h → F (fun s' h' => ∃ m, m < n ∧ I m s' h') s h) : LoopT F s h := by
  have key : ∃ μ : σ → Heap → Nat, ∀ s h, (∃ n, I n s h) → I (μ s h) s h ∧ ∀ k, k < μ s h → ¬ I k s h := by
    have h1 : ∀ p : σ × Heap, ∃ m, (∃ n, I n p.1 p.2) → I m p.1 p.2 ∧ ∀ k, k < m → ¬ I k p.1 p.2 := by
      intro p
      by_cases c : ∃ n, I n p.1 p.2
      · obtain ⟨n, hn⟩ := c
        obtain ⟨m, h2, h3⟩ := least_of (P := fun n => I n p.1 p.2) n hn
        exact ⟨m, fun _ => ⟨h2, h3⟩⟩
      · exact ⟨0, fun c' => absurd c' c⟩
    exact ⟨fun s h => Classical.choose (h1 (s, h)), fun s h => Classical.choose_spec (h1 (s, h))⟩
  obtain ⟨μ, hμ⟩ := key
  refine ⟨fun s h => ∃ n, I n s h, μ, h0, ?_⟩
  intro s h hx
  have h1 := hr _ s h (hμ s h hx).1
  have e : (fun s' h' => ∃ m, m < μ s h ∧ I m s' h') = (fun s' h' => (∃ n, I n s' h') ∧ μ s' h' < μ s h) := by
    funext s' h'
    apply propext
    constructor
    · rintro ⟨m, q1, q2⟩
      refine ⟨⟨m, q2⟩, ?_⟩
      have q3 := (hμ s' h' ⟨m, q2⟩).2
      rcases Nat.lt_or_ge m (μ s' h') with q | q
      · exact absurd q2 (q3 m q)
      · omega
    · rintro ⟨q1, q2⟩
      exact ⟨_, q2, (hμ s' h' q1).1⟩
  rw [← e]; exact h1

/-- a whole tree is as it must be -/
def Rt : (n : Nat) → T n → Prop
  | 0, t => Okn 0 0 t ∧ Pw (flat 0 t)
  | n + 1, t => Okn 2 (n + 1) t ∧ Pw (flat (n + 1) t)
def lo0 : Nat → Nat | 0 => 0 | _ + 1 => 2
theorem Rt.ok : ∀ {n : Nat} {t : T n}, Rt n t → Okn (lo0 n) n t
  | 0, _, h => h.1
  | _ + 1, _, h => h.1
theorem Rt.pw : ∀ {n : Nat} {t : T n}, Rt n t → Pw (flat n t)
  | 0, _, h => h.2
  | _ + 1, _, h => h.2
theorem Rt.mk : ∀ {n : Nat} {t : T n} {lo : Nat}, Okn lo n t → lo0 n ≤ lo → Pw (flat n t) → Rt n t
  | 0, _, _, h, hl, hp => ⟨h.mono hl, hp⟩
  | _ + 1, _, _, h, hl, hp => ⟨h.mono hl, hp⟩
theorem lo0_le (n : Nat) : lo0 n ≤ 4 := by cases n <;> simp [lo0]
theorem lo0_or (n : Nat) : n = 0 ∨ 2 ≤ lo0 n := by cases n <;> simp [lo0]
theorem Rt.srt {n : Nat} {t : T n} (h : Rt n t) : Srt n t := srt_of h.ok h.pw
/-- block p is a tree with these pairs; its blocks lie in F -/
def TreeAt (h : Heap) (F : Nat → Prop) (p : Nat) (l : List KV) : Prop := ∃ n t, TRep h F n t p ∧ Rt n t ∧ prs n t = l
theorem TreeAt.keep {h h' : Heap} {F S : Nat → Prop} {p : Nat} {l : List KV} (ht : TreeAt h F p l) (hk : Keep S h h') (hS : ∀ b, F b → ¬ S b) : TreeAt h' F p l := by
  obtain ⟨n, t, r, o, e⟩ := ht
  exact ⟨n, t, r.keep hk hS, o, e⟩
theorem TreeAt.nw {h h' : Heap} {F : Nat → Prop} {p : Nat} {l : List KV} (ht : TreeAt h F p l) (hk : Nw h h') : TreeAt h' F p l := ht.keep hk (fun _ _ h => h)
theorem TreeAt.mono {h : Heap} {F F' : Nat → Prop} {p : Nat} {l : List KV} (ht : TreeAt h F p l) (hF : ∀ b, F b → F' b) : TreeAt h F' p l := by
  obtain ⟨n, t, r, o, e⟩ := ht
  exact ⟨n, t, r.mono hF, o, e⟩
theorem TreeAt.lt {h : Heap} {F : Nat → Prop} {p : Nat} {l : List KV} (ht : TreeAt h F p l) : F p := by
  obtain ⟨n, t, ⟨v, r, f, q⟩, o, e⟩ := ht
  exact f

theorem treeNew {h : Heap} {R : Option Addr → Heap → Prop} (hk : ∀ p h', Nw h h' → TreeAt h' (New h h') p [] → R (some ⟨p, 0, none⟩) h') : CallT Try.prog btree_New_no [] h [.sc .ptr] R :=
  new_spec fun p h' nw hp tr => hk p h' nw ⟨0, _, tr, ⟨⟨by show 0 ≤ _; omega, by show ([] : List KV).length ≤ 8; decide⟩, List.Pairwise.nil⟩, rfl⟩
theorem treeLen {h : Heap} {F : Nat → Prop} {p : Nat} {l : List KV} (ht : TreeAt h F p l) {R : Int → Heap → Prop} (hk : R (l.length : Int) h) : CallT Try.prog btree_Tree_Len_no [.pointer (some ⟨p, 0, none⟩)] h [.sc (.int .i64)] R := by
  obtain ⟨n, t, r, o, e⟩ := ht
  refine len_spec r ?_
  rw [e]; exact hk
theorem treeFrom {h : Heap} {F : Nat → Prop} {p : Nat} {l : List KV} {k : Key} (ht : TreeAt h F p l) (hF : ∀ b, F b → b < h.size) {R : Value → Heap → Prop}
    (hk : ∀ r h', Nw h h' → h'.size = h.size + 2 → SeqC Try.prog r [.str, .str] h' (fun b => F b ∨ b = h.size ∨ b = h.size + 1) (fromKV k l) → R r h') : CallT Try.prog btree_Tree_From_no [.pointer (some ⟨p, 0, none⟩), .string k] h [.sc .raw] R := by
  obtain ⟨n, t, r, o, e⟩ := ht
  refine from_spec r hF o.srt ?_
  intro rv h' nw sz sq
  rw [frm_prs k o.ok o.pw, e] at sq
  exact hk rv h' nw sz sq

/-- what put makes of a whole tree -/
theorem put_root {n : Nat} {t : T n} (h : Rt n t) (k w : Key) : (∀ q, (putF k w n t).1.2 = some q → Rt (n + 1) (([q.1], [(putF k w n t).1.1, q.2]) : T (n + 1)) ∧ prs (n + 1) (([q.1], [(putF k w n t).1.1, q.2]) : T (n + 1)) = insKV k w (prs n t)) ∧
    ((putF k w n t).1.2 = none → Rt n (putF k w n t).1.1 ∧ prs n (putF k w n t).1.1 = insKV k w (prs n t)) := by
  have ok := putF_ok k w h.ok
  have pw := put_ord (A := []) (B := []) k w h.ok (by simpa using h.pw) (fun x hx => by cases hx) (fun x hx => by cases hx)
  have pr := put_prs k w h.ok h.pw
  rcases hq : (putF k w n t).1 with ⟨A, O⟩
  rw [hq] at ok pw pr
  refine ⟨fun q e => ?_, fun e => ?_⟩
  · subst e
    obtain ⟨oa, ob⟩ := ok.1 q rfl
    have e1 : flat (n + 1) (([q.1], [A, q.2]) : T (n + 1)) = flatO n (A, some q) := by
      show flat n A ++ (true, q.1) :: (flat n q.2 ++ []) = flat n A ++ (true, q.1) :: flat n q.2
      rw [List.append_nil]
    refine ⟨⟨⟨rfl, by show 2 ≤ 2; omega, by show 2 ≤ 8; omega, fun s hs => ?_⟩, ?_⟩, ?_⟩
    · rcases List.mem_cons.1 hs with rfl | hs
      · exact oa
      · rcases List.mem_cons.1 hs with rfl | hs
        · exact ob
        · cases hs
    · rw [e1]; simpa using pw
    · rw [← pr]
      show prs n A ++ (prs n q.2 ++ []) = prs n A ++ prs n q.2
      rw [List.append_nil]
  · subst e
    have e1 : flatO n (A, none) = flat n A := List.append_nil _
    have e2 : prsO n (A, none) = prs n A := List.append_nil _
    refine ⟨Rt.mk (ok.2 rfl) (Nat.le_refl _) ?_, ?_⟩
    · rw [e1] at pw; simpa using pw
    · rw [← pr]; exact e2.symm

theorem treePut {h : Heap} {F : Nat → Prop} {p : Nat} {l : List KV} {k w : Key} (ht : TreeAt h F p l) (hF : ∀ b, F b → b < h.size) (hl : l.length ≤ 1000000000000000) {R : Option Addr → Heap → Prop}
    (hk : ∀ p' h', Nw h h' → TreeAt h' (Fn F h h') p' (insKV k w l) → R (some ⟨p', 0, none⟩) h') : CallT Try.prog btree_Tree_Put_no [.pointer (some ⟨p, 0, none⟩), .string k, .string w] h [.sc .ptr] R := by
  obtain ⟨n, t, ⟨v, row, fp, rep⟩, o, e⟩ := ht
  apply btree_Tree_Put_call
  unfold btree_Tree_Put
  refine ⟨v, by rw [row.cells]; rfl, ?_⟩
  refine put_spec k w n rep hF o.srt ?_
  intro a b m h4 n4 ra ob
  have root := put_root o k w
  have len := put_len k w o.ok (t := t)
  rcases hq : putF k w n t with ⟨⟨A, O⟩, more⟩
  rw [hq] at ra ob root len
  simp only at ra ob root len
  have row4 := n4.row row (fun h => h)
  have z4 := n4.size
  refine ldI_row (o := 0 + 1) row4 rfl ?_
  refine ⟨ra.one.1, newB_row ?_⟩
  intro h8 s8 row8 k8
  have lp : (prs n t).length = l.length := by rw [e]
  refine withJ.intro (fun _ h11 => Row h11 h4.size [a, .int .i64 (((prsO n (A, O)).length : Nat) : Int)] ∧ Nw h4 h11) ?_ ?_
  · rintro _ h11 ⟨row11, n11⟩
    have z11 := n11.size
    have hlt := row11.lt
    refine withJ.inl ?_
    cases O with
    | none =>
      have ob' : b = .nilIface := ob
      subst ob'
      refine isNil_t ?_
      refine cnd_f rfl ?_
      obtain ⟨q1, q2⟩ := root.2 rfl
      have e2 : prsO n (A, none) = prs n A := List.append_nil _
      rw [e2] at row11
      exact hk h4.size h11 (n4.trans' n11) ⟨n, A, ⟨a, row11, .inr ⟨z4, hlt⟩, (ra.nw n11).mono (fun b hb => fn_mono (Nat.le_refl _) z11 hb)⟩, q1, by rw [q2, e]⟩
    | some q =>
      obtain ⟨m', B⟩ := q
      obtain ⟨em, rb⟩ : m = m' ∧ Rep h4 (Fn F h h4) n B b := ob
      subst em
      obtain ⟨q1, q2⟩ := root.1 (m, B) rfl
      have isn : ∀ {X : Bool → Prop}, X false → isNilI b X := fun hX => by
        cases n with
        | zero => obtain ⟨p, ka, kl, kc, va, vl, vc, rfl, _⟩ := rb; exact hX
        | succ n => obtain ⟨p, ka, kl, kc, sa, sl, sc, vs, rfl, _⟩ := rb; exact hX
      refine isn ?_
      refine cnd_t rfl ?_
      refine newB_row ?_
      intro h17 s17 w17 k17
      refine ⟨ra.one.1, rb.one.1, newB_row ?_⟩
      intro h19 s19 w19 k19
      refine newB_row ?_
      intro h21 s21 w21 k21
      have n21 : Nw h11 h21 := (k17.trans' k19).trans' k21
      refine stC_row (o := 0) (n21.row row11 (fun h => h)) (by simp) rfl ?_
      intro h22 s22 w22 k22
      have nw : Nw h4 h22 := Nw.st (n11.trans' n21) k22 (by simp)
      have z22 := nw.size
      have kw : ∀ {b : Nat} {cs : List Value}, Row h21 b cs → b ≠ h4.size → Row h22 b cs := fun hr hb => k22.row hr (fun e => hb e)
      have r17 := kw (k21.row (k19.row w17 (fun h => h)) (fun h => h)) (by omega)
      have r19 := kw (k21.row w19 (fun h => h)) (by omega)
      have r21 := kw w21 (by omega)
      have e2 : prs (n + 1) (([m], [A, B]) : T (n + 1)) = prsO n (A, some (m, B)) := by
        show prs n A ++ (prs n B ++ []) = prs n A ++ prs n B
        rw [List.append_nil]
      have rep' : Rep h22 (Fn F h h22) (n + 1) (([m], [A, B]) : T (n + 1)) (.iface inT (.pointer (some ⟨h19.size, 0, none⟩))) := by
        refine ⟨h19.size, _, 1, 1, _, 2, 2, [a, b], rfl, .inr ⟨by omega, r21.lt⟩, r21, rv_row r17 rfl, rv_row r19 rfl, by omega, fun b hb => ?_, fun b hb => ?_, rfl, ?_⟩
        · rw [blk_some] at hb; simp only at hb; subst hb; exact .inr ⟨by omega, r17.lt⟩
        · rw [blk_some] at hb; simp only at hb; subst hb; exact .inr ⟨by omega, r19.lt⟩
        · intro i s w h1 h2
          have ra' := (ra.nw nw).mono (F' := Fn F h h22) (fun b hb => fn_mono (Nat.le_refl _) z22 hb)
          have rb' := (rb.nw nw).mono (F' := Fn F h h22) (fun b hb => fn_mono (Nat.le_refl _) z22 hb)
          cases i with
          | zero => simp at h1 h2; subst h1 h2; exact ra'
          | succ i =>
            cases i with
            | zero => simp at h1 h2; subst h1 h2; exact rb'
            | succ i => simp at h1
      refine hk h4.size h22 (n4.trans' nw) ⟨n + 1, ([m], [A, B]), ⟨_, ?_, .inr ⟨z4, w22.lt⟩, rep'⟩, q1, by rw [q2, e]⟩
      rw [e2]; exact w22
  · intro J hJ
    cases more with
    | true =>
      refine cnd_t rfl ?_
      refine ldI_row (o := 0 + 1) row8 rfl ?_
      refine stC_row (b := h4.size) (o := 0 + 1) row8 (by simp) rfl ?_
      intro h24 s24 w24 k24
      have e3 : w64 (((prs n t).length : Int) + 1) = (((prsO n (A, O)).length : Nat) : Int) := by
        rw [len, lp, w64_id (by omega) (by omega)]; rfl
      rw [e3] at w24
      exact hJ () h24 ⟨w24, Nw.st k8 k24 (Nat.le_refl _)⟩
    | false =>
      refine cnd_f rfl ?_
      have e3 : (prsO n (A, O)).length = (prs n t).length := len
      rw [← e3] at row8
      exact hJ () h8 ⟨row8, k8⟩
theorem isP_or {n : Nat} {h : Heap} {F : Nat → Prop} {t : T n} {v : Value} (hr : Rep h F n t v) {Y : Option Addr → Prop} {N : Prop} (h1 : ∀ m (e : n = m + 1) p, v = .iface inT (.pointer (some ⟨p, 0, none⟩)) → Y (some ⟨p, 0, none⟩)) (h0 : n = 0 → N) : isP v inT Y N := by
  cases n with
  | zero => exact hr.not_inner (h0 rfl)
  | succ n => exact hr.inner (fun p e => h1 n rfl p e)

/-- is the key there? -/
def hasK (k : Key) (l : List KV) : Bool := l.any fun p => decide (p.1 = k)
theorem treeDel {h : Heap} {F : Nat → Prop} {p : Nat} {l : List KV} {k : Key} (ht : TreeAt h F p l) (hF : ∀ b, F b → b < h.size) (hl : l.length ≤ 1000000000000000) {R : Option Addr × Bool → Heap → Prop}
    (hn : hasK k l = false → ∀ h', Nw h h' → R (some ⟨p, 0, none⟩, false) h')
    (hs : hasK k l = true → ∀ p' h', Nw h h' → TreeAt h' (Fn F h h') p' (delKV k l) → (delKV k l).length + 1 = l.length → R (some ⟨p', 0, none⟩, true) h') : CallT Try.prog btree_Tree_Del_no [.pointer (some ⟨p, 0, none⟩), .string k] h [.sc .ptr, .sc .bool] R := by
  obtain ⟨n, t, ⟨v, row, fp, rep⟩, o, e⟩ := ht
  apply btree_Tree_Del_call
  unfold btree_Tree_Del
  refine ⟨v, by rw [row.cells]; rfl, ?_⟩
  have dp := del_prs k o.ok (lo0_or n) o.pw
  rw [e] at dp
  refine del_spec k n rep hF o.ok (lo0_or n) o.srt ?_ ?_
  · intro e1 h4 n4
    refine cnd_t rfl ?_
    refine hn ?_ h4 n4
    unfold hasK
    rw [List.any_eq_false]
    intro q hq
    simpa using dp.1 e1 q hq
  · intro u a h4 e1 n4 ra
    refine cnd_f rfl ?_
    obtain ⟨d1, ⟨q, d2, d3⟩, d4⟩ := dp.2 u e1
    have z4 := n4.size
    have row4 := n4.row row (fun h => h)
    have ok := delF_ok k o.ok (lo0_or n) e1
    have pw := del_ord (A := []) (B := []) k o.ok (lo0_or n) (by simpa using o.pw) e1
    replace pw : Pw (flat n u) := by simpa using pw
    have hh : hasK k l = true := by
      unfold hasK
      rw [List.any_eq_true]
      exact ⟨q, d2, by simpa using d3⟩
    refine withJ.intro (fun (s : Value) h7 => h7 = h4 ∧ ∃ n' t', Rep h4 (Fn F h h4) n' t' s ∧ Rt n' t' ∧ prs n' t' = delKV k l) ?_ ?_
    · rintro s h7 ⟨rfl, n', t', r', o', e'⟩
      refine ldI_row (o := 0 + 1) row4 rfl ?_
      refine ⟨r'.one.1, newB_row ?_⟩
      intro h11 s11 row11 k11
      refine hs hh h7.size h11 (n4.trans' k11) ⟨n', t', ⟨s, ?_, .inr ⟨z4, row11.lt⟩, (r'.nw k11).mono (fun b hb => fn_mono (Nat.le_refl _) k11.size hb)⟩, o', e'⟩ (by rw [← d1]; exact d4)
      have e3 : w64 (((prs n t).length : Int) - 1) = (((prs n' t').length : Nat) : Int) := by
        rw [e', e, ← d1, w64_id (by omega) (by omega)]; omega
      rw [e3] at row11
      exact row11
    · intro J hJ
      refine isP_or ra ?_ ?_
      · rintro m rfl p' ev
        refine withJ.intro (fun (s : Bool) hh => hh = h4 ∧ s = decide (u.2.length = 1)) ?_ ?_
        · rintro s hh ⟨rfl, rfl⟩
          obtain ⟨p2, ka, kl, kc, va, vl, vc, us, ev2, rw2, k1, k2, rs⟩ := Reps.cat ra
          rw [ev] at ev2
          injection ev2 with _ ev2
          injection ev2 with ev2
          injection ev2 with ev2
          injection ev2 with ev2
          subst ev2
          refine cnd_dec (fun c => ?_) (fun c => ?_)
          · refine ldL_row (o := 0 + 1) rw2 rfl ?_
            have l1 := k2.1
            have l2 := rs.1
            have h0 : 0 < us.length := by omega
            refine k2.at (by omega) (by omega) (v := us[0]) (by simp [h0]) ?_
            intro x hx
            refine ⟨_, hx, hJ _ _ ⟨rfl, m, u.2[0]'(by omega), rs.2 0 _ _ (List.getElem?_eq_getElem (by omega)) (List.getElem?_eq_getElem h0), ?_, ?_⟩⟩
            · have hl2 := ok.1
              have pw2 := pw
              rw [flat_self (i := 0) hl2 (by omega)] at pw2
              exact Rt.mk (ok.2.2.2 _ (List.getElem_mem (by omega))) (lo0_le m) (pw_son pw2)
            · rw [← d1]
              show _ = ((u.2).map (prs m)).flatten
              have eu : u.2 = [u.2[0]'(by omega)] := by
                apply List.ext_getElem?
                intro i
                cases i with
                | zero => simp [show 0 < u.2.length by omega]
                | succ i => simp; omega
              conv => rhs; rw [eu]
              simp
          · exact hJ _ _ ⟨rfl, m + 1, u, ra, ⟨ok.up (by
              have h1 := ok.2.1
              have h2 := (delF_ok k o.ok (lo0_or _) e1).2.1
              show 2 ≤ u.2.length
              have : lo0 (m + 1) = 2 := rfl
              omega), pw⟩, d1⟩
        · intro J' hJ'
          obtain ⟨p2, ka, kl, kc, va, vl, vc, us, ev2, rw2, k1, k2, rs⟩ := Reps.cat ra
          rw [ev] at ev2
          injection ev2 with _ ev2
          injection ev2 with ev2
          injection ev2 with ev2
          injection ev2 with ev2
          subst ev2
          refine ldL_row (o := 0 + 1) rw2 rfl ?_
          refine hJ' _ _ ⟨rfl, ?_⟩
          have l1 := k2.1
          have l2 := rs.1
          rw [Bool.eq_iff_iff, beq_iff_eq, decide_eq_true_eq]
          omega
      · rintro rfl
        refine withJ.inl ?_
        refine cnd_f rfl ?_
        exact hJ _ _ ⟨rfl, 0, u, ra, Rt.mk ok (Nat.zero_le _) pw, d1⟩

theorem vals_get (u : List KV) (i : Nat) (hi : i < u.length) : (keysV (u.map (·.2)))[(i : Int).toNat]? = some (.string (u.get ⟨i, hi⟩).2) := by
  rw [Int.toNat_natCast, List.getElem?_map, List.getElem?_map, List.getElem?_eq_getElem hi]; rfl
end Go.Proofs.Ytkgocfaajfaidaa
