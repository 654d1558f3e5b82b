/- Two neighbours put together. -/
import Derived.Test.YtopnljjfpfnhfaaPPut
namespace Go.Proofs.Ytopnljjfpfnhfaa
open Go D
set_option linter.unusedVariables false
set_option linter.unusedSimpArgs false

theorem rv_row {h : Heap} {b n : Nat} {cs : List Value} (hr : Row h b cs) (hn : n = cs.length) : Rv h (some ⟨b, 0, none⟩) n cs := by
  refine ⟨hn, fun i v hv => ⟨_, rfl, rfl, ?_⟩⟩
  rw [add_mk, hr.cells, Nat.zero_add]; exact hv
theorem Reps.cat {h : Heap} {F : Nat → Prop} {n : Nat} {t : T (n + 1)} {v : Value} (hr : Rep h F (n + 1) t v) : ∃ p ka kl kc sa sl sc vs, v = .iface inT (.pointer (some ⟨p, 0, none⟩)) ∧ Row h p [.slice ka kl kc, .slice sa sl sc] ∧ Rv h ka kl (keysV t.1) ∧ Rv h sa sl vs ∧ Reps h F n t.2 vs := by
  obtain ⟨p, ka, kl, kc, sa, sl, sc, vs, e, fp, row, k1, k2, lc, f1, f2, lv, hsons⟩ := hr
  exact ⟨p, ka, kl, kc, sa, sl, sc, vs, e, row, k1, k2, lv, hsons⟩

theorem joined_leaf {h : Heap} {F : Nat → Prop} {v v' : Value} {mid : Key} {x y : List KV} (hx : Rep h F 0 x v) (hy : Rep h F 0 y v') (lx : x.length ≤ 1000000) (ly : y.length ≤ 1000000) {R : Value × Value × ByteArray → Heap → Prop}
    (hkR : ∀ a b m h', Nw h h' → Rep h' (New h h') 0 (cutF (x ++ y)).1 a → Opt h' (New h h') 0 (cutF (x ++ y)).2 m b → R (a, b, m) h') : CallT Try.prog btree_joined_no [v, v', .string mid] h [.sc .raw, .sc .raw, .sc .str] R := by
  have hcall := btree_joined_call v v' mid (R := R) (h := h)
  apply hcall
  clear hcall
  unfold btree_joined
  obtain ⟨p, ka, kl, kc, va, vl, vc, rfl, _, row, k1, k2, _, _⟩ := hx
  obtain ⟨q, ka2, kl2, kc2, va2, vl2, vc2, rfl, _, row2, k3, k4, _, _⟩ := hy
  have len1 : kl = x.length := by have := k1.1; simpa using this
  have len2 : vl = x.length := by have := k2.1; simpa using this
  have len3 : kl2 = y.length := by have := k3.1; simpa using this
  have len4 : vl2 = y.length := by have := k4.1; simpa using this
  refine isP_yes rfl ?_
  refine isP_yes rfl ?_
  have ul : (x ++ y).length = x.length + y.length := List.length_append
  refine withJ.intro (fun (s : Sl × Sl) h5 => Own h h5 1 s.1 (keysV ((x ++ y).map (·.1))) ∧ Own h h5 1 s.2 (keysV ((x ++ y).map (·.2))) ∧ s.1.len = (x ++ y).length ∧ s.2.len = (x ++ y).length ∧ Nw h h5) ?_ ?_
  · rintro ⟨r, r'⟩ h22 ⟨o1, o2, e1, e2, n22⟩
    simp only at o1 o2 e1 e2
    generalize x ++ y = u at o1 o2 e1 e2 hkR ul
    refine cnd_dec (fun c2 => ?_) (fun c2 => ?_)
    · replace c2 : (r.len : Int) ≤ 8 := c2
      have hc : cutF u = (u, none) := by unfold cutF; rw [if_pos (by omega)]; rfl
      rw [hc] at hkR
      refine newB_row ?_
      intro h7 s7 w7 k7
      exact hkR _ _ _ h7 (n22.trans' k7) (rep_leaf' w7 (o1.nw k7) (o2.nw k7) n22.size) rfl
    · replace c2 : ¬ (r.len : Int) ≤ 8 := c2
      have hc : cutF u = (u.take (u.length / 2), some ((u[u.length / 2]?.map (·.1)).getD ⟨#[]⟩, u.drop (u.length / 2))) := by unfold cutF; rw [if_neg (by omega)]; rfl
      rw [hc] at hkR
      refine withJ.inl ?_
      have hh : w64 ((r.len : Int).tdiv 2) = ((u.length / 2 : Nat) : Int) := by rw [half_is (by omega), e1]
      simp only [hh]
      generalize hH : u.length / 2 = H at hkR ⊢
      refine o1.rv.lo (by omega) o1.le ?_
      intro o11 c11 rvA
      refine o2.rv.lo (by omega) o2.le ?_
      intro o12 c12 rvB
      refine o1.rv.hi (by omega) o1.le ?_
      intro o13 c13 rvC
      refine o2.rv.hi (by omega) o2.le ?_
      intro o14 c14 rvD
      have hHl : H < u.length := by omega
      refine o1.rv.at (by omega) (by omega) (v := .string u[H].1) (by rw [Int.toNat_natCast, List.getElem?_map, List.getElem?_map, List.getElem?_eq_getElem hHl]; rfl) ?_
      intro a37 c37
      refine ldS_at c37 ?_
      rw [List.getElem?_eq_getElem hHl] at hkR
      have n0 : Nw h22 h22 := Keep.refl _ _
      have fin : ∀ {p q : Nat} {h' : Heap} {a b c d : Sl}, Nw h22 h' → h22.size ≤ p → Row h' p [.slice a.a a.len a.cap, .slice b.a b.len b.cap] → h22.size ≤ q → Row h' q [.slice c.a c.len c.cap, .slice d.a d.len d.cap] → Own h22 h' 1 a ((keysV (u.map (·.1))).take H) → Own h22 h' 1 b ((keysV (u.map (·.2))).take H) → Own h22 h' 1 c ((keysV (u.map (·.1))).drop H) → Own h22 h' 1 d ((keysV (u.map (·.2))).drop H) →
          R (.iface lfT (.pointer (some ⟨p, 0, none⟩)), .iface lfT (.pointer (some ⟨q, 0, none⟩)), u[H].1) h' := by
        intro p q h' a b c d nw zp rp zq rq oa ob oc od
        have z22 := n22.size
        refine hkR _ _ _ h' (n22.trans' nw) ((rep_leaf' rp (t := u.take H) ?_ ?_ zp).mono (fun b hb => new_mono z22 (Nat.le_refl _) hb)) ⟨rfl, (rep_leaf' rq (t := u.drop H) ?_ ?_ zq).mono (fun b hb => new_mono z22 (Nat.le_refl _) hb)⟩
        · unfold keysV at oa ⊢; rw [List.map_take, List.map_take]; exact oa
        · unfold keysV at ob ⊢; rw [List.map_take, List.map_take]; exact ob
        · unfold keysV at oc ⊢; rw [List.map_drop, List.map_drop]; exact oc
        · unfold keysV at od ⊢; rw [List.map_drop, List.map_drop]; exact od
      refine cloneS_spec (s := ⟨o11, _, c11⟩) (rvA.keep0 n0) (fun v hv => keysV_one _ v (List.mem_of_mem_take hv)) (by dsimp only; omega) ?_
      intro r17 h18 o18 l18 k18
      replace o18 := o18.up n0.size
      have n18 := n0.trans' k18
      refine ⟨by first | exact ldS_at (n18.cell c37 (fun h => h)) rfl, ?_⟩
      refine cloneS_spec (s := ⟨o12, _, c12⟩) (rvB.keep0 n18) (fun v hv => keysV_one _ v (List.mem_of_mem_take hv)) (by dsimp only; omega) ?_
      intro r20 h21 o21 l21 k21
      replace o21 := o21.up n18.size
      have n21 := n18.trans' k21
      refine ⟨by first | exact ldS_at (n21.cell c37 (fun h => h)) rfl, ?_⟩
      refine ⟨?_, ?_⟩
      · refine newB_row ?_
        intro h24 s24 w24 k24
        have z24 := n21.size
        have n24 := n21.trans' k24
        refine ⟨by first | exact ldS_at (n24.cell c37 (fun h => h)) rfl, ?_⟩
        refine cloneS_spec (s := ⟨o13, _, c13⟩) (rvC.keep0 n24) (fun v hv => keysV_one _ v (List.mem_of_mem_drop hv)) (by dsimp only; omega) ?_
        intro r26 h27 o27 l27 k27
        replace o27 := o27.up n24.size
        have n27 := n24.trans' k27
        refine ⟨by first | exact ldS_at (n27.cell c37 (fun h => h)) rfl, ?_⟩
        refine cloneS_spec (s := ⟨o14, _, c14⟩) (rvD.keep0 n27) (fun v hv => keysV_one _ v (List.mem_of_mem_drop hv)) (by dsimp only; omega) ?_
        intro r29 h30 o30 l30 k30
        replace o30 := o30.up n27.size
        have n30 := n27.trans' k30
        refine ⟨by first | exact ldS_at (n30.cell c37 (fun h => h)) rfl, ?_⟩
        refine ⟨?_, ?_⟩
        · refine newB_row ?_
          intro h33 s33 w33 k33
          have z33 := n30.size
          have n33 := n30.trans' k33
          refine ⟨by first | exact ldS_at (n33.cell c37 (fun h => h)) rfl, ?_⟩
          exact fin n33 z24 (k33.row (k30.row (k27.row w24 (fun h => h)) (fun h => h)) (fun h => h)) z33 w33 (((((o18.nw k21).nw k24).nw k27).nw k30).nw k33) ((((o21.nw k24).nw k27).nw k30).nw k33) ((o27.nw k30).nw k33) (o30.nw k33)
        · refine newB_row ?_
          intro h36 s36 w36 k36
          have z36 := n30.size
          have n36 := n30.trans' k36
          refine ⟨by first | exact ldS_at (n36.cell c37 (fun h => h)) rfl, ?_⟩
          exact fin n36 z24 (k36.row (k30.row (k27.row w24 (fun h => h)) (fun h => h)) (fun h => h)) z36 w36 (((((o18.nw k21).nw k24).nw k27).nw k30).nw k36) ((((o21.nw k24).nw k27).nw k30).nw k36) ((o27.nw k30).nw k36) (o30.nw k36)
      · refine cloneS_spec (s := ⟨o13, _, c13⟩) (rvC.keep0 n21) (fun v hv => keysV_one _ v (List.mem_of_mem_drop hv)) (by dsimp only; omega) ?_
        intro r38 h39 o39 l39 k39
        replace o39 := o39.up n21.size
        have n39 := n21.trans' k39
        refine ⟨by first | exact ldS_at (n39.cell c37 (fun h => h)) rfl, ?_⟩
        refine ⟨?_, ?_⟩
        · refine newB_row ?_
          intro h42 s42 w42 k42
          have z42 := n39.size
          have n42 := n39.trans' k42
          refine ⟨by first | exact ldS_at (n42.cell c37 (fun h => h)) rfl, ?_⟩
          refine cloneS_spec (s := ⟨o14, _, c14⟩) (rvD.keep0 n42) (fun v hv => keysV_one _ v (List.mem_of_mem_drop hv)) (by dsimp only; omega) ?_
          intro r44 h45 o45 l45 k45
          replace o45 := o45.up n42.size
          have n45 := n42.trans' k45
          refine ⟨by first | exact ldS_at (n45.cell c37 (fun h => h)) rfl, ?_⟩
          refine ⟨?_, ?_⟩
          · refine newB_row ?_
            intro h48 s48 w48 k48
            have z48 := n45.size
            have n48 := n45.trans' k48
            refine ⟨by first | exact ldS_at (n48.cell c37 (fun h => h)) rfl, ?_⟩
            exact fin n48 z42 (k48.row (k45.row w42 (fun h => h)) (fun h => h)) z48 w48 (((((o18.nw k21).nw k39).nw k42).nw k45).nw k48) ((((o21.nw k39).nw k42).nw k45).nw k48) (((o39.nw k42).nw k45).nw k48) (o45.nw k48)
          · refine newB_row ?_
            intro h51 s51 w51 k51
            have z51 := n45.size
            have n51 := n45.trans' k51
            refine ⟨by first | exact ldS_at (n51.cell c37 (fun h => h)) rfl, ?_⟩
            exact fin n51 z42 (k51.row (k45.row w42 (fun h => h)) (fun h => h)) z51 w51 (((((o18.nw k21).nw k39).nw k42).nw k45).nw k51) ((((o21.nw k39).nw k42).nw k45).nw k51) (((o39.nw k42).nw k45).nw k51) (o45.nw k51)
        · refine cloneS_spec (s := ⟨o14, _, c14⟩) (rvD.keep0 n39) (fun v hv => keysV_one _ v (List.mem_of_mem_drop hv)) (by dsimp only; omega) ?_
          intro r53 h54 o54 l54 k54
          replace o54 := o54.up n39.size
          have n54 := n39.trans' k54
          refine ⟨by first | exact ldS_at (n54.cell c37 (fun h => h)) rfl, ?_⟩
          refine ⟨?_, ?_⟩
          · refine newB_row ?_
            intro h57 s57 w57 k57
            have z57 := n54.size
            have n57 := n54.trans' k57
            refine ⟨by first | exact ldS_at (n57.cell c37 (fun h => h)) rfl, ?_⟩
            refine ⟨?_, ?_⟩
            · refine newB_row ?_
              intro h60 s60 w60 k60
              have z60 := n57.size
              have n60 := n57.trans' k60
              refine ⟨by first | exact ldS_at (n60.cell c37 (fun h => h)) rfl, ?_⟩
              exact fin n60 z57 (k60.row w57 (fun h => h)) z60 w60 (((((o18.nw k21).nw k39).nw k54).nw k57).nw k60) ((((o21.nw k39).nw k54).nw k57).nw k60) (((o39.nw k54).nw k57).nw k60) ((o54.nw k57).nw k60)
            · refine newB_row ?_
              intro h63 s63 w63 k63
              have z63 := n57.size
              have n63 := n57.trans' k63
              refine ⟨by first | exact ldS_at (n63.cell c37 (fun h => h)) rfl, ?_⟩
              exact fin n63 z57 (k63.row w57 (fun h => h)) z63 w63 (((((o18.nw k21).nw k39).nw k54).nw k57).nw k63) ((((o21.nw k39).nw k54).nw k57).nw k63) (((o39.nw k54).nw k57).nw k63) ((o54.nw k57).nw k63)
          · refine newB_row ?_
            intro h66 s66 w66 k66
            have z66 := n54.size
            have n66 := n54.trans' k66
            refine ⟨by first | exact ldS_at (n66.cell c37 (fun h => h)) rfl, ?_⟩
            refine newB_row ?_
            intro h69 s69 w69 k69
            have z69 := n66.size
            have n69 := n66.trans' k69
            refine ⟨by first | exact ldS_at (n69.cell c37 (fun h => h)) rfl, ?_⟩
            exact fin n69 z69 w69 z66 (k69.row w66 (fun h => h)) (((((o18.nw k21).nw k39).nw k54).nw k66).nw k69) ((((o21.nw k39).nw k54).nw k66).nw k69) (((o39.nw k54).nw k66).nw k69) ((o54.nw k66).nw k69)
  · intro J hJ
    refine ldL_row (o := 0) row rfl ?_
    refine ldL_row (o := 0) row2 rfl ?_
    refine ldL_row (o := 0 + 1) row rfl ?_
    refine ldL_row (o := 0 + 1) row2 rfl ?_
    have n0 : Nw h h := Keep.refl _ _
    have hxK : ∀ {h' : Heap}, Nw h h' → ∀ p ∈ [((⟨ka, kl, kc⟩ : Sl), keysV (x.map (·.1))), (⟨ka2, kl2, kc2⟩, keysV (y.map (·.1)))], Rv h' p.1.a p.1.len p.2 ∧ p.1.len ≤ 1000000 ∧ ∀ v ∈ p.2, v.oneCell' = true := by
      intro h' nw p hp
      simp only [List.mem_cons, List.not_mem_nil, or_false] at hp
      rcases hp with rfl | rfl
      · exact ⟨k1.keep0 nw, by dsimp only; omega, keysV_one _⟩
      · exact ⟨k3.keep0 nw, by dsimp only; omega, keysV_one _⟩
    have hxV : ∀ {h' : Heap}, Nw h h' → ∀ p ∈ [((⟨va, vl, vc⟩ : Sl), keysV (x.map (·.2))), (⟨va2, vl2, vc2⟩, keysV (y.map (·.2)))], Rv h' p.1.a p.1.len p.2 ∧ p.1.len ≤ 1000000 ∧ ∀ v ∈ p.2, v.oneCell' = true := by
      intro h' nw p hp
      simp only [List.mem_cons, List.not_mem_nil, or_false] at hp
      rcases hp with rfl | rfl
      · exact ⟨k2.keep0 nw, by dsimp only; omega, keysV_one _⟩
      · exact ⟨k4.keep0 nw, by dsimp only; omega, keysV_one _⟩
    have fin : ∀ {r r' : Sl} {h' : Heap}, Nw h h' → Own h h' 1 r (flatL [((⟨ka, kl, kc⟩ : Sl), keysV (x.map (·.1))), (⟨ka2, kl2, kc2⟩, keysV (y.map (·.1)))]) → r.len = sumL [((⟨ka, kl, kc⟩ : Sl), keysV (x.map (·.1))), (⟨ka2, kl2, kc2⟩, keysV (y.map (·.1)))] → Own h h' 1 r' (flatL [((⟨va, vl, vc⟩ : Sl), keysV (x.map (·.2))), (⟨va2, vl2, vc2⟩, keysV (y.map (·.2)))]) → r'.len = sumL [((⟨va, vl, vc⟩ : Sl), keysV (x.map (·.2))), (⟨va2, vl2, vc2⟩, keysV (y.map (·.2)))] → J (r, r') h' := by
      intro r r' h' nw q1 q2 q3 q4
      refine hJ (r, r') h' ⟨?_, ?_, ?_, ?_, nw⟩
      · have e : keysV ((x ++ y).map (·.1)) = flatL [((⟨ka, kl, kc⟩ : Sl), keysV (x.map (·.1))), (⟨ka2, kl2, kc2⟩, keysV (y.map (·.1)))] := by simp [flatL, keysV]
        rw [e]; exact q1
      · have e : keysV ((x ++ y).map (·.2)) = flatL [((⟨va, vl, vc⟩ : Sl), keysV (x.map (·.2))), (⟨va2, vl2, vc2⟩, keysV (y.map (·.2)))] := by simp [flatL, keysV]
        rw [e]; exact q3
      · show r.len = _; rw [q2]; simp [sumL]; omega
      · show r'.len = _; rw [q4]; simp [sumL]; omega
    refine ⟨?_, ?_⟩
    · refine newB_row ?_
      intro h80 s80 w80 k80
      have n80 := n0.trans' k80
      refine ⟨by first | exact ldL_row (o := 0) (n80.row row (fun h => h)) rfl rfl | exact ldL_row (o := 0) (n80.row row2 (fun h => h)) rfl rfl | exact ldL_row (o := 0 + 1) (n80.row row (fun h => h)) rfl rfl | exact ldL_row (o := 0 + 1) (n80.row row2 (fun h => h)) rfl rfl, ?_⟩
      refine ⟨by first | exact ldL_row (o := 0) (n80.row row (fun h => h)) rfl rfl | exact ldL_row (o := 0) (n80.row row2 (fun h => h)) rfl rfl | exact ldL_row (o := 0 + 1) (n80.row row (fun h => h)) rfl rfl | exact ldL_row (o := 0 + 1) (n80.row row2 (fun h => h)) rfl rfl, ?_⟩
      refine ⟨?_, ?_⟩
      · refine concatS_spec (rv_row w80 rfl) (hxK n80) (Nat.le_of_ble_eq_true rfl) ?_
        intro r83 h84 o84 l84 k84
        replace o84 := o84.up n80.size
        have n84 := n80.trans' k84
        refine ⟨by first | exact ldL_row (o := 0) (n84.row row (fun h => h)) rfl rfl | exact ldL_row (o := 0) (n84.row row2 (fun h => h)) rfl rfl | exact ldL_row (o := 0 + 1) (n84.row row (fun h => h)) rfl rfl | exact ldL_row (o := 0 + 1) (n84.row row2 (fun h => h)) rfl rfl, ?_⟩
        refine ⟨by first | exact ldL_row (o := 0) (n84.row row (fun h => h)) rfl rfl | exact ldL_row (o := 0) (n84.row row2 (fun h => h)) rfl rfl | exact ldL_row (o := 0 + 1) (n84.row row (fun h => h)) rfl rfl | exact ldL_row (o := 0 + 1) (n84.row row2 (fun h => h)) rfl rfl, ?_⟩
        refine newB_row ?_
        intro h88 s88 w88 k88
        have n88 := n84.trans' k88
        refine concatS_spec (rv_row w88 rfl) (hxV n88) (Nat.le_of_ble_eq_true rfl) ?_
        intro r89 h90 o90 l90 k90
        replace o90 := o90.up n88.size
        have n90 := n88.trans' k90
        exact fin n90 ((o84.nw k88).nw k90) l84 o90 l90
      · refine newB_row ?_
        intro h92 s92 w92 k92
        have n92 := n80.trans' k92
        refine concatS_spec (rv_row (k92.row w80 (fun h => h)) rfl) (hxK n92) (Nat.le_of_ble_eq_true rfl) ?_
        intro r93 h94 o94 l94 k94
        replace o94 := o94.up n92.size
        have n94 := n92.trans' k94
        refine concatS_spec (rv_row (k94.row w92 (fun h => h)) rfl) (hxV n94) (Nat.le_of_ble_eq_true rfl) ?_
        intro r95 h96 o96 l96 k96
        replace o96 := o96.up n94.size
        have n96 := n94.trans' k96
        exact fin n96 (o94.nw k96) l94 o96 l96
    · refine newB_row ?_
      intro h98 s98 w98 k98
      have n98 := n0.trans' k98
      refine ⟨by first | exact ldL_row (o := 0) (n98.row row (fun h => h)) rfl rfl | exact ldL_row (o := 0) (n98.row row2 (fun h => h)) rfl rfl | exact ldL_row (o := 0 + 1) (n98.row row (fun h => h)) rfl rfl | exact ldL_row (o := 0 + 1) (n98.row row2 (fun h => h)) rfl rfl, ?_⟩
      refine ⟨by first | exact ldL_row (o := 0) (n98.row row (fun h => h)) rfl rfl | exact ldL_row (o := 0) (n98.row row2 (fun h => h)) rfl rfl | exact ldL_row (o := 0 + 1) (n98.row row (fun h => h)) rfl rfl | exact ldL_row (o := 0 + 1) (n98.row row2 (fun h => h)) rfl rfl, ?_⟩
      refine newB_row ?_
      intro h102 s102 w102 k102
      have n102 := n98.trans' k102
      refine concatS_spec (rv_row w102 rfl) (hxK n102) (Nat.le_of_ble_eq_true rfl) ?_
      intro r103 h104 o104 l104 k104
      replace o104 := o104.up n102.size
      have n104 := n102.trans' k104
      refine concatS_spec (rv_row (k104.row (k102.row w98 (fun h => h)) (fun h => h)) rfl) (hxV n104) (Nat.le_of_ble_eq_true rfl) ?_
      intro r105 h106 o106 l106 k106
      replace o106 := o106.up n104.size
      have n106 := n104.trans' k106
      exact fin n106 (o104.nw k106) l104 o106 l106

theorem joined_inner {n : Nat} {h : Heap} {F : Nat → Prop} {v v' : Value} {mid : Key} {x y : T (n + 1)} (hx : Rep h F (n + 1) x v) (hy : Rep h F (n + 1) y v') (lx : x.2.length ≤ 100000) (lx2 : x.2.length = x.1.length + 1) (ly : y.2.length ≤ 100000) (ly2 : y.2.length = y.1.length + 1) {R : Value × Value × ByteArray → Heap → Prop}
    (hkR : ∀ a b m h', Nw h h' → Rep h' (Fn F h h') (n + 1) (cutN (x.1 ++ mid :: y.1) (x.2 ++ y.2)).1 a → Opt h' (Fn F h h') (n + 1) (cutN (x.1 ++ mid :: y.1) (x.2 ++ y.2)).2 m b → R (a, b, m) h') : CallT Try.prog btree_joined_no [v, v', .string mid] h [.sc .raw, .sc .raw, .sc .str] R := by
  have hcall := btree_joined_call v v' mid (R := R) (h := h)
  apply hcall
  clear hcall
  unfold btree_joined
  obtain ⟨p, ka, kl, kc, va, vl, vc, us1, rfl, row, k1, k2, rs1⟩ := Reps.cat hx
  obtain ⟨q, ka2, kl2, kc2, va2, vl2, vc2, us2, rfl, row2, k3, k4, rs2⟩ := Reps.cat hy
  have len1 : kl = x.1.length := by have := k1.1; simpa using this
  have len2 : vl = x.2.length := by have := k2.1; have := rs1.1; omega
  have len3 : kl2 = y.1.length := by have := k3.1; simpa using this
  have len4 : vl2 = y.2.length := by have := k4.1; have := rs2.1; omega
  refine isP_no rfl ?_
  refine isP_yes rfl ?_
  refine isP_yes rfl ?_
  have ul : (x.1 ++ mid :: y.1).length = x.1.length + y.1.length + 1 := by simp; omega
  have ul2 : (x.2 ++ y.2).length = x.2.length + y.2.length := List.length_append
  have reps := rs1.append rs2
  refine withJ.intro (fun (s : Sl × Sl) h5 => Own h h5 1 s.1 (keysV (x.1 ++ mid :: y.1)) ∧ Own h h5 1 s.2 (us1 ++ us2) ∧ s.1.len = (x.1 ++ mid :: y.1).length ∧ s.2.len = (x.2 ++ y.2).length ∧ Nw h h5) ?_ ?_
  · rintro ⟨r, r'⟩ h22 ⟨o1, o2, e1, e2, n22⟩
    simp only at o1 o2 e1 e2
    have z0 := n22.size
    have repsI : Reps h22 (Fn F h h22) n (x.2 ++ y.2) (us1 ++ us2) := (reps.nw n22).mono (fun b hb => .inl hb)
    generalize x.1 ++ mid :: y.1 = ks at o1 e1 hkR ul
    generalize x.2 ++ y.2 = ss at e2 hkR ul2 repsI
    generalize us1 ++ us2 = us at o2 repsI
    have vone : ∀ v ∈ us, v.oneCell' = true := repsI.one
    refine cnd_dec (fun c2 => ?_) (fun c2 => ?_)
    · replace c2 : (r'.len : Int) ≤ 8 := c2
      rw [cutN_one (by omega)] at hkR
      refine newB_row ?_
      intro h7 s7 w7 k7
      exact hkR _ _ _ h7 (n22.trans' k7) (rep_inner' w7 (o1.nw k7) (o2.nw k7) n22.size ((repsI.nw k7).mono (fun b hb => fn_mono (Nat.le_refl _) k7.size hb))) rfl
    · replace c2 : ¬ (r'.len : Int) ≤ 8 := c2
      rw [cutN_two (by omega)] at hkR
      refine withJ.inl ?_
      have hh : w64 ((r'.len : Int).tdiv 2) = ((ss.length / 2 : Nat) : Int) := by rw [half_is (by omega), e2]
      have hh2 : w64 (((ss.length / 2 : Nat) : Int) - 1) = ((ss.length / 2 - 1 : Nat) : Int) := by rw [w64_id (by omega) (by omega)]; omega
      simp only [hh, hh2]
      have hH2 : 1 ≤ ss.length / 2 := by omega
      have hH3 : ss.length / 2 ≤ ks.length := by omega
      have hH4 : ss.length / 2 ≤ ss.length := by omega
      generalize ss.length / 2 = H at hkR hH2 hH3 hH4 ⊢
      refine o1.rv.lo (by omega) o1.le ?_
      intro o117 c117 rvA
      refine o2.rv.lo (by omega) o2.le ?_
      intro o118 c118 rvB
      refine o1.rv.hi (by omega) o1.le ?_
      intro o119 c119 rvC
      refine o2.rv.hi (by omega) o2.le ?_
      intro o120 c120 rvD
      have hHl : H - 1 < ks.length := by omega
      refine o1.rv.at (by omega) (by omega) (v := .string ks[H - 1]) (by rw [Int.toNat_natCast, List.getElem?_map, List.getElem?_eq_getElem hHl]; rfl) ?_
      intro a37 c37
      refine ldS_at c37 ?_
      rw [List.getElem?_eq_getElem hHl] at hkR
      have n0 : Nw h22 h22 := Keep.refl _ _
      have fin : ∀ {p q : Nat} {h' : Heap} {a b c d : Sl}, Nw h22 h' → h22.size ≤ p → Row h' p [.slice a.a a.len a.cap, .slice b.a b.len b.cap] → h22.size ≤ q → Row h' q [.slice c.a c.len c.cap, .slice d.a d.len d.cap] → Own h22 h' 1 a ((keysV ks).take (H - 1)) → Own h22 h' 1 b (us.take H) → Own h22 h' 1 c ((keysV ks).drop H) → Own h22 h' 1 d (us.drop H) →
          R (.iface inT (.pointer (some ⟨p, 0, none⟩)), .iface inT (.pointer (some ⟨q, 0, none⟩)), ks[H - 1]) h' := by
        intro p q h' a b c d nw zp rp zq rq oa ob oc od
        have z22 := n22.size
        have zn := nw.size
        have rI : Reps h' (Fn F h h') n ss us := (repsI.nw nw).mono (fun b hb => fn_mono (Nat.le_refl _) zn hb)
        refine hkR _ _ _ h' (n22.trans' nw) (rep_inner' rp (ks := ks.take (H - 1)) (ss := ss.take H) ?_ (ob.up z22) (by omega) (rI.take H)) ⟨rfl, rep_inner' rq (ks := ks.drop H) (ss := ss.drop H) ?_ (od.up z22) (by omega) (rI.drop H)⟩
        · unfold keysV at oa ⊢; rw [List.map_take]; exact oa.up z22
        · unfold keysV at oc ⊢; rw [List.map_drop]; exact oc.up z22
      refine cloneS_spec (s := ⟨o117, _, c117⟩) (rvA.keep0 n0) (fun v hv => keysV_one _ v (List.mem_of_mem_take hv)) (by dsimp only; omega) ?_
      intro r123 h124 o124 l124 k124
      replace o124 := o124.up n0.size
      have n124 := n0.trans' k124
      refine ⟨by first | exact ldS_at (n124.cell c37 (fun h => h)) rfl, ?_⟩
      refine cloneN_spec (s := ⟨o118, _, c118⟩) (rvB.keep0 n124) (fun v hv => vone v (List.mem_of_mem_take hv)) (by dsimp only; omega) ?_
      intro r126 h127 o127 l127 k127
      replace o127 := o127.up n124.size
      have n127 := n124.trans' k127
      refine ⟨by first | exact ldS_at (n127.cell c37 (fun h => h)) rfl, ?_⟩
      refine ⟨?_, ?_⟩
      · refine newB_row ?_
        intro h130 s130 w130 k130
        have z130 := n127.size
        have n130 := n127.trans' k130
        refine ⟨by first | exact ldS_at (n130.cell c37 (fun h => h)) rfl, ?_⟩
        refine cloneS_spec (s := ⟨o119, _, c119⟩) (rvC.keep0 n130) (fun v hv => keysV_one _ v (List.mem_of_mem_drop hv)) (by dsimp only; omega) ?_
        intro r132 h133 o133 l133 k133
        replace o133 := o133.up n130.size
        have n133 := n130.trans' k133
        refine ⟨by first | exact ldS_at (n133.cell c37 (fun h => h)) rfl, ?_⟩
        refine cloneN_spec (s := ⟨o120, _, c120⟩) (rvD.keep0 n133) (fun v hv => vone v (List.mem_of_mem_drop hv)) (by dsimp only; omega) ?_
        intro r135 h136 o136 l136 k136
        replace o136 := o136.up n133.size
        have n136 := n133.trans' k136
        refine ⟨by first | exact ldS_at (n136.cell c37 (fun h => h)) rfl, ?_⟩
        refine ⟨?_, ?_⟩
        · refine newB_row ?_
          intro h139 s139 w139 k139
          have z139 := n136.size
          have n139 := n136.trans' k139
          refine ⟨by first | exact ldS_at (n139.cell c37 (fun h => h)) rfl, ?_⟩
          exact fin n139 z130 (k139.row (k136.row (k133.row w130 (fun h => h)) (fun h => h)) (fun h => h)) z139 w139 (((((o124.nw k127).nw k130).nw k133).nw k136).nw k139) ((((o127.nw k130).nw k133).nw k136).nw k139) ((o133.nw k136).nw k139) (o136.nw k139)
        · refine newB_row ?_
          intro h142 s142 w142 k142
          have z142 := n136.size
          have n142 := n136.trans' k142
          refine ⟨by first | exact ldS_at (n142.cell c37 (fun h => h)) rfl, ?_⟩
          exact fin n142 z130 (k142.row (k136.row (k133.row w130 (fun h => h)) (fun h => h)) (fun h => h)) z142 w142 (((((o124.nw k127).nw k130).nw k133).nw k136).nw k142) ((((o127.nw k130).nw k133).nw k136).nw k142) ((o133.nw k136).nw k142) (o136.nw k142)
      · refine cloneS_spec (s := ⟨o119, _, c119⟩) (rvC.keep0 n127) (fun v hv => keysV_one _ v (List.mem_of_mem_drop hv)) (by dsimp only; omega) ?_
        intro r144 h145 o145 l145 k145
        replace o145 := o145.up n127.size
        have n145 := n127.trans' k145
        refine ⟨by first | exact ldS_at (n145.cell c37 (fun h => h)) rfl, ?_⟩
        refine ⟨?_, ?_⟩
        · refine newB_row ?_
          intro h148 s148 w148 k148
          have z148 := n145.size
          have n148 := n145.trans' k148
          refine ⟨by first | exact ldS_at (n148.cell c37 (fun h => h)) rfl, ?_⟩
          refine cloneN_spec (s := ⟨o120, _, c120⟩) (rvD.keep0 n148) (fun v hv => vone v (List.mem_of_mem_drop hv)) (by dsimp only; omega) ?_
          intro r150 h151 o151 l151 k151
          replace o151 := o151.up n148.size
          have n151 := n148.trans' k151
          refine ⟨by first | exact ldS_at (n151.cell c37 (fun h => h)) rfl, ?_⟩
          refine ⟨?_, ?_⟩
          · refine newB_row ?_
            intro h154 s154 w154 k154
            have z154 := n151.size
            have n154 := n151.trans' k154
            refine ⟨by first | exact ldS_at (n154.cell c37 (fun h => h)) rfl, ?_⟩
            exact fin n154 z148 (k154.row (k151.row w148 (fun h => h)) (fun h => h)) z154 w154 (((((o124.nw k127).nw k145).nw k148).nw k151).nw k154) ((((o127.nw k145).nw k148).nw k151).nw k154) (((o145.nw k148).nw k151).nw k154) (o151.nw k154)
          · refine newB_row ?_
            intro h157 s157 w157 k157
            have z157 := n151.size
            have n157 := n151.trans' k157
            refine ⟨by first | exact ldS_at (n157.cell c37 (fun h => h)) rfl, ?_⟩
            exact fin n157 z148 (k157.row (k151.row w148 (fun h => h)) (fun h => h)) z157 w157 (((((o124.nw k127).nw k145).nw k148).nw k151).nw k157) ((((o127.nw k145).nw k148).nw k151).nw k157) (((o145.nw k148).nw k151).nw k157) (o151.nw k157)
        · refine cloneN_spec (s := ⟨o120, _, c120⟩) (rvD.keep0 n145) (fun v hv => vone v (List.mem_of_mem_drop hv)) (by dsimp only; omega) ?_
          intro r159 h160 o160 l160 k160
          replace o160 := o160.up n145.size
          have n160 := n145.trans' k160
          refine ⟨by first | exact ldS_at (n160.cell c37 (fun h => h)) rfl, ?_⟩
          refine ⟨?_, ?_⟩
          · refine newB_row ?_
            intro h163 s163 w163 k163
            have z163 := n160.size
            have n163 := n160.trans' k163
            refine ⟨by first | exact ldS_at (n163.cell c37 (fun h => h)) rfl, ?_⟩
            refine ⟨?_, ?_⟩
            · refine newB_row ?_
              intro h166 s166 w166 k166
              have z166 := n163.size
              have n166 := n163.trans' k166
              refine ⟨by first | exact ldS_at (n166.cell c37 (fun h => h)) rfl, ?_⟩
              exact fin n166 z163 (k166.row w163 (fun h => h)) z166 w166 (((((o124.nw k127).nw k145).nw k160).nw k163).nw k166) ((((o127.nw k145).nw k160).nw k163).nw k166) (((o145.nw k160).nw k163).nw k166) ((o160.nw k163).nw k166)
            · refine newB_row ?_
              intro h169 s169 w169 k169
              have z169 := n163.size
              have n169 := n163.trans' k169
              refine ⟨by first | exact ldS_at (n169.cell c37 (fun h => h)) rfl, ?_⟩
              exact fin n169 z163 (k169.row w163 (fun h => h)) z169 w169 (((((o124.nw k127).nw k145).nw k160).nw k163).nw k169) ((((o127.nw k145).nw k160).nw k163).nw k169) (((o145.nw k160).nw k163).nw k169) ((o160.nw k163).nw k169)
          · refine newB_row ?_
            intro h172 s172 w172 k172
            have z172 := n160.size
            have n172 := n160.trans' k172
            refine ⟨by first | exact ldS_at (n172.cell c37 (fun h => h)) rfl, ?_⟩
            refine newB_row ?_
            intro h175 s175 w175 k175
            have z175 := n172.size
            have n175 := n172.trans' k175
            refine ⟨by first | exact ldS_at (n175.cell c37 (fun h => h)) rfl, ?_⟩
            exact fin n175 z175 w175 z172 (k175.row w172 (fun h => h)) (((((o124.nw k127).nw k145).nw k160).nw k172).nw k175) ((((o127.nw k145).nw k160).nw k172).nw k175) (((o145.nw k160).nw k172).nw k175) ((o160.nw k172).nw k175)
  · intro J hJ
    refine ldL_row (o := 0) row rfl ?_
    refine ldL_row (o := 0) row2 rfl ?_
    refine ldL_row (o := 0 + 1) row rfl ?_
    refine ldL_row (o := 0 + 1) row2 rfl ?_
    have n0 : Nw h h := Keep.refl _ _
    have hxK : ∀ {h' : Heap} {m : Nat}, Nw h h' → Row h' m [.string mid] → ∀ p ∈ [((⟨ka, kl, kc⟩ : Sl), keysV x.1), (⟨some ⟨m, 0, none⟩, 1, 1⟩, [.string mid]), (⟨ka2, kl2, kc2⟩, keysV y.1)], Rv h' p.1.a p.1.len p.2 ∧ p.1.len ≤ 1000000 ∧ ∀ v ∈ p.2, v.oneCell' = true := by
      intro h' m nw rm p hp
      simp only [List.mem_cons, List.not_mem_nil, or_false] at hp
      rcases hp with rfl | rfl | rfl
      · exact ⟨k1.keep0 nw, by dsimp only; omega, keysV_one _⟩
      · exact ⟨rv_row rm rfl, by dsimp only; omega, keysV_one [mid]⟩
      · exact ⟨k3.keep0 nw, by dsimp only; omega, keysV_one _⟩
    have hxV : ∀ {h' : Heap}, Nw h h' → ∀ p ∈ [((⟨va, vl, vc⟩ : Sl), us1), (⟨va2, vl2, vc2⟩, us2)], Rv h' p.1.a p.1.len p.2 ∧ p.1.len ≤ 1000000 ∧ ∀ v ∈ p.2, v.oneCell' = true := by
      intro h' nw p hp
      simp only [List.mem_cons, List.not_mem_nil, or_false] at hp
      rcases hp with rfl | rfl
      · exact ⟨k2.keep0 nw, by dsimp only; omega, rs1.one⟩
      · exact ⟨k4.keep0 nw, by dsimp only; omega, rs2.one⟩
    have fin : ∀ {m : Nat} {r r' : Sl} {h' : Heap}, Nw h h' → Own h h' 1 r (flatL [((⟨ka, kl, kc⟩ : Sl), keysV x.1), (⟨some ⟨m, 0, none⟩, 1, 1⟩, [.string mid]), (⟨ka2, kl2, kc2⟩, keysV y.1)]) → r.len = sumL [((⟨ka, kl, kc⟩ : Sl), keysV x.1), (⟨some ⟨m, 0, none⟩, 1, 1⟩, [.string mid]), (⟨ka2, kl2, kc2⟩, keysV y.1)] → Own h h' 1 r' (flatL [((⟨va, vl, vc⟩ : Sl), us1), (⟨va2, vl2, vc2⟩, us2)]) → r'.len = sumL [((⟨va, vl, vc⟩ : Sl), us1), (⟨va2, vl2, vc2⟩, us2)] → J (r, r') h' := by
      intro m r r' h' nw q1 q2 q3 q4
      refine hJ (r, r') h' ⟨?_, ?_, ?_, ?_, nw⟩
      · have e : keysV (x.1 ++ mid :: y.1) = flatL [((⟨ka, kl, kc⟩ : Sl), keysV x.1), (⟨some ⟨m, 0, none⟩, 1, 1⟩, [.string mid]), (⟨ka2, kl2, kc2⟩, keysV y.1)] := by simp [flatL, keysV]
        rw [e]; exact q1
      · have e : us1 ++ us2 = flatL [((⟨va, vl, vc⟩ : Sl), us1), (⟨va2, vl2, vc2⟩, us2)] := by simp [flatL]
        rw [e]; exact q3
      · show r.len = _; rw [q2]; simp [sumL]; omega
      · show r'.len = _; rw [q4]; simp [sumL]; omega
    refine ⟨?_, ?_⟩
    · refine newB_row ?_
      intro h186 s186 w186 k186
      have n186 := n0.trans' k186
      refine ⟨by first | exact ldL_row (o := 0) (n186.row row (fun h => h)) rfl rfl | exact ldL_row (o := 0) (n186.row row2 (fun h => h)) rfl rfl | exact ldL_row (o := 0 + 1) (n186.row row (fun h => h)) rfl rfl | exact ldL_row (o := 0 + 1) (n186.row row2 (fun h => h)) rfl rfl, ?_⟩
      refine ⟨by first | exact ldL_row (o := 0) (n186.row row (fun h => h)) rfl rfl | exact ldL_row (o := 0) (n186.row row2 (fun h => h)) rfl rfl | exact ldL_row (o := 0 + 1) (n186.row row (fun h => h)) rfl rfl | exact ldL_row (o := 0 + 1) (n186.row row2 (fun h => h)) rfl rfl, ?_⟩
      refine ⟨by first | exact ldL_row (o := 0) (n186.row row (fun h => h)) rfl rfl | exact ldL_row (o := 0) (n186.row row2 (fun h => h)) rfl rfl | exact ldL_row (o := 0 + 1) (n186.row row (fun h => h)) rfl rfl | exact ldL_row (o := 0 + 1) (n186.row row2 (fun h => h)) rfl rfl, ?_⟩
      refine ⟨by first | exact ldL_row (o := 0) (n186.row row (fun h => h)) rfl rfl | exact ldL_row (o := 0) (n186.row row2 (fun h => h)) rfl rfl | exact ldL_row (o := 0 + 1) (n186.row row (fun h => h)) rfl rfl | exact ldL_row (o := 0 + 1) (n186.row row2 (fun h => h)) rfl rfl, ?_⟩
      refine ⟨?_, ?_⟩
      · refine newB_row ?_
        intro h192 s192 w192 k192
        have n192 := n186.trans' k192
        refine ⟨by first | exact ldL_row (o := 0) (n192.row row (fun h => h)) rfl rfl | exact ldL_row (o := 0) (n192.row row2 (fun h => h)) rfl rfl | exact ldL_row (o := 0 + 1) (n192.row row (fun h => h)) rfl rfl | exact ldL_row (o := 0 + 1) (n192.row row2 (fun h => h)) rfl rfl, ?_⟩
        refine ⟨by first | exact ldL_row (o := 0) (n192.row row (fun h => h)) rfl rfl | exact ldL_row (o := 0) (n192.row row2 (fun h => h)) rfl rfl | exact ldL_row (o := 0 + 1) (n192.row row (fun h => h)) rfl rfl | exact ldL_row (o := 0 + 1) (n192.row row2 (fun h => h)) rfl rfl, ?_⟩
        refine ⟨?_, ?_⟩
        · refine concatS_spec (rv_row w192 rfl) (hxK n192 (k192.row w186 (fun h => h))) (Nat.le_of_ble_eq_true rfl) ?_
          intro r195 h196 o196 l196 k196
          replace o196 := o196.up n192.size
          have n196 := n192.trans' k196
          refine ⟨by first | exact ldL_row (o := 0) (n196.row row (fun h => h)) rfl rfl | exact ldL_row (o := 0) (n196.row row2 (fun h => h)) rfl rfl | exact ldL_row (o := 0 + 1) (n196.row row (fun h => h)) rfl rfl | exact ldL_row (o := 0 + 1) (n196.row row2 (fun h => h)) rfl rfl, ?_⟩
          refine ⟨by first | exact ldL_row (o := 0) (n196.row row (fun h => h)) rfl rfl | exact ldL_row (o := 0) (n196.row row2 (fun h => h)) rfl rfl | exact ldL_row (o := 0 + 1) (n196.row row (fun h => h)) rfl rfl | exact ldL_row (o := 0 + 1) (n196.row row2 (fun h => h)) rfl rfl, ?_⟩
          refine newB_row ?_
          intro h200 s200 w200 k200
          have n200 := n196.trans' k200
          refine concatN_spec (rv_row w200 rfl) (hxV n200) (Nat.le_of_ble_eq_true rfl) ?_
          intro r201 h202 o202 l202 k202
          replace o202 := o202.up n200.size
          have n202 := n200.trans' k202
          exact fin n202 ((o196.nw k200).nw k202) l196 o202 l202
        · refine newB_row ?_
          intro h204 s204 w204 k204
          have n204 := n192.trans' k204
          refine concatS_spec (rv_row (k204.row w192 (fun h => h)) rfl) (hxK n204 (k204.row (k192.row w186 (fun h => h)) (fun h => h))) (Nat.le_of_ble_eq_true rfl) ?_
          intro r205 h206 o206 l206 k206
          replace o206 := o206.up n204.size
          have n206 := n204.trans' k206
          refine concatN_spec (rv_row (k206.row w204 (fun h => h)) rfl) (hxV n206) (Nat.le_of_ble_eq_true rfl) ?_
          intro r207 h208 o208 l208 k208
          replace o208 := o208.up n206.size
          have n208 := n206.trans' k208
          exact fin n208 (o206.nw k208) l206 o208 l208
      · refine newB_row ?_
        intro h210 s210 w210 k210
        have n210 := n186.trans' k210
        refine ⟨by first | exact ldL_row (o := 0) (n210.row row (fun h => h)) rfl rfl | exact ldL_row (o := 0) (n210.row row2 (fun h => h)) rfl rfl | exact ldL_row (o := 0 + 1) (n210.row row (fun h => h)) rfl rfl | exact ldL_row (o := 0 + 1) (n210.row row2 (fun h => h)) rfl rfl, ?_⟩
        refine ⟨by first | exact ldL_row (o := 0) (n210.row row (fun h => h)) rfl rfl | exact ldL_row (o := 0) (n210.row row2 (fun h => h)) rfl rfl | exact ldL_row (o := 0 + 1) (n210.row row (fun h => h)) rfl rfl | exact ldL_row (o := 0 + 1) (n210.row row2 (fun h => h)) rfl rfl, ?_⟩
        refine newB_row ?_
        intro h214 s214 w214 k214
        have n214 := n210.trans' k214
        refine concatS_spec (rv_row w214 rfl) (hxK n214 (k214.row (k210.row w186 (fun h => h)) (fun h => h))) (Nat.le_of_ble_eq_true rfl) ?_
        intro r215 h216 o216 l216 k216
        replace o216 := o216.up n214.size
        have n216 := n214.trans' k216
        refine concatN_spec (rv_row (k216.row (k214.row w210 (fun h => h)) (fun h => h)) rfl) (hxV n216) (Nat.le_of_ble_eq_true rfl) ?_
        intro r217 h218 o218 l218 k218
        replace o218 := o218.up n216.size
        have n218 := n216.trans' k218
        exact fin n218 (o216.nw k218) l216 o218 l218
    · refine newB_row ?_
      intro h220 s220 w220 k220
      have n220 := n0.trans' k220
      refine ⟨by first | exact ldL_row (o := 0) (n220.row row (fun h => h)) rfl rfl | exact ldL_row (o := 0) (n220.row row2 (fun h => h)) rfl rfl | exact ldL_row (o := 0 + 1) (n220.row row (fun h => h)) rfl rfl | exact ldL_row (o := 0 + 1) (n220.row row2 (fun h => h)) rfl rfl, ?_⟩
      refine ⟨by first | exact ldL_row (o := 0) (n220.row row (fun h => h)) rfl rfl | exact ldL_row (o := 0) (n220.row row2 (fun h => h)) rfl rfl | exact ldL_row (o := 0 + 1) (n220.row row (fun h => h)) rfl rfl | exact ldL_row (o := 0 + 1) (n220.row row2 (fun h => h)) rfl rfl, ?_⟩
      refine newB_row ?_
      intro h224 s224 w224 k224
      have n224 := n220.trans' k224
      refine ⟨by first | exact ldL_row (o := 0) (n224.row row (fun h => h)) rfl rfl | exact ldL_row (o := 0) (n224.row row2 (fun h => h)) rfl rfl | exact ldL_row (o := 0 + 1) (n224.row row (fun h => h)) rfl rfl | exact ldL_row (o := 0 + 1) (n224.row row2 (fun h => h)) rfl rfl, ?_⟩
      refine ⟨by first | exact ldL_row (o := 0) (n224.row row (fun h => h)) rfl rfl | exact ldL_row (o := 0) (n224.row row2 (fun h => h)) rfl rfl | exact ldL_row (o := 0 + 1) (n224.row row (fun h => h)) rfl rfl | exact ldL_row (o := 0 + 1) (n224.row row2 (fun h => h)) rfl rfl, ?_⟩
      refine newB_row ?_
      intro h228 s228 w228 k228
      have n228 := n224.trans' k228
      refine concatS_spec (rv_row w228 rfl) (hxK n228 (k228.row w224 (fun h => h))) (Nat.le_of_ble_eq_true rfl) ?_
      intro r229 h230 o230 l230 k230
      replace o230 := o230.up n228.size
      have n230 := n228.trans' k230
      refine concatN_spec (rv_row (k230.row (k228.row (k224.row w220 (fun h => h)) (fun h => h)) (fun h => h)) rfl) (hxV n230) (Nat.le_of_ble_eq_true rfl) ?_
      intro r231 h232 o232 l232 k232
      replace o232 := o232.up n230.size
      have n232 := n230.trans' k232
      exact fin n232 (o230.nw k232) l230 o232 l232
end Go.Proofs.Ytopnljjfpfnhfaa

