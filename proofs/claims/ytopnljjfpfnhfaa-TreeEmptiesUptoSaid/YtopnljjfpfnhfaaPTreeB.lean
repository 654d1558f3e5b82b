/- A Tree: Del and Get. -/
import Derived.Test.YtopnljjfpfnhfaaPTree
namespace Go.Proofs.Ytopnljjfpfnhfaa
open Go D
set_option linter.unusedVariables false
set_option linter.unusedSimpArgs false

theorem isP_or {n : Nat} {h : Heap} {F : Nat → Prop} {t : T n} {v : Value} (hr : Rep h F n t v) {Y : Option Addr → Prop} {N : Prop} (h1 : ∀ m (e : n = m + 1) p, v = .iface inT (.pointer (some ⟨p, 0, none⟩)) → Y (some ⟨p, 0, none⟩)) (h0 : n = 0 → N) : isP v inT Y N := by
  cases n with
  | zero => exact hr.not_inner (h0 rfl)
  | succ n => exact hr.inner (fun p e => h1 n rfl p e)

/-- is the key there? -/
def hasK (k : Key) (l : List KV) : Bool := l.any fun p => decide (p.1 = k)
theorem treeDel {h : Heap} {F : Nat → Prop} {p : Nat} {l : List KV} {k : Key} (ht : TreeAt h F p l) (hF : ∀ b, F b → b < h.size) (hl : l.length ≤ 1000000000) {R : Option Addr × Bool → Heap → Prop}
    (hn : hasK k l = false → ∀ h', Nw h h' → R (some ⟨p, 0, none⟩, false) h')
    (hs : hasK k l = true → ∀ p' h', Nw h h' → TreeAt h' (Fn F h h') p' (delKV k l) → (delKV k l).length + 1 = l.length → R (some ⟨p', 0, none⟩, true) h') : CallT Try.prog btree_Tree_Del_no [.pointer (some ⟨p, 0, none⟩), .string k] h [.sc .ptr, .sc .bool] R := by
  obtain ⟨n, t, ⟨v, row, fp, rep⟩, o, e⟩ := ht
  apply btree_Tree_Del_call
  unfold btree_Tree_Del
  refine ⟨v, by rw [row.cells]; rfl, ?_⟩
  have dp := del_prs k o.ok (lo0_or n) o.pw
  rw [e] at dp
  refine del_spec k n rep hF o.ok (lo0_or n) o.srt ?_ ?_
  · intro e1 h4 n4
    refine cnd_t rfl ?_
    refine hn ?_ h4 n4
    unfold hasK
    rw [List.any_eq_false]
    intro q hq
    simpa using dp.1 e1 q hq
  · intro u a h4 e1 n4 ra
    refine cnd_f rfl ?_
    obtain ⟨d1, ⟨q, d2, d3⟩, d4⟩ := dp.2 u e1
    have z4 := n4.size
    have row4 := n4.row row (fun h => h)
    have ok := delF_ok k o.ok (lo0_or n) e1
    have pw := del_ord (A := []) (B := []) k o.ok (lo0_or n) (by simpa using o.pw) e1
    replace pw : Pw (flat n u) := by simpa using pw
    have hh : hasK k l = true := by
      unfold hasK
      rw [List.any_eq_true]
      exact ⟨q, d2, by simpa using d3⟩
    refine withJ.intro (fun (s : Value) h7 => h7 = h4 ∧ ∃ n' t', Rep h4 (Fn F h h4) n' t' s ∧ Rt n' t' ∧ prs n' t' = delKV k l) ?_ ?_
    · rintro s h7 ⟨rfl, n', t', r', o', e'⟩
      refine ldI_row (o := 0 + 1) row4 rfl ?_
      refine ⟨r'.one.1, newB_row ?_⟩
      intro h11 s11 row11 k11
      refine hs hh h7.size h11 (n4.trans' k11) ⟨n', t', ⟨s, ?_, .inr ⟨z4, row11.lt⟩, (r'.nw k11).mono (fun b hb => fn_mono (Nat.le_refl _) k11.size hb)⟩, o', e'⟩ (by rw [← d1]; exact d4)
      have e3 : w64 (((prs n t).length : Int) - 1) = (((prs n' t').length : Nat) : Int) := by
        rw [e', e, ← d1, w64_id (by omega) (by omega)]; omega
      rw [e3] at row11
      exact row11
    · intro J hJ
      refine isP_or ra ?_ ?_
      · rintro m rfl p' ev
        refine withJ.intro (fun (s : Bool) hh => hh = h4 ∧ s = decide (u.2.length = 1)) ?_ ?_
        · rintro s hh ⟨rfl, rfl⟩
          obtain ⟨p2, ka, kl, kc, va, vl, vc, us, ev2, rw2, k1, k2, rs⟩ := Reps.cat ra
          rw [ev] at ev2
          injection ev2 with _ ev2
          injection ev2 with ev2
          injection ev2 with ev2
          injection ev2 with ev2
          subst ev2
          refine cnd_dec (fun c => ?_) (fun c => ?_)
          · refine ldL_row (o := 0 + 1) rw2 rfl ?_
            have l1 := k2.1
            have l2 := rs.1
            have h0 : 0 < us.length := by omega
            refine k2.at (by omega) (by omega) (v := us[0]) (by simp [h0]) ?_
            intro x hx
            refine ⟨_, hx, hJ _ _ ⟨rfl, m, u.2[0]'(by omega), rs.2 0 _ _ (List.getElem?_eq_getElem (by omega)) (List.getElem?_eq_getElem h0), ?_, ?_⟩⟩
            · have hl2 := ok.1
              have pw2 := pw
              rw [flat_self (i := 0) hl2 (by omega)] at pw2
              exact Rt.mk (ok.2.2.2 _ (List.getElem_mem (by omega))) (lo0_le m) (pw_son pw2)
            · rw [← d1]
              show _ = ((u.2).map (prs m)).flatten
              have eu : u.2 = [u.2[0]'(by omega)] := by
                apply List.ext_getElem?
                intro i
                cases i with
                | zero => simp [show 0 < u.2.length by omega]
                | succ i => simp; omega
              conv => rhs; rw [eu]
              simp
          · exact hJ _ _ ⟨rfl, m + 1, u, ra, ⟨ok.up (by
              have h1 := ok.2.1
              have h2 := (delF_ok k o.ok (lo0_or _) e1).2.1
              show 2 ≤ u.2.length
              have : lo0 (m + 1) = 2 := rfl
              omega), pw⟩, d1⟩
        · intro J' hJ'
          obtain ⟨p2, ka, kl, kc, va, vl, vc, us, ev2, rw2, k1, k2, rs⟩ := Reps.cat ra
          rw [ev] at ev2
          injection ev2 with _ ev2
          injection ev2 with ev2
          injection ev2 with ev2
          injection ev2 with ev2
          subst ev2
          refine ldL_row (o := 0 + 1) rw2 rfl ?_
          refine hJ' _ _ ⟨rfl, ?_⟩
          have l1 := k2.1
          have l2 := rs.1
          rw [Bool.eq_iff_iff, beq_iff_eq, decide_eq_true_eq]
          omega
      · rintro rfl
        refine withJ.inl ?_
        refine cnd_f rfl ?_
        exact hJ _ _ ⟨rfl, 0, u, ra, Rt.mk ok (Nat.zero_le _) pw, d1⟩

theorem vals_get (u : List KV) (i : Nat) (hi : i < u.length) : (keysV (u.map (·.2)))[(i : Int).toNat]? = some (.string (u.get ⟨i, hi⟩).2) := by
  rw [Int.toNat_natCast, List.getElem?_map, List.getElem?_map, List.getElem?_eq_getElem hi]; rfl
theorem treeGet {h : Heap} {F : Nat → Prop} {p : Nat} {l : List KV} {k : Key} (ht : TreeAt h F p l) {R : ByteArray × Bool → Heap → Prop}
    (hk : ∀ h', Nw h h' → R ((getL k l).getD ⟨#[]⟩, (getL k l).isSome) h') : CallT Try.prog btree_Tree_Get_no [.pointer (some ⟨p, 0, none⟩), .string k] h [.sc .str, .sc .bool] R := by
  obtain ⟨n, t, ⟨v, row, fp, rep⟩, o, e⟩ := ht
  apply btree_Tree_Get_call
  unfold btree_Tree_Get
  refine ⟨v, by rw [row.cells]; rfl, ?_⟩
  refine LoopT.introN (fun m (s : Value) h' => Nw h h' ∧ ∃ lo, ∃ t' : T m, Rep h' F m t' s ∧ Okn lo m t' ∧ Pw (flat m t') ∧ getL k (prs m t') = getL k l) ⟨n, Keep.refl _ _, lo0 n, t, rep, o.ok, o.pw, by rw [e]⟩ ?_
  rintro m s h5 ⟨n5, lo, t', r', ok, pw, eg⟩
  have srt := srt_of ok pw
  refine isP_or r' ?_ ?_
  · rintro m' rfl p' ev
    refine cnd_f rfl ?_
    obtain ⟨p2, ka, kl, kc, va, vl, vc, us, ev2, rw2, k1, k2, rs⟩ := Reps.cat r'
    rw [ev] at ev2
    injection ev2 with _ ev2
    injection ev2 with ev2
    injection ev2 with ev2
    injection ev2 with ev2
    subst ev2
    refine ldL_row (o := 0 + 1) rw2 rfl ?_
    obtain ⟨a1, a2, a3, a4⟩ := srt
    have len1 : kl = t'.1.length := by have := k1.1; simpa using this
    refine at_spec (x := ⟨p', 0, none⟩) (by rw [rw2.cells]; rfl) k1 a1 (by omega) ?_
    intro h19 n19
    refine ⟨ldL_row (o := 0 + 1) (n19.row rw2 (fun h => h)) rfl rfl, ?_⟩
    have hm := upto_le k t'.1
    have hil : upto k t'.1 < t'.2.length := by omega
    have ge := get_at (k := k) ok pw hil
    have pws := pw_at ok pw hil
    generalize upto k t'.1 = i at hm hil ge
    have l1 := k2.1
    have l2 := rs.1
    refine Rv.at (k2.keep0 n19) (by omega) (by omega) (v := us[i]'(by omega)) (by rw [Int.toNat_natCast, List.getElem?_eq_getElem (by omega)]) ?_
    intro a21 c21
    exact ⟨_, c21, m', by omega, n5.trans' n19, 4, t'.2[i], (rs.2 i _ _ (List.getElem?_eq_getElem hil) (List.getElem?_eq_getElem (by omega))).nw n19, ok.2.2.2 _ (List.getElem_mem hil), pws, by rw [← ge, eg]⟩
  · rintro rfl
    refine cnd_t rfl ?_
    obtain ⟨p2, ka, kl, kc, va, vl, vc, rfl, _, rw2, k1, k2, _, _⟩ := r'
    refine isP_yes rfl ?_
    refine ldL_row (o := 0) rw2 rfl ?_
    have asc := leaf_asc pw
    have gl := get_leaf (k := k) asc
    have len1 : kl = List.length t' := k1.1.trans ((List.length_map _).trans (List.length_map _))
    have len2 : vl = List.length t' := k2.1.trans ((List.length_map _).trans (List.length_map _))
    have hl8 := ok.2
    refine bsearch_spec k1 asc (by omega) ?_
    replace eg : getL k (t' : List KV) = getL k l := eg
    rw [eg] at gl
    generalize below k (List.map (·.1) (t' : List KV)) = i at gl
    refine cnd_of (fun c => ?_) (fun c => ?_)
    · have c' : ¬ (List.map (·.1) (t' : List KV))[i]? = some k := by simpa using c
      replace gl := gl.trans (if_neg c')
      have := hk h5 n5
      rw [gl] at this
      exact this
    · have c' : (List.map (·.1) (t' : List KV))[i]? = some k := by simpa using c
      replace gl := gl.trans (if_pos c')
      have hi : i < List.length t' := Nat.lt_of_lt_of_eq (List.getElem?_eq_some_iff.1 c').1 (List.length_map _)
      rw [List.getElem?_eq_getElem hi] at gl
      refine ldL_row (o := 0 + 1) rw2 rfl ?_
      refine k2.at (by omega) (by omega) (v := .string (List.get (α := KV) t' ⟨i, hi⟩).2) (vals_get t' i hi) ?_
      intro x hx
      refine ⟨_, hx, ?_⟩
      have hd : decide ((List.map (·.1) (t' : List KV))[i]? = some k) = true := decide_eq_true c'
      have := hk h5 n5
      rw [gl] at this
      exact this
end Go.Proofs.Ytopnljjfpfnhfaa
