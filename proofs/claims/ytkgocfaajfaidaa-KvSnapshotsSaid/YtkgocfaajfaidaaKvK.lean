/- KvSnapshots. -/
import Derived.Test.YtkgocfaajfaidaaKvJ
namespace Go.Proofs.Ytkgocfaajfaidaa
open Go D
set_option linter.unusedVariables false
set_option linter.unusedSimpArgs false
namespace Kv
open Wal (packL unpackL Holds appM lg0 Lg secs LRow)
open Snap (KT fitsM saveM loadM okAt)
open Disk (M readAt crash)

set_option maxHeartbeats 2000000 in
theorem kvSnapshots_spec {h : Heap} {x0 : Sl} {css : List (List Ch)} (hc : Css h x0.a x0.len css) {R : Bool → Heap → Prop} (hk : ∀ h', Nw h h' → R true h') : CallT Try.prog 5 [.slice x0.a x0.len x0.cap] h [.sc .bool] R := by
  have hcall := law9_KvSnapshots_call x0 (R := R) (h := h)
  apply hcall; clear hcall
  unfold law9_KvSnapshots
  refine newB_row ?_
  intro h2 s2 r2 k2
  refine run_new (n := 200) (by omega) (by omega) ?_
  intro d s W h4 hr
  have cl := hc.1
  have hc2 := hc.nw k2
  have lt2 := r2.lt
  -- the end
  have fin : ∀ h5, Nw h2 h5 → stC ⟨h.size, 0, none⟩ (.bool true) h5 fun h6 => shutX h.size h6 fun h7 => ldB ⟨h.size, 0, none⟩ h7 fun b => R b h7 := by
    intro h5 n5
    refine stC_row (o := 0) (n5.row r2 (fun h => h)) (by simp) rfl ?_
    intro h6 s6 r6 k6
    intro h7 z7 s7
    refine ldB_row (o := 0) (shut_row z7 s7 r6) rfl ?_
    exact hk h7 (shut_nw (Nw.st (k2.trans' n5) k6 (Nat.le_refl _)) (Nat.le_refl _) z7 s7)
  refine withJ.inl (withJ.inl ?_)
  refine cnd_f rfl (cnd_f rfl ?_)
  refine cnd_dec (fun hb => ?_) (fun hb => ?_)
  · refine withJ.inl ?_
    refine cnd_t rfl (cnd_t rfl ?_)
    exact awake_spec (fun h' n' => fin h' (hr.nw.trans' n'))
  · refine hr.tree ?_
    intro t0 F0 tr0 f0
    refine cnd_f rfl ?_
    refine LoopT.intro (fun (i : Int) h' => ∃ k W x, i = ((k : Nat) : Int) ∧ k ≤ x0.len ∧ Run h2 h' W d s x ∧ x.E ≤ k ∧ x.n ≤ k ∧ TreeAt h' F0 t0 [] ∧ (∀ b, F0 b → b < h'.size ∧ ¬ W b)) (fun i _ => ((x0.len : Int) - i).toNat)
      ⟨0, W, _, rfl, Nat.zero_le _, hr, Nat.le_refl _, Nat.le_refl _, tr0, f0⟩ ?_
    rintro _ h17 ⟨k, W, x, rfl, hkl, hr, hE, hn, tro, fo⟩
    refine cnd_dec (fun hi => ?_) (fun hi => ?_)
    · have hi' : k < css.length := by have : (k : Int) < (x0.len : Int) := hi; omega
      have k12 : k ≤ 12 := by omega
      have ew : w64 ((k : Int) + 1) = ((k + 1 : Nat) : Int) := by rw [w64_id (by omega) (by omega)]; omega
      refine hr.pairs ?_
      intro r18 h19 hr19 n19 p19 f19
      refine newB_row ?_
      intro h21 s21 r21 k21
      refine stC_row (o := 0) r21 (by simp) rfl ?_
      intro h22 s22 r22 k22
      have n22 : Nw h19 h22 := Nw.st k21 k22 (Nat.le_refl _)
      have hr22 := hr19.nw' n22
      have z19 := n19.size
      have z22 := n22.size
      refine hr22.tree ?_
      intro t F tr f
      refine (hc2.nw hr22.nw).at hi' ?_
      intro o l' c' hch hl'
      refine hr22.commit (by omega) (by omega) hch hl' ?_
      intro e x' W' h28 did hr28 kw gw
      have hE' := did.e1
      have hn' := did.n1
      have wlt := hr.lt
      have z28 := kw.size
      have p28 : Pr h28 r18 x.l := (p19.nw n22).keep kw (fun b hb hw => by have := f19 b hb; have := wlt b hw; omega)
      have r28 : Row h28 h19.size [.slice r18.a r18.len r18.cap] := kw.row r22 (fun hw => by have := wlt _ hw; omega)
      have t28 : TreeAt h28 F t x.l := tr.keep kw (fun b hb => (f b hb).2)
      have fo' : ∀ b, F0 b → b < h28.size ∧ ¬ W' b := fun b hb => by
        obtain ⟨g1, g2⟩ := fo b hb
        refine ⟨by omega, fun hw => ?_⟩
        rcases gw b hw with h1 | h1
        · exact g2 h1
        · omega
      have tro28 : TreeAt h28 F0 t0 [] := ((tro.nw n19).nw n22).keep kw (fun b hb => (fo b hb).2)
      have ll := hr.len
      refine newB_row ?_
      intro h30 s30 r30 k30
      refine stC_row (o := 0) r30 (by simp) rfl ?_
      intro h31 s31 r31 k31
      have n31 : Nw h28 h31 := Nw.st k30 k31 (Nat.le_refl _)
      have fl : ∀ b, F b → b < h28.size := fun b hb => by have := (f b hb).1; omega
      have z31 := n31.size
      refine treeFrom (t28.nw n31) (fun b hb => by have := fl b hb; omega) ?_
      intro rv h33 n33 s33 sq
      rw [from_nok] at sq
      have n2833 := n31.trans' n33
      have r29 := n33.row r31 (fun h => h)
      have z33 := n33.size
      have r20 := n2833.row r28 (fun h => h)
      have p33 := p28.nw n2833
      have r28lt := r28.lt
      have pl : 0 < r18.len → ∀ b, blk r18.a b → b < h28.size := fun h0 b hb => Rv.lt p28 (by omega) hb
      refine rng_cells sq (fun b hb => ?_) (fun b => b = h28.size) (fun b hb => ⟨fun hd => ?_, ?_⟩) (fun ex pre hh => ex = .nrm ∧ Row hh h28.size [.int .i64 ((pre.length : Nat) : Int)]) ⟨rfl, r29⟩ ?_ ?_ ?_ ?_ ?_ ?_ ?_
      · rcases hb with hb | hb | hb
        · have := fl b hb; omega
        · omega
        · omega
      · have hb' : b = h28.size := hb
        rcases hd with hd | hd | hd
        · have := fl b hd; omega
        · omega
        · omega
      · have hb' : b = h28.size := hb; omega
      · rintro ex pre ha hb ⟨rfl, q⟩ hk'
        exact ⟨rfl, hk'.row q (fun e => e.1 rfl)⟩
      · rintro ex pre ha ⟨rfl, q⟩ b hb
        have hb' : b = h28.size := hb
        subst hb'
        exact ⟨_, q⟩
      · rintro pre y h4' Q ⟨_, q⟩ k4 hpre hQ
        obtain ⟨hi2, ey⟩ := pre_get hpre
        have c20 := k4.row r20 (fun e => by rcases e with e | e <;> omega)
        have p4 : Pr h4' r18 x.l := Rv.keep p33 k4 (fun hl b hb e => by have := pl (by omega) b hb; rcases e with e | e <;> omega)
        have plen := p4.len
        refine withJ.inl (withJ.inl ?_)
        refine ldI_row (o := 0) q rfl ?_
        refine ldL_row (o := 0) c20 rfl ?_
        refine cnd_f (decide_eq_false (by omega)) ?_
        refine ldL_row (o := 0) c20 rfl ?_
        refine ldI_row (o := 0) q rfl ?_
        refine p4.at hi2 ?_
        intro z d1 d2
        refine ldS_at d1 ?_
        rw [ey, seq_self]
        refine cnd_f rfl ?_
        refine ldL_row (o := 0) c20 rfl ?_
        refine ldI_row (o := 0) q rfl ?_
        refine p4.at hi2 ?_
        intro z2 d3 d4
        refine ldS_at d4 ?_
        rw [ey, seq_self]
        refine cnd_f rfl ?_
        refine ldI_row (o := 0) q rfl ?_
        refine stC_row (o := 0) q (by simp) rfl ?_
        intro h44 s44 r44 k44
        have ewp : w64 (((pre.length : Nat) : Int) + 1) = (((pre ++ [y]).length : Nat) : Int) := by
          rw [w64_id (by omega) (by omega), List.length_append, List.length_singleton]; omega
        rw [ewp] at r44
        exact hQ .nrm h44 ⟨rfl, r44⟩ (k44.mono (fun b _ e => .inl e))
      · rintro h59 ⟨_, q⟩ k59
        have n59 : Nw h28 h59 := n2833.trans k59 (fun b hb e => by rcases e with e | e <;> omega)
        have c20 := n59.row r28 (fun h => h)
        have plen := p28.len
        refine ldI_row (o := 0) q rfl ?_
        refine ldL_row (o := 0) c20 rfl ?_
        refine cnd_f (by rw [plen]; simp) ?_
        exact ⟨⟨k + 1, W', x', ew, by omega, hr28.nw' n59, by omega, by omega, tro28.nw n59, fun b hb => ⟨by have := (fo' b hb).1; have := n59.size; omega, (fo' b hb).2⟩⟩, by rw [ew]; omega⟩
      · rintro pre h' ⟨e, _⟩; cases e
      · rintro i pre h' ⟨e, _⟩; cases e
      · rintro i pre h' ⟨e, _⟩; cases e
    · refine withJ.inl ?_
      refine treeLen tro ?_
      refine cnd_t rfl ?_
      exact awake_spec (fun h' n' => fin h' (hr.nw.trans' n'))

end Kv
end Go.Proofs.Ytkgocfaajfaidaa
