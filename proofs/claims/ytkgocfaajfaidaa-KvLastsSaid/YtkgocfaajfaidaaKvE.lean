/- A store in memory; Open. -/
import Derived.Test.YtkgocfaajfaidaaKvD
namespace Go.Proofs.Ytkgocfaajfaidaa
open Go D
set_option linter.unusedVariables false
set_option linter.unusedSimpArgs false
namespace Kv
open Wal (packL unpackL Holds appM lg0 Lg secs LRow)
open Snap (KT fitsM saveM loadM okAt)
open Disk (M readAt crash)

/-- block s is the store x on device d; g is its log's block, t its tree's -/
structure At (h : Heap) (mu im F : Nat → Prop) (d s g t : Nat) (x : St) : Prop where
  row : Row h s (SRow d x.q x.E (some ⟨g, 0, none⟩) t x.n)
  log : Row h g (LRow d x.L)
  dev : Disk.Rep h d mu im x.m
  tree : TreeAt h F t x.l
  s1 : ¬ mu s ∧ ¬ im s
  g1 : ¬ mu g ∧ ¬ im g
  ne : s ≠ g
  f : ∀ b, F b → b < h.size ∧ ¬ mu b ∧ b ≠ s ∧ b ≠ g
/-- what the store may write -/
def Wr (mu : Nat → Prop) (s g b : Nat) : Prop := mu b ∨ b = s ∨ b = g
section
variable {h h' : Heap} {mu im F : Nat → Prop} {d s g t : Nat} {x : St}
theorem At.keep {S : Nat → Prop} (ha : At h mu im F d s g t x) (hk : Keep S h h') (hm : ∀ b, mu b → ¬ S b) (hi : ∀ b, im b → ¬ S b) (hF : ∀ b, F b → ¬ S b) (hs : ¬ S s) (hg : ¬ S g) : At h' mu im F d s g t x :=
  ⟨hk.row ha.row hs, hk.row ha.log hg, ha.dev.keep hk hm hi, ha.tree.keep hk hF, ha.s1, ha.g1, ha.ne, fun b hb => ⟨by have := (ha.f b hb).1; have := hk.size; omega, (ha.f b hb).2⟩⟩
theorem At.nw (ha : At h mu im F d s g t x) (hk : Nw h h') : At h' mu im F d s g t x := ha.keep hk (fun _ _ h => h) (fun _ _ h => h) (fun _ _ h => h) (fun h => h) (fun h => h)
theorem commits_spec (ha : At h mu im F d s g t x) {R : Int → Heap → Prop} (hk : R (x.n : Int) h) : CallT Try.prog kv_Store_Commits_no [.pointer (some ⟨s, 0, none⟩)] h [.sc (.int .i64)] R := by
  have hcall := kv_Store_Commits_call (some ⟨s, 0, none⟩) (R := R) (h := h)
  apply hcall; clear hcall
  unfold kv_Store_Commits
  rw [nn_eq, add_mk]
  exact ldI_row (o := 0 + 5) ha.row rfl hk
theorem tree_spec (ha : At h mu im F d s g t x) {R : Option Addr → Heap → Prop} (hk : R (some ⟨t, 0, none⟩) h) : CallT Try.prog kv_Store_Tree_no [.pointer (some ⟨s, 0, none⟩)] h [.sc .ptr] R := by
  have hcall := kv_Store_Tree_call (some ⟨s, 0, none⟩) (R := R) (h := h)
  apply hcall; clear hcall
  unfold kv_Store_Tree
  rw [nn_eq, add_mk]
  exact ldP_row (o := 0 + 4) ha.row rfl hk
theorem epoch_spec (ha : At h mu im F d s g t x) (he : x.E ≤ 1000000000) {R : Int → Heap → Prop} (hk : R (x.E : Int) h) : CallT Try.prog kv_Store_Epoch_no [.pointer (some ⟨s, 0, none⟩)] h [.sc (.int .i64)] R := by
  have hcall := kv_Store_Epoch_call (some ⟨s, 0, none⟩) (R := R) (h := h)
  apply hcall; clear hcall
  unfold kv_Store_Epoch
  rw [nn_eq, add_mk]
  refine ldI_row (o := 0 + 2) ha.row rfl ?_
  rw [w64_id (by omega) (by omega)]
  exact hk
theorem room_spec {LD : List UInt8 → M → Nat → Nat → Prop} (ha : At h mu im F d s g t x) (hx : InvG LD x) {R : Int → Heap → Prop} (hk : R (x.L.n - x.L.pos) h) : CallT Try.prog kv_Store_Room_no [.pointer (some ⟨s, 0, none⟩)] h [.sc (.int .i64)] R := by
  have hcall := kv_Store_Room_call (some ⟨s, 0, none⟩) (R := R) (h := h)
  apply hcall; clear hcall
  unfold kv_Store_Room
  rw [nn_eq, add_mk]
  refine ldP_row (o := 0 + 3) ha.row rfl ?_
  have := hx.lf; have := hx.q4
  exact Wal.room_spec ha.log ⟨by omega, by omega, by omega, by omega⟩ hk
end

theorem fold_len : ∀ (css : List (List Ch)) (l : List KV), (∀ cs ∈ css, cs.length ≤ 100000) → (css.foldl addC l).length ≤ l.length + css.length * 100000
  | [], l, _ => by simp
  | cs :: css, l, h => by
    have := fold_len css (addC l cs) (fun c hc => h c (by simp [hc]))
    have := addC_len cs l
    have := h cs (by simp)
    simp only [List.foldl_cons, List.length_cons]
    omega

set_option maxHeartbeats 2000000 in
theorem open_spec {h : Heap} {mu im : Nat → Prop} {d : Nat} {x : St} (hr : Disk.Rep h d mu im x.m) (hx : Ops x) (hst : x.m.st ≠ 2) {R : Option Addr × Int → Heap → Prop}
    (hk : ∀ s g t F h', At h' mu im F d s g t x → Nw h h' → h.size ≤ s → h.size ≤ g → (∀ b, F b → h.size ≤ b) → R (some ⟨s, 0, none⟩, 0) h') : CallT Try.prog kv_Open_no [.pointer (some ⟨d, 0, none⟩)] h [.sc .ptr, .sc (.int .i64)] R := by
  have hcall := kv_Open_call (some ⟨d, 0, none⟩) (R := R) (h := h)
  apply hcall; clear hcall
  unfold kv_Open
  have hsz := hx.sz; have hqe := hx.qe; have heb := hx.eb
  obtain ⟨q1, q2, q3⟩ := hx.q4
  have hc := hx.c
  refine withJ.inl (withJ.inl ?_)
  refine cnd_f rfl ?_
  refine Disk.size_spec hr ?_
  refine cnd_f (decide_eq_false (by omega)) ?_
  refine Disk.size_spec hr ?_
  refine treeNew ?_
  intro t0 h7 n7 tr7
  have eq0 : w64 ((x.m.l.length : Int).tdiv 8) = (x.q : Int) := by
    rw [Int.tdiv_eq_ediv_of_nonneg (by omega), w64_id (by omega) (by omega)]; omega
  rw [eq0]
  refine newB_row ?_
  intro h9 s9 r9 k9
  have r9' : Row h9 h7.size (SRow d x.q 0 none t0 0) := r9
  have n9 : Nw h h9 := n7.trans' k9
  have z7 := n7.size
  rw [add_mk]
  refine ldI_row (o := 0 + 1) r9' rfl ?_
  have hr9 := hr.keep n9 (fun _ _ h => h) (fun _ _ h => h)
  refine Snap.load_spec hr9 (by rw [hc]; simp) (by exact ⟨by omega, by omega⟩) (by exact ⟨by omega, by omega⟩) ?_
  intro sl h12 rb12 cap12 hr12 k12
  obtain ⟨n0, l0, css, x1, x2, x3, x4, x5, x6, x7, x8⟩ := hx.ex
  have x1' : loadM x.m 0 x.q = if x.E = 0 then ([], 0, 61) else (packL (stL n0 l0), x.E, 0) := x1
  rw [x1'] at rb12 ⊢
  have r12 := k12.row r9' (fun h => h)
  have n12 : Nw h h12 := n9.trans' k12
  have t12 : TreeAt h12 (New h h7) t0 [] := (tr7.nw k9).nw k12
  have z9 := n9.size
  have z12 := k12.size
  have f8 := fits_le x8
  refine withJ.intro (fun _ h15 => ∃ t', Row h15 h7.size (SRow d x.q x.E none t' n0) ∧ TreeAt h15 (fun b => h.size ≤ b ∧ b < h15.size ∧ b ≠ h7.size) t' l0 ∧ Nw h h15 ∧ h9.size ≤ h15.size) ?_ ?_
  rotate_left
  · intro J hJ
    by_cases e0 : x.E = 0
    · rw [if_pos e0] at rb12 ⊢
      refine cnd_t rfl ?_
      obtain ⟨e1, e2⟩ := x2 e0
      refine hJ () h12 ⟨t0, ?_, ?_, n12, z12⟩
      · rw [e0, e1]; exact r12
      · rw [e2]
        exact t12.mono (fun b hb => ⟨hb.1, by have := hb.2; omega, by have := hb.2; omega⟩)
    · rw [if_neg e0] at rb12 ⊢
      refine cnd_f rfl (cnd_t rfl ?_)
      have r12' : Row h12 h7.size (SRow d x.q 0 none t0 0) := r12
      refine restore_spec (l := l0) (n := n0) r12' t12 (fun b hb => by have := hb.2; omega) (fun hb => by have := hb.2; omega) (by have := x6; omega) x7.1 x7.2 (by omega) rb12 cap12 ?_
      intro t' h49 r49 t49 k49
      refine cnd_f rfl ?_
      rw [add_mk]
      refine stC_row (o := 0 + 2) r49 (by simp [SRow]) rfl ?_
      intro h50 s50 r50 k50
      have z49 := k49.size
      have kk := k49.trans' k50
      refine hJ () h50 ⟨t', r50, ?_, Nw.st n12 kk z7, by omega⟩
      have nF : ∀ b, Fn (New h h7) h12 h49 b → h.size ≤ b ∧ b < h50.size ∧ b ≠ h7.size := fun b hb => by
        rcases hb with hb | hb
        · exact ⟨hb.1, by have := hb.2; omega, by have := hb.2; omega⟩
        · exact ⟨by have := hb.1; omega, by have := hb.2; omega, by have := hb.1; omega⟩
      refine (t49.keep k50 (fun b hb e => ?_)).mono nF
      exact (nF b hb).2.2 e
  · rintro _ h15 ⟨t', r15, t15, n15, z15⟩
    rw [add_mk, add_mk]
    refine ldI_row (o := 0 + 1) r15 rfl (ldI_row (o := 0 + 1) r15 rfl (ldI_row (o := 0 + 2) r15 rfl ?_))
    have e2 : w64 (2 * (x.q : Int)) = 2 * x.q := w64_id (by omega) (by omega)
    rw [e2]
    have hr15 := hr.keep n15 (fun _ _ h => h) (fun _ _ h => h)
    have hop : Wal.openM x.m (2 * x.q) (2 * x.q) x.E = (x.L, css.map recsL) := x3.open
    refine Wal.open_spec hr15 (by rw [hc]; simp) (by exact ⟨by omega, by omega⟩) (by exact ⟨by omega, by omega⟩) (fun hb => absurd (⟨by omega, by omega, by omega, by omega⟩ : Wal.okR x.m.l.length (2 * x.q) (2 * x.q)) hb) (fun _ h2 => absurd h2 hst) ?_
    intro _ _ g fr h20 hg rg fs20 _ k20
    rw [hop] at rg fs20
    have rg' : Row h20 g (LRow d x.L) := rg
    have fs20' : Fs h20 (fun b => g < b) fr.a fr.len (css.map recsL) := fs20
    refine cnd_f rfl ?_
    rw [add_mk]
    have r20 := k20.row r15 (fun h => h)
    refine stC_row (o := 0 + 3) r20 (by simp [SRow]) rfl ?_
    intro h21 s21 r21 k21
    have r21' : Row h21 h7.size (SRow d x.q x.E (some ⟨g, 0, none⟩) t' n0) := r21
    have n21 : Nw h h21 := Nw.st (n15.trans' k20) k21 z7
    have glt := rg'.lt
    have z20 := k20.size
    have fs21 : Fs h21 (fun b => g < b) fr.a fr.len (css.map recsL) := fs20'.keep k21 (fun b _ hb e => by have e' : b = h7.size := e; have hb' : g < b := hb; omega)
    have t21 : TreeAt h21 (fun b => h.size ≤ b ∧ b < h21.size ∧ b ≠ h7.size ∧ b ≠ g) t' l0 := by
      refine ((t15.nw k20).keep k21 (fun b hb e => hb.2.2 e)).mono (fun b hb => ⟨hb.1, by have := hb.2.1; omega, hb.2.2, by have := hb.2.1; omega⟩)
    have rg21 : Row h21 g (LRow d x.L) := k21.row rg' (fun e => by have e' : g = h7.size := e; omega)
    have fl := fs21.len
    rw [List.length_map] at fl
    have flq : css.length ≤ 1024 := by
      have f := x3.facts
      rw [List.length_map] at f
      omega
    have l0l : l0.length ≤ 20000 := by have := szL_len l0; omega
    refine LoopT.intro (fun (i : Int) h' => ∃ k : Nat, i = (k : Int) ∧ k ≤ css.length ∧ ∃ t', Row h' h7.size (SRow d x.q x.E (some ⟨g, 0, none⟩) t' (n0 + k)) ∧ TreeAt h' (fun b => h.size ≤ b ∧ b < h'.size ∧ b ≠ h7.size ∧ b ≠ g) t' ((css.take k).foldl addC l0) ∧ Keep (· = h7.size) h21 h') (fun i _ => ((css.length : Int) - i).toNat)
      ⟨0, rfl, Nat.zero_le _, t', r21', t21, .refl _ _⟩ ?_
    rintro _ h24 ⟨k, rfl, hkl, t2, w1, w2, w3⟩
    have z24 := w3.size
    refine cnd_dec (fun hi => ?_) (fun hi => ?_)
    · have hkl' : k < css.length := by have : (k : Int) < (fr.len : Int) := hi; omega
      have fs24 := fs21.keep w3 (fun b _ hb e => by have e' : b = h7.size := e; have hb' : g < b := hb; omega)
      refine Wal.Fs_at fs24 (by omega) hi ?_
      intro rs hrs a26 l26 c26 tb
      rw [Int.toNat_natCast, List.getElem?_map, List.getElem?_eq_getElem hkl'] at hrs
      injection hrs with hrs
      subst hrs
      obtain ⟨hm, hcl⟩ := x4 _ (List.getElem_mem hkl')
      have l26e := tb.1.len
      rw [show (recsL css[k]).length = css[k].length from List.length_map _] at l26e
      have fl1 := fold_len (css.take k) l0 (fun cs hcs => (x4 cs (List.mem_of_mem_take hcs)).2)
      rw [List.length_take] at fl1
      refine LoopT.intro (fun (i : Int) h' => ∃ j : Nat, i = (j : Int) ∧ j ≤ css[k].length ∧ ∃ t', Row h' h7.size (SRow d x.q x.E (some ⟨g, 0, none⟩) t' (n0 + k)) ∧ TreeAt h' (fun b => h.size ≤ b ∧ b < h'.size ∧ b ≠ h7.size ∧ b ≠ g) t' (addC ((css.take k).foldl addC l0) (css[k].take j)) ∧ Keep (· = h7.size) h24 h') (fun i _ => ((css[k].length : Int) - i).toNat)
        ⟨0, rfl, Nat.zero_le _, t2, w1, w2, .refl _ _⟩ ?_
      rintro _ h29 ⟨j, rfl, hjl, t3, v1, v2, v3⟩
      have z29 := v3.size
      refine cnd_dec (fun hj => ?_) (fun hj => ?_)
      · have hj' : j < css[k].length := by have : (j : Int) < (l26 : Int) := hj; omega
        have tb29 : TsB h29 (fun b => g < b) a26 l26 (recsL css[k]) := by
          exact tb.keep v3 (fun b _ hb e => by have e' : b = h7.size := e; have hb' : g < b := hb; omega)
        refine Ts.at tb29.1 (by omega) hj ?_
        intro sx hsx
        rw [Int.toNat_natCast] at hsx
        have hsx' : (recsL css[k])[j]? = some (recS css[k][j]) := by unfold recsL; rw [List.getElem?_map, List.getElem?_eq_getElem hj']; rfl
        rw [hsx'] at hsx
        injection hsx with hsx
        subst hsx
        refine change_spec (hm _ (List.getElem_mem hj')) ?_
        intro h33 n33
        refine newB_row ?_
        intro h35 s35 r35 k35
        refine stC_row (o := 0) r35 (by simp) rfl ?_
        intro h36 s36 r36 k36
        refine stC_row (o := 0 + 1) r36 (by simp) rfl ?_
        intro h37 s37 r37 k37
        refine stC_row (o := 0 + 2) r37 (by simp) rfl ?_
        intro h38 s38 r38 k38
        have n38 : Nw h29 h38 := n33.trans' (Nw.st (Nw.st (Nw.st k35 k36 (Nat.le_refl _)) k37 (Nat.le_refl _)) k38 (Nat.le_refl _))
        refine cnd_f rfl ?_
        rw [add_mk]
        have v1' := n38.row v1 (fun h => h)
        refine ldP_row (o := 0 + 4) v1' rfl ?_
        refine ldS_row (o := 0) r38 rfl (ldS_row (o := 0 + 1) r38 rfl (ldB_row (o := 0 + 2) r38 rfl ?_))
        have z38 := n38.size
        have al := addC_len (css[k].take j) ((css.take k).foldl addC l0)
        rw [List.length_take] at al
        refine apply_spec (c := css[k][j]) (v2.nw n38) (fun b hb => by have := hb.2.1; omega) (by omega) ?_
        intro t4 h44 n44 t44
        have z44 := n44.size
        refine stC_row (o := 0 + 4) (n44.row v1' (fun h => h)) (by simp [SRow]) rfl ?_
        intro h45 s45 r45 k45
        have ew : w64 ((j : Int) + 1) = ((j + 1 : Nat) : Int) := by rw [w64_id (by omega) (by omega)]; omega
        have gl : g < h29.size := by omega
        have nF : ∀ b, Fn (fun b => h.size ≤ b ∧ b < h29.size ∧ b ≠ h7.size ∧ b ≠ g) h38 h44 b → h.size ≤ b ∧ b < h45.size ∧ b ≠ h7.size ∧ b ≠ g := fun b hb => by
          rcases hb with hb | hb
          · exact ⟨hb.1, by have := hb.2.1; omega, hb.2.2⟩
          · exact ⟨by have := hb.1; omega, by have := hb.2; omega, by have := hb.1; omega, by have := hb.1; omega⟩
        refine ⟨⟨j + 1, ew, by omega, t4, r45, ?_, ((v3.trans n38 (fun _ _ h => h.elim)).trans n44 (fun _ _ h => h.elim)).trans' k45⟩, by rw [ew]; omega⟩
        have ea : addC ((css.take k).foldl addC l0) (css[k].take (j + 1)) = appC css[k][j] (addC ((css.take k).foldl addC l0) (css[k].take j)) := by
          rw [List.take_add_one, List.getElem?_eq_getElem hj']
          exact addC_snoc _ _ _
        rw [ea]
        exact (t44.keep k45 (fun b hb e => (nF b hb).2.2.1 e)).mono nF
      · have hje : j = css[k].length := by have : ¬ (j : Int) < (l26 : Int) := hj; omega
        subst hje
        rw [List.take_length] at v2
        rw [add_mk]
        refine ldI_row (o := 0 + 5) v1 rfl ?_
        refine stC_row (o := 0 + 5) v1 (by simp [SRow]) rfl ?_
        intro h47 s47 r47 k47
        have ew : w64 ((k : Int) + 1) = ((k + 1 : Nat) : Int) := by rw [w64_id (by omega) (by omega)]; omega
        have ew2 : w64 (((n0 + k : Nat) : Int) + 1) = ((n0 + (k + 1) : Nat) : Int) := by rw [w64_id (by omega) (by omega)]; omega
        rw [ew2] at r47
        refine ⟨⟨k + 1, ew, by omega, t3, r47, ?_, (w3.trans' v3).trans' k47⟩, by rw [ew]; omega⟩
        have ea : (css.take (k + 1)).foldl addC l0 = addC ((css.take k).foldl addC l0) css[k] := by
          rw [List.take_add_one, List.getElem?_eq_getElem hkl', List.foldl_append]; rfl
        rw [ea]
        exact (v2.keep k47 (fun b hb e => hb.2.2.1 e)).mono (fun b hb => ⟨hb.1, by have := hb.2.1; omega, hb.2.2⟩)
    · have hke : k = css.length := by have : ¬ (k : Int) < (fr.len : Int) := hi; omega
      subst hke
      rw [List.take_length, ← x5] at w2
      rw [← x6] at w1
      have n24 : Nw h h24 := n21.trans w3 (fun b hb e => by have e' : b = h7.size := e; omega)
      have lt := hr.lt
      refine hk h7.size g t2 _ h24 ⟨w1, w3.row rg21 (fun e => by have e' : g = h7.size := e; omega), hr.keep n24 (fun _ _ h => h) (fun _ _ h => h), w2, ⟨fun e => by have := lt _ (.inl e); omega, fun e => by have := lt _ (.inr e); omega⟩, ⟨fun e => by have := lt _ (.inl e); omega, fun e => by have := lt _ (.inr e); omega⟩, by omega, fun b hb => ⟨hb.2.1, fun e => by have := lt _ (.inl e); have := hb.1; omega, hb.2.2⟩⟩ n24 z7 (by omega) (fun b hb => hb.1)

end Kv
end Go.Proofs.Ytkgocfaajfaidaa
