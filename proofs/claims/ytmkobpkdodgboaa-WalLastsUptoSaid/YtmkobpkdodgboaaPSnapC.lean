/- Layer 7's awake; SnapFits. -/
import Derived.Test.YtmkobpkdodgboaaPSnapB
import Derived.Test.YtmkobpkdodgboaaGRef
namespace Go.Proofs.Ytmkobpkdodgboaa
open Go D
set_option linter.unusedVariables false
set_option linter.unusedSimpArgs false
namespace Snap
open Disk Enc Hash

def m8 : M := ⟨List.replicate (8 : Int).toNat (noughts 256), [], 0, 0⟩
theorem aw1 : loadM m8 0 4 = ([], 0, 61) := by decide +kernel
theorem aw2 : (saveM m8 0 4 1 [97, 98, 99]).1 = 0 := by decide +kernel
theorem aw3 : loadM (saveM m8 0 4 1 [97, 98, 99]).2 0 4 = ([97, 98, 99], 1, 0) := by decide +kernel
theorem aw4 : (saveM m8 0 4 1 [97, 98, 99]).2.c.length = 0 := by decide +kernel

theorem awake_spec {h : Heap} {R : Bool → Heap → Prop} (hk : ∀ h', Keep (fun _ => False) h h' → R true h') : CallT Try.prog law7_awake_no [] h [.sc .bool] R := by
  apply law7_awake_call
  simp only [law7_awake]
  refine new_spec (by unfold InI; omega) (fun hb => by omega) ?_
  intro _ _ p mu im h1 hnew hr hk1
  have hr' : Disk.Rep h1 p mu im m8 := hr
  refine load_spec hr' (by show [].length ≤ _; simp) (by unfold InI; omega) (by unfold InI; omega) ?_
  rw [aw1]
  intro s2 h2 b2 r2 k2
  refine lit_row ?_
  intro h3 s3 r3 k3
  have b3 : Bl h3 (some ⟨h2.size, 0, none⟩) 3 3 [97, 98, 99] := .inr ⟨h2.size, 0, _, rfl, r3, by simp, by simp, by simp, by simp; exact ⟨rfl, rfl, rfl⟩⟩
  refine save_spec (e := 1) (r2.keep k3 (fun _ _ h => h) (fun _ _ h => h)) (by show [].length ≤ _; simp) (by unfold InI; omega) (by unfold InI; omega) (by decide) b3.rb (by decide) (by decide) (fun _ b hb hm => ?_) ?_
  · rw [blk_some] at hb
    have := r2.lt b (.inl hm)
    simp only at hb
    omega
  intro mu4 im4 h4 r4 k4 g4
  rw [aw2]
  refine load_spec r4 (by rw [aw4]; omega) (by unfold InI; omega) (by unfold InI; omega) ?_
  rw [aw3]
  intro s5 h5 b5 r5 k5
  refine withJ.inl ?_
  refine cnd_t rfl (cnd_t rfl (cnd_t rfl (cnd_t rfl ?_)))
  refine Rb.str b5 ?_
  refine cnd_t (seq_self _) ?_
  refine fits_spec (by unfold InI; omega) (by unfold InI; omega) ?_
  refine cnd_t (by decide) ?_
  refine fits_spec (by unfold InI; omega) (by unfold InI; omega) ?_
  have e : (!fitsM 2 257) = true := by decide
  rw [e]
  refine hk h5 ?_
  have k14 : Keep (fun y => h.size ≤ y) h1 h4 := ((k2.trans' k3).mono (T := fun y => h.size ≤ y) (fun _ _ h => h.elim)).trans k4 (fun y hy hm => hnew y (.inl hm))
  exact hk1.trans (k14.trans k5 (fun _ _ h => h.elim)) (fun y hy hh => by
    have : h.size ≤ y := hh
    omega)

theorem fits7_spec {h : Heap} {n b : Int} (hn : InI n) (hb : InI b) {R : Bool → Heap → Prop} (hk : R (fitsM n b) h) : CallT Try.prog ref7_Fits_no [.int .i64 n, .int .i64 b] h [.sc .bool] R := by
  apply ref7_Fits_call
  simp only [ref7_Fits]
  unfold InI at hn hb
  unfold fitsM at hk
  refine withJ.inl ?_
  refine cnd_dec (fun h1 => ?_) (fun h1 => ?_)
  · have e1 : decide (1 ≤ n) = true := by simpa using h1
    rw [e1, Bool.true_and] at hk
    refine cnd_dec (fun h2 => ?_) (fun h2 => ?_)
    · have e2 : decide (0 ≤ b) = true := by simpa using h2
      rw [e2, Bool.true_and] at hk
      refine cnd_of (fun h0 => ?_) (fun h0 => ?_)
      · have e0 : b = 0 := by simpa using h0
        subst e0
        have : decide ((0 : Int) / 256 + min ((0 : Int) % 256) 1 ≤ n - 1) = true := by
          rw [decide_eq_true_eq]; omega
        rw [this] at hk
        exact hk
      · have e0 : b ≠ 0 := by simpa using h0
        have e3 : w64 (b - 1) = b - 1 := w64_id (by omega) (by omega)
        have e4 : w64 ((b - 1).tdiv 256) = (b - 1) / 256 := by rw [Int.tdiv_eq_ediv_of_nonneg (by omega), w64_id (by omega) (by omega)]
        rw [e3, e4, w64_id (x := (b - 1) / 256 + 1) (by omega) (by omega), w64_id (x := n - 1) (by omega) (by omega)]
        have : decide ((b - 1) / 256 + 1 ≤ n - 1) = decide (b / 256 + min (b % 256) 1 ≤ n - 1) := by
          rw [Bool.eq_iff_iff]; simp only [decide_eq_true_eq]; omega
        rw [this]
        exact hk
    · have e2 : decide (0 ≤ b) = false := by simp; omega
      rw [e2, Bool.false_and] at hk
      exact hk
  · have e1 : decide (1 ≤ n) = false := by simp; omega
    rw [e1, Bool.false_and] at hk
    exact hk

theorem snapFits_spec {h : Heap} {n b : Int} (hn : InI n) (hb : InI b) {R : Bool → Heap → Prop} (hR : ∀ h', Keep (fun _ => False) h h' → R true h') : CallT Try.prog law7_SnapFits_no [.int .i64 n, .int .i64 b] h [.sc .bool] R := by
  apply law7_SnapFits_call
  simp only [law7_SnapFits]
  refine withJ.inl ?_
  refine fits_spec hn hb (fits7_spec hn hb (cnd_t (by simp) ?_))
  exact awake_spec fun h' hk' => hR h' hk'

end Snap
end Go.Proofs.Ytmkobpkdodgboaa
