/- A device and the document's answer that hold the same; they read the same. -/
import Derived.Test.YtmkobpkdodgboaaPRef5
import Derived.Test.YtmkobpkdodgboaaPDiskL
import Derived.Test.YtmkobpkdodgboaaGLaw
namespace Go.Proofs.Ytmkobpkdodgboaa
open Go D
set_option linter.unusedVariables false
set_option linter.unusedSimpArgs false
namespace Disk

/-- both hold m; all blocks are newer than h0 -/
def Both (h0 h : Heap) (p pr : Nat) (m : M) : Prop := (∃ mu im mur, Rep h p mu im m ∧ Ref5.Rep h pr mur m ∧ (∀ b, mur b → ¬ mu b ∧ ¬ im b) ∧ (∀ b, mu b ∨ im b ∨ mur b → h0.size ≤ b)) ∧ Keep (fun y => h0.size ≤ y) h0 h

theorem Both.keep {h0 h h' : Heap} {p pr : Nat} {m : M} (hb : Both h0 h p pr m) (hk : Keep (fun _ => False) h h') : Both h0 h' p pr m := by
  obtain ⟨⟨mu, im, mur, r1, r2, g1, g2⟩, k⟩ := hb
  exact ⟨⟨mu, im, mur, r1.keep hk (fun _ _ h => h) (fun _ _ h => h), r2.keep hk (fun _ _ h => h), g1, g2⟩, k.trans hk (fun _ _ h => h.elim)⟩

theorem Both.out {h0 h : Heap} {p pr : Nat} {m : M} (hb : Both h0 h p pr m) : Keep (fun _ => False) h0 h := hb.2.mono (fun y hy hh => by have : h0.size ≤ y := hh; omega)

/-- what one needs of the two, and how they go on -/
theorem Both.use {h0 h : Heap} {p pr : Nat} {m : M} (hb : Both h0 h p pr m) : ∃ mu im mur, Rep h p mu im m ∧ Ref5.Rep h pr mur m ∧ (∀ b, mu b ∨ im b ∨ mur b → h0.size ≤ b ∧ b < h.size) ∧ (∀ b, mur b → ¬ mu b) ∧
    (∀ {hA hB hf : Heap} {m2 : M} {mu2 im2 mur2 : Nat → Prop}, Keep (fun _ => False) h hA → Rep hB p mu2 im2 m2 → Keep mu hA hB → Grew hA mu im mu2 im2 → Ref5.Rep hf pr mur2 m2 → Keep mur hB hf → (∀ b, mur2 b → mur b ∨ hB.size ≤ b) → Both h0 hf p pr m2) := by
  obtain ⟨⟨mu, im, mur, r1, r2, g1, g2⟩, k⟩ := hb
  have l1 := r1.lt
  have l2 := r2.lt
  have z0 := k.size
  refine ⟨mu, im, mur, r1, r2, fun b hb => ⟨g2 b hb, ?_⟩, fun b hb => (g1 b hb).1, ?_⟩
  · rcases hb with hb | hb | hb
    · exact l1 b (.inl hb)
    · exact l1 b (.inr hb)
    · exact l2 b hb
  intro hA hB hf m2 mu2 im2 mur2 kA u2 u4 u3 u5 u6 u7
  have zB := u4.size
  have zA := kA.size
  refine ⟨⟨mu2, im2, mur2, u2.keep u6 (fun b hb hm => ?_) (fun b hb hm => ?_), u5, fun b hb => ⟨fun hm => ?_, fun hm => ?_⟩, fun b hb => ?_⟩, ((k.trans kA (fun _ _ h => h.elim)).trans u4 (fun y _ hy => g2 y (.inl hy))).trans u6 (fun y _ hy => g2 y (.inr (.inr hy)))⟩
  · have := l2 b hm
    rcases u3.1 b hb with h' | h'
    · exact (g1 b hm).1 h'
    · omega
  · have := l2 b hm
    rcases u3.2 b hb with h' | h'
    · exact (g1 b hm).2 h'
    · omega
  · rcases u7 b hb with h' | h'
    · have := l2 b h'
      rcases u3.1 b hm with h2 | h2
      · exact (g1 b h').1 h2
      · omega
    · have := u2.lt b (.inl hm); omega
  · rcases u7 b hb with h' | h'
    · have := l2 b h'
      rcases u3.2 b hm with h2 | h2
      · exact (g1 b h').2 h2
      · omega
    · have := u2.lt b (.inr hm); omega
  · rcases hb with hb | hb | hb
    · rcases u3.1 b hb with h' | h'
      · exact g2 b (.inl h')
      · omega
    · rcases u3.2 b hb with h' | h'
      · exact g2 b (.inr (.inl h'))
      · omega
    · rcases u7 b hb with h' | h'
      · exact g2 b (.inr (.inr h'))
      · omega

/-- two new devices -/
theorem Both.new {h0 h1 h2 : Heap} {p pr : Nat} {mu im mur : Nat → Prop} {m : M} (hnew : ∀ b, mu b ∨ im b → h0.size ≤ b) (hr : Rep h1 p mu im m) (k1 : Keep (fun _ => False) h0 h1) (hnew2 : ∀ b, mur b → h1.size ≤ b) (hr2 : Ref5.Rep h2 pr mur m) (k2 : Keep (fun _ => False) h1 h2) : Both h0 h2 p pr m := by
  have z1 := k1.size
  refine ⟨⟨mu, im, mur, hr.keep k2 (fun _ _ h => h) (fun _ _ h => h), hr2, fun b hb => ⟨fun hm => ?_, fun hm => ?_⟩, fun b hb => ?_⟩, (k1.trans' k2).mono (fun _ _ h => h.elim)⟩
  · have := hnew2 b hb; have := hr.lt b (.inl hm); omega
  · have := hnew2 b hb; have := hr.lt b (.inr hm); omega
  · rcases hb with hb | hb | hb
    · exact hnew b (.inl hb)
    · exact hnew b (.inr hb)
    · have := hnew2 b hb; omega

theorem same_spec {h0 h : Heap} {p pr : Nat} {m : M} (hb : Both h0 h p pr m) (hc : m.c.length ≤ 1000000) {R : Bool → Heap → Prop} (hk : ∀ h', Keep (fun _ => False) h h' → R true h') :
    CallT Try.prog law6_Same_no [.pointer (some ⟨p, 0, none⟩), .pointer (some ⟨pr, 0, none⟩)] h [.sc .bool] R := by
  apply law6_Same_call
  simp only [law6_Same, nn_eq]
  obtain ⟨mu, im, mur, r1, r2, _, _, _⟩ := hb.use
  have hle := r1.le
  refine LoopT.intro (fun i h' => 0 ≤ i ∧ i ≤ m.l.length ∧ Keep (fun _ => False) h h') (fun i _ => ((m.l.length : Int) - i).toNat) ⟨by omega, by omega, .refl _ _⟩ ?_
  rintro i h1 ⟨q1, q2, k1⟩
  have r1' := r1.keep k1 (fun _ _ h => h) (fun _ _ h => h)
  have r2' := r2.keep k1 (fun _ _ h => h)
  obtain ⟨⟨la, lc, c0⟩, ⟨ca, cc, c1⟩, _, _⟩ := r2'.cells
  refine ldL_at c0 ?_
  refine cnd_dec (fun hi => ?_) (fun hi => ?_)
  · have hw : w64 (i + 1) = i + 1 := w64_id (by omega) (by omega)
    refine withJ.inl ?_
    refine read_spec r1' hc (i := i) (by unfold InI; omega) (fun hbad => ?_) ?_
    · refine Ref5.read_spec r2' hc (fun _ => ?_) (fun e => absurd e hbad)
      refine withJ.inl ?_
      have e0 : Bs h1 none 0 0 ⟨#[]⟩ := SlR.nil _ _
      refine e0.str ?_
      refine cnd_f (by rw [seq_self]; rfl) ?_
      refine cnd_f (by simp) ?_
      show (0 ≤ w64 (i + 1) ∧ w64 (i + 1) ≤ m.l.length ∧ _) ∧ _
      rw [hw]
      exact ⟨⟨by omega, by omega, k1⟩, by omega⟩
    · intro hok b h2 hb1 hb2 b2 r3 k2
      refine Ref5.read_spec (r2'.keep k2 (fun _ _ h => h)) hc (fun e => absurd hok e) (fun _ => ?_)
      refine withJ.inl ?_
      refine b2.str ?_
      refine cnd_f (by rw [seq_self]; rfl) ?_
      refine cnd_f (by simp) ?_
      show (0 ≤ w64 (i + 1) ∧ w64 (i + 1) ≤ m.l.length ∧ _) ∧ _
      rw [hw]
      exact ⟨⟨by omega, by omega, k1.trans' k2⟩, by omega⟩
  · rw [add_mk]
    refine ldL_at c1 ?_
    refine pending_spec r1' ?_
    refine ⟨ldL_at c1 rfl, ?_⟩
    simp only [beq_self_eq_true]
    exact hk h1 k1

/-- a fuse is laid in both -/
theorem Ref5.setF {mur : Nat → Prop} {h : Heap} {pr : Nat} {m : M} (r : Ref5.Rep h pr mur m) {k : Int} (i2 : InI k) {K : Heap → Prop}
    (hk : ∀ h', Ref5.Rep h' pr mur (fuse m k) → Keep (· = pr) h h' → h'.size = h.size → K h') : stC ⟨pr, 2, none⟩ (.int .i64 (maxI k (-1))) h K := by
  unfold InI at i2
  refine r.setFuse (m' := fuse m k) (fuse_lc m k).1 (fuse_lc m k).2 ?_ ?_ hk
  · unfold fuse
    split
    · exact Iff.rfl
    · split <;> exact ⟨fun e => by simp at e, fun e => by omega⟩
  · obtain ⟨_, _, ⟨f, rf, _⟩, _⟩ := r.cells
    obtain ⟨f0, f1, f2, f3, f4⟩ := rf
    rw [maxI_m1]
    unfold fuse
    split
    · refine ⟨fun e => by omega, fun e => by omega, f2, ?_, f4⟩
      unfold InI; split <;> omega
    · by_cases hk : k < 0
      · rw [if_pos hk, if_pos hk]
        exact ⟨fun _ => rfl, fun e => by simp at e, .inl rfl, by unfold InI; omega, f4⟩
      · rw [if_neg hk, if_neg hk]
        exact ⟨fun e => by simp at e, fun _ => rfl, .inr (.inl rfl), by unfold InI; omega, by simp only; omega⟩

end Disk
end Go.Proofs.Ytmkobpkdodgboaa
