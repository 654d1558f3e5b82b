/- The document's Load; both devices read the same. -/
import Derived.Test.YtmkobpkdodgboaaPRef7C
namespace Go.Proofs.Ytmkobpkdodgboaa
open Go D
set_option linter.unusedVariables false
set_option linter.unusedSimpArgs false
namespace Ref7
open Disk Enc Hash Snap

theorem st3 {h : Heap} {b : Nat} {cs : List Value} (hr : Row h b cs) (hl : cs.length = 3) {v0 v1 v2 : Value} (w0 : v0.oneCell' = true) (w1 : v1.oneCell' = true) (w2 : v2.oneCell' = true) {K : Heap → Prop}
    (hk : ∀ h', Keep (· = b) h h' → h'.size = h.size → Row h' b [v0, v1, v2] → K h') :
    stC ⟨b, 0, none⟩ v0 h fun h5 => stC ((⟨b, 0, none⟩ : Addr).add 1) v1 h5 fun h6 => stC ((⟨b, 0, none⟩ : Addr).add 2) v2 h6 K := by
  obtain ⟨x, y, z, rfl⟩ : ∃ x y z, cs = [x, y, z] := by
    match cs, hl with
    | [x, y, z], _ => exact ⟨x, y, z, rfl⟩
  rw [add_mk, add_mk]
  refine stC_row hr (by simp) w0 ?_
  intro h1 s1 r1 k1
  refine stC_row r1 (by simp) w1 ?_
  intro h2 s2 r2 k2
  refine stC_row r2 (by simp) w2 ?_
  intro h3 s3 r3 k3
  exact hk h3 ((k1.trans' k2).trans' k3) (by omega) r3

theorem load_spec {mu : Nat → Prop} {h : Heap} {p : Nat} {m : M} (hr : Ref5.Rep h p mu m) (hc : m.c.length ≤ 1000000) (hz : ∀ i, (readAt m i).size = 256) {fr n : Int} (hf : InI fr) (hn : InI n) {R : (Bool × Int × Sl) × Int → Heap → Prop}
    (hk : ∀ w s h', Rb h' s.a s.len (loadM m fr n).1 → Ref5.Rep h' p mu m → Keep (fun _ => False) h h' → R ((w, ((loadM m fr n).2.1 : Int), s), (loadM m fr n).2.2) h') :
    CallT Try.prog ref7_Load_no [.pointer (some ⟨p, 0, none⟩), .int .i64 fr, .int .i64 n] h [.agg [.bool, .int .u64, .sl], .sc (.int .i64)] R := by
  apply ref7_Load_call
  simp only [ref7_Load]
  have hle := hr.le
  refine newB_row ?_
  intro h1 s1 o1 k1
  have r1 := hr.keep k1 (fun _ _ h => h)
  have drop : ∀ {hA hB : Heap}, Keep (fun _ => False) h hA → Keep (· = h.size) hA hB → Keep (fun _ => False) h hB := fun kA kB => kA.trans kB (fun y hy e => by
    have e' : y = h.size := e
    omega)
  have hlt := hr.lt
  have nmu : ∀ b, mu b → ¬ b = h.size := fun b hb e => by have := hlt b hb; omega
  -- an answer without a state
  have none' : ∀ {hA : Heap} {er : Int}, Row hA h.size [.bool false, .int .u64 0, .slice none 0 0] → Keep (fun _ => False) h hA → loadM m fr n = ([], 0, er) →
      stC ⟨h.size, 0, none⟩ (.bool false) hA fun h60 => stC ((⟨h.size, 0, none⟩ : Addr).add 1) (.int .u64 0) h60 fun h61 => stC ((⟨h.size, 0, none⟩ : Addr).add 2) (.slice none 0 0) h61 fun h62 =>
      ldB ⟨h.size, 0, none⟩ h62 fun b63 => ldI .u64 ((⟨h.size, 0, none⟩ : Addr).add 1) h62 fun n64 => ldL ((⟨h.size, 0, none⟩ : Addr).add 2) h62 fun o65 l65 c65 => R ((b63, n64, (⟨o65, l65, c65⟩ : Sl)), er) h62 := by
    intro hA er oA kA e
    refine ret3 (K := fun b n o l c h => R ((b, n, (⟨o, l, c⟩ : Sl)), er) h) oA rfl ?_
    intro h6 k6 _ _
    have := hk false ⟨none, 0, 0⟩ h6
    rw [e] at this
    exact this (SlR.nil h6 1).rv ((hr.keep kA (fun _ _ h => h)).keep k6 nmu) (drop kA k6)
  refine region_spec r1 hf hn ?_
  unfold InI at hf hn
  by_cases hok : okAt m.l.length fr n
  rotate_left
  · refine cnd_t (by simp [hok]) (none' o1 k1 ?_)
    unfold loadM
    rw [if_pos hok]
  refine cnd_f (by simp [hok]) ?_
  have hok' := hok
  obtain ⟨q1, q2, q3, q4⟩ := hok'
  refine read7_spec (odd := 0) r1 hc hz q2 q1 (by omega) (by decide) (fun hst h2 k2 => ?_) (fun hst sA h2 bA _ fA k2 => ?_)
  · refine newB_row ?_
    intro h3 s3 o3 k3
    refine st3 o3 rfl rfl rfl rfl ?_
    intro h4 k4 s4 o4
    have k23 : Keep (fun _ => False) h2 h4 := k3.trans k4 (fun y hy e => by
      have e' : y = h2.size := e
      omega)
    refine cnd_t rfl (none' ((k2.trans' k23).row o1 (fun h => h)) ((k1.trans' k2).trans' k23) ?_)
    unfold loadM
    rw [if_neg (Classical.not_not.2 hok), if_pos hst]
  refine newB_row ?_
  intro h3 s3 o3 k3
  refine st3 o3 rfl rfl rfl rfl ?_
  intro h4 k4 s4 o4
  have k24 : Keep (fun _ => False) h2 h4 := k3.trans k4 (fun y hy e => by
    have e' : y = h2.size := e
    omega)
  refine cnd_f rfl ?_
  have k14 := k2.trans' k24
  have r4 := r1.keep k14 (fun _ _ h => h)
  have efn : w64 (fr + n) = fr + n := w64_id (by omega) (by omega)
  rw [efn]
  refine read7_spec (odd := 1) r4 hc hz (by omega) q1 (by omega) (by decide) (fun hst' => absurd hst' hst) (fun _ sB h5 bB _ fB k5 => ?_)
  refine newB_row ?_
  intro h6 s6 o6 k6
  refine st3 o6 rfl rfl rfl rfl ?_
  intro h7 k7 s7 o7
  have k57 : Keep (fun _ => False) h5 h7 := k6.trans k7 (fun y hy e => by
    have e' : y = h5.size := e
    omega)
  refine cnd_f rfl ?_
  have k47 := k5.trans' k57
  have k17 := k14.trans' k47
  have k07 := k1.trans' k17
  have o17 := k17.row o1 (fun h => h)
  have o47 := k47.row o4 (fun h => h)
  have bA7 := (Rv.keep bA k24 (fun _ _ _ h => h)).keep k47 (fun _ _ _ h => h)
  have bB7 := Rv.keep bB k57 (fun _ _ _ h => h)
  have z1 := k1.size
  have z14 := k14.size
  obtain ⟨A, hA⟩ : ∃ A, A = slotM m fr n 0 := ⟨_, rfl⟩
  obtain ⟨B, hB⟩ : ∃ B, B = slotM m (fr + n) n 1 := ⟨_, rfl⟩
  have eL : loadM m fr n = if (better (better ([], 0, false) A) B).2.2 then ((better (better ([], 0, false) A) B).1, (better (better ([], 0, false) A) B).2.1, 0) else ([], 0, 61) := by
    unfold loadM bestM
    rw [if_neg (Classical.not_not.2 hok), if_neg hst, ← hA, ← hB]
  rw [← hA] at o47 bA7
  rw [← hB] at o7 bB7
  -- the two picks
  have pick : ∀ {b : Nat} {w : Bool} {e : Int} {s : Sl} {bs : List UInt8}, Row h7 b [.bool w, .int .u64 e, .slice s.a s.len s.cap] → Rv h7 s.a s.len (bs.map byteV) → (∀ y, blk s.a y → h.size < y) → loadM m fr n = (bs, e.toNat, 0) → 0 ≤ e →
      ldB ⟨b, 0, none⟩ h7 fun b55 => ldI .u64 ((⟨b, 0, none⟩ : Addr).add 1) h7 fun n56 => ldL ((⟨b, 0, none⟩ : Addr).add 2) h7 fun o57 l57 c57 =>
      stC ⟨h.size, 0, none⟩ (.bool b55) h7 fun h58 => stC ((⟨h.size, 0, none⟩ : Addr).add 1) (.int .u64 n56) h58 fun h59 => stC ((⟨h.size, 0, none⟩ : Addr).add 2) (.slice o57 l57 c57) h59 fun h60 =>
      ldB ⟨h.size, 0, none⟩ h60 fun b61 => ldI .u64 ((⟨h.size, 0, none⟩ : Addr).add 1) h60 fun n62 => ldL ((⟨h.size, 0, none⟩ : Addr).add 2) h60 fun o63 l63 c63 => R ((b61, n62, (⟨o63, l63, c63⟩ : Sl)), 0) h60 := by
    intro b w e s bs ob hb fb el he
    refine ldB_row ob rfl ?_
    rw [add_mk, add_mk (b := b)]
    refine ldI_row ob rfl (ldL_row ob rfl ?_)
    refine ret3 (K := fun b n o l c h => R ((b, n, (⟨o, l, c⟩ : Sl)), 0) h) o17 rfl ?_
    intro h8 k8 _ _
    have := hk w ⟨s.a, s.len, s.cap⟩ h8
    rw [el] at this
    dsimp only at this
    rw [show ((e.toNat : Nat) : Int) = e by omega] at this
    exact this (Rv.keep hb k8 (fun _ y hy e' => by
      have e'' : y = h.size := e'
      have := fb y hy
      omega)) ((hr.keep k07 (fun _ _ h => h)).keep k8 nmu) (drop k07 k8)
  have fA' : ∀ y, blk sA.a y → h.size < y := fun y hy => by have := fA y hy; omega
  have fB' : ∀ y, blk sB.a y → h.size < y := fun y hy => by have := fB y hy; omega
  have pA := pick o47 (bs := if A.2.2 then A.1 else []) bA7 fA'
  have pB := pick o7 (bs := if B.2.2 then B.1 else []) bB7 fB'
  refine withJ.inl (withJ.inl ?_)
  refine ldB_row o47 rfl ?_
  have noneA : better ([], 0, false) A = if A.2.2 then (A.1, A.2.1, true) else ([], 0, false) := by
    unfold better
    cases A.2.2 <;> rfl
  cases hwA : A.2.2
  · rw [hwA] at noneA pA
    refine cnd_t rfl (ldB_row o7 rfl ?_)
    have nB : better ([], 0, false) B = if B.2.2 then (B.1, B.2.1, true) else ([], 0, false) := by
      unfold better
      cases B.2.2 <;> rfl
    cases hwB : B.2.2
    · refine cnd_t rfl (none' o17 k07 ?_)
      rw [eL, noneA]
      simp only [Bool.false_eq_true, if_false]
      rw [nB, hwB]
      rfl
    · rw [hwB] at pB nB
      refine cnd_f rfl (withJ.inl (withJ.inl ?_))
      rw [hwA] at o47
      refine ldB_row o47 rfl (cnd_t rfl (cnd_t rfl ?_))
      refine pB ?_ (by simp)
      rw [eL, noneA]
      simp only [Bool.false_eq_true, if_false, if_true]
      rw [nB]
      simp
  · rw [hwA] at noneA pA
    refine cnd_f rfl (cnd_f rfl (withJ.inl (withJ.inl ?_)))
    rw [hwA] at o47
    refine ldB_row o47 rfl (cnd_f rfl ?_)
    refine ldB_row o7 rfl ?_
    simp only [if_true] at noneA pA
    have eB : better (A.1, A.2.1, true) B = if B.2.2 && decide (A.2.1 < B.2.1) then (B.1, B.2.1, true) else (A.1, A.2.1, true) := by
      unfold better
      simp
    have outA : better (A.1, A.2.1, true) B = (A.1, A.2.1, true) → loadM m fr n = (A.1, ((A.2.1 : Nat) : Int).toNat, 0) := fun e => by
      rw [eL, noneA, e]
      simp
    have outB : better (A.1, A.2.1, true) B = (B.1, B.2.1, true) → loadM m fr n = (B.1, ((B.2.1 : Nat) : Int).toNat, 0) := fun e => by
      rw [eL, noneA, e]
      simp
    cases hwB : B.2.2
    · refine cnd_f rfl (cnd_f rfl (pA (outA ?_) (by omega)))
      rw [eB, hwB]
      rfl
    · rw [hwB] at pB o7
      simp only [if_true] at pB o7 o47
      refine cnd_t rfl (ldI_row (o := 1) o7 rfl (ldI_row (o := 1) o47 rfl ?_))
      refine cnd_dec (fun hgt => pB (outB ?_) (by omega)) (fun hgt => pA (outA ?_) (by omega))
      · rw [eB, hwB, if_pos]
        simp
        omega
      · rw [eB, hwB, if_neg]
        simp
        omega

end Ref7
end Go.Proofs.Ytmkobpkdodgboaa
