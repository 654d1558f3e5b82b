/- Contracts of package alloc, for the layers above: a copy; bits turned twice. -/
import Derived.Test.YtmkobpkdodgboaaPAlloc
namespace Go.Proofs.Ytmkobpkdodgboaa
open Go D
set_option linter.unusedVariables false
set_option linter.unusedSimpArgs false
namespace Alloc

theorem First.eq {bits : List Bool} {k s t : Int} (h1 : First bits k s) (h2 : First bits k t) : s = t := by
  rcases Int.lt_trichotomy s t with h | h | h
  · exact absurd h1.1 (h2.2 s h)
  · exact h
  · exact absurd h2.1 (h1.2 t h)

theorem flip_all {bits : List Bool} {s k : Int} {t : Bool} (h : AllOf bits s k t) : AllOf (flip bits s.toNat k.toNat) s k (!t) := by
  obtain ⟨h1, h2, h3, h4⟩ := h
  refine ⟨h1, h2, by rw [flip_length]; exact h3, fun i hi1 hi2 => ?_⟩
  rw [flip_get, h4 i hi1 hi2]
  simp only [Option.map_some]
  rw [if_pos (by omega)]
theorem flip_flip (bits : List Bool) (s k : Nat) : flip (flip bits s k) s k = bits := by
  apply List.ext_getElem?
  intro i
  rw [flip_get, flip_get]
  cases bits[i]? with
  | none => rfl
  | some b =>
    simp only [Option.map_some]
    by_cases h : s ≤ i ∧ i < s + k
    · rw [if_pos h, if_pos h, Bool.not_not]
    · rw [if_neg h, if_neg h]

theorem clone64_spec {h : Heap} {a : Option Addr} {l c : Nat} {vs : List Value} {x : Addr} (ha : a = some x) (hs : SlR h 1 a l c vs) (hv : ∀ v ∈ vs, v.oneCell' = true) (hl : l ≤ 1000000) {R : Sl → Heap → Prop}
    (hk : ∀ c' b h', h.size ≤ b → SlR h' 1 (some ⟨b, 0, none⟩) l c' vs → Keep (fun _ => False) h h' → R ⟨some ⟨b, 0, none⟩, l, c'⟩ h') :
    CallT Try.prog slices_Clone_uint64_no [.slice a l c] h [.sc .sl] R := by
  have hx := slices_Clone_uint64_call (s_0 := ⟨a, l, c⟩) (R := R) (h := h)
  apply hx
  simp only [slices_Clone_uint64]
  refine cnd_f (by rw [ha]; rfl) ?_
  refine newB_row ?_
  intro h1 s1 r1 k1
  have hs1 := hs.keep k1 (fun _ _ h => h)
  refine hs1.rd ?_
  have e0 : SlR h1 1 (some ⟨h.size, 0, none⟩) 0 0 [] := .inr ⟨h.size, 0, _, rfl, r1, by simp, by simp, by simp, by simp⟩
  refine e0.app rfl (by rw [hs.len]) hv (by omega) ?_
  intro a' c' h2 q1 q2 q3
  rw [Nat.zero_add, List.nil_append] at q1
  rw [Nat.zero_add]
  have hk2 : Keep (fun _ => False) h h2 := k1.trans q2 (fun y hy hb => by rw [blk_some] at hb; simp only at hb; omega)
  rcases q3 with ⟨rfl, _⟩ | ⟨rfl, _⟩
  · exact hk c' h.size h2 (Nat.le_refl _) q1 hk2
  · exact hk c' h1.size h2 (by omega) q1 hk2

theorem copy_spec {h : Heap} {p q : Nat} {bits : List Bool} (hr : Rep h p q bits) {R : Option Addr → Heap → Prop}
    (hk : ∀ p' q' h', h.size ≤ p' → h.size ≤ q' → Rep h' p' q' bits → Keep (fun _ => False) h h' → R (some ⟨p', 0, none⟩) h') :
    CallT Try.prog alloc_Space_Copy_no [.pointer (some ⟨p, 0, none⟩)] h [.sc .ptr] R := by
  apply alloc_Space_Copy_call
  obtain ⟨⟨ws, extra, cap, r1, r2, g1, g2, g3, g4, g5⟩, hne, hle⟩ := hr
  simp only [alloc_Space_Copy, nn_eq]
  refine ldL_row r1 rfl ?_
  rw [add_mk, add_mk]
  refine ldI_row r1 (n := (bits.length : Int)) rfl ?_
  refine ldI_row r1 (n := freeOf bits) rfl ?_
  refine newB_row ?_
  intro h1 s1 n1 k1
  refine stC_row n1 (by simp) rfl ?_
  intro h2 s2 n2 k2
  rw [add_mk, add_mk]
  refine stC_row n2 (by simp) rfl ?_
  intro h3 s3 n3 k3
  refine stC_row n3 (by simp) rfl ?_
  intro h4 s4 n4 k4
  have kk : Keep (fun _ => False) h h4 := (k1.trans ((k2.trans' k3).trans' k4) (fun y hy hb => by
    have : y = h.size := hb
    omega))
  have r1' := kk.row r1 (fun h => h)
  refine ldL_row r1' rfl ?_
  have hs : SlR h4 1 (some ⟨q, 0, none⟩) ws.length cap (ws.map wv) := .inr ⟨q, 0, _, rfl, kk.row r2 (fun h => h), g2, by simp; omega, by simp, by simp⟩
  refine clone64_spec rfl hs (by simp [wv, Value.oneCell']) (by omega) ?_
  intro c' b h5 hb q1 k5
  have n5 := k5.row n4 (fun h => h)
  refine stC_row n5 (by simp) rfl ?_
  intro h6 s6 n6 k6
  have hbne : b ≠ h.size := by have := n4.lt; omega
  refine hk h.size b h6 (Nat.le_refl _) (by have := kk.size; omega) ⟨?_, fun e => hbne e.symm, hle⟩ ?_
  · rcases q1 with ⟨e, _⟩ | ⟨b', o, cs, e, w1, w2, w3, w4, w5⟩
    · cases e
    · injection e with e
      injection e with e1 e2
      subst e1 e2
      rw [List.drop_zero, Nat.mul_one] at w5
      have e3 : cs = ws.map wv ++ cs.drop ws.length := by rw [← w5, List.take_append_drop]
      refine ⟨ws, cs.drop ws.length, c', ?_, ?_, g1, w2, ?_, g4, g5⟩
      · exact n6
      · rw [← e3]; exact k6.row w1 hbne
      · simp; omega
  · exact (kk.trans' k5).trans k6 (fun y hy hb' => by
      have : y = h.size := hb'
      omega)
end Alloc
end Go.Proofs.Ytmkobpkdodgboaa
