/- Contracts of package disk, fourth part: Copy. -/
import Derived.Test.YtmmoilenemogoaaPDiskC
namespace Go.Proofs.Ytmmoilenemogoaa
open Go D
set_option linter.unusedVariables false
set_option linter.unusedSimpArgs false
namespace Disk

theorem cloneL_spec {h : Heap} {a : Option Addr} {l c : Nat} {vs : List Value} {x : Addr} (ha : a = some x) (hs : SlR h 1 a l c vs) (hv : ∀ v ∈ vs, v.oneCell' = true) (hl : l ≤ 1000000) {R : Sl → Heap → Prop}
    (hk : ∀ c' b h', h.size ≤ b → SlR h' 1 (some ⟨b, 0, none⟩) l c' vs → Keep (fun _ => False) h h' → R ⟨some ⟨b, 0, none⟩, l, c'⟩ h') :
    CallT Try.prog slices_Clone_Lbyte_no [.slice a l c] h [.sc .sl] R := by
  have hx := slices_Clone_Lbyte_call (s_0 := ⟨a, l, c⟩) (R := R) (h := h)
  apply hx
  simp only [slices_Clone_Lbyte]
  refine cnd_f (by rw [ha]; rfl) ?_
  refine newB_row ?_
  intro h1 s1 r1 k1
  have hs1 := hs.keep k1 (fun _ _ h => h)
  refine hs1.rd ?_
  have e0 : SlR h1 1 (some ⟨h.size, 0, none⟩) 0 0 [] := .inr ⟨h.size, 0, _, rfl, r1, by simp, by simp, by simp, by simp⟩
  refine e0.app rfl (by rw [hs.len]) hv (by omega) ?_
  intro a' c' h2 q1 q2 q3
  rw [Nat.zero_add, List.nil_append] at q1
  rw [Nat.zero_add]
  have hk2 : Keep (fun _ => False) h h2 := k1.trans q2 (fun y hy hb => by rw [blk_some] at hb; simp only at hb; omega)
  rcases q3 with ⟨rfl, _⟩ | ⟨rfl, _⟩
  · exact hk c' h.size h2 (Nat.le_refl _) q1 hk2
  · exact hk c' h1.size h2 (by omega) q1 hk2

theorem cloneW_spec {h : Heap} {a : Option Addr} {l c : Nat} {vs : List Value} (hs : SlR h 2 a l c vs) (hv : ∀ v ∈ vs, v.oneCell' = true) (hl : l ≤ 1000000) {R : Sl → Heap → Prop}
    (hk : ∀ a' c' h', (∀ b, blk a' b → h.size ≤ b) → SlR h' 2 a' l c' vs → Keep (fun _ => False) h h' → R ⟨a', l, c'⟩ h') :
    CallT Try.prog slices_Clone_disk_write_no [.slice a l c] h [.sc .sl] R := by
  have hx := slices_Clone_disk_write_call (s_0 := ⟨a, l, c⟩) (R := R) (h := h)
  apply hx
  simp only [slices_Clone_disk_write]
  cases a with
  | none =>
    rcases hs with ⟨_, rfl, rfl, rfl⟩ | ⟨_, _, _, e, _⟩
    · exact cnd_t rfl (hk none 0 h (fun b hb => by obtain ⟨x, hx, _⟩ := hb; cases hx) (SlR.nil _ _) (.refl _ _))
    · cases e
  | some x =>
    refine cnd_f rfl ?_
    refine newB_row ?_
    intro h1 s1 r1 k1
    have hs1 := hs.keep k1 (fun _ _ h => h)
    refine hs1.rd ?_
    have e0 : SlR h1 2 (some ⟨h.size, 0, none⟩) 0 0 [] := .inr ⟨h.size, 0, _, rfl, r1, by simp, by simp, by simp, by simp⟩
    refine e0.app rfl (by rw [hs.len]) hv (by omega) ?_
    intro a' c' h2 q1 q2 q3
    rw [Nat.zero_add, List.nil_append] at q1
    rw [Nat.zero_add]
    have hk2 : Keep (fun _ => False) h h2 := k1.trans q2 (fun y hy hb => by rw [blk_some] at hb; simp only at hb; omega)
    refine hk a' c' h2 (fun b hb => ?_) q1 hk2
    rcases q3 with ⟨rfl, _⟩ | ⟨rfl, _⟩
    · rw [blk_some] at hb; simp only at hb; omega
    · rw [blk_some] at hb; simp only at hb; omega

theorem copy_spec {mu im : Nat → Prop} {h : Heap} {p : Nat} {m : M} (hr : Rep h p mu im m) (hc : m.c.length ≤ 1000000) {R : Option Addr → Heap → Prop}
    (hk : ∀ p' mu' h', (∀ b, mu' b → h.size ≤ b) → Rep h' p' mu' im m → Rep h' p mu im m → Keep (fun _ => False) h h' → R (some ⟨p', 0, none⟩) h') :
    CallT Try.prog disk_Dev_Copy_no [.pointer (some ⟨p, 0, none⟩)] h [.sc .ptr] R := by
  apply disk_Dev_Copy_call
  have hr0 := hr
  obtain ⟨⟨ql, lcap, secs, ca, cc, cv, e1, e2, row, sl1, sl2, g1, g2, g3, g4, g5, g6, g7, g8⟩, dis, lt, le, fz⟩ := hr
  have hcv : cv.length = m.c.length := by rw [e2, List.length_map]
  have hl : m.l.length = secs.length := by rw [e1, List.length_map]
  simp only [disk_Dev_Copy, nn_eq]
  rw [add_mk, add_mk, add_mk]
  refine ldL_row row rfl (ldL_row row rfl (ldI_row row rfl (ldI_row row rfl ?_)))
  refine newB_row ?_
  intro h1 s1 n1 k1
  refine stC_row n1 (by simp) rfl ?_
  intro h2 s2 n2 k2
  rw [add_mk, add_mk, add_mk]
  refine stC_row n2 (by simp) rfl ?_
  intro h3 s3 n3 k3
  refine stC_row n3 (by simp) rfl ?_
  intro h4 s4 n4 k4
  refine stC_row n4 (by simp) rfl ?_
  intro h5 s5 n5 k5
  have kk : Keep (fun _ => False) h h5 := k1.trans (((k2.trans' k3).trans' k4).trans' k5) (fun y hy hb => by
    have : y = h.size := hb
    omega)
  refine ldL_row (kk.row row (fun h => h)) rfl (ldL_row (kk.row row (fun h => h)) rfl ?_)
  refine cloneL_spec rfl (sl1.keep kk (fun _ _ h => h)) ?_ (by omega) ?_
  · intro v hv
    obtain ⟨x, hx, rfl⟩ := List.mem_map.1 hv
    obtain ⟨_, hh | ⟨_, _, hh, _⟩⟩ := g1 x hx
    · rw [hh.1]; rfl
    · rw [hh]; rfl
  intro c6 b6 h6 hb6 q6 k6
  have kk6 := kk.trans' k6
  refine ⟨ldL_row (kk6.row row (fun h => h)) rfl rfl, ?_⟩
  refine cloneW_spec (sl2.keep kk6 (fun _ _ h => h)) ?_ (by omega) ?_
  · intro v hv
    obtain ⟨x, hx, hv⟩ := List.mem_flatMap.1 hv
    simp only [entV, List.mem_cons, List.not_mem_nil, or_false] at hv
    rcases hv with rfl | rfl
    · rfl
    · obtain ⟨_, hh | ⟨_, _, hh, _⟩⟩ := (g2 x hx).2.2.1
      · rw [hh.1]; rfl
      · rw [hh]; rfl
  intro a7 c7 h7 hb7 q7 k7
  have n7 := (k6.trans' k7).row n5 (fun h => h)
  refine stC_row n7 (by simp) rfl ?_
  intro h8 s8 n8 k8
  refine stC_row n8 (by simp) rfl ?_
  intro h9 s9 n9 k9
  have hlt5 := n5.lt
  have hs6 := k6.size
  have hs7 := k7.size
  have k79 : Keep (· = h.size) h7 h9 := k8.trans' k9
  have kk9 : Keep (fun _ => False) h h9 := (kk6.trans' k7).trans k79 (fun y hy hb => by
    have : y = h.size := hb
    omega)
  have hb6ne : b6 ≠ h.size := by omega
  have hb6lt := q6.blk_lt (b := b6) (blk_some.2 rfl)
  have h7ne : ∀ b, blk a7 b → b ≠ h.size := fun b hb => by have := hb7 b hb; omega
  have sec9 : ∀ {v : Value} {s : ByteArray}, Sec h im v s → Sec h9 im v s := fun hs => hs.keep kk9 (fun _ _ h => h)
  refine hk h.size (fun b => b = h.size ∨ b = b6 ∨ blk a7 b) h9 ?_ ⟨⟨b6, c6, secs, a7, c7, cv, e1, e2, n9, ?_, ?_, fun x hx => sec9 (g1 x hx), fun x hx => ?_, .inl rfl, .inr (.inl rfl), fun b hb => .inr (.inr hb), fun e => hb6ne e.symm, fun hb => h7ne _ hb rfl, fun hb => ?_⟩, ?_, ?_, le, fz⟩ (hr0.keep kk9 (fun _ _ h => h) (fun _ _ h => h)) kk9
  · rintro b (rfl | rfl | hb)
    · exact Nat.le_refl _
    · omega
    · have := hb7 b hb; omega
  · exact (q6.keep k7 (fun _ _ h => h)).keep k79 (fun b hb e => by
      rw [blk_some] at hb
      have e' : b = h.size := e
      simp only at hb
      omega)
  · exact q7.keep k79 (fun b hb e => h7ne b hb e)
  · obtain ⟨w1, w2, w3, w4⟩ := g2 x hx
    exact ⟨w1, w2, sec9 w3, w4⟩
  · have := hb7 _ hb
    omega
  · rintro b (rfl | rfl | hb) hi
    · have := lt _ (.inr hi); omega
    · have := lt _ (.inr hi); have := kk.size; omega
    · have := lt _ (.inr hi); have := hb7 b hb; have := kk.size; omega
  · rintro b ((rfl | rfl | hb) | hi)
    · omega
    · omega
    · have := q7.blk_lt hb; omega
    · have := lt _ (.inr hi); have := kk9.size; omega

end Disk
end Go.Proofs.Ytmmoilenemogoaa
