/- Contracts of package alloc: a copy. -/
import Derived.Test.YtmmoilenemogoaaPAllocC
namespace Go.Proofs.Ytmmoilenemogoaa
open Go D
set_option linter.unusedVariables false
set_option linter.unusedSimpArgs false
namespace Alloc

theorem clone64_spec {h : Heap} {a : Option Addr} {l c : Nat} {vs : List Value} {x : Addr} (ha : a = some x) (hs : SlR h 1 a l c vs) (hv : ∀ v ∈ vs, v.oneCell' = true) (hl : l ≤ 1000000) {R : Sl → Heap → Prop}
    (hk : ∀ c' b h', h.size ≤ b → SlR h' 1 (some ⟨b, 0, none⟩) l c' vs → Keep (fun _ => False) h h' → R ⟨some ⟨b, 0, none⟩, l, c'⟩ h') :
    CallT Try.prog slices_Clone_uint64_no [.slice a l c] h [.sc .sl] R := by
  have hx := slices_Clone_uint64_call (s_0 := ⟨a, l, c⟩) (R := R) (h := h)
  apply hx
  simp only [slices_Clone_uint64]
  refine cnd_f (by rw [ha]; rfl) ?_
  refine newB_row ?_
  intro h1 s1 r1 k1
  have hs1 := hs.keep k1 (fun _ _ h => h)
  refine hs1.rd ?_
  have e0 : SlR h1 1 (some ⟨h.size, 0, none⟩) 0 0 [] := .inr ⟨h.size, 0, _, rfl, r1, by simp, by simp, by simp, by simp⟩
  refine e0.app rfl (by rw [hs.len]) hv (by omega) ?_
  intro a' c' h2 q1 q2 q3
  rw [Nat.zero_add, List.nil_append] at q1
  rw [Nat.zero_add]
  have hk2 : Keep (fun _ => False) h h2 := k1.trans q2 (fun y hy hb => by rw [blk_some] at hb; simp only at hb; omega)
  rcases q3 with ⟨rfl, _⟩ | ⟨rfl, _⟩
  · exact hk c' h.size h2 (Nat.le_refl _) q1 hk2
  · exact hk c' h1.size h2 (by omega) q1 hk2

theorem copy_spec {h : Heap} {p q : Nat} {bits : List Bool} (hr : Rep h p q bits) {R : Option Addr → Heap → Prop}
    (hk : ∀ p' q' h', h.size ≤ p' → h.size ≤ q' → Rep h' p' q' bits → Keep (fun _ => False) h h' → R (some ⟨p', 0, none⟩) h') :
    CallT Try.prog alloc_Space_Copy_no [.pointer (some ⟨p, 0, none⟩)] h [.sc .ptr] R := by
  apply alloc_Space_Copy_call
  obtain ⟨⟨ws, extra, cap, r1, r2, g1, g2, g3, g4, g5⟩, hne, hle⟩ := hr
  simp only [alloc_Space_Copy, nn_eq]
  refine ldL_row r1 rfl ?_
  rw [add_mk, add_mk]
  refine ldI_row r1 (n := (bits.length : Int)) rfl ?_
  refine ldI_row r1 (n := freeOf bits) rfl ?_
  refine newB_row ?_
  intro h1 s1 n1 k1
  refine stC_row n1 (by simp) rfl ?_
  intro h2 s2 n2 k2
  rw [add_mk, add_mk]
  refine stC_row n2 (by simp) rfl ?_
  intro h3 s3 n3 k3
  refine stC_row n3 (by simp) rfl ?_
  intro h4 s4 n4 k4
  have kk : Keep (fun _ => False) h h4 := (k1.trans ((k2.trans' k3).trans' k4) (fun y hy hb => by
    have : y = h.size := hb
    omega))
  have r1' := kk.row r1 (fun h => h)
  refine ldL_row r1' rfl ?_
  have hs : SlR h4 1 (some ⟨q, 0, none⟩) ws.length cap (ws.map wv) := .inr ⟨q, 0, _, rfl, kk.row r2 (fun h => h), g2, by simp; omega, by simp, by simp⟩
  refine clone64_spec rfl hs (by simp [wv, Value.oneCell']) (by omega) ?_
  intro c' b h5 hb q1 k5
  have n5 := k5.row n4 (fun h => h)
  refine stC_row n5 (by simp) rfl ?_
  intro h6 s6 n6 k6
  have hbne : b ≠ h.size := by have := n4.lt; omega
  refine hk h.size b h6 (Nat.le_refl _) (by have := kk.size; omega) ⟨?_, fun e => hbne e.symm, hle⟩ ?_
  · rcases q1 with ⟨e, _⟩ | ⟨b', o, cs, e, w1, w2, w3, w4, w5⟩
    · cases e
    · injection e with e
      injection e with e1 e2
      subst e1 e2
      rw [List.drop_zero, Nat.mul_one] at w5
      have e3 : cs = ws.map wv ++ cs.drop ws.length := by rw [← w5, List.take_append_drop]
      refine ⟨ws, cs.drop ws.length, c', ?_, ?_, g1, w2, ?_, g4, g5⟩
      · exact n6
      · rw [← e3]; exact k6.row w1 hbne
      · simp; omega
  · exact (kk.trans' k5).trans k6 (fun y hy hb' => by
      have : y = h.size := hb'
      omega)

/-- what Take, Give, Mark do to the bits -/
def TakeR (bits : List Bool) (k : Int) (r : Int × Int) (bits' : List Bool) : Prop :=
  (∃ s, First bits k s ∧ r = (s, 0) ∧ bits' = flip bits s.toNat k.toNat) ∨ (k < 1 ∧ r = (0, 1) ∧ bits' = bits) ∨ (1 ≤ k ∧ (∀ s, ¬ AllOf bits s k false) ∧ r = (0, 60) ∧ bits' = bits)

theorem TakeR.eq {bits : List Bool} {k : Int} {r r' : Int × Int} {b b' : List Bool} (h : TakeR bits k r b) (h' : TakeR bits k r' b') : r = r' ∧ b = b' := by
  rcases h with ⟨s, h1, rfl, rfl⟩ | ⟨h1, rfl, rfl⟩ | ⟨h1, h2, rfl, rfl⟩ <;> rcases h' with ⟨s', h1', rfl, rfl⟩ | ⟨h1', rfl, rfl⟩ | ⟨h1', h2', rfl, rfl⟩
  · have := h1.eq h1'
    subst this
    exact ⟨rfl, rfl⟩
  · have := h1.1.1; omega
  · exact absurd h1.1 (h2' _)
  · have := h1'.1.1; omega
  · exact ⟨rfl, rfl⟩
  · omega
  · exact absurd h1'.1 (h2 _)
  · omega
  · exact ⟨rfl, rfl⟩

theorem take_rel {h : Heap} {p q : Nat} {bits : List Bool} (hr : Rep h p q bits) {k : Int} (hki : InI k) {R : Int × Int → Heap → Prop}
    (hk : ∀ r bits' h', TakeR bits k r bits' → Rep h' p q bits' → Keep (fun x => x = p ∨ x = q) h h' → R r h') :
    CallT Try.prog alloc_Space_Take_no [.pointer (some ⟨p, 0, none⟩), .int .i64 k] h [.sc (.int .i64), .sc (.int .i64)] R :=
  take_spec hr hki (fun s hf h' w1 w2 _ => hk _ _ h' (.inl ⟨s, hf, rfl, rfl⟩) w1 w2) (fun h1 => hk _ _ h (.inr (.inl ⟨h1, rfl, rfl⟩)) hr (.refl _ _)) (fun h1 h2 => hk _ _ h (.inr (.inr ⟨h1, h2, rfl, rfl⟩)) hr (.refl _ _))

def GiveR (bits : List Bool) (s k : Int) (t : Bool) (r : Int) (bits' : List Bool) : Prop :=
  (AllOf bits s k t ∧ r = 0 ∧ bits' = flip bits s.toNat k.toNat) ∨ (¬ AllOf bits s k t ∧ r = 1 ∧ bits' = bits)

theorem GiveR.eq {bits : List Bool} {s k : Int} {t : Bool} {r r' : Int} {b b' : List Bool} (h : GiveR bits s k t r b) (h' : GiveR bits s k t r' b') : r = r' ∧ b = b' := by
  rcases h with ⟨h1, rfl, rfl⟩ | ⟨h1, rfl, rfl⟩ <;> rcases h' with ⟨h1', rfl, rfl⟩ | ⟨h1', rfl, rfl⟩
  · exact ⟨rfl, rfl⟩
  · exact absurd h1 h1'
  · exact absurd h1' h1
  · exact ⟨rfl, rfl⟩

theorem give_rel {h : Heap} {p q : Nat} {bits : List Bool} (hr : Rep h p q bits) {s k : Int} (hs : InI s) (hki : InI k) {R : Int → Heap → Prop}
    (hk : ∀ r bits' h', GiveR bits s k true r bits' → Rep h' p q bits' → Keep (fun x => x = p ∨ x = q) h h' → R r h') :
    CallT Try.prog alloc_Space_Give_no [.pointer (some ⟨p, 0, none⟩), .int .i64 s, .int .i64 k] h [.sc (.int .i64)] R :=
  give_spec hr hs hki (fun ha h' w1 w2 _ => hk _ _ h' (.inl ⟨ha, rfl, rfl⟩) w1 w2) (fun hn => hk _ _ h (.inr ⟨hn, rfl, rfl⟩) hr (.refl _ _))
theorem mark_rel {h : Heap} {p q : Nat} {bits : List Bool} (hr : Rep h p q bits) {s k : Int} (hs : InI s) (hki : InI k) {R : Int → Heap → Prop}
    (hk : ∀ r bits' h', GiveR bits s k false r bits' → Rep h' p q bits' → Keep (fun x => x = p ∨ x = q) h h' → R r h') :
    CallT Try.prog alloc_Space_Mark_no [.pointer (some ⟨p, 0, none⟩), .int .i64 s, .int .i64 k] h [.sc (.int .i64)] R :=
  mark_spec hr hs hki (fun ha h' w1 w2 _ => hk _ _ h' (.inl ⟨ha, rfl, rfl⟩) w1 w2) (fun hn => hk _ _ h (.inr ⟨hn, rfl, rfl⟩) hr (.refl _ _))
end Alloc
end Go.Proofs.Ytmmoilenemogoaa
