/- stowagelaw10.AllocPlays returns true and writes nothing that was there. -/
import Derived.Test.YtmmoilenemogoaaPAllocE
import Derived.Test.YtmmoilenemogoaaPRef10
namespace Go.Proofs.Ytmmoilenemogoaa
open Go D
set_option linter.unusedVariables false
set_option linter.unusedSimpArgs false

theorem withJ.inl {σ : Type} {Y : σ → Heap → Prop} {X : (σ → Heap → Prop) → Prop} (h : X Y) : withJ Y X := h
theorem withJ.intro {σ : Type} {Y : σ → Heap → Prop} {X : (σ → Heap → Prop) → Prop} (I : σ → Heap → Prop) (hY : ∀ s h, I s h → Y s h) (hX : ∀ J : σ → Heap → Prop, (∀ s h, I s h → J s h) → X J) : withJ Y X := hX Y hY

/-- a slice of triples of ints that came in -/
def OpsAt (h : Heap) (a : Option Addr) (l : Nat) : Prop := ∀ i : Nat, i < l → ∃ x n0 n1 n2, a = some x ∧ cellH h (x.add (i * 3)) = some (.int .i64 n0) ∧ cellH h ((x.add (i * 3)).add 1) = some (.int .i64 n1) ∧ cellH h ((x.add (i * 3)).add 2) = some (.int .i64 n2) ∧ InI n0 ∧ InI n1 ∧ InI n2

theorem ops_of {h : Heap} {a : Option Addr} {l c n : Nat} (hs : InSl 3 (InAgg 3 [(0, 1, InInt .i64), (1, 1, InInt .i64), (2, 1, InInt .i64)]) h n [.slice a l c]) : OpsAt h a l := by
  rcases hs with h1 | ⟨x, l', c', h1, h2, h3, h4, h5⟩
  · injection h1 with h1
    injection h1 with h1 h2 h3
    subst h2
    intro i hi
    omega
  · injection h1 with h1
    injection h1 with e1 e2 e3
    subst e1 e2 e3
    intro i hi
    obtain ⟨r, b, g1, _, g2, g3, g4⟩ := h5 i (by omega)
    obtain ⟨b0, _, n0, f0, u0, v0, _⟩ := g4 (0, 1, InInt .i64) (by simp)
    obtain ⟨b1, _, n1, f1, u1, v1, _⟩ := g4 (1, 1, InInt .i64) (by simp)
    obtain ⟨b2, _, n2, f2, u2, v2, _⟩ := g4 (2, 1, InInt .i64) (by simp)
    match r, g1, f0, f1, f2 with
    | [y0, y1, y2], _, f0, f1, f2 =>
      simp at f0 f1 f2
      subst f0 f1 f2
      have w0 := g2 0 (by omega)
      rw [add_zero] at w0
      exact ⟨x, n0, n1, n2, rfl, w0, g2 1 (by omega), g2 2 (by omega), ⟨u0, v0⟩, ⟨u1, v1⟩, ⟨u2, v2⟩⟩

namespace Alloc

/-- a space and the document's answer hold the same units -/
def Both (h0 h : Heap) (s w : Option Addr) : Prop :=
  ∃ bits p q pr ar, s = some ⟨p, 0, none⟩ ∧ w = some ⟨pr, 0, none⟩ ∧ Rep h p q bits ∧ Ref10.Rep h pr ar bits ∧ pr ≠ p ∧ pr ≠ q ∧ ¬ blk ar p ∧ ¬ blk ar q ∧ h0.size ≤ p ∧ h0.size ≤ q ∧ h0.size ≤ pr ∧ (∀ b, blk ar b → h0.size ≤ b) ∧ Keep (fun y => h0.size ≤ y) h0 h

theorem Both.keep {h0 h h' : Heap} {s w : Option Addr} (hb : Both h0 h s w) (hk : Keep (fun _ => False) h h') : Both h0 h' s w := by
  obtain ⟨bits, p, q, pr, ar, e1, e2, r1, r2, d1, d2, d3, d4, z1, z2, z3, z4, k⟩ := hb
  exact ⟨bits, p, q, pr, ar, e1, e2, r1.keep hk (fun h => h) (fun h => h), r2.keep hk (fun h => h) (fun _ _ h => h), d1, d2, d3, d4, z1, z2, z3, z4, k.trans hk (fun _ _ h => h.elim)⟩

/-- what Take, Give, Mark do to the bits -/
def TakeR (bits : List Bool) (k : Int) (r : Int × Int) (bits' : List Bool) : Prop :=
  (∃ s, First bits k s ∧ r = (s, 0) ∧ bits' = flip bits s.toNat k.toNat) ∨ (k < 1 ∧ r = (0, 1) ∧ bits' = bits) ∨ (1 ≤ k ∧ (∀ s, ¬ AllOf bits s k false) ∧ r = (0, 60) ∧ bits' = bits)

theorem TakeR.eq {bits : List Bool} {k : Int} {r r' : Int × Int} {b b' : List Bool} (h : TakeR bits k r b) (h' : TakeR bits k r' b') : r = r' ∧ b = b' := by
  rcases h with ⟨s, h1, rfl, rfl⟩ | ⟨h1, rfl, rfl⟩ | ⟨h1, h2, rfl, rfl⟩ <;> rcases h' with ⟨s', h1', rfl, rfl⟩ | ⟨h1', rfl, rfl⟩ | ⟨h1', h2', rfl, rfl⟩
  · have := h1.eq h1'
    subst this
    exact ⟨rfl, rfl⟩
  · have := h1.1.1; omega
  · exact absurd h1.1 (h2' _)
  · have := h1'.1.1; omega
  · exact ⟨rfl, rfl⟩
  · omega
  · exact absurd h1'.1 (h2 _)
  · omega
  · exact ⟨rfl, rfl⟩

theorem take_rel {h : Heap} {p q : Nat} {bits : List Bool} (hr : Rep h p q bits) {k : Int} (hki : InI k) {R : Int × Int → Heap → Prop}
    (hk : ∀ r bits' h', TakeR bits k r bits' → Rep h' p q bits' → Keep (fun x => x = p ∨ x = q) h h' → R r h') :
    CallT Try.prog alloc_Space_Take_no [.pointer (some ⟨p, 0, none⟩), .int .i64 k] h [.sc (.int .i64), .sc (.int .i64)] R :=
  take_spec hr hki (fun s hf h' w1 w2 _ => hk _ _ h' (.inl ⟨s, hf, rfl, rfl⟩) w1 w2) (fun h1 => hk _ _ h (.inr (.inl ⟨h1, rfl, rfl⟩)) hr (.refl _ _)) (fun h1 h2 => hk _ _ h (.inr (.inr ⟨h1, h2, rfl, rfl⟩)) hr (.refl _ _))

theorem take_rel' {h : Heap} {p : Nat} {a : Option Addr} {bits : List Bool} (hr : Ref10.Rep h p a bits) {k : Int} (hki : InI k) {R : Int × Int → Heap → Prop}
    (hk : ∀ r bits' h', TakeR bits k r bits' → Ref10.Rep h' p a bits' → Keep (blk a) h h' → R r h') :
    CallT Try.prog ref10_Space_Take_no [.pointer (some ⟨p, 0, none⟩), .int .i64 k] h [.sc (.int .i64), .sc (.int .i64)] R :=
  Ref10.take_spec hr hki (fun s hf h' w1 w2 _ => hk _ _ h' (.inl ⟨s, hf, rfl, rfl⟩) w1 w2) (fun h1 => hk _ _ h (.inr (.inl ⟨h1, rfl, rfl⟩)) hr (.refl _ _)) (fun h1 h2 => hk _ _ h (.inr (.inr ⟨h1, h2, rfl, rfl⟩)) hr (.refl _ _))

def GiveR (bits : List Bool) (s k : Int) (t : Bool) (r : Int) (bits' : List Bool) : Prop :=
  (AllOf bits s k t ∧ r = 0 ∧ bits' = flip bits s.toNat k.toNat) ∨ (¬ AllOf bits s k t ∧ r = 1 ∧ bits' = bits)

theorem GiveR.eq {bits : List Bool} {s k : Int} {t : Bool} {r r' : Int} {b b' : List Bool} (h : GiveR bits s k t r b) (h' : GiveR bits s k t r' b') : r = r' ∧ b = b' := by
  rcases h with ⟨h1, rfl, rfl⟩ | ⟨h1, rfl, rfl⟩ <;> rcases h' with ⟨h1', rfl, rfl⟩ | ⟨h1', rfl, rfl⟩
  · exact ⟨rfl, rfl⟩
  · exact absurd h1 h1'
  · exact absurd h1' h1
  · exact ⟨rfl, rfl⟩

theorem give_rel {h : Heap} {p q : Nat} {bits : List Bool} (hr : Rep h p q bits) {s k : Int} (hs : InI s) (hki : InI k) {R : Int → Heap → Prop}
    (hk : ∀ r bits' h', GiveR bits s k true r bits' → Rep h' p q bits' → Keep (fun x => x = p ∨ x = q) h h' → R r h') :
    CallT Try.prog alloc_Space_Give_no [.pointer (some ⟨p, 0, none⟩), .int .i64 s, .int .i64 k] h [.sc (.int .i64)] R :=
  give_spec hr hs hki (fun ha h' w1 w2 _ => hk _ _ h' (.inl ⟨ha, rfl, rfl⟩) w1 w2) (fun hn => hk _ _ h (.inr ⟨hn, rfl, rfl⟩) hr (.refl _ _))
theorem mark_rel {h : Heap} {p q : Nat} {bits : List Bool} (hr : Rep h p q bits) {s k : Int} (hs : InI s) (hki : InI k) {R : Int → Heap → Prop}
    (hk : ∀ r bits' h', GiveR bits s k false r bits' → Rep h' p q bits' → Keep (fun x => x = p ∨ x = q) h h' → R r h') :
    CallT Try.prog alloc_Space_Mark_no [.pointer (some ⟨p, 0, none⟩), .int .i64 s, .int .i64 k] h [.sc (.int .i64)] R :=
  mark_spec hr hs hki (fun ha h' w1 w2 _ => hk _ _ h' (.inl ⟨ha, rfl, rfl⟩) w1 w2) (fun hn => hk _ _ h (.inr ⟨hn, rfl, rfl⟩) hr (.refl _ _))
theorem give_rel' {h : Heap} {p : Nat} {a : Option Addr} {bits : List Bool} (hr : Ref10.Rep h p a bits) {s k : Int} (hs : InI s) (hki : InI k) {R : Int → Heap → Prop}
    (hk : ∀ r bits' h', GiveR bits s k true r bits' → Ref10.Rep h' p a bits' → Keep (blk a) h h' → R r h') :
    CallT Try.prog ref10_Space_Give_no [.pointer (some ⟨p, 0, none⟩), .int .i64 s, .int .i64 k] h [.sc (.int .i64)] R :=
  Ref10.give_spec hr hs hki (fun ha h' w1 w2 _ => hk _ _ h' (.inl ⟨ha, rfl, rfl⟩) w1 w2) (fun hn => hk _ _ h (.inr ⟨hn, rfl, rfl⟩) hr (.refl _ _))
theorem mark_rel' {h : Heap} {p : Nat} {a : Option Addr} {bits : List Bool} (hr : Ref10.Rep h p a bits) {s k : Int} (hs : InI s) (hki : InI k) {R : Int → Heap → Prop}
    (hk : ∀ r bits' h', GiveR bits s k false r bits' → Ref10.Rep h' p a bits' → Keep (blk a) h h' → R r h') :
    CallT Try.prog ref10_Space_Mark_no [.pointer (some ⟨p, 0, none⟩), .int .i64 s, .int .i64 k] h [.sc (.int .i64)] R :=
  Ref10.mark_spec hr hs hki (fun ha h' w1 w2 _ => hk _ _ h' (.inl ⟨ha, rfl, rfl⟩) w1 w2) (fun hn => hk _ _ h (.inr ⟨hn, rfl, rfl⟩) hr (.refl _ _))

theorem allocPlays_spec {h : Heap} {n : Int} {x1 : Sl} (hn : InI n) (hs : OpsAt h x1.a x1.len) :
    CallT Try.prog law10_AllocPlays_no [.int .i64 n, .slice x1.a x1.len x1.cap] h [.sc .bool] (fun b h' => b = true ∧ Keep (fun _ => False) h h') := by
  apply law10_AllocPlays_call
  simp only [law10_AllocPlays, cnd_and]
  refine new_spec hn ?_ ?_
  · intro hbad
    refine Ref10.new_spec hn ?_ ?_
    · intro _
      refine withJ.inl (withJ.inl ?_)
      refine cnd_f rfl (cnd_f rfl ?_)
      refine awake_spec fun h' hk => ?_
      refine cnd_f rfl ?_
      refine LoopT.intro (fun s h2 => s.1 = none ∧ h2 = h') (fun _ _ => 0) ⟨rfl, rfl⟩ ?_
      rintro ⟨s1, s2, i⟩ h2 ⟨e1, rfl⟩
      replace e1 : s1 = none := e1
      subst e1
      refine withJ.inl ?_
      exact cnd_of (fun hin => by simp at hin) (fun _ => ⟨by first | rfl | trivial, hk⟩)
    · intro h1 h2
      omega
  · intro hn0 hn1 p q h1 hp hq hr hk1
    refine Ref10.new_spec hn (fun hb => by omega) ?_
    intro _ _ pr ar h2 hpr har hrr hk2
    refine withJ.inl (withJ.inl ?_)
    refine cnd_f rfl (cnd_f rfl ?_)
    refine awake_spec fun h3 hk3 => ?_
    refine cnd_f rfl ?_
    have hlt := hr.lt
    have b3 : Both h h3 (some ⟨p, 0, none⟩) (some ⟨pr, 0, none⟩) :=
      Both.keep ⟨_, p, q, pr, ar, rfl, rfl, hr.keep hk2 (fun h => h) (fun h => h), hrr, by omega, by omega, fun hb => by have := har p hb; omega, fun hb => by have := har q hb; omega, hp, hq,
        by have := hk1.size; omega, fun b hb => by have := har b hb; have := hk1.size; omega, (hk1.mono (fun _ _ h => h.elim)).trans hk2 (fun _ _ h => h.elim)⟩ hk3
    refine LoopT.intro (fun s h4 => 0 ≤ s.2.2 ∧ s.2.2 ≤ 100 ∧ Both h h4 s.1 s.2.1) (fun s _ => (100 - s.2.2).toNat) ⟨by simp, by simp, b3⟩ ?_
    rintro ⟨s, w, i⟩ h4 ⟨g1, g2, g3⟩
    replace g1 : 0 ≤ i := g1
    replace g2 : i ≤ 100 := g2
    replace g3 : Both h h4 s w := g3
    refine withJ.inl ?_
    have hkeep : Keep (fun y => h.size ≤ y) h h4 := by obtain ⟨_, _, _, _, _, _, _, _, _, _, _, _, _, _, _, _, _, k⟩ := g3; exact k
    refine cnd_of (fun hin => ?_) (fun hout => ⟨by first | rfl | trivial, ⟨hkeep.size, fun b hb _ => hkeep.same b hb (by omega)⟩⟩)
    simp only [Bool.and_eq_true, decide_eq_true_eq] at hin
    obtain ⟨hin1, hin2, _⟩ := hin
    refine withJ.inl ?_
    obtain ⟨x, n0, n1, n2, hx, c0, c1, c2, i0, i1, i2⟩ := hs i.toNat (by omega)
    rw [hx]
    refine idx_some g1 hin1 ?_
    have old : ∀ {a : Addr} {v : Value}, cellH h a = some v → cellH h4 a = some v := fun hc => hkeep.cell hc (by have := cell_lt hc; omega)
    refine ldI_at (old c0) (ldI_at (old c1) (ldI_at (old c2) ?_))
    refine newB_row ?_
    intro h5 s5 o5 k5
    rw [add_mk, add_mk]
    refine stC_row o5 (by simp) rfl ?_
    intro h6 s6 o6 k6
    refine stC_row o6 (by simp) rfl ?_
    intro h7 s7 o7 k7
    refine stC_row o7 (by simp) rfl ?_
    intro h8 s8 o8 k8
    have k48 : Keep (fun _ => False) h4 h8 := k5.trans ((k6.trans' k7).trans' k8) (fun y hy hb => by
      have : y = h4.size := hb
      omega)
    have hw : w64 (i + 1) = i + 1 := w64_id (by omega) (by omega)
    have hin2' : i < 100 := hin2
    refine withJ.intro (fun (t : Option Addr × Option Addr × Bool) h9 => t.2.2 = true ∧ Both h h9 t.1 t.2.1) ?_ ?_
    · rintro ⟨t1, t2, t3⟩ h9 ⟨e, b9⟩
      replace e : t3 = true := e
      replace b9 : Both h h9 t1 t2 := b9
      subst e
      obtain ⟨bits, p', q', pr', ar', rfl, rfl, r1, r2, d1, d2, d3, d4, z1, z2, z3, z4, k⟩ := b9
      refine withJ.inl ?_
      refine cnd_f rfl (cnd_f rfl ?_)
      refine free_spec r1 ?_
      refine Ref10.free_spec r2 ?_
      refine cnd_f (by simp) ?_
      refine runs_spec r1 ?_
      intro sl h10 sr sb sk
      refine Ref10.runs_spec (r2.keep sk (fun h => h) (fun _ _ h => h)) ?_
      intro tl h11 tr tb tk
      refine Ref10.same_runs (sr.keep tk (fun _ _ h => h)) tr (Nat.le_trans (runs_bound _ _).1 r1.le) ?_
      refine cnd_f rfl ?_
      show (0 ≤ w64 (i + 1) ∧ w64 (i + 1) ≤ 100 ∧ Both h h11 _ _) ∧ (100 - w64 (i + 1)).toNat < (100 - i).toNat
      rw [hw]
      refine ⟨⟨by omega, by omega, Both.keep (Both.keep ⟨bits, p', q', pr', ar', rfl, rfl, r1, r2, d1, d2, d3, d4, z1, z2, z3, z4, k⟩ sk) tk⟩, by omega⟩
    · intro J hJ
      obtain ⟨bits, p', q', pr', ar', rfl, rfl, r1, r2, d1, d2, d3, d4, z1, z2, z3, z4, k⟩ := g3
      have l1 := r1.lt
      have l2 := r2.lt
      have kk8 : Keep (fun y => h.size ≤ y) h h8 := k.trans k48 (fun _ _ h => h.elim)
      have r1' := r1.keep k48 (fun h => h) (fun h => h)
      have r2' := r2.keep k48 (fun h => h) (fun _ _ h => h)
      have o9 : Row h8 h4.size [.int .i64 n0, .int .i64 n1, .int .i64 n2] := o8
      have row1 : ∀ {h' : Heap}, Keep (fun x => x = p' ∨ x = q') h8 h' → Row h' h4.size [.int .i64 n0, .int .i64 n1, .int .i64 n2] := fun hk => hk.row o9 (by rintro (e | e) <;> omega)
      have fin : ∀ (bits' : List Bool) (h9 h10 : Heap), Rep h9 p' q' bits' → Keep (fun x => x = p' ∨ x = q') h8 h9 → Ref10.Rep h10 pr' ar' bits' → Keep (blk ar') h9 h10 → Both h h10 (some ⟨p', 0, none⟩) (some ⟨pr', 0, none⟩) := by
        intro bits' h9 h10 w1 w2 w3 w4
        refine ⟨bits', p', q', pr', ar', rfl, rfl, w1.keep w4 d3 d4, w3, d1, d2, d3, d4, z1, z2, z3, z4, ?_⟩
        exact (kk8.trans w2 (fun y hy hb => by rcases hb with hb | hb <;> omega)).trans w4 (fun y hy hb => z4 y hb)
      have keepr : ∀ {h9 : Heap}, Keep (fun x => x = p' ∨ x = q') h8 h9 → Ref10.Rep h9 pr' ar' bits := fun hk => r2'.keep hk (by rintro (e | e) <;> omega) (by rintro b hb (e | e) <;> subst e <;> contradiction)
      refine ldI_row o9 rfl ?_
      refine cnd_of (fun _ => ?_) (fun _ => ?_)
      · refine ldI_row o9 rfl ?_
        refine take_rel r1' i2 ?_
        intro ra ba h9 t1 w1 w2
        refine ldI_row (row1 w2) rfl ?_
        refine take_rel' (keepr w2) i2 ?_
        intro rb bb h10 t2 w3 w4
        obtain ⟨rfl, rfl⟩ := t1.eq t2
        exact cnd_t (by simp) (hJ _ _ ⟨by simp, fin _ _ _ w1 w2 w3 w4⟩)
      · refine cnd_of (fun _ => ?_) (fun _ => ?_)
        · refine ldI_row o9 rfl (ldI_row o9 rfl (ldI_row o9 rfl (ldI_row o9 rfl ?_)))
          refine give_rel r1' i1 i2 ?_
          intro ra ba h9 t1 w1 w2
          refine ⟨ldI_row (row1 w2) rfl rfl, ldI_row (row1 w2) rfl rfl, ?_⟩
          refine give_rel' (keepr w2) i1 i2 ?_
          intro rb bb h10 t2 w3 w4
          obtain ⟨rfl, rfl⟩ := t1.eq t2
          exact hJ _ _ ⟨by simp, fin _ _ _ w1 w2 w3 w4⟩
        · refine cnd_of (fun _ => ?_) (fun _ => ?_)
          · refine ldI_row o9 rfl (ldI_row o9 rfl (ldI_row o9 rfl (ldI_row o9 rfl ?_)))
            refine mark_rel r1' i1 i2 ?_
            intro ra ba h9 t1 w1 w2
            refine ⟨ldI_row (row1 w2) rfl rfl, ldI_row (row1 w2) rfl rfl, ?_⟩
            refine mark_rel' (keepr w2) i1 i2 ?_
            intro rb bb h10 t2 w3 w4
            obtain ⟨rfl, rfl⟩ := t1.eq t2
            exact hJ _ _ ⟨by simp, fin _ _ _ w1 w2 w3 w4⟩
          · refine cnd_of (fun _ => ?_) (fun _ => ?_)
            · refine copy_spec r1' ?_
              intro p2 q2 h9 u1 u2 u3 u4
              refine Ref10.copy_spec (r2'.keep u4 (fun h => h) (fun _ _ h => h)) ?_
              intro pr2 ar2 h10 v1 v2 v3 v4
              have l3 := u3.lt
              have s8' := kk8.size
              have s9' := u4.size
              refine hJ _ _ ⟨rfl, bits, p2, q2, pr2, ar2, rfl, rfl, u3.keep v4 (fun h => h) (fun h => h), v3, by omega, by omega, fun hb => by have := v2 _ hb; omega, fun hb => by have := v2 _ hb; omega, by omega, by omega, by omega, fun b hb => by have := v2 b hb; omega, ?_⟩
              exact (kk8.trans u4 (fun _ _ h => h.elim)).trans v4 (fun _ _ h => h.elim)
            · refine hJ _ _ ⟨rfl, fin bits h8 h8 r1' (.refl _ _) r2' (.refl _ _)⟩
end Alloc
end Go.Proofs.Ytmmoilenemogoaa
