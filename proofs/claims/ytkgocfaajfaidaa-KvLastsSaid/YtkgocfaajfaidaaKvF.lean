/- Checkpoint. -/
import Derived.Test.YtkgocfaajfaidaaKvE
namespace Go.Proofs.Ytkgocfaajfaidaa
open Go D
set_option linter.unusedVariables false
set_option linter.unusedSimpArgs false
namespace Kv
open Wal (packL unpackL Holds appM lg0 Lg secs LRow)
open Snap (KT fitsM saveM loadM okAt)
open Disk (M readAt crash)

/-- what an operation on a store may do to the heap -/
structure Step (h h' : Heap) (mu im F mu' im' F' : Nat → Prop) (s g g' : Nat) : Prop where
  keep : Keep (Wr mu s g) h h'
  gm : ∀ b, mu' b → mu b ∨ h.size ≤ b
  gi : ∀ b, im' b → im b ∨ h.size ≤ b
  gF : ∀ b, F' b → F b ∨ h.size ≤ b
  gg : g' = g ∨ h.size ≤ g'
/-- the same pairs -/
structure Same (x x' : St) : Prop where
  q : x'.q = x.q
  l : x'.l = x.l
  n : x'.n = x.n
  e1 : x.E ≤ x'.E
  e2 : x'.E ≤ x.E + 1
  st : x.m.st = 0 → x'.m.st = 0

section
variable {h : Heap} {mu im F : Nat → Prop} {d s g t : Nat} {x : St}
theorem At.lts (ha : At h mu im F d s g t x) : s < h.size ∧ g < h.size := ⟨ha.row.lt, ha.log.lt⟩
theorem At.wr_lt (ha : At h mu im F d s g t x) : ∀ b, Wr mu s g b → b < h.size := fun b hb => by
  rcases hb with hb | hb | hb
  · exact ha.dev.lt b (.inl hb)
  · rw [hb]; exact ha.lts.1
  · rw [hb]; exact ha.lts.2
theorem At.F_wr (ha : At h mu im F d s g t x) : ∀ b, F b → ¬ Wr mu s g b := fun b hb hw => by
  obtain ⟨_, f1, f2, f3⟩ := ha.f b hb
  rcases hw with hw | hw | hw
  · exact f1 hw
  · exact f2 hw
  · exact f3 hw
theorem At.im_wr (ha : At h mu im F d s g t x) : ∀ b, im b → ¬ Wr mu s g b := fun b hb hw => by
  rcases hw with hw | hw | hw
  · exact ha.dev.dis b hw hb
  · rw [hw] at hb; exact ha.s1.2 hb
  · rw [hw] at hb; exact ha.g1.2 hb

set_option maxHeartbeats 1000000 in
theorem check_spec (ha : At h mu im F d s g t x) (hx : Inv x) (hE : x.E < 1000000000) {R : Int → Heap → Prop}
    (hk : ∀ mu' im' g' m' h', At h' mu' im' F d s g' t ⟨m', x.q, x.E + 1, lg0 (2 * x.q) (2 * x.q) (x.E + 1), x.l, x.n⟩ → Inv ⟨m', x.q, x.E + 1, lg0 (2 * x.q) (2 * x.q) (x.E + 1), x.l, x.n⟩ → (x.m.st = 0 → m'.st = 0) → Step h h' mu im F mu' im' F s g g' → R 0 h')
    (hb : x.m.st ≠ 0 → ∀ mu' im' m' h', Disk.Rep h' d mu' im' m' → Keep (Wr mu s g) h h' → (∀ b, mu' b → mu b ∨ h.size ≤ b) → (∀ b, im' b → im b ∨ h.size ≤ b) → m'.c.length ≤ 900000 → (∀ ks, (∀ i, (readAt (crash m' ks) i).size = 256) → ∃ y, y.m = crash m' ks ∧ Ops y ∧ y.l = x.l ∧ y.n = x.n) → R 50 h') :
    CallT Try.prog kv_Store_Checkpoint_no [.pointer (some ⟨s, 0, none⟩)] h [.sc (.int .i64)] R := by
  have hcall := kv_Store_Checkpoint_call (some ⟨s, 0, none⟩) (R := R) (h := h)
  apply hcall; clear hcall
  unfold kv_Store_Checkpoint
  have heb := hx.eb
  obtain ⟨q1, q2, q3⟩ := hx.q4
  have hc := hx.c
  have szl := hx.szl
  obtain ⟨ls, lg⟩ := ha.lts
  refine dead_spec ha.row rfl ?_
  refine cnd_f rfl ?_
  rw [nn_eq]
  refine ldP_row (o := 0) ha.row rfl ?_
  rw [nn_eq, add_mk]
  refine ldI_row (o := 0 + 1) ha.row rfl ?_
  rw [nn_eq, add_mk]
  refine ldI_row (o := 0 + 2) ha.row rfl ?_
  refine state_spec ha.row rfl rfl ha.tree (fun b hb' => (ha.f b hb').1) (by omega) (by omega) ?_
  intro r9 h10 n10 b10 f10
  have a10 := ha.nw n10
  refine ⟨ldI_row (o := 0 + 2) a10.row rfl rfl, ldI_row (o := 0 + 1) a10.row rfl rfl, ldP_row (o := 0) a10.row rfl rfl, ?_⟩
  have ew : IntKind.u64.wrap ((x.E : Int) + 1) = ((x.E + 1 : Nat) : Int) := by rw [wrap_u64_id (by omega) (by omega)]; omega
  rw [ew]
  have rl := b10.len
  rw [stL_sz] at rl
  refine Snap.save_spec a10.dev (by rw [hc]; simp) (by exact ⟨by omega, by omega⟩) (by exact ⟨by omega, by omega⟩) (by omega) b10.rb (SlR.le b10) (by omega) (fun _ b hb' hm => by have := f10 b hb'; have := ha.dev.lt b (.inl hm); omega) ?_
  intro mu' im' h15 hr15 k15 gr15
  obtain ⟨e, m', hm⟩ : ∃ e m', saveM x.m 0 x.q (x.E + 1) (packL (stL x.n x.l)) = (e, m') := ⟨_, _, rfl⟩
  rw [hm] at hr15 ⊢
  obtain ⟨c1, c2, c3, c4⟩ := hx.check hE hm
  have z10 := n10.size
  have z15 := k15.size
  have r15 := k15.row a10.row (fun hm => ha.s1.1 hm)
  have k015 : Keep mu h h15 := n10.mono (fun _ _ h => h.elim) |>.trans k15 (fun _ _ h => h)
  refine told_spec r15 rfl ?_
  intro h17 r17 k17 s17
  have nmu' : ¬ mu' s := fun hm => by
    rcases gr15.1 s hm with h1 | h1
    · exact ha.s1.1 h1
    · omega
  have nim' : ¬ im' s := fun hm => by
    rcases gr15.2 s hm with h1 | h1
    · exact ha.s1.2 h1
    · omega
  have hr17 := hr15.keep k17 (fun b hb' e => nmu' (by have e' : b = s := e; rw [← e']; exact hb')) (fun b hb' e => nim' (by have e' : b = s := e; rw [← e']; exact hb'))
  have k017 : Keep (Wr mu s g) h h17 := (k015.mono (fun b _ hb' => .inl hb')).trans k17 (fun b _ e => .inr (.inl e))
  have z17 := k017.size
  rcases c4 with e0 | e50
  rotate_left
  · subst e50
    refine cnd_t rfl ?_
    have hst : x.m.st ≠ 0 := fun e => by have := (c3 e).1; omega
    have mcl : m'.c.length ≤ 900000 := by
      have := Snap.save_len x.m 0 x.q (x.E + 1) (packL (stL x.n x.l))
      rw [hm, hc, stL_sz] at this
      unfold Snap.parts at this
      simp only [List.length_nil] at this
      omega
    refine hb hst mu' im' m' h17 hr17 k017 (fun b hb' => (gr15.1 b hb').imp id (fun h => by omega)) (fun b hb' => (gr15.2 b hb').imp id (fun h => by omega)) mcl (fun ks hz => c2 (by omega) ks hz)
  · subst e0
    rw [if_pos (.inl rfl)] at r17
    refine cnd_f rfl ?_
    rw [nn_eq, add_mk]
    refine ldI_row (o := 0 + 2) r17 rfl ?_
    rw [nn_eq, add_mk, ew]
    refine stC_row (o := 0 + 2) r17 (by simp [SRow]) rfl ?_
    intro h21 s21 r21 k21
    have r21' : Row h21 s (SRow d x.q (x.E + 1) (some ⟨g, 0, none⟩) t x.n) := r21
    rw [nn_eq]
    refine ldP_row (o := 0) r21' rfl ?_
    rw [nn_eq, add_mk]
    refine ldI_row (o := 0 + 1) r21' rfl ?_
    rw [nn_eq, add_mk]
    refine ldI_row (o := 0 + 1) r21' rfl ?_
    rw [nn_eq, add_mk]
    refine ldI_row (o := 0 + 2) r21' rfl ?_
    have e2 : w64 (2 * (x.q : Int)) = 2 * x.q := w64_id (by omega) (by omega)
    rw [e2]
    apply wal_Begin_call
    unfold wal_Begin
    refine newB_row ?_
    intro h31 s31 r31 k31
    show nn _ _
    rw [nn_eq, add_mk]
    refine stC_row (o := 0 + 3) (k31.row r21' (fun h => h)) (by simp [SRow]) rfl ?_
    intro h33 s33 r33 k33
    have k1733 : Keep (· = s) h17 h33 := (k21.trans k31 (fun _ _ h => h.elim)).trans' k33
    have k033 : Keep (Wr mu s g) h h33 := k017.trans k1733 (fun b _ e => .inr (.inl e))
    have hr33 := hr17.keep k1733 (fun b hb' e => nmu' (by have e' : b = s := e; rw [← e']; exact hb')) (fun b hb' e => nim' (by have e' : b = s := e; rw [← e']; exact hb'))
    obtain ⟨z1, z2⟩ := Snap.Rep.secs hr33
    have inv := c1 rfl (fun i => Snap.readAt_size z1 z2 i)
    have lt17 := hr17.lt
    have sl := ls
    refine hk mu' im' h21.size m' h33 ⟨r33, k33.row r31 (fun e => by have e' : h21.size = s := e; omega), hr33, ha.tree.keep k033 ha.F_wr, ⟨nmu', nim'⟩, ⟨fun hm => by have := lt17 _ (.inl hm); omega, fun hm => by have := lt17 _ (.inr hm); omega⟩, by omega, fun b hb' => ?_⟩ inv (fun hst => (c3 hst).2)
      ⟨k033, fun b hb' => (gr15.1 b hb').imp id (fun h => by omega), fun b hb' => (gr15.2 b hb').imp id (fun h => by omega), fun b hb' => .inl hb', .inr (by omega)⟩
    obtain ⟨f1, f2, f3, f4⟩ := ha.f b hb'
    refine ⟨by have := k033.size; omega, fun hm => ?_, f3, by omega⟩
    rcases gr15.1 b hm with h1 | h1
    · exact f2 h1
    · omega
end

end Kv
end Go.Proofs.Ytkgocfaajfaidaa
