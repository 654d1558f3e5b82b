/- A store's footprint; a crash of a device on which nothing is pending. -/
import Derived.Test.YtkgocfaajfaidaaKvI
namespace Go.Proofs.Ytkgocfaajfaidaa
open Go D
set_option linter.unusedVariables false
set_option linter.unusedSimpArgs false
namespace Kv
open Wal (packL unpackL Holds appM lg0 Lg secs LRow)
open Snap (KT fitsM saveM loadM okAt)
open Disk (M readAt crash)

theorem crash_nil {m : M} (hc : m.c = []) (ks : List Bool) : crash m ks = ⟨m.l, [], 0, 0⟩ := by
  unfold Disk.crash
  rw [hc]
  have : Disk.kept [] ks = [] := by cases ks <;> rfl
  rw [this]; rfl
theorem inv_crash {x : St} (hx : Inv x) (ks : List Bool) : Inv ⟨crash x.m ks, x.q, x.E, x.L, x.l, x.n⟩ := by
  have hc := hx.c
  rw [crash_nil hc]
  have rd : ∀ i, readAt (⟨x.m.l, [], 0, 0⟩ : M) i = readAt x.m i := fun i => by rw [Disk.readAt_lk, Disk.readAt_lk, hc]
  obtain ⟨n0, l0, css, h1, h2, h3, h4, h5, h6, h7, h8⟩ := hx.ex
  have hq := hx.q4
  exact mkInv hx.sz hx.qe hx.eb (Snap.kt_congr (fun i _ _ => rd i) (by omega) h1) h2 (h3.view rfl rfl (fun i _ _ _ => rd i)) h4 h5 h6 h7 h8 hx.ok hx.fit
/-- all that a store is read from -/
def Vf (mu im F : Nat → Prop) (s g b : Nat) : Prop := mu b ∨ im b ∨ F b ∨ b = s ∨ b = g
theorem At.vlt {h : Heap} {mu im F : Nat → Prop} {d s g t : Nat} {x : St} (ha : At h mu im F d s g t x) : ∀ b, Vf mu im F s g b → b < h.size := fun b hb => by
  rcases hb with hb | hb | hb | hb | hb
  · exact ha.dev.lt b (.inl hb)
  · exact ha.dev.lt b (.inr hb)
  · exact (ha.f b hb).1
  · rw [hb]; exact ha.lts.1
  · rw [hb]; exact ha.lts.2
theorem At.far {h h' : Heap} {mu im F S : Nat → Prop} {d s g t : Nat} {x : St} (ha : At h mu im F d s g t x) (hk : Keep S h h') (hS : ∀ b, Vf mu im F s g b → ¬ S b) : At h' mu im F d s g t x :=
  ha.keep hk (fun b hb => hS b (.inl hb)) (fun b hb => hS b (.inr (.inl hb))) (fun b hb => hS b (.inr (.inr (.inl hb)))) (hS s (.inr (.inr (.inr (.inl rfl))))) (hS g (.inr (.inr (.inr (.inr rfl)))))
theorem wr_vf {mu im F : Nat → Prop} {s g b : Nat} (h : Wr mu s g b) : Vf mu im F s g b := by
  rcases h with h | h | h
  · exact .inl h
  · exact .inr (.inr (.inr (.inl h)))
  · exact .inr (.inr (.inr (.inr h)))

end Kv
end Go.Proofs.Ytkgocfaajfaidaa
