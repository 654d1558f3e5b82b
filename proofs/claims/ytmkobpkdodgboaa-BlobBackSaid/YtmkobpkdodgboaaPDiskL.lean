/- How long a device's lists grow. -/
import Derived.Test.YtmkobpkdodgboaaPDiskC
namespace Go.Proofs.Ytmkobpkdodgboaa
open Go D
set_option linter.unusedVariables false
set_option linter.unusedSimpArgs false
namespace Disk

theorem write_len (m : M) (i : Int) (s : ByteArray) : (write m i s).2.l.length = m.l.length ∧ (write m i s).2.c.length ≤ m.c.length + 1 := by
  obtain ⟨b1, b2⟩ := burn_l m
  unfold write
  split
  · exact ⟨rfl, Nat.le_succ _⟩
  · split
    · exact ⟨rfl, Nat.le_succ _⟩
    · split
      · rw [b1, b2]; exact ⟨rfl, Nat.le_succ _⟩
      · simp only [b1, b2, List.length_append, List.length_singleton]; exact ⟨trivial, Nat.le_refl _⟩
theorem flush_len (m : M) : (flush m).2.l.length = m.l.length ∧ (flush m).2.c.length ≤ m.c.length + 1 := by
  obtain ⟨b1, b2⟩ := burn_l m
  unfold flush
  split
  · exact ⟨rfl, Nat.le_succ _⟩
  · split
    · rw [b1, b2]; exact ⟨rfl, Nat.le_succ _⟩
    · simp only [lays_length, List.length_nil]; exact ⟨trivial, by omega⟩
theorem crash_len (m : M) (ks : List Bool) : (crash m ks).l.length = m.l.length ∧ (crash m ks).c.length ≤ m.c.length + 1 := by
  unfold crash
  simp only [lays_length, List.length_nil]; exact ⟨trivial, by omega⟩
theorem fuse_len (m : M) (k : Int) : (fuse m k).l.length = m.l.length ∧ (fuse m k).c.length ≤ m.c.length + 1 := by
  unfold fuse
  split
  · exact ⟨rfl, Nat.le_succ _⟩
  · split <;> exact ⟨rfl, Nat.le_succ _⟩
theorem fuse_lc (m : M) (k : Int) : (fuse m k).l = m.l ∧ (fuse m k).c = m.c := by
  unfold fuse
  split
  · exact ⟨rfl, rfl⟩
  · split <;> exact ⟨rfl, rfl⟩
theorem maxI_m1 (k : Int) : maxI k (-1) = if k < 0 then -1 else k := by
  unfold maxI
  by_cases h : k < 0
  · rw [if_pos h]
    by_cases h2 : k = -1
    · rw [if_neg (by omega)]; exact h2
    · rw [if_pos (by omega)]
  · rw [if_neg h, if_neg (by omega)]

theorem burn_st (m : M) : (burn m).1 = 0 → (burn m).2.st = m.st := by
  unfold burn
  split
  · split
    · intro h; simp at h
    · intro _; rfl
  · intro _; rfl

end Disk
end Go.Proofs.Ytmkobpkdodgboaa
