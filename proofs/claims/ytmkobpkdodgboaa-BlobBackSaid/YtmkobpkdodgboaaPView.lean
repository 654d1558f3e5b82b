/- A device as a map from places to sectors: what writes, flushes and crashes do to it. -/
import Derived.Test.YtmkobpkdodgboaaPDiskL
namespace Go.Proofs.Ytmkobpkdodgboaa
open Go D
set_option linter.unusedVariables false
set_option linter.unusedSimpArgs false
namespace Disk

theorem write_c (m : M) (i : Int) (s : ByteArray) : (write m i s).2.l = m.l ∧ ((write m i s).1 = 0 → (write m i s).2.c = m.c ++ [(i, s)]) ∧ ((write m i s).1 ≠ 0 → (write m i s).2.c = m.c) := by
  obtain ⟨b1, b2⟩ := burn_l m
  unfold write
  split
  · exact ⟨rfl, fun h => absurd h (by simp), fun _ => rfl⟩
  · split
    · exact ⟨rfl, fun h => absurd h (by simp), fun _ => rfl⟩
    · split
      · rename_i hb
        exact ⟨b1, fun h => absurd h hb, fun _ => b2⟩
      · exact ⟨b1, fun _ => by simp only [b2], fun h => absurd rfl h⟩
theorem flush_c (m : M) : ((flush m).1 = 0 → (flush m).2.l = lays m.l m.c ∧ (flush m).2.c = []) ∧ ((flush m).1 ≠ 0 → (flush m).2.l = m.l ∧ (flush m).2.c = m.c) := by
  obtain ⟨b1, b2⟩ := burn_l m
  unfold flush
  split
  · exact ⟨fun h => absurd h (by simp), fun _ => ⟨rfl, rfl⟩⟩
  · split
    · rename_i hb
      exact ⟨fun h => absurd h hb, fun _ => ⟨b1, b2⟩⟩
    · exact ⟨fun _ => ⟨rfl, rfl⟩, fun h => absurd rfl h⟩
theorem flush_alive0 {m : M} (h : m.st = 0) : flush m = (0, { m with l := lays m.l m.c, c := [] }) := by
  have hb : burn m = (0, m) := by unfold burn; rw [if_neg (by omega)]
  unfold flush
  rw [if_neg (by omega), hb]
  rfl

/-- what is seen at i where z lasts and c waits -/
def lk (c : List (Int × ByteArray)) (i : Int) (z : ByteArray) : ByteArray := c.foldl (fun s x => if x.1 = i then x.2 else s) z
/-- what lasts at i -/
def sec (l : List ByteArray) (i : Int) : ByteArray := l.getD i.toNat (noughts 256)
theorem readAt_lk (m : M) (i : Int) : readAt m i = lk m.c i (sec m.l i) := rfl
theorem lk_append (c d : List (Int × ByteArray)) (i : Int) (z : ByteArray) : lk (c ++ d) i z = lk d i (lk c i z) := by simp [lk]
theorem lk_one (x : Int × ByteArray) (i : Int) (z : ByteArray) : lk [x] i z = if x.1 = i then x.2 else z := rfl
theorem lk_nil (i : Int) (z : ByteArray) : lk [] i z = z := rfl
theorem lk_far {c : List (Int × ByteArray)} {i : Int} (h : ∀ x ∈ c, x.1 ≠ i) (z : ByteArray) : lk c i z = z := by
  induction c generalizing z with
  | nil => rfl
  | cons x c ih =>
    show lk c i (if x.1 = i then x.2 else z) = z
    rw [if_neg (h x (by simp)), ih (fun y hy => h y (by simp [hy]))]

theorem sec_set {l : List ByteArray} {k : Int} {v : ByteArray} {i : Int} (hk : 0 ≤ k) (h0 : 0 ≤ i) (h1 : i < l.length) : sec (l.set k.toNat v) i = if k = i then v else sec l i := by
  unfold sec
  by_cases e : k = i
  · subst e
    rw [if_pos rfl, List.getD_eq_getElem?_getD, List.getElem?_set, if_pos rfl, if_pos (by omega)]; rfl
  · rw [if_neg e, List.getD_eq_getElem?_getD, List.getElem?_set_ne (by omega), ← List.getD_eq_getElem?_getD]

theorem lays_lk {i : Int} (h0 : 0 ≤ i) : ∀ (c : List (Int × ByteArray)) (l : List ByteArray), (∀ x ∈ c, 0 ≤ x.1) → i < l.length → sec (lays l c) i = lk c i (sec l i)
  | [], l, _, _ => rfl
  | x :: c, l, hk, h1 => by
    show sec (lays (l.set x.1.toNat x.2) c) i = lk c i (if x.1 = i then x.2 else sec l i)
    rw [lays_lk h0 c _ (fun y hy => hk y (by simp [hy])) (by rw [List.length_set]; exact h1), sec_set (hk x (by simp)) h0 h1]

/-- what may be seen at i behind a crash -/
def Poss (m : M) (i : Int) (s : ByteArray) : Prop := s = sec m.l i ∨ ∃ x ∈ m.c, x.1 = i ∧ x.2 = s

theorem kept_sub : ∀ (c : List (Int × ByteArray)) (ks : List Bool) (x : Int × ByteArray), x ∈ kept c ks → x ∈ c
  | [], ks, x, h => by cases ks <;> simp [kept] at h
  | y :: c, [], x, h => by simp [kept] at h
  | y :: c, k :: ks, x, h => by
    unfold kept at h
    split at h
    · rcases List.mem_cons.1 h with e | e
      · subst e; simp
      · exact List.mem_cons_of_mem _ (kept_sub c ks x e)
    · exact List.mem_cons_of_mem _ (kept_sub c ks x h)

theorem lk_or (i : Int) : ∀ (c : List (Int × ByteArray)) (z : ByteArray), lk c i z = z ∨ ∃ x ∈ c, x.1 = i ∧ x.2 = lk c i z
  | [], z => .inl rfl
  | y :: c, z => by
    show lk c i (if y.1 = i then y.2 else z) = z ∨ ∃ x ∈ y :: c, x.1 = i ∧ x.2 = lk c i (if y.1 = i then y.2 else z)
    rcases lk_or i c (if y.1 = i then y.2 else z) with h | ⟨x, hx, h1, h2⟩
    · by_cases e : y.1 = i
      · rw [if_pos e] at h ⊢
        exact .inr ⟨y, by simp, e, h.symm⟩
      · rw [if_neg e] at h ⊢
        exact .inl h
    · exact .inr ⟨x, List.mem_cons_of_mem _ hx, h1, h2⟩

theorem crash_poss {m : M} (ks : List Bool) {i : Int} (h0 : 0 ≤ i) (h1 : i < m.l.length) (hk : ∀ x ∈ m.c, 0 ≤ x.1) : Poss m i (readAt (crash m ks) i) := by
  have e : readAt (crash m ks) i = lk (kept m.c ks) i (sec m.l i) := lays_lk h0 _ _ (fun x hx => hk x (kept_sub _ _ _ hx)) h1
  rw [e]
  rcases lk_or i (kept m.c ks) (sec m.l i) with h | ⟨x, hx, h2, h3⟩
  · exact .inl h
  · exact .inr ⟨x, kept_sub _ _ _ hx, h2, h3⟩

theorem flush_view {m : M} (hf : (flush m).1 = 0) {i : Int} (h0 : 0 ≤ i) (h1 : i < m.l.length) (hk : ∀ x ∈ m.c, 0 ≤ x.1) : sec (flush m).2.l i = readAt m i := by
  rw [((flush_c m).1 hf).1]
  exact lays_lk h0 _ _ hk h1

end Disk
end Go.Proofs.Ytmkobpkdodgboaa
