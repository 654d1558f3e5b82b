/- stowagelaw10.AllocFirst returns true and writes nothing that was there. -/
import Derived.Test.YtmmoilenemogoaaPAllocC
import Derived.Test.YtmmoilenemogoaaGLaw
namespace Go.Proofs.Ytmmoilenemogoaa
open Go D
set_option linter.unusedVariables false
set_option linter.unusedSimpArgs false

theorem cnd_and {a b : Bool} {X Y : Prop} : cnd a (cnd b X Y) Y = cnd (a && b) X Y := by cases a <;> rfl

namespace Alloc

def fill (bits : List Bool) (s m : Nat) (v : Bool) : List Bool := bits.mapIdx fun i b => if s ≤ i ∧ i < s + m then v else b
theorem fill_length (bits : List Bool) (s m : Nat) (v : Bool) : (fill bits s m v).length = bits.length := by simp [fill]
theorem fill_get (bits : List Bool) (s m i : Nat) (v : Bool) : (fill bits s m v)[i]? = (bits[i]?).map fun b => if s ≤ i ∧ i < s + m then v else b := by simp [fill, List.getElem?_mapIdx]
theorem fill_zero (bits : List Bool) (s : Nat) (v : Bool) : fill bits s 0 v = bits := by
  apply List.ext_getElem?
  intro i
  rw [fill_get]
  cases bits[i]? with
  | none => rfl
  | some b => simp only [Option.map_some, Nat.add_zero]; rw [if_neg (by omega)]
theorem fill_succ (bits : List Bool) (s m : Nat) (v : Bool) : (fill bits s m v).set (s + m) v = fill bits s (m + 1) v := by
  apply List.ext_getElem?
  intro i
  rw [List.getElem?_set, fill_get, fill_get, fill_length]
  by_cases h1 : s + m = i
  · subst h1
    rw [if_pos rfl]
    split
    · rename_i hl
      rw [List.getElem?_eq_getElem hl]
      simp only [Option.map_some]
      rw [if_pos (by omega)]
    · rename_i hl
      rw [List.getElem?_eq_none (by omega)]
      rfl
  · rw [if_neg h1]
    cases bits[i]? with
    | none => rfl
    | some b =>
      simp only [Option.map_some]
      by_cases h2 : s ≤ i ∧ i < s + m
      · rw [if_pos h2, if_pos (by omega)]
      · rw [if_neg h2, if_neg (by omega)]
theorem fill_all {bits : List Bool} {s k : Int} (h : AllOf bits s k false) (v : Bool) : fill bits s.toNat k.toNat v = if v then flip bits s.toNat k.toNat else bits := by
  obtain ⟨h1, h2, h3, h4⟩ := h
  cases v
  · apply List.ext_getElem?
    intro i
    rw [fill_get]
    by_cases h5 : s.toNat ≤ i ∧ i < s.toNat + k.toNat
    · rw [show (fun b => if s.toNat ≤ i ∧ i < s.toNat + k.toNat then false else b) = fun _ => false by funext b; rw [if_pos h5]]
      have := h4 i (by omega) (by omega)
      simp [this]
    · simp only [h5, if_false]
      show Option.map (fun b => b) bits[i]? = bits[i]?
      cases bits[i]? <;> rfl
  · apply List.ext_getElem?
    intro i
    rw [fill_get]
    simp only [if_true]
    rw [flip_get]
    by_cases h5 : s.toNat ≤ i ∧ i < s.toNat + k.toNat
    · have := h4 i (by omega) (by omega)
      simp [this, h5]
    · simp only [h5, if_false]
theorem flip_all {bits : List Bool} {s k : Int} {t : Bool} (h : AllOf bits s k t) : AllOf (flip bits s.toNat k.toNat) s k (!t) := by
  obtain ⟨h1, h2, h3, h4⟩ := h
  refine ⟨h1, h2, by rw [flip_length]; exact h3, fun i hi1 hi2 => ?_⟩
  rw [flip_get, h4 i hi1 hi2]
  simp only [Option.map_some]
  rw [if_pos (by omega)]
theorem flip_flip (bits : List Bool) (s k : Nat) : flip (flip bits s k) s k = bits := by
  apply List.ext_getElem?
  intro i
  rw [flip_get, flip_get]
  cases bits[i]? with
  | none => rfl
  | some b =>
    simp only [Option.map_some]
    by_cases h : s ≤ i ∧ i < s + k
    · rw [if_pos h, if_pos h, Bool.not_not]
    · rw [if_neg h, if_neg h]

theorem row_bool {h : Heap} {b : Nat} {bits : List Bool} (hr : Row h b (bits.map .bool)) {n : Int} (hlen : (bits.length : Int) = n) {i : Int} (h0 : 0 ≤ i) (h1 : i < n) {K : Bool → Prop} (hk : ∀ v, bits[i.toNat]? = some v → K v) :
    idx (some ⟨b, 0, none⟩) n.toNat i fun a => ldB (a.add (i.toNat * 1)) h K := by
  refine idx_some h0 (by omega) ?_
  rw [add_mk, Nat.zero_add, Nat.mul_one]
  have hl : i.toNat < bits.length := by omega
  refine ldB_row (n := bits[i.toNat]) hr ?_ (hk _ (List.getElem?_eq_getElem hl))
  rw [List.getElem?_map, List.getElem?_eq_getElem hl]
  rfl

theorem search_spec {h : Heap} {b : Nat} {bits : List Bool} {n k : Int} (hr : Row h b (bits.map .bool)) (hlen : (bits.length : Int) = n) (hn : n ≤ 500) (hk : InI k) {E : Int × Int → Heap → Prop}
    (hE : ∀ s : Int × Int, (s.1 = -1 ∧ ∀ t, ¬ AllOf bits t k false) ∨ First bits k s.1 → E s h) :
    LoopT (fun X22 s21 h23 => cnd (decide (k ≥ 1) && (decide (w64 (s21.2 + k) ≤ n) && decide (s21.1 < 0)))
      (LoopT (fun X31 s30 h32 => cnd (decide (s30.2 < w64 (s21.2 + k))) (cnd s30.1 (idx (some ⟨b, 0, none⟩) n.toNat s30.2 fun a36 => ldB (a36.add (s30.2.toNat * 1)) h32 fun b37 => X31 (!b37, w64 (s30.2 + 1)) h32) (X31 (false, w64 (s30.2 + 1)) h32))
        (cnd s30.1 (X22 (s21.2, w64 (s21.2 + 1)) h32) (X22 (s21.1, w64 (s21.2 + 1)) h32))) (true, s21.2) h23) (E s21 h23)) ((-1, 0) : Int × Int) h := by
  unfold InI at hk
  refine LoopT.intro (fun s h' => h' = h ∧ 0 ≤ s.2 ∧ s.2 ≤ n ∧ (s.2 = 0 ∨ k ≤ n) ∧ ((s.1 = -1 ∧ ∀ t, t < s.2 → ¬ AllOf bits t k false) ∨ First bits k s.1)) (fun s _ => (n + 1 - s.2).toNat)
    ⟨rfl, by simp, by simp only; omega, .inl rfl, .inl ⟨rfl, fun t ht ha => by have := ha.2.1; simp only at ht; omega⟩⟩ ?_
  rintro ⟨w, a⟩ h' ⟨rfl, g1, g2, g3, g4⟩
  replace g1 : 0 ≤ a := g1
  replace g2 : a ≤ n := g2
  replace g3 : a = 0 ∨ k ≤ n := g3
  replace g4 : (w = -1 ∧ ∀ t, t < a → ¬ AllOf bits t k false) ∨ First bits k w := g4
  show cnd (decide (k ≥ 1) && (decide (w64 (a + k) ≤ n) && decide (w < 0))) _ _
  by_cases hc : k ≥ 1 ∧ a + k ≤ n ∧ w < 0
  · obtain ⟨c1, c2, c3⟩ := hc
    have hw : w64 (a + k) = a + k := w64_id (by omega) (by omega)
    refine cnd_t (by rw [hw]; simp [c1, c2, c3]) ?_
    have g5 : w = -1 ∧ ∀ t, t < a → ¬ AllOf bits t k false := by
      rcases g4 with g4 | g4
      · exact g4
      · have := g4.1.2.1; omega
    clear g4
    obtain ⟨rfl, g4⟩ := g5
    refine LoopT.intro (fun (s : Bool × Int) h2 => h2 = h' ∧ a ≤ s.2 ∧ s.2 ≤ a + k ∧ (s.1 = true ↔ ∀ i : Nat, a ≤ i → (i : Int) < s.2 → bits[i]? = some false)) (fun s _ => (a + k - s.2).toNat)
      ⟨rfl, Int.le_refl _, by simp only; omega, ⟨fun _ i h1 (h2 : (i : Int) < a) => by omega, fun _ => rfl⟩⟩ ?_
    rintro ⟨f, j⟩ h2 ⟨rfl, q1, q2, q3⟩
    replace q1 : a ≤ j := q1
    replace q2 : j ≤ a + k := q2
    replace q3 : f = true ↔ ∀ i : Nat, a ≤ i → (i : Int) < j → bits[i]? = some false := q3
    show cnd (decide (j < w64 (a + k))) _ _
    rw [hw]
    refine cnd_dec (fun hj => ?_) (fun hj => ?_)
    · have hw2 : w64 (j + 1) = j + 1 := w64_id (by omega) (by omega)
      have nxt : ∀ f' : Bool, (f' = true ↔ f = true ∧ bits[j.toNat]? = some false) → (h2 = h2 ∧ a ≤ w64 (j + 1) ∧ w64 (j + 1) ≤ a + k ∧ (f' = true ↔ ∀ i : Nat, a ≤ i → (i : Int) < w64 (j + 1) → bits[i]? = some false)) ∧ (a + k - w64 (j + 1)).toNat < (a + k - j).toNat := by
        intro f' hf
        rw [hw2]
        refine ⟨⟨rfl, by omega, by omega, hf.trans ⟨fun ⟨u1, u2⟩ i v1 v2 => ?_, fun u => ⟨q3.2 fun i v1 v2 => u i v1 (by omega), ?_⟩⟩⟩, by omega⟩
        · by_cases hij : (i : Int) < j
          · exact q3.1 u1 i v1 hij
          · have : i = j.toNat := by omega
            rw [this]; exact u2
        · exact u j.toNat (by omega) (by omega)
      refine cnd_of (fun hf => ?_) (fun hf => ?_)
      · refine row_bool hr hlen (by show 0 ≤ j; omega) (by show j < n; omega) ?_
        intro v hv
        refine nxt (!v) ?_
        replace hf : f = true := hf
        replace hv : bits[j.toNat]? = some v := hv
        rw [hv]
        cases v <;> simp [hf]
      · refine nxt false ?_
        replace hf : f = false := hf
        simp [hf]
    · have hje : j = a + k := by omega
      subst hje
      have hw2 : w64 (a + 1) = a + 1 := w64_id (by omega) (by omega)
      have hiff : f = true ↔ AllOf bits a k false := q3.trans ⟨fun u => ⟨by omega, by omega, by omega, fun i v1 v2 => u i v1 v2⟩, fun u i v1 v2 => u.2.2.2 i v1 v2⟩
      refine cnd_of (fun hf => ?_) (fun hf => ?_)
      · show (h2 = h2 ∧ 0 ≤ w64 (a + 1) ∧ w64 (a + 1) ≤ n ∧ (w64 (a + 1) = 0 ∨ k ≤ n) ∧ ((a = -1 ∧ ∀ t, t < w64 (a + 1) → ¬ AllOf bits t k false) ∨ First bits k a)) ∧ (n + 1 - w64 (a + 1)).toNat < (n + 1 - a).toNat
        rw [hw2]
        exact ⟨⟨rfl, by omega, by omega, .inr (by omega), .inr ⟨hiff.1 hf, g4⟩⟩, by omega⟩
      · show (h2 = h2 ∧ 0 ≤ w64 (a + 1) ∧ w64 (a + 1) ≤ n ∧ (w64 (a + 1) = 0 ∨ k ≤ n) ∧ (((-1 : Int) = -1 ∧ ∀ t, t < w64 (a + 1) → ¬ AllOf bits t k false) ∨ First bits k (-1))) ∧ (n + 1 - w64 (a + 1)).toNat < (n + 1 - a).toNat
        rw [hw2]
        refine ⟨⟨rfl, by omega, by omega, .inr (by omega), .inl ⟨rfl, fun t ht hta => ?_⟩⟩, by omega⟩
        by_cases hta2 : t < a
        · exact g4 t hta2 hta
        · have : t = a := by omega
          subst this
          have := hiff.2 hta
          replace hf : f = false := hf
          rw [hf] at this
          cases this
  · have hex : (decide (k ≥ 1) && (decide (w64 (a + k) ≤ n) && decide (w < 0))) = false := by
      by_cases c1 : k ≥ 1
      · by_cases c3 : w < 0
        · have hw : w64 (a + k) = a + k := w64_id (by omega) (by omega)
          have : ¬ (a + k ≤ n) := fun h => hc ⟨c1, h, c3⟩
          rw [hw]; simp [this]
        · simp [c3]
      · simp [c1]
    refine cnd_f hex (hE (w, a) ?_)
    rcases g4 with ⟨rfl, g4⟩ | g4
    · refine .inl ⟨rfl, fun t ht => ?_⟩
      by_cases hta : t < a
      · exact g4 t hta ht
      · exact hc ⟨ht.1, by have := ht.2.2.1; omega, by decide⟩
    · exact .inr g4

theorem fill_spec {h : Heap} {b : Nat} {bits : List Bool} {n s k : Int} {v : Bool} (ha : AllOf bits s k false) (hr : Row h b (bits.map .bool)) (hlen : (bits.length : Int) = n) (hn : n ≤ 500) {E : Heap → Prop}
    (hE : ∀ h', Row h' b ((fill bits s.toNat k.toNat v).map .bool) → Keep (· = b) h h' → E h') :
    LoopT (fun X45 s44 h46 => cnd (decide (s44 < w64 (s + k))) (idx (some ⟨b, 0, none⟩) n.toNat s44 fun a47 => stC (a47.add (s44.toNat * 1)) (.bool v) h46 fun h48 => X45 (w64 (s44 + 1)) h48) (E h46)) s h := by
  obtain ⟨a1, a2, a3, a4⟩ := ha
  rw [w64_id (x := s + k) (by omega) (by omega)]
  refine LoopT.intro (fun j h' => s ≤ j ∧ j ≤ s + k ∧ Row h' b ((fill bits s.toNat (j - s).toNat v).map .bool) ∧ Keep (· = b) h h') (fun j _ => (s + k - j).toNat) ⟨by omega, by omega, ?_, .refl _ _⟩ ?_
  · rw [show (s - s).toNat = 0 by omega, fill_zero]; exact hr
  · rintro j h' ⟨g1, g2, g3, g4⟩
    refine cnd_dec (fun hj => ?_) (fun hj => ?_)
    · refine idx_some (by omega) (by omega) ?_
      rw [add_mk, Nat.zero_add, Nat.mul_one]
      refine stC_row g3 (by rw [List.length_map, fill_length]; omega) rfl ?_
      intro h2 q1 q2 q3
      rw [w64_id (x := j + 1) (by omega) (by omega)]
      refine ⟨⟨by omega, by omega, ?_, g4.trans' q3⟩, by omega⟩
      rw [show (j + 1 - s).toNat = (j - s).toNat + 1 by omega, ← fill_succ, List.map_set, show s.toNat + (j - s).toNat = j.toNat by omega]
      exact q2
    · have : j = s + k := by omega
      subst this
      rw [show (s + k - s).toNat = k.toNat by omega] at g3
      exact hE h' g3 g4

theorem count_spec {h : Heap} {b : Nat} {bits : List Bool} {n : Int} (hr : Row h b (bits.map .bool)) (hlen : (bits.length : Int) = n) (hn : n ≤ 500) {E : Int × Int → Heap → Prop} (hE : ∀ s : Int × Int, s.1 = freeOf bits → E s h) :
    LoopT (fun X102 s101 h103 => cnd (decide (s101.2 < n)) (idx (some ⟨b, 0, none⟩) n.toNat s101.2 fun a107 => ldB (a107.add (s101.2.toNat * 1)) h103 fun b108 =>
      cnd (!b108) (X102 (w64 (s101.1 + 1), w64 (s101.2 + 1)) h103) (X102 (s101.1, w64 (s101.2 + 1)) h103)) (E s101 h103)) ((0, 0) : Int × Int) h := by
  refine LoopT.intro (fun s h' => h' = h ∧ 0 ≤ s.2 ∧ s.2 ≤ n ∧ s.1 = (((bits.take s.2.toNat).count false : Nat) : Int)) (fun s _ => (n - s.2).toNat) ⟨rfl, by simp, by simp only; omega, by simp⟩ ?_
  rintro ⟨c, i⟩ h' ⟨rfl, g1, g2, g3⟩
  replace g1 : 0 ≤ i := g1
  replace g2 : i ≤ n := g2
  replace g3 : c = (((bits.take i.toNat).count false : Nat) : Int) := g3
  have hcl : (bits.take i.toNat).count false ≤ i.toNat := Nat.le_trans List.count_le_length (by simp; omega)
  refine cnd_dec (fun hi => ?_) (fun hi => ?_)
  · replace hi : i < n := hi
    refine row_bool hr hlen g1 hi ?_
    intro v hv
    replace hv : bits[i.toNat]? = some v := hv
    have hw : w64 (i + 1) = i + 1 := w64_id (by omega) (by omega)
    have hw2 : w64 (c + 1) = c + 1 := w64_id (by omega) (by omega)
    have ht : bits.take (i + 1).toNat = bits.take i.toNat ++ [v] := by rw [show (i + 1).toNat = i.toNat + 1 by omega, List.take_add_one, hv]; rfl
    refine cnd_of (fun hb => ?_) (fun hb => ?_)
    · show (h' = h' ∧ 0 ≤ w64 (i + 1) ∧ w64 (i + 1) ≤ n ∧ w64 (c + 1) = (((bits.take (w64 (i + 1)).toNat).count false : Nat) : Int)) ∧ (n - w64 (i + 1)).toNat < (n - i).toNat
      rw [hw, hw2, ht]
      have : v = false := by simpa using hb
      subst this
      refine ⟨⟨rfl, by omega, by omega, ?_⟩, by omega⟩
      rw [List.count_append, g3]
      simp
    · show (h' = h' ∧ 0 ≤ w64 (i + 1) ∧ w64 (i + 1) ≤ n ∧ c = (((bits.take (w64 (i + 1)).toNat).count false : Nat) : Int)) ∧ (n - w64 (i + 1)).toNat < (n - i).toNat
      rw [hw, ht]
      have : v = true := by simpa using hb
      subst this
      refine ⟨⟨rfl, by omega, by omega, ?_⟩, by omega⟩
      rw [List.count_append, g3]
      simp
  · replace hi : ¬ i < n := hi
    refine hE (c, i) ?_
    show c = freeOf bits
    rw [g3, List.take_of_length_le (by omega)]
    rfl

theorem Rep0.lt {h : Heap} {p q : Nat} {bits : List Bool} {free : Int} (hr : Rep0 h p q bits free) : p < h.size ∧ q < h.size := by
  obtain ⟨⟨ws, extra, cap, r1, r2, _⟩, _, _⟩ := hr
  exact ⟨r1.lt, r2.lt⟩

theorem allocFirst_spec {h : Heap} {n : Int} {x1 x2 : Sl} (hn : InI n) (hs : IntsAt h x1.a x1.len) (hg : BoolsAt h x2.a x2.len) :
    CallT Try.prog law10_AllocFirst_no [.int .i64 n, .slice x1.a x1.len x1.cap, .slice x2.a x2.len x2.cap] h [.sc .bool] (fun b h' => b = true ∧ Keep (fun _ => False) h h') := by
  apply law10_AllocFirst_call
  simp only [law10_AllocFirst, withJ, cnd_and]
  refine new_spec hn ?_ ?_
  · intro hbad
    refine cnd_t rfl (cnd_t rfl (cnd_f rfl (cnd_t rfl ?_)))
    exact awake_spec fun h' hk => ⟨rfl, hk⟩
  · intro hn0 hn1 p q h1 hp hq hr hk1
    refine cnd_f rfl ?_
    refine cnd_dec (fun hbig => ?_) (fun hsm => ?_)
    · refine cnd_t rfl ?_
      exact awake_spec fun h' hk => ⟨rfl, hk1.trans' hk⟩
    · refine mkSl_row (by omega) (by omega) (by omega) (by omega) ?_
      intro h2 hs2 hrow2 hk2
      rw [zerosL_one] at hrow2
      obtain ⟨b, hb⟩ : ∃ b, b = h1.size := ⟨_, rfl⟩
      rw [← hb] at hrow2 ⊢
      have hr2 := hr.keep hk2 (fun h => h) (fun h => h)
      refine LoopT.intro (fun i h3 => ∃ bits : List Bool, 0 ≤ i ∧ i ≤ 60 ∧ Rep h3 p q bits ∧ (bits.length : Int) = n ∧ Row h3 b (bits.map .bool) ∧ Keep (fun y => h.size ≤ y) h h3) (fun i _ => (60 - i).toNat) ?_ ?_
      · refine ⟨_, by decide, by decide, hr2, by simp; omega, by simpa using hrow2, (hk1.mono (fun _ _ h => h.elim)).trans (hk2.mono (fun _ _ h => h.elim)) (fun _ _ h => h)⟩
      · rintro i h3 ⟨bits, g1, g2, g3, g4, g5, g6⟩
        refine cnd_of (fun hin => ?_) (fun hout => ?_)
        · simp only [Bool.and_eq_true, decide_eq_true_eq] at hin
          have hw : w64 (i + 1) = i + 1 := w64_id (by omega) (by omega)
          have hlt := hr.lt
          have ndp : ¬ (p = b) := by omega
          have ndq : ¬ (q = b) := by omega
          have hbge : h.size ≤ b := by have := hk1.size; omega
          refine hs.ld g6 g1 hin.1 ?_
          intro k hk
          rw [hw]
          have nope : ∀ (r : Int × Int), r.2 ≠ 0 → (∀ t, ¬ AllOf bits t k false) → ∀ s : Int × Int, ((s.1 = -1 ∧ ∀ t, ¬ AllOf bits t k false) ∨ First bits k s.1) → (r.2 == 0) = false ∧ (r.2 != 0) = true ∧ decide (s.1 ≥ 0) = false := by
            intro r h1 h2 s h3
            rcases h3 with h3 | h3
            · exact ⟨by simpa using h1, by simpa using h1, by simp [h3.1]⟩
            · exact absurd h3.1 (h2 _)
          have stay : (∃ bits : List Bool, 0 ≤ i + 1 ∧ i + 1 ≤ 60 ∧ Rep h3 p q bits ∧ (bits.length : Int) = n ∧ Row h3 b (bits.map .bool) ∧ Keep (fun y => h.size ≤ y) h h3) ∧ (60 - (i + 1)).toNat < (60 - i).toNat := ⟨⟨bits, by omega, by omega, g3, g4, g5, g6⟩, by omega⟩
          refine take_spec g3 hk ?_ ?_ ?_
          · intro s hf h4 hr4 hk4 hs4
            have hrow4 : Row h4 b (bits.map .bool) := hk4.row g5 (by rintro (hx | hx) <;> omega)
            have hkp4 : Keep (fun y => h.size ≤ y) h h4 := g6.trans hk4 (fun y hy hyp => by rcases hyp with hx | hx <;> omega)
            refine search_spec hrow4 g4 (by omega) hk ?_
            intro w hwc
            have hw0 : w.1 = s := by
              rcases hwc with hwc | hwc
              · exact absurd hf.1 (hwc.2 s)
              · exact hwc.eq hf
            obtain ⟨w1, w2⟩ := w
            replace hw0 : w1 = s := hw0
            subst hw0
            have hs0 := hf.1.2.1
            refine cnd_f (by simp; omega) (cnd_t rfl (cnd_f (by simp) (cnd_f rfl ?_)))
            have finT : LoopT (fun X45 s44 h46 => cnd (decide (s44 < w64 (w1 + k))) (idx (some ⟨b, 0, none⟩) n.toNat s44 fun a47 => stC (a47.add (s44.toNat * 1)) (.bool true) h46 fun h48 => X45 (w64 (s44 + 1)) h48)
                ((∃ bits : List Bool, 0 ≤ i + 1 ∧ i + 1 ≤ 60 ∧ Rep h46 p q bits ∧ (bits.length : Int) = n ∧ Row h46 b (bits.map .bool) ∧ Keep (fun y => h.size ≤ y) h h46) ∧ (60 - (i + 1)).toNat < (60 - i).toNat)) w1 h4 := by
              refine fill_spec hf.1 hrow4 g4 (by omega) ?_
              intro h5 hrow5 hk5
              rw [fill_all hf.1] at hrow5
              exact ⟨⟨_, by omega, by omega, hr4.keep hk5 ndp ndq, by rw [flip_length]; exact g4, hrow5, hkp4.trans hk5 (fun y hy hyb => by
                have : y = b := hyb
                omega)⟩, by omega⟩
            have finF : LoopT (fun X45 s44 h46 => cnd (decide (s44 < w64 (w1 + k))) (idx (some ⟨b, 0, none⟩) n.toNat s44 fun a47 => stC (a47.add (s44.toNat * 1)) (.bool false) h46 fun h48 => X45 (w64 (s44 + 1)) h48)
                (CallT Try.prog alloc_Space_Give_no [.pointer (some ⟨p, 0, none⟩), .int .i64 w1, .int .i64 k] h46 [.sc (.int .i64)] fun r52 h53 => cnd (r52 != 0) (false = true ∧ Keep (fun x => False) h h53)
                  ((∃ bits : List Bool, 0 ≤ i + 1 ∧ i + 1 ≤ 60 ∧ Rep h53 p q bits ∧ (bits.length : Int) = n ∧ Row h53 b (bits.map .bool) ∧ Keep (fun y => h.size ≤ y) h h53) ∧ (60 - (i + 1)).toNat < (60 - i).toNat))) w1 h4 := by
              refine fill_spec hf.1 hrow4 g4 (by omega) ?_
              intro h5 hrow5 hk5
              rw [fill_all hf.1] at hrow5
              have hr5 := hr4.keep hk5 ndp ndq
              have hw1 := hf.1.2.2.1
              have hk1' := hf.1.1
              refine give_spec hr5 (by unfold InI; omega) hk ?_ ?_
              · intro _ h6 hr6 hk6 hs6
                rw [flip_flip] at hr6
                refine cnd_f rfl ⟨⟨bits, by omega, by omega, hr6, g4, hk6.row hrow5 (by rintro (hx | hx) <;> omega), ?_⟩, by omega⟩
                refine (hkp4.trans hk5 (fun y hy hyb => ?_)).trans hk6 (fun y hy hyp => by rcases hyp with hx | hx <;> omega)
                have : y = b := hyb
                omega
              · intro hh
                exact absurd (flip_all hf.1) hh
            refine cnd_dec (fun hgi => ?_) (fun hgi => ?_)
            · exact finT
            · refine hg.ld hkp4 g1 (by omega) ?_
              intro v
              cases v
              · exact finT
              · exact finF
          · intro hk0
            refine search_spec g5 g4 (by omega) hk ?_
            intro w hwc
            obtain ⟨e1, e2, e3⟩ := nope (0, 1) (by decide) (fun t ha => by have := ha.1; omega) w hwc
            refine cnd_f (by rw [e3]; rfl) (cnd_f rfl (cnd_f rfl (cnd_t rfl stay)))
          · intro hk0 hno
            refine search_spec g5 g4 (by omega) hk ?_
            intro w hwc
            obtain ⟨e1, e2, e3⟩ := nope (0, 60) (by decide) hno w hwc
            refine cnd_f (by rw [e3]; rfl) (cnd_f rfl (cnd_f rfl (cnd_t rfl stay)))
        · refine count_spec g5 g4 (by omega) ?_
          intro s hsf
          refine free_spec g3 ?_
          refine cnd_t (by rw [hsf]; simp) ?_
          refine awake_spec fun h' hk => ⟨rfl, ?_⟩
          exact (g6.trans hk (fun _ _ hh => hh.elim)).trans (.refl _ _ : Keep (fun _ => False) h' h') (fun _ _ hh => hh.elim) |>.mono (fun y hy hyh => by
            have : h.size ≤ y := hyh
            omega)
end Alloc
end Go.Proofs.Ytmmoilenemogoaa
