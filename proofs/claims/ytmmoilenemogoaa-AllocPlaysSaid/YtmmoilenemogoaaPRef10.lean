/- Contracts of the document's answer for layer 10: units that are taken, as a list of bits. -/
import Derived.Test.YtmmoilenemogoaaPAllocC
import Derived.Test.YtmmoilenemogoaaGRef
import Derived.Test.YtmmoilenemogoaaGLaw
namespace Go.Proofs.Ytmmoilenemogoaa
open Go D
set_option linter.unusedVariables false
set_option linter.unusedSimpArgs false

theorem bits_rd {h : Heap} {a : Option Addr} {l c : Nat} {bits : List Bool} (hs : SlR h 1 a l c (bits.map .bool)) {i : Int} (h0 : 0 ≤ i) (h1 : i < l) {K : Bool → Prop} (hk : ∀ v, bits[i.toNat]? = some v → K v) :
    idx a l i fun x => ldB (x.add (i.toNat * 1)) h K := by
  have hl := hs.len
  rw [List.length_map] at hl
  refine hs.idx h0 h1 fun x hx hsp => ?_
  subst hx
  have hi : i.toNat < bits.length := by omega
  refine ldB_at (n := bits[i.toNat]) ?_ (hk _ (List.getElem?_eq_getElem hi))
  rw [Nat.mul_one, hs.cell (by omega), List.getElem?_map, List.getElem?_eq_getElem hi]
  rfl

theorem bits_wr {h : Heap} {a : Option Addr} {l c : Nat} {bits : List Bool} (hs : SlR h 1 a l c (bits.map .bool)) {i : Int} (h0 : 0 ≤ i) (h1 : i < l) {v : Bool} {K : Heap → Prop}
    (hk : ∀ h', SlR h' 1 a l c ((bits.set i.toNat v).map .bool) → Keep (blk a) h h' → h'.size = h.size → K h') :
    idx a l i fun x => stC (x.add (i.toNat * 1)) (.bool v) h K := by
  have hl := hs.len
  rw [List.length_map] at hl
  refine hs.idx h0 h1 fun x hx hsp => ?_
  subst hx
  rw [Nat.mul_one]
  refine hs.set (by omega) rfl ?_
  intro h' q1 q2 q3
  rw [List.map_set] at hk
  exact hk h' q2 (q3.mono (fun y _ hy => blk_some.2 hy.symm)) q1

namespace Ref10
open Alloc

/-- a space of the document's answer at block p; its bits in the slice at a -/
structure Rep (h : Heap) (p : Nat) (a : Option Addr) (bits : List Bool) : Prop where
  ex : ∃ c, Row h p [.slice a bits.length c] ∧ SlR h 1 a bits.length c (bits.map .bool)
  ne : ¬ blk a p
  le : bits.length ≤ 4096

theorem Rep.keep {S : Nat → Prop} {h h' : Heap} {p : Nat} {a : Option Addr} {bits : List Bool} (hr : Rep h p a bits) (hk : Keep S h h') (hp : ¬ S p) (ha : ∀ b, blk a b → ¬ S b) : Rep h' p a bits := by
  obtain ⟨⟨c, h1, h2⟩, h3, h4⟩ := hr
  exact ⟨⟨c, hk.row h1 hp, h2.keep hk ha⟩, h3, h4⟩

theorem Rep.lt {h : Heap} {p : Nat} {a : Option Addr} {bits : List Bool} (hr : Rep h p a bits) : p < h.size ∧ ∀ b, blk a b → b < h.size := by
  obtain ⟨⟨c, h1, h2⟩, h3, h4⟩ := hr
  exact ⟨h1.lt, fun b hb => h2.blk_lt hb⟩

theorem all_spec {h : Heap} {p : Nat} {a : Option Addr} {bits : List Bool} (hr : Rep h p a bits) {s k : Int} {t : Bool} (hs : InI s) (hki : InI k) {R : Bool → Heap → Prop}
    (hyes : AllOf bits s k t → R true h) (hno : ¬ AllOf bits s k t → R false h) :
    CallT Try.prog ref10_Space_all_no [.pointer (some ⟨p, 0, none⟩), .int .i64 s, .int .i64 k, .bool t] h [.sc .bool] R := by
  apply ref10_Space_all_call
  obtain ⟨⟨c, r1, r2⟩, r3, hle⟩ := hr
  have rl : cellH h ⟨p, 0, none⟩ = some (.slice a bits.length c) := by rw [r1.cells]; rfl
  unfold InI at hs hki
  simp only [ref10_Space_all, nn_eq, withJ]
  refine cnd_dec (fun hk => hno (fun ha => by have := ha.1; omega)) (fun hk => ?_)
  refine cnd_dec (fun hk => hno (fun ha => by have := ha.2.1; omega)) (fun hk => ?_)
  refine ldL_at rl ?_
  refine cnd_dec (fun hk => hno (fun ha => by have := ha.2.2.1; omega)) (fun hk => ?_)
  refine ldL_at rl ?_
  rw [w64_id (x := (bits.length : Int) - s) (by omega) (by omega)]
  refine cnd_dec (fun hk => hno (fun ha => by have := ha.2.2.1; omega)) (fun hk => ?_)
  rw [w64_id (x := s + k) (by omega) (by omega)]
  refine LoopT.intro (fun i h' => h' = h ∧ s ≤ i ∧ i ≤ s + k ∧ ∀ j : Nat, s ≤ j → (j : Int) < i → bits[j]? = some t) (fun i _ => (s + k - i).toNat) ⟨rfl, by omega, by omega, fun j _ _ => by omega⟩ ?_
  rintro i h' ⟨rfl, g1, g2, g3⟩
  refine cnd_dec (fun hlt => ?_) (fun hge => ?_)
  · refine ldL_at rl ?_
    refine bits_rd r2 (by omega) (by omega) ?_
    intro v hv
    refine cnd_of (fun hb => hno ?_) (fun hb => ?_)
    · intro ha
      have := ha.2.2.2 i.toNat (by omega) (by omega)
      rw [hv] at this
      injection this with this
      rw [this] at hb
      simp at hb
    · have hb' : v = t := by simpa using hb
      rw [w64_id (x := i + 1) (by omega) (by omega)]
      refine ⟨⟨rfl, by omega, by omega, fun j hj1 hj2 => ?_⟩, by omega⟩
      by_cases hji : (j : Int) < i
      · exact g3 j hj1 hji
      · have : j = i.toNat := by omega
        rw [this, hv, hb']
  · exact hyes ⟨by omega, by omega, by omega, fun j hj1 hj2 => g3 j hj1 (by omega)⟩

theorem put_spec {h : Heap} {p : Nat} {a : Option Addr} {bits : List Bool} (hr : Rep h p a bits) {s k : Int} {t : Bool} (ha : AllOf bits s k t) {R : Unit → Heap → Prop}
    (hk : ∀ h', Rep h' p a (flip bits s.toNat k.toNat) → Keep (blk a) h h' → h'.size = h.size → R () h') :
    CallT Try.prog ref10_Space_put_no [.pointer (some ⟨p, 0, none⟩), .int .i64 s, .int .i64 k, .bool (!t)] h [] R := by
  apply ref10_Space_put_call
  obtain ⟨⟨c, r1, r2⟩, r3, hle⟩ := hr
  obtain ⟨g1, g2, g3, g4⟩ := ha
  simp only [ref10_Space_put, nn_eq]
  rw [w64_id (x := s + k) (by omega) (by omega)]
  refine LoopT.intro (fun i h' => s ≤ i ∧ i ≤ s + k ∧ SlR h' 1 a bits.length c ((flip bits s.toNat (i - s).toNat).map .bool) ∧ Keep (blk a) h h' ∧ h'.size = h.size) (fun i _ => (s + k - i).toNat) ⟨by omega, by omega, ?_, .refl _ _, rfl⟩ ?_
  · rw [show (s - s).toNat = 0 by omega, flip_zero]; exact r2
  · rintro i h' ⟨q1, q2, q3, q4, q5⟩
    have rl : cellH h' ⟨p, 0, none⟩ = some (.slice a bits.length c) := by rw [(q4.row r1 r3).cells]; rfl
    refine cnd_dec (fun hlt => ?_) (fun hge => ?_)
    · refine ldL_at rl ?_
      refine bits_wr q3 (by omega) (by omega) ?_
      intro h2 w1 w2 w3
      rw [w64_id (x := i + 1) (by omega) (by omega)]
      refine ⟨⟨by omega, by omega, ?_, q4.trans' w2, by omega⟩, by omega⟩
      have e : (flip bits s.toNat (i - s).toNat).set i.toNat (!t) = flip bits s.toNat (i + 1 - s).toNat := by
        apply List.ext_getElem?
        intro j
        rw [List.getElem?_set, flip_get, flip_get, flip_length]
        by_cases hj : i.toNat = j
        · subst hj
          rw [if_pos rfl, if_pos (by omega), g4 i.toNat (by omega) (by omega)]
          simp only [Option.map_some]
          rw [if_pos (by omega)]
        · rw [if_neg hj]
          cases bits[j]? with
          | none => rfl
          | some v =>
            simp only [Option.map_some]
            by_cases h2 : s.toNat ≤ j ∧ j < s.toNat + (i - s).toNat
            · rw [if_pos h2, if_pos (by omega)]
            · rw [if_neg h2, if_neg (by omega)]
      rw [e] at w1
      exact w1
    · have : i = s + k := by omega
      subst this
      rw [show (s + k - s).toNat = k.toNat by omega] at q3
      have hfl := flip_length bits s.toNat k.toNat
      refine hk h' ⟨⟨c, by rw [hfl]; exact q4.row r1 r3, by rw [hfl]; exact q3⟩, r3, by rw [hfl]; exact hle⟩ q4 q5

theorem give_spec {h : Heap} {p : Nat} {a : Option Addr} {bits : List Bool} (hr : Rep h p a bits) {s k : Int} (hs : InI s) (hki : InI k) {R : Int → Heap → Prop}
    (hyes : AllOf bits s k true → ∀ h', Rep h' p a (flip bits s.toNat k.toNat) → Keep (blk a) h h' → h'.size = h.size → R 0 h') (hno : ¬ AllOf bits s k true → R 1 h) :
    CallT Try.prog ref10_Space_Give_no [.pointer (some ⟨p, 0, none⟩), .int .i64 s, .int .i64 k] h [.sc (.int .i64)] R := by
  apply ref10_Space_Give_call
  simp only [ref10_Space_Give]
  refine all_spec hr hs hki (fun ha => cnd_f rfl ?_) (fun hn => cnd_t rfl (hno hn))
  exact put_spec hr ha (hyes ha)

theorem mark_spec {h : Heap} {p : Nat} {a : Option Addr} {bits : List Bool} (hr : Rep h p a bits) {s k : Int} (hs : InI s) (hki : InI k) {R : Int → Heap → Prop}
    (hyes : AllOf bits s k false → ∀ h', Rep h' p a (flip bits s.toNat k.toNat) → Keep (blk a) h h' → h'.size = h.size → R 0 h') (hno : ¬ AllOf bits s k false → R 1 h) :
    CallT Try.prog ref10_Space_Mark_no [.pointer (some ⟨p, 0, none⟩), .int .i64 s, .int .i64 k] h [.sc (.int .i64)] R := by
  apply ref10_Space_Mark_call
  simp only [ref10_Space_Mark]
  refine all_spec hr hs hki (fun ha => cnd_f rfl ?_) (fun hn => cnd_t rfl (hno hn))
  exact put_spec hr ha (hyes ha)

theorem take_spec {h : Heap} {p : Nat} {a : Option Addr} {bits : List Bool} (hr : Rep h p a bits) {k : Int} (hki : InI k) {R : Int × Int → Heap → Prop}
    (hyes : ∀ s, First bits k s → ∀ h', Rep h' p a (flip bits s.toNat k.toNat) → Keep (blk a) h h' → h'.size = h.size → R (s, 0) h')
    (harg : k < 1 → R (0, 1) h) (hfull : 1 ≤ k → (∀ s, ¬ AllOf bits s k false) → R (0, 60) h) :
    CallT Try.prog ref10_Space_Take_no [.pointer (some ⟨p, 0, none⟩), .int .i64 k] h [.sc (.int .i64), .sc (.int .i64)] R := by
  apply ref10_Space_Take_call
  have hle := hr.le
  obtain ⟨c, rl⟩ : ∃ c, cellH h ⟨p, 0, none⟩ = some (.slice a bits.length c) := by
    obtain ⟨⟨c, r1, r2⟩, _⟩ := hr
    exact ⟨c, by rw [r1.cells]; rfl⟩
  simp only [ref10_Space_Take, nn_eq]
  refine cnd_dec harg (fun hk => ?_)
  refine LoopT.intro (fun s h' => h' = h ∧ 0 ≤ s ∧ s ≤ bits.length ∧ ∀ s' : Int, s' < s → ¬ AllOf bits s' k false) (fun s _ => ((bits.length : Int) + 1 - s).toNat) ⟨rfl, by omega, by omega, fun s' hs' ha => by have := ha.2.1; omega⟩ ?_
  rintro s h' ⟨rfl, g1, g2, g3⟩
  refine ldL_at rl ?_
  refine cnd_dec (fun hin => ?_) (fun hout => ?_)
  · refine all_spec hr (by unfold InI; omega) hki (fun ha => cnd_t rfl ?_) (fun hn => cnd_f rfl ?_)
    · exact put_spec hr ha (hyes s ⟨ha, g3⟩)
    · rw [w64_id (x := s + 1) (by omega) (by omega)]
      refine ⟨⟨rfl, by omega, by omega, fun s' hs' ha => ?_⟩, by omega⟩
      by_cases h3 : s' < s
      · exact g3 s' h3 ha
      · have : s' = s := by omega
        subst this
        exact hn ha
  · refine hfull (by omega) (fun s' ha => ?_)
    by_cases h3 : s' < s
    · exact g3 s' h3 ha
    · have := ha.2.2.1
      have := ha.1
      omega

theorem free_spec {h : Heap} {p : Nat} {a : Option Addr} {bits : List Bool} (hr : Rep h p a bits) {R : Int → Heap → Prop} (hk : R (freeOf bits) h) :
    CallT Try.prog ref10_Space_Free_no [.pointer (some ⟨p, 0, none⟩)] h [.sc (.int .i64)] R := by
  apply ref10_Space_Free_call
  obtain ⟨⟨cp, r1, r2⟩, r3, hle⟩ := hr
  have rl : cellH h ⟨p, 0, none⟩ = some (.slice a bits.length cp) := by rw [r1.cells]; rfl
  simp only [ref10_Space_Free, nn_eq, withJ]
  refine LoopT.intro (fun s h' => h' = h ∧ 0 ≤ s.2 ∧ s.2 ≤ bits.length ∧ s.1 = (((bits.take s.2.toNat).count false : Nat) : Int)) (fun s _ => (bits.length - s.2).toNat) ⟨rfl, by simp, by simp only; omega, by simp⟩ ?_
  rintro ⟨c, i⟩ h' ⟨rfl, g1, g2, g3⟩
  replace g1 : 0 ≤ i := g1
  replace g2 : i ≤ bits.length := g2
  replace g3 : c = (((bits.take i.toNat).count false : Nat) : Int) := g3
  have hcl : (bits.take i.toNat).count false ≤ i.toNat := Nat.le_trans List.count_le_length (by simp; omega)
  refine ldL_at rl ?_
  refine cnd_dec (fun hi => ?_) (fun hi => ?_)
  · replace hi : i < bits.length := hi
    refine ldL_at rl ?_
    refine bits_rd r2 g1 hi ?_
    intro v hv
    replace hv : bits[i.toNat]? = some v := hv
    have hw : w64 (i + 1) = i + 1 := w64_id (by omega) (by omega)
    have hw2 : w64 (c + 1) = c + 1 := w64_id (by omega) (by omega)
    have ht : bits.take (i + 1).toNat = bits.take i.toNat ++ [v] := by rw [show (i + 1).toNat = i.toNat + 1 by omega, List.take_add_one, hv]; rfl
    refine cnd_of (fun hb => ?_) (fun hb => ?_)
    · show (h' = h' ∧ 0 ≤ w64 (i + 1) ∧ w64 (i + 1) ≤ bits.length ∧ w64 (c + 1) = (((bits.take (w64 (i + 1)).toNat).count false : Nat) : Int)) ∧ (bits.length - w64 (i + 1)).toNat < (bits.length - i).toNat
      rw [hw, hw2, ht]
      have : v = false := by simpa using hb
      subst this
      refine ⟨⟨rfl, by omega, by omega, ?_⟩, by omega⟩
      rw [List.count_append, g3]
      simp
    · show (h' = h' ∧ 0 ≤ w64 (i + 1) ∧ w64 (i + 1) ≤ bits.length ∧ c = (((bits.take (w64 (i + 1)).toNat).count false : Nat) : Int)) ∧ (bits.length - w64 (i + 1)).toNat < (bits.length - i).toNat
      rw [hw, ht]
      have : v = true := by simpa using hb
      subst this
      refine ⟨⟨rfl, by omega, by omega, ?_⟩, by omega⟩
      rw [List.count_append, g3]
      simp
  · replace hi : ¬ i < bits.length := hi
    have : c = freeOf bits := by
      rw [g3, List.take_of_length_le (by omega)]
      rfl
    show R c h'
    rw [this]; exact hk

theorem new_spec {h : Heap} {n : Int} (hn : InI n) {R : (Option Addr) × Int → Heap → Prop} (hno : (n < 0 ∨ 4096 < n) → R (none, 1) h)
    (hyes : 0 ≤ n → n ≤ 4096 → ∀ p a h', h.size ≤ p → (∀ b, blk a b → h.size ≤ b) → Rep h' p a (List.replicate n.toNat false) → Keep (fun _ => False) h h' → R (some ⟨p, 0, none⟩, 0) h') :
    CallT Try.prog ref10_New_no [.int .i64 n] h [.sc .ptr, .sc (.int .i64)] R := by
  apply ref10_New_call
  unfold InI at hn
  simp only [ref10_New, withJ]
  refine cnd_dec (fun h1 => hno (.inl h1)) (fun h1 => ?_)
  refine cnd_dec (fun h2 => hno (.inr (by omega))) (fun h2 => ?_)
  refine mkSl_row (by omega) (by omega) (by omega) (by omega) ?_
  intro h' s1 r1 k1
  refine newB_row ?_
  intro h2 s2 r2 k2
  refine hyes (by omega) (by omega) h'.size (some ⟨h.size, 0, none⟩) h2 (by omega) ?_ ?_ (k1.trans' k2)
  · intro b hb
    rw [blk_some] at hb
    simp only at hb
    omega
  · refine ⟨⟨n.toNat, ?_, .inr ⟨h.size, 0, _, rfl, k2.row r1 (by simp), by simp, ?_, by simp, ?_⟩⟩, ?_, by simp; omega⟩
    · rw [List.length_replicate]; exact r2
    · rw [zerosL_one]; simp
    · rw [zerosL_one]; simp
    · intro hb
      rw [blk_some] at hb
      simp only at hb
      omega

theorem copy_spec {h : Heap} {p : Nat} {a : Option Addr} {bits : List Bool} (hr : Rep h p a bits) {R : Option Addr → Heap → Prop}
    (hk : ∀ p' a' h', h.size ≤ p' → (∀ b, blk a' b → h.size ≤ b) → Rep h' p' a' bits → Keep (fun _ => False) h h' → R (some ⟨p', 0, none⟩) h') :
    CallT Try.prog ref10_Space_Copy_no [.pointer (some ⟨p, 0, none⟩)] h [.sc .ptr] R := by
  apply ref10_Space_Copy_call
  obtain ⟨⟨c, r1, r2⟩, r3, hle⟩ := hr
  simp only [ref10_Space_Copy, nn_eq]
  refine ldL_row r1 rfl ?_
  refine r2.rd ?_
  refine (SlR.nil h 1).app rfl (by simp) (fun v hv => by obtain ⟨b, _, rfl⟩ := List.mem_map.1 hv; rfl) (by omega) ?_
  intro a' c' h1 q1 q2 q3
  refine newB_row ?_
  intro h2 s2 row2 k2
  have kk : Keep (fun _ => False) h h1 := q2.mono (fun y _ hy => by obtain ⟨x, hx, _⟩ := hy; cases hx)
  have hb : ∀ b, blk a' b → h.size ≤ b ∧ b < h1.size := by
    intro b hb
    rcases q3 with ⟨rfl, _⟩ | ⟨rfl, e⟩
    · obtain ⟨x, hx, _⟩ := hb; cases hx
    · rw [blk_some] at hb
      simp only at hb
      omega
  refine hk h1.size a' h2 kk.size (fun b hb' => (hb b hb').1) ⟨⟨c', ?_, ?_⟩, ?_, hle⟩ (kk.trans' k2)
  · rw [Nat.zero_add] at row2; exact row2
  · rw [Nat.zero_add] at q1
    exact q1.keep k2 (fun _ _ h => h)
  · intro hb'
    have := hb _ hb'
    omega

/-- what Runs gives: a slice of new cells -/
theorem runs_spec {h : Heap} {p : Nat} {a : Option Addr} {bits : List Bool} (hr : Rep h p a bits) {R : Sl → Heap → Prop}
    (hk : ∀ (s : Sl) h', SlR h' 2 s.a s.len s.cap ((runs bits bits.length).flatMap pairV) → (∀ b, blk s.a b → h.size ≤ b) → Keep (fun _ => False) h h' → R s h') :
    CallT Try.prog ref10_Space_Runs_no [.pointer (some ⟨p, 0, none⟩)] h [.sc .sl] R := by
  apply ref10_Space_Runs_call
  obtain ⟨⟨cp, r1, r2⟩, r3, hle⟩ := hr
  simp only [ref10_Space_Runs, nn_eq, withJ]
  refine LoopT.intro (fun s h' => 0 ≤ s.2 ∧ s.2 ≤ bits.length ∧ SlR h' 2 s.1.a s.1.len s.1.cap ((runs bits s.2.toNat).flatMap pairV) ∧ (∀ b, blk s.1.a b → h.size ≤ b) ∧ Keep (fun _ => False) h h')
    (fun s _ => (bits.length - s.2).toNat) ⟨by simp, by simp only; omega, SlR.nil _ _, fun b (hb : blk none b) => (by obtain ⟨x, hx, _⟩ := hb; cases hx), .refl _ _⟩ ?_
  rintro ⟨s, i⟩ h1 ⟨g1, g2, g3, g4, g5⟩
  replace g1 : 0 ≤ i := g1
  replace g2 : i ≤ bits.length := g2
  replace g3 : SlR h1 2 s.a s.len s.cap ((runs bits i.toNat).flatMap pairV) := g3
  replace g4 : ∀ b, blk s.a b → h.size ≤ b := g4
  have rl : cellH h1 ⟨p, 0, none⟩ = some (.slice a bits.length cp) := by rw [(g5.row r1 (fun h => h)).cells]; rfl
  have r2' := r2.keep g5 (fun _ _ h => h)
  refine ldL_at rl ?_
  show cnd (decide (i < (bits.length : Int))) _ _
  have hblen := runs_bound bits i.toNat
  have hslen : s.len = (runs bits i.toNat).length := by
    have := g3.len
    rw [flat_pairs_length] at this
    omega
  refine cnd_dec (fun hlt => ?_) (fun hge => ?_)
  · refine ldL_at rl ?_
    refine bits_rd r2' g1 hlt ?_
    intro v hv0
    have hv : bits.getD i.toNat false = v := by rw [List.getD_eq_getElem?_getD, show bits[i.toNat]? = some v from hv0]; rfl
    have hw : w64 (i + 1) = i + 1 := w64_id (by omega) (by omega)
    have hn : (i + 1).toNat = i.toNat + 1 := by omega
    refine cnd_of (fun hb => ?_) (fun hb => ?_)
    · show (0 ≤ w64 (i + 1) ∧ w64 (i + 1) ≤ (bits.length : Int) ∧ SlR h1 2 s.a s.len s.cap ((runs bits (w64 (i + 1)).toNat).flatMap pairV) ∧ _) ∧ ((bits.length : Int) - w64 (i + 1)).toNat < ((bits.length : Int) - i).toNat
      rw [hw, hn]
      refine ⟨⟨by omega, by omega, ?_, g4, g5⟩, by omega⟩
      unfold runs
      rw [if_pos (by rw [hv]; exact hb)]
      exact g3
    · rw [hb] at hv
      have bump : i ≠ 0 → bits.getD (i.toNat - 1) false = false →
          D.idx s.a s.len (w64 ((s.len : Int) - 1)) fun a14 => ldI .i64 ((a14.add ((w64 ((s.len : Int) - 1)).toNat * 2)).add 1) h1 fun n15 =>
            D.idx s.a s.len (w64 ((s.len : Int) - 1)) fun a16 => stC ((a16.add ((w64 ((s.len : Int) - 1)).toNat * 2)).add 1) (.int .i64 (w64 (n15 + 1))) h1 fun h17 =>
              (0 ≤ w64 (i + 1) ∧ w64 (i + 1) ≤ (bits.length : Int) ∧ SlR h17 2 s.a s.len s.cap ((runs bits (w64 (i + 1)).toNat).flatMap pairV) ∧ (∀ b, blk s.a b → h.size ≤ b) ∧ Keep (fun _ => False) h h17) ∧ ((bits.length : Int) - w64 (i + 1)).toNat < ((bits.length : Int) - i).toNat := by
        intro hi0 hprev
        have hne := runs_ne bits i.toNat (by omega) hprev
        have hlen0 : 0 < (runs bits i.toNat).length := List.length_pos_iff.2 hne
        have hwl : w64 ((s.len : Int) - 1) = ((s.len - 1 : Nat) : Int) := by rw [w64_id (by omega) (by omega)]; omega
        rw [hwl]
        refine g3.idx (by omega) (by omega) fun x hx hsp => ?_
        have g3' := g3
        rw [hx] at g3'
        rw [Int.toNat_natCast, add_add hsp]
        have hlast : (runs bits i.toNat)[s.len - 1]? = some ((runs bits i.toNat).getLastD (0, 0)) := by
          rw [List.getLastD_eq_getLast?, hslen, List.getLast?_eq_getElem?, List.getElem?_eq_getElem (by omega)]
          rfl
        have hcell := (flat_pairs_get _ _ _ hlast).2
        refine ldI_at (n := ((runs bits i.toNat).getLastD (0, 0)).2) ?_ ?_
        · rw [g3'.cell (by omega)]
          exact hcell
        · rw [hx]
          refine idx_some (by omega) (by omega) ?_
          rw [add_add hsp]
          refine g3'.set (by omega) rfl ?_
          intro h2 q1 q2 q3
          rw [hw, hn]
          have hbl := hblen.2 ((runs bits i.toNat).getLastD (0, 0)) (List.mem_of_getElem? hlast)
          refine ⟨⟨by omega, by omega, ?_, by rw [← hx]; exact g4, g5.trans q3 (fun y hy hyx => ?_)⟩, by omega⟩
          · have e : runs bits (i.toNat + 1) = (runs bits i.toNat).dropLast ++ [(((runs bits i.toNat).getLastD (0, 0)).1, ((runs bits i.toNat).getLastD (0, 0)).2 + 1)] := by
              conv => lhs; unfold runs
              rw [if_neg (by rw [hv]; simp), if_pos ⟨by omega, hprev⟩]
            rw [e]
            rw [w64_id (by omega) (by omega), flat_last _ hne] at q2
            rw [List.flatMap_append]
            have hl2 : ((runs bits i.toNat).dropLast.flatMap pairV).length = (s.len - 1) * 2 := by rw [flat_pairs_length, List.length_dropLast, hslen]
            rw [List.set_append_right _ _ (by omega), hl2, show (s.len - 1) * 2 + 1 - (s.len - 1) * 2 = 1 by omega] at q2
            simpa [pairV] using q2
          · have := g4 x.block (by rw [hx]; exact blk_some.2 rfl)
            have hyx' : y = x.block := hyx
            omega
      have start : ¬ (i ≠ 0 ∧ bits.getD (i.toNat - 1) false = false) →
          newB [.int .i64 i, .int .i64 1] 105 h1 fun a18 h19 => ldRow (1 * 2) a18 h19 fun cs23 => D.app [.int .i64 0, .int .i64 0] 105 2 16 s.a s.len s.cap cs23 1 h19 fun o20 c21 h22 =>
            (0 ≤ w64 (i + 1) ∧ w64 (i + 1) ≤ (bits.length : Int) ∧ SlR h22 2 o20 (s.len + 1) c21 ((runs bits (w64 (i + 1)).toNat).flatMap pairV) ∧ (∀ b, blk o20 b → h.size ≤ b) ∧ Keep (fun _ => False) h h22) ∧ ((bits.length : Int) - w64 (i + 1)).toNat < ((bits.length : Int) - i).toNat := by
        intro hno
        refine newB_row ?_
        intro h2 q1 q2 q3
        refine ldRow_row q2 (by simp) ?_
        have g3' := g3.keep q3 (fun _ _ h => h)
        refine g3'.app rfl (by simp) (by simp [Value.oneCell']) (by omega) ?_
        intro a' c' h3 w1 w2 w3
        rw [hw, hn]
        refine ⟨⟨by omega, by omega, ?_, ?_, ?_⟩, by omega⟩
        · have e : runs bits (i.toNat + 1) = runs bits i.toNat ++ [((i.toNat : Int), 1)] := by
            conv => lhs; unfold runs
            rw [if_neg (by rw [hv]; simp), if_neg (fun hh => hno ⟨by omega, hh.2⟩)]
          rw [e, List.flatMap_append]
          simpa [pairV, Int.toNat_of_nonneg g1] using w1
        · intro b hb'
          rcases w3 with ⟨rfl, _⟩ | ⟨rfl, _⟩
          · exact g4 b hb'
          · have := g5.size
            rw [blk_some] at hb'
            simp only at hb'
            omega
        · have k2 : Keep (fun y => h.size ≤ y) h1 h3 := (q3.mono (fun _ _ h => h.elim)).trans w2 (fun y hy hyb => g4 y hyb)
          exact g5.trans k2 (fun y hy hyb => by
            have : h.size ≤ y := hyb
            omega)
      by_cases hi0 : i > 0
      · refine cnd_t (decide_eq_true hi0) ?_
        refine ldL_at rl ?_
        show D.idx a bits.length (w64 (i - 1)) _
        rw [w64_id (x := i - 1) (by omega) (by omega)]
        refine bits_rd r2' (by omega) (by omega) ?_
        intro v2 hv2
        have hv2' : bits.getD (i.toNat - 1) false = v2 := by
          rw [List.getD_eq_getElem?_getD, show i.toNat - 1 = (i - 1).toNat by omega, hv2]; rfl
        refine cnd_of (fun hb2 => ?_) (fun hb2 => ?_)
        · exact bump (by omega) (by rw [hv2']; simpa using hb2)
        · refine start (fun hh => ?_)
          rw [hv2'] at hh
          rw [hh.2] at hb2
          simp at hb2
      · refine cnd_f (decide_eq_false hi0) ?_
        refine cnd_f rfl ?_
        exact start (fun hh => hi0 (by omega))
  · have hin : i = bits.length := by omega
    subst hin
    rw [Int.toNat_natCast] at g3
    exact hk s h1 g3 g4 g5

theorem same_runs {h : Heap} {s t : Sl} {l : List (Int × Int)} (hs : SlR h 2 s.a s.len s.cap (l.flatMap pairV)) (ht : SlR h 2 t.a t.len t.cap (l.flatMap pairV)) (hl : l.length ≤ 4096) {R : Bool → Heap → Prop} (hk : R true h) :
    CallT Try.prog law10_runs_no [.slice s.a s.len s.cap, .slice t.a t.len t.cap] h [.sc .bool] R := by
  apply law10_runs_call
  have e1 := hs.len
  have e2 := ht.len
  rw [flat_pairs_length] at e1 e2
  have e3 : s.len = l.length := by omega
  have e4 : t.len = l.length := by omega
  simp only [law10_runs, withJ]
  refine cnd_f (by simp [e3, e4]) ?_
  refine LoopT.intro (fun i h' => h' = h ∧ 0 ≤ i ∧ i ≤ l.length) (fun i _ => (l.length - i).toNat) ⟨rfl, by omega, by omega⟩ ?_
  rintro i h' ⟨rfl, g1, g2⟩
  refine cnd_dec (fun hi => ?_) (fun hi => hk)
  have hil : i.toNat < l.length := by omega
  obtain ⟨c1, c2⟩ := flat_pairs_get l i.toNat l[i.toNat] (List.getElem?_eq_getElem hil)
  refine hs.idx g1 hi fun x hx hsp => ?_
  refine inB_of (by decide) (by decide) ?_
  rw [show (0 : Int).toNat * 1 = 0 from rfl, show (1 : Int).toNat * 1 = 1 from rfl, add_add hsp, Nat.add_zero]
  have hs' := hs
  rw [hx] at hs'
  refine ldI_at (n := l[i.toNat].1) (by rw [hs'.cell (by omega)]; exact c1) ?_
  refine ht.idx g1 (by omega) fun y hy hspy => ?_
  have ht' := ht
  rw [hy] at ht'
  refine ldI_at (n := l[i.toNat].1) (by rw [ht'.cell (by omega)]; exact c1) ?_
  refine cnd_f (by simp) ?_
  rw [hx, hy]
  refine idx_some g1 hi ?_
  refine inB_of (by decide) (by decide) ?_
  rw [add_add hsp]
  refine ldI_at (n := l[i.toNat].2) (by rw [hs'.cell (by omega)]; exact c2) ?_
  refine idx_some g1 (by omega) ?_
  rw [add_add hspy]
  refine ldI_at (n := l[i.toNat].2) (by rw [ht'.cell (by omega)]; exact c2) ?_
  refine cnd_f (by simp) ?_
  rw [w64_id (x := i + 1) (by omega) (by omega)]
  exact ⟨⟨rfl, by omega, by omega⟩, by omega⟩

end Ref10
end Go.Proofs.Ytmmoilenemogoaa
