/- Contracts of package blob: held, Read, Drop, Free, Open. -/
import Derived.Test.YtmkobpkdodgboaaPBlobB
namespace Go.Proofs.Ytmkobpkdodgboaa
open Go D
set_option linter.unusedVariables false
set_option linter.unusedSimpArgs false
namespace Blob
open Disk Enc Hash Snap Alloc

/-- a ref that is held -/
def Held (bits : List Bool) (r : Int × Int) : Prop := (0 < r.2 ∧ 0 ≤ r.1 ∧ AllOf bits r.1 (nsecI r.2) true) ∨ (r.2 = 0 ∧ r.1 = 0)

theorem nsecI_in {n : Int} (hn : InI n) : InI (nsecI n) := by
  unfold InI nsecI at *
  split <;> omega

theorem held_spec {h : Heap} {p q s w : Nat} {fr : Int} {bits : List Bool} (ho : Row h q (BRow p s fr)) (hs : Alloc.Rep h s w bits) {r : Int × Int} (hr : InI r.1 ∧ InI r.2) {R : Bool → Heap → Prop}
    (hyes : Held bits r → ∀ h', Keep (fun _ => False) h h' → R true h') (hno : ¬ Held bits r → ∀ h', Keep (fun _ => False) h h' → R false h') :
    CallT Try.prog blob_Blobs_held_no [.pointer (some ⟨q, 0, none⟩), .agg #[.int .i64 r.1, .int .i64 r.2]] h [.sc .bool] R := by
  have hcall := blob_Blobs_held_call (b_0 := some ⟨q, 0, none⟩) (r_1 := r) (R := R) (h := h)
  apply hcall
  simp only [blob_Blobs_held, nn_eq, add_mk]
  refine newB_row ?_
  intro h1 s1 o1 k1
  refine withJ.inl (withJ.inl ?_)
  refine ldI_row (o := 0) o1 rfl (ldI_row (o := 0 + 1) o1 rfl ?_)
  refine formed_spec ?_
  intro h2 k2
  have o2 := k2.row o1 (fun h => h)
  by_cases hf : formedP r
  rotate_left
  · refine cnd_t (by simp [hf]) (cnd_t rfl ?_)
    refine ldI_row (o := 0) o2 rfl (ldI_row (o := 0 + 1) o2 rfl ?_)
    refine formed_spec ?_
    intro h3 k3
    rw [decide_eq_false hf]
    refine hno (fun hh => hf ?_) h3 ((k1.trans' k2).trans' k3)
    rcases hh with ⟨a, b, _⟩ | hh
    · exact .inl ⟨a, b⟩
    · exact .inr hh
  refine cnd_f (by simp [hf]) ?_
  refine ldI_row (o := 0 + 1) o2 rfl ?_
  refine cnd_of (fun hz => ?_) (fun hz => ?_)
  · have hz' : r.2 = 0 := by simpa using hz
    refine ldI_row (o := 0) o2 rfl (ldI_row (o := 0 + 1) o2 rfl ?_)
    refine formed_spec ?_
    intro h3 k3
    rw [decide_eq_true hf]
    refine hyes (.inr ?_) h3 ((k1.trans' k2).trans' k3)
    rcases hf with hf | hf
    · omega
    · exact hf
  · have hz' : ¬ r.2 = 0 := by simpa using hz
    have hf' : 0 < r.2 ∧ 0 ≤ r.1 := by
      rcases hf with hf | hf
      · exact hf
      · omega
    have k12 := k1.trans' k2
    have ho2 := k12.row ho (fun h => h)
    refine ldP_row (o := 0 + 2) ho2 rfl ?_
    refine copy_spec (hs.keep k12 (fun h => h) (fun h => h)) ?_
    intro p' q' h3 hp' hq' hr3 k3
    have o3 := k3.row o2 (fun h => h)
    refine ldI_row (o := 0) o3 rfl (ldI_row (o := 0 + 1) o3 rfl ?_)
    refine sectors_spec hr.2 ?_
    refine ⟨ldI_row (o := 0) o3 rfl rfl, ?_⟩
    have k13 := k12.trans' k3
    have z12 := k12.size
    refine give_spec hr3 hr.1 (nsecI_in hr.2) (fun ha h4 _ k4 _ => ?_) (fun ha => ?_)
    · exact hyes (.inl ⟨hf'.1, hf'.2, ha⟩) h4 (k13.trans k4 (fun y hy hh => by omega))
    · refine hno (fun hh => ?_) h3 k13
      rcases hh with ⟨_, _, hh⟩ | hh
      · exact ha hh
      · exact hz' hh.1

theorem free_spec {h : Heap} {p q s w : Nat} {fr : Int} {bits : List Bool} (ho : Row h q (BRow p s fr)) (hs : Alloc.Rep h s w bits) {R : Int → Heap → Prop} (hk : R (freeOf bits) h) :
    CallT Try.prog blob_Blobs_Free_no [.pointer (some ⟨q, 0, none⟩)] h [.sc (.int .i64)] R := by
  apply blob_Blobs_Free_call
  simp only [blob_Blobs_Free, nn_eq, add_mk]
  refine ldP_row (o := 0 + 2) ho rfl ?_
  exact Alloc.free_spec hs hk

theorem drop_spec {h : Heap} {p q s w : Nat} {fr : Int} {bits : List Bool} (ho : Row h q (BRow p s fr)) (hs : Alloc.Rep h s w bits) (hq : q ≠ s ∧ q ≠ w) {r : Int × Int} (hr : InI r.1 ∧ InI r.2) {R : Int → Heap → Prop}
    (hyes : 0 < r.2 → AllOf bits r.1 (nsecI r.2) true → ∀ h', Alloc.Rep h' s w (flip bits r.1.toNat (nsecI r.2).toNat) → Keep (fun x => x = s ∨ x = w) h h' → R 0 h')
    (hz : r.2 = 0 → r.1 = 0 → ∀ h', Keep (fun _ => False) h h' → R 0 h') (hno : ¬ Held bits r → ∀ h', Keep (fun _ => False) h h' → R 1 h') :
    CallT Try.prog blob_Blobs_Drop_no [.pointer (some ⟨q, 0, none⟩), .agg #[.int .i64 r.1, .int .i64 r.2]] h [.sc (.int .i64)] R := by
  have hcall := blob_Blobs_Drop_call (b_0 := some ⟨q, 0, none⟩) (r_1 := r) (R := R) (h := h)
  apply hcall
  simp only [blob_Blobs_Drop, nn_eq, add_mk]
  refine newB_row ?_
  intro h1 s1 o1 k1
  refine ldI_row (o := 0) o1 rfl (ldI_row (o := 0 + 1) o1 rfl ?_)
  refine held_spec (k1.row ho (fun h => h)) (hs.keep k1 (fun h => h) (fun h => h)) hr (fun hh h2 k2 => ?_) (fun hh h2 k2 => ?_)
  rotate_left
  · exact cnd_t rfl (hno hh h2 (k1.trans' k2))
  refine cnd_f rfl ?_
  have o2 := k2.row o1 (fun h => h)
  have k12 := k1.trans' k2
  refine ldI_row (o := 0 + 1) o2 rfl ?_
  refine cnd_of (fun h0 => ?_) (fun h0 => ?_)
  · have h0' : r.2 = 0 := by simpa using h0
    refine hz h0' ?_ h2 k12
    rcases hh with ⟨a, _⟩ | hh
    · omega
    · exact hh.2
  · have h0' : ¬ r.2 = 0 := by simpa using h0
    have ho2 := k12.row ho (fun h => h)
    have hs2 := hs.keep k12 (fun h => h) (fun h => h)
    rcases hh with ⟨a, b, ha⟩ | hh
    rotate_left
    · exact absurd hh.1 h0'
    refine ldP_row (o := 0 + 2) ho2 rfl (ldI_row (o := 0) o2 rfl (ldI_row (o := 0 + 1) o2 rfl ?_))
    refine sectors_spec hr.2 ?_
    refine ⟨ldI_row (o := 0) o2 rfl rfl, ldP_row (o := 0 + 2) ho2 rfl rfl, ?_⟩
    refine give_spec hs2 hr.1 (nsecI_in hr.2) (fun ha' h4 r4 k4 _ => ?_) (fun hn => absurd ha hn)
    exact hyes a ha' h4 r4 ((k12.mono (fun _ _ h => h.elim)).trans k4 (fun _ _ hh => hh))

/-! ### reading -/
/-- d sectors from u on, as far as off and n reach -/
def readF (m : M) (P : Int) (off n : Nat) : Nat → Nat → List UInt8 → Option (List UInt8)
  | 0, _, acc => some acc
  | d + 1, u, acc => if sectL ((readAt m (P + (u : Int))).data.toList.drop 4) = (readAt m (P + (u : Int))).data.toList then
      readF m P off n d (u + 1) (acc ++ ((readAt m (P + (u : Int))).data.toList.drop (4 + (off - 252 * u))).take (min (off + n - 252 * u) 252 - (off - 252 * u))) else none
def cntN (off n : Nat) : Nat := (off + n - 1) / 252 - off / 252 + 1

theorem read_spec {mu im : Nat → Prop} {h : Heap} {p q s w : Nat} {fr : Int} {m : M} {bits : List Bool} (hr : Disk.Rep h p mu im m) (h0 : m.st = 0) (hc : m.c.length ≤ 800000) (hz : ∀ i, (readAt m i).size = 256) (ho : Row h q (BRow p s fr)) (hs : Alloc.Rep h s w bits) (g0 : 0 ≤ fr) (g1 : fr + bits.length ≤ m.l.length)
    {st : Int} {size off n : Nat} (hh : Held bits (st, (size : Int))) (h1 : off ≤ size) (h2 : n ≤ size - off) {R : Sl × Int → Heap → Prop}
    (hno : 0 < n → readF m (fr + st) off n (cntN off n) (off / 252) [] = none → ∀ h', Keep (fun _ => False) h h' → R (⟨none, 0, 0⟩, 62) h')
    (hyes : ∀ out, (if n = 0 then some [] else readF m (fr + st) off n (cntN off n) (off / 252) []) = some out → ∀ sl h', Bl h' sl.a sl.len sl.cap out → (∀ b, blk sl.a b → h.size ≤ b) → Keep (fun _ => False) h h' → R (sl, 0) h') :
    CallT Try.prog blob_Blobs_Read_no [.pointer (some ⟨q, 0, none⟩), .agg #[.int .i64 st, .int .i64 (size : Int)], .int .i64 (off : Int), .int .i64 (n : Int)] h [.sc .sl, .sc (.int .i64)] R := by
  have hcall := blob_Blobs_Read_call (x_0 := some ⟨q, 0, none⟩) (x_1 := (st, (size : Int))) (x_2 := (off : Int)) (x_3 := (n : Int)) (R := R) (h := h)
  apply hcall
  simp only [blob_Blobs_Read, nn_eq, add_mk]
  have hle := hr.le
  have hsle := hs.le
  have hst : 0 ≤ st ∧ (size : Int) ≤ 252 * 4096 ∧ (0 < size → st + (nsec size : Int) ≤ bits.length) ∧ st ≤ 4096 := by
    rcases hh with ⟨a, b, c⟩ | hh
    · obtain ⟨c1, c2, c3, _⟩ := c
      have e := nsecI_nat size
      replace c1 : 1 ≤ nsecI (size : Int) := c1
      replace c2 : 0 ≤ st := c2
      replace c3 : st + nsecI (size : Int) ≤ bits.length := c3
      rw [e] at c1 c3
      have en : nsec size = (size + 251) / 252 := rfl
      omega
    · have h1 : (size : Int) = 0 := hh.1
      have h2 : st = 0 := hh.2
      omega
  obtain ⟨s0, s1, s2, s3⟩ := hst
  refine newB_row ?_
  intro h1' s1' o1 k1
  refine withJ.inl (withJ.inl ?_)
  refine ldI_row (o := 0) o1 rfl (ldI_row (o := 0 + 1) o1 rfl ?_)
  refine held_spec (r := (st, (size : Int))) (k1.row ho (fun h => h)) (hs.keep k1 (fun h => h) (fun h => h)) ⟨by unfold InI; show -9223372036854775808 ≤ st ∧ st ≤ 9223372036854775807; omega, by unfold InI; show -9223372036854775808 ≤ (size : Int) ∧ (size : Int) ≤ 9223372036854775807; omega⟩ (fun _ h2' k2 => ?_) (fun hn => absurd hh hn)
  refine cnd_f rfl ?_
  have k12 := k1.trans' k2
  have o2 := k2.row o1 (fun h => h)
  have ho2 := k12.row ho (fun h => h)
  refine cnd_neg (by omega) (cnd_neg (by omega) ?_)
  refine ldI_row (o := 0 + 1) o2 rfl ?_
  refine cnd_neg (by show ¬ (off : Int) > (size : Int); omega) ?_
  refine ldI_row (o := 0 + 1) o2 rfl ?_
  have ew : w64 ((size : Int) - off) = size - off := w64_id (by omega) (by omega)
  show cnd (decide ((n : Int) > w64 ((size : Int) - (off : Int)))) _ _
  rw [ew]
  refine cnd_neg (by omega) ?_
  refine mkSl_row (by omega) (by omega) (by omega) (by omega) ?_
  intro h3 s3' o3 k3
  have k13 := k12.trans' k3
  have sl0 : Bl h3 (some ⟨h2'.size, 0, none⟩) 0 (n : Int).toNat [] := .inr ⟨h2'.size, 0, _, rfl, o3, by omega, by rw [zerosL_one]; simp, rfl, rfl⟩
  have z12 := k12.size
  refine cnd_of (fun hn0 => ?_) (fun hn0 => ?_)
  · have hn0' : n = 0 := by
      have : (n : Int) = 0 := by simpa using hn0
      omega
    refine hyes [] (by rw [if_pos hn0']) ⟨some ⟨h2'.size, 0, none⟩, 0, (n : Int).toNat⟩ h3 sl0 (fun b hb => by rw [blk_some] at hb; simp only at hb; omega) k13
  have hn0' : 0 < n := by
    have : ¬ (n : Int) = 0 := by simpa using hn0
    omega
  have hsz : 0 < size := by omega
  have s2' := s2 hsz
  have en : nsec size = (size + 251) / 252 := rfl
  have t1 : w64 ((off : Int) + n) = off + n := w64_id (by omega) (by omega)
  have t2 : w64 ((off : Int) + n - 1) = off + n - 1 := w64_id (by omega) (by omega)
  have t3 : w64 (((off : Int) + n - 1).tdiv 252) = (off + n - 1) / 252 := by rw [Int.tdiv_eq_ediv_of_nonneg (by omega), w64_id (by omega) (by omega)]
  have t4 : w64 ((off : Int).tdiv 252) = off / 252 := by rw [Int.tdiv_eq_ediv_of_nonneg (by omega), w64_id (by omega) (by omega)]
  have t5 : w64 (((off : Int) + n - 1) / 252 - off / 252) = ((off : Int) + n - 1) / 252 - off / 252 := w64_id (by omega) (by omega)
  have ec : cntN off n = (off + n - 1) / 252 - off / 252 + 1 := rfl
  have t6 : w64 (((off : Int) + n - 1) / 252 - off / 252 + 1) = (cntN off n : Int) := by rw [w64_id (by omega) (by omega), ec]; omega
  rw [t1, t2, t3, t4, t5, t6]
  obtain ⟨f, hf⟩ : ∃ f, f = off / 252 := ⟨_, rfl⟩
  have hfI : (off : Int) / 252 = (f : Int) := by omega
  rw [hfI]
  rw [← hf, if_neg (by omega)] at hyes
  rw [← hf] at hno
  obtain ⟨C, hC⟩ : ∃ C, C = cntN off n := ⟨_, rfl⟩
  rw [← hC] at hyes hno ⊢
  have hCf : f + C ≤ nsec size ∧ 252 * (f + C - 1) ≤ off + n - 1 ∧ off + n ≤ 252 * (f + C) ∧ 1 ≤ C ∧ 252 * f ≤ off := by omega
  refine LoopT.intro (fun (t : Sl × Int) h' => 0 ≤ t.2 ∧ t.2 ≤ C ∧ ∃ acc, readF m (fr + st) off n C f [] = readF m (fr + st) off n (C - t.2.toNat) (f + t.2.toNat) acc ∧ Bl h' t.1.a t.1.len t.1.cap acc ∧ (t.1.len : Int) ≤ 252 * t.2 ∧ (∀ b, blk t.1.a b → h.size + 1 ≤ b) ∧ Keep (fun _ => False) h h' ∧ Row h' h.size [.int .i64 st, .int .i64 (size : Int)]) (fun t _ => ((C : Int) - t.2).toNat)
    ⟨by simp, by simp, [], by simp, sl0, by simp, fun b hb => by rw [blk_some] at hb; have := k2.size; simp only at hb; omega, k13, k3.row o2 (fun h => h)⟩ ?_
  rintro ⟨sl, i⟩ h4 ⟨q1, q2, acc, q3, q4, q5, q6, q7, o4⟩
  replace q1 : 0 ≤ i := q1
  replace q2 : i ≤ C := q2
  replace q3 : readF m (fr + st) off n C f [] = readF m (fr + st) off n (C - i.toNat) (f + i.toNat) acc := q3
  replace q4 : Bl h4 sl.a sl.len sl.cap acc := q4
  replace q5 : (sl.len : Int) ≤ 252 * i := q5
  replace q6 : ∀ b, blk sl.a b → h.size + 1 ≤ b := q6
  have z7 := q7.size
  refine cnd_dec (fun hi => ?_) (fun hi => ?_)
  rotate_left
  · replace hi : ¬ i < C := hi
    have e : C - i.toNat = 0 := by omega
    rw [e] at q3
    exact hyes acc q3 sl h4 q4 (fun b hb => by have := q6 b hb; omega) q7
  replace hi : i < C := hi
  have ho4 := q7.row ho (fun h => h)
  have r4 := hr.keep q7 (fun _ _ h => h) (fun _ _ h => h)
  refine ldP_row (o := 0) ho4 rfl (ldI_row (o := 0 + 1) ho4 rfl (ldI_row (o := 0) o4 rfl ?_))
  have u1 : w64 ((f : Int) + i) = ((f + i.toNat : Nat) : Int) := by rw [w64_id (by omega) (by omega)]; omega
  obtain ⟨x, hx⟩ : ∃ x, x = f + i.toNat := ⟨_, rfl⟩
  have u2 : w64 (w64 (fr + st) + (x : Int)) = fr + st + (x : Int) := by rw [w64_id (x := fr + st) (by omega) (by omega), w64_id (by omega) (by omega)]
  show CallT Try.prog disk_Dev_Read_no [.pointer (some ⟨p, 0, none⟩), .int .i64 (w64 (w64 (fr + st) + w64 ((f : Int) + i)))] h4 _ _
  dsimp only
  rw [u1, ← hx, u2]
  have rd0 : readErr m (fr + st + (x : Int)) = 0 := by unfold readErr; rw [if_neg (by omega), if_neg (by omega)]
  refine Disk.read_spec r4 (by omega) (by unfold InI; omega) (fun e => absurd rd0 e) (fun _ b h5 b1 b2 bs5 r5 k5 => ?_)
  refine cnd_f rfl ?_
  obtain ⟨X, hX⟩ : ∃ X, X = (readAt m (fr + st + (x : Int))).data.toList := ⟨_, rfl⟩
  have hXl : X.length = 256 := by rw [hX]; exact hz _
  have bX : Bl h5 (some ⟨b, 0, none⟩) 256 256 X := by rw [hX]; exact bs5
  refine Rb.sub bX.rb (by decide) (by show (4 : Int) ≤ ((256 : Nat) : Int); decide) (by show ((256 : Nat) : Int) ≤ ((256 : Nat) : Int); decide) (by show ((256 : Nat) : Int) ≤ ((256 : Nat) : Int); decide) (by show ((256 : Nat) : Int) ≤ ((256 : Nat) : Int); decide) ?_
  intro a6 w6 _
  refine bX.rb.str ?_
  have w6' : Rb h5 a6 252 (X.drop 4) := by
    have e : (X.drop (4 : Int).toNat).take (((256 : Nat) : Int) - 4).toNat = X.drop 4 := by
      rw [List.take_of_length_le (by rw [List.length_drop, hXl]; decide)]
      rfl
    rw [e] at w6
    exact w6
  refine sector_spec w6' (by decide) ?_
  intro h7 b7 k7 s7
  have bX7 : Bl h7 (some ⟨b, 0, none⟩) 256 256 X := SlR.keep bX k7 (fun _ _ h => h)
  refine ⟨bX7.rb.str rfl, ?_⟩
  refine b7.rb.str ?_
  rw [seq_ofL]
  have e1 : readF m (fr + st) off n (C - i.toNat) (f + i.toNat) acc = if sectL (X.drop 4) = X then readF m (fr + st) off n (C - (i.toNat + 1)) (f + (i.toNat + 1)) (acc ++ (X.drop (4 + (off - 252 * x))).take (min (off + n - 252 * x) 252 - (off - 252 * x))) else none := by
    have : C - i.toNat = (C - (i.toNat + 1)) + 1 := by omega
    rw [this, ← hx]
    conv => lhs; unfold readF
    rw [← hX, show f + (i.toNat + 1) = x + 1 by omega]
  rw [e1] at q3
  have k47 := k5.trans' k7
  refine cnd_of (fun hne => ?_) (fun heq => ?_)
  · have hne' : ¬ sectL (X.drop 4) = X := by simpa using hne
    rw [if_neg hne'] at q3
    exact hno hn0' q3 h7 (q7.trans' k47)
  have heq' : sectL (X.drop 4) = X := by simpa using heq
  rw [if_pos heq'] at q3
  have v1 : w64 ((x : Int) * 252) = x * 252 := w64_id (by omega) (by omega)
  have v2 : w64 ((off : Int) - x * 252) = off - x * 252 := w64_id (by omega) (by omega)
  have v3 : w64 ((off : Int) + n - x * 252) = off + n - x * 252 := w64_id (by omega) (by omega)
  rw [v1, v2, v3]
  have m1 : maxI ((off : Int) - x * 252) 0 = ((off - 252 * x : Nat) : Int) := by unfold maxI; split <;> omega
  have m2 : minI ((off : Int) + n - x * 252) 252 = ((min (off + n - 252 * x) 252 : Nat) : Int) := by unfold minI; split <;> omega
  rw [m1, m2]
  obtain ⟨lo, hlo⟩ : ∃ lo, lo = off - 252 * x := ⟨_, rfl⟩
  obtain ⟨hi', hhi⟩ : ∃ hi', hi' = min (off + n - 252 * x) 252 := ⟨_, rfl⟩
  rw [← hlo, ← hhi] at q3 ⊢
  have hb : lo ≤ hi' ∧ hi' ≤ 252 := by omega
  have v4 : w64 (4 + (lo : Int)) = 4 + lo := w64_id (by omega) (by omega)
  have v5 : w64 (4 + (hi' : Int)) = 4 + hi' := w64_id (by omega) (by omega)
  rw [v4, v5]
  refine Rb.sub bX7.rb (by omega) (by omega) (by show 4 + (hi' : Int) ≤ ((256 : Nat) : Int); omega) (by show 4 + (hi' : Int) ≤ ((256 : Nat) : Int); omega) (by exact Int.le_refl _) ?_
  intro a8 w8 _
  have e8 : (4 + (hi' : Int) - (4 + (lo : Int))).toNat = hi' - lo := by omega
  rw [e8, show (4 + (lo : Int)).toNat = 4 + lo by omega] at w8
  rw [e8]
  refine Rv.rd w8 ?_
  have q4' : Bl h7 sl.a sl.len sl.cap acc := SlR.keep q4 k47 (fun _ _ h => h)
  have w8l : (List.take (hi' - lo) (List.drop (4 + lo) X)).length = hi' - lo := by rw [List.length_take, List.length_drop, hXl]; omega
  refine q4'.push (new := (X.drop (4 + lo)).take (hi' - lo)) (by omega) w8l.symm rfl ?_
  intro a9 c9 h9 b9 k9 n9
  have hw : w64 (i + 1) = i + 1 := w64_id (by omega) (by omega)
  have z47 := k47.size
  have kf : Keep (fun _ => False) h h9 := (q7.trans' k47).trans k9 (fun y hy hh => by have := q6 y hh; omega)
  have o9 : Row h9 h.size [.int .i64 st, .int .i64 (size : Int)] := k9.row (k47.row o4 (fun h => h)) (fun hh => by
    have := q6 _ hh
    have := k1.size
    have := k2.size
    omega)
  show (0 ≤ w64 (i + 1) ∧ w64 (i + 1) ≤ C ∧ ∃ acc, readF m (fr + st) off n C f [] = readF m (fr + st) off n (C - (w64 (i + 1)).toNat) (f + (w64 (i + 1)).toNat) acc ∧ Bl h9 a9 (sl.len + (hi' - lo)) c9 acc ∧ ((sl.len + (hi' - lo) : Nat) : Int) ≤ 252 * w64 (i + 1) ∧ (∀ b, blk a9 b → h.size + 1 ≤ b) ∧ Keep (fun _ => False) h h9 ∧ Row h9 h.size [.int .i64 st, .int .i64 (size : Int)]) ∧ ((C : Int) - w64 (i + 1)).toNat < ((C : Int) - i).toNat
  rw [hw, show (i + 1).toNat = i.toNat + 1 by omega]
  refine ⟨⟨by omega, by omega, _, q3, b9, by omega, fun y hy => ?_, kf, o9⟩, by omega⟩
  rcases n9 y hy with hh | hh
  · exact q6 y hh
  · have := o4.lt
    omega

end Blob
end Go.Proofs.Ytmkobpkdodgboaa
