/- stowagelaw5.DiskLasts returns true and writes nothing that was there. -/
import Derived.Test.YtmmoilenemogoaaPApart
namespace Go.Proofs.Ytmmoilenemogoaa
open Go D
set_option linter.unusedVariables false
set_option linter.unusedSimpArgs false

/-- the values that a slice of ints, of bools, holds -/
def intsOf (h : Heap) (a : Option Addr) (l : Nat) : List Int := (List.range l).map fun i => match a with | some x => (match cellH h (x.add (i * 1)) with | some (.int _ z) => z | _ => 0) | none => 0
def boolsOf (h : Heap) (a : Option Addr) (l : Nat) : List Bool := (List.range l).map fun i => match a with | some x => (match cellH h (x.add (i * 1)) with | some (.bool z) => z | _ => false) | none => false

theorem IntsAt.val {h : Heap} {a : Option Addr} {l : Nat} (hs : IntsAt h a l) {i : Int} (h0 : 0 ≤ i) (h1 : i < l) : ∃ x, a = some x ∧ InI ((intsOf h a l).getD i.toNat 0) ∧ ∀ h', Keep (fun y => h.size ≤ y) h h' → cellH h' (x.add (i.toNat * 1)) = some (.int .i64 ((intsOf h a l).getD i.toNat 0)) := by
  obtain ⟨x, z, h2, h3, h4⟩ := hs i.toNat (by omega)
  have e : (intsOf h a l).getD i.toNat 0 = z := by
    unfold intsOf
    rw [List.getD_eq_getElem?_getD, List.getElem?_map, List.getElem?_range (by omega), h2]
    simp only [Option.map_some, Option.getD_some, h3]
  rw [e]
  exact ⟨x, h2, h4, fun h' hk => hk.cell h3 (by have := cell_lt h3; omega)⟩

theorem BoolsAt.val {h : Heap} {a : Option Addr} {l : Nat} (hs : BoolsAt h a l) {i : Int} (h0 : 0 ≤ i) (h1 : i < l) : ∃ x, a = some x ∧ ∀ h', Keep (fun y => h.size ≤ y) h h' → cellH h' (x.add (i.toNat * 1)) = some (.bool ((boolsOf h a l).getD i.toNat false)) := by
  obtain ⟨x, z, h2, h3⟩ := hs i.toNat (by omega)
  have e : (boolsOf h a l).getD i.toNat false = z := by
    unfold boolsOf
    rw [List.getD_eq_getElem?_getD, List.getElem?_map, List.getElem?_range (by omega), h2]
    simp only [Option.map_some, Option.getD_some, h3]
  rw [e]
  exact ⟨x, h2, fun h' hk => hk.cell h3 (by have := cell_lt h3; omega)⟩

theorem BoolsAt.is {h : Heap} {a : Option Addr} {l : Nat} (hs : BoolsAt h a l) : BoolsIs h a l (boolsOf h a l) := by
  refine ⟨by simp [boolsOf], fun i hi => ?_⟩
  obtain ⟨x, z, h2, h3⟩ := hs i hi
  refine ⟨x, h2, ?_⟩
  unfold boolsOf
  rw [List.getD_eq_getElem?_getD, List.getElem?_map, List.getElem?_range hi, h2]
  simp only [Option.map_some, Option.getD_some, h3]

namespace Disk

/-- a sector behind a crash: what it was, or a write that was kept -/
theorem crash_get (l : List ByteArray) (c : List (Int × ByteArray)) (ks : List Bool) (s : Nat) (d : ByteArray) : ∀ n, n ≤ c.length →
    (lays l (kept (c.take n) ks)).getD s d = l.getD s d ∨ ∃ i, ∃ hi : i < c.length, i < n ∧ ks.getD i false = true ∧ c[i].1.toNat = s ∧ (lays l (kept (c.take n) ks)).getD s d = c[i].2
  | 0, _ => by
    left
    rw [List.take_zero]
    cases ks <;> rfl
  | n + 1, hn => by
    have ih := crash_get l c ks s d n (by omega)
    rw [kept_succ c ks n (by omega)]
    cases hk : ks.getD n false
    · simp only [Bool.false_eq_true, if_false, List.append_nil]
      rcases ih with ih | ⟨i, hi, h1, h2, h3, h4⟩
      · exact .inl ih
      · exact .inr ⟨i, hi, by omega, h2, h3, h4⟩
    · simp only [if_true]
      rw [lays_snoc]
      by_cases hs : (c[n]).1.toNat = s
      · by_cases hl : s < (lays l (kept (c.take n) ks)).length
        · refine .inr ⟨n, by omega, by omega, hk, hs, ?_⟩
          rw [List.getD_eq_getElem?_getD, List.getElem?_set, if_pos hs, if_pos (by omega)]; rfl
        · left
          rw [lays_length] at hl
          rw [List.getD_eq_getElem?_getD, List.getElem?_eq_none (by rw [List.length_set, lays_length]; omega), List.getD_eq_getElem?_getD, List.getElem?_eq_none (by omega)]
      · have e : ((lays l (kept (c.take n) ks)).set (c[n]).1.toNat (c[n]).2).getD s d = (lays l (kept (c.take n) ks)).getD s d := by
          rw [List.getD_eq_getElem?_getD, List.getElem?_set_ne hs, ← List.getD_eq_getElem?_getD]
        rw [e]
        rcases ih with ih | ⟨i, hi, h1, h2, h3, h4⟩
        · exact .inl ih
        · exact .inr ⟨i, hi, by omega, h2, h3, h4⟩

/-- the writes of the second loop -/
def thens (zs : List Int) (n : Nat) : List (Int × ByteArray) := (List.range n).map fun i => (andI .i64 (zs.getD i 0) 7, sector 2 (i : Int))

theorem thens_succ (zs : List Int) (n : Nat) : thens zs (n + 1) = thens zs n ++ [(andI .i64 (zs.getD n 0) 7, sector 2 (n : Int))] := by
  unfold thens
  rw [List.range_succ, List.map_append]
  rfl

theorem thens_length (zs : List Int) (n : Nat) : (thens zs n).length = n := by simp [thens]

theorem thens_get (zs : List Int) (n i : Nat) (h : i < (thens zs n).length) : (thens zs n)[i] = (andI .i64 (zs.getD i 0) 7, sector 2 (i : Int)) := by
  simp [thens]

/-- what is told of the first writes: sector s is the last write there, or noughts -/
def Lasts (l : List ByteArray) (vs : List Value) (n : Int) : Prop := l.length = 8 ∧ vs.length = 8 ∧ ∀ s : Nat, s < 8 → ∃ t : Int, 0 ≤ t ∧ t ≤ n ∧ vs[s]? = some (.int .i64 t) ∧ l.getD s (noughts 256) = if t > 0 then sector 1 t else noughts 256

theorem Lasts.set {l : List ByteArray} {vs : List Value} {n j : Int} (h : Lasts l vs n) (h0 : 0 ≤ n) (hj : 0 ≤ j ∧ j < 8) : Lasts (l.set j.toNat (sector 1 (n + 1))) (vs.set j.toNat (.int .i64 (n + 1))) (n + 1) := by
  obtain ⟨h1, h2, h3⟩ := h
  refine ⟨by rw [List.length_set]; exact h1, by rw [List.length_set]; exact h2, fun s hs => ?_⟩
  by_cases hsj : j.toNat = s
  · refine ⟨n + 1, by omega, by omega, ?_, ?_⟩
    · rw [List.getElem?_set, if_pos hsj, if_pos (by omega)]
    · rw [if_pos (by omega), List.getD_eq_getElem?_getD, List.getElem?_set, if_pos hsj, if_pos (by omega)]; rfl
  · obtain ⟨t, t1, t2, t3, t4⟩ := h3 s hs
    refine ⟨t, t1, by omega, ?_, ?_⟩
    · rw [List.getElem?_set_ne hsj]; exact t3
    · rw [List.getD_eq_getElem?_getD, List.getElem?_set_ne hsj, ← List.getD_eq_getElem?_getD]; exact t4

theorem flush_alive {m : M} (h : m.st = 0) : flush m = (0, { m with l := lays m.l m.c, c := [] }) := by
  have hb : burn m = (0, m) := by unfold burn; rw [if_neg (by omega)]
  unfold flush
  rw [if_neg (by omega), hb]
  rfl

theorem seq_dec (s t : ByteArray) : (seq s t = true) ↔ s = t := seq_iff

/-- one of the kept writes since -/
def Since (zs : List Int) (ks : List Bool) (s : Int) (d : ByteArray) (n : Nat) : Prop := ∃ t : Nat, t < n ∧ andI .i64 (zs.getD t 0) 7 = s ∧ ks.getD t false = true ∧ d = sector 2 (t : Int)

theorem diskLasts_spec {h : Heap} {x0 x1 x2 : Sl} (hs0 : IntsAt h x0.a x0.len) (hs1 : IntsAt h x1.a x1.len) (hs2 : BoolsAt h x2.a x2.len) {R : Bool → Heap → Prop} (hR : ∀ h', Keep (fun _ => False) h h' → R true h') :
    CallT Try.prog law5_DiskLasts_no [.slice x0.a x0.len x0.cap, .slice x1.a x1.len x1.cap, .slice x2.a x2.len x2.cap] h [.sc .bool] R := by
  apply law5_DiskLasts_call
  simp only [law5_DiskLasts, cnd_and]
  refine new_spec (by unfold InI; omega) (fun hb => by omega) ?_
  intro _ _ p mu0 im0 h1 hnew hr hk1
  refine withJ.inl (withJ.inl ?_)
  refine cnd_f rfl (cnd_f rfl ?_)
  refine newB_row ?_
  intro h2 s2 rowA k2
  obtain ⟨b, hb⟩ : ∃ b, b = h1.size := ⟨_, rfl⟩
  rw [← hb] at rowA ⊢
  have hbge : h.size ≤ b := by have := hk1.size; omega
  have r2 := hr.keep k2 (fun _ _ h => h) (fun _ _ h => h)
  have nb0 : ∀ y, mu0 y ∨ im0 y → y ≠ b := fun y hy => by have := hr.lt y hy; omega
  refine LoopT.intro (fun i h' => 0 ≤ i ∧ i ≤ 40 ∧ ∃ m mu im vs, Rep h' p mu im m ∧ Alive m i ∧ Row h' b vs ∧ Lasts (lays m.l m.c) vs i ∧ (∀ y, mu y ∨ im y → h.size ≤ y ∧ y ≠ b) ∧ Keep (fun y => h.size ≤ y) h h') (fun i _ => (40 - i).toNat)
    ⟨by omega, by omega, _, mu0, im0, _, r2, ⟨rfl, rfl, by decide⟩, rowA, ⟨rfl, rfl, fun s hs => ⟨0, by omega, by omega, ?_, ?_⟩⟩, fun y hy => ⟨hnew y hy, nb0 y hy⟩, (hk1.mono (fun _ _ h => h.elim)).trans k2 (fun _ _ h => h.elim)⟩ ?_
  · have : s = 0 ∨ s = 1 ∨ s = 2 ∨ s = 3 ∨ s = 4 ∨ s = 5 ∨ s = 6 ∨ s = 7 := by omega
    rcases this with rfl | rfl | rfl | rfl | rfl | rfl | rfl | rfl <;> rfl
  · rw [if_neg (by omega)]
    show (List.replicate 8 (noughts 256)).getD s (noughts 256) = _
    rw [List.getD_eq_getElem?_getD, List.getElem?_replicate, if_pos hs]; rfl
  rintro i h3 ⟨g1, g2, m, mu, im, vs, r3, al, rowV, la, hn, k3⟩
  refine withJ.inl ?_
  refine cnd_of (fun hin => ?_) (fun hout => ?_)
  · simp only [Bool.and_eq_true, decide_eq_true_eq] at hin
    obtain ⟨x, z, hx, hz, hc⟩ := IntsAt.get hs0 g1 hin.1
    rw [hx]
    refine idx_some g1 hin.1 (ldI_at (hc h3 k3) ?_)
    have h7 := and7_range z
    have hw : w64 (i + 1) = i + 1 := w64_id (by omega) (by omega)
    rw [hw]
    refine lay_sector (Q := fun h15 => ldI .i64 (x.add (i.toNat * 1)) h15 fun n16 => (.int .i64 n16 : Value) = .int .i64 z) r3 al (by omega) h7.1 h7.2 (fun h' k' => ldI_at (hc h' (k3.trans k' (fun _ _ h => h.elim))) rfl) ?_
    intro mu' im' h4 r4 al4 k4 gr
    have k34 := k3.trans k4 (fun y hy hm => (hn y (.inl hm)).1)
    have rowV4 := k4.row rowV (fun hm => (hn b (.inl hm)).2 rfl)
    refine idx_some g1 hin.1 (ldI_at (hc h4 k34) ?_)
    refine inB_of h7.1 h7.2 ?_
    rw [add_mk, Nat.zero_add, Nat.mul_one]
    have hbl := rowV.lt
    have hn4 : ∀ y, mu' y ∨ im' y → h.size ≤ y ∧ y ≠ b := by
      intro y hy
      have := k3.size
      rcases hy with hy | hy
      · rcases gr.1 y hy with hh | hh
        · exact hn y (.inl hh)
        · exact ⟨by omega, by omega⟩
      · rcases gr.2 y hy with hh | hh
        · exact hn y (.inr hh)
        · exact ⟨by omega, by omega⟩
    refine stC_row rowV4 (by have := la.2.1; omega) rfl ?_
    intro h5 s5 row5 k5
    refine ⟨⟨by omega, by omega, _, mu', im', _, r4.keep k5 (fun y hy e => (hn4 y (.inl hy)).2 e) (fun y hy e => (hn4 y (.inr hy)).2 e), al4, row5, ?_, hn4, k34.trans k5 (fun y hy e => by
      have : y = b := e
      omega)⟩, by omega⟩
    show Lasts (lays m.l (m.c ++ [(andI .i64 z 7, sector 1 (i + 1))])) _ _
    rw [lays_snoc]
    exact la.set g1 h7
  · refine flush_spec r3 (by have := al.2.2; omega) ?_
    rw [flush_alive al.1]
    intro h4 r4 k4
    have rowV4 := k4.row rowV (fun hm => (hn b (.inl hm)).2 rfl)
    have k34 := k3.trans k4 (fun y hy hm => (hn y (.inl hm)).1)
    refine cnd_f rfl ?_
    obtain ⟨L, hL⟩ : ∃ L, L = lays m.l m.c := ⟨_, rfl⟩
    rw [← hL] at la r4
    obtain ⟨Z, hZ⟩ : ∃ Z, Z = intsOf h x1.a x1.len := ⟨_, rfl⟩
    obtain ⟨ks, hks⟩ : ∃ ks, ks = boolsOf h x2.a x2.len := ⟨_, rfl⟩
    have hsy : m.st = 0 := al.1
    refine LoopT.intro (fun j h' => 0 ≤ j ∧ j ≤ 40 ∧ (j ≤ x1.len) ∧ ∃ mu im, Rep h' p mu im { m with l := L, c := thens Z j.toNat } ∧ Row h' b vs ∧ (∀ y, mu y ∨ im y → h.size ≤ y ∧ y ≠ b) ∧ Keep (fun y => h.size ≤ y) h h') (fun j _ => (40 - j).toNat)
      ⟨by omega, by omega, by omega, mu, im, r4, rowV4, hn, k34⟩ ?_
    rintro j h5 ⟨q1, q2, q3, mu5, im5, r5, rowV5, hn5, k5⟩
    refine withJ.inl ?_
    have tl := thens_length Z j.toNat
    refine cnd_of (fun hin => ?_) (fun hout2 => ?_)
    · simp only [Bool.and_eq_true, decide_eq_true_eq] at hin
      obtain ⟨x, hx, hz, hc⟩ := IntsAt.val hs1 q1 hin.1
      rw [← hZ] at hz hc
      rw [hx]
      refine idx_some q1 hin.1 (ldI_at (hc h5 k5) ?_)
      have h7 := and7_range (Z.getD j.toNat 0)
      rw [w64_id (x := j + 1) (by omega) (by omega)]
      refine lay_sector (n := 40) (Q := fun h15 => ldI .i64 (x.add (j.toNat * 1)) h15 fun n16 => (.int .i64 n16 : Value) = .int .i64 (Z.getD j.toNat 0)) r5 ⟨hsy, la.1, by simp only [tl]; omega⟩ (by omega) h7.1 h7.2 (fun h' k' => ldI_at (hc h' (k5.trans k' (fun _ _ h => h.elim))) rfl) ?_
      intro mu' im' h6 r6 al6 k6 gr
      refine ⟨⟨by omega, by omega, by omega, mu', im', ?_, k6.row rowV5 (fun hm => (hn5 b (.inl hm)).2 rfl), fun y hy => ?_, k5.trans k6 (fun y hy hm => (hn5 y (.inl hm)).1)⟩, by omega⟩
      · have e : thens Z (j + 1).toNat = thens Z j.toNat ++ [(andI .i64 (Z.getD j.toNat 0) 7, sector 2 j)] := by
          rw [show (j + 1).toNat = j.toNat + 1 by omega, thens_succ, Int.toNat_of_nonneg q1]
        rw [e]
        exact r6
      · have := k5.size
        have := rowV5.lt
        rcases hy with hy | hy
        · rcases gr.1 y hy with hh | hh
          · exact hn5 y (.inl hh)
          · exact ⟨by omega, by omega⟩
        · rcases gr.2 y hy with hh | hh
          · exact hn5 y (.inr hh)
          · exact ⟨by omega, by omega⟩
    · have hjmax : j = x1.len ∨ j = 40 := by
        rw [Bool.eq_false_iff] at hout2
        by_cases e1 : j < x1.len
        · by_cases e2 : j < 40
          · exact absurd (by simp [e1, e2]) hout2
          · omega
        · omega
      have bis := (BoolsAt.is hs2).keep k5 (fun hl y hy => by
        obtain ⟨x, z, h2', h3'⟩ := hs2 0 hl
        obtain ⟨x', hx', rfl⟩ := hy
        rw [h2'] at hx'
        injection hx' with hx'
        subst hx'
        have := cell_lt h3'
        have e : (x.add (0 * 1)).block = x.block := by unfold Addr.add; split <;> rfl
        omega)
      rw [← hks] at bis
      refine crash_spec r5 (by simp only [tl]; omega) bis (fun hl y hy hm => ?_) ?_
      · obtain ⟨x, z, h2', h3'⟩ := hs2 0 hl
        obtain ⟨x', hx', rfl⟩ := hy
        rw [h2'] at hx'
        injection hx' with hx'
        subst hx'
        have := cell_lt h3'
        have e : (x.add (0 * 1)).block = x.block := by unfold Addr.add; split <;> rfl
        have := (hn5 _ (.inl hm)).1
        omega
      · intro h6 r6 k6
        have rowV6 := k6.row rowV5 (fun hm => (hn5 b (.inl hm)).2 rfl)
        have k06 := k5.trans k6 (fun y hy hm => (hn5 y (.inl hm)).1)
        have hksl : ks.length = x2.len := bis.1
        have hl6 : (crash { m with l := L, c := thens Z j.toNat } ks).l.length = 8 := by
          show (lays L (kept (thens Z j.toNat) ks)).length = 8
          rw [lays_length]; exact la.1
        refine LoopT.intro (fun s h' => 0 ≤ s ∧ s ≤ 8 ∧ Keep (fun _ => False) h6 h') (fun s _ => (8 - s).toNat) ⟨by omega, by omega, .refl _ _⟩ ?_
        rintro s h7 ⟨u1, u2, k7⟩
        have r7 := r6.keep k7 (fun _ _ h => h) (fun _ _ h => h)
        have k07 := k06.trans k7 (fun _ _ h => h.elim)
        refine cnd_dec (fun hs => ?_) (fun hs => ?_)
        · refine withJ.inl ?_
          have hre : readErr (crash { m with l := L, c := thens Z j.toNat } ks) s = 0 := by
            unfold readErr
            rw [if_neg (by show ¬ ((0 : Int) = 2); omega), if_neg (by omega)]
          refine read_spec r7 (by show [].length ≤ _; simp) (by unfold InI; omega) (fun hb => absurd hre hb) ?_
          intro _ bx h8 hbx1 hbx2 bs8 r8 k8
          obtain ⟨d, hd⟩ : ∃ d, d = readAt (crash { m with l := L, c := thens Z j.toNat } ks) s := ⟨_, rfl⟩
          rw [← hd] at bs8
          have hd' : d = (lays L (kept (thens Z j.toNat) ks)).getD s.toNat (noughts 256) := hd
          refine cnd_f rfl ?_
          refine mkBytes (by decide) (by decide) ?_
          intro h9 s9 bs9 k9
          have bx9 := bs8.keep k9 (fun _ _ h => h)
          have k69 := (k7.trans' k8).trans' k9
          have k09 := (k07.trans k8 (fun _ _ h => h.elim)).trans k9 (fun _ _ h => h.elim)
          have rowV9 := k69.row rowV6 (fun h => h)
          obtain ⟨t, t1, t2, t3, t4⟩ := la.2.2 s.toNat (by omega)
          obtain ⟨old, hold⟩ : ∃ old, old = L.getD s.toNat (noughts 256) := ⟨_, rfl⟩
          have decided : d = old ∨ Since Z ks s d j.toNat := by
            have hcg := crash_get L (thens Z j.toNat) ks s.toNat (noughts 256) j.toNat (by rw [tl]; omega)
            rw [List.take_of_length_le (by omega)] at hcg
            rcases hcg with hcg | ⟨i', hi', w1, w2, w3, w4⟩
            · exact .inl (by rw [hd', hcg, hold])
            · refine .inr ⟨i', w1, ?_, w2, ?_⟩
              · rw [thens_get] at w3
                have h7 := and7_range (Z.getD i' 0)
                simp only at w3
                omega
              · rw [hd', w4, thens_get]
          refine withJ.intro (fun (sl : Sl) h' => Bs h' sl.a sl.len sl.cap old ∧ Keep (fun _ => False) h9 h') ?_ ?_
          · rintro sl h10 ⟨bo, k10⟩
            have bx10 := bx9.keep k10 (fun _ _ h => h)
            refine bx10.str (bo.str ?_)
            refine LoopT.intro (fun (f : Bool × Int) h' => 0 ≤ f.2 ∧ f.2 ≤ j ∧ (f.1 = true ↔ d = old ∨ Since Z ks s d f.2.toNat) ∧ Keep (fun _ => False) h10 h') (fun f _ => (j - f.2).toNat) ⟨by simp, q1, ?_, .refl _ _⟩ ?_
            · show seq d old = true ↔ d = old ∨ Since Z ks s d 0
              rw [seq_iff]
              exact ⟨fun e => .inl e, fun e => e.elim id (fun ⟨_, hlt, _⟩ => by omega)⟩
            · rintro ⟨ok, i'⟩ h11 ⟨v1, v2, v3, k11⟩
              replace v1 : 0 ≤ i' := v1
              replace v2 : i' ≤ j := v2
              replace v3 : ok = true ↔ d = old ∨ Since Z ks s d i'.toNat := v3
              have k011 := ((k09.trans k10 (fun _ _ h => h.elim)).trans k11 (fun _ _ h => h.elim))
              have bx11 := bx10.keep k11 (fun _ _ h => h)
              refine withJ.inl ?_
              show cnd (decide (i' < (x1.len : Int)) && decide (i' < 40)) _ _
              refine cnd_of (fun hin => ?_) (fun hout3 => ?_)
              · simp only [Bool.and_eq_true, decide_eq_true_eq] at hin
                have hij : i' < j := by omega
                have hw : w64 (i' + 1) = i' + 1 := w64_id (by omega) (by omega)
                refine withJ.intro (fun (f : Bool) h' => (f = true ↔ d = old ∨ Since Z ks s d (i' + 1).toNat) ∧ Keep (fun _ => False) h11 h') ?_ ?_
                · rintro f h12 ⟨hf, k12⟩
                  show (0 ≤ w64 (i' + 1) ∧ w64 (i' + 1) ≤ j ∧ (f = true ↔ d = old ∨ Since Z ks s d (w64 (i' + 1)).toNat) ∧ Keep (fun _ => False) h10 h12) ∧ (j - w64 (i' + 1)).toNat < (j - i').toNat
                  rw [hw]
                  exact ⟨⟨by omega, by omega, hf, k11.trans' k12⟩, by omega⟩
                · intro J hJ
                  have hn1 : (i' + 1).toNat = i'.toNat + 1 := by omega
                  have nstep : ∀ f : Bool, (f = true ↔ (d = old ∨ Since Z ks s d i'.toNat) ∨ (andI .i64 (Z.getD i'.toNat 0) 7 = s ∧ ks.getD i'.toNat false = true ∧ d = sector 2 i')) → (f = true ↔ d = old ∨ Since Z ks s d (i' + 1).toNat) := by
                    intro f hf
                    rw [hf, hn1]
                    constructor
                    · rintro ((e | ⟨t', e1, e2⟩) | ⟨e1, e2, e3⟩)
                      · exact .inl e
                      · exact .inr ⟨t', by omega, e2⟩
                      · exact .inr ⟨i'.toNat, by omega, e1, e2, by rw [Int.toNat_of_nonneg v1]; exact e3⟩
                    · rintro (e | ⟨t', e1, e2, e3, e4⟩)
                      · exact .inl (.inl e)
                      · by_cases ht : t' < i'.toNat
                        · exact .inl (.inr ⟨t', ht, e2, e3, e4⟩)
                        · have : t' = i'.toNat := by omega
                          subst this
                          rw [Int.toNat_of_nonneg v1] at e4
                          exact .inr ⟨e2, e3, e4⟩
                  refine cnd_of (fun hok => ?_) (fun hok => ?_)
                  · exact hJ _ _ ⟨nstep true ⟨fun _ => .inl (v3.1 hok), fun _ => rfl⟩, .refl _ _⟩
                  · have hno : ¬ (d = old ∨ Since Z ks s d i'.toNat) := fun e => by
                      have := v3.2 e
                      replace hok : ok = false := hok
                      rw [hok] at this; cases this
                    have say : ∀ (f : Bool) (P : Prop), (f = true ↔ P) → (P ↔ (andI .i64 (Z.getD i'.toNat 0) 7 = s ∧ ks.getD i'.toNat false = true ∧ d = sector 2 i')) → (f = true ↔ d = old ∨ Since Z ks s d (i' + 1).toNat) := fun f P h1 h2 => nstep f (h1.trans (h2.trans ⟨.inr, fun e => e.elim (fun e => absurd e hno) id⟩))
                    obtain ⟨x, hx, hz, hc⟩ := IntsAt.val hs1 v1 (i := i') (by omega)
                    rw [← hZ] at hz hc
                    show idx x1.a x1.len i' _
                    rw [hx]
                    refine idx_some v1 (by omega) (ldI_at (hc h11 k011) ?_)
                    refine cnd_of (fun hc2 => ?_) (fun hc2 => ?_)
                    · simp only [Bool.and_eq_true, decide_eq_true_eq, beq_iff_eq] at hc2
                      obtain ⟨hsame, hkl⟩ := hc2
                      replace hkl : i' < (x2.len : Int) := hkl
                      obtain ⟨y, hy, hcy⟩ := BoolsAt.val hs2 v1 hkl
                      rw [← hks] at hcy
                      show idx x2.a x2.len i' _
                      rw [hy]
                      refine idx_some v1 hkl (ldB_at (hcy h11 k011) ?_)
                      refine cnd_of (fun hkt => ?_) (fun hkf => ?_)
                      · refine bx11.str ?_
                        refine sector_spec ?_
                        intro h12 b12 k12 s12
                        refine ⟨(bx11.keep k12 (fun _ _ h => h)).str rfl, ?_⟩
                        refine b12.str ?_
                        exact hJ _ _ ⟨say _ _ seq_iff ⟨fun e => ⟨hsame, hkt, e⟩, fun e => e.2.2⟩, k12⟩
                      · exact hJ _ _ ⟨say false False ⟨fun e => (by cases e), fun e => e.elim⟩ ⟨fun e => e.elim, fun e => by rw [hkf] at e; cases e.2.1⟩, .refl _ _⟩
                    · refine hJ _ _ ⟨say false False ⟨fun e => (by cases e), fun e => e.elim⟩ ⟨fun e => e.elim, fun e => ?_⟩, .refl _ _⟩
                      by_cases hkl : i' < (x2.len : Int)
                      · have e1 := e.1
                        have : (andI .i64 (Z.getD i'.toNat 0) 7 == s && decide (i' < (x2.len : Int))) = true := by rw [e1]; simp [hkl]
                        rw [show (andI .i64 (Z.getD i'.toNat 0) 7 == s && decide (i' < (x2.len : Int))) = false from hc2] at this
                        cases this
                      · have : ks.getD i'.toNat false = false := by
                          rw [List.getD_eq_getElem?_getD, List.getElem?_eq_none (by omega)]; rfl
                        rw [this] at e
                        cases e.2.1
              · have hij : i' = j := by
                  rw [Bool.eq_false_iff] at hout3
                  by_cases e1 : i' < x1.len
                  · by_cases e2 : i' < 40
                    · exact absurd (by simp [e1, e2]) hout3
                    · omega
                  · omega
                subst hij
                have hok : ok = true := v3.2 decided
                subst hok
                refine cnd_f rfl ?_
                show (0 ≤ w64 (s + 1) ∧ _) ∧ _
                rw [w64_id (x := s + 1) (by omega) (by omega)]
                exact ⟨⟨by omega, by omega, (k69.trans' k10).trans' k11⟩, by omega⟩
          · intro J hJ
            have hvs : vs.length = 8 := la.2.1
            have ld : cellH h9 ((⟨b, 0, none⟩ : Addr).add (s.toNat * 1)) = some (.int .i64 t) := by
              rw [add_mk, Nat.zero_add, Nat.mul_one, rowV9.cells]; exact t3
            refine inB_of u1 hs (ldI_at ld ?_)
            refine cnd_dec (fun ht => ?_) (fun ht => ?_)
            · refine inB_of u1 hs (ldI_at ld ?_)
              refine sector_spec ?_
              intro h10 b10 k10 s10
              refine hJ _ _ ⟨?_, k10⟩
              rw [hold, t4, if_pos ht]
              exact b10
            · refine hJ _ _ ⟨?_, .refl _ _⟩
              rw [hold, t4, if_neg ht]
              exact bs9
        · refine withJ.inl (pending_spec r7 ?_)
          refine cnd_t rfl ?_
          refine awake_spec fun h' hk => hR h' ?_
          have kk := k07.trans hk (fun _ _ h => h.elim)
          exact ⟨kk.size, fun b hb _ => kk.same b hb (by omega)⟩

end Disk
end Go.Proofs.Ytmmoilenemogoaa
