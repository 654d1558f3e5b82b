/- Lists of headers: all values of a name; numbers out of digits. -/
import Derived.Test.YtjpmjhnjdnbopaaPCharsB
import Derived.Test.YtjpmjhnjdnbopaaPArgs
namespace Go.Proofs.Ytjpmjhnjdnbopaa
open Go D
set_option linter.unusedVariables false
set_option linter.unusedSimpArgs false
/-! ### headers -/
def HdsAt (h : Heap) (a : Option Addr) (l : Nat) (hs : List (ByteArray × ByteArray)) : Prop :=
  l = hs.length ∧ ∀ i p, hs[i]? = some p → ∃ x, a = some x ∧ cellH h (x.add (i * 2)) = some (.string p.1) ∧ cellH h ((x.add (i * 2)).add 1) = some (.string p.2)
theorem HdsAt.keep {S : Nat → Prop} {h h' : Heap} {a : Option Addr} {l : Nat} {hs : List (ByteArray × ByteArray)} (hh : HdsAt h a l hs) (hk : Keep S h h') (hn : 0 < l → ∀ b, blk a b → ¬ S b) : HdsAt h' a l hs := by
  refine ⟨hh.1, fun i p hp => ?_⟩
  obtain ⟨x, e1, e2, e3⟩ := hh.2 i p hp
  have hl : 0 < l := by
    have := (List.getElem?_eq_some_iff.1 hp).1
    have := hh.1
    omega
  refine ⟨x, e1, hk.cell e2 (hn hl _ ⟨x, e1, (add_block _ _).symm⟩), hk.cell e3 (hn hl _ ⟨x, e1, ?_⟩)⟩
  rw [add_block, add_block]
theorem HdsAt.keep0 {h h' : Heap} {a : Option Addr} {l : Nat} {hs : List (ByteArray × ByteArray)} (hh : HdsAt h a l hs) (hk : Keep (fun _ => False) h h') : HdsAt h' a l hs := hh.keep hk (fun _ _ _ h => h)
theorem HdsAt.lt {h : Heap} {a : Option Addr} {l : Nat} {hs : List (ByteArray × ByteArray)} (hh : HdsAt h a l hs) (hl : 0 < l) {b : Nat} (hb : blk a b) : b < h.size := by
  have e := hh.1
  obtain ⟨x, h1, h2, _⟩ := hh.2 0 _ (List.getElem?_eq_getElem (by omega))
  obtain ⟨y, e1, e2⟩ := hb
  rw [h1] at e1
  injection e1 with e1
  subst e1 e2
  have := cell_lt h2
  rwa [add_block] at this

def allF (name : ByteArray) : List (ByteArray × ByteArray) → List ByteArray
  | [] => []
  | p :: r => if p.1 = name then p.2 :: allF name r else allF name r
theorem allF_app (name : ByteArray) : ∀ a b, allF name (a ++ b) = allF name a ++ allF name b
  | [], b => rfl
  | p :: r, b => by
    simp only [List.cons_append, allF, allF_app name r b]
    split <;> rfl
theorem allF_take {name : ByteArray} {hs : List (ByteArray × ByteArray)} {i : Nat} {p : ByteArray × ByteArray} (hp : hs[i]? = some p) : allF name (hs.take (i + 1)) = allF name (hs.take i) ++ (if p.1 = name then [p.2] else []) := by
  rw [List.take_add_one, hp, allF_app]
  simp [allF]
theorem allF_len (name : ByteArray) : ∀ hs, (allF name hs).length ≤ hs.length
  | [] => Nat.le_refl _
  | p :: r => by
    have := allF_len name r
    unfold allF
    split
    · simp; omega
    · simp; omega
theorem seq_dec (s t : ByteArray) : seq s t = decide (s = t) := by
  by_cases h : s = t
  · subst h; rw [seq_self]; simp
  · rw [seq_false h, decide_eq_false h]

theorem strs_push {h : Heap} {a : Option Addr} {l c : Nat} {ss : List ByteArray} {s : ByteArray} (hs : SlR h 1 a l c (ss.map Value.string)) (hl : l ≤ 1000000000) {K : Option Addr → Nat → Heap → Prop}
    (hk : ∀ a' c' h', SlR h' 1 a' (l + 1) c' ((ss ++ [s]).map Value.string) → Keep (blk a) h h' → (∀ b, blk a' b → blk a b ∨ h.size ≤ b) → K a' c' h') : app [.string (⟨#[]⟩ : ByteArray)] 9 1 16 a l c [.string s] 1 h K := by
  refine SlR.app hs rfl rfl (fun v hv => by simp only [List.mem_singleton] at hv; subst hv; rfl) (by omega) ?_
  intro a' c' h' q1 q2 q3
  refine hk a' c' h' (by rw [List.map_append]; exact q1) q2 (fun b hb' => ?_)
  rcases q3 with ⟨rfl, _⟩ | ⟨rfl, _⟩
  · exact .inl hb'
  · rw [blk_some] at hb'
    exact .inr (by simp only at hb'; omega)

theorem all_spec {h : Heap} {x0 : Sl} {name : ByteArray} {hs : List (ByteArray × ByteArray)} (hh : HdsAt h x0.a x0.len hs) (hl : x0.len ≤ 10000000) {R : Sl → Heap → Prop} (hk : ∀ s h', Own h h' 1 s ((allF name hs).map Value.string) → Nw h h' → R s h') :
    CallT Try.prog http_All_no [.slice x0.a x0.len x0.cap, .string name] h [.sc .sl] R := by
  apply http_All_call
  unfold http_All
  have hlen := hh.1
  refine LoopT.intro (fun (t : Sl × Int) h' => 0 ≤ t.2 ∧ t.2 ≤ x0.len ∧ SlR h' 1 t.1.a t.1.len t.1.cap ((allF name (hs.take t.2.toNat)).map Value.string) ∧ (∀ b, blk t.1.a b → h.size ≤ b) ∧ Keep (fun y => h.size ≤ y) h h') (fun t _ => (x0.len - t.2).toNat) ?_ ?_
  · exact ⟨by simp, by simp, SlR.nil _ _, fun b hb => (by obtain ⟨x, e, _⟩ := hb; cases e), .refl _ _⟩
  · rintro ⟨o, i⟩ h2 ⟨p1, p2, p3, p4, p5⟩
    replace p1 : 0 ≤ i := p1
    replace p2 : i ≤ x0.len := p2
    replace p3 : SlR h2 1 o.a o.len o.cap ((allF name (hs.take i.toNat)).map Value.string) := p3
    replace p4 : ∀ b, blk o.a b → h.size ≤ b := p4
    have hol := SlR.len p3
    rw [List.length_map, Nat.mul_one] at hol
    have hal := allF_len name (hs.take i.toNat)
    rw [List.length_take] at hal
    refine cnd_dec (fun hi => ?_) (fun hi => ?_)
    · replace hi : i < (x0.len : Int) := hi
      have hin : i.toNat < hs.length := by omega
      have hget : hs[i.toNat]? = some hs[i.toNat] := List.getElem?_eq_getElem hin
      generalize hs[i.toNat] = p at hget
      obtain ⟨x, e1, e2, e3⟩ := (hh.keep p5 (fun h0 b hb hge => by have := hh.lt h0 hb; have hge' : h.size ≤ b := hge; omega)).2 _ _ hget
      refine withJ.intro (fun (s : Sl) h3 => SlR h3 1 s.a s.len s.cap ((allF name (hs.take (i.toNat + 1))).map Value.string) ∧ (∀ b, blk s.a b → h.size ≤ b) ∧ Keep (fun y => h.size ≤ y) h h3) ?_ ?_
      · rintro s h3 ⟨q1, q2, q3⟩
        show (0 ≤ w64 (i + 1) ∧ w64 (i + 1) ≤ x0.len ∧ SlR h3 1 s.a s.len s.cap ((allF name (hs.take (w64 (i + 1)).toNat)).map Value.string) ∧ (∀ b, blk s.a b → h.size ≤ b) ∧ Keep (fun y => h.size ≤ y) h h3) ∧ (x0.len - w64 (i + 1)).toNat < (x0.len - i).toNat
        rw [w64_id (x := i + 1) (by omega) (by omega), show (i + 1).toNat = i.toNat + 1 by omega]
        exact ⟨⟨by omega, by omega, q1, q2, q3⟩, by omega⟩
      · intro J hJ
        refine ⟨x, e1, p1, hi, ?_⟩
        refine ldS_at e2 (ldS_at e3 ?_)
        refine newB_row ?_
        intro h3 s3 r3 k3
        refine stC_row r3 (by simp) rfl ?_
        intro h4 s4 r4 k4
        rw [add_mk]
        refine stC_row r4 (by simp) rfl ?_
        intro h5 s5 r5 k5
        replace r5 : Row h5 h2.size [.string p.1, .string p.2] := r5
        have K25 : Keep (fun y => h2.size ≤ y) h2 h5 := ((k3.mono (fun _ _ h => h.elim)).trans k4 (fun y _ hy => by have hy' : y = h2.size := hy; omega)).trans k5 (fun y _ hy => by have hy' : y = h2.size := hy; omega)
        have z2 := p5.size
        have K5 := p5.trans K25 (fun y _ hy => by have hy' : h2.size ≤ y := hy; omega)
        have o5 : SlR h5 1 o.a o.len o.cap _ := SlR.keep p3 K25 (fun b hb hge => by have := SlR.blk_lt p3 hb; have hge' : h2.size ≤ b := hge; omega)
        refine ldS_row (o := 0) r5 rfl ?_
        rw [seq_dec]
        refine cnd_dec (fun he => ?_) (fun he => ?_)
        · refine ldS_row (o := 0 + 1) r5 rfl ?_
          refine newB_row ?_
          intro h6 s6 r6 k6
          refine ldRow_row r6 (by simp) ?_
          refine strs_push (SlR.keep o5 k6 (fun _ _ h => h)) (by omega) ?_
          intro a' c' h7 q1 q2 q3
          have K6 := K5.trans k6 (fun _ _ h => h.elim)
          refine hJ _ _ ⟨?_, fun b hb => ?_, K6.trans q2 (fun y _ hy => p4 y hy)⟩
          · rw [allF_take hget, if_pos he]
            exact q1
          · rcases q3 b hb with hh | hh
            · exact p4 b hh
            · have := K6.size; omega
        · refine hJ _ _ ⟨?_, p4, K5⟩
          rw [allF_take hget, if_neg he, List.append_nil]
          exact o5
    · have hil : i = x0.len := by
        have : ¬ i < (x0.len : Int) := hi
        omega
      subst hil
      rw [Int.toNat_natCast, List.take_of_length_le (by omega)] at p3
      have hf := Own.cut (K := fun o l c => R ⟨o, l, c⟩ h2) (⟨p3, p4⟩ : Own h h2 1 o _) (fun a2 q3 _ => hk _ _ q3 ⟨p5.size, fun b hb' _ => p5.same b hb' (by show ¬ h.size ≤ b; omega)⟩)
      exact hf

theorem all16_spec {h : Heap} {x0 : Sl} {name : ByteArray} {hs : List (ByteArray × ByteArray)} (hh : HdsAt h x0.a x0.len hs) (hl : x0.len ≤ 10000000) {R : Sl → Heap → Prop} (hk : ∀ s h', Own h h' 1 s ((allF name hs).map Value.string) → Nw h h' → R s h') :
    CallT Try.prog ref16_All_no [.slice x0.a x0.len x0.cap, .string name] h [.sc .sl] R := by
  apply ref16_All_call
  unfold ref16_All
  have hlen := hh.1
  refine LoopT.intro (fun (t : Sl × Int) h' => 0 ≤ t.2 ∧ t.2 ≤ x0.len ∧ SlR h' 1 t.1.a t.1.len t.1.cap ((allF name (hs.take t.2.toNat)).map Value.string) ∧ (∀ b, blk t.1.a b → h.size ≤ b) ∧ Keep (fun y => h.size ≤ y) h h') (fun t _ => (x0.len - t.2).toNat) ?_ ?_
  · exact ⟨by simp, by simp, SlR.nil _ _, fun b hb => (by obtain ⟨x, e, _⟩ := hb; cases e), .refl _ _⟩
  · rintro ⟨o, i⟩ h2 ⟨p1, p2, p3, p4, p5⟩
    replace p1 : 0 ≤ i := p1
    replace p2 : i ≤ x0.len := p2
    replace p3 : SlR h2 1 o.a o.len o.cap ((allF name (hs.take i.toNat)).map Value.string) := p3
    replace p4 : ∀ b, blk o.a b → h.size ≤ b := p4
    have hol := SlR.len p3
    rw [List.length_map, Nat.mul_one] at hol
    have hal := allF_len name (hs.take i.toNat)
    rw [List.length_take] at hal
    refine cnd_dec (fun hi => ?_) (fun hi => ?_)
    · replace hi : i < (x0.len : Int) := hi
      have hin : i.toNat < hs.length := by omega
      have hget : hs[i.toNat]? = some hs[i.toNat] := List.getElem?_eq_getElem hin
      generalize hs[i.toNat] = p at hget
      obtain ⟨x, e1, e2, e3⟩ := (hh.keep p5 (fun h0 b hb hge => by have := hh.lt h0 hb; have hge' : h.size ≤ b := hge; omega)).2 _ _ hget
      refine withJ.intro (fun (s : Sl) h3 => SlR h3 1 s.a s.len s.cap ((allF name (hs.take (i.toNat + 1))).map Value.string) ∧ (∀ b, blk s.a b → h.size ≤ b) ∧ Keep (fun y => h.size ≤ y) h h3) ?_ ?_
      · rintro s h3 ⟨q1, q2, q3⟩
        show (0 ≤ w64 (i + 1) ∧ w64 (i + 1) ≤ x0.len ∧ SlR h3 1 s.a s.len s.cap ((allF name (hs.take (w64 (i + 1)).toNat)).map Value.string) ∧ (∀ b, blk s.a b → h.size ≤ b) ∧ Keep (fun y => h.size ≤ y) h h3) ∧ (x0.len - w64 (i + 1)).toNat < (x0.len - i).toNat
        rw [w64_id (x := i + 1) (by omega) (by omega), show (i + 1).toNat = i.toNat + 1 by omega]
        exact ⟨⟨by omega, by omega, q1, q2, q3⟩, by omega⟩
      · intro J hJ
        refine ⟨x, e1, p1, hi, ?_⟩
        refine ldS_at e2 ?_
        rw [seq_dec]
        refine cnd_dec (fun he => ?_) (fun he => ?_)
        · refine ⟨x, e1, p1, hi, ?_⟩
          refine ldS_at e3 ?_
          refine newB_row ?_
          intro h6 s6 r6 k6
          refine ldRow_row r6 (by simp) ?_
          refine strs_push (SlR.keep p3 k6 (fun _ _ h => h)) (by omega) ?_
          intro a' c' h7 q1 q2 q3
          have K6 := p5.trans k6 (fun _ _ h => h.elim)
          refine hJ _ _ ⟨?_, fun b hb => ?_, K6.trans q2 (fun y _ hy => p4 y hy)⟩
          · rw [allF_take hget, if_pos he]
            exact q1
          · rcases q3 b hb with hh | hh
            · exact p4 b hh
            · have := K6.size; omega
        · refine hJ _ _ ⟨?_, p4, p5⟩
          rw [allF_take hget, if_neg he, List.append_nil]
          exact p3
    · have hil : i = x0.len := by
        have : ¬ i < (x0.len : Int) := hi
        omega
      subst hil
      rw [Int.toNat_natCast, List.take_of_length_le (by omega)] at p3
      exact hk _ h2 ⟨p3, p4⟩ ⟨p5.size, fun b hb' _ => p5.same b hb' (by show ¬ h.size ≤ b; omega)⟩

/-! ### ints -/
def decL : Nat → List UInt8 → Int × Bool
  | acc, [] => ((acc : Nat), true)
  | acc, b :: r => if b.toNat < 48 ∨ 57 < b.toNat then (0, false) else decL (10 * acc + (b.toNat - 48)) r
def badI (s : List UInt8) : Bool := decide (s.length < 1) || (decide (18 < s.length) || (decide (1 < s.length) && decide (s[0]? = some 48)))
def intF (s : List UInt8) : Int × Bool := if badI s then (0, false) else decL 0 s

def loopI (s_0 : ByteArray) (R : Int × Bool → Heap → Prop) (h3 : Heap) : Prop :=
  LoopT (σ := Int × Int) (fun X5 s4 h6 =>
  cnd (decide (s4.2 < (s_0.size : Int))) (
  withJ (σ := Int) (fun s7 h9 =>
  X5 (s7, (w64 (s4.2 + 1))) h9) (fun J8 =>
  withJ (σ := Unit) (fun s10 h12 =>
  sidx s_0 s4.2 fun u13 =>
  J8 (w64 ((w64 (10 * s4.1)) + (w64 ((IntKind.u8.wrap ((u13.toNat : Int) - 48)))))) h12) (fun J11 =>
  withJ (σ := Bool) (fun s14 h16 =>
  cnd s14 (
  R (0, false) h16) (
  J11 () h16)) (fun J15 =>
  sidx s_0 s4.2 fun u17 =>
  cnd (decide ((u17.toNat : Int) < 48)) (
  J15 true h6) (
  sidx s_0 s4.2 fun u18 =>
  J15 (decide ((u18.toNat : Int) > 57)) h6))))) (
  R (s4.1, true) h6)) (0, 0) h3

theorem loopI_spec {h : Heap} {s : ByteArray} (hs : s.size ≤ 18) {R : Int × Bool → Heap → Prop} (hk : R (decL 0 (bl s)) h) : loopI s R h := by
  unfold loopI
  refine LoopT.intro (fun (t : Int × Int) h' => h' = h ∧ 0 ≤ t.2 ∧ t.2 ≤ s.size ∧ ∃ acc : Nat, t.1 = (acc : Int) ∧ acc < 10 ^ t.2.toNat ∧ decL acc ((bl s).drop t.2.toNat) = decL 0 (bl s)) (fun t _ => (s.size - t.2).toNat) ⟨rfl, by simp, by simp, 0, rfl, by simp, by simp⟩ ?_
  rintro ⟨n, i⟩ h' ⟨rfl, p1, p2, acc, p3, p4, p5⟩
  replace p1 : 0 ≤ i := p1
  replace p2 : i ≤ s.size := p2
  replace p3 : n = (acc : Int) := p3
  replace p4 : acc < 10 ^ i.toNat := p4
  replace p5 : decL acc ((bl s).drop i.toNat) = decL 0 (bl s) := p5
  subst p3
  refine cnd_dec (fun hi => ?_) (fun hi => ?_)
  · replace hi : i < (s.size : Int) := hi
    have hil : i.toNat < (bl s).length := by rw [bl_len]; omega
    have hg : (bl s)[i.toNat]? = some (bl s)[i.toNat] := List.getElem?_eq_getElem hil
    rw [List.drop_eq_getElem_cons hil] at p5
    generalize (bl s)[i.toNat] = b at hg p5
    have hbl := b.toNat_lt
    refine withJ.intro (fun (m : Int) h2 => h2 = h' ∧ ¬ (b.toNat < 48 ∨ 57 < b.toNat) ∧ m = ((10 * acc + (b.toNat - 48) : Nat) : Int)) ?_ ?_
    · rintro m h2 ⟨rfl, hb, rfl⟩
      simp only [decL] at p5
      rw [if_neg hb] at p5
      show (h2 = h2 ∧ 0 ≤ w64 (i + 1) ∧ w64 (i + 1) ≤ s.size ∧ ∃ a : Nat, ((10 * acc + (b.toNat - 48) : Nat) : Int) = (a : Int) ∧ a < 10 ^ (w64 (i + 1)).toNat ∧ decL a ((bl s).drop (w64 (i + 1)).toNat) = decL 0 (bl s)) ∧ (s.size - w64 (i + 1)).toNat < (s.size - i).toNat
      rw [w64_id (x := i + 1) (by omega) (by omega), show (i + 1).toNat = i.toNat + 1 by omega]
      exact ⟨⟨rfl, by omega, by omega, _, rfl, by rw [Nat.pow_succ]; omega, p5⟩, by omega⟩
    · intro J hJ
      refine withJ.intro (fun _ h2 => h2 = h' ∧ ¬ (b.toNat < 48 ∨ 57 < b.toNat)) ?_ ?_
      · rintro _ h2 ⟨rfl, hb⟩
        refine ⟨b, p1, hg, ?_⟩
        refine hJ _ _ ⟨rfl, hb, ?_⟩
        have v1 : 10 ^ i.toNat ≤ 10 ^ 17 := Nat.pow_le_pow_right (by omega) (by omega)
        have v2 : (10 : Nat) ^ 17 = 100000000000000000 := by decide
        rw [wrap_u8, w64_id (x := 10 * (acc : Int)) (by omega) (by omega), w64_id (x := ((b.toNat : Int) - 48) % 256) (by omega) (by omega), w64_id (by omega) (by omega)]
        omega
      · intro J2 hJ2
        refine withJ.intro (fun (x : Bool) h2 => h2 = h' ∧ x = decide (b.toNat < 48 ∨ 57 < b.toNat)) ?_ ?_
        · rintro x h2 ⟨rfl, rfl⟩
          refine cnd_dec (fun hb => ?_) (fun hb => hJ2 _ _ ⟨rfl, hb⟩)
          simp only [decL] at p5
          rw [if_pos hb] at p5
          rw [← p5] at hk
          exact hk
        · intro J3 hJ3
          refine ⟨b, p1, hg, ?_⟩
          refine cnd_dec (fun h1 => ?_) (fun h1 => ?_)
          · exact hJ3 _ _ ⟨rfl, (decide_eq_true (by omega)).symm⟩
          · refine ⟨b, p1, hg, hJ3 _ _ ⟨rfl, ?_⟩⟩
            rw [Bool.eq_iff_iff, decide_eq_true_eq, decide_eq_true_eq]
            omega
  · have hil : i = s.size := by
      have : ¬ i < (s.size : Int) := hi
      omega
    rw [List.drop_eq_nil_of_le (by rw [bl_len]; omega)] at p5
    rw [← p5] at hk
    exact hk

theorem int_spec {h : Heap} {s : ByteArray} {R : Int × Bool → Heap → Prop} (hk : R (intF (bl s)) h) : CallT Try.prog enc_Int_no [.string s] h [.sc (.int .i64), .sc .bool] R := by
  apply enc_Int_call
  unfold enc_Int
  unfold intF at hk
  refine withJ.intro (fun _ h' => h' = h ∧ badI (bl s) = false) ?_ ?_
  · rintro _ h' ⟨rfl, hb⟩
    rw [hb] at hk
    have hs : s.size ≤ 18 := by
      unfold badI at hb
      rw [bl_len] at hb
      simp at hb
      omega
    exact loopI_spec hs hk
  · intro J hJ
    refine withJ.intro (fun (b : Bool) h' => h' = h ∧ b = badI (bl s)) ?_ ?_
    · rintro b h' ⟨rfl, rfl⟩
      refine cnd_of (fun e => ?_) (fun e => hJ _ _ ⟨rfl, e⟩)
      rw [if_pos e] at hk
      exact hk
    · intro J2 hJ2
      have hsz := bl_len s
      refine cnd_dec (fun h1 => hJ2 _ _ ⟨rfl, ?_⟩) (fun h1 => ?_)
      · unfold badI
        rw [decide_eq_true (show (bl s).length < 1 by omega)]
        rfl
      · refine cnd_dec (fun h2 => hJ2 _ _ ⟨rfl, ?_⟩) (fun h2 => ?_)
        · unfold badI
          rw [decide_eq_true (show 18 < (bl s).length by omega)]
          simp
        · refine cnd_dec (fun h3 => ?_) (fun h3 => ?_)
          · have h0 : 0 < (bl s).length := by omega
            refine ⟨(bl s)[0], by omega, List.getElem?_eq_getElem h0, hJ2 _ _ ⟨rfl, ?_⟩⟩
            unfold badI
            rw [List.getElem?_eq_getElem h0, decide_eq_false (show ¬ (bl s).length < 1 by omega), decide_eq_false (show ¬ 18 < (bl s).length by omega), decide_eq_true (show 1 < (bl s).length by omega)]
            generalize (bl s)[0] = b
            rw [Bool.eq_iff_iff]
            simp only [beq_iff_eq, Bool.false_or, Bool.true_and, decide_eq_true_eq, Option.some.injEq]
            constructor
            · intro e; exact UInt8.toNat_inj.1 (by have : (48 : UInt8).toNat = 48 := rfl
                                                   omega)
            · intro e; subst e; rfl
          · refine hJ2 _ _ ⟨rfl, ?_⟩
            unfold badI
            rw [decide_eq_false (show ¬ (bl s).length < 1 by omega), decide_eq_false (show ¬ 18 < (bl s).length by omega), decide_eq_false (show ¬ 1 < (bl s).length by omega)]
            rfl

theorem int1_spec {h : Heap} {s : ByteArray} {R : Int × Bool → Heap → Prop} (hk : R (intF (bl s)) h) : CallT Try.prog ref1_Int_no [.string s] h [.sc (.int .i64), .sc .bool] R := by
  apply ref1_Int_call
  unfold ref1_Int
  unfold intF at hk
  refine withJ.intro (fun _ h' => h' = h ∧ badI (bl s) = false) ?_ ?_
  · rintro _ h' ⟨rfl, hb⟩
    rw [hb] at hk
    have hs : s.size ≤ 18 := by
      unfold badI at hb
      rw [bl_len] at hb
      simp at hb
      omega
    exact loopI_spec hs hk
  · intro J hJ
    refine withJ.intro (fun (b : Bool) h' => h' = h ∧ b = badI (bl s)) ?_ ?_
    · rintro b h' ⟨rfl, rfl⟩
      refine cnd_of (fun e => ?_) (fun e => hJ _ _ ⟨rfl, e⟩)
      rw [if_pos e] at hk
      exact hk
    · intro J2 hJ2
      have hsz := bl_len s
      refine cnd_of (fun h1 => hJ2 _ _ ⟨rfl, ?_⟩) (fun h1 => ?_)
      · have := eq_of_beq h1
        unfold badI
        rw [decide_eq_true (show (bl s).length < 1 by omega)]
        rfl
      · have h1' : s.size ≠ 0 := by have := ne_of_beq_false h1; omega
        refine cnd_dec (fun h2 => hJ2 _ _ ⟨rfl, ?_⟩) (fun h2 => ?_)
        · unfold badI
          rw [decide_eq_true (show 18 < (bl s).length by omega)]
          simp
        · have h0 : 0 < (bl s).length := by omega
          refine ⟨(bl s)[0], by omega, List.getElem?_eq_getElem h0, ?_⟩
          have hg : (bl s)[0]? = some (bl s)[0] := List.getElem?_eq_getElem h0
          generalize (bl s)[0] = b at hg
          have e0 : badI (bl s) = (decide (1 < (bl s).length) && decide (b = 48)) := by
            unfold badI
            rw [hg, decide_eq_false (show ¬ (bl s).length < 1 by omega), decide_eq_false (show ¬ 18 < (bl s).length by omega)]
            simp
          refine cnd_of (fun h3 => ?_) (fun h3 => ?_)
          · have hb : b = 48 := UInt8.toNat_inj.1 (by
              have := eq_of_beq h3
              have e48 : (48 : UInt8).toNat = 48 := rfl
              omega)
            refine hJ2 _ _ ⟨rfl, ?_⟩
            rw [e0, hb, hsz]
            rw [Bool.eq_iff_iff]
            simp
            omega
          · have hb : b ≠ 48 := fun e => by subst e; simp at h3
            refine hJ2 _ _ ⟨rfl, ?_⟩
            rw [e0, decide_eq_false hb, Bool.and_false]
end Go.Proofs.Ytjpmjhnjdnbopaa
