/- BlobRoom. -/
import Derived.Test.YtmkobpkdodgboaaPBlobF
namespace Go.Proofs.Ytmkobpkdodgboaa
open Go D
set_option linter.unusedVariables false
set_option linter.unusedSimpArgs false

/-- slices of bytes that came in -/
def BlsAt (h : Heap) (a : Option Addr) (l : Nat) : Prop := ∀ i : Nat, i < l → ∃ x a' l' c', a = some x ∧ cellH h (x.add (i * 1)) = some (.slice a' l' c') ∧ Rb h a' l' (bytesAt h a' l') ∧ l' ≤ c' ∧ c' ≤ 9223372036854775807
theorem bls_of {h : Heap} {a : Option Addr} {l c n : Nat} (hs : InSl 1 (InSl 1 (InInt .u8)) h n [.slice a l c]) : BlsAt h a l := by
  rcases hs with h1 | ⟨x, l', c', h1, h2, h3, h4, h5⟩
  · injection h1 with h1
    injection h1 with h1 h2 h3
    subst h2
    intro i hi
    omega
  · injection h1 with h1
    injection h1 with e1 e2 e3
    subst e1 e2 e3
    intro i hi
    obtain ⟨r, b, g1, gb, g2, g3⟩ := h5 i (by omega)
    have hg := g2 0 (by omega)
    rw [add_zero] at hg
    obtain ⟨a', l', c', hr, hcap⟩ : ∃ a' l' c', r = [.slice a' l' c'] ∧ c' ≤ maxLen := by
      rcases g3 with e | ⟨y, l', c', e, _, e2, _⟩
      · exact ⟨none, 0, 0, e, Nat.zero_le _⟩
      · exact ⟨_, _, _, e, e2⟩
    subst hr
    obtain ⟨w1, w2, _⟩ := bytes_of g3
    exact ⟨x, a', l', c', rfl, hg, w1, w2, by unfold maxLen at hcap; omega⟩

namespace Blob
open Disk Enc Hash Snap Alloc

theorem BSt.writeW {h0 h : Heap} {p q s w : Nat} {m : M} {fr : Int} {u N : Nat} {Q : Nat → Prop} (t : BSt h0 h p q s w m fr (win 0 u N) Q) (hu : u ≤ N) {a : Option Addr} {l c : Nat} {ds : List UInt8} (hb : Rb h a l ds) (hcap : l ≤ c) (hl : l ≤ 9223372036854775807) (hfar : 0 < l → ∀ b, blk a b → b < h0.size ∨ Q b) {R : (Int × Int) × Int → Heap → Prop}
    (hfull : N < u + nsec l → ∀ h', BSt h0 h' p q s w m fr (win 0 u N) Q → Keep (fun b => h0.size ≤ b ∧ ¬ Q b) h h' → R ((0, 0), 60) h')
    (hk : u + nsec l ≤ N → ∀ h' m', m'.l.length = m.l.length → (m.c = [] → m'.c = []) → (∀ i : Int, 0 ≤ i → i < m.l.length → readAt m' i = if fr + u ≤ i ∧ i < fr + u + (nsec l : Int) then ofL (sectL (partD ds (i - (fr + u)).toNat)) else readAt m i) → BSt h0 h' p q s w m' fr (win 0 (u + nsec l) N) Q → Keep (fun b => h0.size ≤ b ∧ ¬ Q b) h h' → R (refOf u l, 0) h') :
    CallT Try.prog blob_Blobs_Write_no [.pointer (some ⟨q, 0, none⟩), .slice a l c] h [.agg [.int .i64, .int .i64], .sc (.int .i64)] R := by
  have en : nsec l = (l + 251) / 252 := rfl
  have el := hb.len
  have facts : (m.st = 0 ∧ (∀ x ∈ m.c, 0 ≤ x.1) ∧ 0 ≤ fr ∧ fr + N ≤ m.l.length) := by
    obtain ⟨mu, im, r, o, a', g1, _, k, ⟨g7, g9, g10, g11, g12⟩, g8⟩ := t
    rw [win_length] at g12
    exact ⟨g7, g10, g11, g12⟩
  refine t.write hb hcap hl hfar (fun h0 h' t' k' => ?_) (fun h0 hno h' t' k' => ?_) (fun h0 st hf h' t' k' => ?_)
  · subst h0
    have e : nsec 0 = 0 := rfl
    refine hk (by omega) h' m rfl (fun hh => hh) (fun i _ _ => by rw [if_neg (by omega)]) t' (k'.mono (fun _ _ hh => hh.elim))
  · exact hfull (Nat.lt_of_not_le (fun hle => hno _ (win_first (by omega) hle).1)) h' t' (k'.mono (fun _ _ hh => hh.elim))
  · have hle : u + nsec l ≤ N := by
      have := (win_free hu).1 hf.1
      omega
    have e := hf.eq (win_first (by omega) hle)
    subst e
    rw [show ((u : Int)).toNat = u by omega, win_more (by omega)] at t'
    obtain ⟨p1, p2, p3, p4⟩ := put_facts (m := m) (P := fr + u) (ds := ds) facts.1 facts.2.1 (by omega) (by rw [← el]; omega)
    rw [← el] at p4
    have e2 : refOf u l = ((u : Int), (l : Int)) := by unfold refOf; rw [if_neg (by omega)]
    rw [← e2]
    exact hk hle h' _ p3 (fun _ => p2) p4 t' k'

/-- a slice of refs of its own takes one more -/
theorem refs_push {h : Heap} {a : Option Addr} {l c : Nat} {rs : List (Int × Int)} (hs : SlR h 2 a l c (rs.flatMap refV)) (hl : l ≤ 1000000) (r : Int × Int) {K : Option Addr → Nat → Heap → Prop}
    (hk : ∀ a' c' h', SlR h' 2 a' (l + 1) c' ((rs ++ [r]).flatMap refV) → Keep (blk a) h h' → (∀ b, blk a' b → (blk a b ∨ h.size ≤ b) ∧ b < h'.size) → K a' c' h') :
    newB [.int .i64 r.1, .int .i64 r.2] 87 h fun a1 h2 => ldRow (1 * 2) a1 h2 fun cs => app [.int .i64 0, .int .i64 0] 87 2 16 a l c cs 1 h2 K := by
  refine newB_row ?_
  intro h1 s1 o1 k1
  refine ldRow_row o1 (by simp) ?_
  refine (hs.keep k1 (fun _ _ h => h)).app rfl (by simp) (fun v hv => by simp at hv; rcases hv with rfl | rfl <;> rfl) (by omega) ?_
  intro a2 c2 h2 v1 v2 v3
  refine hk a2 c2 h2 ?_ ((k1.mono (T := blk a) (fun _ _ h => h.elim)).trans v2 (fun _ _ h => h)) (fun b hb => ?_)
  · rw [List.flatMap_append]
    exact v1
  · have hlt := v1.blk_lt hb
    rcases v3 with ⟨rfl, _⟩ | ⟨rfl, _⟩
    · exact ⟨.inl hb, hlt⟩
    · rw [blk_some] at hb
      simp only at hb
      exact ⟨.inr (by omega), hlt⟩

theorem blobRoom_spec {h : Heap} {x0 : Sl} (hs : BlsAt h x0.a x0.len) {R : Bool → Heap → Prop} (hR : ∀ h', Keep (fun _ => False) h h' → R true h') :
    CallT Try.prog law11_BlobRoom_no [.slice x0.a x0.len x0.cap] h [.sc .bool] R := by
  apply law11_BlobRoom_call
  simp only [law11_BlobRoom]
  refine BSt.new (sz := 40) (fr := 4) (n := 30) (by decide) (by decide) (by decide) ?_
  intro p q s w h1 t
  refine withJ.inl (withJ.inl ?_)
  refine cnd_f rfl (cnd_f rfl ?_)
  refine cnd_of (fun _ => ?_) (fun hlen => ?_)
  · refine withJ.inl ?_
    refine cnd_t rfl (cnd_t rfl ?_)
    exact awake_spec fun h2 k2 => hR h2 (t.out.trans' k2)
  have hlen' : x0.len ≤ 20 := by
    have : ¬ ((x0.len : Int) > 20) := by simpa using hlen
    omega
  refine LoopT.intro (fun (v : Sl × Int × Int) h' => 0 ≤ v.2.2 ∧ v.2.2 ≤ x0.len ∧ ∃ ns m, BSt h h' p q s w m 4 (win 0 (tot ns) 30) (blk v.1.a) ∧ v.2.1 = (tot ns : Int) ∧ tot ns ≤ 30 ∧ SlR h' 2 v.1.a v.1.len v.1.cap ((refsAt 0 ns).flatMap refV) ∧ (ns.length : Int) ≤ v.2.2) (fun v _ => ((x0.len : Int) - v.2.2).toNat)
    ⟨by show (0 : Int) ≤ 0; omega, by show (0 : Int) ≤ x0.len; omega, [], _, t.own (Q' := blk none) (.refl (fun _ => False) _) (fun _ hh _ => hh.elim) (fun b hb => by obtain ⟨x, hx, _⟩ := hb; cases hx), rfl, by decide, SlR.nil _ _, by show (0 : Int) ≤ 0; omega⟩ ?_
  rintro ⟨refs, used, i⟩ h2 ⟨g1, g2, ns, m, t2, g3, g4, sl, g5⟩
  replace g1 : 0 ≤ i := g1
  replace g2 : i ≤ x0.len := g2
  replace g3 : used = (tot ns : Int) := g3
  replace g5 : (ns.length : Int) ≤ i := g5
  replace t2 : BSt h h2 p q s w m 4 (win 0 (tot ns) 30) (blk refs.a) := t2
  replace sl : SlR h2 2 refs.a refs.len refs.cap ((refsAt 0 ns).flatMap refV) := sl
  subst g3
  have rl : refs.len = ns.length := by
    have e1 := sl.len
    have e2 : ∀ rs : List (Int × Int), (rs.flatMap refV).length = rs.length * 2 := fun rs => by
      induction rs with
      | nil => rfl
      | cons r rs ih => rw [List.flatMap_cons, List.length_append, ih, List.length_cons]; show 2 + _ = _; omega
    rw [e2, refsAt_length] at e1
    omega
  refine cnd_dec (fun hi => ?_) (fun hi => ?_)
  · replace hi : i < x0.len := hi
    have hw : w64 (i + 1) = i + 1 := w64_id (by omega) (by omega)
    refine withJ.intro (fun (v : Sl × Int) h' => ∃ ns m, BSt h h' p q s w m 4 (win 0 (tot ns) 30) (blk v.1.a) ∧ v.2 = (tot ns : Int) ∧ tot ns ≤ 30 ∧ SlR h' 2 v.1.a v.1.len v.1.cap ((refsAt 0 ns).flatMap refV) ∧ (ns.length : Int) ≤ i + 1) ?_ ?_
    · rintro ⟨refs', used'⟩ h3 ⟨ns', m', q1, q2, q3, q4, q5⟩
      show (0 ≤ w64 (i + 1) ∧ w64 (i + 1) ≤ x0.len ∧ ∃ ns m, BSt h h3 p q s w m 4 (win 0 (tot ns) 30) (blk refs'.a) ∧ used' = (tot ns : Int) ∧ tot ns ≤ 30 ∧ SlR h3 2 refs'.a refs'.len refs'.cap ((refsAt 0 ns).flatMap refV) ∧ (ns.length : Int) ≤ w64 (i + 1)) ∧ ((x0.len : Int) - w64 (i + 1)).toNat < ((x0.len : Int) - i).toNat
      rw [hw]
      exact ⟨⟨by omega, by omega, ns', m', q1, q2, q3, q4, q5⟩, by omega⟩
    · intro J hJ
      obtain ⟨x, a', l', c', hx, hc, hb, hcap, hmax⟩ := hs i.toNat (by omega)
      have hxl := cell_lt hc
      have ld : ∀ {h'' : Heap} {K : Option Addr → Nat → Nat → Prop}, Keep (fun y => h.size ≤ y) h h'' → K a' l' c' → idx x0.a x0.len i fun y => ldL (y.add (i.toNat * 1)) h'' K := fun kk hK => by
        rw [hx]
        exact idx_some g1 hi (ldL_at (kk.cell hc (by omega)) hK)
      have hbt : ∀ {h'' : Heap}, Keep (fun y => h.size ≤ y) h h'' → Rb h'' a' l' (bytesAt h a' l') := fun kk => Rv.keep hb kk (fun hl b hb' hh => by
        have := Rv.lt hb hl hb'
        have hh' : h.size ≤ b := hh
        omega)
      refine ld t2.kp ?_
      refine sectors_spec (by unfold InI; omega) ?_
      rw [nsecI_nat]
      refine ld t2.kp ?_
      have hn : nsec l' = (l' + 251) / 252 := rfl
      have eu : w64 ((tot ns : Int) + (nsec l' : Int)) = ((tot ns + nsec l' : Nat) : Int) := by rw [w64_id (by omega) (by omega)]; omega
      refine t2.writeW g4 (hbt t2.kp) hcap (by omega) (fun hl b hb' => .inl (Rv.lt hb hl hb')) (fun hfull h3 t3 k3 => ?_) (fun hok h3 m3 _ _ _ t3 k3 => ?_)
      · refine newB_row ?_
        intro h4 s4 o4 k4
        rw [add_mk]
        refine stC_row o4 (by simp) rfl ?_
        intro h5 s5 o5 k5
        refine stC_row o5 (by simp) rfl ?_
        intro h6 s6 o6 k6
        refine withJ.inl (withJ.inl ?_)
        have k36 : Keep (fun _ => False) h3 h6 := k4.trans (k5.trans' k6) (fun y hy hh => by
          have hh' : y = h3.size := hh
          omega)
        show cnd (!(false == decide (w64 ((tot ns : Int) + (nsec l' : Int)) ≤ 30))) _ _
        rw [eu]
        refine cnd_f (by rw [decide_eq_false (by omega)]; rfl) ?_
        refine cnd_t rfl (cnd_f rfl (cnd_f rfl ?_))
        have sl3 : SlR h6 2 refs.a refs.len refs.cap ((refsAt 0 ns).flatMap refV) := (SlR.keep sl k3 (fun b hb' hh => hh.2 hb')).keep k36 (fun _ _ h => h)
        exact hJ _ _ ⟨ns, m, t3.keep k36, rfl, g4, sl3, by omega⟩
      · refine newB_row ?_
        intro h4 s4 o4 k4
        rw [add_mk]
        refine stC_row o4 (by simp) rfl ?_
        intro h5 s5 o5 k5
        refine stC_row o5 (by simp) rfl ?_
        intro h6 s6 o6 k6
        have o6' : Row h6 h3.size [.int .i64 (refOf (tot ns) l').1, .int .i64 (refOf (tot ns) l').2] := o6
        refine withJ.inl (withJ.inl ?_)
        have k36 : Keep (fun _ => False) h3 h6 := k4.trans (k5.trans' k6) (fun y hy hh => by
          have hh' : y = h3.size := hh
          omega)
        show cnd (!(true == decide (w64 ((tot ns : Int) + (nsec l' : Int)) ≤ 30))) _ _
        rw [eu]
        refine cnd_f (by rw [decide_eq_true (by omega)]; rfl) ?_
        refine cnd_f rfl (cnd_f rfl (cnd_t rfl ?_))
        have sl3 : SlR h6 2 refs.a refs.len refs.cap ((refsAt 0 ns).flatMap refV) := (SlR.keep sl k3 (fun b hb' hh => hh.2 hb')).keep k36 (fun _ _ h => h)
        refine ldI_row (o := 0) o6' rfl (ldI_row (o := 0 + 1) o6' rfl ?_)
        refine refs_push sl3 (by omega) (refOf (tot ns) l') ?_
        intro a7 c7 h7 v1 v2 v3
        have t7 := (t3.keep k36).own (Q' := blk a7) v2 (fun b hb' _ => hb') v3
        refine hJ _ _ ⟨ns ++ [l'], m3, by rw [tot_snoc]; exact t7, by rw [tot_snoc], by rw [tot_snoc]; exact hok, ?_, by rw [List.length_append]; show ((ns.length + 1 : Nat) : Int) ≤ i + 1; omega⟩
        rw [refsAt_snoc, Nat.zero_add]
        exact v1
  · refine t2.free ?_
    rw [freeOf_win _ g4]
    have e30 : w64 (30 - (tot ns : Int)) = 30 - tot ns := w64_id (by omega) (by omega)
    dsimp only
    rw [e30]
    refine cnd_f (by simp) ?_
    have hns : ns.length ≤ 20 := by omega
    refine LoopT.intro (fun (j : Int) h' => 0 ≤ j ∧ j ≤ ns.length ∧ BSt h h' p q s w m 4 (win (tot (ns.take j.toNat)) (tot ns) 30) (blk refs.a) ∧ SlR h' 2 refs.a refs.len refs.cap ((refsAt 0 ns).flatMap refV)) (fun j _ => ((ns.length : Int) - j).toNat)
      ⟨by omega, by omega, t2, sl⟩ ?_
    rintro j h3 ⟨q1, q2, t3, sl3⟩
    have hw : w64 (j + 1) = j + 1 := w64_id (by omega) (by omega)
    refine cnd_dec (fun hj => ?_) (fun hj => ?_)
    · replace hj : j < refs.len := hj
      have hjn : j.toNat < ns.length := by omega
      obtain ⟨n, hn⟩ : ∃ n, ns[j.toNat]? = some n := ⟨_, List.getElem?_eq_getElem hjn⟩
      have hg := refsAt_get ns 0 j.toNat n hn
      rw [Nat.zero_add] at hg
      have ht := tot_take hn
      have htl := tot_le ns (j.toNat + 1)
      have hb4 : n ≤ 252 * 30 := by
        have : nsec n = (n + 251) / 252 := rfl
        omega
      have hen : nsec n = (n + 251) / 252 := rfl
      refine withJ.inl (withJ.inl ?_)
      refine refs_at sl3 q1 (by rw [refsAt_length]; omega) (by rw [refsAt_length]; exact rl) ?_
      intro x r hr c0 c1
      rw [hg] at hr
      injection hr with hr
      subst hr
      refine ldI_at c0 (ldI_at c1 ?_)
      have hin : InI (refOf (tot (ns.take j.toNat)) n).1 ∧ InI (refOf (tot (ns.take j.toNat)) n).2 := by
        unfold refOf InI
        split
        · exact ⟨by decide, by decide⟩
        · constructor <;> dsimp only <;> omega
      have next : ∀ h4, BSt h h4 p q s w m 4 (win (tot (ns.take (j.toNat + 1))) (tot ns) 30) (blk refs.a) → SlR h4 2 refs.a refs.len refs.cap ((refsAt 0 ns).flatMap refV) → (0 ≤ w64 (j + 1) ∧ w64 (j + 1) ≤ ns.length ∧ BSt h h4 p q s w m 4 (win (tot (ns.take (w64 (j + 1)).toNat)) (tot ns) 30) (blk refs.a) ∧ SlR h4 2 refs.a refs.len refs.cap ((refsAt 0 ns).flatMap refV)) ∧ ((ns.length : Int) - w64 (j + 1)).toNat < ((ns.length : Int) - j).toNat := fun h4 w1 w2 => by
        rw [hw, show (j + 1).toNat = j.toNat + 1 by omega]
        exact ⟨⟨by omega, by omega, w1, w2⟩, by omega⟩
      by_cases h0 : n = 0
      · have er : refOf (tot (ns.take j.toNat)) n = (0, 0) := by unfold refOf; rw [if_pos h0]
        rw [er] at c1 ⊢
        refine t3.drop (r := (0, 0)) ⟨by unfold InI; decide, by unfold InI; decide⟩ (fun hp _ _ _ _ => absurd hp (by decide)) (fun _ _ h4 k4 => ?_) (fun hno => absurd (.inr ⟨rfl, rfl⟩) hno)
        refine cnd_f rfl ?_
        have sl4 := SlR.keep sl3 k4 (fun _ _ h => h)
        refine refs_at sl4 q1 (by rw [refsAt_length]; omega) (by rw [refsAt_length]; exact rl) ?_
        intro x' r' hr' c0' c1'
        rw [hg, er] at hr'
        injection hr' with hr'
        subst hr'
        refine ldI_at c1' ?_
        refine cnd_f rfl (cnd_f rfl ?_)
        refine next h4 ?_ sl4
        have e0 : tot (ns.take (j.toNat + 1)) = tot (ns.take j.toNat) := by rw [ht, h0]; rfl
        rw [e0]
        exact t3.keep k4
      · have er : refOf (tot (ns.take j.toNat)) n = ((tot (ns.take j.toNat) : Int), (n : Int)) := by unfold refOf; rw [if_neg h0]
        rw [er] at c1 hin ⊢
        have hall : AllOf (win (tot (ns.take j.toNat)) (tot ns) 30) (tot (ns.take j.toNat) : Int) (nsecI (n : Int)) true := by
          rw [nsecI_nat]
          exact win_taken (by omega) (by omega) (by omega) (by omega)
        refine t3.drop (r := ((tot (ns.take j.toNat) : Int), (n : Int))) hin (fun _ _ h4 t4 k4 => ?_) (fun hz => absurd hz (by show ¬ (n : Int) = 0; omega)) (fun hno => absurd (.inl ⟨by show (0 : Int) < (n : Int); omega, by show (0 : Int) ≤ (tot (ns.take j.toNat) : Int); omega, hall⟩) hno)
        have ef : Alloc.flip (win (tot (ns.take j.toNat)) (tot ns) 30) ((tot (ns.take j.toNat) : Int)).toNat (nsecI (n : Int)).toNat = win (tot (ns.take (j.toNat + 1))) (tot ns) 30 := by
          rw [nsecI_nat, show ((tot (ns.take j.toNat) : Int)).toNat = tot (ns.take j.toNat) by omega, show ((nsec n : Int)).toNat = nsec n by omega, ht]
          exact win_less (by omega)
        replace t4 : BSt h h4 p q s w m 4 (win (tot (ns.take (j.toNat + 1))) (tot ns) 30) (blk refs.a) := by rw [← ef]; exact t4
        refine cnd_f rfl ?_
        have sl4 := SlR.keep sl3 k4 (fun b hb' hh => hh.2 hb')
        refine refs_at sl4 q1 (by rw [refsAt_length]; omega) (by rw [refsAt_length]; exact rl) ?_
        intro x' r' hr' c0' c1'
        rw [hg, er] at hr'
        injection hr' with hr'
        subst hr'
        refine ldI_at c1' ?_
        refine cnd_pos (by omega) ?_
        refine refs_at sl4 q1 (by rw [refsAt_length]; omega) (by rw [refsAt_length]; exact rl) ?_
        intro x' r' hr' c0' c1'
        rw [hg, er] at hr'
        injection hr' with hr'
        subst hr'
        refine ldI_at c0' (ldI_at c1' ?_)
        have hnot : ¬ Held (win (tot (ns.take (j.toNat + 1))) (tot ns) 30) ((tot (ns.take j.toNat) : Int), (n : Int)) := by
          rintro (⟨_, _, hh⟩ | ⟨hh, _⟩)
          · refine win_untaken (by show 1 ≤ nsecI (n : Int); rw [nsecI_nat]; omega) (by show (0 : Int) ≤ (tot (ns.take j.toNat) : Int); omega) (by show (tot (ns.take j.toNat) : Int) < _; omega) hh
          · replace hh : (n : Int) = 0 := hh
            omega
        refine t4.drop (r := ((tot (ns.take j.toNat) : Int), (n : Int))) hin (fun h1 h2 => absurd (.inl ⟨h1, by show (0 : Int) ≤ (tot (ns.take j.toNat) : Int); omega, h2⟩) hnot) (fun hz => absurd hz (by show ¬ (n : Int) = 0; omega)) (fun _ h5 k5 => ?_)
        refine cnd_f rfl ?_
        exact next h5 (t4.keep k5) (SlR.keep sl4 k5 (fun _ _ h => h))
    · replace hj : ¬ j < refs.len := hj
      have ej : ns.take j.toNat = ns := List.take_of_length_le (by omega)
      rw [ej, win_none, ← win_none 0] at t3
      refine mkBytes (by decide) (by decide) ?_
      intro h4 s4 b4 k4
      have t4 := t3.own (Q' := (· = h3.size)) k4 (fun _ hh _ => hh.elim) (fun b hb => by
        have hb' : b = h3.size := hb
        omega)
      refine t4.writeW (l := 7560) (by decide) b4.rb (Nat.le_refl _) (by decide) (fun _ b hb => by
        rw [blk_some] at hb
        exact .inr hb.symm) (fun hfull => absurd hfull (by decide)) (fun _ h5 m5 _ _ _ t5 k5 => ?_)
      refine newB_row ?_
      intro h6 s6 o6 k6
      rw [add_mk]
      refine stC_row o6 (by simp) rfl ?_
      intro h7 s7 o7 k7
      refine stC_row o7 (by simp) rfl ?_
      intro h8 s8 o8 k8
      have o8' : Row h8 h5.size [.int .i64 0, .int .i64 7560] := o8
      have k58 : Keep (fun _ => False) h5 h8 := k6.trans (k7.trans' k8) (fun y hy hh => by
        have hh' : y = h5.size := hh
        omega)
      have t8 := t5.own (Q' := (· = h5.size)) k58 (fun _ hh _ => hh.elim) (fun b hb => by
        have hb' : b = h5.size := hb
        have := o8'.lt
        omega)
      refine lit_row ?_
      intro h9 s9 o9 k9
      have b9 : Bl h9 (some ⟨h8.size, 0, none⟩) 1 1 [120] := .inr ⟨h8.size, 0, _, rfl, o9, by omega, by simp, rfl, rfl⟩
      have t9 := t8.own (Q' := fun b => b = h8.size ∨ b = h5.size) k9 (fun _ hh _ => hh.elim) (fun b hb => by
        have := o8'.lt
        rcases hb with hb | hb
        · omega
        · exact ⟨.inl hb, by omega⟩)
      refine t9.writeW (l := 1) (by decide) b9.rb (Nat.le_refl _) (by decide) (fun _ b hb => by
        rw [blk_some] at hb
        exact .inr (.inl hb.symm)) (fun _ h10 t10 k10 => ?_) (fun hok => absurd hok (by decide))
      refine newB_row ?_
      intro h11 s11 o11 k11
      rw [add_mk]
      refine stC_row o11 (by simp) rfl ?_
      intro h12 s12 o12 k12
      refine stC_row o12 (by simp) rfl ?_
      intro h13 s13 o13 k13
      have k1013 : Keep (fun _ => False) h10 h13 := k11.trans (k12.trans' k13) (fun y hy hh => by
        have hh' : y = h10.size := hh
        omega)
      have t13 := t10.keep k1013
      refine withJ.inl ?_
      refine t13.free ?_
      have e30 : win 0 (0 + nsec 7560) 30 = win 0 30 30 := rfl
      rw [e30, freeOf_win 30 (by decide)]
      refine cnd_t rfl (cnd_t rfl (cnd_t rfl ?_))
      have o13' := k1013.row (k10.row (k9.row o8' (fun h => h)) (fun hh => hh.2 (.inr rfl))) (fun h => h)
      refine ldI_row (o := 0) o13' rfl (cnd_t rfl ?_)
      exact awake_spec fun h14 k14 => hR h14 (t13.out.trans' k14)

end Blob
end Go.Proofs.Ytmkobpkdodgboaa
