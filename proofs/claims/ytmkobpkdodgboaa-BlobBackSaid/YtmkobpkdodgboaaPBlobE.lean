/- Units that are taken as a window; a store with a device, as the laws of layer 11 keep it. -/
import Derived.Test.YtmkobpkdodgboaaPBlobD
namespace Go.Proofs.Ytmkobpkdodgboaa
open Go D
set_option linter.unusedVariables false
set_option linter.unusedSimpArgs false
namespace Blob
open Disk Enc Hash Snap Alloc

/-- the units from d to u are taken -/
def win (d u n : Nat) : List Bool := (List.range n).map fun i => decide (d ≤ i ∧ i < u)
theorem win_length (d u n : Nat) : (win d u n).length = n := by simp [win]
theorem win_get {d u n i : Nat} (h : i < n) : (win d u n)[i]? = some (decide (d ≤ i ∧ i < u)) := by
  unfold win
  rw [List.getElem?_map, List.getElem?_range h]
  rfl
theorem win_none (d n : Nat) : win d d n = List.replicate n false := by
  apply List.ext_getElem?
  intro i
  by_cases h : i < n
  · rw [win_get h, List.getElem?_replicate, if_pos h, decide_eq_false (by omega)]
  · rw [List.getElem?_eq_none (by rw [win_length]; omega), List.getElem?_eq_none (by rw [List.length_replicate]; omega)]
theorem win_free {u n : Nat} {s k : Int} (hu : u ≤ n) : AllOf (win 0 u n) s k false ↔ 1 ≤ k ∧ (u : Int) ≤ s ∧ s + k ≤ n := by
  unfold AllOf
  rw [win_length]
  constructor
  · rintro ⟨h1, h2, h3, h4⟩
    refine ⟨h1, ?_, h3⟩
    have := h4 s.toNat (by omega) (by omega)
    rw [win_get (by omega)] at this
    simp only [Option.some.injEq, decide_eq_false_iff_not] at this
    omega
  · rintro ⟨h1, h2, h3⟩
    refine ⟨h1, by omega, h3, fun i hi hi2 => ?_⟩
    rw [win_get (by omega), decide_eq_false (by omega)]
theorem win_taken {d u n : Nat} {s k : Int} (hd : (d : Int) ≤ s) (hk : 1 ≤ k) (hs : s + k ≤ u) (hu : u ≤ n) : AllOf (win d u n) s k true := by
  refine ⟨hk, by omega, by rw [win_length]; omega, fun i hi hi2 => ?_⟩
  rw [win_get (by omega), decide_eq_true (by omega)]
theorem win_untaken {d u n : Nat} {s k : Int} (hk : 1 ≤ k) (hs : 0 ≤ s) (hd : s < d) : ¬ AllOf (win d u n) s k true := by
  rintro ⟨h1, h2, h3, h4⟩
  rw [win_length] at h3
  have := h4 s.toNat (by omega) (by omega)
  rw [win_get (by omega)] at this
  simp only [Option.some.injEq, decide_eq_true_eq] at this
  omega
theorem win_first {u n k : Nat} (hk : 1 ≤ k) (hu : u + k ≤ n) : First (win 0 u n) k u := by
  refine ⟨(win_free (by omega)).2 ⟨by omega, by omega, by omega⟩, fun s' hs' ha => ?_⟩
  have := (win_free (by omega)).1 ha
  omega
theorem win_full {u n k : Nat} (hu : u ≤ n) (hk : n < u + k) (st : Int) : ¬ AllOf (win 0 u n) st k false := fun ha => by
  have := (win_free hu).1 ha
  omega
theorem win_more {d u n k : Nat} (hd : d ≤ u) : flip (win d u n) u k = win d (u + k) n := by
  apply List.ext_getElem?
  intro i
  rw [flip_get]
  by_cases h : i < n
  · rw [win_get h, win_get h, Option.map_some]
    congr 1
    by_cases h1 : u ≤ i ∧ i < u + k
    · rw [if_pos h1, decide_eq_false (by omega), decide_eq_true (by omega)]; rfl
    · rw [if_neg h1]
      congr 1
      rw [eq_iff_iff]
      omega
  · rw [List.getElem?_eq_none (by rw [win_length]; omega), List.getElem?_eq_none (by rw [win_length]; omega)]; rfl
theorem win_less {d u n k : Nat} (hd : d + k ≤ u) : flip (win d u n) d k = win (d + k) u n := by
  apply List.ext_getElem?
  intro i
  rw [flip_get]
  by_cases h : i < n
  · rw [win_get h, win_get h, Option.map_some]
    congr 1
    by_cases h1 : d ≤ i ∧ i < d + k
    · rw [if_pos h1, decide_eq_true (by omega), decide_eq_false (by omega)]; rfl
    · rw [if_neg h1]
      congr 1
      rw [eq_iff_iff]
      omega
  · rw [List.getElem?_eq_none (by rw [win_length]; omega), List.getElem?_eq_none (by rw [win_length]; omega)]; rfl
theorem freeOf_win {n : Nat} : ∀ (u : Nat), u ≤ n → freeOf (win 0 u n) = (n : Int) - u
  | 0, _ => by
    rw [win_none]
    unfold freeOf
    rw [List.count_replicate_self]
    omega
  | u + 1, h => by
    have e := win_more (d := 0) (u := u) (n := n) (k := 1) (by omega)
    have f := freeOf_flip (bits := win 0 u n) (s := u) (k := 1) (t := false) ((win_free (by omega)).2 ⟨by omega, by omega, by omega⟩)
    rw [show ((u : Int)).toNat = u by omega, show (1 : Int).toNat = 1 from rfl, e] at f
    rw [f, freeOf_win u (by omega)]
    simp
    omega

/-! ### refs that lie one behind the other -/
def refOf (u n : Nat) : Int × Int := if n = 0 then (0, 0) else ((u : Int), (n : Int))
def tot : List Nat → Nat
  | [] => 0
  | n :: ns => nsec n + tot ns
theorem tot_snoc (ns : List Nat) (n : Nat) : tot (ns ++ [n]) = tot ns + nsec n := by
  induction ns with
  | nil => simp [tot]
  | cons a ns ih => simp only [List.cons_append, tot, ih]; omega
def refsAt : Nat → List Nat → List (Int × Int)
  | _, [] => []
  | u, n :: ns => refOf u n :: refsAt (u + nsec n) ns
theorem refsAt_length : ∀ (ns : List Nat) (u : Nat), (refsAt u ns).length = ns.length
  | [], _ => rfl
  | n :: ns, u => by simp only [refsAt, List.length_cons, refsAt_length ns]
theorem refsAt_snoc : ∀ (ns : List Nat) (u n : Nat), refsAt u (ns ++ [n]) = refsAt u ns ++ [refOf (u + tot ns) n]
  | [], u, n => by simp [refsAt, tot]
  | a :: ns, u, n => by
    simp only [List.cons_append, refsAt, tot, refsAt_snoc ns (u + nsec a) n]
    rw [Nat.add_assoc]
theorem refsAt_get : ∀ (ns : List Nat) (u i n : Nat), ns[i]? = some n → (refsAt u ns)[i]? = some (refOf (u + tot (ns.take i)) n)
  | [], _, i, _, h => by simp at h
  | a :: ns, u, 0, n, h => by
    simp only [List.getElem?_cons_zero, Option.some.injEq] at h
    subst h
    simp [refsAt, tot]
  | a :: ns, u, i + 1, n, h => by
    simp only [List.getElem?_cons_succ] at h
    have := refsAt_get ns (u + nsec a) i n h
    simp only [refsAt, List.getElem?_cons_succ, this, List.take_succ_cons, tot]
    rw [Nat.add_assoc]
theorem tot_take {ns : List Nat} {i n : Nat} (h : ns[i]? = some n) : tot (ns.take (i + 1)) = tot (ns.take i) + nsec n := by
  rw [List.take_add_one, h]
  exact tot_snoc _ _
theorem tot_le (ns : List Nat) (i : Nat) : tot (ns.take i) ≤ tot ns := by
  induction ns generalizing i with
  | nil => simp
  | cons a ns ih =>
    cases i with
    | zero => simp [tot]
    | succ i => simp only [List.take_succ_cons, tot]; have := ih i; omega
/-- all of them can be marked -/
theorem refs_marks {N : Nat} : ∀ (ns : List Nat) (u : Nat), u + tot ns ≤ N → Marks (win 0 u N) (refsAt u ns) (win 0 (u + tot ns) N)
  | [], u, _ => rfl
  | n :: ns, u, h => by
    simp only [tot] at h
    have en : nsec n = (n + 251) / 252 := rfl
    by_cases hn : n = 0
    · subst hn
      refine ⟨.inr ⟨rfl, rfl⟩, ?_⟩
      have e : stepB (win 0 u N) (refOf u 0) = win 0 u N := rfl
      rw [e]
      have e0 : nsec 0 = 0 := rfl
      have := refs_marks (N := N) ns (u + nsec 0) (by omega)
      simp only [e0, Nat.add_zero, tot, Nat.zero_add] at this ⊢
      exact this
    · have e : refOf u n = ((u : Int), (n : Int)) := by unfold refOf; rw [if_neg hn]
      show MarkOk _ (refOf u n) ∧ Marks (stepB _ (refOf u n)) _ _
      rw [e]
      have hp : 1 ≤ nsec n := by omega
      refine ⟨.inl ⟨by show (0 : Int) < (n : Int); omega, by show (0 : Int) ≤ (u : Int); omega, ?_⟩, ?_⟩
      · show AllOf _ (u : Int) (nsecI (n : Int)) false
        rw [nsecI_nat]
        exact (win_free (by omega)).2 ⟨by omega, by omega, by omega⟩
      · have e2 : stepB (win 0 u N) ((u : Int), (n : Int)) = win 0 (u + nsec n) N := by
          unfold stepB
          rw [if_neg (by show ¬ (n : Int) = 0; omega)]
          show Alloc.flip _ (u : Int).toNat (nsecI (n : Int)).toNat = _
          rw [nsecI_nat, show ((u : Int)).toNat = u by omega, show ((nsec n : Int)).toNat = nsec n by omega]
          exact win_more (by omega)
        rw [e2]
        have := refs_marks (N := N) ns (u + nsec n) (by omega)
        rw [Nat.add_assoc] at this
        exact this

/-! ### a store on a device; Q: blocks that the law writes itself -/
def BSt (h0 h : Heap) (p q s w : Nat) (m : M) (fr : Int) (bits : List Bool) (Q : Nat → Prop) : Prop := ∃ mu im, Disk.Rep h p mu im m ∧ Row h q (BRow p s fr) ∧ Alloc.Rep h s w bits ∧ (∀ b, mu b ∨ im b → h0.size ≤ b ∧ ¬ Q b ∧ b ≠ q ∧ b ≠ s ∧ b ≠ w) ∧
  ((h0.size ≤ q ∧ ¬ Q q) ∧ (h0.size ≤ s ∧ ¬ Q s) ∧ (h0.size ≤ w ∧ ¬ Q w) ∧ q ≠ s ∧ q ≠ w) ∧ Keep (fun y => h0.size ≤ y) h0 h ∧ (m.st = 0 ∧ m.c.length ≤ 10 ∧ (∀ x ∈ m.c, 0 ≤ x.1) ∧ 0 ≤ fr ∧ fr + bits.length ≤ m.l.length) ∧ (∀ b, Q b → h0.size ≤ b ∧ b < h.size)

theorem BSt.kp {h0 h : Heap} {p q s w : Nat} {m : M} {fr : Int} {bits : List Bool} {Q : Nat → Prop} (t : BSt h0 h p q s w m fr bits Q) : Keep (fun y => h0.size ≤ y) h0 h := by
  obtain ⟨_, _, _, _, _, _, _, k, _⟩ := t
  exact k
theorem BSt.out {h0 h : Heap} {p q s w : Nat} {m : M} {fr : Int} {bits : List Bool} {Q : Nat → Prop} (t : BSt h0 h p q s w m fr bits Q) : Keep (fun _ => False) h0 h := t.kp.mono (fun y hy hh => by have : h0.size ≤ y := hh; omega)

/-- the law writes to its own blocks, and takes new ones -/
theorem BSt.own {h0 h h' : Heap} {p q s w : Nat} {m : M} {fr : Int} {bits : List Bool} {Q Q' S : Nat → Prop} (t : BSt h0 h p q s w m fr bits Q) (hk : Keep S h h') (hS : ∀ b, S b → b < h.size → Q b) (hQ : ∀ b, Q' b → (Q b ∨ h.size ≤ b) ∧ b < h'.size) : BSt h0 h' p q s w m fr bits Q' := by
  obtain ⟨mu, im, r, o, a, g1, ⟨g2, g3, g4, g5, g6⟩, k, g7, g8⟩ := t
  have lq := o.lt
  have la := a.lt
  have z := k.size
  refine ⟨mu, im, r.keep hk (fun b hb hh => (g1 b (.inl hb)).2.1 (hS b hh (r.lt b (.inl hb)))) (fun b hb hh => (g1 b (.inr hb)).2.1 (hS b hh (r.lt b (.inr hb)))), hk.row o (fun hh => g2.2 (hS q hh lq)), a.keep hk (fun hh => g3.2 (hS s hh la.1)) (fun hh => g4.2 (hS w hh la.2)), fun b hb => ⟨(g1 b hb).1, fun hh => ?_, (g1 b hb).2.2⟩, ⟨⟨g2.1, fun hh => ?_⟩, ⟨g3.1, fun hh => ?_⟩, ⟨g4.1, fun hh => ?_⟩, g5, g6⟩, ?_, g7, fun b hb => ?_⟩
  · rcases (hQ b hh).1 with h1 | h1
    · exact (g1 b hb).2.1 h1
    · have := r.lt b hb; omega
  · rcases (hQ q hh).1 with h1 | h1
    · exact g2.2 h1
    · omega
  · rcases (hQ s hh).1 with h1 | h1
    · exact g3.2 h1
    · omega
  · rcases (hQ w hh).1 with h1 | h1
    · exact g4.2 h1
    · omega
  · refine ⟨by have := hk.size; omega, fun b hb hn => ?_⟩
    rw [hk.2 b (by omega) (fun hh => ?_)]
    · exact k.2 b hb hn
    · exact hn (g8 b (hS b hh (by omega))).1
  · have hlt := (hQ b hb).2
    rcases (hQ b hb).1 with h1 | h1
    · exact ⟨(g8 b h1).1, hlt⟩
    · have z0 := k.size
      exact ⟨by omega, hlt⟩
theorem BSt.keep {h0 h h' : Heap} {p q s w : Nat} {m : M} {fr : Int} {bits : List Bool} {Q : Nat → Prop} (t : BSt h0 h p q s w m fr bits Q) (hk : Keep (fun _ => False) h h') : BSt h0 h' p q s w m fr bits Q := t.own hk (fun _ hh => hh.elim) (fun _ hb => ⟨.inl hb, by
  obtain ⟨_, _, _, _, _, _, _, _, _, g8⟩ := t
  have := (g8 _ hb).2
  have := hk.size
  omega⟩)

theorem BSt.write {h0 h : Heap} {p q s w : Nat} {m : M} {fr : Int} {bits : List Bool} {Q : Nat → Prop} (t : BSt h0 h p q s w m fr bits Q) {a : Option Addr} {l c : Nat} {ds : List UInt8} (hb : Rb h a l ds) (hcap : l ≤ c) (hl : l ≤ 9223372036854775807) (hfar : 0 < l → ∀ b, blk a b → b < h0.size ∨ Q b) {R : (Int × Int) × Int → Heap → Prop}
    (hz : l = 0 → ∀ h', BSt h0 h' p q s w m fr bits Q → Keep (fun _ => False) h h' → R ((0, 0), 0) h')
    (hfull : 0 < l → (∀ st, ¬ AllOf bits st (nsec l) false) → ∀ h', BSt h0 h' p q s w m fr bits Q → Keep (fun _ => False) h h' → R ((0, 0), 60) h')
    (hk : 0 < l → ∀ st, First bits (nsec l) st → ∀ h', BSt h0 h' p q s w (putM m (fr + st) ds) fr (flip bits st.toNat (nsec l)) Q → Keep (fun b => h0.size ≤ b ∧ ¬ Q b) h h' → R ((st, (l : Int)), 0) h') :
    CallT Try.prog blob_Blobs_Write_no [.pointer (some ⟨q, 0, none⟩), .slice a l c] h [.agg [.int .i64, .int .i64], .sc (.int .i64)] R := by
  have t0 := t
  obtain ⟨mu, im, r, o, a', g1, ⟨g2, g3, g4, g5, g6⟩, k, ⟨g7, g9, g10, g11, g12⟩, g8⟩ := t
  have z := k.size
  refine bwrite_spec r g7 (by omega) o a' ⟨⟨fun hm => (g1 q (.inl hm)).2.2.1 rfl, fun hm => (g1 s (.inl hm)).2.2.2.1 rfl, fun hm => (g1 w (.inl hm)).2.2.2.2 rfl⟩, ⟨fun hm => (g1 s (.inr hm)).2.2.2.1 rfl, fun hm => (g1 w (.inr hm)).2.2.2.2 rfl⟩, g5, g6⟩ hb hcap hl (fun hl b hb' => ?_) g11 g12 (fun hl0 h' k' => hz hl0 h' (t0.keep k') k') (fun hl0 hno h' k' => hfull hl0 hno h' (t0.keep k') k') (fun hl0 st hf mu' im' h' r' o' a2 k' gr => ?_)
  · rcases hfar hl b hb' with hh | hh
    · refine ⟨fun hm => by have := (g1 b (.inl hm)).1; omega, by omega, by omega⟩
    · refine ⟨fun hm => (g1 b (.inl hm)).2.1 hh, fun e => g3.2 (by rw [← e]; exact hh), fun e => g4.2 (by rw [← e]; exact hh)⟩
  · obtain ⟨⟨c1, c2, c3, _⟩, _⟩ := id hf
    have el := hb.len
    obtain ⟨p1, p2, p3, _⟩ := put_facts (m := m) (P := fr + st) (ds := ds) g7 g10 (by omega) (by rw [← el]; omega)
    have far : ∀ b, mu' b ∨ im' b → (mu b ∨ im b) ∨ h.size ≤ b := fun b hb' => by
      rcases hb' with hb' | hb'
      · rcases gr.1 b hb' with hh | hh
        · exact .inl (.inl hh)
        · exact .inr hh
      · rcases gr.2 b hb' with hh | hh
        · exact .inl (.inr hh)
        · exact .inr hh
    have lq := o.lt
    have la := a'.lt
    have zk := k'.size
    refine hk hl0 st hf h' ⟨mu', im', r', o', a2, fun b hb' => ?_, ⟨g2, g3, g4, g5, g6⟩, ?_, ⟨p1, by rw [p2]; simp, (by rw [p2]; intro x hx; cases hx), g11, by rw [p3, flip_length]; exact g12⟩, fun b hb' => ⟨(g8 b hb').1, by have := (g8 b hb').2; omega⟩⟩ ?_
    · rcases far b hb' with hh | hh
      · exact g1 b hh
      · exact ⟨by omega, fun hq => by have := (g8 b hq).2; omega, by omega, by omega, by omega⟩
    · exact k.trans k' (fun y hy hh => by
        rcases hh with hh | hh | hh
        · exact (g1 y (.inl hh)).1
        · show h0.size ≤ y; omega
        · show h0.size ≤ y; omega)
    · exact k'.mono (fun y _ hh => by
        rcases hh with hh | hh | hh
        · exact ⟨(g1 y (.inl hh)).1, (g1 y (.inl hh)).2.1⟩
        · subst hh; exact g3
        · subst hh; exact g4)

end Blob
end Go.Proofs.Ytmkobpkdodgboaa
