/- PKey PNew PRng PRngB PSlc PAt PClone PDel PRepl PCat joined, for seat work that lacks some functions; written by wip/tool/cut.py. -/
import Derived.Test.YtkgocfaajfaidaaXBytes
import Derived.Test.YtkgocfaajfaidaaGTree
namespace Go.Proofs.Ytkgocfaajfaidaa
open Go D
set_option linter.unusedVariables false
set_option linter.unusedSimpArgs false
abbrev Key := ByteArray
theorem bless_irrefl : ∀ a : List UInt8, Op.bytesLess a a = false
  | [] => rfl
  | a :: x => by
    unfold Op.bytesLess
    rw [bless_irrefl x, decide_eq_false (UInt8.lt_irrefl a)]
    simp
theorem bless_nil (a : List UInt8) : Op.bytesLess a [] = false := by cases a <;> rfl
theorem bless_trans : ∀ {a b c : List UInt8}, Op.bytesLess a b = true → Op.bytesLess b c = true → Op.bytesLess a c = true
  | a, [], _, h, _ => by rw [bless_nil] at h; cases h
  | _, _ :: _, [], _, h => by cases h
  | [], _ :: _, _ :: _, _, _ => rfl
  | a :: x, b :: y, c :: z, h1, h2 => by
    unfold Op.bytesLess at h1 h2 ⊢
    simp only [Bool.or_eq_true, Bool.and_eq_true, decide_eq_true_eq, beq_iff_eq] at h1 h2 ⊢
    rcases h1 with h1 | ⟨rfl, h1⟩
    · rcases h2 with h2 | ⟨rfl, h2⟩
      · exact .inl (UInt8.lt_trans h1 h2)
      · exact .inl h1
    · rcases h2 with h2 | ⟨rfl, h2⟩
      · exact .inl h2
      · exact .inr ⟨rfl, bless_trans h1 h2⟩
theorem bless_tri : ∀ {a b : List UInt8}, Op.bytesLess a b = false → Op.bytesLess b a = false → a = b
  | [], [], _, _ => rfl
  | [], _ :: _, h, _ => by cases h
  | _ :: _, [], _, h => by cases h
  | a :: x, b :: y, h1, h2 => by
    unfold Op.bytesLess at h1 h2
    simp only [Bool.or_eq_false_iff, Bool.and_eq_false_imp, decide_eq_false_iff_not, beq_iff_eq] at h1 h2
    have e : a = b := by
      apply UInt8.toNat_inj.1
      have q1 : ¬ a.toNat < b.toNat := fun e => h1.1 (UInt8.lt_iff_toNat_lt.2 e)
      have q2 : ¬ b.toNat < a.toNat := fun e => h2.1 (UInt8.lt_iff_toNat_lt.2 e)
      omega
    subst e
    rw [bless_tri (h1.2 rfl) (h2.2 rfl)]

def klt (a b : Key) : Prop := slt a b = true
instance (a b : Key) : Decidable (klt a b) := inferInstanceAs (Decidable (_ = true))
theorem klt_irrefl (a : Key) : ¬ klt a a := fun h => by
  unfold klt slt at h
  rw [bless_irrefl] at h; cases h
theorem klt_trans {a b c : Key} (h : klt a b) (k : klt b c) : klt a c := bless_trans h k
theorem klt_asymm {a b : Key} (h : klt a b) : ¬ klt b a := fun k => klt_irrefl _ (klt_trans h k)
theorem klt_tri {a b : Key} (h : ¬ klt a b) (k : ¬ klt b a) : a = b := by
  have h1 : Op.bytesLess a.toList b.toList = false := by
    cases e : Op.bytesLess a.toList b.toList with
    | false => rfl
    | true => exact absurd e h
  have h2 : Op.bytesLess b.toList a.toList = false := by
    cases e : Op.bytesLess b.toList a.toList with
    | false => rfl
    | true => exact absurd e k
  have e := bless_tri h1 h2
  rw [ByteArray.toList_eq, ByteArray.toList_eq] at e
  cases a with | mk x => cases b with | mk y => congr; exact Array.toList_inj.1 e
theorem klt_of_nlt {a b c : Key} (h : ¬ klt b a) (k : klt b c) : klt a c := by
  by_cases e : klt a b
  · exact klt_trans e k
  · rw [klt_tri e h]; exact k
theorem slt_dec (a b : Key) : slt a b = decide (klt a b) := by
  cases e : slt a b with
  | true => exact (decide_eq_true (show klt a b from e)).symm
  | false => exact (decide_eq_false (fun h : klt a b => by unfold klt at h; rw [e] at h; cases h)).symm
theorem seq_dec (s t : ByteArray) : seq s t = decide (s = t) := by
  by_cases h : s = t
  · subst h; rw [seq_self]; simp
  · rw [seq_false h, decide_eq_false h]

/-- keys that rise -/
def Asc : List Key → Prop
  | [] => True
  | a :: r => (∀ b ∈ r, klt a b) ∧ Asc r
/-- how many are below k -/
def below (k : Key) : List Key → Nat
  | [] => 0
  | a :: r => if klt a k then below k r + 1 else 0
theorem below_le (k : Key) : ∀ l : List Key, below k l ≤ l.length
  | [] => Nat.le_refl _
  | a :: r => by
    unfold below
    split
    · have := below_le k r; simp; omega
    · simp
theorem below_lt {k : Key} : ∀ {l : List Key} {i : Nat} {x : Key}, i < below k l → l[i]? = some x → klt x k
  | a :: r, i, x, hi, hx => by
    unfold below at hi
    split at hi
    · rename_i h
      cases i with
      | zero => simp at hx; subst hx; exact h
      | succ i => exact below_lt (l := r) (i := i) (by omega) (by simpa using hx)
    · omega
theorem below_ge {k : Key} : ∀ {l : List Key}, Asc l → ∀ {i : Nat} {x : Key}, below k l ≤ i → l[i]? = some x → ¬ klt x k
  | a :: r, hs, i, x, hi, hx => by
    unfold below at hi
    split at hi
    · rename_i h
      cases i with
      | zero => omega
      | succ i => exact below_ge hs.2 (i := i) (by omega) (by simpa using hx)
    · rename_i h
      cases i with
      | zero => simp at hx; subst hx; exact h
      | succ i =>
        have hm : x ∈ r := List.mem_of_getElem? (by simpa using hx)
        intro hk
        exact h (klt_trans (hs.1 x hm) hk)
/-- a place that parts the list is that number -/
theorem below_is {k : Key} {l : List Key} {n : Nat} (hn : n ≤ l.length) (h1 : ∀ (i : Nat) x, i < n → l[i]? = some x → klt x k) (h2 : ∀ x, l[n]? = some x → ¬ klt x k) : below k l = n := by
  induction l generalizing n with
  | nil => simp at hn; subst hn; rfl
  | cons a r ih =>
    unfold below
    cases n with
    | zero => rw [if_neg (h2 a rfl)]
    | succ n =>
      rw [if_pos (h1 0 a (by omega) rfl), ih (n := n) (by simpa using hn) (fun i x hi hx => h1 (i + 1) x (by omega) (by simpa using hx)) (fun x hx => h2 x (by simpa using hx))]

theorem asc_get : ∀ {l : List Key} {i j : Nat} {x y : Key}, Asc l → i < j → l[i]? = some x → l[j]? = some y → klt x y
  | a :: r, 0, j + 1, x, y, ha, _, hx, hy => by
    simp at hx; subst hx
    exact ha.1 y (List.mem_of_getElem? (by simpa using hy))
  | a :: r, i + 1, j + 1, x, y, ha, hij, hx, hy => asc_get (l := r) (i := i) (j := j) ha.2 (by omega) (by simpa using hx) (by simpa using hy)

/-- the middle, as the code reckons it -/
theorem mid_is {i j : Nat} (hij : i < j) (hj : j ≤ 4611686018427387904) : w64 (shrI .u64 (IntKind.u64.wrap (w64 ((i : Int) + (j : Int)))) 1) = (((i + j) / 2 : Nat) : Int) := by
  have e1 : w64 ((i : Int) + (j : Int)) = ((i + j : Nat) : Int) := by rw [w64_id (by omega) (by omega)]; push_cast; rfl
  have e2 : IntKind.u64.wrap ((i + j : Nat) : Int) = ((i + j : Nat) : Int) := by
    have : IntKind.u64.wrap ((i + j : Nat) : Int) = ((i + j : Nat) : Int) % 18446744073709551616 := by
      simp only [IntKind.wrap, IntKind.bits, IntKind.signed, Bool.false_and]
      simp
    omega
  have e3 : shrI .u64 ((i + j : Nat) : Int) 1 = (((i + j) / 2 : Nat) : Int) := by
    have : shrI .u64 ((i + j : Nat) : Int) ((1 : Nat) : Int) = (((i + j) >>> 1 : Nat) : Int) := shrI_nat (by decide)
    rw [Nat.shiftRight_eq_div_pow] at this
    exact this
  rw [e1, e2, e3, w64_id (by omega) (by omega)]
/-- what there was stays -/
abbrev Nw (h h' : Heap) : Prop := Keep (fun _ => False) h h'
theorem Nw.st {h0 h h' : Heap} {b : Nat} (hn : Nw h0 h) (hk : Keep (· = b) h h') (hb : h0.size ≤ b) : Nw h0 h' := hn.trans hk (fun x hx e => by have e' : x = b := e; omega)
theorem Nw.ap {h0 h h' : Heap} {S : Nat → Prop} (hn : Nw h0 h) (hk : Keep S h h') (hb : ∀ b, S b → h0.size ≤ b) : Nw h0 h' := hn.trans hk (fun x hx e => by have := hb x e; omega)
theorem Keep.toNw {S : Nat → Prop} {h h' : Heap} (hk : Keep S h h') (hs : ∀ b, S b → h.size ≤ b) : Nw h h' := hk.mono (fun x hx e => by have := hs x e; omega)

/-- a slice of elements of n cells in blocks that are new since h0 -/
structure Own (h0 h : Heap) (n : Nat) (s : Sl) (vs : List Value) : Prop where
  sl : SlR h n s.a s.len s.cap vs
  fresh : ∀ b, blk s.a b → h0.size ≤ b

section
variable {h0 h h' : Heap} {n : Nat} {s : Sl} {vs : List Value}
theorem Own.nil (h0 h : Heap) (n : Nat) : Own h0 h n ⟨none, 0, 0⟩ [] := ⟨SlR.nil _ _, fun b hb => by obtain ⟨x, e, _⟩ := hb; cases e⟩
theorem Own.keep {S : Nat → Prop} (ho : Own h0 h n s vs) (hk : Keep S h h') (hn : ∀ b, blk s.a b → ¬ S b) : Own h0 h' n s vs := ⟨ho.sl.keep hk hn, ho.fresh⟩
theorem Own.nw (ho : Own h0 h n s vs) (hk : Nw h h') : Own h0 h' n s vs := ho.keep hk (fun _ _ h => h)
theorem Own.lt (ho : Own h0 h n s vs) {b : Nat} (hb : blk s.a b) : b < h.size := ho.sl.blk_lt hb
theorem Own.len (ho : Own h0 h n s vs) : vs.length = s.len * n := ho.sl.len
theorem Own.le (ho : Own h0 h n s vs) : s.len ≤ s.cap := ho.sl.le

/-- cells laid behind it -/
theorem Own.app {S : Nat → Prop} {zs new : List Value} {e : TypeId} {bytes m : Nat} {K : Option Addr → Nat → Heap → Prop} (ho : Own h0 h n s vs) (hn : Keep S h0 h) (hz : zs.length = n) (hm : new.length = m * n) (hv : ∀ v ∈ new, v.oneCell' = true)
    (hb : (2 * (s.len + m) + 1024) * bytes ≤ 281474976710656)
    (hk : ∀ a' c' h', Own h0 h' n ⟨a', s.len + m, c'⟩ (vs ++ new) → Keep S h0 h' → Keep (blk s.a) h h' → (∀ b, blk a' b → blk s.a b ∨ h.size ≤ b) → K a' c' h') : app zs e n bytes s.a s.len s.cap new m h K := by
  refine SlR.app ho.sl hz hm hv hb ?_
  intro a' c' h2 q1 q2 q3
  have hz0 := hn.size
  have w : ∀ b, blk a' b → blk s.a b ∨ h.size ≤ b := fun b hb' => by
    rcases q3 with ⟨rfl, _⟩ | ⟨rfl, _⟩
    · exact .inl hb'
    · rw [blk_some] at hb'
      exact .inr (by simp only at hb'; omega)
  refine hk a' c' h2 ⟨q1, fun b hb' => ?_⟩ (hn.trans q2 (fun x hx e => by have := ho.fresh x e; omega)) q2 w
  rcases w b hb' with hh | hh
  · exact ho.fresh b hh
  · omega

/-- one element, out of a block of its own, laid behind it -/
theorem Own.push {S : Nat → Prop} {zs cells : List Value} {e t : TypeId} {bytes N : Nat} {K : Option Addr → Nat → Heap → Prop} (ho : Own h0 h n s vs) (hn : Keep S h0 h) (hz : zs.length = n) (hm : cells.length = n) (hN : N = n) (hv : ∀ v ∈ cells, v.oneCell' = true)
    (hb : (2 * (s.len + 1) + 1024) * bytes ≤ 281474976710656)
    (hk : ∀ a' c' h', Own h0 h' n ⟨a', s.len + 1, c'⟩ (vs ++ cells) → Keep S h0 h' → Keep (blk s.a) h h' → (∀ b, blk a' b → blk s.a b ∨ h.size ≤ b) → K a' c' h') :
    newB cells t h fun a9 h10 => ldRow N a9 h10 fun cs14 => D.app zs e n bytes s.a s.len s.cap cs14 1 h10 K := by
  refine newB_row ?_
  intro h2 s2 r2 k2
  refine ldRow_row (o := 0) r2 (by omega) ?_
  rw [List.drop_zero, List.take_of_length_le (by omega)]
  refine (ho.nw k2).app (hn.trans k2 (fun _ _ h => h.elim)) hz (by omega) hv hb ?_
  intro a' c' h3 q1 q2 q3 q4
  refine hk a' c' h3 q1 q2 ?_ (fun b hb' => ?_)
  · refine ⟨by have := q3.size; omega, fun b hb' hn' => ?_⟩
    rw [q3.same b (by omega) hn', k2.same b hb' (fun h => h)]
  · rcases q4 b hb' with hh | hh
    · exact .inl hh
    · exact .inr (by omega)

/-- its capacity cut off behind its length -/
theorem Own.cut {K : Option Addr → Nat → Nat → Prop} (ho : Own h0 h n s vs) (hk : ∀ a', Own h0 h n ⟨a', s.len, s.len⟩ vs → (∀ b, blk a' b → blk s.a b) → K a' s.len s.len) : lsl n s.a s.cap 0 (s.len : Int) (s.len : Int) K := by
  have hle := ho.le
  refine ⟨by omega, by omega, by omega, by omega, ?_⟩
  have e1 : ((s.len : Int) - 0).toNat = s.len := by omega
  rw [e1]
  have hb : ∀ b, blk (if (s.len : Int) = 0 then s.a else s.a.map (·.add ((0 : Int).toNat * n))) b → blk s.a b := by
    intro b hb'
    split at hb'
    · exact hb'
    · obtain ⟨y, e1, e2⟩ := hb'
      cases hs : s.a with
      | none => rw [hs] at e1; cases e1
      | some x =>
        rw [hs] at e1
        injection e1 with e1
        subst e1 e2
        exact ⟨x, rfl, (add_block _ _).symm⟩
  refine hk _ ⟨?_, fun b hb' => ho.fresh b (hb b hb')⟩ hb
  have hsl := ho.sl
  rcases hsl with ⟨h1, h2, h3, h4⟩ | ⟨b, o, cs, h1, h2, h3, h4, h5, h6⟩
  · refine .inl ⟨?_, h2, h2, h4⟩
    show (if (s.len : Int) = 0 then s.a else s.a.map (·.add ((0 : Int).toNat * n))) = none
    rw [h1]
    split <;> rfl
  · refine .inr ⟨b, o, cs, ?_, h2, Nat.le_refl _, ?_, h5, h6⟩
    · show (if (s.len : Int) = 0 then s.a else s.a.map (·.add ((0 : Int).toNat * n))) = some ⟨b, o, none⟩
      rw [h1]
      split
      · rfl
      · show some ((⟨b, o, none⟩ : Addr).add ((0 : Int).toNat * n)) = _
        rw [add_mk]
        simp
    · have hln : s.len * n ≤ s.cap * n := Nat.mul_le_mul_right _ h3
      show o + s.len * n ≤ cs.length
      omega

theorem Own.rv (ho : Own h0 h 1 s vs) : Rv h s.a s.len vs := ho.sl.rv
theorem Own.up {h1 : Heap} (ho : Own h1 h n s vs) (hz : h0.size ≤ h1.size) : Own h0 h n s vs := ⟨ho.sl, fun b hb => by have := ho.fresh b hb; omega⟩
end
theorem CallT.mono {P : Program} {f : FuncId} {args : List Value} {h : Heap} {l : List Sh} {K K' : Tup l → Heap → Prop} (hc : CallT P f args h l K) (hk : ∀ s h', K s h' → K' s h') : CallT P f args h l K' := fun w hw =>
  (hc w hw).mono (fun e w' ⟨os, s, e1, k⟩ => ⟨os, s, e1, hk s _ k⟩)
theorem YldT.mono {P : Program} {y : Nat} {args : List Value} {h : Heap} {K K' : Bool → Heap → Prop} (hc : YldT P y args h K) (hk : ∀ b h', K b h' → K' b h') : YldT P y args h K' := fun w hw => by
  obtain ⟨fn, tmps, a, b, h1, h2⟩ := hc w hw
  exact ⟨fn, tmps, a, b, h1, h2.mono (fun e w' ⟨os, b, e1, k⟩ => ⟨os, b, e1, hk b _ k⟩)⟩

/-- the blocks that a round may write to, grown: new ones alone come to them -/
def Grow (O O' : Nat → Prop) (h h' : Heap) : Prop := ∀ b, O' b → (O b ∨ h.size ≤ b) ∧ b < h'.size
/-- v's iterator gives xs: J g pre O: pre has come, g: on with it; O are the blocks of the rounds. D: what the iterator reads -/
def SeqC (P : Program) (v : Value) (l : List Sc) (h : Heap) (D : Nat → Prop) (xs : List (TupS l)) : Prop :=
  ∃ f first captured, v = .func (.func f) first captured ∧ bodyB P f = true ∧ shsOf P f = [] ∧
    ∀ (y : Nat) (J : Bool → List (TupS l) → (Nat → Prop) → Heap → Prop) (O : Nat → Prop) (h1 : Heap), Keep (fun b => ¬ D b) h h1 →
      (∀ g pre O h2 h3, J g pre O h2 → Keep (fun b => ¬ O b ∧ h1.size ≤ b) h2 h3 → J g pre O h3) → (∀ g pre O h2, J g pre O h2 → ∀ b, O b → h2[b]? ≠ some (.deferred (some []))) → J true [] O h1 → (∀ b, O b → ¬ D b ∧ b < h1.size) →
      (∀ pre x O h2, J true pre O h2 → pre ++ [x] <+: xs → YldT P y (mkS l x) h2 fun b h3 => ∃ O', J b (pre ++ [x]) O' h3 ∧ Keep O h2 h3 ∧ Grow O O' h2 h3) →
      CallT P f (first.toList ++ [.func (.yield y) #[] #[]] ++ captured.toList) h1 [] fun _ h4 => ∃ g pre O', J g pre O' h4 ∧ (g = true → pre = xs)

theorem keep_set {h : Heap} {k : Nat} {o : Obj} : Keep (· = k) h (h.setIfInBounds k o) := ⟨by simp, fun b hb hn => Array.getElem?_setIfInBounds_ne (fun e => hn e.symm)⟩

theorem shut_keep {lo : Nat} {h h' : Heap} {O : Nat → Prop} (hz : h'.size = h.size) (hs : ∀ b : Nat, h'[b]? = h[b]? ∨ (lo ≤ b ∧ h[b]? = some (.deferred (some [])) ∧ h'[b]? = some (.deferred none))) (hO : ∀ b, O b → h[b]? ≠ some (.deferred (some []))) : Keep (fun b => ¬ O b ∧ lo ≤ b) h h' := by
  refine ⟨by omega, fun b hb hn => ?_⟩
  rcases hs b with e | ⟨e1, e2, _⟩
  · exact e
  · exact absurd ⟨fun ho => hO b ho e2, e1⟩ hn
/-- the loop -/
theorem rngX_intro {P : Program} {v : Value} {l : List Sc} {rnd : TupS l → (Heap → (Heap → Prop) → Prop) → (Ex → Heap → Prop) → Heap → Prop} {Qn Qr : Heap → Prop} {Qx : List (Nat × (Heap → Prop))} {h : Heap} {D : Nat → Prop} {xs : List (TupS l)}
    (hs : SeqC P v l h D xs) (hD : ∀ b, D b → b < h.size) (I : Ex → List (TupS l) → (Nat → Prop) → Heap → Prop) (O : Nat → Prop) (h0 : I .nrm [] O h) (hO : ∀ b, O b → ¬ D b ∧ b < h.size)
    (stab : ∀ ex pre O h2 h3, I ex pre O h2 → Keep (fun b => ¬ O b ∧ h.size ≤ b) h2 h3 → I ex pre O h3) (ndf : ∀ ex pre O h2, I ex pre O h2 → ∀ b, O b → h2[b]? ≠ some (.deferred (some [])))
    (body : ∀ (rb : Obj) (lb : Nat) (pre : List (TupS l)) (x : TupS l) (O : Nat → Prop) (h2 : Heap) (M : Heap → (Heap → Prop) → Prop) (Qb : Ex → Heap → Prop), I .nrm pre O h2 → pre ++ [x] <+: xs → (∀ b, O b → b < h2.size) → ¬ O lb → h.size ≤ lb → lb < h2.size →
      (∀ (h3 : Heap) (K : Heap → Prop), Keep O h2 h3 → (∀ h4, h4.size = h3.size → Keep (· = lb) h3 h4 → h4[lb]? = some rb → K h4) → M h3 K) →
      (∀ ex h5, (∃ O', I ex (pre ++ [x]) O' h5 ∧ Keep (fun b => O b ∨ b = lb) h2 h5 ∧ h5[lb]? = some rb ∧ Grow O O' h2 h5) → Qb ex h5) → rnd x M Qb h2)
    (hn : ∀ O h', I .nrm xs O h' → Qn h') (hr : ∀ pre O h', I .ret pre O h' → Qr h') (hx : ∀ i pre O h', I (.exit i) pre O h' → ∃ p ∈ Qx, p.1 = i ∧ p.2 h') (hg : ∀ i pre O h', ¬ I (.goto i) pre O h') : rngX P v l rnd Qn Qr Qx h := by
  obtain ⟨f, first, captured, e1, e2, e3, hc⟩ := hs
  refine ⟨f, first, captured, e1, e2, e3, fun r hY => ?_⟩
  have k1 : Keep (fun _ => False) h ((h.push (.deferred (some []))).push (recO r .ready none)) := ⟨by simp; omega, fun b hb _ => by rw [Array.getElem?_push, if_neg (by simp; omega), Array.getElem?_push, if_neg (by omega)]⟩
  have hrec : ((h.push (.deferred (some []))).push (recO r .ready none))[h.size + 1]? = some (recO r .ready none) := by rw [Array.getElem?_push, if_pos (by simp)]
  have hsz : ((h.push (.deferred (some []))).push (recO r .ready none)).size = h.size + 2 := by simp
  generalize (h.push (.deferred (some []))).push (recO r .ready none) = hA at k1 hrec hsz
  have st : ∀ {ex pre O h2 h3} {S : Nat → Prop}, I ex pre O h2 → Keep S h2 h3 → (∀ b, S b → ¬ O b ∧ h.size ≤ b) → I ex pre O h3 := fun hi hk hS => stab _ _ _ _ _ hi (hk.mono (fun b _ hb => hS b hb))
  refine CallT.mono (hc (h.size + 1) (fun g pre O' hh => ∃ O0 ex, (∀ b, O' b ↔ O0 b ∨ b = h.size + 1) ∧ nrmB ex = g ∧ hh[h.size + 1]? = some (recO r (match nrmB ex with | true => .ready | false => .done) (jumpC ex)) ∧ (∀ b, O0 b → b < hh.size) ∧ ¬ O0 (h.size + 1) ∧ I ex pre O0 hh)
    (fun b => O b ∨ b = h.size + 1) hA (k1.mono (fun _ _ h => h.elim)) ?_ ?_ ?_ ?_ ?_) ?_
  · rintro g pre O' h2 h3 ⟨O0, ex, q1, q2, q3, q4, q5, q6⟩ hk
    have hlt := (Array.getElem?_eq_some_iff.1 q3).1
    refine ⟨O0, ex, q1, q2, ?_, fun b hb => by have := q4 b hb; have := hk.size; omega, q5, st q6 hk (fun b hb => ⟨fun hb2 => hb.1 ((q1 b).2 (.inl hb2)), by omega⟩)⟩
    rw [hk.same _ hlt (fun hb => hb.1 ((q1 _).2 (.inr rfl)))]
    exact q3
  · rintro g pre O' h2 ⟨O0, ex, q1, q2, q3, q4, q5, q6⟩ b hb
    rcases (q1 b).1 hb with hb | rfl
    · exact ndf _ _ _ _ q6 b hb
    · rw [q3]; intro e; injection e with e; cases e
  · exact ⟨O, .nrm, fun b => Iff.rfl, rfl, hrec, fun b hb => by have := (hO b hb).2; omega, fun hb => by have := (hO _ hb).2; omega, st h0 k1 (fun b hb => hb.elim)⟩
  · rintro b (hb | rfl)
    · exact ⟨(hO b hb).1, by have := (hO b hb).2; omega⟩
    · exact ⟨fun hd => by have := hD _ hd; omega, by omega⟩
  · rintro pre x O' h2 ⟨O0, ex, q1, q2, q3, q4, q5, q6⟩ hpre
    have hex : ex = .nrm := by cases ex <;> first | rfl | cases q2
    subst hex
    have hlt := (Array.getElem?_eq_some_iff.1 q3).1
    refine hY x h2 _ q3 (body (recO r .busy none) (h.size + 1) pre x O0 h2 _ _ q6 hpre q4 q5 (by omega) hlt ?_ ?_)
    · intro h3 K hk hK
      have e : h3[h.size + 1]? = some (recO r .ready none) := by rw [hk.same _ hlt q5]; exact q3
      exact ⟨e, hK _ (by simp) keep_set (by simp [(Array.getElem?_eq_some_iff.1 e).1])⟩
    · rintro ex h5 ⟨O2, i2, kp, rb, gr⟩
      refine ⟨rb, fun b => O2 b ∨ b = h.size + 1, ⟨O2, ex, fun b => Iff.rfl, rfl, ?_, ?_, ?_, ?_⟩, ?_, ?_⟩
      · have := (Array.getElem?_eq_some_iff.1 rb).1
        have e : ∀ o : Obj, (h5.setIfInBounds (h.size + 1) o)[h.size + 1]? = some o := fun o => by simp [this]
        rw [e]; cases ex <;> rfl
      · intro b hb; rw [Array.size_setIfInBounds]; exact (gr b hb).2
      · intro hb
        rcases (gr _ hb).1 with h1 | h1
        · exact q5 h1
        · omega
      · refine st i2 keep_set (fun b hb => ⟨fun hb2 => ?_, by omega⟩)
        subst hb
        rcases (gr _ hb2).1 with h1 | h1
        · exact q5 h1
        · omega
      · refine (kp.trans keep_set (fun b _ e => .inr e)).mono (fun b _ hb => (q1 b).2 hb)
      · intro b hb
        rw [Array.size_setIfInBounds]
        rcases hb with hb | rfl
        · exact ⟨(gr b hb).1.imp (fun h => (q1 b).2 (.inl h)) id, (gr b hb).2⟩
        · exact ⟨.inl ((q1 _).2 (.inr rfl)), (Array.getElem?_eq_some_iff.1 rb).1⟩
  · rintro _ h4 ⟨g, pre, O', ⟨O0, ex, q1, q2, q3, q4, q5, q6⟩, hpre⟩
    have fin : ∀ o, I ex pre O0 (h4.setIfInBounds (h.size + 1) o) := fun o => st q6 keep_set (fun b hb => ⟨fun hb2 => by subst hb; exact q5 hb2, by omega⟩)
    cases ex with
    | nrm =>
      have e := hpre q2.symm
      subst e
      exact .inl ⟨q3, hn _ _ (fin _)⟩
    | ret => exact .inr (.inl ⟨q3, hr _ _ _ (fin _)⟩)
    | exit i =>
      obtain ⟨p, hp, rfl, hk⟩ := hx _ _ _ _ (fin (recO r .exhausted (some (.exit i))))
      exact .inr (.inr ⟨p, hp, q3, hk⟩)
    | goto i => exact (hg _ _ _ _ q6).elim
theorem rng_cells {P : Program} {v : Value} {l : List Sc} {B : TupS l → (Ex → Heap → Prop) → Heap → Prop} {Qn Qr : Heap → Prop} {Qx : List (Nat × (Heap → Prop))} {h : Heap} {D : Nat → Prop} {xs : List (TupS l)}
    (hs : SeqC P v l h D xs) (hD : ∀ b, D b → b < h.size) (O : Nat → Prop) (hO : ∀ b, O b → ¬ D b ∧ b < h.size) (I : Ex → List (TupS l) → Heap → Prop) (h0 : I .nrm [] h)
    (stab : ∀ ex pre h2 h3, I ex pre h2 → Keep (fun b => ¬ O b ∧ h.size ≤ b) h2 h3 → I ex pre h3) (rows : ∀ ex pre h2, I ex pre h2 → ∀ b, O b → ∃ cs, Row h2 b cs)
    (body : ∀ (pre : List (TupS l)) (x : TupS l) (h4 : Heap) (Q : Ex → Heap → Prop), I .nrm pre h4 → Keep (fun b => O b ∨ h.size ≤ b) h h4 → pre ++ [x] <+: xs →
      (∀ ex h5, I ex (pre ++ [x]) h5 → Keep (fun b => O b ∨ h4.size ≤ b) h4 h5 → Q ex h5) → B x Q h4)
    (hn : ∀ h', I .nrm xs h' → Keep (fun b => O b ∨ h.size ≤ b) h h' → Qn h') (hr : ∀ pre h', I .ret pre h' → Keep (fun b => O b ∨ h.size ≤ b) h h' → Qr h')
    (hx : ∀ i pre h', I (.exit i) pre h' → Keep (fun b => O b ∨ h.size ≤ b) h h' → ∃ p ∈ Qx, p.1 = i ∧ p.2 h') (hg : ∀ i pre h', ¬ I (.goto i) pre h') :
    rngX P v l (fun s M Q h13 => M h13 fun h15 => B s Q h15) Qn Qr Qx h := by
  refine rngX_intro hs hD (fun ex pre O' hh => (∀ b, O' b ↔ O b) ∧ I ex pre hh ∧ Keep (fun b => O b ∨ h.size ≤ b) h hh) O ⟨fun b => Iff.rfl, h0, Keep.refl _ _⟩ hO ?_ ?_ ?_ ?_ ?_ ?_ ?_
  · rintro ex pre O' h2 h3 ⟨q1, q2, q3⟩ hk
    exact ⟨q1, stab _ _ _ _ q2 (hk.mono (fun b _ e => ⟨fun e2 => e.1 ((q1 b).2 e2), e.2⟩)), q3.trans hk (fun b _ e => .inr e.2)⟩
  · rintro ex pre O' h2 ⟨q1, q2, q3⟩ b hb
    obtain ⟨cs, t, lo, hi, e, _⟩ := rows _ _ _ q2 b ((q1 b).1 hb)
    rw [e]; intro c; injection c with c; cases c
  · rintro rb lb pre x O' h2 M Qb ⟨q1, q2, q3⟩ hpre hlt hlb hlb2 hlb3 hM hQ
    refine hM h2 _ (Keep.refl _ _) ?_
    intro h4 z4 k4 hrb
    have nlb : ¬ O lb := fun e => hlb ((q1 lb).2 e)
    have i4 := stab _ _ _ _ q2 (k4.mono (T := fun b => ¬ O b ∧ h.size ≤ b) (fun b _ e => by have e' : b = lb := e; subst e'; exact ⟨nlb, hlb2⟩))
    have k04 : Keep (fun b => O b ∨ h.size ≤ b) h h4 := q3.trans k4 (fun b _ e => .inr (by have e' : b = lb := e; omega))
    refine body pre x h4 (fun ex h5 => Qb ex h5) i4 k04 hpre ?_
    intro ex h5 i5 k5
    have z5 := k5.size
    refine hQ ex h5 ⟨O', ⟨q1, i5, k04.trans k5 (fun b _ e => e.imp id (fun e => by omega))⟩, ?_, ?_, ?_⟩
    · refine ⟨by omega, fun b hb hn' => ?_⟩
      rw [k5.same b (by omega) (fun e => by rcases e with e | e; exact hn' (.inl ((q1 b).2 e)); omega)]
      exact k4.same b hb (fun e => hn' (.inr e))
    · rw [k5.same lb (by omega) (fun e => by rcases e with e | e; exact nlb e; omega)]; exact hrb
    · intro b hb
      exact ⟨.inl hb, by have := hlt b hb; omega⟩
  · rintro O' h' ⟨q1, q2, q3⟩; exact hn h' q2 q3
  · rintro pre O' h' ⟨q1, q2, q3⟩; exact hr pre h' q2 q3
  · rintro i pre O' h' ⟨q1, q2, q3⟩; exact hx i pre h' q2 q3
  · rintro i pre O' h' ⟨q1, q2, q3⟩; exact hg i pre h' q2

/-- the same, where the rounds lay blocks of their own down and write to them later -/
theorem rng_grow {P : Program} {v : Value} {l : List Sc} {B : TupS l → (Ex → Heap → Prop) → Heap → Prop} {Qn Qr : Heap → Prop} {Qx : List (Nat × (Heap → Prop))} {h : Heap} {D : Nat → Prop} {xs : List (TupS l)}
    (hs : SeqC P v l h D xs) (hD : ∀ b, D b → b < h.size) (O0 : Nat → Prop) (hO : ∀ b, O0 b → ¬ D b ∧ b < h.size) (I : Ex → List (TupS l) → (Nat → Prop) → Heap → Prop) (h0 : I .nrm [] O0 h)
    (stab : ∀ ex pre O h2 h3, I ex pre O h2 → Keep (fun b => ¬ O b ∧ h.size ≤ b) h2 h3 → I ex pre O h3) (rows : ∀ ex pre O h2, I ex pre O h2 → ∀ b, O b → ∃ cs, Row h2 b cs)
    (body : ∀ (pre : List (TupS l)) (x : TupS l) (O : Nat → Prop) (h4 : Heap) (Q : Ex → Heap → Prop), I .nrm pre O h4 → Keep (fun b => O0 b ∨ h.size ≤ b) h h4 → pre ++ [x] <+: xs →
      (∀ ex O' h5, I ex (pre ++ [x]) O' h5 → Keep (fun b => O b ∨ h4.size ≤ b) h4 h5 → (∀ b, O' b → (O b ∨ h4.size ≤ b) ∧ b < h5.size) → Q ex h5) → B x Q h4)
    (hn : ∀ O h', I .nrm xs O h' → Keep (fun b => O0 b ∨ h.size ≤ b) h h' → Qn h') (hr : ∀ pre O h', I .ret pre O h' → Keep (fun b => O0 b ∨ h.size ≤ b) h h' → Qr h')
    (hx : ∀ i pre O h', I (.exit i) pre O h' → Keep (fun b => O0 b ∨ h.size ≤ b) h h' → ∃ p ∈ Qx, p.1 = i ∧ p.2 h') (hg : ∀ i pre O h', ¬ I (.goto i) pre O h') :
    rngX P v l (fun s M Q h13 => M h13 fun h15 => B s Q h15) Qn Qr Qx h := by
  refine rngX_intro hs hD (fun ex pre O' hh => (∀ b, O' b → O0 b ∨ h.size ≤ b) ∧ I ex pre O' hh ∧ Keep (fun b => O0 b ∨ h.size ≤ b) h hh) O0 ⟨fun b hb => .inl hb, h0, Keep.refl _ _⟩ hO ?_ ?_ ?_ ?_ ?_ ?_ ?_
  · rintro ex pre O' h2 h3 ⟨q1, q2, q3⟩ hk
    exact ⟨q1, stab _ _ _ _ _ q2 hk, q3.trans hk (fun b _ e => .inr e.2)⟩
  · rintro ex pre O' h2 ⟨q1, q2, q3⟩ b hb
    obtain ⟨cs, t, lo, hi, e, _⟩ := rows _ _ _ _ q2 b hb
    rw [e]; intro c; injection c with c; cases c
  · rintro rb lb pre x O' h2 M Qb ⟨q1, q2, q3⟩ hpre hlt hlb hlb2 hlb3 hM hQ
    refine hM h2 _ (Keep.refl _ _) ?_
    intro h4 z4 k4 hrb
    have i4 := stab _ _ _ _ _ q2 (k4.mono (T := fun b => ¬ O' b ∧ h.size ≤ b) (fun b _ e => by have e' : b = lb := e; subst e'; exact ⟨hlb, hlb2⟩))
    have k04 : Keep (fun b => O0 b ∨ h.size ≤ b) h h4 := q3.trans k4 (fun b _ e => .inr (by have e' : b = lb := e; omega))
    refine body pre x O' h4 (fun ex h5 => Qb ex h5) i4 k04 hpre ?_
    intro ex O2 h5 i5 k5 gr
    have z5 := k5.size
    refine hQ ex h5 ⟨O2, ⟨fun b hb => ?_, i5, k04.trans k5 (fun b _ e => ?_)⟩, ?_, ?_, ?_⟩
    · rcases (gr b hb).1 with e | e
      · exact q1 b e
      · exact .inr (by have := q3.size; omega)
    · rcases e with e | e
      · exact q1 b e
      · exact .inr (by have := q3.size; omega)
    · refine ⟨by omega, fun b hb hn' => ?_⟩
      rw [k5.same b (by omega) (fun e => by rcases e with e | e; exact hn' (.inl e); omega)]
      exact k4.same b hb (fun e => hn' (.inr e))
    · rw [k5.same lb (by omega) (fun e => by rcases e with e | e; exact hlb e; omega)]; exact hrb
    · intro b hb
      refine ⟨(gr b hb).1.imp id (fun e => by omega), (gr b hb).2⟩
  · rintro O' h' ⟨q1, q2, q3⟩; exact hn O' h' q2 q3
  · rintro pre O' h' ⟨q1, q2, q3⟩; exact hr pre O' h' q2 q3
  · rintro i pre O' h' ⟨q1, q2, q3⟩; exact hx i pre O' h' q2 q3
  · rintro i pre O' h' ⟨q1, q2, q3⟩; exact hg i pre O' h' q2
abbrev keysV (l : List Key) : List Value := l.map Value.string

theorem cisNaN_spec {h : Heap} {s : ByteArray} {R : Bool → Heap → Prop} (hk : R false h) : CallT Try.prog cmp_isNaN_string_no [.string s] h [.sc .bool] R := by
  apply cmp_isNaN_string_call
  unfold cmp_isNaN_string
  rw [seq_self]; exact hk
theorem sisNaN_spec {h : Heap} {s : ByteArray} {R : Bool → Heap → Prop} (hk : R false h) : CallT Try.prog slices_isNaN_string_no [.string s] h [.sc .bool] R := by
  apply slices_isNaN_string_call
  unfold slices_isNaN_string
  rw [seq_self]; exact hk
theorem less_spec {h : Heap} {s t : ByteArray} {R : Bool → Heap → Prop} (hk : R (decide (klt s t)) h) : CallT Try.prog cmp_Less_string_no [.string s, .string t] h [.sc .bool] R := by
  apply cmp_Less_string_call
  unfold cmp_Less_string
  refine withJ.inl (cisNaN_spec (cnd_f rfl ?_))
  rw [slt_dec]; exact hk

/-- where k stands among rising keys, and whether it is there -/
theorem bsearch_spec {h : Heap} {a : Option Addr} {l c : Nat} {ks : List Key} {k : Key} (hs : Rv h a l (keysV ks)) (ha : Asc ks) (hl : l ≤ 1000000000) {R : Int × Bool → Heap → Prop}
    (hk : R (((below k ks : Nat) : Int), decide (ks[below k ks]? = some k)) h) : CallT Try.prog slices_BinarySearch_string_no [.slice a l c, .string k] h [.sc (.int .i64), .sc .bool] R := by
  have hcall := slices_BinarySearch_string_call ⟨a, l, c⟩ k (R := R) (h := h)
  apply hcall
  unfold slices_BinarySearch_string
  have len : l = ks.length := by have := hs.1; rwa [List.length_map] at this
  have get : ∀ {n : Nat} {K : ByteArray → Prop}, n < l → (∀ x, ks[n]? = some x → K x) → idx a l (n : Int) fun y => ldS (y.add ((n : Int).toNat * 1)) h K := by
    intro n K hn hK
    have hn2 : n < ks.length := by omega
    refine Rv.at hs (by omega) (by omega) (v := .string ks[n]) (by rw [Int.toNat_natCast, List.getElem?_map, List.getElem?_eq_getElem hn2]; rfl) ?_
    intro x hx
    exact ⟨_, hx, hK _ (List.getElem?_eq_getElem hn2)⟩
  refine LoopT.intro (fun (t : Int × Int) h' => h' = h ∧ ∃ i j : Nat, t = ((i : Int), (j : Int)) ∧ i ≤ j ∧ j ≤ l ∧ (∀ (n : Nat) x, n < i → ks[n]? = some x → klt x k) ∧ (∀ (n : Nat) x, j ≤ n → ks[n]? = some x → ¬ klt x k)) (fun t _ => (t.2 - t.1).toNat)
    ⟨rfl, 0, l, rfl, by omega, Nat.le_refl _, fun n x hn => by omega, fun n x hn hx => by have := (List.getElem?_eq_some_iff.1 hx).1; omega⟩ ?_
  rintro _ h' ⟨e1, i, j, rfl, h1, h2, h3, h4⟩
  have e1' := e1.symm
  subst e1'
  refine cnd_dec (fun c1 => ?_) (fun c1 => ?_)
  · have hij : i < j := by simpa using c1
    show idx a l _ fun a4 => _
    rw [mid_is hij (by omega)]
    refine get (by omega) (fun x hx => ?_)
    refine less_spec ?_
    refine cnd_dec (fun c2 => ?_) (fun c2 => ?_)
    · rw [w64_id (by omega) (by omega)]
      refine ⟨⟨rfl, (i + j) / 2 + 1, j, by push_cast; rfl, by omega, h2, fun n y hn hy => ?_, h4⟩, ?_⟩
      · rcases Nat.lt_or_ge n ((i + j) / 2) with hlt | hge
        · have hasc : klt y x := asc_get ha hlt hy hx
          exact klt_trans hasc c2
        · have : n = (i + j) / 2 := by omega
          subst this
          rw [hx] at hy; injection hy with hy; subst hy; exact c2
      · show ((j : Int) - (((i + j) / 2 : Nat) + 1)).toNat < ((j : Int) - i).toNat
        omega
    · refine ⟨⟨rfl, i, (i + j) / 2, rfl, by omega, by omega, h3, fun n y hn hy => ?_⟩, ?_⟩
      · rcases Nat.lt_or_ge ((i + j) / 2) n with hlt | hge
        · have hasc : klt x y := asc_get ha hlt hx hy
          exact fun hyk => c2 (klt_trans hasc hyk)
        · have : n = (i + j) / 2 := by omega
          subst this
          rw [hx] at hy; injection hy with hy; subst hy; exact c2
      · show ((((i + j) / 2 : Nat) : Int) - i).toNat < ((j : Int) - i).toNat
        omega
  · have hij : i = j := by have : ¬ (i : Int) < (j : Int) := c1; omega
    subst hij
    have hb : below k ks = i := below_is (by omega) h3 (fun x hx => h4 i x (Nat.le_refl _) hx)
    rw [hb] at hk
    refine withJ.inl ?_
    refine cnd_dec (fun c2 => ?_) (fun c2 => ?_)
    · have hi : i < l := by have : (i : Int) < (l : Int) := c2; omega
      refine get hi (fun x hx => ?_)
      rw [hx] at hk
      rw [seq_dec]
      refine cnd_dec (fun c3 => ?_) (fun c3 => ?_)
      · subst c3; simpa using hk
      · refine get hi (fun y hy => ?_)
        refine sisNaN_spec (cnd_f rfl ?_)
        have : decide (some x = some k) = false := decide_eq_false (fun e => c3 (by injection e))
        rw [this] at hk; exact hk
    · have hi : ¬ i < l := fun hh => c2 (by show (i : Int) < (l : Int); omega)
      rw [List.getElem?_eq_none (by omega)] at hk
      simpa using hk
theorem search_spec {h : Heap} {n : Nat} {v : Value} {p : Nat → Bool} (hn : n ≤ 1000000000) (hf : ∀ i, i < n → ∀ K : Bool → Heap → Prop, K (p i) h → callY Try.prog v [.int .i64 (i : Int)] h K) {m : Nat} (hm : m ≤ n)
    (h1 : ∀ i, i < m → p i = false) (h2 : ∀ i, m ≤ i → i < n → p i = true) {R : Int → Heap → Prop} (hk : R (m : Int) h) : CallT Try.prog sort_Search_no [.int .i64 (n : Int), v] h [.sc (.int .i64)] R := by
  apply sort_Search_call
  unfold sort_Search
  refine LoopT.intro (fun (t : Int × Int) h' => h' = h ∧ ∃ i j : Nat, t = ((i : Int), (j : Int)) ∧ i ≤ m ∧ m ≤ j ∧ j ≤ n) (fun t _ => (t.2 - t.1).toNat) ⟨rfl, 0, n, rfl, by omega, hm, Nat.le_refl _⟩ ?_
  rintro _ h' ⟨e1, i, j, rfl, a1, a2, a3⟩
  have e1' := e1.symm
  subst e1'
  refine cnd_dec (fun c1 => ?_) (fun c1 => ?_)
  · have hij : i < j := by simpa using c1
    show callY Try.prog v [.int .i64 _] _ _
    rw [mid_is hij (by omega)]
    refine hf _ (by omega) _ ?_
    rcases Nat.lt_or_ge ((i + j) / 2) m with hlt | hge
    · rw [h1 _ hlt]
      refine cnd_t rfl ?_
      rw [w64_id (by omega) (by omega)]
      refine ⟨⟨rfl, (i + j) / 2 + 1, j, by push_cast; rfl, by omega, a2, a3⟩, ?_⟩
      show ((j : Int) - (((i + j) / 2 : Nat) + 1)).toNat < ((j : Int) - i).toNat
      omega
    · rw [h2 _ hge (by omega)]
      refine cnd_f rfl ?_
      refine ⟨⟨rfl, i, (i + j) / 2, rfl, a1, hge, by omega⟩, ?_⟩
      show ((((i + j) / 2 : Nat) : Int) - i).toNat < ((j : Int) - i).toNat
      omega
  · have hij : i = m := by have : ¬ (i : Int) < (j : Int) := c1; omega
    subst hij
    exact hk

/-- how many are not above k -/
def upto (k : Key) : List Key → Nat
  | [] => 0
  | a :: r => if klt k a then 0 else upto k r + 1
theorem upto_le (k : Key) : ∀ l : List Key, upto k l ≤ l.length
  | [] => Nat.le_refl _
  | a :: r => by
    unfold upto
    split
    · simp
    · have := upto_le k r; simp; omega
theorem upto_lt {k : Key} : ∀ {l : List Key} {i : Nat} {x : Key}, i < upto k l → l[i]? = some x → ¬ klt k x
  | a :: r, i, x, hi, hx => by
    unfold upto at hi
    split at hi
    · omega
    · rename_i h
      cases i with
      | zero => simp at hx; subst hx; exact h
      | succ i => exact upto_lt (l := r) (i := i) (by omega) (by simpa using hx)
theorem upto_ge {k : Key} : ∀ {l : List Key}, Asc l → ∀ {i : Nat} {x : Key}, upto k l ≤ i → l[i]? = some x → klt k x
  | a :: r, hs, i, x, hi, hx => by
    unfold upto at hi
    split at hi
    · rename_i h
      cases i with
      | zero => simp at hx; subst hx; exact h
      | succ i => exact klt_trans h (hs.1 x (List.mem_of_getElem? (by simpa using hx)))
    · cases i with
      | zero => omega
      | succ i => exact upto_ge hs.2 (i := i) (by omega) (by simpa using hx)

theorem at_spec {h : Heap} {x : Addr} {a : Option Addr} {l c : Nat} {ks : List Key} {k : Key} (hc : cellH h x = some (.slice a l c)) (hs : Rv h a l (keysV ks)) (ha : Asc ks) (hl : l ≤ 1000000000) {R : Int → Heap → Prop}
    (hk : ∀ h', Nw h h' → R ((upto k ks : Nat) : Int) h') : CallT Try.prog btree_inner_at_no [.pointer (some x), .string k] h [.sc (.int .i64)] R := by
  apply btree_inner_at_call
  unfold btree_inner_at
  refine newB_row ?_
  intro h1 s1 r1 k1
  refine newB_row ?_
  intro h2 s2 r2 k2
  have R1 := k2.row r1 (fun h => h)
  have K2 : Nw h h2 := k1.trans' k2
  refine ldP_row (o := 0) R1 rfl ?_
  have cell2 := K2.cell hc (fun h => h)
  refine ldL_at cell2 ?_
  have rv2 := hs.keep0 K2
  have len : l = ks.length := by have := hs.1; rwa [List.length_map] at this
  refine search_spec (p := fun i => match ks[i]? with | some y => decide (klt k y) | none => false) hl ?_ (m := upto k ks) (by rw [len]; exact upto_le k ks) ?_ ?_ (hk _ K2)
  · intro i hi K hK
    refine .inl ⟨btree_inner_at_1_no, #[], _, rfl, by kernel_rfl, by kernel_rfl, ?_⟩
    have hcall := btree_inner_at_1_call (i : Int) (some ⟨h.size, 0, none⟩) (some ⟨h1.size, 0, none⟩) (R := K) (h := h2)
    apply hcall
    unfold btree_inner_at_1
    refine ldP_row (o := 0) R1 rfl ?_
    refine ldL_at cell2 ?_
    have hi2 : i < ks.length := by omega
    refine Rv.at rv2 (by omega) (by omega) (v := .string ks[i]) (by rw [Int.toNat_natCast, List.getElem?_map, List.getElem?_eq_getElem hi2]; rfl) ?_
    intro y hy
    refine ⟨_, hy, ?_⟩
    refine ldS_row (o := 0) r2 rfl ?_
    rw [List.getElem?_eq_getElem hi2] at hK
    have e : (!(slt ks[i] k || seq ks[i] k)) = decide (klt k ks[i]) := by
      rw [slt_dec, seq_dec, Bool.eq_iff_iff]
      simp only [Bool.not_eq_true', Bool.or_eq_false_iff, decide_eq_false_iff_not, decide_eq_true_eq]
      constructor
      · rintro ⟨q1, q2⟩
        by_cases q3 : klt k ks[i]
        · exact q3
        · exact absurd (klt_tri q1 q3) q2
      · intro q
        exact ⟨klt_asymm q, fun e => by rw [e] at q; exact klt_irrefl _ q⟩
    rw [e]; exact hK
  · intro i hi
    cases hx : ks[i]? with
    | none => rfl
    | some y => exact decide_eq_false (upto_lt hi hx)
  · intro i hi hn
    rw [List.getElem?_eq_getElem (by omega)]
    exact decide_eq_true (upto_ge ha hi (List.getElem?_eq_getElem (by omega)))
set_option linter.unusedVariables false
set_option linter.unusedSimpArgs false
def insL {α : Type} (vs : List α) (i : Nat) (v : α) : List α := vs.take i ++ v :: vs.drop i
theorem insL_len {α : Type} {vs : List α} {i : Nat} {v : α} (hi : i ≤ vs.length) : (insL vs i v).length = vs.length + 1 := by unfold insL; simp; omega
theorem insL_get {α : Type} {vs : List α} {i j : Nat} {v : α} (hi : i ≤ vs.length) : (insL vs i v)[j]? = if j < i then vs[j]? else if j = i then some v else vs[j - 1]? := by
  unfold insL
  have tl : (vs.take i).length = i := by rw [List.length_take]; omega
  by_cases h1 : j < i
  · rw [if_pos h1, List.getElem?_append_left (by omega), List.getElem?_take, if_pos h1]
  · rw [if_neg h1, List.getElem?_append_right (by omega), tl]
    by_cases h2 : j = i
    · rw [if_pos h2, h2, Nat.sub_self]; rfl
    · rw [if_neg h2, show j - i = (j - i - 1) + 1 by omega, List.getElem?_cons_succ, List.getElem?_drop]
      congr 1; omega
theorem wrS {new : List Value} {a : Addr} {h : Heap} {K : Heap → Prop} (hk : stRow new a h K) : wrRow new (some a) h K := hk

theorem cloneS_spec {h : Heap} {s : Sl} {vs : List Value} (hs : Rv h s.a s.len vs) (hv : ∀ v ∈ vs, v.oneCell' = true) (hl : s.len ≤ 1000000000) {R : Sl → Heap → Prop} (hk : ∀ r h', Own h h' 1 r vs → r.len = s.len → Nw h h' → R r h') :
    CallT Try.prog slices_Clone_string_no [.slice s.a s.len s.cap] h [.sc .sl] R := by
  apply slices_Clone_string_call
  unfold slices_Clone_string
  have len := hs.1
  refine cnd_of (fun e => ?_) (fun e => ?_)
  · have hn : s.a = none := by cases hh : s.a with | none => rfl | some x => rw [hh] at e; cases e
    have hvs : vs = [] := by
      cases vs with
      | nil => rfl
      | cons v r => obtain ⟨x, e2, _⟩ := hs.2 0 v rfl; rw [hn] at e2; cases e2
    subst hvs
    exact hk ⟨none, 0, 0⟩ h (Own.nil _ _ _) (by simpa using len.symm) (Keep.refl _ _)
  · refine newB_row ?_
    intro h1 s1 r1 k1
    refine Rv.rd (hs.keep0 k1) ?_
    have sl0 : SlR h1 1 (some ⟨h.size, 0, none⟩) 0 0 [] := .inr ⟨h.size, 0, [], rfl, r1, Nat.le_refl _, by simp, rfl, rfl⟩
    refine SlR.app (new := vs) sl0 rfl (by omega) hv (by omega) ?_
    intro a' c' h' q1 q2 q3
    rw [List.nil_append] at q1
    have nw : Nw h h' := k1.trans q2 (fun x hx e => by rw [blk_some] at e; simp only at e; omega)
    refine hk ⟨a', 0 + s.len, c'⟩ h' ⟨q1, fun b hb => ?_⟩ (by simp) nw
    rcases q3 with ⟨e2, _⟩ | ⟨e2, _⟩
    · rw [e2, blk_some] at hb; simp only at hb; omega
    · rw [e2, blk_some] at hb; simp only at hb; omega

theorem cloneN_spec {h : Heap} {s : Sl} {vs : List Value} (hs : Rv h s.a s.len vs) (hv : ∀ v ∈ vs, v.oneCell' = true) (hl : s.len ≤ 1000000000) {R : Sl → Heap → Prop} (hk : ∀ r h', Own h h' 1 r vs → r.len = s.len → Nw h h' → R r h') :
    CallT Try.prog slices_Clone_btree_node_no [.slice s.a s.len s.cap] h [.sc .sl] R := by
  apply slices_Clone_btree_node_call
  unfold slices_Clone_btree_node
  have len := hs.1
  refine cnd_of (fun e => ?_) (fun e => ?_)
  · have hn : s.a = none := by cases hh : s.a with | none => rfl | some x => rw [hh] at e; cases e
    have hvs : vs = [] := by
      cases vs with
      | nil => rfl
      | cons v r => obtain ⟨x, e2, _⟩ := hs.2 0 v rfl; rw [hn] at e2; cases e2
    subst hvs
    exact hk ⟨none, 0, 0⟩ h (Own.nil _ _ _) (by simpa using len.symm) (Keep.refl _ _)
  · refine newB_row ?_
    intro h1 s1 r1 k1
    refine Rv.rd (hs.keep0 k1) ?_
    have sl0 : SlR h1 1 (some ⟨h.size, 0, none⟩) 0 0 [] := .inr ⟨h.size, 0, [], rfl, r1, Nat.le_refl _, by simp, rfl, rfl⟩
    refine SlR.app (new := vs) sl0 rfl (by omega) hv (by omega) ?_
    intro a' c' h' q1 q2 q3
    rw [List.nil_append] at q1
    have nw : Nw h h' := k1.trans q2 (fun x hx e => by rw [blk_some] at e; simp only at e; omega)
    refine hk ⟨a', 0 + s.len, c'⟩ h' ⟨q1, fun b hb => ?_⟩ (by simp) nw
    rcases q3 with ⟨e2, _⟩ | ⟨e2, _⟩
    · rw [e2, blk_some] at hb; simp only at hb; omega
    · rw [e2, blk_some] at hb; simp only at hb; omega

theorem insertS_spec {h0 h : Heap} {s : Sl} {vs : List Value} {v : Value} {i b2 : Nat} (hs : Own h0 h 1 s vs) {t2 : TypeId} (hc2 : h[b2]? = some (.cells #[v] t2 (0, 0))) (hne : ∀ b, blk s.a b → b ≠ b2) (hv : v.oneCell' = true) (hvs : ∀ v ∈ vs, v.oneCell' = true) (hi : i ≤ s.len) (hl : s.len ≤ 1000000000) {S : Nat → Prop} (hn : Keep S h0 h) {R : Sl → Heap → Prop}
    (hk : ∀ r h', Own h0 h' 1 r (insL vs i v) → r.len = s.len + 1 → Keep S h0 h' → Keep (blk s.a) h h' → (∀ b, blk r.a b → blk s.a b ∨ h.size ≤ b) → R r h') :
    CallT Try.prog slices_Insert_string_no [.slice s.a s.len s.cap, .int .i64 (i : Int), .slice (some ⟨b2, 0, none⟩) 1 1] h [.sc .sl] R := by
  have hcall := slices_Insert_string_call s (i : Int) ⟨some ⟨b2, 0, none⟩, 1, 1⟩ (R := R) (h := h)
  apply hcall
  unfold slices_Insert_string
  have hr2 : Row h b2 [v] := ⟨t2, 0, 0, hc2, fun o ho => by omega⟩
  have len := hs.len
  have hle := hs.le
  rw [Nat.mul_one] at len
  have rd2 : ∀ {h' : Heap} {K : List Value → Prop}, Row h' b2 [v] → K [v] → rdCells (some ⟨b2, 0, none⟩) (1 * 1) h' K := fun hr hK => ldRow_row (o := 0) hr (by simp) hK
  refine ⟨by omega, by omega, by omega, by omega, ?_⟩
  refine cnd_f rfl ?_
  refine cnd_of (fun e => ?_) (fun e => ?_)
  · have hil : i = s.len := by have := eq_of_beq e; omega
    refine rd2 hr2 ?_
    refine hs.app (new := [v]) hn rfl rfl (by intro u hu; simp only [List.mem_singleton] at hu; subst hu; exact hv) (by show (2 * (s.len + 1) + 1024) * 16 ≤ _; omega) ?_
    intro a' c' h' q1 q2 q3 q4
    refine hk ⟨a', s.len + 1, c'⟩ h' ?_ rfl q2 q3 q4
    have : insL vs i v = vs ++ [v] := by unfold insL; rw [List.take_of_length_le (by omega), List.drop_eq_nil_of_le (by omega)]
    rw [this]; exact q1
  · have hil : i < s.len := by
      have : ¬ (i : Int) = (s.len : Int) := fun e2 => by rw [beq_eq_false_iff_ne] at e; exact e e2
      omega
    obtain ⟨sa, sl, sc⟩ := s
    simp only at hi hl len hle hil
    rcases hs.sl with ⟨_, e2, _⟩ | ⟨b, o, cs, e1, row, q2, q3, q4, q5⟩
    · simp only at e2; omega
    simp only at e1 q2 q3 q4 q5
    subst e1
    have bne : b ≠ b2 := hne b (blk_some.2 rfl)
    have hsub : (cs.drop o).take sl = vs := by rw [← q5, Nat.mul_one]
    have hfr : h0.size ≤ b := hs.fresh b (blk_some.2 rfl)
    have hblt := row.lt
    have tl : (vs.take i).length = i := by rw [List.length_take]; omega
    have w1 : w64 ((sl : Int) + ((1 : Nat) : Int)) = ((sl + 1 : Nat) : Int) := by rw [w64_id (by omega) (by omega)]; push_cast; rfl
    have w2 : w64 (((sl + 1 : Nat) : Int) - (i : Int)) = ((sl + 1 - i : Nat) : Int) := by rw [w64_id (by omega) (by omega)]; omega
    have w3 : w64 ((i : Int) + ((1 : Nat) : Int)) = ((i + 1 : Nat) : Int) := by rw [w64_id (by omega) (by omega)]; push_cast; rfl
    simp only [w1, w2, w3]
    have src : ∀ {h' : Heap} {K : List Value → Prop}, Row h' b cs → K (vs.drop i) → rdCells (some ⟨b, o + i, none⟩) ((sl - i) * 1) h' K := by
      intro h' K hr hK
      refine ldRow_row hr (by omega) ?_
      have : (cs.drop (o + i)).take ((sl - i) * 1) = vs.drop i := by rw [← hsub, List.drop_take, List.drop_drop, Nat.mul_one]
      rw [this]; exact hK
    refine cnd_dec (fun c1 => ?_) (fun c1 => ?_)
    · -- new memory
      have hcap : sc < sl + 1 := by omega
      refine ⟨by omega, by omega, by omega, by omega, ?_⟩
      have e6 : (if (sc : Int) = 0 then (some ⟨b, o, none⟩ : Option Addr) else (some (⟨b, o, none⟩ : Addr)).map (·.add ((0 : Int).toNat * 1))) = some ⟨b, o, none⟩ := by
        split
        · rfl
        · show some ((⟨b, o, none⟩ : Addr).add (0 * 1)) = _; rw [add_mk]; rfl
      have z6 : ((i : Int) - 0).toNat = i := by omega
      have z7 : ((sc : Int) - 0).toNat = sc := by omega
      simp only [e6, z6, z7]
      refine ⟨by omega, by show ((sl + 1 - i : Nat) : Int) * ((16 : Nat) : Int) ≤ _; omega, ?_⟩
      simp only [Int.toNat_natCast]
      refine app_row (z := (.string (⟨#[]⟩ : ByteArray) : Value)) rfl row (by omega) (by omega) (by rw [zerosL_one, List.length_replicate]) (by intro u hu; rw [zerosL_one] at hu; rw [List.eq_of_mem_replicate hu]; rfl) (by omega) (fun hh => by omega) ?_
      intro _ c' h9 hc' s9 r9 k9
      have e7 : i + (sl + 1 - i) = sl + 1 := by omega
      rw [e7] at hc'
      have W : (cs.drop o).take i ++ zerosL [(.string (⟨#[]⟩ : ByteArray) : Value)] (sl + 1 - i) ++ List.replicate (c' - (i + (sl + 1 - i))) (.string (⟨#[]⟩ : ByteArray) : Value) = vs.take i ++ List.replicate (c' - i) (.string (⟨#[]⟩ : ByteArray) : Value) := by
        rw [zerosL_one, List.append_assoc, List.replicate_append_replicate, ← hsub, List.take_take]
        congr 2 <;> omega
      rw [W] at r9
      have lW : (vs.take i ++ List.replicate (c' - i) (.string (⟨#[]⟩ : ByteArray) : Value)).length = c' := by rw [List.length_append, tl, List.length_replicate]; omega
      simp only [e7]
      have nb2 : b2 < h.size := hr2.lt
      have r2 : Row h9 b2 [v] := k9.row hr2 (fun h => h)
      have rb : Row h9 b cs := k9.row row (fun h => h)
      refine ⟨by omega, by omega, by omega, by omega, ?_⟩
      rw [if_neg (by omega)]
      have m1 : Nat.min 1 ((((i + (sl + 1 - i) : Nat) : Int)) - (i : Int)).toNat = 1 := by rw [e7]; show min _ _ = _; omega
      have m2 : Nat.min ((sl : Int) - (i : Int)).toNat ((((i + (sl + 1 - i) : Nat) : Int)) - ((i + 1 : Nat) : Int)).toNat = sl - i := by rw [e7]; show min _ _ = _; omega
      push_cast at m1 m2
      push_cast
      rw [m1]
      refine rd2 r2 ?_
      have ad1 : ∀ k : Nat, ((⟨h.size, 0, none⟩ : Addr).add (((k : Nat) : Int).toNat * 1)) = ⟨h.size, k, none⟩ := fun k => by rw [add_mk, Int.toNat_natCast]; simp
      simp only [Option.map_some, ad1]
      refine wrS ?_
      refine stRow_row r9 (by rw [lW]; simp; omega) (by intro u hu; simp only [List.mem_singleton] at hu; subst hu; exact hv) ?_
      intro h11 s11 r11 k11
      refine ⟨by omega, by omega, by omega, by omega, ?_⟩
      rw [if_neg (by omega)]
      refine ⟨by omega, by omega, by omega, by omega, ?_⟩
      rw [if_neg (by omega)]
      simp only [Option.map_some]
      have ad2 : (⟨h.size, 0, none⟩ : Addr).add (((i : Int) + 1).toNat * 1) = ⟨h.size, i + 1, none⟩ := by rw [add_mk]; congr 1; omega
      have ad3 : (⟨b, o, none⟩ : Addr).add ((i : Int).toNat * 1) = ⟨b, o + i, none⟩ := by rw [add_mk]; congr 1; omega
      rw [ad2, ad3, m2]
      refine src (k11.row rb (fun e => by have e' : b = h.size := e; omega)) ?_
      refine wrS ?_
      have l1 := putL_length (cs := vs.take i ++ List.replicate (c' - i) (.string (⟨#[]⟩ : ByteArray) : Value)) (new := [v]) (o := i) (by rw [lW]; simp; omega)
      have ld : (vs.drop i).length = sl - i := by rw [List.length_drop]; omega
      refine stRow_row r11 (by rw [l1, lW, ld]; omega) (fun u hu => hvs u (List.mem_of_mem_drop hu)) ?_
      intro h15 s15 r15 k15
      have nw : Nw h h15 := (Nw.st (Nw.st k9 k11 (Nat.le_refl _)) k15 (Nat.le_refl _))
      have fin : ((putL (putL (vs.take i ++ List.replicate (c' - i) (.string (⟨#[]⟩ : ByteArray) : Value)) i [v]) (i + 1) (vs.drop i)).drop 0).take ((sl + 1) * 1) = insL vs i v := by
        rw [List.drop_zero, Nat.mul_one]
        apply List.ext_getElem?
        intro j
        rw [List.getElem?_take, getElem?_putL (by rw [l1, lW, ld]; omega), getElem?_putL (by rw [lW]; simp; omega), ld, insL_get (by omega)]
        by_cases hj : j < sl + 1
        · rw [if_pos hj]
          by_cases a1 : j < i
          · rw [if_pos (by omega), if_pos a1, if_pos a1, List.getElem?_append_left (by omega), List.getElem?_take, if_pos a1]
          · by_cases a2 : j = i
            · rw [if_pos (by omega), if_neg a1, if_pos (by simp; omega), if_neg a1, if_pos a2, a2, Nat.sub_self]; rfl
            · rw [if_neg (by omega), if_pos (by omega), if_neg a1, if_neg a2, List.getElem?_drop]
              congr 1; omega
        · rw [if_neg hj, if_neg (by omega), if_neg (by omega), List.getElem?_eq_none (by omega)]
      refine hk ⟨some ⟨h.size, 0, none⟩, sl + 1, c'⟩ h15 ⟨.inr ⟨h.size, 0, _, rfl, r15, by show sl + 1 ≤ c'; omega, ?_, ?_, fin⟩, fun x hx => ?_⟩ rfl (hn.trans nw (fun _ _ h => h.elim)) (nw.mono (fun _ _ h => h.elim)) (fun x hx => ?_)
      · rw [putL_length (by rw [l1, lW, ld]; omega), l1, lW]; show 0 + c' * 1 ≤ c'; omega
      · rw [insL_len (by omega)]; show vs.length + 1 = (sl + 1) * 1; omega
      · rw [blk_some] at hx; have := hn.size; simp only at hx; omega
      · rw [blk_some] at hx; simp only at hx; exact .inr (by omega)
    · -- in place
      have hcap : sl + 1 ≤ sc := by omega
      have ad : ∀ k : Nat, (⟨b, o, none⟩ : Addr).add (((k : Nat) : Int).toNat * 1) = ⟨b, o + k, none⟩ := fun k => by rw [add_mk, Int.toNat_natCast]; simp
      refine ⟨by omega, by omega, by omega, by omega, ?_⟩
      rw [if_neg (by omega)]
      have z6 : (((sl + 1 : Nat) : Int) - 0).toNat = sl + 1 := by omega
      have z7 : ((sc : Int) - 0).toNat = sc := by omega
      have a0 : (⟨b, o, none⟩ : Addr).add ((0 : Int).toNat * 1) = ⟨b, o, none⟩ := by rw [add_mk]; rfl
      simp only [Option.map_some, a0, z6, z7]
      have L1 : ∀ {K : Option Addr → Nat → Nat → Prop}, K (some ⟨b, o + (i + 1), none⟩) (sl - i) (sc - (i + 1)) → lsl 1 (some ⟨b, o, none⟩) sc ((i + 1 : Nat) : Int) ((sl + 1 : Nat) : Int) (sc : Int) K := by
        intro K hK
        refine ⟨by omega, by omega, by omega, by omega, ?_⟩
        rw [if_neg (by omega), Option.map_some, ad, show (((sl + 1 : Nat) : Int) - ((i + 1 : Nat) : Int)).toNat = sl - i by omega, show ((sc : Int) - ((i + 1 : Nat) : Int)).toNat = sc - (i + 1) by omega]
        exact hK
      have L2 : ∀ {K : Option Addr → Nat → Nat → Prop}, K (some ⟨b, o + i, none⟩) (sl + 1 - i) (sc - i) → lsl 1 (some ⟨b, o, none⟩) sc (i : Int) ((sl + 1 : Nat) : Int) (sc : Int) K := by
        intro K hK
        refine ⟨by omega, by omega, by omega, by omega, ?_⟩
        rw [if_neg (by omega), Option.map_some, ad, show (((sl + 1 : Nat) : Int) - (i : Int)).toNat = sl + 1 - i by omega, show ((sc : Int) - (i : Int)).toNat = sc - i by omega]
        exact hK
      refine L1 ?_
      have ovl : ∀ {K : Bool → Prop}, K false → ovlX (some ⟨b2, 0, none⟩) 1 (some ⟨b, o + (i + 1), none⟩) (sl - i) h K := by
        intro K hK
        obtain ⟨tb, lo, hi', hb, _⟩ := row
        refine ⟨.inr ⟨_, _, _, _, _, _, _, _, rfl, rfl, fun e => bne e.symm, hc2, ?_, ?_, hb, ?_⟩, hK⟩
        · unfold frozH; rw [hc2]; simp
        · unfold frozH; simp only [hc2]; simp
        · have : cs.toArray.size = cs.length := by simp
          omega
      refine ovl ?_
      refine cnd_t rfl ?_
      refine L1 (L2 ?_)
      have m1 : Nat.min (sl + 1 - i) (sl - i) = sl - i := by show min _ _ = _; omega
      have m2 : Nat.min 1 (sl + 1 - i) = 1 := by show min _ _ = _; omega
      rw [m1]
      refine src row ?_
      refine wrS ?_
      have ld : (vs.drop i).length = sl - i := by rw [List.length_drop]; omega
      refine stRow_row row (by rw [ld]; omega) (fun u hu => hvs u (List.mem_of_mem_drop hu)) ?_
      intro h22 s22 r22 k22
      refine L2 ?_
      rw [m2]
      refine rd2 (k22.row hr2 (fun e => bne e.symm)) ?_
      refine wrS ?_
      have l1 := putL_length (cs := cs) (new := vs.drop i) (o := o + (i + 1)) (by rw [ld]; omega)
      refine stRow_row r22 (by rw [l1]; simp; omega) (by intro u hu; simp only [List.mem_singleton] at hu; subst hu; exact hv) ?_
      intro h25 s25 r25 k25
      have kk : Keep (· = b) h h25 := k22.trans' k25
      have fin : ((putL (putL cs (o + (i + 1)) (vs.drop i)) (o + i) [v]).drop o).take ((sl + 1) * 1) = insL vs i v := by
        rw [Nat.mul_one]
        apply List.ext_getElem?
        intro j
        rw [List.getElem?_take, List.getElem?_drop, getElem?_putL (by rw [l1]; simp; omega), getElem?_putL (by rw [ld]; omega), ld, insL_get (by omega)]
        by_cases hj : j < sl + 1
        · rw [if_pos hj]
          by_cases a1 : j < i
          · rw [if_pos (by omega), if_pos (by omega), if_pos a1, ← hsub, List.getElem?_take, if_pos (by omega), List.getElem?_drop]
          · by_cases a2 : j = i
            · rw [if_neg (by omega), if_pos (by simp; omega), if_neg a1, if_pos a2, a2, Nat.sub_self]; rfl
            · rw [if_neg (by omega), if_neg (by simp; omega), if_neg (by omega), if_pos (by omega), if_neg a1, if_neg a2, List.getElem?_drop]
              congr 1; omega
        · rw [if_neg hj, if_neg (by omega), if_neg (by omega), List.getElem?_eq_none (by omega)]
      refine hk ⟨some ⟨b, o, none⟩, sl + 1, sc⟩ h25 ⟨.inr ⟨b, o, _, rfl, r25, hcap, ?_, ?_, fin⟩, fun x hx => ?_⟩ rfl (hn.trans kk (fun x hx e => by have e' : x = b := e; omega)) (kk.mono (fun x _ e => blk_some.2 (show b = x from e.symm))) (fun x hx => .inl hx)
      · rw [putL_length (by rw [l1]; simp; omega), l1]; show o + sc * 1 ≤ _; omega
      · rw [insL_len (by omega)]; show vs.length + 1 = (sl + 1) * 1; omega
      · rw [blk_some] at hx; simp only at hx; omega

theorem insertN_spec {h0 h : Heap} {s : Sl} {vs : List Value} {v : Value} {i b2 : Nat} (hs : Own h0 h 1 s vs) {t2 : TypeId} (hc2 : h[b2]? = some (.cells #[v] t2 (0, 0))) (hne : ∀ b, blk s.a b → b ≠ b2) (hv : v.oneCell' = true) (hvs : ∀ v ∈ vs, v.oneCell' = true) (hi : i ≤ s.len) (hl : s.len ≤ 1000000000) {S : Nat → Prop} (hn : Keep S h0 h) {R : Sl → Heap → Prop}
    (hk : ∀ r h', Own h0 h' 1 r (insL vs i v) → r.len = s.len + 1 → Keep S h0 h' → Keep (blk s.a) h h' → (∀ b, blk r.a b → blk s.a b ∨ h.size ≤ b) → R r h') :
    CallT Try.prog slices_Insert_btree_node_no [.slice s.a s.len s.cap, .int .i64 (i : Int), .slice (some ⟨b2, 0, none⟩) 1 1] h [.sc .sl] R := by
  have hcall := slices_Insert_btree_node_call s (i : Int) ⟨some ⟨b2, 0, none⟩, 1, 1⟩ (R := R) (h := h)
  apply hcall
  unfold slices_Insert_btree_node
  have hr2 : Row h b2 [v] := ⟨t2, 0, 0, hc2, fun o ho => by omega⟩
  have len := hs.len
  have hle := hs.le
  rw [Nat.mul_one] at len
  have rd2 : ∀ {h' : Heap} {K : List Value → Prop}, Row h' b2 [v] → K [v] → rdCells (some ⟨b2, 0, none⟩) (1 * 1) h' K := fun hr hK => ldRow_row (o := 0) hr (by simp) hK
  refine ⟨by omega, by omega, by omega, by omega, ?_⟩
  refine cnd_f rfl ?_
  refine cnd_of (fun e => ?_) (fun e => ?_)
  · have hil : i = s.len := by have := eq_of_beq e; omega
    refine rd2 hr2 ?_
    refine hs.app (new := [v]) hn rfl rfl (by intro u hu; simp only [List.mem_singleton] at hu; subst hu; exact hv) (by show (2 * (s.len + 1) + 1024) * 16 ≤ _; omega) ?_
    intro a' c' h' q1 q2 q3 q4
    refine hk ⟨a', s.len + 1, c'⟩ h' ?_ rfl q2 q3 q4
    have : insL vs i v = vs ++ [v] := by unfold insL; rw [List.take_of_length_le (by omega), List.drop_eq_nil_of_le (by omega)]
    rw [this]; exact q1
  · have hil : i < s.len := by
      have : ¬ (i : Int) = (s.len : Int) := fun e2 => by rw [beq_eq_false_iff_ne] at e; exact e e2
      omega
    obtain ⟨sa, sl, sc⟩ := s
    simp only at hi hl len hle hil
    rcases hs.sl with ⟨_, e2, _⟩ | ⟨b, o, cs, e1, row, q2, q3, q4, q5⟩
    · simp only at e2; omega
    simp only at e1 q2 q3 q4 q5
    subst e1
    have bne : b ≠ b2 := hne b (blk_some.2 rfl)
    have hsub : (cs.drop o).take sl = vs := by rw [← q5, Nat.mul_one]
    have hfr : h0.size ≤ b := hs.fresh b (blk_some.2 rfl)
    have hblt := row.lt
    have tl : (vs.take i).length = i := by rw [List.length_take]; omega
    have w1 : w64 ((sl : Int) + ((1 : Nat) : Int)) = ((sl + 1 : Nat) : Int) := by rw [w64_id (by omega) (by omega)]; push_cast; rfl
    have w2 : w64 (((sl + 1 : Nat) : Int) - (i : Int)) = ((sl + 1 - i : Nat) : Int) := by rw [w64_id (by omega) (by omega)]; omega
    have w3 : w64 ((i : Int) + ((1 : Nat) : Int)) = ((i + 1 : Nat) : Int) := by rw [w64_id (by omega) (by omega)]; push_cast; rfl
    simp only [w1, w2, w3]
    have src : ∀ {h' : Heap} {K : List Value → Prop}, Row h' b cs → K (vs.drop i) → rdCells (some ⟨b, o + i, none⟩) ((sl - i) * 1) h' K := by
      intro h' K hr hK
      refine ldRow_row hr (by omega) ?_
      have : (cs.drop (o + i)).take ((sl - i) * 1) = vs.drop i := by rw [← hsub, List.drop_take, List.drop_drop, Nat.mul_one]
      rw [this]; exact hK
    refine cnd_dec (fun c1 => ?_) (fun c1 => ?_)
    · -- new memory
      have hcap : sc < sl + 1 := by omega
      refine ⟨by omega, by omega, by omega, by omega, ?_⟩
      have e6 : (if (sc : Int) = 0 then (some ⟨b, o, none⟩ : Option Addr) else (some (⟨b, o, none⟩ : Addr)).map (·.add ((0 : Int).toNat * 1))) = some ⟨b, o, none⟩ := by
        split
        · rfl
        · show some ((⟨b, o, none⟩ : Addr).add (0 * 1)) = _; rw [add_mk]; rfl
      have z6 : ((i : Int) - 0).toNat = i := by omega
      have z7 : ((sc : Int) - 0).toNat = sc := by omega
      simp only [e6, z6, z7]
      refine ⟨by omega, by show ((sl + 1 - i : Nat) : Int) * ((16 : Nat) : Int) ≤ _; omega, ?_⟩
      simp only [Int.toNat_natCast]
      refine app_row (z := (.nilIface : Value)) rfl row (by omega) (by omega) (by rw [zerosL_one, List.length_replicate]) (by intro u hu; rw [zerosL_one] at hu; rw [List.eq_of_mem_replicate hu]; rfl) (by omega) (fun hh => by omega) ?_
      intro _ c' h9 hc' s9 r9 k9
      have e7 : i + (sl + 1 - i) = sl + 1 := by omega
      rw [e7] at hc'
      have W : (cs.drop o).take i ++ zerosL [(.nilIface : Value)] (sl + 1 - i) ++ List.replicate (c' - (i + (sl + 1 - i))) (.nilIface : Value) = vs.take i ++ List.replicate (c' - i) (.nilIface : Value) := by
        rw [zerosL_one, List.append_assoc, List.replicate_append_replicate, ← hsub, List.take_take]
        congr 2 <;> omega
      rw [W] at r9
      have lW : (vs.take i ++ List.replicate (c' - i) (.nilIface : Value)).length = c' := by rw [List.length_append, tl, List.length_replicate]; omega
      simp only [e7]
      have nb2 : b2 < h.size := hr2.lt
      have r2 : Row h9 b2 [v] := k9.row hr2 (fun h => h)
      have rb : Row h9 b cs := k9.row row (fun h => h)
      refine ⟨by omega, by omega, by omega, by omega, ?_⟩
      rw [if_neg (by omega)]
      have m1 : Nat.min 1 ((((i + (sl + 1 - i) : Nat) : Int)) - (i : Int)).toNat = 1 := by rw [e7]; show min _ _ = _; omega
      have m2 : Nat.min ((sl : Int) - (i : Int)).toNat ((((i + (sl + 1 - i) : Nat) : Int)) - ((i + 1 : Nat) : Int)).toNat = sl - i := by rw [e7]; show min _ _ = _; omega
      push_cast at m1 m2
      push_cast
      rw [m1]
      refine rd2 r2 ?_
      have ad1 : ∀ k : Nat, ((⟨h.size, 0, none⟩ : Addr).add (((k : Nat) : Int).toNat * 1)) = ⟨h.size, k, none⟩ := fun k => by rw [add_mk, Int.toNat_natCast]; simp
      simp only [Option.map_some, ad1]
      refine wrS ?_
      refine stRow_row r9 (by rw [lW]; simp; omega) (by intro u hu; simp only [List.mem_singleton] at hu; subst hu; exact hv) ?_
      intro h11 s11 r11 k11
      refine ⟨by omega, by omega, by omega, by omega, ?_⟩
      rw [if_neg (by omega)]
      refine ⟨by omega, by omega, by omega, by omega, ?_⟩
      rw [if_neg (by omega)]
      simp only [Option.map_some]
      have ad2 : (⟨h.size, 0, none⟩ : Addr).add (((i : Int) + 1).toNat * 1) = ⟨h.size, i + 1, none⟩ := by rw [add_mk]; congr 1; omega
      have ad3 : (⟨b, o, none⟩ : Addr).add ((i : Int).toNat * 1) = ⟨b, o + i, none⟩ := by rw [add_mk]; congr 1; omega
      rw [ad2, ad3, m2]
      refine src (k11.row rb (fun e => by have e' : b = h.size := e; omega)) ?_
      refine wrS ?_
      have l1 := putL_length (cs := vs.take i ++ List.replicate (c' - i) (.nilIface : Value)) (new := [v]) (o := i) (by rw [lW]; simp; omega)
      have ld : (vs.drop i).length = sl - i := by rw [List.length_drop]; omega
      refine stRow_row r11 (by rw [l1, lW, ld]; omega) (fun u hu => hvs u (List.mem_of_mem_drop hu)) ?_
      intro h15 s15 r15 k15
      have nw : Nw h h15 := (Nw.st (Nw.st k9 k11 (Nat.le_refl _)) k15 (Nat.le_refl _))
      have fin : ((putL (putL (vs.take i ++ List.replicate (c' - i) (.nilIface : Value)) i [v]) (i + 1) (vs.drop i)).drop 0).take ((sl + 1) * 1) = insL vs i v := by
        rw [List.drop_zero, Nat.mul_one]
        apply List.ext_getElem?
        intro j
        rw [List.getElem?_take, getElem?_putL (by rw [l1, lW, ld]; omega), getElem?_putL (by rw [lW]; simp; omega), ld, insL_get (by omega)]
        by_cases hj : j < sl + 1
        · rw [if_pos hj]
          by_cases a1 : j < i
          · rw [if_pos (by omega), if_pos a1, if_pos a1, List.getElem?_append_left (by omega), List.getElem?_take, if_pos a1]
          · by_cases a2 : j = i
            · rw [if_pos (by omega), if_neg a1, if_pos (by simp; omega), if_neg a1, if_pos a2, a2, Nat.sub_self]; rfl
            · rw [if_neg (by omega), if_pos (by omega), if_neg a1, if_neg a2, List.getElem?_drop]
              congr 1; omega
        · rw [if_neg hj, if_neg (by omega), if_neg (by omega), List.getElem?_eq_none (by omega)]
      refine hk ⟨some ⟨h.size, 0, none⟩, sl + 1, c'⟩ h15 ⟨.inr ⟨h.size, 0, _, rfl, r15, by show sl + 1 ≤ c'; omega, ?_, ?_, fin⟩, fun x hx => ?_⟩ rfl (hn.trans nw (fun _ _ h => h.elim)) (nw.mono (fun _ _ h => h.elim)) (fun x hx => ?_)
      · rw [putL_length (by rw [l1, lW, ld]; omega), l1, lW]; show 0 + c' * 1 ≤ c'; omega
      · rw [insL_len (by omega)]; show vs.length + 1 = (sl + 1) * 1; omega
      · rw [blk_some] at hx; have := hn.size; simp only at hx; omega
      · rw [blk_some] at hx; simp only at hx; exact .inr (by omega)
    · -- in place
      have hcap : sl + 1 ≤ sc := by omega
      have ad : ∀ k : Nat, (⟨b, o, none⟩ : Addr).add (((k : Nat) : Int).toNat * 1) = ⟨b, o + k, none⟩ := fun k => by rw [add_mk, Int.toNat_natCast]; simp
      refine ⟨by omega, by omega, by omega, by omega, ?_⟩
      rw [if_neg (by omega)]
      have z6 : (((sl + 1 : Nat) : Int) - 0).toNat = sl + 1 := by omega
      have z7 : ((sc : Int) - 0).toNat = sc := by omega
      have a0 : (⟨b, o, none⟩ : Addr).add ((0 : Int).toNat * 1) = ⟨b, o, none⟩ := by rw [add_mk]; rfl
      simp only [Option.map_some, a0, z6, z7]
      have L1 : ∀ {K : Option Addr → Nat → Nat → Prop}, K (some ⟨b, o + (i + 1), none⟩) (sl - i) (sc - (i + 1)) → lsl 1 (some ⟨b, o, none⟩) sc ((i + 1 : Nat) : Int) ((sl + 1 : Nat) : Int) (sc : Int) K := by
        intro K hK
        refine ⟨by omega, by omega, by omega, by omega, ?_⟩
        rw [if_neg (by omega), Option.map_some, ad, show (((sl + 1 : Nat) : Int) - ((i + 1 : Nat) : Int)).toNat = sl - i by omega, show ((sc : Int) - ((i + 1 : Nat) : Int)).toNat = sc - (i + 1) by omega]
        exact hK
      have L2 : ∀ {K : Option Addr → Nat → Nat → Prop}, K (some ⟨b, o + i, none⟩) (sl + 1 - i) (sc - i) → lsl 1 (some ⟨b, o, none⟩) sc (i : Int) ((sl + 1 : Nat) : Int) (sc : Int) K := by
        intro K hK
        refine ⟨by omega, by omega, by omega, by omega, ?_⟩
        rw [if_neg (by omega), Option.map_some, ad, show (((sl + 1 : Nat) : Int) - (i : Int)).toNat = sl + 1 - i by omega, show ((sc : Int) - (i : Int)).toNat = sc - i by omega]
        exact hK
      refine L1 ?_
      have ovl : ∀ {K : Bool → Prop}, K false → ovlX (some ⟨b2, 0, none⟩) 1 (some ⟨b, o + (i + 1), none⟩) (sl - i) h K := by
        intro K hK
        obtain ⟨tb, lo, hi', hb, _⟩ := row
        refine ⟨.inr ⟨_, _, _, _, _, _, _, _, rfl, rfl, fun e => bne e.symm, hc2, ?_, ?_, hb, ?_⟩, hK⟩
        · unfold frozH; rw [hc2]; simp
        · unfold frozH; simp only [hc2]; simp
        · have : cs.toArray.size = cs.length := by simp
          omega
      refine ovl ?_
      refine cnd_t rfl ?_
      refine L1 (L2 ?_)
      have m1 : Nat.min (sl + 1 - i) (sl - i) = sl - i := by show min _ _ = _; omega
      have m2 : Nat.min 1 (sl + 1 - i) = 1 := by show min _ _ = _; omega
      rw [m1]
      refine src row ?_
      refine wrS ?_
      have ld : (vs.drop i).length = sl - i := by rw [List.length_drop]; omega
      refine stRow_row row (by rw [ld]; omega) (fun u hu => hvs u (List.mem_of_mem_drop hu)) ?_
      intro h22 s22 r22 k22
      refine L2 ?_
      rw [m2]
      refine rd2 (k22.row hr2 (fun e => bne e.symm)) ?_
      refine wrS ?_
      have l1 := putL_length (cs := cs) (new := vs.drop i) (o := o + (i + 1)) (by rw [ld]; omega)
      refine stRow_row r22 (by rw [l1]; simp; omega) (by intro u hu; simp only [List.mem_singleton] at hu; subst hu; exact hv) ?_
      intro h25 s25 r25 k25
      have kk : Keep (· = b) h h25 := k22.trans' k25
      have fin : ((putL (putL cs (o + (i + 1)) (vs.drop i)) (o + i) [v]).drop o).take ((sl + 1) * 1) = insL vs i v := by
        rw [Nat.mul_one]
        apply List.ext_getElem?
        intro j
        rw [List.getElem?_take, List.getElem?_drop, getElem?_putL (by rw [l1]; simp; omega), getElem?_putL (by rw [ld]; omega), ld, insL_get (by omega)]
        by_cases hj : j < sl + 1
        · rw [if_pos hj]
          by_cases a1 : j < i
          · rw [if_pos (by omega), if_pos (by omega), if_pos a1, ← hsub, List.getElem?_take, if_pos (by omega), List.getElem?_drop]
          · by_cases a2 : j = i
            · rw [if_neg (by omega), if_pos (by simp; omega), if_neg a1, if_pos a2, a2, Nat.sub_self]; rfl
            · rw [if_neg (by omega), if_neg (by simp; omega), if_neg (by omega), if_pos (by omega), if_neg a1, if_neg a2, List.getElem?_drop]
              congr 1; omega
        · rw [if_neg hj, if_neg (by omega), if_neg (by omega), List.getElem?_eq_none (by omega)]
      refine hk ⟨some ⟨b, o, none⟩, sl + 1, sc⟩ h25 ⟨.inr ⟨b, o, _, rfl, r25, hcap, ?_, ?_, fin⟩, fun x hx => ?_⟩ rfl (hn.trans kk (fun x hx e => by have e' : x = b := e; omega)) (kk.mono (fun x _ e => blk_some.2 (show b = x from e.symm))) (fun x hx => .inl hx)
      · rw [putL_length (by rw [l1]; simp; omega), l1]; show o + sc * 1 ≤ _; omega
      · rw [insL_len (by omega)]; show vs.length + 1 = (sl + 1) * 1; omega
      · rw [blk_some] at hx; simp only at hx; omega
def delL {α : Type} (vs : List α) (i : Nat) : List α := vs.take i ++ vs.drop (i + 1)
theorem delL_len {α : Type} {vs : List α} {i : Nat} (hi : i < vs.length) : (delL vs i).length = vs.length - 1 := by unfold delL; simp; omega
theorem delL_get {α : Type} {vs : List α} {i j : Nat} (hi : i < vs.length) : (delL vs i)[j]? = if j < i then vs[j]? else vs[j + 1]? := by
  unfold delL
  have tl : (vs.take i).length = i := by rw [List.length_take]; omega
  by_cases h1 : j < i
  · rw [if_pos h1, List.getElem?_append_left (by omega), List.getElem?_take, if_pos h1]
  · rw [if_neg h1, List.getElem?_append_right (by omega), tl, List.getElem?_drop]
    congr 1; omega

theorem deleteS_spec {h0 h : Heap} {s : Sl} {vs : List Value} {i : Nat} (hs : Own h0 h 1 s vs) (hvs : ∀ v ∈ vs, v.oneCell' = true) (hi : i < s.len) (hl : s.len ≤ 1000000000) {S : Nat → Prop} (hn : Keep S h0 h) {R : Sl → Heap → Prop}
    (hk : ∀ r h', Own h0 h' 1 r (delL vs i) → r.len = s.len - 1 → Keep S h0 h' → Keep (blk s.a) h h' → (∀ b, blk r.a b → blk s.a b) → R r h') :
    CallT Try.prog slices_Delete_string_no [.slice s.a s.len s.cap, .int .i64 (i : Int), .int .i64 ((i + 1 : Nat) : Int)] h [.sc .sl] R := by
  have hcall := slices_Delete_string_call s (i : Int) ((i + 1 : Nat) : Int) (R := R) (h := h)
  apply hcall
  unfold slices_Delete_string
  have len := hs.len
  have hle := hs.le
  rw [Nat.mul_one] at len
  obtain ⟨sa, sl, sc⟩ := s
  simp only at hi hl len hle
  rcases hs.sl with ⟨_, e2, _⟩ | ⟨b, o, cs, e1, row, q2, q3, q4, q5⟩
  · simp only at e2; omega
  simp only at e1 q2 q3 q4 q5
  subst e1
  have hsub : (cs.drop o).take sl = vs := by rw [← q5, Nat.mul_one]
  have hfr : h0.size ≤ b := hs.fresh b (blk_some.2 rfl)
  dsimp only
  refine ⟨by omega, by omega, by omega, by omega, ?_⟩
  refine cnd_f (by rw [beq_eq_false_iff_ne]; omega) ?_
  refine ⟨by omega, by omega, by omega, by omega, ?_⟩
  rw [if_neg (by omega)]
  have a0 : (⟨b, o, none⟩ : Addr).add ((0 : Int).toNat * 1) = ⟨b, o, none⟩ := by rw [add_mk]; rfl
  have z6 : ((i : Int) - 0).toNat = i := by omega
  have z7 : ((sc : Int) - 0).toNat = sc := by omega
  simp only [Option.map_some, a0, z6, z7]
  refine ⟨by omega, by omega, by omega, by omega, ?_⟩
  have z8 : ((sl : Int) - ((i + 1 : Nat) : Int)).toNat = sl - (i + 1) := by omega
  rw [z8]
  have ld : (vs.drop (i + 1)).length = sl - (i + 1) := by rw [List.length_drop]; omega
  have rd : ∀ {K : List Value → Prop}, K (vs.drop (i + 1)) → rdCells (if (sc : Int) = ((i + 1 : Nat) : Int) then some ⟨b, o, none⟩ else some ((⟨b, o, none⟩ : Addr).add (((i + 1 : Nat) : Int).toNat * 1))) ((sl - (i + 1)) * 1) h K := by
    intro K hK
    split
    · have e0 : sl - (i + 1) = 0 := by omega
      have ev : vs.drop (i + 1) = [] := List.length_eq_zero_iff.1 (by omega)
      rw [e0]
      rw [ev] at hK
      exact ldRow_row (o := o) (n := 0 * 1) row (by omega) (by simpa using hK)
    · rw [add_mk, Int.toNat_natCast]
      refine ldRow_row (o := o + (i + 1) * 1) (n := (sl - (i + 1)) * 1) row (by omega) ?_
      have : (cs.drop (o + (i + 1) * 1)).take ((sl - (i + 1)) * 1) = vs.drop (i + 1) := by rw [← hsub, List.drop_take, List.drop_drop, Nat.mul_one, Nat.mul_one]
      rw [this]; exact hK
  refine rd ?_
  refine app_row (z := (.string (⟨#[]⟩ : ByteArray) : Value)) rfl row (by omega) (by omega) ld (fun u hu => hvs u (List.mem_of_mem_drop hu)) (by omega) ?_ (fun hh => by omega)
  intro _ h6 s6 r6 k6
  refine ⟨by omega, by omega, by omega, by omega, ?_⟩
  rw [if_neg (by omega)]
  have l1 := putL_length (cs := cs) (new := vs.drop (i + 1)) (o := o + i) (by rw [ld]; omega)
  have a8 : (⟨b, o, none⟩ : Addr).add (((i : Int) + ((sl - (i + 1) : Nat) : Int)).toNat * 1) = ⟨b, o + (sl - 1), none⟩ := by rw [add_mk]; congr 1; omega
  have z9 : ((sl : Int) - ((i : Int) + ((sl - (i + 1) : Nat) : Int))).toNat = 0 + 1 := by omega
  rw [Option.map_some, a8, z9]
  show stRow (zerosL [(.string (⟨#[]⟩ : ByteArray) : Value)] (0 + 1)) ⟨b, o + (sl - 1), none⟩ h6 _
  refine stRow_row r6 (by rw [l1, zerosL_one]; simp; omega) (by intro u hu; rw [zerosL_one] at hu; rw [List.eq_of_mem_replicate hu]; rfl) ?_
  intro h9 s9 r9 k9
  have kk : Keep (· = b) h h9 := k6.trans' k9
  have fin : ((putL (putL cs (o + i) (vs.drop (i + 1))) (o + (sl - 1)) (zerosL [(.string (⟨#[]⟩ : ByteArray) : Value)] (0 + 1))).drop o).take ((i + (sl - (i + 1))) * 1) = delL vs i := by
    rw [Nat.mul_one]
    apply List.ext_getElem?
    intro j
    rw [List.getElem?_take, List.getElem?_drop, getElem?_putL (by rw [l1, zerosL_one]; simp; omega), getElem?_putL (by rw [ld]; omega), ld, delL_get (by omega)]
    by_cases hj : j < i + (sl - (i + 1))
    · rw [if_pos hj, if_pos (by omega)]
      by_cases a1 : j < i
      · rw [if_pos (by omega), if_pos a1, ← hsub, List.getElem?_take, if_pos (by omega), List.getElem?_drop]
      · rw [if_neg (by omega), if_pos (by omega), if_neg a1, List.getElem?_drop]
        congr 1; omega
    · rw [if_neg hj, if_neg (by omega), List.getElem?_eq_none (by omega)]
  refine hk ⟨some ⟨b, o, none⟩, i + (sl - (i + 1)), sc⟩ h9 ⟨.inr ⟨b, o, _, rfl, r9, ?_, ?_, ?_, fin⟩, fun x hx => ?_⟩ ?_ (hn.trans kk (fun x hx e => by have e' : x = b := e; omega)) (kk.mono (fun x _ e => blk_some.2 (show b = x from e.symm))) (fun x hx => hx)
  · show i + (sl - (i + 1)) ≤ sc; omega
  · rw [putL_length (by rw [l1, zerosL_one]; simp; omega), l1]; show o + sc * 1 ≤ _; omega
  · rw [delL_len (by omega)]; show vs.length - 1 = (i + (sl - (i + 1))) * 1; omega
  · rw [blk_some] at hx; simp only at hx; omega
  · show i + (sl - (i + 1)) = sl - 1; omega
def repL {α : Type} (vs : List α) (i : Nat) (v : α) : List α := vs.take i ++ v :: vs.drop (i + 2)
theorem repL_len {α : Type} {vs : List α} {i : Nat} {v : α} (hi : i + 2 ≤ vs.length) : (repL vs i v).length = vs.length - 1 := by unfold repL; simp; omega
theorem repL_get {α : Type} {vs : List α} {i j : Nat} {v : α} (hi : i + 2 ≤ vs.length) : (repL vs i v)[j]? = if j < i then vs[j]? else if j = i then some v else vs[j + 1]? := by
  unfold repL
  have tl : (vs.take i).length = i := by rw [List.length_take]; omega
  by_cases h1 : j < i
  · rw [if_pos h1, List.getElem?_append_left (by omega), List.getElem?_take, if_pos h1]
  · rw [if_neg h1, List.getElem?_append_right (by omega), tl]
    by_cases h2 : j = i
    · rw [if_pos h2, h2, Nat.sub_self]; rfl
    · rw [if_neg h2, show j - i = (j - i - 1) + 1 by omega, List.getElem?_cons_succ, List.getElem?_drop]
      congr 1; omega

theorem replace_spec {h0 h : Heap} {s : Sl} {vs : List Value} {v : Value} {i b2 : Nat} (hs : Own h0 h 1 s vs) (hr2 : Row h b2 [v]) (hne : ∀ b, blk s.a b → b ≠ b2) (hv : v.oneCell' = true) (hvs : ∀ v ∈ vs, v.oneCell' = true) (hi : i + 2 ≤ s.len) (hl : s.len ≤ 1000000000) {S : Nat → Prop} (hn : Keep S h0 h) {R : Sl → Heap → Prop}
    (hk : ∀ r h', Own h0 h' 1 r (repL vs i v) → r.len = s.len - 1 → Keep S h0 h' → Keep (blk s.a) h h' → (∀ b, blk r.a b → blk s.a b) → R r h') :
    CallT Try.prog slices_Replace_btree_node_no [.slice s.a s.len s.cap, .int .i64 (i : Int), .int .i64 ((i + 2 : Nat) : Int), .slice (some ⟨b2, 0, none⟩) 1 1] h [.sc .sl] R := by
  have hcall := slices_Replace_btree_node_call s (i : Int) ((i + 2 : Nat) : Int) ⟨some ⟨b2, 0, none⟩, 1, 1⟩ (R := R) (h := h)
  apply hcall
  unfold slices_Replace_btree_node
  have len := hs.len
  have hle := hs.le
  rw [Nat.mul_one] at len
  obtain ⟨sa, sl, sc⟩ := s
  simp only at hi hl len hle
  rcases hs.sl with ⟨_, e2, _⟩ | ⟨b, o, cs, e1, row, q2, q3, q4, q5⟩
  · simp only at e2; omega
  simp only at e1 q2 q3 q4 q5
  subst e1
  have bne : b ≠ b2 := hne b (blk_some.2 rfl)
  have hsub : (cs.drop o).take sl = vs := by rw [← q5, Nat.mul_one]
  have hfr : h0.size ≤ b := hs.fresh b (blk_some.2 rfl)
  have rd2 : ∀ {h' : Heap} {K : List Value → Prop}, Row h' b2 [v] → K [v] → rdCells (some ⟨b2, 0, none⟩) (1 * 1) h' K := fun hr hK => ldRow_row (o := 0) hr (by simp) hK
  have ad : ∀ k : Nat, (⟨b, o, none⟩ : Addr).add (((k : Nat) : Int).toNat * 1) = ⟨b, o + k, none⟩ := fun k => by rw [add_mk, Int.toNat_natCast]; simp
  have L : ∀ {lo hi cap : Nat} {K : Option Addr → Nat → Nat → Prop}, lo ≤ hi → hi ≤ cap → lo ≠ cap → K (some ⟨b, o + lo, none⟩) (hi - lo) (cap - lo) → lsl 1 (some ⟨b, o, none⟩) cap (lo : Int) (hi : Int) (cap : Int) K := by
    intro lo hi cap K g1 g2 g3 hK
    refine ⟨by omega, by omega, by omega, by omega, ?_⟩
    rw [if_neg (by omega), Option.map_some, ad, show ((hi : Int) - (lo : Int)).toNat = hi - lo by omega, show ((cap : Int) - (lo : Int)).toNat = cap - lo by omega]
    exact hK
  have clr : ∀ {h' : Heap} {k : Nat} {cs' : List Value} {K : Heap → Prop}, Row h' b cs' → o + k < cs'.length → (∀ h'', h''.size = h'.size → Row h'' b (putL cs' (o + k) [(.nilIface : Value)]) → Keep (· = b) h' h'' → K h'') → clrX [(.nilIface : Value)] (some ⟨b, o + k, none⟩) (0 + 1) h' K := by
    intro h' k cs' K hr hlt hK
    show stRow (zerosL [(.nilIface : Value)] (0 + 1)) ⟨b, o + k, none⟩ h' K
    exact stRow_row hr (by rw [zerosL_one]; simp; omega) (by intro u hu; rw [zerosL_one] at hu; rw [List.eq_of_mem_replicate hu]; rfl) hK
  dsimp only
  refine ⟨by omega, by omega, by omega, by omega, ?_⟩
  refine cnd_f (by rw [beq_eq_false_iff_ne]; omega) ?_
  have done : ∀ (r25 : List Value) (h25 : Heap), Row h25 b r25 → r25.length = cs.length → Keep (· = b) h h25 → (r25.drop o).take ((sl - 1) * 1) = repL vs i v → R ⟨some ⟨b, o, none⟩, sl - 1, sc⟩ h25 := by
    intro r25 h25 hr hlr kk fin
    refine hk ⟨some ⟨b, o, none⟩, sl - 1, sc⟩ h25 ⟨.inr ⟨b, o, _, rfl, hr, by show sl - 1 ≤ sc; omega, ?_, ?_, fin⟩, fun x hx => ?_⟩ rfl (hn.trans kk (fun x hx e => by have e' : x = b := e; omega)) (kk.mono (fun x _ e => blk_some.2 (show b = x from e.symm))) (fun x hx => hx)
    · rw [hlr]; show o + sc * 1 ≤ _; omega
    · rw [repL_len (by omega)]; show vs.length - 1 = (sl - 1) * 1; omega
    · rw [blk_some] at hx; simp only at hx; omega
  have ld : (vs.drop (i + 2)).length = sl - (i + 2) := by rw [List.length_drop]; omega
  have l1 := putL_length (cs := cs) (new := [v]) (o := o + i) (by simp; omega)
  refine cnd_of (fun e => ?_) (fun e => ?_)
  · have hil : i + 2 = sl := by have := eq_of_beq e; omega
    refine L (lo := 0) (by omega) (by omega) (by omega) ?_
    refine rd2 hr2 ?_
    have z0 : i - 0 = i := by omega
    rw [z0]
    refine app_row (z := (.nilIface : Value)) rfl row (by omega) (by omega) rfl (by intro u hu; simp only [List.mem_singleton] at hu; subst hu; exact hv) (by omega) ?_ (fun hh => by omega)
    intro _ h7 s7 r7 k7
    simp only [Nat.add_zero] at r7
    refine withJ.inl ?_
    refine cnd_t (decide_eq_true (by omega)) ?_
    have e1 : ((i : Int) + ((1 : Nat) : Int)) = ((i + 1 : Nat) : Int) := by push_cast; rfl
    simp only [e1]
    refine L (by omega) (by omega) (by omega) ?_
    rw [show sl - (i + 1) = 0 + 1 by omega]
    refine clr r7 (by rw [l1]; omega) ?_
    intro h13 s13 r13 k13
    have l2 := putL_length (cs := putL cs (o + i) [v]) (new := [(.nilIface : Value)]) (o := o + (i + 1)) (by rw [l1]; simp; omega)
    have z : (⟨some ⟨b, o + 0, none⟩, i + 1, sc - 0⟩ : Sl) = ⟨some ⟨b, o, none⟩, sl - 1, sc⟩ := by congr 1; omega
    rw [z]
    refine done _ _ r13 (by rw [l2, l1]) (k7.trans' k13) ?_
    rw [Nat.mul_one]
    apply List.ext_getElem?
    intro j
    rw [List.getElem?_take, List.getElem?_drop, getElem?_putL (by rw [l1]; simp; omega), getElem?_putL (by simp; omega), repL_get (by omega)]
    by_cases hj : j < sl - 1
    · rw [if_pos hj, if_pos (by omega)]
      by_cases a1 : j < i
      · rw [if_pos (by omega), if_pos a1, ← hsub, List.getElem?_take, if_pos (by omega), List.getElem?_drop]
      · rw [if_neg (by omega), if_pos (by simp; omega), if_neg a1, if_pos (by omega), show o + j - (o + i) = 0 by omega]; rfl
    · rw [if_neg hj, if_neg (by omega), if_neg (by omega), List.getElem?_eq_none (by omega)]
  · have hil : i + 2 < sl := by
      have : ¬ ((i + 2 : Nat) : Int) = (sl : Int) := fun e2 => by rw [beq_eq_false_iff_ne] at e; exact e e2
      omega
    refine L (lo := 0) (by omega) (by omega) (by omega) ?_
    refine L (by omega) (by omega) (by omega) ?_
    have w1 : w64 (w64 (((i - 0 : Nat) : Int) + ((1 : Nat) : Int)) + ((sl - (i + 2) : Nat) : Int)) = ((sl - 1 : Nat) : Int) := by
      rw [w64_id (x := ((i - 0 : Nat) : Int) + ((1 : Nat) : Int)) (by omega) (by omega), w64_id (by omega) (by omega)]; omega
    have w2 : w64 ((i : Int) + ((1 : Nat) : Int)) = ((i + 1 : Nat) : Int) := by rw [w64_id (by omega) (by omega)]; push_cast; rfl
    simp only [w1, w2]
    refine cnd_f (decide_eq_false (by omega)) ?_
    refine L (lo := 0) (by omega) (by omega) (by omega) ?_
    refine cnd_t (decide_eq_true (by omega)) ?_
    simp only [Nat.add_zero, Nat.sub_zero]
    refine L (by omega) (by omega) (by omega) ?_
    rw [show Nat.min 1 (sl - 1 - i) = 1 by show min _ _ = _; omega]
    refine rd2 hr2 ?_
    refine wrS ?_
    refine stRow_row row (by simp; omega) (by intro u hu; simp only [List.mem_singleton] at hu; subst hu; exact hv) ?_
    intro h29 s29 r29 k29
    refine L (by omega) (by omega) (by omega) ?_
    refine L (by omega) (by omega) (by omega) ?_
    rw [show Nat.min (sl - (i + 2)) (sl - 1 - (i + 1)) = sl - (i + 2) by show min _ _ = _; omega]
    refine ldRow_row (o := o + (i + 2)) (n := (sl - (i + 2)) * 1) r29 (by rw [l1]; omega) ?_
    have ev : ((putL cs (o + i) [v]).drop (o + (i + 2))).take ((sl - (i + 2)) * 1) = vs.drop (i + 2) := by
      rw [Nat.mul_one]
      apply List.ext_getElem?
      intro j
      rw [List.getElem?_take, List.getElem?_drop, getElem?_putL (by simp; omega), ← hsub, List.getElem?_drop, List.getElem?_take, List.getElem?_drop]
      by_cases hj : j < sl - (i + 2)
      · rw [if_pos hj, if_neg (by omega), if_neg (by simp; omega), if_pos (by omega)]; congr 1; omega
      · rw [if_neg hj, if_neg (by omega)]
    rw [ev]
    refine wrS ?_
    refine stRow_row r29 (by rw [l1, ld]; omega) (fun u hu => hvs u (List.mem_of_mem_drop hu)) ?_
    intro h33 s33 r33 k33
    have l2 := putL_length (cs := putL cs (o + i) [v]) (new := vs.drop (i + 2)) (o := o + (i + 1)) (by rw [l1, ld]; omega)
    refine L (by omega) (by omega) (by omega) ?_
    rw [show sl - (sl - 1) = 0 + 1 by omega]
    refine clr r33 (by rw [l2, l1]; omega) ?_
    intro h36 s36 r36 k36
    have l3 := putL_length (cs := putL (putL cs (o + i) [v]) (o + (i + 1)) (vs.drop (i + 2))) (new := [(.nilIface : Value)]) (o := o + (sl - 1)) (by rw [l2, l1]; simp; omega)
    refine done _ _ r36 (by rw [l3, l2, l1]) ((k29.trans' k33).trans' k36) ?_
    rw [Nat.mul_one]
    apply List.ext_getElem?
    intro j
    rw [List.getElem?_take, List.getElem?_drop, getElem?_putL (by rw [l2, l1]; simp; omega), getElem?_putL (by rw [l1, ld]; omega), getElem?_putL (by simp; omega), ld, repL_get (by omega)]
    by_cases hj : j < sl - 1
    · rw [if_pos hj, if_pos (by omega)]
      by_cases a1 : j < i
      · rw [if_pos (by omega), if_pos (by omega), if_pos a1, ← hsub, List.getElem?_take, if_pos (by omega), List.getElem?_drop]
      · rw [if_neg a1]
        by_cases a2 : j = i
        · rw [if_pos (by omega), if_neg (by omega), if_pos (by simp; omega), if_pos a2, show o + j - (o + i) = 0 by omega]; rfl
        · rw [if_neg (by omega), if_pos (by omega), if_neg a2, List.getElem?_drop]
          congr 1; omega
    · rw [if_neg hj, if_neg (by omega), if_neg (by omega), List.getElem?_eq_none (by omega)]
def sumL (xs : List (Sl × List Value)) : Nat := (xs.map fun p => p.1.len).sum
theorem sumL_snoc (xs : List (Sl × List Value)) (p : Sl × List Value) : sumL (xs ++ [p]) = sumL xs + p.1.len := by unfold sumL; simp
theorem sumL_le {xs : List (Sl × List Value)} (h : ∀ p ∈ xs, p.1.len ≤ 1000000) : sumL xs ≤ 1000000 * xs.length := by
  induction xs with
  | nil => simp [sumL]
  | cons p r ih =>
    have h1 := h p (by simp)
    have h2 := ih (fun q hq => h q (by simp [hq]))
    unfold sumL at *
    simp only [List.map_cons, List.sum_cons, List.length_cons]
    omega
def flatL (xs : List (Sl × List Value)) : List Value := (xs.map (·.2)).flatten
theorem flatL_snoc (xs : List (Sl × List Value)) (p : Sl × List Value) : flatL (xs ++ [p]) = flatL xs ++ p.2 := by unfold flatL; simp
theorem flatL_len {xs : List (Sl × List Value)} (h : ∀ p ∈ xs, p.2.length = p.1.len) : (flatL xs).length = sumL xs := by
  induction xs with
  | nil => rfl
  | cons p r ih =>
    have h1 := h p (by simp)
    have h2 := ih (fun q hq => h q (by simp [hq]))
    unfold flatL sumL at *
    simp only [List.map_cons, List.flatten_cons, List.length_append, List.sum_cons]
    omega

theorem growS_spec {h : Heap} {n : Nat} (hn : n ≤ 100000000) {R : Sl → Heap → Prop} (hk : ∀ r h', Own h h' 1 r [] → r.len = 0 → Nw h h' → R r h') :
    CallT Try.prog slices_Grow_string_no [.slice none 0 0, .int .i64 (n : Int)] h [.sc .sl] R := by
  have hcall := slices_Grow_string_call ⟨none, 0, 0⟩ (n : Int) (R := R) (h := h)
  apply hcall
  unfold slices_Grow_string
  refine withJ.inl ?_
  refine cnd_f (decide_eq_false (by omega)) ?_
  refine withJ.inl ?_
  have w1 : w64 ((n : Int) - w64 (((0 : Nat) : Int) - ((0 : Nat) : Int))) = (n : Int) := by
    rw [w64_id (x := ((0 : Nat) : Int) - ((0 : Nat) : Int)) (by omega) (by omega), w64_id (by omega) (by omega)]; omega
  simp only [w1]
  refine cnd_dec (fun c1 => ?_) (fun c1 => ?_)
  · refine ⟨by omega, by omega, by omega, by omega, ?_⟩
    have e0 : ∀ (p : Prop) [Decidable p] (f : Addr → Addr), (if p then (none : Option Addr) else Option.map f none) = none := fun p _ f => by split <;> rfl
    rw [e0]
    show appZ [(.string (⟨#[]⟩ : ByteArray) : Value)] _ 1 16 none 0 0 (n : Int) h _
    refine ⟨by omega, by show (n : Int) * ((16 : Nat) : Int) ≤ _; omega, ?_⟩
    simp only [Int.toNat_natCast]
    refine SlR.app (new := zerosL [(.string (⟨#[]⟩ : ByteArray) : Value)] n) (SlR.nil _ _) rfl (by rw [zerosL_one]; simp) (by intro u hu; rw [zerosL_one] at hu; rw [List.eq_of_mem_replicate hu]; rfl) (by show (2 * (0 + n) + 1024) * 16 ≤ _; omega) ?_
    intro a' c' h' q1 q2 q3
    have nw : Nw h h' := q2.mono (fun x _ e => by obtain ⟨y, e2, _⟩ := e; cases e2)
    rcases q1 with ⟨_, e2, _⟩ | ⟨b, o, cs, e1, row, p1, p2, p3, p4⟩
    · omega
    subst e1
    refine ⟨by omega, by omega, by omega, by omega, ?_⟩
    have hc : ¬ (c' : Int) = 0 := by omega
    rw [if_neg hc, Option.map_some, add_mk]
    have hb : h.size ≤ b := by
      rcases q3 with ⟨e2, _⟩ | ⟨e2, _⟩
      · cases e2
      · injection e2 with e2; injection e2 with e2; omega
    refine hk ⟨some ⟨b, o + (0 : Int).toNat * 1, none⟩, _, _⟩ h' ⟨.inr ⟨b, o, cs, rfl, row, by show 0 ≤ _; omega, ?_, rfl, by simp⟩, fun x hx => ?_⟩ rfl nw
    · show o + ((c' : Int) - 0).toNat * 1 ≤ _; omega
    · rw [blk_some] at hx; simp only at hx; omega
  · exact hk ⟨none, 0, 0⟩ h (Own.nil _ _ _) rfl (Keep.refl _ _)

theorem concatS_spec {h : Heap} {a : Option Addr} {n c : Nat} {xs : List (Sl × List Value)} (hs : Rv h a n (xs.map fun p => Value.slice p.1.a p.1.len p.1.cap)) (hx : ∀ p ∈ xs, Rv h p.1.a p.1.len p.2 ∧ p.1.len ≤ 1000000 ∧ ∀ v ∈ p.2, v.oneCell' = true) (hn : n ≤ 10) {R : Sl → Heap → Prop}
    (hk : ∀ r h', Own h h' 1 r (flatL xs) → r.len = sumL xs → Nw h h' → R r h') : CallT Try.prog slices_Concat_string_no [.slice a n c] h [.sc .sl] R := by
  have hcall := slices_Concat_string_call ⟨a, n, c⟩ (R := R) (h := h)
  apply hcall
  unfold slices_Concat_string
  have hl : n = xs.length := by have := hs.1; rwa [List.length_map] at this
  have sle : ∀ i, sumL (xs.take i) ≤ 10000000 := fun i => by
    have h1 := sumL_le (xs := xs.take i) (fun p hp => (hx p (List.mem_of_mem_take hp)).2.1)
    have h2 : (xs.take i).length ≤ 10 := by rw [List.length_take]; omega
    omega
  have get : ∀ {h' : Heap} {i : Nat} {K : Option Addr → Nat → Nat → Prop}, Nw h h' → (hi : i < xs.length) → K xs[i].1.a xs[i].1.len xs[i].1.cap → idx a n (i : Int) fun y => ldL (y.add ((i : Int).toNat * 1)) h' K := by
    intro h' i K nw hi hK
    refine Rv.at (hs.keep0 nw) (by omega) (by omega) (v := .slice xs[i].1.a xs[i].1.len xs[i].1.cap) (by rw [Int.toNat_natCast, List.getElem?_map, List.getElem?_eq_getElem hi]; rfl) ?_
    intro y hy
    exact ⟨_, _, _, hy, hK⟩
  have tk : ∀ i (hi : i < xs.length), xs.take (i + 1) = xs.take i ++ [xs[i]] := fun i hi => List.take_succ_eq_append_getElem hi
  refine LoopT.intro (fun (t : Int × Int) h' => h' = h ∧ ∃ i : Nat, t = (((sumL (xs.take i) : Nat) : Int), (i : Int)) ∧ i ≤ n) (fun t _ => ((n : Int) - t.2).toNat) ⟨rfl, 0, rfl, by omega⟩ ?_
  rintro _ h' ⟨e1, i, rfl, hi⟩
  have e1' := e1.symm
  subst e1'
  refine cnd_dec (fun c1 => ?_) (fun c1 => ?_)
  · have hin : i < xs.length := by have : (i : Int) < (n : Int) := c1; omega
    refine withJ.inl ?_
    refine get (Keep.refl _ _) hin ?_
    have h1 := sle i
    have h2 := sle (i + 1)
    rw [tk i hin, sumL_snoc] at h2
    have w : w64 (((sumL (xs.take i) : Nat) : Int) + ((xs[i].1.len : Nat) : Int)) = ((sumL (xs.take (i + 1)) : Nat) : Int) := by
      rw [w64_id (by omega) (by omega), tk i hin, sumL_snoc]; push_cast; rfl
    have w2 : w64 ((i : Int) + 1) = ((i + 1 : Nat) : Int) := by rw [w64_id (by omega) (by omega)]; push_cast; rfl
    simp only [w, w2]
    refine cnd_f (decide_eq_false (by omega)) ?_
    refine ⟨⟨by first | rfl | trivial, i + 1, rfl, by omega⟩, ?_⟩
    show ((n : Int) - ((i + 1 : Nat) : Int)).toNat < ((n : Int) - (i : Int)).toNat
    omega
  · have hin : i = n := by have : ¬ (i : Int) < (n : Int) := c1; omega
    subst hin
    have h1 := sle i
    refine growS_spec (by omega) ?_
    intro r9 h10 o9 l9 n9
    have htake : xs.take i = xs := List.take_of_length_le (by omega)
    refine LoopT.intro (fun (t : Sl × Int) hh => ∃ j : Nat, t.2 = (j : Int) ∧ j ≤ i ∧ Own h hh 1 t.1 (flatL (xs.take j)) ∧ t.1.len = sumL (xs.take j) ∧ Nw h hh) (fun t _ => ((i : Int) - t.2).toNat) ⟨0, rfl, by omega, o9, l9, n9⟩ ?_
    rintro ⟨r, t2⟩ h13 ⟨j, e2, hj, ow, rl, nw⟩
    simp only at e2
    subst e2
    refine cnd_dec (fun c2 => ?_) (fun c2 => ?_)
    · have hjn : j < xs.length := by have : (j : Int) < (i : Int) := c2; omega
      refine get nw hjn ?_
      obtain ⟨g1, g2, g3⟩ := hx xs[j] (List.getElem_mem hjn)
      refine Rv.rd (g1.keep0 nw) ?_
      have h3 := sle j
      have gl := g1.1
      replace rl : r.len = sumL (xs.take j) := rl
      refine ow.app nw rfl (by omega) g3 (by show (2 * (r.len + _) + 1024) * 16 ≤ _; omega) ?_
      intro a' c' h18 q1 q2 q3 q4
      refine ⟨⟨j + 1, ?_, by omega, ?_, ?_, q2⟩, ?_⟩
      · show w64 ((j : Int) + 1) = ((j + 1 : Nat) : Int); rw [w64_id (by omega) (by omega)]; push_cast; rfl
      · rw [tk j hjn, flatL_snoc]; exact q1
      · show r.len + _ = _; rw [tk j hjn, sumL_snoc, rl]
      · show ((i : Int) - w64 ((j : Int) + 1)).toNat < ((i : Int) - (j : Int)).toNat
        rw [w64_id (by omega) (by omega)]; omega
    · have hjn : j = i := by have : ¬ (j : Int) < (i : Int) := c2; omega
      subst hjn
      rw [htake] at ow rl
      exact hk r h13 ow rl nw

theorem growN_spec {h : Heap} {n : Nat} (hn : n ≤ 100000000) {R : Sl → Heap → Prop} (hk : ∀ r h', Own h h' 1 r [] → r.len = 0 → Nw h h' → R r h') :
    CallT Try.prog slices_Grow_btree_node_no [.slice none 0 0, .int .i64 (n : Int)] h [.sc .sl] R := by
  have hcall := slices_Grow_btree_node_call ⟨none, 0, 0⟩ (n : Int) (R := R) (h := h)
  apply hcall
  unfold slices_Grow_btree_node
  refine withJ.inl ?_
  refine cnd_f (decide_eq_false (by omega)) ?_
  refine withJ.inl ?_
  have w1 : w64 ((n : Int) - w64 (((0 : Nat) : Int) - ((0 : Nat) : Int))) = (n : Int) := by
    rw [w64_id (x := ((0 : Nat) : Int) - ((0 : Nat) : Int)) (by omega) (by omega), w64_id (by omega) (by omega)]; omega
  simp only [w1]
  refine cnd_dec (fun c1 => ?_) (fun c1 => ?_)
  · refine ⟨by omega, by omega, by omega, by omega, ?_⟩
    have e0 : ∀ (p : Prop) [Decidable p] (f : Addr → Addr), (if p then (none : Option Addr) else Option.map f none) = none := fun p _ f => by split <;> rfl
    rw [e0]
    show appZ [(.nilIface : Value)] _ 1 16 none 0 0 (n : Int) h _
    refine ⟨by omega, by show (n : Int) * ((16 : Nat) : Int) ≤ _; omega, ?_⟩
    simp only [Int.toNat_natCast]
    refine SlR.app (new := zerosL [(.nilIface : Value)] n) (SlR.nil _ _) rfl (by rw [zerosL_one]; simp) (by intro u hu; rw [zerosL_one] at hu; rw [List.eq_of_mem_replicate hu]; rfl) (by show (2 * (0 + n) + 1024) * 16 ≤ _; omega) ?_
    intro a' c' h' q1 q2 q3
    have nw : Nw h h' := q2.mono (fun x _ e => by obtain ⟨y, e2, _⟩ := e; cases e2)
    rcases q1 with ⟨_, e2, _⟩ | ⟨b, o, cs, e1, row, p1, p2, p3, p4⟩
    · omega
    subst e1
    refine ⟨by omega, by omega, by omega, by omega, ?_⟩
    have hc : ¬ (c' : Int) = 0 := by omega
    rw [if_neg hc, Option.map_some, add_mk]
    have hb : h.size ≤ b := by
      rcases q3 with ⟨e2, _⟩ | ⟨e2, _⟩
      · cases e2
      · injection e2 with e2; injection e2 with e2; omega
    refine hk ⟨some ⟨b, o + (0 : Int).toNat * 1, none⟩, _, _⟩ h' ⟨.inr ⟨b, o, cs, rfl, row, by show 0 ≤ _; omega, ?_, rfl, by simp⟩, fun x hx => ?_⟩ rfl nw
    · show o + ((c' : Int) - 0).toNat * 1 ≤ _; omega
    · rw [blk_some] at hx; simp only at hx; omega
  · exact hk ⟨none, 0, 0⟩ h (Own.nil _ _ _) rfl (Keep.refl _ _)

theorem concatN_spec {h : Heap} {a : Option Addr} {n c : Nat} {xs : List (Sl × List Value)} (hs : Rv h a n (xs.map fun p => Value.slice p.1.a p.1.len p.1.cap)) (hx : ∀ p ∈ xs, Rv h p.1.a p.1.len p.2 ∧ p.1.len ≤ 1000000 ∧ ∀ v ∈ p.2, v.oneCell' = true) (hn : n ≤ 10) {R : Sl → Heap → Prop}
    (hk : ∀ r h', Own h h' 1 r (flatL xs) → r.len = sumL xs → Nw h h' → R r h') : CallT Try.prog slices_Concat_btree_node_no [.slice a n c] h [.sc .sl] R := by
  have hcall := slices_Concat_btree_node_call ⟨a, n, c⟩ (R := R) (h := h)
  apply hcall
  unfold slices_Concat_btree_node
  have hl : n = xs.length := by have := hs.1; rwa [List.length_map] at this
  have sle : ∀ i, sumL (xs.take i) ≤ 10000000 := fun i => by
    have h1 := sumL_le (xs := xs.take i) (fun p hp => (hx p (List.mem_of_mem_take hp)).2.1)
    have h2 : (xs.take i).length ≤ 10 := by rw [List.length_take]; omega
    omega
  have get : ∀ {h' : Heap} {i : Nat} {K : Option Addr → Nat → Nat → Prop}, Nw h h' → (hi : i < xs.length) → K xs[i].1.a xs[i].1.len xs[i].1.cap → idx a n (i : Int) fun y => ldL (y.add ((i : Int).toNat * 1)) h' K := by
    intro h' i K nw hi hK
    refine Rv.at (hs.keep0 nw) (by omega) (by omega) (v := .slice xs[i].1.a xs[i].1.len xs[i].1.cap) (by rw [Int.toNat_natCast, List.getElem?_map, List.getElem?_eq_getElem hi]; rfl) ?_
    intro y hy
    exact ⟨_, _, _, hy, hK⟩
  have tk : ∀ i (hi : i < xs.length), xs.take (i + 1) = xs.take i ++ [xs[i]] := fun i hi => List.take_succ_eq_append_getElem hi
  refine LoopT.intro (fun (t : Int × Int) h' => h' = h ∧ ∃ i : Nat, t = (((sumL (xs.take i) : Nat) : Int), (i : Int)) ∧ i ≤ n) (fun t _ => ((n : Int) - t.2).toNat) ⟨rfl, 0, rfl, by omega⟩ ?_
  rintro _ h' ⟨e1, i, rfl, hi⟩
  have e1' := e1.symm
  subst e1'
  refine cnd_dec (fun c1 => ?_) (fun c1 => ?_)
  · have hin : i < xs.length := by have : (i : Int) < (n : Int) := c1; omega
    refine withJ.inl ?_
    refine get (Keep.refl _ _) hin ?_
    have h1 := sle i
    have h2 := sle (i + 1)
    rw [tk i hin, sumL_snoc] at h2
    have w : w64 (((sumL (xs.take i) : Nat) : Int) + ((xs[i].1.len : Nat) : Int)) = ((sumL (xs.take (i + 1)) : Nat) : Int) := by
      rw [w64_id (by omega) (by omega), tk i hin, sumL_snoc]; push_cast; rfl
    have w2 : w64 ((i : Int) + 1) = ((i + 1 : Nat) : Int) := by rw [w64_id (by omega) (by omega)]; push_cast; rfl
    simp only [w, w2]
    refine cnd_f (decide_eq_false (by omega)) ?_
    refine ⟨⟨by first | rfl | trivial, i + 1, rfl, by omega⟩, ?_⟩
    show ((n : Int) - ((i + 1 : Nat) : Int)).toNat < ((n : Int) - (i : Int)).toNat
    omega
  · have hin : i = n := by have : ¬ (i : Int) < (n : Int) := c1; omega
    subst hin
    have h1 := sle i
    refine growN_spec (by omega) ?_
    intro r9 h10 o9 l9 n9
    have htake : xs.take i = xs := List.take_of_length_le (by omega)
    refine LoopT.intro (fun (t : Sl × Int) hh => ∃ j : Nat, t.2 = (j : Int) ∧ j ≤ i ∧ Own h hh 1 t.1 (flatL (xs.take j)) ∧ t.1.len = sumL (xs.take j) ∧ Nw h hh) (fun t _ => ((i : Int) - t.2).toNat) ⟨0, rfl, by omega, o9, l9, n9⟩ ?_
    rintro ⟨r, t2⟩ h13 ⟨j, e2, hj, ow, rl, nw⟩
    simp only at e2
    subst e2
    refine cnd_dec (fun c2 => ?_) (fun c2 => ?_)
    · have hjn : j < xs.length := by have : (j : Int) < (i : Int) := c2; omega
      refine get nw hjn ?_
      obtain ⟨g1, g2, g3⟩ := hx xs[j] (List.getElem_mem hjn)
      refine Rv.rd (g1.keep0 nw) ?_
      have h3 := sle j
      have gl := g1.1
      replace rl : r.len = sumL (xs.take j) := rl
      refine ow.app nw rfl (by omega) g3 (by show (2 * (r.len + _) + 1024) * 16 ≤ _; omega) ?_
      intro a' c' h18 q1 q2 q3 q4
      refine ⟨⟨j + 1, ?_, by omega, ?_, ?_, q2⟩, ?_⟩
      · show w64 ((j : Int) + 1) = ((j + 1 : Nat) : Int); rw [w64_id (by omega) (by omega)]; push_cast; rfl
      · rw [tk j hjn, flatL_snoc]; exact q1
      · show r.len + _ = _; rw [tk j hjn, sumL_snoc, rl]
      · show ((i : Int) - w64 ((j : Int) + 1)).toNat < ((i : Int) - (j : Int)).toNat
        rw [w64_id (by omega) (by omega)]; omega
    · have hjn : j = i := by have : ¬ (j : Int) < (i : Int) := c2; omega
      subst hjn
      rw [htake] at ow rl
      exact hk r h13 ow rl nw
end Go.Proofs.Ytkgocfaajfaidaa
