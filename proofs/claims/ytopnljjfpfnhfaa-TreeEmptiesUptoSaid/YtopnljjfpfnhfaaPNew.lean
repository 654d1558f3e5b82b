/- New memory: what there was stays; slices that lie in new blocks, and what is laid behind them. -/
import Derived.Test.YtopnljjfpfnhfaaXBytes
namespace Go.Proofs.Ytopnljjfpfnhfaa
open Go D
set_option linter.unusedVariables false
set_option linter.unusedSimpArgs false

/-- what there was stays -/
abbrev Nw (h h' : Heap) : Prop := Keep (fun _ => False) h h'
theorem Nw.st {h0 h h' : Heap} {b : Nat} (hn : Nw h0 h) (hk : Keep (· = b) h h') (hb : h0.size ≤ b) : Nw h0 h' := hn.trans hk (fun x hx e => by have e' : x = b := e; omega)
theorem Nw.ap {h0 h h' : Heap} {S : Nat → Prop} (hn : Nw h0 h) (hk : Keep S h h') (hb : ∀ b, S b → h0.size ≤ b) : Nw h0 h' := hn.trans hk (fun x hx e => by have := hb x e; omega)
theorem Keep.toNw {S : Nat → Prop} {h h' : Heap} (hk : Keep S h h') (hs : ∀ b, S b → h.size ≤ b) : Nw h h' := hk.mono (fun x hx e => by have := hs x e; omega)

/-- a slice of elements of n cells in blocks that are new since h0 -/
structure Own (h0 h : Heap) (n : Nat) (s : Sl) (vs : List Value) : Prop where
  sl : SlR h n s.a s.len s.cap vs
  fresh : ∀ b, blk s.a b → h0.size ≤ b

section
variable {h0 h h' : Heap} {n : Nat} {s : Sl} {vs : List Value}
theorem Own.nil (h0 h : Heap) (n : Nat) : Own h0 h n ⟨none, 0, 0⟩ [] := ⟨SlR.nil _ _, fun b hb => by obtain ⟨x, e, _⟩ := hb; cases e⟩
theorem Own.keep {S : Nat → Prop} (ho : Own h0 h n s vs) (hk : Keep S h h') (hn : ∀ b, blk s.a b → ¬ S b) : Own h0 h' n s vs := ⟨ho.sl.keep hk hn, ho.fresh⟩
theorem Own.nw (ho : Own h0 h n s vs) (hk : Nw h h') : Own h0 h' n s vs := ho.keep hk (fun _ _ h => h)
theorem Own.lt (ho : Own h0 h n s vs) {b : Nat} (hb : blk s.a b) : b < h.size := ho.sl.blk_lt hb
theorem Own.len (ho : Own h0 h n s vs) : vs.length = s.len * n := ho.sl.len
theorem Own.le (ho : Own h0 h n s vs) : s.len ≤ s.cap := ho.sl.le

/-- cells laid behind it -/
theorem Own.app {S : Nat → Prop} {zs new : List Value} {e : TypeId} {bytes m : Nat} {K : Option Addr → Nat → Heap → Prop} (ho : Own h0 h n s vs) (hn : Keep S h0 h) (hz : zs.length = n) (hm : new.length = m * n) (hv : ∀ v ∈ new, v.oneCell' = true)
    (hb : (2 * (s.len + m) + 1024) * bytes ≤ 281474976710656)
    (hk : ∀ a' c' h', Own h0 h' n ⟨a', s.len + m, c'⟩ (vs ++ new) → Keep S h0 h' → Keep (blk s.a) h h' → (∀ b, blk a' b → blk s.a b ∨ h.size ≤ b) → K a' c' h') : app zs e n bytes s.a s.len s.cap new m h K := by
  refine SlR.app ho.sl hz hm hv hb ?_
  intro a' c' h2 q1 q2 q3
  have hz0 := hn.size
  have w : ∀ b, blk a' b → blk s.a b ∨ h.size ≤ b := fun b hb' => by
    rcases q3 with ⟨rfl, _⟩ | ⟨rfl, _⟩
    · exact .inl hb'
    · rw [blk_some] at hb'
      exact .inr (by simp only at hb'; omega)
  refine hk a' c' h2 ⟨q1, fun b hb' => ?_⟩ (hn.trans q2 (fun x hx e => by have := ho.fresh x e; omega)) q2 w
  rcases w b hb' with hh | hh
  · exact ho.fresh b hh
  · omega

/-- one element, out of a block of its own, laid behind it -/
theorem Own.push {S : Nat → Prop} {zs cells : List Value} {e t : TypeId} {bytes N : Nat} {K : Option Addr → Nat → Heap → Prop} (ho : Own h0 h n s vs) (hn : Keep S h0 h) (hz : zs.length = n) (hm : cells.length = n) (hN : N = n) (hv : ∀ v ∈ cells, v.oneCell' = true)
    (hb : (2 * (s.len + 1) + 1024) * bytes ≤ 281474976710656)
    (hk : ∀ a' c' h', Own h0 h' n ⟨a', s.len + 1, c'⟩ (vs ++ cells) → Keep S h0 h' → Keep (blk s.a) h h' → (∀ b, blk a' b → blk s.a b ∨ h.size ≤ b) → K a' c' h') :
    newB cells t h fun a9 h10 => ldRow N a9 h10 fun cs14 => D.app zs e n bytes s.a s.len s.cap cs14 1 h10 K := by
  refine newB_row ?_
  intro h2 s2 r2 k2
  refine ldRow_row (o := 0) r2 (by omega) ?_
  rw [List.drop_zero, List.take_of_length_le (by omega)]
  refine (ho.nw k2).app (hn.trans k2 (fun _ _ h => h.elim)) hz (by omega) hv hb ?_
  intro a' c' h3 q1 q2 q3 q4
  refine hk a' c' h3 q1 q2 ?_ (fun b hb' => ?_)
  · refine ⟨by have := q3.size; omega, fun b hb' hn' => ?_⟩
    rw [q3.same b (by omega) hn', k2.same b hb' (fun h => h)]
  · rcases q4 b hb' with hh | hh
    · exact .inl hh
    · exact .inr (by omega)

/-- its capacity cut off behind its length -/
theorem Own.cut {K : Option Addr → Nat → Nat → Prop} (ho : Own h0 h n s vs) (hk : ∀ a', Own h0 h n ⟨a', s.len, s.len⟩ vs → (∀ b, blk a' b → blk s.a b) → K a' s.len s.len) : lsl n s.a s.cap 0 (s.len : Int) (s.len : Int) K := by
  have hle := ho.le
  refine ⟨by omega, by omega, by omega, by omega, ?_⟩
  have e1 : ((s.len : Int) - 0).toNat = s.len := by omega
  rw [e1]
  have hb : ∀ b, blk (if (s.len : Int) = 0 then s.a else s.a.map (·.add ((0 : Int).toNat * n))) b → blk s.a b := by
    intro b hb'
    split at hb'
    · exact hb'
    · obtain ⟨y, e1, e2⟩ := hb'
      cases hs : s.a with
      | none => rw [hs] at e1; cases e1
      | some x =>
        rw [hs] at e1
        injection e1 with e1
        subst e1 e2
        exact ⟨x, rfl, (add_block _ _).symm⟩
  refine hk _ ⟨?_, fun b hb' => ho.fresh b (hb b hb')⟩ hb
  have hsl := ho.sl
  rcases hsl with ⟨h1, h2, h3, h4⟩ | ⟨b, o, cs, h1, h2, h3, h4, h5, h6⟩
  · refine .inl ⟨?_, h2, h2, h4⟩
    show (if (s.len : Int) = 0 then s.a else s.a.map (·.add ((0 : Int).toNat * n))) = none
    rw [h1]
    split <;> rfl
  · refine .inr ⟨b, o, cs, ?_, h2, Nat.le_refl _, ?_, h5, h6⟩
    · show (if (s.len : Int) = 0 then s.a else s.a.map (·.add ((0 : Int).toNat * n))) = some ⟨b, o, none⟩
      rw [h1]
      split
      · rfl
      · show some ((⟨b, o, none⟩ : Addr).add ((0 : Int).toNat * n)) = _
        rw [add_mk]
        simp
    · have hln : s.len * n ≤ s.cap * n := Nat.mul_le_mul_right _ h3
      show o + s.len * n ≤ cs.length
      omega

theorem Own.rv (ho : Own h0 h 1 s vs) : Rv h s.a s.len vs := ho.sl.rv
theorem Own.up {h1 : Heap} (ho : Own h1 h n s vs) (hz : h0.size ≤ h1.size) : Own h0 h n s vs := ⟨ho.sl, fun b hb => by have := ho.fresh b hb; omega⟩
end
end Go.Proofs.Ytopnljjfpfnhfaa
