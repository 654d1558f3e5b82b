/- slices.Replace: two elements by one. -/
import Derived.Test.YtopnljjfpfnhfaaPDel
namespace Go.Proofs.Ytopnljjfpfnhfaa
open Go D
set_option linter.unusedVariables false
set_option linter.unusedSimpArgs false

def repL {α : Type} (vs : List α) (i : Nat) (v : α) : List α := vs.take i ++ v :: vs.drop (i + 2)
theorem repL_len {α : Type} {vs : List α} {i : Nat} {v : α} (hi : i + 2 ≤ vs.length) : (repL vs i v).length = vs.length - 1 := by unfold repL; simp; omega
theorem repL_get {α : Type} {vs : List α} {i j : Nat} {v : α} (hi : i + 2 ≤ vs.length) : (repL vs i v)[j]? = if j < i then vs[j]? else if j = i then some v else vs[j + 1]? := by
  unfold repL
  have tl : (vs.take i).length = i := by rw [List.length_take]; omega
  by_cases h1 : j < i
  · rw [if_pos h1, List.getElem?_append_left (by omega), List.getElem?_take, if_pos h1]
  · rw [if_neg h1, List.getElem?_append_right (by omega), tl]
    by_cases h2 : j = i
    · rw [if_pos h2, h2, Nat.sub_self]; rfl
    · rw [if_neg h2, show j - i = (j - i - 1) + 1 by omega, List.getElem?_cons_succ, List.getElem?_drop]
      congr 1; omega

theorem replace_spec {h0 h : Heap} {s : Sl} {vs : List Value} {v : Value} {i b2 : Nat} (hs : Own h0 h 1 s vs) (hr2 : Row h b2 [v]) (hne : ∀ b, blk s.a b → b ≠ b2) (hv : v.oneCell' = true) (hvs : ∀ v ∈ vs, v.oneCell' = true) (hi : i + 2 ≤ s.len) (hl : s.len ≤ 1000000000) {S : Nat → Prop} (hn : Keep S h0 h) {R : Sl → Heap → Prop}
    (hk : ∀ r h', Own h0 h' 1 r (repL vs i v) → r.len = s.len - 1 → Keep S h0 h' → Keep (blk s.a) h h' → (∀ b, blk r.a b → blk s.a b) → R r h') :
    CallT Try.prog slices_Replace_btree_node_no [.slice s.a s.len s.cap, .int .i64 (i : Int), .int .i64 ((i + 2 : Nat) : Int), .slice (some ⟨b2, 0, none⟩) 1 1] h [.sc .sl] R := by
  have hcall := slices_Replace_btree_node_call s (i : Int) ((i + 2 : Nat) : Int) ⟨some ⟨b2, 0, none⟩, 1, 1⟩ (R := R) (h := h)
  apply hcall
  unfold slices_Replace_btree_node
  have len := hs.len
  have hle := hs.le
  rw [Nat.mul_one] at len
  obtain ⟨sa, sl, sc⟩ := s
  simp only at hi hl len hle
  rcases hs.sl with ⟨_, e2, _⟩ | ⟨b, o, cs, e1, row, q2, q3, q4, q5⟩
  · simp only at e2; omega
  simp only at e1 q2 q3 q4 q5
  subst e1
  have bne : b ≠ b2 := hne b (blk_some.2 rfl)
  have hsub : (cs.drop o).take sl = vs := by rw [← q5, Nat.mul_one]
  have hfr : h0.size ≤ b := hs.fresh b (blk_some.2 rfl)
  have rd2 : ∀ {h' : Heap} {K : List Value → Prop}, Row h' b2 [v] → K [v] → rdCells (some ⟨b2, 0, none⟩) (1 * 1) h' K := fun hr hK => ldRow_row (o := 0) hr (by simp) hK
  have ad : ∀ k : Nat, (⟨b, o, none⟩ : Addr).add (((k : Nat) : Int).toNat * 1) = ⟨b, o + k, none⟩ := fun k => by rw [add_mk, Int.toNat_natCast]; simp
  have L : ∀ {lo hi cap : Nat} {K : Option Addr → Nat → Nat → Prop}, lo ≤ hi → hi ≤ cap → lo ≠ cap → K (some ⟨b, o + lo, none⟩) (hi - lo) (cap - lo) → lsl 1 (some ⟨b, o, none⟩) cap (lo : Int) (hi : Int) (cap : Int) K := by
    intro lo hi cap K g1 g2 g3 hK
    refine ⟨by omega, by omega, by omega, by omega, ?_⟩
    rw [if_neg (by omega), Option.map_some, ad, show ((hi : Int) - (lo : Int)).toNat = hi - lo by omega, show ((cap : Int) - (lo : Int)).toNat = cap - lo by omega]
    exact hK
  have clr : ∀ {h' : Heap} {k : Nat} {cs' : List Value} {K : Heap → Prop}, Row h' b cs' → o + k < cs'.length → (∀ h'', h''.size = h'.size → Row h'' b (putL cs' (o + k) [(.nilIface : Value)]) → Keep (· = b) h' h'' → K h'') → clrX [(.nilIface : Value)] (some ⟨b, o + k, none⟩) (0 + 1) h' K := by
    intro h' k cs' K hr hlt hK
    show stRow (zerosL [(.nilIface : Value)] (0 + 1)) ⟨b, o + k, none⟩ h' K
    exact stRow_row hr (by rw [zerosL_one]; simp; omega) (by intro u hu; rw [zerosL_one] at hu; rw [List.eq_of_mem_replicate hu]; rfl) hK
  dsimp only
  refine ⟨by omega, by omega, by omega, by omega, ?_⟩
  refine cnd_f (by rw [beq_eq_false_iff_ne]; omega) ?_
  have done : ∀ (r25 : List Value) (h25 : Heap), Row h25 b r25 → r25.length = cs.length → Keep (· = b) h h25 → (r25.drop o).take ((sl - 1) * 1) = repL vs i v → R ⟨some ⟨b, o, none⟩, sl - 1, sc⟩ h25 := by
    intro r25 h25 hr hlr kk fin
    refine hk ⟨some ⟨b, o, none⟩, sl - 1, sc⟩ h25 ⟨.inr ⟨b, o, _, rfl, hr, by show sl - 1 ≤ sc; omega, ?_, ?_, fin⟩, fun x hx => ?_⟩ rfl (hn.trans kk (fun x hx e => by have e' : x = b := e; omega)) (kk.mono (fun x _ e => blk_some.2 (show b = x from e.symm))) (fun x hx => hx)
    · rw [hlr]; show o + sc * 1 ≤ _; omega
    · rw [repL_len (by omega)]; show vs.length - 1 = (sl - 1) * 1; omega
    · rw [blk_some] at hx; simp only at hx; omega
  have ld : (vs.drop (i + 2)).length = sl - (i + 2) := by rw [List.length_drop]; omega
  have l1 := putL_length (cs := cs) (new := [v]) (o := o + i) (by simp; omega)
  refine cnd_of (fun e => ?_) (fun e => ?_)
  · have hil : i + 2 = sl := by have := eq_of_beq e; omega
    refine L (lo := 0) (by omega) (by omega) (by omega) ?_
    refine rd2 hr2 ?_
    have z0 : i - 0 = i := by omega
    rw [z0]
    refine app_row (z := (.nilIface : Value)) rfl row (by omega) (by omega) rfl (by intro u hu; simp only [List.mem_singleton] at hu; subst hu; exact hv) (by omega) ?_ (fun hh => by omega)
    intro _ h7 s7 r7 k7
    simp only [Nat.add_zero] at r7
    refine withJ.inl ?_
    refine cnd_t (decide_eq_true (by omega)) ?_
    have e1 : ((i : Int) + ((1 : Nat) : Int)) = ((i + 1 : Nat) : Int) := by push_cast; rfl
    simp only [e1]
    refine L (by omega) (by omega) (by omega) ?_
    rw [show sl - (i + 1) = 0 + 1 by omega]
    refine clr r7 (by rw [l1]; omega) ?_
    intro h13 s13 r13 k13
    have l2 := putL_length (cs := putL cs (o + i) [v]) (new := [(.nilIface : Value)]) (o := o + (i + 1)) (by rw [l1]; simp; omega)
    have z : (⟨some ⟨b, o + 0, none⟩, i + 1, sc - 0⟩ : Sl) = ⟨some ⟨b, o, none⟩, sl - 1, sc⟩ := by congr 1; omega
    rw [z]
    refine done _ _ r13 (by rw [l2, l1]) (k7.trans' k13) ?_
    rw [Nat.mul_one]
    apply List.ext_getElem?
    intro j
    rw [List.getElem?_take, List.getElem?_drop, getElem?_putL (by rw [l1]; simp; omega), getElem?_putL (by simp; omega), repL_get (by omega)]
    by_cases hj : j < sl - 1
    · rw [if_pos hj, if_pos (by omega)]
      by_cases a1 : j < i
      · rw [if_pos (by omega), if_pos a1, ← hsub, List.getElem?_take, if_pos (by omega), List.getElem?_drop]
      · rw [if_neg (by omega), if_pos (by simp; omega), if_neg a1, if_pos (by omega), show o + j - (o + i) = 0 by omega]; rfl
    · rw [if_neg hj, if_neg (by omega), if_neg (by omega), List.getElem?_eq_none (by omega)]
  · have hil : i + 2 < sl := by
      have : ¬ ((i + 2 : Nat) : Int) = (sl : Int) := fun e2 => by rw [beq_eq_false_iff_ne] at e; exact e e2
      omega
    refine L (lo := 0) (by omega) (by omega) (by omega) ?_
    refine L (by omega) (by omega) (by omega) ?_
    have w1 : w64 (w64 (((i - 0 : Nat) : Int) + ((1 : Nat) : Int)) + ((sl - (i + 2) : Nat) : Int)) = ((sl - 1 : Nat) : Int) := by
      rw [w64_id (x := ((i - 0 : Nat) : Int) + ((1 : Nat) : Int)) (by omega) (by omega), w64_id (by omega) (by omega)]; omega
    have w2 : w64 ((i : Int) + ((1 : Nat) : Int)) = ((i + 1 : Nat) : Int) := by rw [w64_id (by omega) (by omega)]; push_cast; rfl
    simp only [w1, w2]
    refine cnd_f (decide_eq_false (by omega)) ?_
    refine L (lo := 0) (by omega) (by omega) (by omega) ?_
    refine cnd_t (decide_eq_true (by omega)) ?_
    simp only [Nat.add_zero, Nat.sub_zero]
    refine L (by omega) (by omega) (by omega) ?_
    rw [show Nat.min 1 (sl - 1 - i) = 1 by show min _ _ = _; omega]
    refine rd2 hr2 ?_
    refine wrS ?_
    refine stRow_row row (by simp; omega) (by intro u hu; simp only [List.mem_singleton] at hu; subst hu; exact hv) ?_
    intro h29 s29 r29 k29
    refine L (by omega) (by omega) (by omega) ?_
    refine L (by omega) (by omega) (by omega) ?_
    rw [show Nat.min (sl - (i + 2)) (sl - 1 - (i + 1)) = sl - (i + 2) by show min _ _ = _; omega]
    refine ldRow_row (o := o + (i + 2)) (n := (sl - (i + 2)) * 1) r29 (by rw [l1]; omega) ?_
    have ev : ((putL cs (o + i) [v]).drop (o + (i + 2))).take ((sl - (i + 2)) * 1) = vs.drop (i + 2) := by
      rw [Nat.mul_one]
      apply List.ext_getElem?
      intro j
      rw [List.getElem?_take, List.getElem?_drop, getElem?_putL (by simp; omega), ← hsub, List.getElem?_drop, List.getElem?_take, List.getElem?_drop]
      by_cases hj : j < sl - (i + 2)
      · rw [if_pos hj, if_neg (by omega), if_neg (by simp; omega), if_pos (by omega)]; congr 1; omega
      · rw [if_neg hj, if_neg (by omega)]
    rw [ev]
    refine wrS ?_
    refine stRow_row r29 (by rw [l1, ld]; omega) (fun u hu => hvs u (List.mem_of_mem_drop hu)) ?_
    intro h33 s33 r33 k33
    have l2 := putL_length (cs := putL cs (o + i) [v]) (new := vs.drop (i + 2)) (o := o + (i + 1)) (by rw [l1, ld]; omega)
    refine L (by omega) (by omega) (by omega) ?_
    rw [show sl - (sl - 1) = 0 + 1 by omega]
    refine clr r33 (by rw [l2, l1]; omega) ?_
    intro h36 s36 r36 k36
    have l3 := putL_length (cs := putL (putL cs (o + i) [v]) (o + (i + 1)) (vs.drop (i + 2))) (new := [(.nilIface : Value)]) (o := o + (sl - 1)) (by rw [l2, l1]; simp; omega)
    refine done _ _ r36 (by rw [l3, l2, l1]) ((k29.trans' k33).trans' k36) ?_
    rw [Nat.mul_one]
    apply List.ext_getElem?
    intro j
    rw [List.getElem?_take, List.getElem?_drop, getElem?_putL (by rw [l2, l1]; simp; omega), getElem?_putL (by rw [l1, ld]; omega), getElem?_putL (by simp; omega), ld, repL_get (by omega)]
    by_cases hj : j < sl - 1
    · rw [if_pos hj, if_pos (by omega)]
      by_cases a1 : j < i
      · rw [if_pos (by omega), if_pos (by omega), if_pos a1, ← hsub, List.getElem?_take, if_pos (by omega), List.getElem?_drop]
      · rw [if_neg a1]
        by_cases a2 : j = i
        · rw [if_pos (by omega), if_neg (by omega), if_pos (by simp; omega), if_pos a2, show o + j - (o + i) = 0 by omega]; rfl
        · rw [if_neg (by omega), if_pos (by omega), if_neg a2, List.getElem?_drop]
          congr 1; omega
    · rw [if_neg hj, if_neg (by omega), if_neg (by omega), List.getElem?_eq_none (by omega)]
end Go.Proofs.Ytopnljjfpfnhfaa
