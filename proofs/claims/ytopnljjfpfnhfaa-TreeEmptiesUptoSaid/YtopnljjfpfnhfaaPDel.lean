/- slices.Delete (one element), Clip. -/
import Derived.Test.YtopnljjfpfnhfaaPClone
namespace Go.Proofs.Ytopnljjfpfnhfaa
open Go D
set_option linter.unusedVariables false
set_option linter.unusedSimpArgs false

def delL {α : Type} (vs : List α) (i : Nat) : List α := vs.take i ++ vs.drop (i + 1)
theorem delL_len {α : Type} {vs : List α} {i : Nat} (hi : i < vs.length) : (delL vs i).length = vs.length - 1 := by unfold delL; simp; omega
theorem delL_get {α : Type} {vs : List α} {i j : Nat} (hi : i < vs.length) : (delL vs i)[j]? = if j < i then vs[j]? else vs[j + 1]? := by
  unfold delL
  have tl : (vs.take i).length = i := by rw [List.length_take]; omega
  by_cases h1 : j < i
  · rw [if_pos h1, List.getElem?_append_left (by omega), List.getElem?_take, if_pos h1]
  · rw [if_neg h1, List.getElem?_append_right (by omega), tl, List.getElem?_drop]
    congr 1; omega

theorem deleteS_spec {h0 h : Heap} {s : Sl} {vs : List Value} {i : Nat} (hs : Own h0 h 1 s vs) (hvs : ∀ v ∈ vs, v.oneCell' = true) (hi : i < s.len) (hl : s.len ≤ 1000000000) {S : Nat → Prop} (hn : Keep S h0 h) {R : Sl → Heap → Prop}
    (hk : ∀ r h', Own h0 h' 1 r (delL vs i) → r.len = s.len - 1 → Keep S h0 h' → Keep (blk s.a) h h' → (∀ b, blk r.a b → blk s.a b) → R r h') :
    CallT Try.prog slices_Delete_string_no [.slice s.a s.len s.cap, .int .i64 (i : Int), .int .i64 ((i + 1 : Nat) : Int)] h [.sc .sl] R := by
  have hcall := slices_Delete_string_call s (i : Int) ((i + 1 : Nat) : Int) (R := R) (h := h)
  apply hcall
  unfold slices_Delete_string
  have len := hs.len
  have hle := hs.le
  rw [Nat.mul_one] at len
  obtain ⟨sa, sl, sc⟩ := s
  simp only at hi hl len hle
  rcases hs.sl with ⟨_, e2, _⟩ | ⟨b, o, cs, e1, row, q2, q3, q4, q5⟩
  · simp only at e2; omega
  simp only at e1 q2 q3 q4 q5
  subst e1
  have hsub : (cs.drop o).take sl = vs := by rw [← q5, Nat.mul_one]
  have hfr : h0.size ≤ b := hs.fresh b (blk_some.2 rfl)
  dsimp only
  refine ⟨by omega, by omega, by omega, by omega, ?_⟩
  refine cnd_f (by rw [beq_eq_false_iff_ne]; omega) ?_
  refine ⟨by omega, by omega, by omega, by omega, ?_⟩
  rw [if_neg (by omega)]
  have a0 : (⟨b, o, none⟩ : Addr).add ((0 : Int).toNat * 1) = ⟨b, o, none⟩ := by rw [add_mk]; rfl
  have z6 : ((i : Int) - 0).toNat = i := by omega
  have z7 : ((sc : Int) - 0).toNat = sc := by omega
  simp only [Option.map_some, a0, z6, z7]
  refine ⟨by omega, by omega, by omega, by omega, ?_⟩
  have z8 : ((sl : Int) - ((i + 1 : Nat) : Int)).toNat = sl - (i + 1) := by omega
  rw [z8]
  have ld : (vs.drop (i + 1)).length = sl - (i + 1) := by rw [List.length_drop]; omega
  have rd : ∀ {K : List Value → Prop}, K (vs.drop (i + 1)) → rdCells (if (sc : Int) = ((i + 1 : Nat) : Int) then some ⟨b, o, none⟩ else some ((⟨b, o, none⟩ : Addr).add (((i + 1 : Nat) : Int).toNat * 1))) ((sl - (i + 1)) * 1) h K := by
    intro K hK
    split
    · have e0 : sl - (i + 1) = 0 := by omega
      have ev : vs.drop (i + 1) = [] := List.length_eq_zero_iff.1 (by omega)
      rw [e0]
      rw [ev] at hK
      exact ldRow_row (o := o) (n := 0 * 1) row (by omega) (by simpa using hK)
    · rw [add_mk, Int.toNat_natCast]
      refine ldRow_row (o := o + (i + 1) * 1) (n := (sl - (i + 1)) * 1) row (by omega) ?_
      have : (cs.drop (o + (i + 1) * 1)).take ((sl - (i + 1)) * 1) = vs.drop (i + 1) := by rw [← hsub, List.drop_take, List.drop_drop, Nat.mul_one, Nat.mul_one]
      rw [this]; exact hK
  refine rd ?_
  refine app_row (z := (.string (⟨#[]⟩ : ByteArray) : Value)) rfl row (by omega) (by omega) ld (fun u hu => hvs u (List.mem_of_mem_drop hu)) (by omega) ?_ (fun hh => by omega)
  intro _ h6 s6 r6 k6
  refine ⟨by omega, by omega, by omega, by omega, ?_⟩
  rw [if_neg (by omega)]
  have l1 := putL_length (cs := cs) (new := vs.drop (i + 1)) (o := o + i) (by rw [ld]; omega)
  have a8 : (⟨b, o, none⟩ : Addr).add (((i : Int) + ((sl - (i + 1) : Nat) : Int)).toNat * 1) = ⟨b, o + (sl - 1), none⟩ := by rw [add_mk]; congr 1; omega
  have z9 : ((sl : Int) - ((i : Int) + ((sl - (i + 1) : Nat) : Int))).toNat = 0 + 1 := by omega
  rw [Option.map_some, a8, z9]
  show stRow (zerosL [(.string (⟨#[]⟩ : ByteArray) : Value)] (0 + 1)) ⟨b, o + (sl - 1), none⟩ h6 _
  refine stRow_row r6 (by rw [l1, zerosL_one]; simp; omega) (by intro u hu; rw [zerosL_one] at hu; rw [List.eq_of_mem_replicate hu]; rfl) ?_
  intro h9 s9 r9 k9
  have kk : Keep (· = b) h h9 := k6.trans' k9
  have fin : ((putL (putL cs (o + i) (vs.drop (i + 1))) (o + (sl - 1)) (zerosL [(.string (⟨#[]⟩ : ByteArray) : Value)] (0 + 1))).drop o).take ((i + (sl - (i + 1))) * 1) = delL vs i := by
    rw [Nat.mul_one]
    apply List.ext_getElem?
    intro j
    rw [List.getElem?_take, List.getElem?_drop, getElem?_putL (by rw [l1, zerosL_one]; simp; omega), getElem?_putL (by rw [ld]; omega), ld, delL_get (by omega)]
    by_cases hj : j < i + (sl - (i + 1))
    · rw [if_pos hj, if_pos (by omega)]
      by_cases a1 : j < i
      · rw [if_pos (by omega), if_pos a1, ← hsub, List.getElem?_take, if_pos (by omega), List.getElem?_drop]
      · rw [if_neg (by omega), if_pos (by omega), if_neg a1, List.getElem?_drop]
        congr 1; omega
    · rw [if_neg hj, if_neg (by omega), List.getElem?_eq_none (by omega)]
  refine hk ⟨some ⟨b, o, none⟩, i + (sl - (i + 1)), sc⟩ h9 ⟨.inr ⟨b, o, _, rfl, r9, ?_, ?_, ?_, fin⟩, fun x hx => ?_⟩ ?_ (hn.trans kk (fun x hx e => by have e' : x = b := e; omega)) (kk.mono (fun x _ e => blk_some.2 (show b = x from e.symm))) (fun x hx => hx)
  · show i + (sl - (i + 1)) ≤ sc; omega
  · rw [putL_length (by rw [l1, zerosL_one]; simp; omega), l1]; show o + sc * 1 ≤ _; omega
  · rw [delL_len (by omega)]; show vs.length - 1 = (i + (sl - (i + 1))) * 1; omega
  · rw [blk_some] at hx; simp only at hx; omega
  · show i + (sl - (i + 1)) = sl - 1; omega
end Go.Proofs.Ytopnljjfpfnhfaa
