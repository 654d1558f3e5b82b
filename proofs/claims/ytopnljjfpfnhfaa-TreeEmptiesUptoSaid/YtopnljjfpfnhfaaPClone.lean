/- slices.Clone, Insert, Delete, Concat, .. of the two kinds of slices. -/
import Derived.Test.YtopnljjfpfnhfaaPAt
namespace Go.Proofs.Ytopnljjfpfnhfaa
open Go D
set_option linter.unusedVariables false
set_option linter.unusedSimpArgs false
def insL {α : Type} (vs : List α) (i : Nat) (v : α) : List α := vs.take i ++ v :: vs.drop i
theorem insL_len {α : Type} {vs : List α} {i : Nat} {v : α} (hi : i ≤ vs.length) : (insL vs i v).length = vs.length + 1 := by unfold insL; simp; omega
theorem insL_get {α : Type} {vs : List α} {i j : Nat} {v : α} (hi : i ≤ vs.length) : (insL vs i v)[j]? = if j < i then vs[j]? else if j = i then some v else vs[j - 1]? := by
  unfold insL
  have tl : (vs.take i).length = i := by rw [List.length_take]; omega
  by_cases h1 : j < i
  · rw [if_pos h1, List.getElem?_append_left (by omega), List.getElem?_take, if_pos h1]
  · rw [if_neg h1, List.getElem?_append_right (by omega), tl]
    by_cases h2 : j = i
    · rw [if_pos h2, h2, Nat.sub_self]; rfl
    · rw [if_neg h2, show j - i = (j - i - 1) + 1 by omega, List.getElem?_cons_succ, List.getElem?_drop]
      congr 1; omega
theorem wrS {new : List Value} {a : Addr} {h : Heap} {K : Heap → Prop} (hk : stRow new a h K) : wrRow new (some a) h K := hk

theorem cloneS_spec {h : Heap} {s : Sl} {vs : List Value} (hs : Rv h s.a s.len vs) (hv : ∀ v ∈ vs, v.oneCell' = true) (hl : s.len ≤ 1000000000) {R : Sl → Heap → Prop} (hk : ∀ r h', Own h h' 1 r vs → r.len = s.len → Nw h h' → R r h') :
    CallT Try.prog slices_Clone_string_no [.slice s.a s.len s.cap] h [.sc .sl] R := by
  apply slices_Clone_string_call
  unfold slices_Clone_string
  have len := hs.1
  refine cnd_of (fun e => ?_) (fun e => ?_)
  · have hn : s.a = none := by cases hh : s.a with | none => rfl | some x => rw [hh] at e; cases e
    have hvs : vs = [] := by
      cases vs with
      | nil => rfl
      | cons v r => obtain ⟨x, e2, _⟩ := hs.2 0 v rfl; rw [hn] at e2; cases e2
    subst hvs
    exact hk ⟨none, 0, 0⟩ h (Own.nil _ _ _) (by simpa using len.symm) (Keep.refl _ _)
  · refine newB_row ?_
    intro h1 s1 r1 k1
    refine Rv.rd (hs.keep0 k1) ?_
    have sl0 : SlR h1 1 (some ⟨h.size, 0, none⟩) 0 0 [] := .inr ⟨h.size, 0, [], rfl, r1, Nat.le_refl _, by simp, rfl, rfl⟩
    refine SlR.app (new := vs) sl0 rfl (by omega) hv (by omega) ?_
    intro a' c' h' q1 q2 q3
    rw [List.nil_append] at q1
    have nw : Nw h h' := k1.trans q2 (fun x hx e => by rw [blk_some] at e; simp only at e; omega)
    refine hk ⟨a', 0 + s.len, c'⟩ h' ⟨q1, fun b hb => ?_⟩ (by simp) nw
    rcases q3 with ⟨e2, _⟩ | ⟨e2, _⟩
    · rw [e2, blk_some] at hb; simp only at hb; omega
    · rw [e2, blk_some] at hb; simp only at hb; omega

theorem cloneN_spec {h : Heap} {s : Sl} {vs : List Value} (hs : Rv h s.a s.len vs) (hv : ∀ v ∈ vs, v.oneCell' = true) (hl : s.len ≤ 1000000000) {R : Sl → Heap → Prop} (hk : ∀ r h', Own h h' 1 r vs → r.len = s.len → Nw h h' → R r h') :
    CallT Try.prog slices_Clone_btree_node_no [.slice s.a s.len s.cap] h [.sc .sl] R := by
  apply slices_Clone_btree_node_call
  unfold slices_Clone_btree_node
  have len := hs.1
  refine cnd_of (fun e => ?_) (fun e => ?_)
  · have hn : s.a = none := by cases hh : s.a with | none => rfl | some x => rw [hh] at e; cases e
    have hvs : vs = [] := by
      cases vs with
      | nil => rfl
      | cons v r => obtain ⟨x, e2, _⟩ := hs.2 0 v rfl; rw [hn] at e2; cases e2
    subst hvs
    exact hk ⟨none, 0, 0⟩ h (Own.nil _ _ _) (by simpa using len.symm) (Keep.refl _ _)
  · refine newB_row ?_
    intro h1 s1 r1 k1
    refine Rv.rd (hs.keep0 k1) ?_
    have sl0 : SlR h1 1 (some ⟨h.size, 0, none⟩) 0 0 [] := .inr ⟨h.size, 0, [], rfl, r1, Nat.le_refl _, by simp, rfl, rfl⟩
    refine SlR.app (new := vs) sl0 rfl (by omega) hv (by omega) ?_
    intro a' c' h' q1 q2 q3
    rw [List.nil_append] at q1
    have nw : Nw h h' := k1.trans q2 (fun x hx e => by rw [blk_some] at e; simp only at e; omega)
    refine hk ⟨a', 0 + s.len, c'⟩ h' ⟨q1, fun b hb => ?_⟩ (by simp) nw
    rcases q3 with ⟨e2, _⟩ | ⟨e2, _⟩
    · rw [e2, blk_some] at hb; simp only at hb; omega
    · rw [e2, blk_some] at hb; simp only at hb; omega

theorem insertS_spec {h0 h : Heap} {s : Sl} {vs : List Value} {v : Value} {i b2 : Nat} (hs : Own h0 h 1 s vs) {t2 : TypeId} (hc2 : h[b2]? = some (.cells #[v] t2 (0, 0))) (hne : ∀ b, blk s.a b → b ≠ b2) (hv : v.oneCell' = true) (hvs : ∀ v ∈ vs, v.oneCell' = true) (hi : i ≤ s.len) (hl : s.len ≤ 1000000000) {S : Nat → Prop} (hn : Keep S h0 h) {R : Sl → Heap → Prop}
    (hk : ∀ r h', Own h0 h' 1 r (insL vs i v) → r.len = s.len + 1 → Keep S h0 h' → Keep (blk s.a) h h' → (∀ b, blk r.a b → blk s.a b ∨ h.size ≤ b) → R r h') :
    CallT Try.prog slices_Insert_string_no [.slice s.a s.len s.cap, .int .i64 (i : Int), .slice (some ⟨b2, 0, none⟩) 1 1] h [.sc .sl] R := by
  have hcall := slices_Insert_string_call s (i : Int) ⟨some ⟨b2, 0, none⟩, 1, 1⟩ (R := R) (h := h)
  apply hcall
  unfold slices_Insert_string
  have hr2 : Row h b2 [v] := ⟨t2, 0, 0, hc2, fun o ho => by omega⟩
  have len := hs.len
  have hle := hs.le
  rw [Nat.mul_one] at len
  have rd2 : ∀ {h' : Heap} {K : List Value → Prop}, Row h' b2 [v] → K [v] → rdCells (some ⟨b2, 0, none⟩) (1 * 1) h' K := fun hr hK => ldRow_row (o := 0) hr (by simp) hK
  refine ⟨by omega, by omega, by omega, by omega, ?_⟩
  refine cnd_f rfl ?_
  refine cnd_of (fun e => ?_) (fun e => ?_)
  · have hil : i = s.len := by have := eq_of_beq e; omega
    refine rd2 hr2 ?_
    refine hs.app (new := [v]) hn rfl rfl (by intro u hu; simp only [List.mem_singleton] at hu; subst hu; exact hv) (by show (2 * (s.len + 1) + 1024) * 16 ≤ _; omega) ?_
    intro a' c' h' q1 q2 q3 q4
    refine hk ⟨a', s.len + 1, c'⟩ h' ?_ rfl q2 q3 q4
    have : insL vs i v = vs ++ [v] := by unfold insL; rw [List.take_of_length_le (by omega), List.drop_eq_nil_of_le (by omega)]
    rw [this]; exact q1
  · have hil : i < s.len := by
      have : ¬ (i : Int) = (s.len : Int) := fun e2 => by rw [beq_eq_false_iff_ne] at e; exact e e2
      omega
    obtain ⟨sa, sl, sc⟩ := s
    simp only at hi hl len hle hil
    rcases hs.sl with ⟨_, e2, _⟩ | ⟨b, o, cs, e1, row, q2, q3, q4, q5⟩
    · simp only at e2; omega
    simp only at e1 q2 q3 q4 q5
    subst e1
    have bne : b ≠ b2 := hne b (blk_some.2 rfl)
    have hsub : (cs.drop o).take sl = vs := by rw [← q5, Nat.mul_one]
    have hfr : h0.size ≤ b := hs.fresh b (blk_some.2 rfl)
    have hblt := row.lt
    have tl : (vs.take i).length = i := by rw [List.length_take]; omega
    have w1 : w64 ((sl : Int) + ((1 : Nat) : Int)) = ((sl + 1 : Nat) : Int) := by rw [w64_id (by omega) (by omega)]; push_cast; rfl
    have w2 : w64 (((sl + 1 : Nat) : Int) - (i : Int)) = ((sl + 1 - i : Nat) : Int) := by rw [w64_id (by omega) (by omega)]; omega
    have w3 : w64 ((i : Int) + ((1 : Nat) : Int)) = ((i + 1 : Nat) : Int) := by rw [w64_id (by omega) (by omega)]; push_cast; rfl
    simp only [w1, w2, w3]
    have src : ∀ {h' : Heap} {K : List Value → Prop}, Row h' b cs → K (vs.drop i) → rdCells (some ⟨b, o + i, none⟩) ((sl - i) * 1) h' K := by
      intro h' K hr hK
      refine ldRow_row hr (by omega) ?_
      have : (cs.drop (o + i)).take ((sl - i) * 1) = vs.drop i := by rw [← hsub, List.drop_take, List.drop_drop, Nat.mul_one]
      rw [this]; exact hK
    refine cnd_dec (fun c1 => ?_) (fun c1 => ?_)
    · -- new memory
      have hcap : sc < sl + 1 := by omega
      refine ⟨by omega, by omega, by omega, by omega, ?_⟩
      have e6 : (if (sc : Int) = 0 then (some ⟨b, o, none⟩ : Option Addr) else (some (⟨b, o, none⟩ : Addr)).map (·.add ((0 : Int).toNat * 1))) = some ⟨b, o, none⟩ := by
        split
        · rfl
        · show some ((⟨b, o, none⟩ : Addr).add (0 * 1)) = _; rw [add_mk]; rfl
      have z6 : ((i : Int) - 0).toNat = i := by omega
      have z7 : ((sc : Int) - 0).toNat = sc := by omega
      simp only [e6, z6, z7]
      refine ⟨by omega, by show ((sl + 1 - i : Nat) : Int) * ((16 : Nat) : Int) ≤ _; omega, ?_⟩
      simp only [Int.toNat_natCast]
      refine app_row (z := (.string (⟨#[]⟩ : ByteArray) : Value)) rfl row (by omega) (by omega) (by rw [zerosL_one, List.length_replicate]) (by intro u hu; rw [zerosL_one] at hu; rw [List.eq_of_mem_replicate hu]; rfl) (by omega) (fun hh => by omega) ?_
      intro _ c' h9 hc' s9 r9 k9
      have e7 : i + (sl + 1 - i) = sl + 1 := by omega
      rw [e7] at hc'
      have W : (cs.drop o).take i ++ zerosL [(.string (⟨#[]⟩ : ByteArray) : Value)] (sl + 1 - i) ++ List.replicate (c' - (i + (sl + 1 - i))) (.string (⟨#[]⟩ : ByteArray) : Value) = vs.take i ++ List.replicate (c' - i) (.string (⟨#[]⟩ : ByteArray) : Value) := by
        rw [zerosL_one, List.append_assoc, List.replicate_append_replicate, ← hsub, List.take_take]
        congr 2 <;> omega
      rw [W] at r9
      have lW : (vs.take i ++ List.replicate (c' - i) (.string (⟨#[]⟩ : ByteArray) : Value)).length = c' := by rw [List.length_append, tl, List.length_replicate]; omega
      simp only [e7]
      have nb2 : b2 < h.size := hr2.lt
      have r2 : Row h9 b2 [v] := k9.row hr2 (fun h => h)
      have rb : Row h9 b cs := k9.row row (fun h => h)
      refine ⟨by omega, by omega, by omega, by omega, ?_⟩
      rw [if_neg (by omega)]
      have m1 : Nat.min 1 ((((i + (sl + 1 - i) : Nat) : Int)) - (i : Int)).toNat = 1 := by rw [e7]; show min _ _ = _; omega
      have m2 : Nat.min ((sl : Int) - (i : Int)).toNat ((((i + (sl + 1 - i) : Nat) : Int)) - ((i + 1 : Nat) : Int)).toNat = sl - i := by rw [e7]; show min _ _ = _; omega
      push_cast at m1 m2
      push_cast
      rw [m1]
      refine rd2 r2 ?_
      have ad1 : ∀ k : Nat, ((⟨h.size, 0, none⟩ : Addr).add (((k : Nat) : Int).toNat * 1)) = ⟨h.size, k, none⟩ := fun k => by rw [add_mk, Int.toNat_natCast]; simp
      simp only [Option.map_some, ad1]
      refine wrS ?_
      refine stRow_row r9 (by rw [lW]; simp; omega) (by intro u hu; simp only [List.mem_singleton] at hu; subst hu; exact hv) ?_
      intro h11 s11 r11 k11
      refine ⟨by omega, by omega, by omega, by omega, ?_⟩
      rw [if_neg (by omega)]
      refine ⟨by omega, by omega, by omega, by omega, ?_⟩
      rw [if_neg (by omega)]
      simp only [Option.map_some]
      have ad2 : (⟨h.size, 0, none⟩ : Addr).add (((i : Int) + 1).toNat * 1) = ⟨h.size, i + 1, none⟩ := by rw [add_mk]; congr 1; omega
      have ad3 : (⟨b, o, none⟩ : Addr).add ((i : Int).toNat * 1) = ⟨b, o + i, none⟩ := by rw [add_mk]; congr 1; omega
      rw [ad2, ad3, m2]
      refine src (k11.row rb (fun e => by have e' : b = h.size := e; omega)) ?_
      refine wrS ?_
      have l1 := putL_length (cs := vs.take i ++ List.replicate (c' - i) (.string (⟨#[]⟩ : ByteArray) : Value)) (new := [v]) (o := i) (by rw [lW]; simp; omega)
      have ld : (vs.drop i).length = sl - i := by rw [List.length_drop]; omega
      refine stRow_row r11 (by rw [l1, lW, ld]; omega) (fun u hu => hvs u (List.mem_of_mem_drop hu)) ?_
      intro h15 s15 r15 k15
      have nw : Nw h h15 := (Nw.st (Nw.st k9 k11 (Nat.le_refl _)) k15 (Nat.le_refl _))
      have fin : ((putL (putL (vs.take i ++ List.replicate (c' - i) (.string (⟨#[]⟩ : ByteArray) : Value)) i [v]) (i + 1) (vs.drop i)).drop 0).take ((sl + 1) * 1) = insL vs i v := by
        rw [List.drop_zero, Nat.mul_one]
        apply List.ext_getElem?
        intro j
        rw [List.getElem?_take, getElem?_putL (by rw [l1, lW, ld]; omega), getElem?_putL (by rw [lW]; simp; omega), ld, insL_get (by omega)]
        by_cases hj : j < sl + 1
        · rw [if_pos hj]
          by_cases a1 : j < i
          · rw [if_pos (by omega), if_pos a1, if_pos a1, List.getElem?_append_left (by omega), List.getElem?_take, if_pos a1]
          · by_cases a2 : j = i
            · rw [if_pos (by omega), if_neg a1, if_pos (by simp; omega), if_neg a1, if_pos a2, a2, Nat.sub_self]; rfl
            · rw [if_neg (by omega), if_pos (by omega), if_neg a1, if_neg a2, List.getElem?_drop]
              congr 1; omega
        · rw [if_neg hj, if_neg (by omega), if_neg (by omega), List.getElem?_eq_none (by omega)]
      refine hk ⟨some ⟨h.size, 0, none⟩, sl + 1, c'⟩ h15 ⟨.inr ⟨h.size, 0, _, rfl, r15, by show sl + 1 ≤ c'; omega, ?_, ?_, fin⟩, fun x hx => ?_⟩ rfl (hn.trans nw (fun _ _ h => h.elim)) (nw.mono (fun _ _ h => h.elim)) (fun x hx => ?_)
      · rw [putL_length (by rw [l1, lW, ld]; omega), l1, lW]; show 0 + c' * 1 ≤ c'; omega
      · rw [insL_len (by omega)]; show vs.length + 1 = (sl + 1) * 1; omega
      · rw [blk_some] at hx; have := hn.size; simp only at hx; omega
      · rw [blk_some] at hx; simp only at hx; exact .inr (by omega)
    · -- in place
      have hcap : sl + 1 ≤ sc := by omega
      have ad : ∀ k : Nat, (⟨b, o, none⟩ : Addr).add (((k : Nat) : Int).toNat * 1) = ⟨b, o + k, none⟩ := fun k => by rw [add_mk, Int.toNat_natCast]; simp
      refine ⟨by omega, by omega, by omega, by omega, ?_⟩
      rw [if_neg (by omega)]
      have z6 : (((sl + 1 : Nat) : Int) - 0).toNat = sl + 1 := by omega
      have z7 : ((sc : Int) - 0).toNat = sc := by omega
      have a0 : (⟨b, o, none⟩ : Addr).add ((0 : Int).toNat * 1) = ⟨b, o, none⟩ := by rw [add_mk]; rfl
      simp only [Option.map_some, a0, z6, z7]
      have L1 : ∀ {K : Option Addr → Nat → Nat → Prop}, K (some ⟨b, o + (i + 1), none⟩) (sl - i) (sc - (i + 1)) → lsl 1 (some ⟨b, o, none⟩) sc ((i + 1 : Nat) : Int) ((sl + 1 : Nat) : Int) (sc : Int) K := by
        intro K hK
        refine ⟨by omega, by omega, by omega, by omega, ?_⟩
        rw [if_neg (by omega), Option.map_some, ad, show (((sl + 1 : Nat) : Int) - ((i + 1 : Nat) : Int)).toNat = sl - i by omega, show ((sc : Int) - ((i + 1 : Nat) : Int)).toNat = sc - (i + 1) by omega]
        exact hK
      have L2 : ∀ {K : Option Addr → Nat → Nat → Prop}, K (some ⟨b, o + i, none⟩) (sl + 1 - i) (sc - i) → lsl 1 (some ⟨b, o, none⟩) sc (i : Int) ((sl + 1 : Nat) : Int) (sc : Int) K := by
        intro K hK
        refine ⟨by omega, by omega, by omega, by omega, ?_⟩
        rw [if_neg (by omega), Option.map_some, ad, show (((sl + 1 : Nat) : Int) - (i : Int)).toNat = sl + 1 - i by omega, show ((sc : Int) - (i : Int)).toNat = sc - i by omega]
        exact hK
      refine L1 ?_
      have ovl : ∀ {K : Bool → Prop}, K false → ovlX (some ⟨b2, 0, none⟩) 1 (some ⟨b, o + (i + 1), none⟩) (sl - i) h K := by
        intro K hK
        obtain ⟨tb, lo, hi', hb, _⟩ := row
        refine ⟨.inr ⟨_, _, _, _, _, _, _, _, rfl, rfl, fun e => bne e.symm, hc2, ?_, ?_, hb, ?_⟩, hK⟩
        · unfold frozH; rw [hc2]; simp
        · unfold frozH; simp only [hc2]; simp
        · have : cs.toArray.size = cs.length := by simp
          omega
      refine ovl ?_
      refine cnd_t rfl ?_
      refine L1 (L2 ?_)
      have m1 : Nat.min (sl + 1 - i) (sl - i) = sl - i := by show min _ _ = _; omega
      have m2 : Nat.min 1 (sl + 1 - i) = 1 := by show min _ _ = _; omega
      rw [m1]
      refine src row ?_
      refine wrS ?_
      have ld : (vs.drop i).length = sl - i := by rw [List.length_drop]; omega
      refine stRow_row row (by rw [ld]; omega) (fun u hu => hvs u (List.mem_of_mem_drop hu)) ?_
      intro h22 s22 r22 k22
      refine L2 ?_
      rw [m2]
      refine rd2 (k22.row hr2 (fun e => bne e.symm)) ?_
      refine wrS ?_
      have l1 := putL_length (cs := cs) (new := vs.drop i) (o := o + (i + 1)) (by rw [ld]; omega)
      refine stRow_row r22 (by rw [l1]; simp; omega) (by intro u hu; simp only [List.mem_singleton] at hu; subst hu; exact hv) ?_
      intro h25 s25 r25 k25
      have kk : Keep (· = b) h h25 := k22.trans' k25
      have fin : ((putL (putL cs (o + (i + 1)) (vs.drop i)) (o + i) [v]).drop o).take ((sl + 1) * 1) = insL vs i v := by
        rw [Nat.mul_one]
        apply List.ext_getElem?
        intro j
        rw [List.getElem?_take, List.getElem?_drop, getElem?_putL (by rw [l1]; simp; omega), getElem?_putL (by rw [ld]; omega), ld, insL_get (by omega)]
        by_cases hj : j < sl + 1
        · rw [if_pos hj]
          by_cases a1 : j < i
          · rw [if_pos (by omega), if_pos (by omega), if_pos a1, ← hsub, List.getElem?_take, if_pos (by omega), List.getElem?_drop]
          · by_cases a2 : j = i
            · rw [if_neg (by omega), if_pos (by simp; omega), if_neg a1, if_pos a2, a2, Nat.sub_self]; rfl
            · rw [if_neg (by omega), if_neg (by simp; omega), if_neg (by omega), if_pos (by omega), if_neg a1, if_neg a2, List.getElem?_drop]
              congr 1; omega
        · rw [if_neg hj, if_neg (by omega), if_neg (by omega), List.getElem?_eq_none (by omega)]
      refine hk ⟨some ⟨b, o, none⟩, sl + 1, sc⟩ h25 ⟨.inr ⟨b, o, _, rfl, r25, hcap, ?_, ?_, fin⟩, fun x hx => ?_⟩ rfl (hn.trans kk (fun x hx e => by have e' : x = b := e; omega)) (kk.mono (fun x _ e => blk_some.2 (show b = x from e.symm))) (fun x hx => .inl hx)
      · rw [putL_length (by rw [l1]; simp; omega), l1]; show o + sc * 1 ≤ _; omega
      · rw [insL_len (by omega)]; show vs.length + 1 = (sl + 1) * 1; omega
      · rw [blk_some] at hx; simp only at hx; omega

theorem insertN_spec {h0 h : Heap} {s : Sl} {vs : List Value} {v : Value} {i b2 : Nat} (hs : Own h0 h 1 s vs) {t2 : TypeId} (hc2 : h[b2]? = some (.cells #[v] t2 (0, 0))) (hne : ∀ b, blk s.a b → b ≠ b2) (hv : v.oneCell' = true) (hvs : ∀ v ∈ vs, v.oneCell' = true) (hi : i ≤ s.len) (hl : s.len ≤ 1000000000) {S : Nat → Prop} (hn : Keep S h0 h) {R : Sl → Heap → Prop}
    (hk : ∀ r h', Own h0 h' 1 r (insL vs i v) → r.len = s.len + 1 → Keep S h0 h' → Keep (blk s.a) h h' → (∀ b, blk r.a b → blk s.a b ∨ h.size ≤ b) → R r h') :
    CallT Try.prog slices_Insert_btree_node_no [.slice s.a s.len s.cap, .int .i64 (i : Int), .slice (some ⟨b2, 0, none⟩) 1 1] h [.sc .sl] R := by
  have hcall := slices_Insert_btree_node_call s (i : Int) ⟨some ⟨b2, 0, none⟩, 1, 1⟩ (R := R) (h := h)
  apply hcall
  unfold slices_Insert_btree_node
  have hr2 : Row h b2 [v] := ⟨t2, 0, 0, hc2, fun o ho => by omega⟩
  have len := hs.len
  have hle := hs.le
  rw [Nat.mul_one] at len
  have rd2 : ∀ {h' : Heap} {K : List Value → Prop}, Row h' b2 [v] → K [v] → rdCells (some ⟨b2, 0, none⟩) (1 * 1) h' K := fun hr hK => ldRow_row (o := 0) hr (by simp) hK
  refine ⟨by omega, by omega, by omega, by omega, ?_⟩
  refine cnd_f rfl ?_
  refine cnd_of (fun e => ?_) (fun e => ?_)
  · have hil : i = s.len := by have := eq_of_beq e; omega
    refine rd2 hr2 ?_
    refine hs.app (new := [v]) hn rfl rfl (by intro u hu; simp only [List.mem_singleton] at hu; subst hu; exact hv) (by show (2 * (s.len + 1) + 1024) * 16 ≤ _; omega) ?_
    intro a' c' h' q1 q2 q3 q4
    refine hk ⟨a', s.len + 1, c'⟩ h' ?_ rfl q2 q3 q4
    have : insL vs i v = vs ++ [v] := by unfold insL; rw [List.take_of_length_le (by omega), List.drop_eq_nil_of_le (by omega)]
    rw [this]; exact q1
  · have hil : i < s.len := by
      have : ¬ (i : Int) = (s.len : Int) := fun e2 => by rw [beq_eq_false_iff_ne] at e; exact e e2
      omega
    obtain ⟨sa, sl, sc⟩ := s
    simp only at hi hl len hle hil
    rcases hs.sl with ⟨_, e2, _⟩ | ⟨b, o, cs, e1, row, q2, q3, q4, q5⟩
    · simp only at e2; omega
    simp only at e1 q2 q3 q4 q5
    subst e1
    have bne : b ≠ b2 := hne b (blk_some.2 rfl)
    have hsub : (cs.drop o).take sl = vs := by rw [← q5, Nat.mul_one]
    have hfr : h0.size ≤ b := hs.fresh b (blk_some.2 rfl)
    have hblt := row.lt
    have tl : (vs.take i).length = i := by rw [List.length_take]; omega
    have w1 : w64 ((sl : Int) + ((1 : Nat) : Int)) = ((sl + 1 : Nat) : Int) := by rw [w64_id (by omega) (by omega)]; push_cast; rfl
    have w2 : w64 (((sl + 1 : Nat) : Int) - (i : Int)) = ((sl + 1 - i : Nat) : Int) := by rw [w64_id (by omega) (by omega)]; omega
    have w3 : w64 ((i : Int) + ((1 : Nat) : Int)) = ((i + 1 : Nat) : Int) := by rw [w64_id (by omega) (by omega)]; push_cast; rfl
    simp only [w1, w2, w3]
    have src : ∀ {h' : Heap} {K : List Value → Prop}, Row h' b cs → K (vs.drop i) → rdCells (some ⟨b, o + i, none⟩) ((sl - i) * 1) h' K := by
      intro h' K hr hK
      refine ldRow_row hr (by omega) ?_
      have : (cs.drop (o + i)).take ((sl - i) * 1) = vs.drop i := by rw [← hsub, List.drop_take, List.drop_drop, Nat.mul_one]
      rw [this]; exact hK
    refine cnd_dec (fun c1 => ?_) (fun c1 => ?_)
    · -- new memory
      have hcap : sc < sl + 1 := by omega
      refine ⟨by omega, by omega, by omega, by omega, ?_⟩
      have e6 : (if (sc : Int) = 0 then (some ⟨b, o, none⟩ : Option Addr) else (some (⟨b, o, none⟩ : Addr)).map (·.add ((0 : Int).toNat * 1))) = some ⟨b, o, none⟩ := by
        split
        · rfl
        · show some ((⟨b, o, none⟩ : Addr).add (0 * 1)) = _; rw [add_mk]; rfl
      have z6 : ((i : Int) - 0).toNat = i := by omega
      have z7 : ((sc : Int) - 0).toNat = sc := by omega
      simp only [e6, z6, z7]
      refine ⟨by omega, by show ((sl + 1 - i : Nat) : Int) * ((16 : Nat) : Int) ≤ _; omega, ?_⟩
      simp only [Int.toNat_natCast]
      refine app_row (z := (.nilIface : Value)) rfl row (by omega) (by omega) (by rw [zerosL_one, List.length_replicate]) (by intro u hu; rw [zerosL_one] at hu; rw [List.eq_of_mem_replicate hu]; rfl) (by omega) (fun hh => by omega) ?_
      intro _ c' h9 hc' s9 r9 k9
      have e7 : i + (sl + 1 - i) = sl + 1 := by omega
      rw [e7] at hc'
      have W : (cs.drop o).take i ++ zerosL [(.nilIface : Value)] (sl + 1 - i) ++ List.replicate (c' - (i + (sl + 1 - i))) (.nilIface : Value) = vs.take i ++ List.replicate (c' - i) (.nilIface : Value) := by
        rw [zerosL_one, List.append_assoc, List.replicate_append_replicate, ← hsub, List.take_take]
        congr 2 <;> omega
      rw [W] at r9
      have lW : (vs.take i ++ List.replicate (c' - i) (.nilIface : Value)).length = c' := by rw [List.length_append, tl, List.length_replicate]; omega
      simp only [e7]
      have nb2 : b2 < h.size := hr2.lt
      have r2 : Row h9 b2 [v] := k9.row hr2 (fun h => h)
      have rb : Row h9 b cs := k9.row row (fun h => h)
      refine ⟨by omega, by omega, by omega, by omega, ?_⟩
      rw [if_neg (by omega)]
      have m1 : Nat.min 1 ((((i + (sl + 1 - i) : Nat) : Int)) - (i : Int)).toNat = 1 := by rw [e7]; show min _ _ = _; omega
      have m2 : Nat.min ((sl : Int) - (i : Int)).toNat ((((i + (sl + 1 - i) : Nat) : Int)) - ((i + 1 : Nat) : Int)).toNat = sl - i := by rw [e7]; show min _ _ = _; omega
      push_cast at m1 m2
      push_cast
      rw [m1]
      refine rd2 r2 ?_
      have ad1 : ∀ k : Nat, ((⟨h.size, 0, none⟩ : Addr).add (((k : Nat) : Int).toNat * 1)) = ⟨h.size, k, none⟩ := fun k => by rw [add_mk, Int.toNat_natCast]; simp
      simp only [Option.map_some, ad1]
      refine wrS ?_
      refine stRow_row r9 (by rw [lW]; simp; omega) (by intro u hu; simp only [List.mem_singleton] at hu; subst hu; exact hv) ?_
      intro h11 s11 r11 k11
      refine ⟨by omega, by omega, by omega, by omega, ?_⟩
      rw [if_neg (by omega)]
      refine ⟨by omega, by omega, by omega, by omega, ?_⟩
      rw [if_neg (by omega)]
      simp only [Option.map_some]
      have ad2 : (⟨h.size, 0, none⟩ : Addr).add (((i : Int) + 1).toNat * 1) = ⟨h.size, i + 1, none⟩ := by rw [add_mk]; congr 1; omega
      have ad3 : (⟨b, o, none⟩ : Addr).add ((i : Int).toNat * 1) = ⟨b, o + i, none⟩ := by rw [add_mk]; congr 1; omega
      rw [ad2, ad3, m2]
      refine src (k11.row rb (fun e => by have e' : b = h.size := e; omega)) ?_
      refine wrS ?_
      have l1 := putL_length (cs := vs.take i ++ List.replicate (c' - i) (.nilIface : Value)) (new := [v]) (o := i) (by rw [lW]; simp; omega)
      have ld : (vs.drop i).length = sl - i := by rw [List.length_drop]; omega
      refine stRow_row r11 (by rw [l1, lW, ld]; omega) (fun u hu => hvs u (List.mem_of_mem_drop hu)) ?_
      intro h15 s15 r15 k15
      have nw : Nw h h15 := (Nw.st (Nw.st k9 k11 (Nat.le_refl _)) k15 (Nat.le_refl _))
      have fin : ((putL (putL (vs.take i ++ List.replicate (c' - i) (.nilIface : Value)) i [v]) (i + 1) (vs.drop i)).drop 0).take ((sl + 1) * 1) = insL vs i v := by
        rw [List.drop_zero, Nat.mul_one]
        apply List.ext_getElem?
        intro j
        rw [List.getElem?_take, getElem?_putL (by rw [l1, lW, ld]; omega), getElem?_putL (by rw [lW]; simp; omega), ld, insL_get (by omega)]
        by_cases hj : j < sl + 1
        · rw [if_pos hj]
          by_cases a1 : j < i
          · rw [if_pos (by omega), if_pos a1, if_pos a1, List.getElem?_append_left (by omega), List.getElem?_take, if_pos a1]
          · by_cases a2 : j = i
            · rw [if_pos (by omega), if_neg a1, if_pos (by simp; omega), if_neg a1, if_pos a2, a2, Nat.sub_self]; rfl
            · rw [if_neg (by omega), if_pos (by omega), if_neg a1, if_neg a2, List.getElem?_drop]
              congr 1; omega
        · rw [if_neg hj, if_neg (by omega), if_neg (by omega), List.getElem?_eq_none (by omega)]
      refine hk ⟨some ⟨h.size, 0, none⟩, sl + 1, c'⟩ h15 ⟨.inr ⟨h.size, 0, _, rfl, r15, by show sl + 1 ≤ c'; omega, ?_, ?_, fin⟩, fun x hx => ?_⟩ rfl (hn.trans nw (fun _ _ h => h.elim)) (nw.mono (fun _ _ h => h.elim)) (fun x hx => ?_)
      · rw [putL_length (by rw [l1, lW, ld]; omega), l1, lW]; show 0 + c' * 1 ≤ c'; omega
      · rw [insL_len (by omega)]; show vs.length + 1 = (sl + 1) * 1; omega
      · rw [blk_some] at hx; have := hn.size; simp only at hx; omega
      · rw [blk_some] at hx; simp only at hx; exact .inr (by omega)
    · -- in place
      have hcap : sl + 1 ≤ sc := by omega
      have ad : ∀ k : Nat, (⟨b, o, none⟩ : Addr).add (((k : Nat) : Int).toNat * 1) = ⟨b, o + k, none⟩ := fun k => by rw [add_mk, Int.toNat_natCast]; simp
      refine ⟨by omega, by omega, by omega, by omega, ?_⟩
      rw [if_neg (by omega)]
      have z6 : (((sl + 1 : Nat) : Int) - 0).toNat = sl + 1 := by omega
      have z7 : ((sc : Int) - 0).toNat = sc := by omega
      have a0 : (⟨b, o, none⟩ : Addr).add ((0 : Int).toNat * 1) = ⟨b, o, none⟩ := by rw [add_mk]; rfl
      simp only [Option.map_some, a0, z6, z7]
      have L1 : ∀ {K : Option Addr → Nat → Nat → Prop}, K (some ⟨b, o + (i + 1), none⟩) (sl - i) (sc - (i + 1)) → lsl 1 (some ⟨b, o, none⟩) sc ((i + 1 : Nat) : Int) ((sl + 1 : Nat) : Int) (sc : Int) K := by
        intro K hK
        refine ⟨by omega, by omega, by omega, by omega, ?_⟩
        rw [if_neg (by omega), Option.map_some, ad, show (((sl + 1 : Nat) : Int) - ((i + 1 : Nat) : Int)).toNat = sl - i by omega, show ((sc : Int) - ((i + 1 : Nat) : Int)).toNat = sc - (i + 1) by omega]
        exact hK
      have L2 : ∀ {K : Option Addr → Nat → Nat → Prop}, K (some ⟨b, o + i, none⟩) (sl + 1 - i) (sc - i) → lsl 1 (some ⟨b, o, none⟩) sc (i : Int) ((sl + 1 : Nat) : Int) (sc : Int) K := by
        intro K hK
        refine ⟨by omega, by omega, by omega, by omega, ?_⟩
        rw [if_neg (by omega), Option.map_some, ad, show (((sl + 1 : Nat) : Int) - (i : Int)).toNat = sl + 1 - i by omega, show ((sc : Int) - (i : Int)).toNat = sc - i by omega]
        exact hK
      refine L1 ?_
      have ovl : ∀ {K : Bool → Prop}, K false → ovlX (some ⟨b2, 0, none⟩) 1 (some ⟨b, o + (i + 1), none⟩) (sl - i) h K := by
        intro K hK
        obtain ⟨tb, lo, hi', hb, _⟩ := row
        refine ⟨.inr ⟨_, _, _, _, _, _, _, _, rfl, rfl, fun e => bne e.symm, hc2, ?_, ?_, hb, ?_⟩, hK⟩
        · unfold frozH; rw [hc2]; simp
        · unfold frozH; simp only [hc2]; simp
        · have : cs.toArray.size = cs.length := by simp
          omega
      refine ovl ?_
      refine cnd_t rfl ?_
      refine L1 (L2 ?_)
      have m1 : Nat.min (sl + 1 - i) (sl - i) = sl - i := by show min _ _ = _; omega
      have m2 : Nat.min 1 (sl + 1 - i) = 1 := by show min _ _ = _; omega
      rw [m1]
      refine src row ?_
      refine wrS ?_
      have ld : (vs.drop i).length = sl - i := by rw [List.length_drop]; omega
      refine stRow_row row (by rw [ld]; omega) (fun u hu => hvs u (List.mem_of_mem_drop hu)) ?_
      intro h22 s22 r22 k22
      refine L2 ?_
      rw [m2]
      refine rd2 (k22.row hr2 (fun e => bne e.symm)) ?_
      refine wrS ?_
      have l1 := putL_length (cs := cs) (new := vs.drop i) (o := o + (i + 1)) (by rw [ld]; omega)
      refine stRow_row r22 (by rw [l1]; simp; omega) (by intro u hu; simp only [List.mem_singleton] at hu; subst hu; exact hv) ?_
      intro h25 s25 r25 k25
      have kk : Keep (· = b) h h25 := k22.trans' k25
      have fin : ((putL (putL cs (o + (i + 1)) (vs.drop i)) (o + i) [v]).drop o).take ((sl + 1) * 1) = insL vs i v := by
        rw [Nat.mul_one]
        apply List.ext_getElem?
        intro j
        rw [List.getElem?_take, List.getElem?_drop, getElem?_putL (by rw [l1]; simp; omega), getElem?_putL (by rw [ld]; omega), ld, insL_get (by omega)]
        by_cases hj : j < sl + 1
        · rw [if_pos hj]
          by_cases a1 : j < i
          · rw [if_pos (by omega), if_pos (by omega), if_pos a1, ← hsub, List.getElem?_take, if_pos (by omega), List.getElem?_drop]
          · by_cases a2 : j = i
            · rw [if_neg (by omega), if_pos (by simp; omega), if_neg a1, if_pos a2, a2, Nat.sub_self]; rfl
            · rw [if_neg (by omega), if_neg (by simp; omega), if_neg (by omega), if_pos (by omega), if_neg a1, if_neg a2, List.getElem?_drop]
              congr 1; omega
        · rw [if_neg hj, if_neg (by omega), if_neg (by omega), List.getElem?_eq_none (by omega)]
      refine hk ⟨some ⟨b, o, none⟩, sl + 1, sc⟩ h25 ⟨.inr ⟨b, o, _, rfl, r25, hcap, ?_, ?_, fin⟩, fun x hx => ?_⟩ rfl (hn.trans kk (fun x hx e => by have e' : x = b := e; omega)) (kk.mono (fun x _ e => blk_some.2 (show b = x from e.symm))) (fun x hx => .inl hx)
      · rw [putL_length (by rw [l1]; simp; omega), l1]; show o + sc * 1 ≤ _; omega
      · rw [insL_len (by omega)]; show vs.length + 1 = (sl + 1) * 1; omega
      · rw [blk_some] at hx; simp only at hx; omega
end Go.Proofs.Ytopnljjfpfnhfaa
