/- Contracts of package alloc, second part: the free runs, a copy, and 'awake'. -/
import Derived.Test.YtmmoilenemogoaaPAlloc
import Derived.Test.YtmmoilenemogoaaXSlice
namespace Go.Proofs.Ytmmoilenemogoaa
open Go D
set_option linter.unusedVariables false
set_option linter.unusedSimpArgs false
namespace Alloc

/-- the runs of free units among the first n -/
def runs (bits : List Bool) : Nat → List (Int × Int)
  | 0 => []
  | n + 1 => if bits.getD n false then runs bits n else
      if n ≠ 0 ∧ bits.getD (n - 1) false = false then (runs bits n).dropLast ++ [(((runs bits n).getLastD (0, 0)).1, ((runs bits n).getLastD (0, 0)).2 + 1)] else runs bits n ++ [((n : Int), 1)]

def pairV (x : Int × Int) : List Value := [.int .i64 x.1, .int .i64 x.2]

theorem flat_pairs_length (l : List (Int × Int)) : (l.flatMap pairV).length = l.length * 2 := by
  induction l with
  | nil => rfl
  | cons x r ih => simp only [List.flatMap_cons, List.length_append, ih, List.length_cons]; simp [pairV]; omega

theorem flat_pairs_get (l : List (Int × Int)) (i : Nat) (x : Int × Int) (h : l[i]? = some x) : (l.flatMap pairV)[i * 2]? = some (.int .i64 x.1) ∧ (l.flatMap pairV)[i * 2 + 1]? = some (.int .i64 x.2) := by
  induction l generalizing i with
  | nil => simp at h
  | cons y r ih =>
    rw [List.flatMap_cons]
    cases i with
    | zero =>
      simp only [List.getElem?_cons_zero, Option.some.injEq] at h
      subst h
      exact ⟨rfl, rfl⟩
    | succ i =>
      simp only [List.getElem?_cons_succ] at h
      have := ih i h
      have e : (pairV y).length = 2 := rfl
      rw [List.getElem?_append_right (by omega), List.getElem?_append_right (by omega), e]
      rw [show (i + 1) * 2 - 2 = i * 2 by omega, show (i + 1) * 2 + 1 - 2 = i * 2 + 1 by omega]
      exact this

theorem runs_bound (bits : List Bool) : ∀ n, (runs bits n).length ≤ n ∧ ∀ x ∈ runs bits n, 0 ≤ x.1 ∧ x.1 ≤ n ∧ 0 ≤ x.2 ∧ x.2 ≤ n
  | 0 => ⟨by simp [runs], by simp [runs]⟩
  | n + 1 => by
    obtain ⟨h1, h2⟩ := runs_bound bits n
    unfold runs
    split
    · exact ⟨by omega, fun x hx => by have := h2 x hx; omega⟩
    · split
      · rename_i hb
        have hl : 0 ≤ ((runs bits n).getLastD (0, 0)).1 ∧ ((runs bits n).getLastD (0, 0)).1 ≤ n ∧ 0 ≤ ((runs bits n).getLastD (0, 0)).2 ∧ ((runs bits n).getLastD (0, 0)).2 ≤ n := by
          rw [List.getLastD_eq_getLast?]
          cases hg : (runs bits n).getLast? with
          | none => simp
          | some x => exact h2 x (List.mem_of_getLast? hg)
        refine ⟨by simp; omega, fun x hx => ?_⟩
        rcases List.mem_append.1 hx with hx | hx
        · have := h2 x (List.dropLast_subset _ hx); omega
        · simp only [List.mem_singleton] at hx
          subst hx
          simp only
          omega
      · refine ⟨by simp; omega, fun x hx => ?_⟩
        rcases List.mem_append.1 hx with hx | hx
        · have := h2 x hx; omega
        · simp only [List.mem_singleton] at hx
          subst hx
          simp only
          omega

theorem runs_ne (bits : List Bool) : ∀ n, n ≠ 0 → bits.getD (n - 1) false = false → runs bits n ≠ []
  | 0, h, _ => absurd rfl h
  | n + 1, _, h => by
    unfold runs
    rw [show n + 1 - 1 = n from rfl] at h
    rw [if_neg (by rw [h]; simp)]
    split <;> simp

theorem flat_last (l : List (Int × Int)) (hne : l ≠ []) : l.flatMap pairV = l.dropLast.flatMap pairV ++ pairV (l.getLastD (0, 0)) := by
  conv => lhs; rw [← List.dropLast_concat_getLast hne]
  rw [List.flatMap_append]
  congr 1
  rw [List.flatMap_cons, List.flatMap_nil, List.append_nil]
  congr 1
  rw [List.getLastD_eq_getLast?, List.getLast?_eq_some_getLast hne]
  rfl

/-- what Runs gives: a slice of new cells -/
theorem runs_spec {h : Heap} {p q : Nat} {bits : List Bool} {free : Int} (hr : Rep0 h p q bits free) {R : Sl → Heap → Prop}
    (hk : ∀ (s : Sl) h', SlR h' 2 s.a s.len s.cap ((runs bits bits.length).flatMap pairV) → (∀ b, blk s.a b → h.size ≤ b) → Keep (fun _ => False) h h' → R s h') :
    CallT Try.prog alloc_Space_Runs_no [.pointer (some ⟨p, 0, none⟩)] h [.sc .sl] R := by
  apply alloc_Space_Runs_call
  have hle := hr.le
  simp only [alloc_Space_Runs, nn_eq, add_mk, Nat.zero_add]
  refine ldI_at hr.free.2 ?_
  refine LoopT.intro (fun s h' => 0 ≤ s.2 ∧ s.2 ≤ bits.length ∧ SlR h' 2 s.1.a s.1.len s.1.cap ((runs bits s.2.toNat).flatMap pairV) ∧ (∀ b, blk s.1.a b → h.size ≤ b) ∧ Keep (fun _ => False) h h')
    (fun s _ => (bits.length - s.2).toNat) ⟨by simp, by simp only; omega, SlR.nil _ _, fun b (hb : blk none b) => (by obtain ⟨x, hx, _⟩ := hb; cases hx), .refl _ _⟩ ?_
  rintro ⟨s, i⟩ h1 ⟨g1, g2, g3, g4, g5⟩
  replace g1 : 0 ≤ i := g1
  replace g2 : i ≤ bits.length := g2
  replace g3 : SlR h1 2 s.a s.len s.cap ((runs bits i.toNat).flatMap pairV) := g3
  replace g4 : ∀ b, blk s.a b → h.size ≤ b := g4
  show cnd (decide (i < (bits.length : Int))) _ _
  have hr1 := hr.keep g5 (by simp) (by simp)
  have hblen := runs_bound bits i.toNat
  have hslen : s.len = (runs bits i.toNat).length := by
    have := g3.len
    rw [flat_pairs_length] at this
    omega
  refine cnd_dec (fun hlt => ?_) (fun hge => ?_)
  · unfold withJ
    show CallT Try.prog alloc_Space_taken_no [.pointer (some ⟨p, 0, none⟩), .int .i64 i] h1 _ _
    refine taken_spec hr1 g1 hlt ?_
    have hw : w64 (i + 1) = i + 1 := w64_id (by omega) (by omega)
    have hn : (i + 1).toNat = i.toNat + 1 := by omega
    refine cnd_of (fun hb => ?_) (fun hb => ?_)
    · show (0 ≤ w64 (i + 1) ∧ w64 (i + 1) ≤ (bits.length : Int) ∧ SlR h1 2 s.a s.len s.cap ((runs bits (w64 (i + 1)).toNat).flatMap pairV) ∧ _) ∧ ((bits.length : Int) - w64 (i + 1)).toNat < ((bits.length : Int) - i).toNat
      rw [hw, hn]
      refine ⟨⟨by omega, by omega, ?_, g4, g5⟩, by omega⟩
      unfold runs
      rw [if_pos hb]
      exact g3
    · have bump : i ≠ 0 → bits.getD (i.toNat - 1) false = false →
          D.idx s.a s.len (w64 ((s.len : Int) - 1)) fun a14 => inB 2 1 <| ldI .i64 ((a14.add ((w64 ((s.len : Int) - 1)).toNat * 2)).add ((1 : Int).toNat * 1)) h1 fun n15 =>
            D.idx s.a s.len (w64 ((s.len : Int) - 1)) fun a16 => inB 2 1 <| stC ((a16.add ((w64 ((s.len : Int) - 1)).toNat * 2)).add ((1 : Int).toNat * 1)) (.int .i64 (w64 (n15 + 1))) h1 fun h17 =>
              (0 ≤ w64 (i + 1) ∧ w64 (i + 1) ≤ (bits.length : Int) ∧ SlR h17 2 s.a s.len s.cap ((runs bits (w64 (i + 1)).toNat).flatMap pairV) ∧ (∀ b, blk s.a b → h.size ≤ b) ∧ Keep (fun _ => False) h h17) ∧ ((bits.length : Int) - w64 (i + 1)).toNat < ((bits.length : Int) - i).toNat := by
        intro hi0 hprev
        have hne := runs_ne bits i.toNat (by omega) hprev
        have hlen0 : 0 < (runs bits i.toNat).length := List.length_pos_iff.2 hne
        have hwl : w64 ((s.len : Int) - 1) = ((s.len - 1 : Nat) : Int) := by rw [w64_id (by omega) (by omega)]; omega
        rw [hwl]
        refine g3.idx (by omega) (by omega) fun x hx hsp => ?_
        refine inB_of (by decide) (by decide) ?_
        have g3' := g3
        rw [hx] at g3'
        rw [Int.toNat_natCast, add_add hsp]
        have hlast : (runs bits i.toNat)[s.len - 1]? = some ((runs bits i.toNat).getLastD (0, 0)) := by
          rw [List.getLastD_eq_getLast?, hslen, List.getLast?_eq_getElem?, List.getElem?_eq_getElem (by omega)]
          rfl
        have hcell := (flat_pairs_get _ _ _ hlast).2
        refine ldI_at (n := ((runs bits i.toNat).getLastD (0, 0)).2) ?_ ?_
        · rw [show (1 : Int).toNat * 1 = 1 from rfl, g3'.cell (by omega)]
          exact hcell
        · rw [hx]
          refine idx_some (by omega) (by omega) ?_
          refine inB_of (by decide) (by decide) ?_
          rw [add_add hsp, show (1 : Int).toNat * 1 = 1 from rfl]
          refine g3'.set (by omega) rfl ?_
          intro h2 q1 q2 q3
          rw [hw, hn]
          have hbl := hblen.2 ((runs bits i.toNat).getLastD (0, 0)) (List.mem_of_getElem? hlast)
          refine ⟨⟨by omega, by omega, ?_, by rw [← hx]; exact g4, g5.trans q3 (fun y hy hyx => ?_)⟩, by omega⟩
          · have e : runs bits (i.toNat + 1) = (runs bits i.toNat).dropLast ++ [(((runs bits i.toNat).getLastD (0, 0)).1, ((runs bits i.toNat).getLastD (0, 0)).2 + 1)] := by
              conv => lhs; unfold runs
              rw [if_neg (by rw [hb]; simp), if_pos ⟨by omega, hprev⟩]
            rw [e]
            rw [w64_id (by omega) (by omega), flat_last _ hne] at q2
            rw [List.flatMap_append]
            have hl2 : ((runs bits i.toNat).dropLast.flatMap pairV).length = (s.len - 1) * 2 := by rw [flat_pairs_length, List.length_dropLast, hslen]
            rw [List.set_append_right _ _ (by omega), hl2, show (s.len - 1) * 2 + 1 - (s.len - 1) * 2 = 1 by omega] at q2
            simpa [pairV] using q2
          · have := g4 x.block (by rw [hx]; exact blk_some.2 rfl)
            have hyx' : y = x.block := hyx
            omega
      have start : ¬ (i ≠ 0 ∧ bits.getD (i.toNat - 1) false = false) →
          newB [.int .i64 i, .int .i64 1] 35 h1 fun a18 h19 => ldRow (1 * 2) a18 h19 fun cs23 => D.app [.int .i64 0, .int .i64 0] 35 2 16 s.a s.len s.cap cs23 1 h19 fun o20 c21 h22 =>
            (0 ≤ w64 (i + 1) ∧ w64 (i + 1) ≤ (bits.length : Int) ∧ SlR h22 2 o20 (s.len + 1) c21 ((runs bits (w64 (i + 1)).toNat).flatMap pairV) ∧ (∀ b, blk o20 b → h.size ≤ b) ∧ Keep (fun _ => False) h h22) ∧ ((bits.length : Int) - w64 (i + 1)).toNat < ((bits.length : Int) - i).toNat := by
        intro hno
        refine newB_row ?_
        intro h2 q1 q2 q3
        refine ldRow_row q2 (by simp) ?_
        have g3' := g3.keep q3 (fun _ _ h => h)
        refine g3'.app rfl (by simp) (by simp [Value.oneCell']) (by omega) ?_
        intro a' c' h3 w1 w2 w3
        rw [hw, hn]
        refine ⟨⟨by omega, by omega, ?_, ?_, ?_⟩, by omega⟩
        · have e : runs bits (i.toNat + 1) = runs bits i.toNat ++ [((i.toNat : Int), 1)] := by
            conv => lhs; unfold runs
            rw [if_neg (by rw [hb]; simp), if_neg (fun hh => hno ⟨by omega, hh.2⟩)]
          rw [e, List.flatMap_append]
          simpa [pairV, Int.toNat_of_nonneg g1] using w1
        · intro b hb'
          rcases w3 with ⟨rfl, _⟩ | ⟨rfl, _⟩
          · exact g4 b hb'
          · have := g5.size
            rw [blk_some] at hb'
            simp only at hb'
            omega
        · have k2 : Keep (fun y => h.size ≤ y) h1 h3 := (q3.mono (fun _ _ h => h.elim)).trans w2 (fun y hy hyb => g4 y hyb)
          exact g5.trans k2 (fun y hy hyb => by
            have : h.size ≤ y := hyb
            omega)
      by_cases hi0 : i > 0
      · refine cnd_t (decide_eq_true hi0) ?_
        show CallT Try.prog alloc_Space_taken_no [.pointer (some ⟨p, 0, none⟩), .int .i64 (w64 (i - 1))] h1 _ _
        rw [w64_id (x := i - 1) (by omega) (by omega)]
        refine taken_spec hr1 (by omega) (by omega) ?_
        rw [show (i - 1).toNat = i.toNat - 1 by omega]
        refine cnd_of (fun hb2 => ?_) (fun hb2 => ?_)
        · exact bump (by omega) (by simpa using hb2)
        · refine start (fun hh => ?_)
          rw [hh.2] at hb2
          simp at hb2
      · refine cnd_f (decide_eq_false hi0) ?_
        refine cnd_f rfl ?_
        exact start (fun hh => hi0 (by omega))
  · have hin : i = bits.length := by omega
    subst hin
    show CallT Try.prog slices_Clip_2_int_no [.slice s.a s.len s.cap] h1 _ _
    apply slices_Clip_2_int_call
    simp only [slices_Clip_2_int]
    refine ⟨by decide, by omega, by omega, by have := g3.le; omega, ?_⟩
    have e : (if (s.len : Int) = 0 then s.a else s.a.map (·.add ((0 : Int).toNat * 2))) = s.a := by
      split
      · rfl
      · cases s.a with
        | none => rfl
        | some x => rfl
    rw [e]
    rw [Int.toNat_natCast] at g3
    refine hk _ h1 ?_ g4 g5
    have e2 : ((s.len : Int) - 0).toNat = s.len := by omega
    show SlR h1 2 s.a ((s.len : Int) - 0).toNat ((s.len : Int) - 0).toNat _
    rw [e2]
    rcases g3 with ⟨r1, r2, r3, r4⟩ | ⟨b, o, cs, r1, r2, r3, r4, r5, r6⟩
    · exact .inl ⟨r1, r2, r2, r4⟩
    · have : s.len * 2 ≤ s.cap * 2 := Nat.mul_le_mul_right _ r3
      exact .inr ⟨b, o, cs, r1, r2, Nat.le_refl _, by omega, r5, r6⟩

theorem flip_all {bits : List Bool} {s k : Int} {t : Bool} (h : AllOf bits s k t) : AllOf (flip bits s.toNat k.toNat) s k (!t) := by
  obtain ⟨h1, h2, h3, h4⟩ := h
  refine ⟨h1, h2, by rw [flip_length]; exact h3, fun i hi1 hi2 => ?_⟩
  rw [flip_get, h4 i hi1 hi2]
  simp only [Option.map_some]
  rw [if_pos (by omega)]
theorem flip_flip (bits : List Bool) (s k : Nat) : flip (flip bits s k) s k = bits := by
  apply List.ext_getElem?
  intro i
  rw [flip_get, flip_get]
  cases bits[i]? with
  | none => rfl
  | some b =>
    simp only [Option.map_some]
    by_cases h : s ≤ i ∧ i < s + k
    · rw [if_pos h, if_pos h, Bool.not_not]
    · rw [if_neg h, if_neg h]

end Alloc
end Go.Proofs.Ytmmoilenemogoaa
