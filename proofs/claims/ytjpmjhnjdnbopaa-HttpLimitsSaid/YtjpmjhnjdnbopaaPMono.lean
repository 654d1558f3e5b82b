/- A request's beginning, and more bytes behind it: what the reader tells stays. -/
import Derived.Test.YtjpmjhnjdnbopaaPParseE
namespace Go.Proofs.Ytjpmjhnjdnbopaa
open Go D
set_option linter.unusedVariables false
set_option linter.unusedSimpArgs false

theorem at2_app {a b : List UInt8} {i : Nat} (hi : i + 2 ≤ a.length) : At2 (a ++ b) i ↔ At2 a i := by
  unfold At2
  rw [List.getElem?_append_left (by omega), List.getElem?_append_left (by omega)]
theorem at2_len {a : List UInt8} {i : Nat} (h : At2 a i) : i + 2 ≤ a.length := by
  have := (List.getElem?_eq_some_iff.1 h.2).1
  omega
theorem crlf_app {a b : List UInt8} {i : Nat} (h : crlf a = some i) : crlf (a ++ b) = some i := by
  have hlt := crlf_lt h
  rcases crlf_is a with ⟨e, _⟩ | ⟨k, e, hk, hn⟩
  · rw [e] at h; cases h
  · rw [e] at h
    injection h with h
    subst h
    exact crlf_some ((at2_app hlt).2 hk) (fun j hj hj2 => hn j hj ((at2_app (by omega)).1 hj2))
theorem crlf_back {a b : List UInt8} {i : Nat} (h : crlf (a ++ b) = some i) (hi : i + 2 ≤ a.length) : crlf a = some i := by
  rcases crlf_is (a ++ b) with ⟨e, _⟩ | ⟨k, e, hk, hn⟩
  · rw [e] at h; cases h
  · rw [e] at h
    injection h with h
    subst h
    exact crlf_some ((at2_app hi).1 hk) (fun j hj hj2 => hn j hj ((at2_app (by omega)).2 hj2))
theorem crlf_far {a b : List UInt8} {i : Nat} (h : crlf a = none) (h2 : crlf (a ++ b) = some i) : a.length ≤ i + 1 := by
  rcases Nat.lt_or_ge (i + 1) a.length with h3 | h3
  · rw [crlf_back h2 (by omega)] at h; cases h
  · exact h3

/-! ### lines -/
theorem lineF_app {bound : Nat} {long : Int} {a b : List UInt8} {x : List UInt8 × Nat} (h : lineF bound long a = .ok x) : lineF bound long (a ++ b) = .ok x := by
  obtain ⟨l, n⟩ := x
  obtain ⟨i, h1, h2, h3, h4, h5, h6⟩ := lineF_ok h
  unfold lineF
  rw [crlf_app h1]
  simp only
  rw [if_neg (by omega), List.take_append_of_le_length (by omega), ← h2, if_neg (by simp [h5]), h3]
theorem lineF_bad {bound : Nat} {long : Int} {a b : List UInt8} {e : Int} (h : lineF bound long a = .error e) (he : e ≠ 0) : lineF bound long (a ++ b) = .error e := by
  unfold lineF at h
  cases hc : crlf a with
  | some i =>
    have hlt := crlf_lt hc
    rw [hc] at h
    unfold lineF
    rw [crlf_app hc]
    simp only at h ⊢
    rw [List.take_append_of_le_length (by omega)]
    split at h
    · rw [if_pos (by assumption)]; exact h
    · rw [if_neg (by assumption)]
      split at h
      · rw [if_pos (by assumption)]; exact h
      · cases h
  | none =>
    rw [hc] at h
    simp only at h
    split at h
    · rename_i hb
      injection h with h
      subst h
      unfold lineF
      cases hc2 : crlf (a ++ b) with
      | some i =>
        have := crlf_far hc hc2
        simp only
        rw [if_pos (by omega)]
      | none =>
        simp only
        rw [if_pos (by rw [List.length_append]; omega)]
    · injection h with h
      exact absurd h.symm he
theorem lineF_back {bound : Nat} {long : Int} {a b l : List UInt8} {n : Nat} (h : lineF bound long (a ++ b) = .ok (l, n)) (hn : n ≤ a.length) : lineF bound long a = .ok (l, n) := by
  obtain ⟨i, h1, h2, h3, h4, h5, h6⟩ := lineF_ok h
  rw [List.take_append_of_le_length (by omega)] at h2
  unfold lineF
  rw [crlf_back h1 (by omega)]
  simp only
  rw [if_neg (by omega), ← h2, if_neg (by simp [h5]), h3]

/-! ### header lines -/
abbrev HR := Except Int (List HP × Nat × Nat)
def hcons (p : HP) (i : Nat) : HR → HR
  | .ok (l, n, k') => .ok (p :: l, i + 2 + n, k')
  | .error e => .error e
theorem headersF_hcons {k hd i : Nat} {rest : List UInt8} {p : HP} (h : crlf rest = some i) (hi : i ≠ 0) (hb : ¬ 65536 < hd + i + 2) (hp : headF (rest.take i) = some p) : headersF (k + 1) rest hd = hcons p i (headersF k (rest.drop (i + 2)) (hd + i + 2)) := by
  rw [headersF_step h hi hb, hp]
  show (match headersF k (rest.drop (i + 2)) (hd + i + 2) with | .ok (l, n, k') => _ | .error e => _) = _
  cases headersF k (rest.drop (i + 2)) (hd + i + 2) with
  | ok x => obtain ⟨l, n, k'⟩ := x; rfl
  | error e => rfl
theorem headersF_308 {k hd i : Nat} {rest : List UInt8} (h : crlf rest = some i) (hi : i ≠ 0) (hb : ¬ 65536 < hd + i + 2) (hp : headF (rest.take i) = none) : headersF (k + 1) rest hd = .error 308 := by
  rw [headersF_step h hi hb, hp]

theorem headersF_app : ∀ {k hd : Nat} {a b : List UInt8}, (∀ x, headersF k a hd = .ok x → headersF k (a ++ b) hd = .ok x) ∧ (∀ e, e ≠ 0 → headersF k a hd = .error e → headersF k (a ++ b) hd = .error e) ∧ (∀ l n k', headersF k (a ++ b) hd = .ok (l, n, k') → n ≤ a.length → headersF k a hd = .ok (l, n, k')) := by
  intro k
  induction k with
  | zero =>
    intro hd a b
    cases hc : crlf a with
    | none =>
      have e0 := headersF_no (k := 0) (hd := hd) hc
      refine ⟨fun x hx => ?_, fun e he hx => ?_, fun l n k' hx hn => ?_⟩
      · rw [e0] at hx; split at hx <;> cases hx
      · rw [e0] at hx
        split at hx
        · injection hx with hx
          subst hx
          cases hc2 : crlf (a ++ b) with
          | none => rw [headersF_no hc2, if_pos (by rw [List.length_append]; omega)]
          | some i =>
            have := crlf_far hc hc2
            exact headersF_big hc2 (by omega)
        · injection hx with hx; exact absurd hx.symm he
      · have hx2 := headersF_small hx
        cases hc2 : crlf (a ++ b) with
        | none => rw [headersF_no hc2] at hx; split at hx <;> cases hx
        | some i =>
          have := crlf_far hc hc2
          by_cases hb : 65536 < hd + i + 2
          · rw [headersF_big hc2 hb] at hx; cases hx
          · by_cases hi : i = 0
            · subst hi
              rw [headersF_end hc2 (by omega)] at hx
              injection hx with hx
              injection hx with h1 h2
              injection h2 with h2 h3
              omega
            · rw [headersF_many hc2 hi] at hx; cases hx
    | some i =>
      have hc2 := crlf_app (b := b) hc
      have : headersF 0 (a ++ b) hd = headersF 0 a hd := by
        simp [headersF, hc, hc2]
      rw [this]
      exact ⟨fun x h => h, fun e _ h => h, fun l n k' h _ => h⟩
  | succ k ih =>
    intro hd a b
    cases hc : crlf a with
    | none =>
      have e0 := headersF_no (k := k + 1) (hd := hd) hc
      refine ⟨fun x hx => ?_, fun e he hx => ?_, fun l n k' hx hn => ?_⟩
      · rw [e0] at hx; split at hx <;> cases hx
      · rw [e0] at hx
        split at hx
        · injection hx with hx
          subst hx
          cases hc2 : crlf (a ++ b) with
          | none => rw [headersF_no hc2, if_pos (by rw [List.length_append]; omega)]
          | some i =>
            have := crlf_far hc hc2
            exact headersF_big hc2 (by omega)
        · injection hx with hx; exact absurd hx.symm he
      · cases hc2 : crlf (a ++ b) with
        | none => rw [headersF_no hc2] at hx; split at hx <;> cases hx
        | some i =>
          have := crlf_far hc hc2
          by_cases hb : 65536 < hd + i + 2
          · rw [headersF_big hc2 hb] at hx; cases hx
          · by_cases hi : i = 0
            · subst hi
              rw [headersF_end hc2 (by omega)] at hx
              injection hx with hx
              injection hx with h1 h2
              injection h2 with h2 h3
              omega
            · cases hp : headF ((a ++ b).take i) with
              | none => rw [headersF_308 hc2 hi hb hp] at hx; cases hx
              | some p =>
                rw [headersF_hcons hc2 hi hb hp] at hx
                cases hr : headersF k ((a ++ b).drop (i + 2)) (hd + i + 2) with
                | error e => rw [hr] at hx; cases hx
                | ok y =>
                  obtain ⟨l2, n2, k2⟩ := y
                  rw [hr] at hx
                  injection hx with hx
                  injection hx with h1 h2
                  injection h2 with h2 h3
                  omega
    | some i =>
      have hc2 := crlf_app (b := b) hc
      have hlt := crlf_lt hc
      by_cases hb : 65536 < hd + i + 2
      · have e1 := headersF_big (k := k + 1) hc hb
        have e2 := headersF_big (k := k + 1) hc2 hb
        rw [e1, e2]
        exact ⟨fun x h => h, fun e _ h => h, fun l n k' h _ => h⟩
      · by_cases hi : i = 0
        · subst hi
          have e1 := headersF_end (k := k + 1) (hd := hd) hc (by omega)
          have e2 := headersF_end (k := k + 1) (hd := hd) hc2 (by omega)
          rw [e1, e2]
          exact ⟨fun x h => h, fun e _ h => h, fun l n k' h _ => h⟩
        · have htk : (a ++ b).take i = a.take i := List.take_append_of_le_length (by omega)
          have hdr : (a ++ b).drop (i + 2) = a.drop (i + 2) ++ b := List.drop_append_of_le_length (by omega)
          cases hp : headF (a.take i) with
          | none =>
            have e1 := headersF_308 (k := k) hc hi hb hp
            have e2 := headersF_308 (k := k) hc2 hi hb (by rw [htk]; exact hp)
            rw [e1, e2]
            exact ⟨fun x h => h, fun e _ h => h, fun l n k' h _ => h⟩
          | some p =>
            have e1 := headersF_hcons (k := k) hc hi hb hp
            have e2 := headersF_hcons (k := k) hc2 hi hb (by rw [htk]; exact hp)
            rw [hdr] at e2
            rw [e1, e2]
            obtain ⟨i1, i2, i3⟩ := ih (hd := hd + i + 2) (a := a.drop (i + 2)) (b := b)
            refine ⟨fun x hx => ?_, fun e he hx => ?_, fun l n k' hx hn => ?_⟩
            · cases hr : headersF k (a.drop (i + 2)) (hd + i + 2) with
              | error e => rw [hr] at hx; cases hx
              | ok y => rw [i1 y hr, ← hr]; exact hx
            · cases hr : headersF k (a.drop (i + 2)) (hd + i + 2) with
              | ok y => obtain ⟨l2, n2, k2⟩ := y; rw [hr] at hx; cases hx
              | error e2 =>
                rw [hr] at hx
                injection hx with hx
                subst hx
                rw [i2 _ he hr]
                rfl
            · cases hr : headersF k (a.drop (i + 2) ++ b) (hd + i + 2) with
              | error e => rw [hr] at hx; cases hx
              | ok y =>
                obtain ⟨l2, n2, k2⟩ := y
                have hx0 := hx
                rw [hr] at hx
                injection hx with hx
                injection hx with h1 h2
                injection h2 with h2 h3
                rw [i3 l2 n2 k2 hr (by rw [List.length_drop]; omega)]
                subst h1 h2 h3
                rfl

/-! ### chunks -/
theorem badEnd_app {r b : List UInt8} {m : Nat} : badEnd r m = true → badEnd (r ++ b) m = true := by
  unfold badEnd
  intro h
  simp only [Bool.or_eq_true, Bool.and_eq_true, decide_eq_true_eq, Bool.not_eq_true', decide_eq_false_iff_not] at h ⊢
  rcases h with ⟨h1, h2⟩ | ⟨h1, h2⟩
  · left
    rw [List.getElem?_append_left h1, List.length_append]
    exact ⟨by omega, h2⟩
  · right
    rw [List.getElem?_append_left h1, List.length_append]
    exact ⟨by omega, h2⟩
theorem badEnd_same {r b : List UInt8} {m : Nat} (h : m + 2 ≤ r.length) : badEnd (r ++ b) m = badEnd r m := by
  unfold badEnd
  rw [List.getElem?_append_left (by omega), List.getElem?_append_left (by omega), List.length_append, decide_eq_true (show m < r.length + b.length by omega), decide_eq_true (show m < r.length by omega), decide_eq_true (show m + 1 < r.length + b.length by omega), decide_eq_true (show m + 1 < r.length by omega)]

abbrev PR := Except Int (List UInt8 × Nat)
def padd (n : Nat) : PR → PR
  | .ok (b, c) => .ok (b, n + c)
  | .error e => .error e
theorem piecesF_padd {rest body l : List UInt8} {hd k n m : Nat} (h : lineF 256 308 rest = .ok (l, n)) (h2 : sizeF l = some m) (h3 : ¬ 1048576 < body.length + m) (h4 : m ≠ 0) (h5 : badEnd (rest.drop n) m = false) (h6 : ¬ rest.length < n + m + 2) :
    piecesF rest body hd k = padd (n + m + 2) (piecesF (rest.drop (n + m + 2)) (body ++ (rest.drop n).take m) hd k) := by
  rw [piecesF_step h h2 h3 h4 h5 h6]
  cases piecesF (rest.drop (n + m + 2)) (body ++ (rest.drop n).take m) hd k with
  | ok x => rfl
  | error e => rfl
def plast (body : List UInt8) (n : Nat) : HR → PR
  | .error e => .error e
  | .ok (_, c, _) => .ok (body, n + c)
theorem piecesF_plast {rest body l : List UInt8} {hd k n : Nat} (h : lineF 256 308 rest = .ok (l, n)) (h2 : sizeF l = some 0) (h3 : ¬ 1048576 < body.length) : piecesF rest body hd k = plast body n (headersF k (rest.drop n) hd) := by
  rw [piecesF_last h h2 h3]
  cases headersF k (rest.drop n) hd with
  | ok x => obtain ⟨l, c, k'⟩ := x; rfl
  | error e => rfl

theorem piecesF_app : ∀ (N : Nat) {a b body : List UInt8} {hd k : Nat}, a.length ≤ N → (∀ x, piecesF a body hd k = .ok x → piecesF (a ++ b) body hd k = .ok x) ∧ (∀ e, e ≠ 0 → piecesF a body hd k = .error e → piecesF (a ++ b) body hd k = .error e) ∧ (∀ x n, piecesF (a ++ b) body hd k = .ok (x, n) → n ≤ a.length → piecesF a body hd k = .ok (x, n)) := by
  intro N
  induction N with
  | zero =>
    intro a b body hd k hN
    have ha : a = [] := List.length_eq_zero_iff.1 (by omega)
    subst ha
    have hl : lineF 256 308 ([] : List UInt8) = .error 0 := rfl
    have e0 := piecesF_line (body := body) (hd := hd) (k := k) hl
    refine ⟨fun x hx => (by rw [e0] at hx; cases hx), fun e he hx => ?_, fun x n hx hn => ?_⟩
    · rw [e0] at hx; injection hx with hx; exact absurd hx.symm he
    · have hn0 : n = 0 := by simpa using hn
      subst hn0
      rw [List.nil_append] at hx
      exfalso
      cases hL : lineF 256 308 b with
      | error e => rw [piecesF_line hL] at hx; cases hx
      | ok y =>
        obtain ⟨l, n⟩ := y
        obtain ⟨i, _, _, h3, _⟩ := lineF_ok hL
        cases hs : sizeF l with
        | none => rw [piecesF_size hL hs] at hx; cases hx
        | some m =>
          by_cases hb : 1048576 < body.length + m
          · rw [piecesF_big hL hs hb] at hx; cases hx
          by_cases hm : m = 0
          · subst hm
            rw [piecesF_plast hL hs (by omega)] at hx
            cases hr : headersF k (b.drop n) hd with
            | error e => rw [hr] at hx; cases hx
            | ok z =>
              obtain ⟨_, c, _⟩ := z
              rw [hr] at hx
              injection hx with hx
              injection hx with _ hx
              omega
          cases hbe : badEnd (b.drop n) m with
          | true => rw [piecesF_end hL hs hb hm hbe] at hx; cases hx
          | false =>
            by_cases hlt : b.length < n + m + 2
            · rw [piecesF_more hL hs hb hm hbe hlt] at hx; cases hx
            · rw [piecesF_padd hL hs hb hm hbe hlt] at hx
              cases hr : piecesF (b.drop (n + m + 2)) (body ++ (b.drop n).take m) hd k with
              | error e => rw [hr] at hx; cases hx
              | ok z =>
                obtain ⟨_, c⟩ := z
                rw [hr] at hx
                injection hx with hx
                injection hx with _ hx
                omega
  | succ N ih =>
    intro a b body hd k hN
    cases hL : lineF 256 308 a with
    | error e0 =>
      have e1 := piecesF_line (body := body) (hd := hd) (k := k) hL
      refine ⟨fun x hx => (by rw [e1] at hx; cases hx), fun e he hx => ?_, fun x n hx hn => ?_⟩
      · rw [e1] at hx
        injection hx with hx
        subst hx
        exact piecesF_line (lineF_bad hL he)
      · exfalso
        cases hL2 : lineF 256 308 (a ++ b) with
        | error e => rw [piecesF_line hL2] at hx; cases hx
        | ok y =>
          obtain ⟨l, n'⟩ := y
          have far : ¬ n' ≤ a.length := fun hle => by rw [lineF_back hL2 hle] at hL; cases hL
          cases hs : sizeF l with
          | none => rw [piecesF_size hL2 hs] at hx; cases hx
          | some m =>
            by_cases hb : 1048576 < body.length + m
            · rw [piecesF_big hL2 hs hb] at hx; cases hx
            by_cases hm : m = 0
            · subst hm
              rw [piecesF_plast hL2 hs (by omega)] at hx
              cases hr : headersF k ((a ++ b).drop n') hd with
              | error e => rw [hr] at hx; cases hx
              | ok z =>
                obtain ⟨_, c, _⟩ := z
                rw [hr] at hx
                injection hx with hx
                injection hx with _ hx
                omega
            cases hbe : badEnd ((a ++ b).drop n') m with
            | true => rw [piecesF_end hL2 hs hb hm hbe] at hx; cases hx
            | false =>
              by_cases hlt : (a ++ b).length < n' + m + 2
              · rw [piecesF_more hL2 hs hb hm hbe hlt] at hx; cases hx
              · rw [piecesF_padd hL2 hs hb hm hbe hlt] at hx
                cases hr : piecesF ((a ++ b).drop (n' + m + 2)) (body ++ ((a ++ b).drop n').take m) hd k with
                | error e => rw [hr] at hx; cases hx
                | ok z =>
                  obtain ⟨_, c⟩ := z
                  rw [hr] at hx
                  injection hx with hx
                  injection hx with _ hx
                  omega
    | ok y =>
      obtain ⟨l, n⟩ := y
      have hL2 := lineF_app (b := b) hL
      obtain ⟨i, _, _, hn2, _, _, hnle⟩ := lineF_ok hL
      cases hs : sizeF l with
      | none =>
        rw [piecesF_size hL hs, piecesF_size hL2 hs]
        exact ⟨fun x h => h, fun e _ h => h, fun x n h _ => h⟩
      | some m =>
        by_cases hb : 1048576 < body.length + m
        · rw [piecesF_big hL hs hb, piecesF_big hL2 hs hb]
          exact ⟨fun x h => h, fun e _ h => h, fun x n h _ => h⟩
        have hdr : (a ++ b).drop n = a.drop n ++ b := List.drop_append_of_le_length (by omega)
        by_cases hm : m = 0
        · subst hm
          rw [piecesF_plast hL hs (by omega), piecesF_plast hL2 hs (by omega), hdr]
          obtain ⟨i1, i2, i3⟩ := headersF_app (k := k) (hd := hd) (a := a.drop n) (b := b)
          refine ⟨fun x hx => ?_, fun e he hx => ?_, fun x n2 hx hn => ?_⟩
          · cases hr : headersF k (a.drop n) hd with
            | error e => rw [hr] at hx; cases hx
            | ok z => rw [i1 z hr, ← hr]; exact hx
          · cases hr : headersF k (a.drop n) hd with
            | ok z => obtain ⟨_, c, _⟩ := z; rw [hr] at hx; cases hx
            | error e2 =>
              rw [hr] at hx
              injection hx with hx
              subst hx
              rw [i2 _ he hr]; rfl
          · cases hr : headersF k (a.drop n ++ b) hd with
            | error e => rw [hr] at hx; cases hx
            | ok z =>
              obtain ⟨l2, c, k2⟩ := z
              have hx0 := hx
              rw [hr] at hx
              injection hx with hx
              injection hx with _ hx
              rw [i3 l2 c k2 hr (by rw [List.length_drop]; omega), ← hr]
              exact hx0
        by_cases hlt : a.length < n + m + 2
        · cases hbe : badEnd (a.drop n) m with
          | true =>
            have hbe2 : badEnd ((a ++ b).drop n) m = true := by rw [hdr]; exact badEnd_app hbe
            rw [piecesF_end hL hs hb hm hbe, piecesF_end hL2 hs hb hm hbe2]
            exact ⟨fun x h => h, fun e _ h => h, fun x n h _ => h⟩
          | false =>
            have e1 := piecesF_more (body := body) (hd := hd) (k := k) hL hs hb hm hbe hlt
            refine ⟨fun x hx => (by rw [e1] at hx; cases hx), fun e he hx => ?_, fun x n2 hx hn => ?_⟩
            · rw [e1] at hx; injection hx with hx; exact absurd hx.symm he
            · exfalso
              cases hbe2 : badEnd ((a ++ b).drop n) m with
              | true => rw [piecesF_end hL2 hs hb hm hbe2] at hx; cases hx
              | false =>
                by_cases hlt2 : (a ++ b).length < n + m + 2
                · rw [piecesF_more hL2 hs hb hm hbe2 hlt2] at hx; cases hx
                · rw [piecesF_padd hL2 hs hb hm hbe2 hlt2] at hx
                  cases hr : piecesF ((a ++ b).drop (n + m + 2)) (body ++ ((a ++ b).drop n).take m) hd k with
                  | error e => rw [hr] at hx; cases hx
                  | ok z =>
                    obtain ⟨_, c⟩ := z
                    rw [hr] at hx
                    injection hx with hx
                    injection hx with _ hx
                    omega
        · have hbs : badEnd ((a ++ b).drop n) m = badEnd (a.drop n) m := by
            rw [hdr]; exact badEnd_same (by rw [List.length_drop]; omega)
          cases hbe : badEnd (a.drop n) m with
          | true =>
            rw [piecesF_end hL hs hb hm hbe, piecesF_end hL2 hs hb hm (hbs.trans hbe)]
            exact ⟨fun x h => h, fun e _ h => h, fun x n h _ => h⟩
          | false =>
            have hlt2 : ¬ (a ++ b).length < n + m + 2 := by rw [List.length_append]; omega
            rw [piecesF_padd hL hs hb hm hbe hlt, piecesF_padd hL2 hs hb hm (hbs.trans hbe) hlt2]
            have hdr2 : (a ++ b).drop (n + m + 2) = a.drop (n + m + 2) ++ b := List.drop_append_of_le_length (by omega)
            have htk : (a.drop n ++ b).take m = (a.drop n).take m := List.take_append_of_le_length (by rw [List.length_drop]; omega)
            rw [hdr2, hdr, htk]
            obtain ⟨i1, i2, i3⟩ := ih (a := a.drop (n + m + 2)) (b := b) (body := body ++ (a.drop n).take m) (hd := hd) (k := k) (by rw [List.length_drop]; omega)
            refine ⟨fun x hx => ?_, fun e he hx => ?_, fun x n2 hx hn => ?_⟩
            · cases hr : piecesF (a.drop (n + m + 2)) (body ++ (a.drop n).take m) hd k with
              | error e => rw [hr] at hx; cases hx
              | ok z => rw [i1 z hr, ← hr]; exact hx
            · cases hr : piecesF (a.drop (n + m + 2)) (body ++ (a.drop n).take m) hd k with
              | ok z => obtain ⟨_, c⟩ := z; rw [hr] at hx; cases hx
              | error e2 =>
                rw [hr] at hx
                injection hx with hx
                subst hx
                rw [i2 _ he hr]; rfl
            · cases hr : piecesF (a.drop (n + m + 2) ++ b) (body ++ (a.drop n).take m) hd k with
              | error e => rw [hr] at hx; cases hx
              | ok z =>
                obtain ⟨x2, c⟩ := z
                have hx0 := hx
                rw [hr] at hx
                injection hx with hx
                injection hx with _ hx
                rw [i3 x2 c hr (by rw [List.length_drop]; omega), ← hr]
                exact hx0

/-! ### requests -/
theorem beginF_app {a b : List UInt8} : (∀ x, beginF a = .ok x → beginF (a ++ b) = .ok x) ∧ (∀ e, e ≠ 0 → beginF a = .error e → beginF (a ++ b) = .error e) ∧ (∀ m t n, beginF (a ++ b) = .ok (m, t, n) → n ≤ a.length → beginF a = .ok (m, t, n)) := by
  cases hL : lineF 8192 338 a with
  | error e0 =>
    have e1 := beginF_e hL
    refine ⟨fun x hx => (by rw [e1] at hx; cases hx), fun e he hx => ?_, fun m t n hx hn => ?_⟩
    · rw [e1] at hx
      injection hx with hx
      subst hx
      exact beginF_e (lineF_bad hL he)
    · exfalso
      cases hL2 : lineF 8192 338 (a ++ b) with
      | error e => rw [beginF_e hL2] at hx; cases hx
      | ok y =>
        obtain ⟨l, n'⟩ := y
        have hnn : n = n' := by
          unfold beginF at hx
          rw [hL2] at hx
          simp only at hx
          split at hx
          · split at hx
            · injection hx with hx
              injection hx with _ hx
              injection hx with _ hx
              exact hx.symm
            · cases hx
          · cases hx
        subst hnn
        rw [lineF_back hL2 hn] at hL
        cases hL
  | ok y =>
    have hL2 := lineF_app (b := b) hL
    have : beginF (a ++ b) = beginF a := by unfold beginF; rw [hL, hL2]
    rw [this]
    exact ⟨fun x h => h, fun e _ h => h, fun m t n h _ => h⟩

def rpc (m t : List UInt8) (hs : List HP) (n : Nat) : PR → Except Int (Rq × Nat)
  | .error e => .error e
  | .ok (b, d) => .ok (⟨m, t, hs, b⟩, n + d)
theorem reqF_rpc {s m t : List UInt8} {n c k : Nat} {hs : List HP} (h : beginF s = .ok (m, t, n)) (h2 : headersF 100 (s.drop n) n = .ok (hs, c, k)) (h3 : (checkF hs).2 = 0) (h4 : (checkF hs).1 < 0) : requestF s = rpc m t hs (n + c) (piecesF (s.drop (n + c)) [] (n + c) k) := by
  rw [reqF_pieces h h2 h3 h4]
  cases piecesF (s.drop (n + c)) [] (n + c) k with
  | ok x => rfl
  | error e => rfl

/-- what the reader takes of the bytes is there -/
theorem piecesF_le : ∀ (N : Nat) {a body : List UInt8} {hd k : Nat} {x : List UInt8} {n : Nat}, a.length ≤ N → piecesF a body hd k = .ok (x, n) → n ≤ a.length := by
  intro N
  induction N with
  | zero =>
    intro a body hd k x n hN hx
    have ha : a = [] := List.length_eq_zero_iff.1 (by omega)
    subst ha
    have hl : lineF 256 308 ([] : List UInt8) = .error 0 := rfl
    rw [piecesF_line hl] at hx; cases hx
  | succ N ih =>
    intro a body hd k x n hN hx
    cases hL : lineF 256 308 a with
    | error e => rw [piecesF_line hL] at hx; cases hx
    | ok y =>
      obtain ⟨l, n'⟩ := y
      obtain ⟨i, _, _, h3, _, _, h6⟩ := lineF_ok hL
      cases hs : sizeF l with
      | none => rw [piecesF_size hL hs] at hx; cases hx
      | some m =>
        by_cases hb : 1048576 < body.length + m
        · rw [piecesF_big hL hs hb] at hx; cases hx
        by_cases hm : m = 0
        · subst hm
          rw [piecesF_plast hL hs (by omega)] at hx
          cases hr : headersF k (a.drop n') hd with
          | error e => rw [hr] at hx; cases hx
          | ok z =>
            obtain ⟨_, c, _⟩ := z
            obtain ⟨_, g2, _, _⟩ := headersF_small hr
            rw [List.length_drop] at g2
            rw [hr] at hx
            injection hx with hx
            injection hx with _ hx
            omega
        cases hbe : badEnd (a.drop n') m with
        | true => rw [piecesF_end hL hs hb hm hbe] at hx; cases hx
        | false =>
          by_cases hlt : a.length < n' + m + 2
          · rw [piecesF_more hL hs hb hm hbe hlt] at hx; cases hx
          · rw [piecesF_padd hL hs hb hm hbe hlt] at hx
            cases hr : piecesF (a.drop (n' + m + 2)) (body ++ (a.drop n').take m) hd k with
            | error e => rw [hr] at hx; cases hx
            | ok z =>
              obtain ⟨_, c⟩ := z
              have := ih (by rw [List.length_drop]; omega) hr
              rw [List.length_drop] at this
              rw [hr] at hx
              injection hx with hx
              injection hx with _ hx
              omega

theorem requestF_le {s : List UInt8} {rq : Rq} {n : Nat} (h : requestF s = .ok (rq, n)) : n ≤ s.length := by
  cases hb : beginF s with
  | error e => rw [reqF_begin hb] at h; cases h
  | ok y =>
    obtain ⟨m, t, n0⟩ := y
    have := (beginF_le hb).1
    cases hh : headersF 100 (s.drop n0) n0 with
    | error e => rw [reqF_head hb hh] at h; cases h
    | ok z =>
      obtain ⟨hs, c, k⟩ := z
      obtain ⟨_, g2, _, _⟩ := headersF_small hh
      rw [List.length_drop] at g2
      by_cases h3 : (checkF hs).2 = 0
      · by_cases h4 : (checkF hs).1 < 0
        · rw [reqF_rpc hb hh h3 h4] at h
          cases hp : piecesF (s.drop (n0 + c)) [] (n0 + c) k with
          | error e => rw [hp] at h; cases h
          | ok w =>
            obtain ⟨b, d⟩ := w
            have g3 := piecesF_le _ (Nat.le_refl _) hp
            rw [List.length_drop] at g3
            rw [hp] at h
            injection h with h
            injection h with _ h
            omega
        · by_cases h5 : s.length - (n0 + c) < (checkF hs).1.toNat
          · rw [reqF_short hb hh h3 h4 h5] at h; cases h
          · rw [reqF_ok hb hh h3 h4 h5] at h
            injection h with h
            injection h with _ h
            omega
      · rw [reqF_check hb hh h3] at h; cases h

theorem requestF_app {a b : List UInt8} : (∀ x, requestF a = .ok x → requestF (a ++ b) = .ok x) ∧ (∀ e, e ≠ 0 → requestF a = .error e → requestF (a ++ b) = .error e) ∧ (∀ rq n, requestF (a ++ b) = .ok (rq, n) → n ≤ a.length → requestF a = .ok (rq, n)) := by
  obtain ⟨b1, b2, b3⟩ := beginF_app (a := a) (b := b)
  -- what a whole request of a ++ b says of how far it goes
  have far : ∀ rq n m t n0, requestF (a ++ b) = .ok (rq, n) → beginF (a ++ b) = .ok (m, t, n0) → n0 ≤ n ∧ ∃ hs c k, headersF 100 ((a ++ b).drop n0) n0 = .ok (hs, c, k) ∧ n0 + c ≤ n := by
    intro rq n m t n0 h hb
    cases hh : headersF 100 ((a ++ b).drop n0) n0 with
    | error e => rw [reqF_head hb hh] at h; cases h
    | ok z =>
      obtain ⟨hs, c, k⟩ := z
      have key : n0 + c ≤ n := by
        by_cases h3 : (checkF hs).2 = 0
        · by_cases h4 : (checkF hs).1 < 0
          · rw [reqF_rpc hb hh h3 h4] at h
            cases hp : piecesF ((a ++ b).drop (n0 + c)) [] (n0 + c) k with
            | error e => rw [hp] at h; cases h
            | ok w =>
              obtain ⟨b, d⟩ := w
              rw [hp] at h
              injection h with h
              injection h with _ h
              omega
          · by_cases h5 : (a ++ b).length - (n0 + c) < (checkF hs).1.toNat
            · rw [reqF_short hb hh h3 h4 h5] at h; cases h
            · rw [reqF_ok hb hh h3 h4 h5] at h
              injection h with h
              injection h with _ h
              omega
        · rw [reqF_check hb hh h3] at h; cases h
      exact ⟨by omega, hs, c, k, rfl, key⟩
  cases hb : beginF a with
  | error e0 =>
    have e1 := reqF_begin hb
    refine ⟨fun x hx => (by rw [e1] at hx; cases hx), fun e he hx => ?_, fun rq n hx hn => ?_⟩
    · rw [e1] at hx
      injection hx with hx
      subst hx
      exact reqF_begin (b2 _ he hb)
    · exfalso
      cases hb2 : beginF (a ++ b) with
      | error e => rw [reqF_begin hb2] at hx; cases hx
      | ok y =>
        obtain ⟨m, t, n0⟩ := y
        have := (far rq n m t n0 hx hb2).1
        rw [b3 m t n0 hb2 (by omega)] at hb
        cases hb
  | ok y =>
    obtain ⟨m, t, n0⟩ := y
    have hb2 := b1 _ hb
    have hn0 := (beginF_le hb).1
    have hdr : (a ++ b).drop n0 = a.drop n0 ++ b := List.drop_append_of_le_length hn0
    obtain ⟨i1, i2, i3⟩ := headersF_app (k := 100) (hd := n0) (a := a.drop n0) (b := b)
    cases hh : headersF 100 (a.drop n0) n0 with
    | error e0 =>
      have e1 := reqF_head hb hh
      refine ⟨fun x hx => (by rw [e1] at hx; cases hx), fun e he hx => ?_, fun rq n hx hn => ?_⟩
      · rw [e1] at hx
        injection hx with hx
        subst hx
        exact reqF_head hb2 (by rw [hdr]; exact i2 _ he hh)
      · exfalso
        obtain ⟨_, hs, c, k, h1, h2⟩ := far rq n m t n0 hx hb2
        rw [hdr] at h1
        rw [i3 hs c k h1 (by rw [List.length_drop]; omega)] at hh
        cases hh
    | ok z =>
      obtain ⟨hs, c, k⟩ := z
      obtain ⟨_, hcl, _, _⟩ := headersF_small hh
      rw [List.length_drop] at hcl
      have hh2 : headersF 100 ((a ++ b).drop n0) n0 = .ok (hs, c, k) := by rw [hdr]; exact i1 _ hh
      by_cases h3 : (checkF hs).2 = 0
      · by_cases h4 : (checkF hs).1 < 0
        · rw [reqF_rpc hb hh h3 h4, reqF_rpc hb2 hh2 h3 h4]
          have hdr2 : (a ++ b).drop (n0 + c) = a.drop (n0 + c) ++ b := List.drop_append_of_le_length (by omega)
          rw [hdr2]
          obtain ⟨j1, j2, j3⟩ := piecesF_app _ (a := a.drop (n0 + c)) (b := b) (body := []) (hd := n0 + c) (k := k) (Nat.le_refl _)
          refine ⟨fun x hx => ?_, fun e he hx => ?_, fun rq n hx hn => ?_⟩
          · cases hr : piecesF (a.drop (n0 + c)) [] (n0 + c) k with
            | error e => rw [hr] at hx; cases hx
            | ok z => rw [j1 z hr, ← hr]; exact hx
          · cases hr : piecesF (a.drop (n0 + c)) [] (n0 + c) k with
            | ok z => obtain ⟨_, d⟩ := z; rw [hr] at hx; cases hx
            | error e2 =>
              rw [hr] at hx
              injection hx with hx
              subst hx
              rw [j2 _ he hr]; rfl
          · cases hr : piecesF (a.drop (n0 + c) ++ b) [] (n0 + c) k with
            | error e => rw [hr] at hx; cases hx
            | ok z =>
              obtain ⟨x2, d⟩ := z
              have hx0 := hx
              rw [hr] at hx
              injection hx with hx
              injection hx with _ hx
              rw [j3 x2 d hr (by rw [List.length_drop]; omega), ← hr]
              exact hx0
        · by_cases h5 : a.length - (n0 + c) < (checkF hs).1.toNat
          · have e1 := reqF_short hb hh h3 h4 h5
            refine ⟨fun x hx => (by rw [e1] at hx; cases hx), fun e he hx => ?_, fun rq n hx hn => ?_⟩
            · rw [e1] at hx; injection hx with hx; exact absurd hx.symm he
            · exfalso
              by_cases h6 : (a ++ b).length - (n0 + c) < (checkF hs).1.toNat
              · rw [reqF_short hb2 hh2 h3 h4 h6] at hx; cases hx
              · rw [reqF_ok hb2 hh2 h3 h4 h6] at hx
                injection hx with hx
                injection hx with _ hx
                omega
          · have h6 : ¬ (a ++ b).length - (n0 + c) < (checkF hs).1.toNat := by rw [List.length_append]; omega
            rw [reqF_ok hb hh h3 h4 h5, reqF_ok hb2 hh2 h3 h4 h6]
            have : ((a ++ b).drop (n0 + c)).take (checkF hs).1.toNat = (a.drop (n0 + c)).take (checkF hs).1.toNat := by
              rw [List.drop_append_of_le_length (by omega), List.take_append_of_le_length (by rw [List.length_drop]; omega)]
            rw [this]
            exact ⟨fun x h => h, fun e _ h => h, fun rq n h _ => h⟩
      · rw [reqF_check hb hh h3, reqF_check hb2 hh2 h3]
        exact ⟨fun x h => h, fun e _ h => h, fun rq n h _ => h⟩

/-- a body that comes in chunks takes more bytes than it has -/
theorem piecesF_short : ∀ (N : Nat) {a body : List UInt8} {hd k : Nat} {x : List UInt8} {n : Nat}, a.length ≤ N → piecesF a body hd k = .ok (x, n) → x.length < body.length + n := by
  intro N
  induction N with
  | zero =>
    intro a body hd k x n hN hx
    have ha : a = [] := List.length_eq_zero_iff.1 (by omega)
    subst ha
    have hl : lineF 256 308 ([] : List UInt8) = .error 0 := rfl
    rw [piecesF_line hl] at hx; cases hx
  | succ N ih =>
    intro a body hd k x n hN hx
    cases hL : lineF 256 308 a with
    | error e => rw [piecesF_line hL] at hx; cases hx
    | ok y =>
      obtain ⟨l, n'⟩ := y
      obtain ⟨i, _, _, h3, _, _, h6⟩ := lineF_ok hL
      cases hs : sizeF l with
      | none => rw [piecesF_size hL hs] at hx; cases hx
      | some m =>
        by_cases hb : 1048576 < body.length + m
        · rw [piecesF_big hL hs hb] at hx; cases hx
        by_cases hm : m = 0
        · subst hm
          rw [piecesF_plast hL hs (by omega)] at hx
          cases hr : headersF k (a.drop n') hd with
          | error e => rw [hr] at hx; cases hx
          | ok z =>
            obtain ⟨_, c, _⟩ := z
            rw [hr] at hx
            injection hx with hx
            injection hx with hx1 hx
            subst hx1
            omega
        cases hbe : badEnd (a.drop n') m with
        | true => rw [piecesF_end hL hs hb hm hbe] at hx; cases hx
        | false =>
          by_cases hlt : a.length < n' + m + 2
          · rw [piecesF_more hL hs hb hm hbe hlt] at hx; cases hx
          · rw [piecesF_padd hL hs hb hm hbe hlt] at hx
            cases hr : piecesF (a.drop (n' + m + 2)) (body ++ (a.drop n').take m) hd k with
            | error e => rw [hr] at hx; cases hx
            | ok z =>
              obtain ⟨x2, c⟩ := z
              have := ih (by rw [List.length_drop]; omega) hr
              rw [List.length_append, List.length_take, List.length_drop] at this
              rw [hr] at hx
              injection hx with hx
              injection hx with hx1 hx
              subst hx1
              omega

theorem requestF_body {s : List UInt8} {rq : Rq} {n : Nat} (h : requestF s = .ok (rq, n)) : rq.body.length ≤ n ∧ n ≤ s.length ∧ 2 ≤ n := by
  have hle := requestF_le h
  cases hb : beginF s with
  | error e => rw [reqF_begin hb] at h; cases h
  | ok y =>
    obtain ⟨m, t, n0⟩ := y
    have hn0 : 2 ≤ n0 := by
      have hb2 := hb
      unfold beginF at hb2
      split at hb2
      · cases hb2
      · rename_i l n' hL
        obtain ⟨i, _, _, h3, _⟩ := lineF_ok hL
        split at hb2
        · split at hb2
          · injection hb2 with hb2
            injection hb2 with _ hb2
            injection hb2 with _ hb2
            omega
          · cases hb2
        · cases hb2
    cases hh : headersF 100 (s.drop n0) n0 with
    | error e => rw [reqF_head hb hh] at h; cases h
    | ok z =>
      obtain ⟨hs, c, k⟩ := z
      by_cases h3 : (checkF hs).2 = 0
      · by_cases h4 : (checkF hs).1 < 0
        · rw [reqF_rpc hb hh h3 h4] at h
          cases hp : piecesF (s.drop (n0 + c)) [] (n0 + c) k with
          | error e => rw [hp] at h; cases h
          | ok w =>
            obtain ⟨b, d⟩ := w
            have g3 := piecesF_short _ (Nat.le_refl _) hp
            rw [hp] at h
            injection h with h
            injection h with h1 h
            subst h1
            simp at g3
            show b.length ≤ n ∧ _
            omega
        · by_cases h5 : s.length - (n0 + c) < (checkF hs).1.toNat
          · rw [reqF_short hb hh h3 h4 h5] at h; cases h
          · rw [reqF_ok hb hh h3 h4 h5] at h
            injection h with h
            injection h with h1 h
            subst h1
            show (List.take _ _).length ≤ n ∧ _
            rw [List.length_take]
            omega
      · rw [reqF_check hb hh h3] at h; cases h
end Go.Proofs.Ytjpmjhnjdnbopaa
