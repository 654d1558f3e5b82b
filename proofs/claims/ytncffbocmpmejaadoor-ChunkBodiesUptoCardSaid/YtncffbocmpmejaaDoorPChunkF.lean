/- Bodies of chunks that are cut off, that go on, that were changed: plain facts. -/
import Derived.Test.YtncffbocmpmejaaDoorPChunkD
namespace Go.Proofs.YtncffbocmpmejaaDoor
open Go D
set_option linter.unusedVariables false
set_option linter.unusedSimpArgs false
namespace Chunk
open Hash (hexL hmacF sha256F hexB)

theorem eat_lt {b r : List UInt8} {j : Nat} (h : j < b.length) : eatF ((b ++ r).take j) b = ([], 307) := by
  rw [List.take_append_of_le_length (by omega)]
  unfold eatF
  have l : (b.take j).length = j := by rw [List.length_take]; omega
  have e1 : pre (b.take j) b = false := by
    unfold pre
    refine decide_eq_false (fun e => ?_)
    have := congrArg List.length e
    rw [List.length_take, l] at this
    omega
  have e2 : pre b (b.take j) = true := by
    unfold pre
    rw [l]
    simp
  rw [e1, e2]
  rfl
theorem eat_ge {b r : List UInt8} {j : Nat} (h : ¬ j < b.length) : eatF ((b ++ r).take j) b = (r.take (j - b.length), 0) := by
  have e : (b ++ r).take j = b ++ r.take (j - b.length) := by
    rw [List.take_append, List.take_of_length_le (by omega)]
  rw [e, eat_app]

theorem pz2_err {sum d : List UInt8} {n : Nat} : pz2 sum d n ([], 307) = errP 307 := by
  have c : ¬ ((([] : List UInt8), (307 : Int)).2 = 0 ∧ n = 0 ∧ (([] : List UInt8), (307 : Int)).1 ≠ []) := fun h => by
    have := h.1
    simp at this
  unfold pz2
  rw [if_neg c]
  rfl
theorem pz_take {sum d : List UInt8} {j : Nat} (hj : j < 2 + d.length + 2) : pz sum ((crL ++ (d ++ crL)).take j) d.length = errP 307 := by
  unfold pz
  have lc : crL.length = 2 := rfl
  by_cases h : j < 2
  · rw [eat_lt (by rw [lc]; exact h), if_pos (by simp)]
  · rw [eat_ge (by rw [lc]; exact h), if_neg (by simp), lc]
    show (if ((d ++ crL).take (j - 2)).length < d.length then _ else _) = _
    rw [List.length_take, List.length_append, lc]
    by_cases h2 : min (j - 2) (d.length + 2) < d.length
    · rw [if_pos h2]
    · rw [if_neg h2]
      show pz2 sum (((d ++ crL).take (j - 2)).take d.length) d.length (eatF (((d ++ crL).take (j - 2)).drop d.length) crL) = _
      have e : ((d ++ crL).take (j - 2)).drop d.length = (crL ++ []).take (j - 2 - d.length) := by
        rw [List.take_append, List.take_of_length_le (show d.length ≤ j - 2 by omega), List.drop_left, List.append_nil]
      rw [e, eat_lt (by rw [lc]; omega)]
      exact pz2_err

theorem py_take {sum d : List UInt8} (hs : ∀ b ∈ sum, dg b = true) (hl : sum.length = 64) {j : Nat} (hj : j < 64 + (2 + d.length + 2)) : py ((sum ++ (crL ++ (d ++ crL))).take j) d.length = errP 307 := by
  by_cases h : j < 64
  · rw [List.take_append_of_le_length (by omega)]
    have l : (sum.take j).length = j := by rw [List.length_take]; omega
    have r : runN 64 (sum.take j) = j := by
      have := runN_app (k := 64) (xs := sum.take j) (rest := []) (fun b hb => hs b (List.mem_of_mem_take hb)) (by omega) (.inr (fun b r e => by cases e))
      rw [List.append_nil] at this
      rw [this, l]
    unfold py
    rw [r, l, if_neg (by omega), if_pos h]
  · have e : (sum ++ (crL ++ (d ++ crL))).take j = sum ++ (crL ++ (d ++ crL)).take (j - 64) := by
      rw [List.take_append, List.take_of_length_le (by omega), hl]
    rw [e, py_sum hs hl, pz_take (by omega)]

theorem piece_take {sum d : List UInt8} (hs : ∀ b ∈ sum, dg b = true) (hl : sum.length = 64) (hd : d.length < 4294967296) {j : Nat} (hj : j < (rawC sum d).length) : pieceF ((rawC sum d).take j) = errP 307 := by
  rw [rawC_len _ _ hl] at hj
  have n8 := numL_len8 hd
  unfold rawC
  generalize hN : numL d.length = N at *
  have hNd : ∀ b ∈ N, dg b = true := fun b hb => by rw [← hN] at hb; exact numL_dg _ b hb
  have hNv : valN N = d.length := by rw [← hN]; exact numL_val _
  have lm : markL.length = 17 := rfl
  by_cases h : j ≤ N.length
  · rw [List.take_append_of_le_length h]
    have l : (N.take j).length = j := by rw [List.length_take]; omega
    have r : runN 8 (N.take j) = j := by
      have := runN_app (k := 8) (xs := N.take j) (rest := []) (fun b hb => hNd b (List.mem_of_mem_take hb)) (by omega) (.inr (fun b r e => by cases e))
      rw [List.append_nil] at this
      rw [this, l]
    unfold pieceF
    have e0 : (N.take j).drop j = [] := List.drop_eq_nil_of_le (by omega)
    have e1 : eatF ([] : List UInt8) markL = ([], 307) := by decide
    rw [r, if_neg (fun hh => by
      have : N.take j = [] := List.length_eq_zero_iff.1 (by omega)
      exact hh.2 this), e0, e1, if_pos (by decide)]
  · have e : (N ++ (markL ++ (sum ++ (crL ++ (d ++ crL))))).take j = N ++ (markL ++ (sum ++ (crL ++ (d ++ crL)))).take (j - N.length) := by
      rw [List.take_append, List.take_of_length_le (by omega)]
    rw [e]
    generalize hk : j - N.length = k
    have r8 : runN 8 (N ++ (markL ++ (sum ++ (crL ++ (d ++ crL)))).take k) = N.length := runN_app hNd n8 (.inr (by
      intro b r e
      have hk1 : k = (k - 1) + 1 := by omega
      rw [hk1] at e
      have : b = 59 := by
        have := congrArg List.head? e
        simpa [markL] using this.symm
      subst this
      decide))
    unfold pieceF
    have l0 : N.length ≠ 0 := fun h => numL_ne d.length (by rw [hN]; exact List.length_eq_zero_iff.1 h)
    rw [r8, if_neg (fun h => l0 h.1), List.drop_left, List.take_left]
    by_cases h2 : k < 17
    · rw [eat_lt (by rw [lm]; exact h2), if_pos (by simp)]
    · rw [eat_ge (by rw [lm]; exact h2), if_neg (by simp), hNv, lm]
      exact py_take hs hl (by omega)

/-- a body that is cut off -/
theorem dec_take {w : Wh} {size : Int} : ∀ (ps : List (List UInt8)) (last out : List UInt8) (n j : Nat), (∀ d ∈ ps, d ≠ [] ∧ d.length < 4294967296) → j < n → j < (encP w last (ps ++ [[]])).length →
    decN w size n last ((encP w last (ps ++ [[]])).take j) out = ([], 307)
  | [], last, out, n, j, _, hn, hj => by
    obtain ⟨m, rfl⟩ : ∃ m, n = m + 1 := ⟨n - 1, by omega⟩
    have e : encP w last ([] ++ [[]]) = rawC (signF w last []) [] := by simp [encP, chunkT]
    rw [e] at hj ⊢
    unfold decN
    rw [piece_take (sign_dg w last []) (sign_len w last []) (by simp) hj, if_pos (by decide)]
    rfl
  | d :: r, last, out, n, j, h, hn, hj => by
    obtain ⟨m, rfl⟩ : ∃ m, n = m + 1 := ⟨n - 1, by omega⟩
    have hd := h d (List.mem_cons_self ..)
    have e : encP w last ((d :: r) ++ [[]]) = rawC (signF w last d) d ++ encP w (signF w last d) (r ++ [[]]) := rfl
    rw [e] at hj ⊢
    rw [List.length_append] at hj
    by_cases hlt : j < (rawC (signF w last d) d).length
    · rw [List.take_append_of_le_length (by omega)]
      unfold decN
      rw [piece_take (sign_dg w last d) (sign_len w last d) hd.2 hlt, if_pos (by decide)]
      rfl
    · have e2 : (rawC (signF w last d) d ++ encP w (signF w last d) (r ++ [[]])).take j = rawC (signF w last d) d ++ (encP w (signF w last d) (r ++ [[]])).take (j - (rawC (signF w last d) d).length) := by
        rw [List.take_append, List.take_of_length_le (by omega)]
      rw [e2]
      have p : pieceF (rawC (signF w last d) d ++ (encP w (signF w last d) (r ++ [[]])).take (j - (rawC (signF w last d) d).length)) = (signF w last d, d, (encP w (signF w last d) (r ++ [[]])).take (j - (rawC (signF w last d) d).length), 0) := by
        rw [piece_raw (sign_dg w last d) (sign_len w last d) hd.2, if_neg (fun hh => hd.1 hh.1)]
      unfold decN
      rw [p]
      have ih := dec_take (w := w) (size := size) r (signF w last d) (out ++ d) m (j - (rawC (signF w last d) d).length) (fun x hx => h x (List.mem_cons_of_mem _ hx)) (by rw [rawC_len _ _ (sign_len w last d)]; rw [rawC_len _ _ (sign_len w last d)] at hlt; omega) (by omega)
      simp only [ne_eq, not_true, if_false, hd.1]
      exact ih

/-- a body that goes on -/
theorem dec_more {w : Wh} {size : Int} {x : UInt8} : ∀ (ps : List (List UInt8)) (last out : List UInt8) (n : Nat), (∀ d ∈ ps, d ≠ [] ∧ d.length < 4294967296) → ps.length < n →
    decN w size n last (encP w last (ps ++ [[]]) ++ [x]) out = ([], 308)
  | [], last, out, n, _, hn => by
    obtain ⟨m, rfl⟩ : ∃ m, n = m + 1 := ⟨n - 1, by simp at hn; omega⟩
    have e : encP w last ([] ++ [[]]) ++ [x] = rawC (signF w last []) [] ++ [x] := by simp [encP, chunkT]
    have p : pieceF (rawC (signF w last []) [] ++ [x]) = errP 308 := by rw [piece_raw (sign_dg w last []) (sign_len w last []) (by simp), if_pos (by simp)]
    rw [e]
    unfold decN
    rw [p, if_pos (by decide)]
    rfl
  | d :: r, last, out, n, h, hn => by
    obtain ⟨m, rfl⟩ : ∃ m, n = m + 1 := ⟨n - 1, by simp at hn; omega⟩
    have hd := h d (List.mem_cons_self ..)
    have e : encP w last ((d :: r) ++ [[]]) ++ [x] = rawC (signF w last d) d ++ (encP w (signF w last d) (r ++ [[]]) ++ [x]) := by
      show (rawC (signF w last d) d ++ encP w (signF w last d) (r ++ [[]])) ++ [x] = _
      rw [List.append_assoc]
    have p : pieceF (rawC (signF w last d) d ++ (encP w (signF w last d) (r ++ [[]]) ++ [x])) = (signF w last d, d, encP w (signF w last d) (r ++ [[]]) ++ [x], 0) := by
      rw [piece_raw (sign_dg w last d) (sign_len w last d) hd.2, if_neg (fun hh => hd.1 hh.1)]
    rw [e]
    unfold decN
    rw [p]
    have ih := dec_more (w := w) (size := size) (x := x) r (signF w last d) (out ++ d) m (fun x hx => h x (List.mem_cons_of_mem _ hx)) (by simp at hn; omega)
    simp only [ne_eq, not_true, if_false, hd.1]
    exact ih

theorem encF_len (w : Wh) (data : List UInt8) (sizes : List Int) : (cutL data sizes).length + 1 ≤ (encF w data sizes).length := by
  have := encP_len w (cutL data sizes ++ [[]]) (bl w.sig)
  rw [List.length_append] at this
  exact this

theorem dec_takeF {w : Wh} {size : Int} {data : List UInt8} {sizes : List Int} {j : Nat} (hd : data.length < 4294967296) (hj : j < (encF w data sizes).length) : decF w size ((encF w data sizes).take j) = ([], 307) := by
  obtain ⟨c1, c2⟩ := cut_ok sizes data
  unfold decF
  have l : ((encF w data sizes).take j).length = j := by rw [List.length_take]; omega
  rw [l]
  exact dec_take _ _ _ _ _ (fun d hd' => ⟨(c2 d hd').1, by have := (c2 d hd').2; omega⟩) (by omega) hj
theorem dec_moreF {w : Wh} {size : Int} {data : List UInt8} {sizes : List Int} {x : UInt8} (hd : data.length < 4294967296) : decF w size (encF w data sizes ++ [x]) = ([], 308) := by
  obtain ⟨c1, c2⟩ := cut_ok sizes data
  unfold decF
  have := encF_len w data sizes
  exact dec_more _ _ _ _ (fun d hd' => ⟨(c2 d hd').1, by have := (c2 d hd').2; omega⟩) (by rw [List.length_append]; simp; omega)
end Chunk
end Go.Proofs.YtncffbocmpmejaaDoor
