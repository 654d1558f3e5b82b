/- Chunks as text: numbers, pieces, and that what is cut and signed is read back. -/
import Derived.Test.YtncffbocmpmejaaDoorPChunkC
namespace Go.Proofs.YtncffbocmpmejaaDoor
open Go D
set_option linter.unusedVariables false
set_option linter.unusedSimpArgs false
namespace Chunk
open Hash (hexL hmacF sha256F hexB)

def nib (n : Nat) : UInt8 := Hash.digits.getD n 0
def numL (n : Nat) : List UInt8 := if n < 16 then [nib n] else numL (n / 16) ++ [nib (n % 16)]
termination_by n
decreasing_by omega
def fixL : Nat → Nat → List UInt8
  | 0, _ => []
  | k + 1, n => fixL k (n / 16) ++ [nib (n % 16)]
def be4b (n : Nat) : List UInt8 := [UInt8.ofNat (n / 16777216), UInt8.ofNat (n / 65536), UInt8.ofNat (n / 256), UInt8.ofNat n]

theorem nib_all : ∀ n : Fin 16, dg (nib n.val) = true ∧ hv (nib n.val) = n.val ∧ ((nib n.val == 48) = true ↔ n.val = 0) := by decide
theorem nib_dg {n : Nat} (h : n < 16) : dg (nib n) = true := (nib_all ⟨n, h⟩).1
theorem nib_hv {n : Nat} (h : n < 16) : hv (nib n) = n := (nib_all ⟨n, h⟩).2.1
theorem nib_0 {n : Nat} (h : n < 16) : (nib n == 48) = true ↔ n = 0 := (nib_all ⟨n, h⟩).2.2
theorem numL_small {n : Nat} (h : n < 16) : numL n = [nib n] := by rw [numL, if_pos h]
theorem numL_big {n : Nat} (h : ¬ n < 16) : numL n = numL (n / 16) ++ [nib (n % 16)] := by rw [numL, if_neg h]
theorem numL_ne (n : Nat) : numL n ≠ [] := by
  by_cases h : n < 16
  · rw [numL_small h]; simp
  · rw [numL_big h]; simp

theorem hex_fix (n : Nat) : hexL (be4b n) = fixL 8 n := by
  have e : ∀ x : Nat, hexB (UInt8.ofNat x) = [nib (x % 256 / 16), nib (x % 256 % 16)] := fun x => by
    unfold hexB nib
    rw [UInt8.toNat_ofNat']
  have : hexL (be4b n) = hexB (UInt8.ofNat (n / 16777216)) ++ (hexB (UInt8.ofNat (n / 65536)) ++ (hexB (UInt8.ofNat (n / 256)) ++ (hexB (UInt8.ofNat n) ++ []))) := rfl
  rw [this, e, e, e, e]
  simp only [fixL, List.nil_append, List.cons_append, List.append_nil]
  have a1 : n / 16777216 % 256 / 16 = n / 16 / 16 / 16 / 16 / 16 / 16 / 16 % 16 := by omega
  have a2 : n / 16777216 % 256 % 16 = n / 16 / 16 / 16 / 16 / 16 / 16 % 16 := by omega
  have a3 : n / 65536 % 256 / 16 = n / 16 / 16 / 16 / 16 / 16 % 16 := by omega
  have a4 : n / 65536 % 256 % 16 = n / 16 / 16 / 16 / 16 % 16 := by omega
  have a5 : n / 256 % 256 / 16 = n / 16 / 16 / 16 % 16 := by omega
  have a6 : n / 256 % 256 % 16 = n / 16 / 16 % 16 := by omega
  have a7 : n % 256 / 16 = n / 16 % 16 := by omega
  have a8 : n % 256 % 16 = n % 16 := by omega
  rw [a1, a2, a3, a4, a5, a6, a7, a8]

theorem drop_fix : ∀ (k n : Nat), n < 16 ^ k → (fixL k n).dropWhile (· == 48) = if n = 0 then [] else numL n
  | 0, n, h => by
    have : n = 0 := by simpa using h
    subst this
    rfl
  | k + 1, n, h => by
    have ih := drop_fix k (n / 16) (by rw [Nat.pow_succ] at h; omega)
    unfold fixL
    rw [List.dropWhile_append, ih]
    by_cases h1 : n < 16
    · have e : n / 16 = 0 := by omega
      have e2 : n % 16 = n := by omega
      rw [if_pos e, e2]
      simp only [List.isEmpty_nil, if_true]
      by_cases h0 : n = 0
      · subst h0
        rfl
      · rw [if_neg h0, numL_small h1, List.dropWhile_cons]
        rw [if_neg (fun hh => h0 ((nib_0 h1).1 hh))]
    · rw [if_neg (show ¬ n / 16 = 0 by omega), if_neg (show ¬ n = 0 by omega)]
      have : (numL (n / 16)).isEmpty = false := by
        cases hh : numL (n / 16) with
        | nil => exact absurd hh (numL_ne _)
        | cons a b => rfl
      rw [this]
      simp only [Bool.false_eq_true, if_false]
      rw [← numL_big h1]

theorem num_hex {n : Nat} (h : n < 4294967296) : (hexL (be4b n)).dropWhile (· == 48) = if n = 0 then [] else numL n := by
  rw [hex_fix]
  exact drop_fix 8 n (by have e : 16 ^ 8 = 4294967296 := by decide
                         omega)

theorem numL_dg (n : Nat) : ∀ b ∈ numL n, dg b = true := by
  induction n using Nat.strongRecOn with
  | _ n ih =>
    intro b hb
    by_cases h : n < 16
    · rw [numL_small h] at hb
      simp only [List.mem_singleton] at hb
      subst hb
      exact nib_dg h
    · rw [numL_big h] at hb
      rcases List.mem_append.1 hb with hh | hh
      · exact ih _ (by omega) b hh
      · simp only [List.mem_singleton] at hh
        subst hh
        exact nib_dg (by omega)
theorem numL_val (n : Nat) : valN (numL n) = n := by
  induction n using Nat.strongRecOn with
  | _ n ih =>
    by_cases h : n < 16
    · rw [numL_small h]
      show 0 * 16 + hv (nib n) = n
      rw [nib_hv h]; omega
    · rw [numL_big h, valN_snoc, ih _ (by omega), nib_hv (by omega)]
      omega
theorem numL_len : ∀ (k n : Nat), 0 < k → n < 16 ^ k → (numL n).length ≤ k
  | 0, n, h, _ => by omega
  | k + 1, n, _, h => by
    by_cases h1 : n < 16
    · rw [numL_small h1]; simp
    · rw [numL_big h1, List.length_append]
      have hk : 0 < k := by
        rcases Nat.eq_zero_or_pos k with e | e
        · subst e; rw [Nat.pow_one] at h; omega
        · exact e
      have := numL_len k (n / 16) hk (by rw [Nat.pow_succ] at h; omega)
      simp only [List.length_cons, List.length_nil]
      omega
theorem numL_len8 {n : Nat} (h : n < 4294967296) : (numL n).length ≤ 8 := by
  have e : 16 ^ 8 = 4294967296 := by decide
  exact numL_len 8 n (by omega) (by omega)
theorem hexL_dg (bs : List UInt8) : ∀ b ∈ hexL bs, dg b = true := by
  intro b hb
  obtain ⟨x, _, hx⟩ := List.mem_flatMap.1 hb
  have hxl := x.toNat_lt
  unfold hexB at hx
  simp only [List.mem_cons, List.not_mem_nil, or_false] at hx
  rcases hx with rfl | rfl
  · exact nib_dg (by omega)
  · exact nib_dg (by omega)

theorem runN_app : ∀ {k : Nat} {xs rest : List UInt8}, (∀ b ∈ xs, dg b = true) → xs.length ≤ k → (xs.length = k ∨ ∀ b r, rest = b :: r → dg b = false) → runN k (xs ++ rest) = xs.length
  | 0, [], rest, _, _, _ => rfl
  | 0, _ :: _, _, _, h, _ => by simp at h
  | k + 1, [], rest, _, _, h => by
    cases rest with
    | nil => rfl
    | cons b r =>
      have : dg b = false := by
        rcases h with h | h
        · simp at h
        · exact h b r rfl
      simp [runN, this]
  | k + 1, x :: xs, rest, h1, h2, h3 => by
    simp only [List.cons_append, runN, h1 x (List.mem_cons_self ..), if_true]
    rw [runN_app (k := k) (xs := xs) (rest := rest) (fun b hb => h1 b (List.mem_cons_of_mem _ hb)) (by simp at h2; omega) (by
      rcases h3 with h3 | h3
      · left; simp at h3; omega
      · exact .inr h3)]
    simp; omega

theorem pre_app (b r : List UInt8) : pre (b ++ r) b = true := by unfold pre; simp
theorem eat_app (b r : List UInt8) : eatF (b ++ r) b = (r, 0) := by
  unfold eatF
  rw [pre_app, if_pos rfl]
  simp

/-- a chunk's text, its signature given -/
def rawC (sum d : List UInt8) : List UInt8 := numL d.length ++ (markL ++ (sum ++ (crL ++ (d ++ crL))))
def chunkT (w : Wh) (last d : List UInt8) : List UInt8 := rawC (signF w last d) d
theorem sign_dg (w : Wh) (last d : List UInt8) : ∀ b ∈ signF w last d, dg b = true := hexL_dg _

theorem piece_head {n : Nat} (hn : n < 4294967296) (rest : List UInt8) : pieceF (numL n ++ (markL ++ rest)) = py rest n := by
  unfold pieceF
  have r8 : runN 8 (numL n ++ (markL ++ rest)) = (numL n).length := runN_app (numL_dg n) (numL_len8 hn) (.inr (by
    intro b r e
    have : b = 59 := by
      have := congrArg List.head? e
      simpa [markL] using this.symm
    subst this
    decide))
  have l0 : (numL n).length ≠ 0 := fun h => numL_ne n (List.length_eq_zero_iff.1 h)
  rw [r8, if_neg (fun h => l0 h.1), List.drop_left, List.take_left, eat_app, if_neg (by simp), numL_val]

theorem py_sum {sum : List UInt8} (hs : ∀ b ∈ sum, dg b = true) (hl : sum.length = 64) (rest : List UInt8) (size : Nat) : py (sum ++ rest) size = pz sum rest size := by
  unfold py
  have r : runN 64 (sum ++ rest) = 64 := by rw [runN_app hs (by omega) (.inl hl), hl]
  have e1 : (sum ++ rest).take 64 = sum := by rw [← hl, List.take_left]
  have e2 : (sum ++ rest).drop 64 = rest := by rw [← hl, List.drop_left]
  rw [r, if_neg (by omega), if_neg (by omega), e1, e2]

theorem piece_raw {sum d : List UInt8} (hs : ∀ b ∈ sum, dg b = true) (hl : sum.length = 64) (hd : d.length < 4294967296) (rest : List UInt8) :
    pieceF (rawC sum d ++ rest) = if d = [] ∧ rest ≠ [] then errP 308 else (sum, d, rest, 0) := by
  have e : rawC sum d ++ rest = numL d.length ++ (markL ++ (sum ++ (crL ++ (d ++ (crL ++ rest))))) := by unfold rawC; simp only [List.append_assoc]
  rw [e, piece_head hd, py_sum hs hl]
  unfold pz
  rw [eat_app, if_neg (by simp)]
  show (if (d ++ (crL ++ rest)).length < d.length then _ else _) = _
  rw [if_neg (by simp)]
  show pz2 sum ((d ++ (crL ++ rest)).take d.length) d.length (eatF ((d ++ (crL ++ rest)).drop d.length) crL) = _
  rw [List.take_left, List.drop_left, eat_app]
  unfold pz2
  by_cases h : d = [] ∧ rest ≠ []
  · have c : ((rest, (0 : Int)).2 = 0 ∧ d.length = 0 ∧ (rest, (0 : Int)).1 ≠ []) := ⟨rfl, by rw [h.1]; rfl, h.2⟩
    rw [if_pos h, if_pos c, if_pos (by decide)]
  · have c : ¬ ((rest, (0 : Int)).2 = 0 ∧ d.length = 0 ∧ (rest, (0 : Int)).1 ≠ []) := fun hh => h ⟨List.length_eq_zero_iff.1 hh.2.1, hh.2.2⟩
    rw [if_neg h, if_neg c, if_neg (by simp)]

/-! ### cutting -/
def cutL : List UInt8 → List Int → List (List UInt8)
  | data, [] => if data = [] then [] else [data]
  | data, n :: r => if n < 1 ∨ data = [] then cutL data r else data.take n.toNat :: cutL (data.drop n.toNat) r
def encP (w : Wh) : List UInt8 → List (List UInt8) → List UInt8
  | _, [] => []
  | last, d :: r => chunkT w last d ++ encP w (signF w last d) r
def encF (w : Wh) (data : List UInt8) (sizes : List Int) : List UInt8 := encP w (bl w.sig) (cutL data sizes ++ [[]])

theorem cut_ok : ∀ (sizes : List Int) (data : List UInt8), (cutL data sizes).flatten = data ∧ ∀ d ∈ cutL data sizes, d ≠ [] ∧ d.length ≤ data.length
  | [], data => by
    unfold cutL
    split
    · rename_i h; subst h; simp
    · rename_i h
      refine ⟨by simp, fun d hd => ?_⟩
      simp only [List.mem_singleton] at hd
      subst hd
      exact ⟨h, Nat.le_refl _⟩
  | n :: r, data => by
    unfold cutL
    split
    · exact cut_ok r data
    · rename_i h
      obtain ⟨h1, h2⟩ := cut_ok r (data.drop n.toNat)
      refine ⟨by rw [List.flatten_cons, h1, List.take_append_drop], fun d hd => ?_⟩
      rcases List.mem_cons.1 hd with e | e
      · subst e
        refine ⟨fun hh => ?_, by rw [List.length_take]; omega⟩
        have := congrArg List.length hh
        rw [List.length_take] at this
        have hdl : data.length ≠ 0 := fun h0 => h (.inr (List.length_eq_zero_iff.1 h0))
        simp only [List.length_nil] at this
        omega
      · obtain ⟨q1, q2⟩ := h2 d e
        rw [List.length_drop] at q2
        exact ⟨q1, by omega⟩

theorem rawC_len (sum d : List UInt8) (hl : sum.length = 64) : (rawC sum d).length = (numL d.length).length + 85 + d.length := by
  unfold rawC
  simp only [List.length_append, hl]
  have e1 : markL.length = 17 := rfl
  have e2 : crL.length = 2 := rfl
  omega
theorem chunkT_len {w : Wh} {last d : List UInt8} (hd : d.length < 4294967296) : (chunkT w last d).length ≤ 93 + d.length ∧ 86 ≤ (chunkT w last d).length := by
  unfold chunkT
  rw [rawC_len _ _ (sign_len w last d)]
  have := numL_len8 hd
  have : (numL d.length).length ≠ 0 := fun h => numL_ne _ (List.length_eq_zero_iff.1 h)
  omega

/-- what is cut and signed is read back -/
theorem dec_enc {w : Wh} {size : Int} : ∀ (ps : List (List UInt8)) (last out : List UInt8) (n : Nat), (∀ d ∈ ps, d ≠ [] ∧ d.length < 4294967296) → ps.length < n →
    decN w size n last (encP w last (ps ++ [[]])) out = if ((out ++ ps.flatten).length : Int) ≠ size then ([], 307) else (out ++ ps.flatten, 0)
  | [], last, out, n, _, hn => by
    obtain ⟨m, rfl⟩ : ∃ m, n = m + 1 := ⟨n - 1, by simp at hn; omega⟩
    have e : encP w last ([] ++ [[]]) = rawC (signF w last []) [] ++ [] := by simp [encP, chunkT]
    have p : pieceF (encP w last ([] ++ [[]])) = (signF w last [], [], [], 0) := by
      rw [e, piece_raw (sign_dg w last []) (sign_len w last []) (by simp), if_neg (by simp)]
    unfold decN
    rw [p]
    simp
  | d :: r, last, out, n, h, hn => by
    obtain ⟨m, rfl⟩ : ∃ m, n = m + 1 := ⟨n - 1, by simp at hn; omega⟩
    have hd := h d (List.mem_cons_self ..)
    have e : encP w last ((d :: r) ++ [[]]) = rawC (signF w last d) d ++ encP w (signF w last d) (r ++ [[]]) := rfl
    have p : pieceF (encP w last ((d :: r) ++ [[]])) = (signF w last d, d, encP w (signF w last d) (r ++ [[]]), 0) := by
      rw [e, piece_raw (sign_dg w last d) (sign_len w last d) hd.2, if_neg (fun hh => hd.1 hh.1)]
    unfold decN
    rw [p]
    have ih := dec_enc (w := w) (size := size) r (signF w last d) (out ++ d) m (fun x hx => h x (List.mem_cons_of_mem _ hx)) (by simp at hn; omega)
    simp only [ne_eq, not_true, if_false, hd.1]
    rw [ih]
    simp only [List.append_assoc, List.flatten_cons]

theorem encP_len (w : Wh) : ∀ (ps : List (List UInt8)) (last : List UInt8), ps.length ≤ (encP w last ps).length
  | [], _ => by simp
  | d :: r, last => by
    simp only [encP, List.length_append, List.length_cons]
    have := encP_len w r (signF w last d)
    have h2 : 0 < (chunkT w last d).length := by
      unfold chunkT
      rw [rawC_len _ _ (sign_len w last d)]
      omega
    omega

theorem dec_encF {w : Wh} {size : Int} {data : List UInt8} {sizes : List Int} (hd : data.length < 4294967296) : decF w size (encF w data sizes) = if (data.length : Int) ≠ size then ([], 307) else (data, 0) := by
  unfold decF encF
  obtain ⟨c1, c2⟩ := cut_ok sizes data
  have h1 := encP_len w (cutL data sizes ++ [[]]) (bl w.sig)
  rw [List.length_append] at h1
  rw [dec_enc _ _ _ _ (fun d hd' => ⟨(c2 d hd').1, by have := (c2 d hd').2; omega⟩) (by simp at h1; omega), List.nil_append, c1]
end Chunk
end Go.Proofs.YtncffbocmpmejaaDoor
