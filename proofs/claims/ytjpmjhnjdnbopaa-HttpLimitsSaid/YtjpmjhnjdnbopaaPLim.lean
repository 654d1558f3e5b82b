/- HttpLimits: what the text comes to. -/
import Derived.Test.YtjpmjhnjdnbopaaPBackH
namespace Go.Proofs.Ytjpmjhnjdnbopaa
open Go D
set_option linter.unusedVariables false
set_option linter.unusedSimpArgs false

/-! ### digits -/
def decD (n : Nat) : List UInt8 := if h : n < 10 then [UInt8.ofNat (48 + n)] else decD (n / 10) ++ [UInt8.ofNat (48 + n % 10)]
termination_by n
decreasing_by omega
theorem decD_small {n : Nat} (h : n < 10) : decD n = [UInt8.ofNat (48 + n)] := by rw [decD, dif_pos h]
theorem decD_big {n : Nat} (h : ¬ n < 10) : decD n = decD (n / 10) ++ [UInt8.ofNat (48 + n % 10)] := by rw [decD, dif_neg h]
theorem dig_toNat {d : Nat} (h : d < 10) : (UInt8.ofNat (48 + d)).toNat = 48 + d := by rw [UInt8.toNat_ofNat']; omega
theorem decL_snoc : ∀ {s : List UInt8} {acc a : Nat} {d : Nat}, d < 10 → decL acc s = ((a : Int), true) → decL acc (s ++ [UInt8.ofNat (48 + d)]) = (((10 * a + d : Nat) : Int), true)
  | [], acc, a, d, hd, h => by
    simp only [decL] at h
    injection h with h _
    have : acc = a := by omega
    subst this
    show decL acc [UInt8.ofNat (48 + d)] = _
    unfold decL
    rw [dig_toNat hd, if_neg (by omega)]
    unfold decL
    rw [show 48 + d - 48 = d by omega]
  | b :: r, acc, a, d, hd, h => by
    show decL acc (b :: (r ++ [UInt8.ofNat (48 + d)])) = _
    unfold decL at h ⊢
    split
    · rw [if_pos (by assumption)] at h
      injection h with _ h
      cases h
    · rw [if_neg (by assumption)] at h
      exact decL_snoc hd h
theorem decD_val : ∀ n : Nat, decL 0 (decD n) = ((n : Int), true) := by
  intro n
  induction n using Nat.strongRecOn with
  | _ n ih =>
    by_cases h : n < 10
    · rw [decD_small h]
      have := decL_snoc (s := []) (acc := 0) (a := 0) h rfl
      rw [List.nil_append] at this
      rw [this]; simp
    · rw [decD_big h, decL_snoc (Nat.mod_lt _ (by omega)) (ih (n / 10) (by omega))]
      congr 2
      omega
theorem decD_len : ∀ (k n : Nat), n < 10 ^ (k + 1) → 1 ≤ (decD n).length ∧ (decD n).length ≤ k + 1
  | 0, n, h => by
    rw [decD_small (by simpa using h)]; simp
  | k + 1, n, h => by
    by_cases h10 : n < 10
    · rw [decD_small h10]; simp
    · have := decD_len k (n / 10) (by rw [Nat.pow_succ] at h; omega)
      rw [decD_big h10, List.length_append]
      simp; omega
theorem decD_head : ∀ n : Nat, 1 ≤ n → (decD n)[0]? ≠ some 48 := by
  intro n
  induction n using Nat.strongRecOn with
  | _ n ih =>
    intro h1
    by_cases h : n < 10
    · rw [decD_small h]
      intro e
      simp only [List.getElem?_cons_zero, Option.some.injEq] at e
      have := congrArg UInt8.toNat e
      rw [dig_toNat h] at this
      have e48 : (48 : UInt8).toNat = 48 := rfl
      omega
    · rw [decD_big h]
      have hl : 0 < (decD (n / 10)).length := by
        by_cases h10 : n / 10 < 10
        · rw [decD_small h10]; simp
        · rw [decD_big h10]; simp
      rw [List.getElem?_append_left hl]
      exact ih (n / 10) (by omega) (by omega)
theorem decD_dig : ∀ (n : Nat) (b : UInt8), b ∈ decD n → 48 ≤ b.toNat ∧ b.toNat ≤ 57 := by
  intro n
  induction n using Nat.strongRecOn with
  | _ n ih =>
    intro b hb
    by_cases h : n < 10
    · rw [decD_small h] at hb
      simp only [List.mem_singleton] at hb
      subst hb
      rw [dig_toNat h]; omega
    · rw [decD_big h] at hb
      rcases List.mem_append.1 hb with hb | hb
      · exact ih (n / 10) (by omega) b hb
      · simp only [List.mem_singleton] at hb
        subst hb
        rw [dig_toNat (Nat.mod_lt _ (by omega))]; omega
theorem decD_int {n : Nat} (h : n < 10000000) : intF (decD n) = ((n : Int), true) := by
  have hl := decD_len 6 n h
  unfold intF
  have : badI (decD n) = false := by
    unfold badI
    rw [decide_eq_false (show ¬ (decD n).length < 1 by omega), decide_eq_false (show ¬ 18 < (decD n).length by omega)]
    by_cases h10 : n < 10
    · rw [decD_small h10]; rfl
    · rw [decide_eq_false (decD_head n (by omega))]; simp
  rw [this, if_neg (by simp)]
  exact decD_val n

/-! ### the text -/
def rep (n : Nat) (b : UInt8) : List UInt8 := List.replicate n b
def front (nx : Nat) : List UInt8 := [71, 69, 84, 32, 47] ++ rep nx 120
def lineX (nx : Nat) : List UInt8 := front nx ++ [32, 72, 84, 84, 80, 47, 49, 46, 49]
def hostX : List UInt8 := [104, 111, 115, 116, 58, 32, 97]
def abX : List UInt8 := [97, 58, 32, 98, 13, 10]
def abs_ : Nat → List UInt8
  | 0 => []
  | n + 1 => abX ++ abs_ n
theorem abs_snoc : ∀ n, abs_ (n + 1) = abs_ n ++ abX
  | 0 => by simp [abs_]
  | n + 1 => by
    show abX ++ abs_ (n + 1) = (abX ++ abs_ n) ++ abX
    rw [abs_snoc n]; simp
theorem abs_len : ∀ n, (abs_ n).length = 6 * n
  | 0 => rfl
  | n + 1 => by show (abX ++ abs_ n).length = _; rw [List.length_append, abs_len n]; show 6 + 6 * n = _; omega
def clX : List UInt8 := [99, 111, 110, 116, 101, 110, 116, 45, 108, 101, 110, 103, 116, 104, 58, 32]
def limT (nx m : Nat) (size : Nat) : List UInt8 := lineX nx ++ 13 :: 10 :: (hostX ++ 13 :: 10 :: (abs_ m ++ ((clX ++ decD size) ++ 13 :: 10 :: [13, 10])))

theorem rep_ne {n : Nat} {b c : UInt8} (h : b ≠ c) : ∀ x ∈ rep n b, x ≠ c := fun x hx => by
  have := List.eq_of_mem_replicate hx
  subst this
  exact h
theorem split_no {c : UInt8} : ∀ {s r cur : List UInt8}, (∀ b ∈ s, b ≠ c) → splitA c cur (s ++ c :: r) = (cur ++ s) :: splitA c [] r
  | [], r, cur, _ => by
    show splitA c cur (c :: r) = _
    rw [splitA, if_pos rfl, List.append_nil]
  | a :: s, r, cur, h => by
    show splitA c cur (a :: (s ++ c :: r)) = _
    rw [splitA, if_neg (h a (by simp)), split_no (fun b hb => h b (by simp [hb]))]
    simp
theorem split_no0 {c : UInt8} : ∀ {s cur : List UInt8}, (∀ b ∈ s, b ≠ c) → splitA c cur s = [cur ++ s]
  | [], cur, _ => by simp [splitA]
  | a :: s, cur, h => by
    unfold splitA
    rw [if_neg (h a (by simp)), split_no0 (fun b hb => h b (by simp [hb]))]
    simp

theorem lineX_no (nx : Nat) : ∀ b ∈ lineX nx, b ≠ 13 ∧ b ≠ 10 := by
  intro b hb
  unfold lineX front at hb
  simp only [List.mem_append] at hb
  rcases hb with (hb | hb) | hb
  · have : ∀ b ∈ ([71, 69, 84, 32, 47] : List UInt8), b ≠ 13 ∧ b ≠ 10 := by decide
    exact this b hb
  · exact ⟨rep_ne (by decide) b hb, rep_ne (by decide) b hb⟩
  · have : ∀ b ∈ ([32, 72, 84, 84, 80, 47, 49, 46, 49] : List UInt8), b ≠ 13 ∧ b ≠ 10 := by decide
    exact this b hb
theorem lineX_len (nx : Nat) : (lineX nx).length = nx + 14 := by unfold lineX front rep; simp
theorem bareL_of {s : List UInt8} (h : ∀ b ∈ s, b ≠ 13 ∧ b ≠ 10) : bareL s = false := by
  unfold bareL
  rw [List.any_eq_false]
  intro b hb
  unfold isCL
  simp [h b hb]

theorem lim_begin {nx : Nat} (X : List UInt8) (h : nx + 14 ≤ 8192) : beginF (lineX nx ++ 13 :: 10 :: X) = .ok ([71, 69, 84], 47 :: rep nx 120, nx + 16) := by
  have hL : lineF 8192 338 (lineX nx ++ 13 :: 10 :: X) = .ok (lineX nx, nx + 16) := by
    unfold lineF
    rw [crlf_line (fun b hb => (lineX_no nx b hb).1)]
    simp only
    rw [lineX_len, if_neg (by omega), ← lineX_len nx, List.take_left' rfl, bareL_of (lineX_no nx), lineX_len]
    rfl
  have hS : splitL 32 (lineX nx) = [[71, 69, 84], 47 :: rep nx 120, http11] := by
    have e : lineX nx = [71, 69, 84] ++ 32 :: ((47 :: rep nx 120) ++ 32 :: http11) := by unfold lineX front http11; simp
    unfold splitL
    rw [e, split_no (by decide), split_no (by
      intro b hb
      rcases List.mem_cons.1 hb with rfl | hb
      · decide
      · exact rep_ne (by decide) b hb), split_no0 (by decide)]
    rfl
  have hT : targetL (47 :: rep nx 120) = true := by
    unfold targetL
    have : (47 :: rep nx 120).all tarB = true := by
      rw [List.all_eq_true]
      intro b hb
      rcases List.mem_cons.1 hb with rfl | hb
      · decide
      · have := List.eq_of_mem_replicate hb
        subst this
        decide
    rw [this]; rfl
  rw [beginF_3 hL hS]
  have : startF [71, 69, 84] (47 :: rep nx 120) http11 = 0 := by
    unfold startF
    rw [hT]
    have h1 : tokenL [71, 69, 84] = true := by decide
    have h2 : versionF http11 = 0 := by decide
    rw [h1, h2]
    simp
  rw [this, if_pos rfl]

def hA : HP := (⟨#[97]⟩, ⟨#[98]⟩)
theorem ab_head : headF [97, 58, 32, 98] = some hA := by kernel_rfl
def repH (m : Nat) : List HP := List.replicate m hA
def hconsN (m : Nat) : HR → HR
  | .ok (l, n, k') => .ok (repH m ++ l, 6 * m + n, k')
  | .error e => .error e
theorem head_abs : ∀ (m k hd : Nat) (X : List UInt8), hd + 6 * m ≤ 60000 → headersF k (abs_ m ++ X) hd = if m ≤ k then hconsN m (headersF (k - m) X (hd + 6 * m)) else .error 339
  | 0, k, hd, X, h => by
    rw [if_pos (by omega)]
    show headersF k X hd = _
    rw [Nat.sub_zero, Nat.mul_zero, Nat.add_zero]
    cases headersF k X hd with
    | ok x => obtain ⟨l, n, k'⟩ := x; simp [hconsN, repH]
    | error e => rfl
  | m + 1, k, hd, X, h => by
    have e : abs_ (m + 1) ++ X = [97, 58, 32, 98] ++ 13 :: 10 :: (abs_ m ++ X) := by
      show (abX ++ abs_ m) ++ X = _
      unfold abX
      simp
    have hc := crlf_line (L := [97, 58, 32, 98]) (r := abs_ m ++ X) (by decide)
    rw [e]
    cases k with
    | zero =>
      rw [if_neg (by omega)]
      exact headersF_many hc (by decide)
    | succ k =>
      have hs := headersF_hcons (k := k) (hd := hd) hc (by decide) (by show ¬ 65536 < hd + 4 + 2; omega) (by rw [List.take_left' rfl]; exact ab_head)
      have hd6 : ([97, 58, 32, 98] ++ 13 :: 10 :: (abs_ m ++ X) : List UInt8).drop (([97, 58, 32, 98] : List UInt8).length + 2) = abs_ m ++ X := by
        rw [← List.drop_drop, List.drop_left' rfl]; rfl
      rw [hd6] at hs
      rw [hs]
      show hcons hA 4 (headersF k (abs_ m ++ X) (hd + 4 + 2)) = _
      rw [head_abs m k (hd + 4 + 2) X (by omega), show hd + 4 + 2 + 6 * m = hd + 6 * (m + 1) by omega, show k + 1 - (m + 1) = k - m by omega]
      by_cases hm : m ≤ k
      · rw [if_pos hm, if_pos (by omega)]
        cases headersF (k - m) X (hd + 6 * (m + 1)) with
        | ok x =>
          obtain ⟨l, n, k'⟩ := x
          show Except.ok (hA :: (repH m ++ l), 4 + 2 + (6 * m + n), k') = Except.ok (repH (m + 1) ++ l, 6 * (m + 1) + n, k')
          have : repH (m + 1) = hA :: repH m := rfl
          rw [this]
          congr 2
          congr 1
          omega
        | error e => rfl
      · rw [if_neg hm, if_neg (by omega)]
        rfl

theorem host_head : headF hostX = some (⟨#[104, 111, 115, 116]⟩, ⟨#[97]⟩) := by kernel_rfl
def clN : List UInt8 := [99, 111, 110, 116, 101, 110, 116, 45, 108, 101, 110, 103, 116, 104]
theorem cl_head {ds : List UInt8} (hd : ∀ b ∈ ds, 48 ≤ b.toNat ∧ b.toNat ≤ 57) (hne : ds ≠ []) : headF (clX ++ ds) = some (clT, ofL ds) := by
  have hno : ∀ b ∈ ds, b ≠ 13 ∧ b ≠ 10 := fun b hb => by
    have := hd b hb
    constructor
    · intro e; subst e; have e2 : (13 : UInt8).toNat = 13 := rfl; omega
    · intro e; subst e; have e2 : (10 : UInt8).toNat = 10 := rfl; omega
  have hb : bareL (clX ++ ds) = false := bareL_of (fun b hb => by
    rcases List.mem_append.1 hb with hb | hb
    · have : ∀ b ∈ clX, b ≠ 13 ∧ b ≠ 10 := by decide
      exact this b hb
    · exact hno b hb)
  have e : clX ++ ds = clN ++ 58 :: (32 :: ds) := by unfold clX clN; simp
  have hcut : cutAt 58 (clX ++ ds) = (clN, 32 :: ds, true) := by
    rw [e]
    have := cutAt_yes (c := 58) (s := clN ++ 58 :: (32 :: ds)) (i := clN.length) (by rw [List.getElem?_append_right (Nat.le_refl _), Nat.sub_self]; rfl) (fun j b hj hb => by
      rw [List.getElem?_append_left hj] at hb
      have hall : ∀ b ∈ clN, b ≠ 58 := by decide
      exact hall b (List.mem_of_getElem? hb))
    rw [this, List.take_left' rfl, ← List.drop_drop, List.drop_left' rfl]
    rfl
  have hv : valueL (32 :: ds) = true := by
    unfold valueL
    rw [List.all_cons, List.all_eq_true.2 (fun b hb => ?_)]
    · rfl
    · have := hd b hb
      unfold valB
      simp
      omega
  have hbl : ∀ b ∈ ds, blankB b = false := fun b hb => by
    have := hd b hb
    unfold blankB
    have h1 : b ≠ 32 := fun e => by subst e; have e2 : (32 : UInt8).toNat = 32 := rfl; omega
    have h2 : b ≠ 9 := fun e => by subst e; have e2 : (9 : UInt8).toNat = 9 := rfl; omega
    simp [h1, h2]
  have htr : trimL (32 :: ds) = ds := by
    unfold trimL
    have e1 : (32 :: ds).dropWhile blankB = ds := by
      rw [List.dropWhile_cons, if_pos (by decide)]
      cases ds with
      | nil => rfl
      | cons a r => rw [List.dropWhile_cons, if_neg (by simp [hbl a (by simp)])]
    rw [e1]
    have e2 : ds.reverse.dropWhile blankB = ds.reverse := by
      have hr : ∀ b ∈ ds.reverse, blankB b = false := fun b hb => hbl b (List.mem_reverse.1 hb)
      generalize ds.reverse = q at hr
      cases q with
      | nil => rfl
      | cons a r => rw [List.dropWhile_cons, if_neg (by simp [hr a (by simp)])]
    rw [e2, List.reverse_reverse]
  unfold headF
  rw [hb, hcut, hv]
  have ht : tokenL clN = true := by decide
  simp only [ht, htr]
  rfl

theorem allF_no {name : ByteArray} {p : HP} {r : List HP} (h : ¬ p.1 = name) : allF name (p :: r) = allF name r := by
  rw [allF, if_neg h]
theorem allF_yes {name : ByteArray} {p : HP} {r : List HP} (h : p.1 = name) : allF name (p :: r) = p.2 :: allF name r := by
  rw [allF, if_pos h]
theorem allF_rep (name : ByteArray) (hn : ¬ (⟨#[97]⟩ : ByteArray) = name) : ∀ (m : Nat) (r : List HP), allF name (repH m ++ r) = allF name r
  | 0, r => rfl
  | m + 1, r => by
    show allF name (hA :: (repH m ++ r)) = _
    rw [allF_no (show ¬ hA.1 = name from hn)]
    exact allF_rep name hn m r

def hsX (m : Nat) (ds : List UInt8) : List HP := (⟨#[104, 111, 115, 116]⟩, ⟨#[97]⟩) :: (repH m ++ [(clT, ofL ds)])
theorem hsX_check (m size : Nat) (hs : size < 10000000) : checkF (hsX m (decD size)) = if 1048576 < size then (0, 324) else ((size : Int), 0) := by
  have h1 : allF teT (hsX m (decD size)) = [] := by
    unfold hsX
    rw [allF_no (by decide), allF_rep _ (by decide), allF_no (show ¬ clT = teT by decide)]; rfl
  have h2 : allF clT (hsX m (decD size)) = [ofL (decD size)] := by
    unfold hsX
    rw [allF_no (by decide), allF_rep _ (by decide), allF_yes (show (clT, ofL (decD size)).1 = clT from rfl)]; rfl
  have h3 : allF hostT (hsX m (decD size)) = [⟨#[97]⟩] := by
    unfold hsX
    rw [allF_yes (show ((⟨#[104, 111, 115, 116]⟩ : ByteArray), (⟨#[97]⟩ : ByteArray)).1 = hostT from rfl), allF_rep _ (by decide), allF_no (show ¬ clT = hostT by decide)]; rfl
  have h4 : allF expectT (hsX m (decD size)) = [] := by
    unfold hsX
    rw [allF_no (by decide), allF_rep _ (by decide), allF_no (show ¬ clT = expectT by decide)]; rfl
  unfold checkF fitF
  rw [h1, h2, h3, if_neg (by simp), if_neg (by simp)]
  simp only [bl_ofL, decD_int hs]
  rw [if_neg (by simp)]
  by_cases hb : 1048576 < size
  · rw [if_pos hb, if_pos (by omega)]
  · rw [if_neg hb, if_neg (by omega)]
    unfold expF
    rw [h4]
    simp

theorem lim_long {nx m size : Nat} (h : 8192 < nx + 14) : requestF (limT nx m size) = .error 338 := by
  refine reqF_begin (beginF_e ?_)
  unfold limT lineF
  rw [crlf_line (fun b hb => (lineX_no nx b hb).1)]
  simp only
  rw [lineX_len, if_pos h]

theorem lim_head {nx m size : Nat} (h : nx + 14 ≤ 8192) (hm : m ≤ 200) (hs : size < 10000000) : headersF 100 ((limT nx m size).drop (nx + 16)) (nx + 16) = if m ≤ 98 then .ok (hsX m (decD size), 9 + (6 * m + (16 + (decD size).length + 2 + 2)), 98 - m) else .error 339 := by
  have hd : (limT nx m size).drop (nx + 16) = hostX ++ 13 :: 10 :: (abs_ m ++ ((clX ++ decD size) ++ 13 :: 10 :: [13, 10])) := by
    unfold limT
    rw [show nx + 16 = (lineX nx).length + 2 by rw [lineX_len], ← List.drop_drop, List.drop_left' rfl]
    rfl
  have hdl := decD_len 6 size hs
  rw [hd]
  have hc := crlf_line (L := hostX) (r := abs_ m ++ ((clX ++ decD size) ++ 13 :: 10 :: [13, 10])) (by decide)
  have s1 := headersF_hcons (k := 99) (hd := nx + 16) hc (by decide) (by show ¬ 65536 < nx + 16 + 7 + 2; omega) (by rw [List.take_left' rfl]; exact host_head)
  rw [← List.drop_drop, List.drop_left' rfl] at s1
  rw [show (13 :: 10 :: (abs_ m ++ ((clX ++ decD size) ++ 13 :: 10 :: [13, 10]))).drop 2 = abs_ m ++ ((clX ++ decD size) ++ 13 :: 10 :: [13, 10]) from rfl] at s1
  rw [s1]
  show hcons _ 7 (headersF 99 _ (nx + 16 + 7 + 2)) = _
  rw [head_abs m 99 _ _ (by omega)]
  have hdig := decD_dig size
  have hne : decD size ≠ [] := fun e => by rw [e] at hdl; simp at hdl
  have hch := cl_head hdig hne
  have h13 : ∀ b ∈ clX ++ decD size, b ≠ 13 := by
    intro b hb
    rcases List.mem_append.1 hb with hb | hb
    · have : ∀ b ∈ clX, b ≠ 13 := by decide
      exact this b hb
    · have := hdig b hb
      intro e
      subst e
      have e2 : (13 : UInt8).toNat = 13 := rfl
      omega
  have hc2 := crlf_line (L := clX ++ decD size) (r := [13, 10]) h13
  have hl2 : (clX ++ decD size).length = 16 + (decD size).length := by rw [List.length_append]; rfl
  by_cases h98 : m ≤ 98
  · rw [if_pos h98, if_pos (by omega)]
    obtain ⟨k, hk⟩ : ∃ k, 99 - m = k + 1 := ⟨98 - m, by omega⟩
    have hk2 : k = 98 - m := by omega
    rw [hk]
    have s2 := headersF_hcons (k := k) (hd := nx + 16 + 7 + 2 + 6 * m) hc2 (by omega) (by omega) (by rw [List.take_left' rfl]; exact hch)
    rw [← List.drop_drop, List.drop_left' rfl] at s2
    rw [show (13 :: 10 :: [13, 10] : List UInt8).drop 2 = [13, 10] from rfl] at s2
    have c3 : crlf [13, 10] = some 0 := rfl
    rw [headersF_end (k := k) c3 (by omega)] at s2
    rw [s2, hl2, hk2]
    show Except.ok (_ :: (repH m ++ [(clT, ofL (decD size))]), 7 + 2 + (6 * m + (16 + (decD size).length + 2 + 2)), 98 - m) = _
    unfold hsX
    rfl
  · rw [if_neg h98]
    by_cases h99 : m ≤ 99
    · rw [if_pos h99, show 99 - m = 0 by omega, headersF_many hc2 (by omega)]
      rfl
    · rw [if_neg h99]
      rfl

theorem limT_len (nx m size : Nat) : (limT nx m size).length = nx + 16 + (9 + (6 * m + (16 + (decD size).length + 2 + 2))) := by
  unfold limT
  simp only [List.length_append, List.length_cons, lineX_len, abs_len, List.length_nil]
  show nx + 14 + (7 + (6 * m + (16 + (decD size).length + 3 + 1) + 1 + 1) + 1 + 1) = _
  omega
theorem lim_req {nx m size : Nat} (h : nx + 14 ≤ 8192) (hm : m ≤ 200) (hs : size < 10000000) :
    (98 < m → requestF (limT nx m size) = .error 339) ∧ (m ≤ 98 → 1048576 < size → requestF (limT nx m size) = .error 324) ∧ (m ≤ 98 → ¬ 1048576 < size → 0 < size → requestF (limT nx m size) = .error 0) ∧
    (m ≤ 98 → size = 0 → ∃ rq, requestF (limT nx m size) = .ok (rq, (limT nx m size).length)) := by
  have hb : beginF (limT nx m size) = .ok ([71, 69, 84], 47 :: rep nx 120, nx + 16) := lim_begin _ h
  have hh := lim_head (m := m) (size := size) h hm hs
  have hck := hsX_check m size hs
  have hlen := limT_len nx m size
  refine ⟨fun h98 => ?_, fun h98 hsz => ?_, fun h98 hsz h0 => ?_, fun h98 h0 => ?_⟩
  · rw [if_neg (by omega)] at hh
    exact reqF_head hb hh
  · rw [if_pos h98] at hh
    rw [if_pos hsz] at hck
    have := reqF_check hb hh (by rw [hck]; simp)
    rw [hck] at this
    exact this
  · rw [if_pos h98] at hh
    rw [if_neg hsz] at hck
    exact reqF_short hb hh (by rw [hck]) (by rw [hck]; show ¬ ((size : Int) < 0); omega) (by rw [hck]; show _ < ((size : Int)).toNat; omega)
  · rw [if_pos h98] at hh
    rw [if_neg (by omega)] at hck
    have := reqF_ok hb hh (by rw [hck]) (by rw [hck]; show ¬ ((size : Int) < 0); omega) (by rw [hck]; show ¬ _ < ((size : Int)).toNat; omega)
    rw [hck] at this
    have e : nx + 16 + (9 + (6 * m + (16 + (decD size).length + 2 + 2))) + ((size : Int)).toNat = (limT nx m size).length := by omega
    rw [show (((size : Int), (0 : Int))).1.toNat = ((size : Int)).toNat from rfl, e] at this
    exact ⟨_, this⟩
end Go.Proofs.Ytjpmjhnjdnbopaa
