/- HttpChunks. -/
import Derived.Test.YtjpmjhnjdnbopaaPBackH
namespace Go.Proofs.Ytjpmjhnjdnbopaa
open Go D
set_option linter.unusedVariables false
set_option linter.unusedSimpArgs false

/-- the sixteen digits, small or great -/
def digT (up : Bool) : ByteArray := if up then ⟨#[48, 49, 50, 51, 52, 53, 54, 55, 56, 57, 65, 66, 67, 68, 69, 70]⟩ else ⟨#[48, 49, 50, 51, 52, 53, 54, 55, 56, 57, 97, 98, 99, 100, 101, 102]⟩
def dgt (up : Bool) (n : Nat) : UInt8 := (bl (digT up))[n % 16]?.getD 0
theorem dgt_get (up : Bool) {n : Nat} (h : n < 16) : (bl (digT up))[n]? = some (dgt up n) := by
  unfold dgt
  rw [Nat.mod_eq_of_lt h]
  have : n < (bl (digT up)).length := by cases up <;> exact h
  rw [List.getElem?_eq_getElem this]
  rfl
theorem dgt_all : ∀ (up : Bool) (n : Fin 16), hvx (dgt up n.val) = some n.val ∧ dgt up n.val ≠ 13 ∧ dgt up n.val ≠ 59 := by decide
theorem dgt_is (up : Bool) {n : Nat} (h : n < 16) : hvx (dgt up n) = some n ∧ dgt up n ≠ 13 ∧ dgt up n ≠ 59 := dgt_all up ⟨n, h⟩

/-- what is printed for one chunk -/
def hexL3 (up : Bool) (n : Nat) : List UInt8 := [dgt up (n / 256), dgt up (n / 16 % 16), dgt up (n % 16)]
def extL (e : Bool) : List UInt8 := if e then [59, 120, 61, 121] else []
def chunkL (up e : Bool) (c : List UInt8) : List UInt8 := hexL3 up c.length ++ extL e ++ 13 :: 10 :: (c ++ [13, 10])
/-- is it taken? -/
def okC (c : List UInt8) : Bool := decide (1 ≤ c.length) && decide (c.length ≤ 300)
/-- the chunks from the i-th on -/
def encC (up : Bool) : Nat → List (List UInt8) → List UInt8
  | _, [] => []
  | i, c :: r => (if okC c then chunkL up (decide (i % 2 = 1)) c else []) ++ encC up (i + 1) r
def allC : List (List UInt8) → List UInt8
  | [] => []
  | c :: r => (if okC c then c else []) ++ allC r
def lenC : List (List UInt8) → Nat
  | [] => 0
  | c :: r => (if okC c then c.length else 0) + lenC r
theorem allC_len : ∀ l, (allC l).length = lenC l
  | [] => rfl
  | c :: r => by
    unfold allC lenC
    rw [List.length_append, allC_len r]
    split <;> simp
theorem encC_snoc (up : Bool) : ∀ (l : List (List UInt8)) (i : Nat) (c : List UInt8), encC up i (l ++ [c]) = encC up i l ++ (if okC c then chunkL up (decide ((i + l.length) % 2 = 1)) c else [])
  | [], i, c => by simp [encC]
  | d :: r, i, c => by
    show encC up i (d :: (r ++ [c])) = _
    unfold encC
    rw [encC_snoc up r (i + 1) c, List.append_assoc, show i + 1 + r.length = i + (d :: r).length by simp; omega]
theorem allC_snoc : ∀ (l : List (List UInt8)) (c : List UInt8), allC (l ++ [c]) = allC l ++ (if okC c then c else [])
  | [], c => by simp [allC]
  | d :: r, c => by
    show allC (d :: (r ++ [c])) = _
    unfold allC
    rw [allC_snoc r c, List.append_assoc]

theorem chunk_line (up e : Bool) {c : List UInt8} (hc : okC c = true) (X : List UInt8) : lineF 256 308 (chunkL up e c ++ X) = .ok (hexL3 up c.length ++ extL e, (hexL3 up c.length ++ extL e).length + 2) ∧ sizeF (hexL3 up c.length ++ extL e) = some c.length := by
  unfold okC at hc
  simp only [Bool.and_eq_true, decide_eq_true_eq] at hc
  obtain ⟨a1, a2, a3⟩ := dgt_is up (n := c.length / 256) (by omega)
  obtain ⟨b1, b2, b3⟩ := dgt_is up (n := c.length / 16 % 16) (by omega)
  obtain ⟨c1, c2, c3⟩ := dgt_is up (n := c.length % 16) (by omega)
  have no13 : ∀ b ∈ hexL3 up c.length ++ extL e, b ≠ 13 := by
    intro b hb
    unfold hexL3 extL at hb
    simp only [List.mem_append, List.mem_cons, List.not_mem_nil, or_false] at hb
    rcases hb with (rfl | rfl | rfl) | hb
    · exact a2
    · exact b2
    · exact c2
    · cases e
      · simp at hb
      · simp at hb
        rcases hb with rfl | rfl | rfl | rfl <;> decide
  have hx : ∀ {s : List UInt8} (h : (chunkL up e c ++ X) = s ++ 13 :: 10 :: (c ++ 13 :: 10 :: X)), True := fun _ => trivial
  have e1 : chunkL up e c ++ X = (hexL3 up c.length ++ extL e) ++ 13 :: 10 :: (c ++ 13 :: 10 :: X) := by
    unfold chunkL
    simp
  have hlen : (hexL3 up c.length ++ extL e).length ≤ 7 := by unfold hexL3 extL; cases e <;> simp
  constructor
  · unfold lineF
    rw [e1, crlf_line no13]
    simp only
    rw [if_neg (by omega), List.take_left' rfl, if_neg]
    have hb : bareL (hexL3 up c.length ++ extL e) = false := by
      unfold bareL
      rw [List.any_eq_false]
      intro b hb
      have h13 := no13 b hb
      have h10 : b ≠ 10 := by
        unfold hexL3 extL at hb
        simp only [List.mem_append, List.mem_cons, List.not_mem_nil, or_false] at hb
        have hd : ∀ (up : Bool) (n : Fin 16), dgt up n.val ≠ 10 := by decide
        rcases hb with (rfl | rfl | rfl) | hb
        · exact hd up ⟨_, by omega⟩
        · exact hd up ⟨_, by omega⟩
        · exact hd up ⟨_, by omega⟩
        · cases e
          · simp at hb
          · simp at hb
            rcases hb with rfl | rfl | rfl | rfl <;> decide
      unfold isCL
      simp [h13, h10]
    simp [hb]
  · have hcut : cutAt 59 (hexL3 up c.length ++ extL e) = (hexL3 up c.length, if e then [120, 61, 121] else [], e) := by
      unfold hexL3
      cases e
      · simp [cutAt, extL, a3, b3, c3]
      · simp [cutAt, extL, a3, b3, c3]
    unfold sizeF
    rw [hcut]
    have hv : valueL (if e then [120, 61, 121] else []) = true := by cases e <;> decide
    have h3 : (hexL3 up c.length).length = 3 := rfl
    simp only [hv, h3]
    rw [if_neg (by simp)]
    unfold hexL3
    simp only [hexF, a1, b1, c1]
    congr 1
    omega

/-- the chunks are read one by one -/
theorem pieces_enc (up : Bool) : ∀ (l : List (List UInt8)) (i : Nat) (X body : List UInt8) (hd k : Nat), body.length + lenC l ≤ 1048576 →
    piecesF (encC up i l ++ X) body hd k = padd (encC up i l).length (piecesF X (body ++ allC l) hd k)
  | [], i, X, body, hd, k, hb => by
    show piecesF X body hd k = padd 0 (piecesF X (body ++ []) hd k)
    rw [List.append_nil]
    cases piecesF X body hd k with
    | ok x => obtain ⟨b, n⟩ := x; simp [padd]
    | error e => rfl
  | c :: r, i, X, body, hd, k, hb => by
    unfold lenC at hb
    unfold encC allC
    cases hc : okC c with
    | false =>
      rw [hc] at hb
      simp only [Bool.false_eq_true, if_false, List.nil_append] at hb ⊢
      exact pieces_enc up r (i + 1) X body hd k (by omega)
    | true =>
      rw [hc] at hb
      simp only [if_true] at hb ⊢
      obtain ⟨hL, hS⟩ := chunk_line up (decide (i % 2 = 1)) hc (encC up (i + 1) r ++ X)
      have hc2 := hc
      unfold okC at hc2
      simp only [Bool.and_eq_true, decide_eq_true_eq] at hc2
      generalize he : hexL3 up c.length ++ extL (decide (i % 2 = 1)) = L at hL hS
      have e1 : chunkL up (decide (i % 2 = 1)) c = L ++ 13 :: 10 :: (c ++ [13, 10]) := by unfold chunkL; rw [he]
      have e2 : chunkL up (decide (i % 2 = 1)) c ++ (encC up (i + 1) r ++ X) = L ++ 13 :: 10 :: (c ++ 13 :: 10 :: (encC up (i + 1) r ++ X)) := by rw [e1]; simp
      have hlen : (chunkL up (decide (i % 2 = 1)) c).length = L.length + 2 + c.length + 2 := by rw [e1]; simp; omega
      rw [e2] at hL
      have d1 : (L ++ 13 :: 10 :: (c ++ 13 :: 10 :: (encC up (i + 1) r ++ X))).drop (L.length + 2) = c ++ 13 :: 10 :: (encC up (i + 1) r ++ X) := by
        rw [← List.drop_drop, List.drop_left' rfl]; rfl
      have d2 : (L ++ 13 :: 10 :: (c ++ 13 :: 10 :: (encC up (i + 1) r ++ X))).drop (L.length + 2 + c.length + 2) = encC up (i + 1) r ++ X := by
        rw [← List.drop_drop, ← List.drop_drop, d1, List.drop_left' rfl]; rfl
      have hbe : badEnd ((L ++ 13 :: 10 :: (c ++ 13 :: 10 :: (encC up (i + 1) r ++ X))).drop (L.length + 2)) c.length = false := by
        rw [d1]
        unfold badEnd
        rw [List.getElem?_append_right (Nat.le_refl _), Nat.sub_self, List.getElem?_append_right (by omega), show c.length + 1 - c.length = 1 by omega]
        simp
      have hstep := piecesF_padd (body := body) (hd := hd) (k := k) hL hS (by omega) (by omega) hbe (by simp; omega)
      rw [d2, d1, List.take_left' rfl] at hstep
      rw [List.append_assoc, e2, hstep, pieces_enc up r (i + 1) X (body ++ c) hd k (by rw [List.length_append]; omega), List.length_append, hlen, List.append_assoc]
      cases piecesF X (body ++ (c ++ allC r)) hd k with
      | ok x => obtain ⟨b, n⟩ := x; simp [padd]; omega
      | error e => rfl

/-! ### the head, the end -/
def headC : List UInt8 := [80, 85, 84, 32, 47, 98, 47, 107, 32, 72, 84, 84, 80, 47, 49, 46, 49, 13, 10, 72, 111, 115, 116, 58, 32, 97, 13, 10, 84, 114, 97, 110, 115, 102, 101, 114, 45, 69, 110, 99, 111, 100, 105, 110, 103, 58, 32, 67, 104, 117, 110, 107, 101, 100, 13, 10, 13, 10]
def hsC : List HP := [(⟨#[104, 111, 115, 116]⟩, ⟨#[97]⟩), (⟨#[116, 114, 97, 110, 115, 102, 101, 114, 45, 101, 110, 99, 111, 100, 105, 110, 103]⟩, ⟨#[67, 104, 117, 110, 107, 101, 100]⟩)]
theorem headC_b : beginF headC = .ok ([80, 85, 84], [47, 98, 47, 107], 19) := by kernel_rfl
theorem headC_h : headersF 100 (headC.drop 19) 19 = .ok (hsC, 39, 98) := by kernel_rfl
theorem headC_c : checkF hsC = (-1, 0) := by kernel_rfl
theorem req_headC (X : List UInt8) : requestF (headC ++ X) = rpc [80, 85, 84] [47, 98, 47, 107] hsC 58 (piecesF X [] 58 98) := by
  have hb := (beginF_app (a := headC) (b := X)).1 _ headC_b
  have hd : (headC ++ X).drop 19 = headC.drop 19 ++ X := List.drop_append_of_le_length (by decide)
  have hh : headersF 100 ((headC ++ X).drop 19) 19 = .ok (hsC, 39, 98) := by rw [hd]; exact (headersF_app (k := 100) (hd := 19) (a := headC.drop 19) (b := X)).1 _ headC_h
  have := reqF_rpc hb hh (by rw [headC_c]) (by rw [headC_c]; decide)
  rw [this]
  have hd2 : (headC ++ X).drop (19 + 39) = X := by rw [show 19 + 39 = headC.length from rfl, List.drop_left' rfl]
  rw [hd2]

def trL (tr : Bool) : List UInt8 := if tr then [120, 45, 115, 117, 109, 58, 32, 49, 13, 10] else []
def zeroL : List UInt8 := [48, 13, 10]
theorem tail_ok (tr : Bool) (body : List UInt8) (hb : body.length ≤ 1048576) : piecesF (zeroL ++ trL tr ++ [13, 10]) body 58 98 = .ok (body, (zeroL ++ trL tr ++ [13, 10]).length) := by
  have hL : lineF 256 308 (zeroL ++ trL tr ++ [13, 10]) = .ok ([48], 3) := by cases tr <;> kernel_rfl
  have hS : sizeF [48] = some 0 := by kernel_rfl
  rw [piecesF_plast hL hS (by omega)]
  cases tr
  · have : headersF 98 ((zeroL ++ trL false ++ [13, 10]).drop 3) 58 = .ok ([], 2, 98) := by kernel_rfl
    rw [this]; rfl
  · have : ∃ l, headersF 98 ((zeroL ++ trL true ++ [13, 10]).drop 3) 58 = .ok (l, 12, 97) := ⟨[(⟨#[120, 45, 115, 117, 109]⟩, ⟨#[49]⟩)], by kernel_rfl⟩
    obtain ⟨l, hl⟩ := this
    rw [hl]; rfl
theorem tail_more (tr : Bool) (body : List UInt8) (hb : body.length ≤ 1048576) : piecesF (zeroL ++ trL tr) body 58 98 = .error 0 := by
  have hL : lineF 256 308 (zeroL ++ trL tr) = .ok ([48], 3) := by cases tr <;> kernel_rfl
  have hS : sizeF [48] = some 0 := by kernel_rfl
  rw [piecesF_plast hL hS (by omega)]
  cases tr
  · have : headersF 98 ((zeroL ++ trL false).drop 3) 58 = .error 0 := by kernel_rfl
    rw [this]; rfl
  · have : headersF 98 ((zeroL ++ trL true).drop 3) 58 = .error 0 := by kernel_rfl
    rw [this]; rfl

def textC (up tr : Bool) (l : List (List UInt8)) : List UInt8 := headC ++ encC up 0 l ++ zeroL ++ trL tr
theorem textC_ok (up tr : Bool) (l : List (List UInt8)) (hl : lenC l ≤ 1048576) : requestF (textC up tr l ++ [13, 10]) = .ok (⟨[80, 85, 84], [47, 98, 47, 107], hsC, allC l⟩, (textC up tr l).length + 2) := by
  have e : textC up tr l ++ [13, 10] = headC ++ (encC up 0 l ++ (zeroL ++ trL tr ++ [13, 10])) := by unfold textC; simp
  rw [e, req_headC, pieces_enc up l 0 _ [] 58 98 (by simpa using hl), List.nil_append, tail_ok tr _ (by rw [allC_len]; exact hl)]
  show Except.ok (_, _) = _
  congr 2
  unfold textC
  simp [headC]
  omega
theorem textC_more (up tr : Bool) (l : List (List UInt8)) (hl : lenC l ≤ 1048576) : requestF (textC up tr l) = .error 0 := by
  have e : textC up tr l = headC ++ (encC up 0 l ++ (zeroL ++ trL tr)) := by unfold textC; simp
  rw [e, req_headC, pieces_enc up l 0 _ [] 58 98 (by simpa using hl), List.nil_append, tail_more tr _ (by rw [allC_len]; exact hl)]
  rfl
end Go.Proofs.Ytjpmjhnjdnbopaa
