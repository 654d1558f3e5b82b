/- The plain law of bursts: bits that are turned within 32 of one another always change the check sum. -/
import Derived.Test.YtmkobpkdodgboaaPU32
namespace Go.Proofs.Ytmkobpkdodgboaa
open Go D
set_option linter.unusedVariables false
set_option linter.unusedSimpArgs false
namespace Hash

theorem crcBit_xor (x y : W) : crcBit (x ^^^ y) = crcBit x ^^^ crcBit y := by
  rw [crcBit_eq, crcBit_eq, crcBit_eq]
  have hd : (x ^^^ y) &&& 1#32 = (x &&& 1#32) ^^^ (y &&& 1#32) := by
    apply BitVec.eq_of_getLsbD_eq
    intro i hi
    simp only [BitVec.getLsbD_and, BitVec.getLsbD_xor]
    cases x.getLsbD i <;> cases y.getLsbD i <;> cases (1#32).getLsbD i <;> rfl
  have hs : (x ^^^ y) >>> 1 = (x >>> 1) ^^^ (y >>> 1) := by
    apply BitVec.eq_of_getLsbD_eq
    intro i hi
    simp only [BitVec.getLsbD_ushiftRight, BitVec.getLsbD_xor]
  rw [hd, hs]
  have q1 : ∀ a b p : W, (a ^^^ p) ^^^ (b ^^^ p) = a ^^^ b := by
    intro a b p
    rw [BitVec.xor_assoc, BitVec.xor_comm b p, ← BitVec.xor_assoc p p b, BitVec.xor_self, BitVec.zero_xor]
  rcases low1 x with hx | hx <;> rcases low1 y with hy | hy
  · rw [hx, hy, if_neg (by decide), if_neg (by decide), if_neg (by decide)]
  · rw [hx, hy, if_pos (by decide), if_neg (by decide), if_pos rfl, BitVec.xor_assoc]
  · rw [hx, hy, if_pos (by decide), if_pos rfl, if_neg (by decide), BitVec.xor_assoc, BitVec.xor_assoc, BitVec.xor_comm (y >>> 1)]
  · rw [hx, hy, if_neg (by decide), if_pos rfl, if_pos rfl, q1]

theorem crcBit_zero : crcBit 0#32 = 0#32 := by decide

theorem crcBit_inj0 {x : W} (h : crcBit x = 0#32) : x = 0#32 := by
  rw [crcBit_eq] at h
  rcases low1 x with hx | hx
  · rw [hx, if_neg (by decide)] at h
    apply BitVec.eq_of_toNat_eq
    have h1 : (x >>> 1).toNat = 0 := by rw [h]; rfl
    have h2 : (x &&& 1#32).toNat = 0 := by rw [hx]; rfl
    rw [BitVec.toNat_ushiftRight, Nat.shiftRight_eq_div_pow] at h1
    rw [BitVec.toNat_and] at h2
    have e : x.toNat &&& (1#32).toNat = x.toNat % 2 := Nat.and_one_is_mod _
    rw [e] at h2
    show x.toNat = 0
    omega
  · rw [hx, if_pos rfl] at h
    have h1 : x >>> 1 = 0x82f63b78#32 := by
      have := congrArg (· ^^^ 0x82f63b78#32) h
      simp only [BitVec.xor_assoc, BitVec.xor_self, BitVec.xor_zero, BitVec.zero_xor] at this
      exact this
    have h2 : (x >>> 1).toNat = 0x82f63b78 := by rw [h1]; rfl
    rw [BitVec.toNat_ushiftRight, Nat.shiftRight_eq_div_pow] at h2
    have := x.isLt
    omega

def itT : Nat → W → W
  | 0, x => x
  | n + 1, x => crcBit (itT n x)
theorem itT_xor : ∀ (n : Nat) (x y : W), itT n (x ^^^ y) = itT n x ^^^ itT n y
  | 0, _, _ => rfl
  | n + 1, x, y => by show crcBit (itT n (x ^^^ y)) = _; rw [itT_xor n, crcBit_xor]; rfl
theorem itT_zero : ∀ n, itT n 0#32 = 0#32
  | 0 => rfl
  | n + 1 => by show crcBit (itT n 0#32) = _; rw [itT_zero n, crcBit_zero]
theorem itT_inj0 : ∀ (n : Nat) {x : W}, itT n x = 0#32 → x = 0#32
  | 0, _, h => h
  | n + 1, _, h => itT_inj0 n (crcBit_inj0 h)
theorem iter8_itT (n : Nat) (x : W) : iter8 crcBit n x = itT n x := by
  induction n with
  | zero => rfl
  | succ n ih => show crcBit (iter8 crcBit n x) = _; rw [ih]; rfl
theorem itT_bit (j : Nat) (hj : j < 32) : itT j (1#32 <<< j) = 1#32 := by
  have h : ∀ k : Fin 32, itT k.val (1#32 <<< k.val) = 1#32 := by decide +kernel
  exact h ⟨j, hj⟩

/-- a bit as a word -/
def bw (b : Bool) : W := if b then 1#32 else 0#32
theorem bw_xor (a b : Bool) : bw a ^^^ bw b = bw (a != b) := by cases a <;> cases b <;> decide

/-- the lowest j bits -/
def lowB (n j : Nat) : W := BitVec.ofNat 32 (n % 2 ^ j)
theorem lowB_succ {n j : Nat} (hn : n < 2 ^ 32) : lowB n (j + 1) = lowB n j ^^^ (if n.testBit j then 1#32 <<< j else 0#32) := by
  apply BitVec.eq_of_getLsbD_eq
  intro i hi
  unfold lowB
  rw [BitVec.getLsbD_xor, BitVec.getLsbD_ofNat, BitVec.getLsbD_ofNat, Nat.testBit_mod_two_pow, Nat.testBit_mod_two_pow]
  by_cases hij : i = j
  · subst hij
    have e1 : decide (i < 32) = true := by simpa using hi
    have e2 : decide (i < i + 1) = true := by simp
    have e3 : decide (i < i) = false := by simp
    rw [e1, e2, e3]
    cases hb : n.testBit i
    · simp
    · simp [BitVec.getLsbD_shiftLeft, hi]
  · have e3 : decide (i < j + 1) = decide (i < j) := by
      rw [Bool.eq_iff_iff]; simp; omega
    rw [e3]
    cases hb : n.testBit j
    · simp
    · simp only [if_true, BitVec.getLsbD_shiftLeft]
      by_cases hlt : i < j
      · simp [hlt]
      · have h0 : ¬ (i - j = 0) := by omega
        simp [hlt, BitVec.getLsbD_one, h0]

/-- the steps of the register, bit by bit -/
theorem itT_step {n j : Nat} (hn : n < 2 ^ 32) (x : W) : crcBit (itT j (x ^^^ lowB n j) ^^^ bw (n.testBit j)) = itT (j + 1) (x ^^^ lowB n (j + 1)) := by
  rw [lowB_succ hn]
  show _ = crcBit (itT j (x ^^^ (lowB n j ^^^ _)))
  rw [← BitVec.xor_assoc, itT_xor j (x ^^^ lowB n j)]
  congr 2
  by_cases hj : j < 32
  · cases hb : n.testBit j
    · simp [bw, itT_zero]
    · simp [bw, itT_bit j hj]
  · have hb : n.testBit j = false := Nat.testBit_lt_two_pow (Nat.lt_of_lt_of_le hn (Nat.pow_le_pow_right (by decide) (by omega)))
    rw [hb]
    simp [bw, itT_zero]

def bitAt (bs : List UInt8) (n : Nat) : Bool := (bs.getD (n / 8) 0).toNat.testBit (n % 8)
def stN (bs : List UInt8) : Nat → W
  | 0 => 0xffffffff#32
  | n + 1 => crcBit (stN bs n ^^^ bw (bitAt bs n))

theorem stN_byte (bs : List UInt8) (i : Nat) {b : UInt8} (hb : bs[i]? = some b) : ∀ j, j ≤ 8 → stN bs (8 * i + j) = itT j (stN bs (8 * i) ^^^ lowB b.toNat j)
  | 0, _ => by
    show stN bs (8 * i) = stN bs (8 * i) ^^^ BitVec.ofNat 32 (b.toNat % 2 ^ 0)
    rw [Nat.pow_zero, Nat.mod_one, BitVec.xor_zero]
  | j + 1, hj => by
    have ih := stN_byte bs i hb j (by omega)
    show crcBit (stN bs (8 * i + j) ^^^ bw (bitAt bs (8 * i + j))) = _
    have e : bitAt bs (8 * i + j) = b.toNat.testBit j := by
      unfold bitAt
      rw [show (8 * i + j) / 8 = i by omega, show (8 * i + j) % 8 = j by omega, List.getD_eq_getElem?_getD, hb]
      rfl
    have := b.toNat_lt
    rw [ih, e, itT_step (by omega)]

theorem fold_stN (bs : List UInt8) : ∀ i, i ≤ bs.length → (bs.take i).foldl crcByte 0xffffffff#32 = stN bs (8 * i)
  | 0, _ => rfl
  | i + 1, hi => by
    have ih := fold_stN bs i (by omega)
    have hb : bs[i]? = some bs[i] := List.getElem?_eq_getElem (by omega)
    rw [foldl_take _ _ _ _ _ hb, ih, show 8 * (i + 1) = 8 * i + 8 by omega, stN_byte bs i hb 8 (Nat.le_refl _)]
    unfold crcByte
    rw [iter8_itT]
    have e : lowB bs[i].toNat 8 = ub bs[i] := by
      unfold lowB ub
      have := bs[i].toNat_lt
      rw [Nat.mod_eq_of_lt (by omega)]
    rw [e]

theorem crcF_stN (bs : List UInt8) : crcF bs = ~~~(stN bs (8 * bs.length)) := by
  unfold crcF
  rw [← fold_stN bs bs.length (Nat.le_refl _), List.take_length]

/-- two texts of one length that differ by a burst at P -/
theorem burst {bs cs : List UInt8} (hl : bs.length = cs.length) {P pat : Nat} (hp : pat < 2 ^ 32) (hP : P ≤ 8 * bs.length)
    (hd : ∀ n, n < 8 * bs.length → (bitAt bs n != bitAt cs n) = (decide (P ≤ n) && pat.testBit (n - P))) :
    crcF bs = crcF cs ↔ pat % 2 ^ (8 * bs.length - P) = 0 := by
  have key : ∀ n, n ≤ 8 * bs.length → stN bs n ^^^ stN cs n = itT (n - P) (lowB pat (n - P)) := by
    intro n
    induction n with
    | zero =>
      intro _
      show 0xffffffff#32 ^^^ 0xffffffff#32 = itT (0 - P) (lowB pat (0 - P))
      rw [BitVec.xor_self, Nat.zero_sub]
      show 0#32 = BitVec.ofNat 32 (pat % 2 ^ 0)
      rw [Nat.pow_zero, Nat.mod_one]
    | succ n ih =>
      intro hn
      have ih := ih (by omega)
      show crcBit (stN bs n ^^^ bw (bitAt bs n)) ^^^ crcBit (stN cs n ^^^ bw (bitAt cs n)) = _
      rw [← crcBit_xor]
      have e : (stN bs n ^^^ bw (bitAt bs n)) ^^^ (stN cs n ^^^ bw (bitAt cs n)) = (stN bs n ^^^ stN cs n) ^^^ bw (bitAt bs n != bitAt cs n) := by
        rw [← bw_xor]
        rw [BitVec.xor_assoc, ← BitVec.xor_assoc (bw (bitAt bs n)), BitVec.xor_comm (bw (bitAt bs n)) (stN cs n), BitVec.xor_assoc (stN cs n), ← BitVec.xor_assoc]
      rw [e, ih, hd n (by omega)]
      by_cases hPn : P ≤ n
      · have e1 : decide (P ≤ n) = true := by simpa using hPn
        rw [e1, Bool.true_and, show n + 1 - P = (n - P) + 1 by omega]
        have := itT_step (n := pat) (j := n - P) hp 0#32
        rw [BitVec.zero_xor, BitVec.zero_xor] at this
        exact this
      · have e1 : decide (P ≤ n) = false := by simpa using hPn
        rw [e1, Bool.false_and, show n + 1 - P = 0 by omega, show n - P = 0 by omega]
        show crcBit (BitVec.ofNat 32 (pat % 2 ^ 0) ^^^ 0#32) = BitVec.ofNat 32 (pat % 2 ^ 0)
        rw [Nat.pow_zero, Nat.mod_one]
        decide
  have kE := key (8 * bs.length) (Nat.le_refl _)
  rw [crcF_stN, crcF_stN, ← hl]
  have low0 : lowB pat (8 * bs.length - P) = 0#32 ↔ pat % 2 ^ (8 * bs.length - P) = 0 := by
    unfold lowB
    constructor
    · intro h
      have h2 := congrArg BitVec.toNat h
      rw [BitVec.toNat_ofNat] at h2
      have h3 : pat % 2 ^ (8 * bs.length - P) ≤ pat := Nat.mod_le _ _
      rw [Nat.mod_eq_of_lt (by omega)] at h2
      exact h2
    · intro h; rw [h]
  rw [← low0]
  constructor
  · intro h
    have h2 : stN bs (8 * bs.length) = stN cs (8 * bs.length) := BitVec.not_inj.1 h
    rw [h2, BitVec.xor_self] at kE
    exact itT_inj0 _ kE.symm
  · intro h
    rw [h, itT_zero] at kE
    have : stN bs (8 * bs.length) = stN cs (8 * bs.length) := by
      have h3 := congrArg (· ^^^ stN cs (8 * bs.length)) kE
      simp only [BitVec.xor_assoc, BitVec.xor_self, BitVec.xor_zero, BitVec.zero_xor] at h3
      exact h3
    rw [this]

end Hash
end Go.Proofs.Ytmkobpkdodgboaa
