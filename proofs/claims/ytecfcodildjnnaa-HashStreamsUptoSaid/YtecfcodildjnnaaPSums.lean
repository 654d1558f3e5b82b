/- The document's own sums: the same as package hash's. -/
import Derived.Test.YtecfcodildjnnaaPHmac
import Derived.Test.YtecfcodildjnnaaGSums
namespace Go.Proofs.Ytecfcodildjnnaa
open Go D
set_option linter.unusedVariables false
set_option linter.unusedSimpArgs false
namespace Ref2
open Hash

/-! ### CRC -/
theorem crc_spec {h : Heap} {a : Option Addr} {l c : Nat} {bs : List UInt8} (hb : Rb h a l bs) (hl : l ≤ 1000000000000000) {R : Int → Heap → Prop} (hk : R (u (crcF bs)) h) :
    CallT Try.prog ref2_CRC_no [.slice a l c] h [.sc (.int .u32)] R := by
  have hcall := ref2_CRC_call (b_0 := ⟨a, l, c⟩) (R := R) (h := h)
  apply hcall
  simp only [ref2_CRC]
  have hlen := hb.len
  refine LoopT.intro (fun (t : Int × Int) h' => h' = h ∧ 0 ≤ t.2 ∧ t.2 ≤ l ∧ t.1 = u ((bs.take t.2.toNat).foldl crcByte 0xffffffff#32)) (fun t _ => (l - t.2).toNat) ⟨rfl, by simp, by simp, rfl⟩ ?_
  rintro ⟨x, i⟩ h' ⟨rfl, q1, q2, q3⟩
  replace q1 : 0 ≤ i := q1
  replace q2 : i ≤ l := q2
  obtain ⟨z, hz⟩ : ∃ z, z = (bs.take i.toNat).foldl crcByte 0xffffffff#32 := ⟨_, rfl⟩
  replace q3 : x = u z := by rw [hz]; exact q3
  subst q3
  refine cnd_dec (fun hi => ?_) (fun hi => ?_)
  · replace hi : i < l := hi
    refine hb.at q1 hi ?_
    intro b hbb
    have hw : w64 (i + 1) = i + 1 := w64_id (by omega) (by omega)
    refine LoopT.intro (fun (t : Int × Int) h2 => h2 = h' ∧ 0 ≤ t.2 ∧ t.2 ≤ 8 ∧ t.1 = u (iter8 crcBit t.2.toNat (z ^^^ ub b))) (fun t _ => (8 - t.2).toNat) ⟨rfl, by simp, by simp, ?_⟩ ?_
    · show xorI .u32 _ _ = _
      rw [u_byte, u_xor]; rfl
    · rintro ⟨y, k⟩ h2 ⟨rfl, p1, p2, p3⟩
      replace p1 : 0 ≤ k := p1
      replace p2 : k ≤ 8 := p2
      obtain ⟨t, ht⟩ : ∃ t, t = iter8 crcBit k.toNat (z ^^^ ub b) := ⟨_, rfl⟩
      replace p3 : y = u t := by rw [ht]; exact p3
      subst p3
      refine cnd_dec (fun hk8 => ?_) (fun hk8 => ?_)
      · have hw2 : w64 (k + 1) = k + 1 := w64_id (by omega) (by omega)
        replace hk8 : k < 8 := hk8
        refine withJ.inl ?_
        have fin : ∀ y : W, y = crcBit t → ((h2 = h2 ∧ 0 ≤ w64 (k + 1) ∧ w64 (k + 1) ≤ 8 ∧ u y = u (iter8 crcBit (w64 (k + 1)).toNat (z ^^^ ub b))) ∧ (8 - w64 (k + 1)).toNat < (8 - k).toNat) := by
          intro y hy
          rw [hw2, show (k + 1).toNat = k.toNat + 1 by omega]
          refine ⟨⟨rfl, by omega, by omega, ?_⟩, by omega⟩
          show u y = u (crcBit (iter8 crcBit k.toNat _))
          rw [← ht, hy]
        have e1 : (andI .u32 (u t) 1 == 1) = (t &&& 1#32 == 1#32) := by
          rw [show andI .u32 (u t) 1 = u (t &&& 1#32) from u_and _ 1#32, show (1 : Int) = u 1#32 from rfl, u_beq]
        have e2 : shrI .u32 (u t) 1 = u (t >>> 1) := u_shr _ (by omega) (by omega)
        show cnd (andI .u32 (u t) 1 == 1) _ _
        rw [e1]
        refine cnd_of (fun hb1 => ?_) (fun hb1 => ?_)
        · show (_ ∧ _ ∧ _ ∧ xorI .u32 (shrI .u32 (u t) 1) 2197175160 = _) ∧ _
          rw [e2, show (2197175160 : Int) = u 0x82f63b78#32 from rfl, u_xor]
          refine fin _ ?_
          rw [crcBit_eq, if_pos (by simpa using hb1)]
        · show (_ ∧ _ ∧ _ ∧ shrI .u32 (u t) 1 = _) ∧ _
          rw [e2]
          refine fin _ ?_
          rw [crcBit_eq, if_neg (by simpa using hb1)]
      · have hk : k = 8 := by
          have : ¬ k < 8 := hk8
          omega
        subst hk
        refine ⟨⟨rfl, ?_, ?_, ?_⟩, ?_⟩
        · show 0 ≤ w64 (i + 1); omega
        · show w64 (i + 1) ≤ l; omega
        · show u t = u ((bs.take (w64 (i + 1)).toNat).foldl _ _)
          rw [hw, show (i + 1).toNat = i.toNat + 1 by omega, foldl_take _ _ _ _ b hbb, ← hz, ht]
          rfl
        · show (l - w64 (i + 1)).toNat < (l - i).toNat; omega
  · have hil : i = l := by
      have : ¬ i < (l : Int) := hi
      omega
    subst hil
    show R (xorI .u32 IntKind.u32.max (u z)) h'
    rw [Int.toNat_natCast, List.take_of_length_le (by omega)] at hz
    rw [u_not, hz]
    exact hk

/-! ### words -/
theorem left_spec {h : Heap} {x : W} {n : Nat} (hn : n ≤ 32) {R : Int → Heap → Prop} (hk : R (u (rotl x n)) h) : CallT Try.prog ref2_left_no [.int .u32 (u x), .int .i64 (n : Int)] h [.sc (.int .u32)] R := by
  apply ref2_left_call
  simp only [ref2_left]
  have e : w64 (32 - (n : Int)) = 32 - n := w64_id (by omega) (by omega)
  rw [e, u_shl _ (by omega) (by omega), u_shr _ (by omega) (by omega), u_or]
  refine geZ_of (by omega) (geZ_of (by omega) ?_)
  rw [Int.toNat_natCast, show (32 - (n : Int)).toNat = 32 - n by omega]
  exact hk

theorem or_add {x y : W} {k : Nat} (hx : x.toNat % 2 ^ k = 0) (hy : y.toNat < 2 ^ k) : x + y = x ||| y := by
  apply BitVec.eq_of_toNat_eq
  rw [BitVec.toNat_or, BitVec.toNat_add]
  obtain ⟨q, hq⟩ : ∃ q, x.toNat = q <<< k := ⟨x.toNat / 2 ^ k, by
    rw [Nat.shiftLeft_eq]
    have := Nat.div_add_mod x.toNat (2 ^ k)
    rw [hx, Nat.add_zero, Nat.mul_comm] at this
    exact this.symm⟩
  have e := Nat.shiftLeft_add_eq_or_of_lt hy q
  rw [← hq] at e
  have hlt : x.toNat ||| y.toNat < 2 ^ 32 := Nat.or_lt_two_pow x.isLt y.isLt
  rw [e, Nat.mod_eq_of_lt hlt]
theorem or_add' {x y : W} {k : Nat} (hy : y.toNat % 2 ^ k = 0) (hx : x.toNat < 2 ^ k) : x + y = x ||| y := by
  rw [BitVec.add_comm, or_add hy hx, BitVec.or_comm]

theorem ub_toNat (b : UInt8) : (ub b).toNat = b.toNat := by
  unfold ub
  have := b.toNat_lt
  rw [BitVec.toNat_ofNat]
  omega
theorem ub_shl (b : UInt8) {k : Nat} (hk : k ≤ 24) : (ub b <<< k).toNat = b.toNat * 2 ^ k := by
  rw [BitVec.toNat_shiftLeft, ub_toNat, Nat.shiftLeft_eq]
  have h1 := b.toNat_lt
  have h2 : 2 ^ k ≤ 2 ^ 24 := Nat.pow_le_pow_right (by decide) hk
  have h3 : b.toNat * 2 ^ k ≤ 255 * 2 ^ 24 := Nat.mul_le_mul (by omega) h2
  exact Nat.mod_eq_of_lt (by omega)

/-- the four bytes of a word, the lowest first, added up -/
theorem le_sum (b0 b1 b2 b3 : UInt8) : ((ub b0 + ub b1 <<< 8) + ub b2 <<< 16) + ub b3 <<< 24 = ((ub b0 ||| ub b1 <<< 8) ||| ub b2 <<< 16) ||| ub b3 <<< 24 := by
  have h0 := b0.toNat_lt
  have h1 := b1.toNat_lt
  have h2 := b2.toNat_lt
  have s1 := ub_shl b1 (k := 8) (by decide)
  have s2 := ub_shl b2 (k := 16) (by decide)
  have s3 := ub_shl b3 (k := 24) (by decide)
  have s0 := ub_toNat b0
  have t1 : (ub b0 + ub b1 <<< 8).toNat = b0.toNat + b1.toNat * 2 ^ 8 := by rw [BitVec.toNat_add, s0, s1]; omega
  have t2 : ((ub b0 + ub b1 <<< 8) + ub b2 <<< 16).toNat = b0.toNat + b1.toNat * 2 ^ 8 + b2.toNat * 2 ^ 16 := by rw [BitVec.toNat_add, t1, s2]; omega
  rw [or_add' (x := (ub b0 + ub b1 <<< 8) + ub b2 <<< 16) (k := 24) (by rw [s3]; omega) (by rw [t2]; omega),
    or_add' (x := ub b0 + ub b1 <<< 8) (k := 16) (by rw [s2]; omega) (by rw [t1]; omega), or_add' (x := ub b0) (k := 8) (by rw [s1]; omega) (by rw [s0]; omega)]
theorem be_sum (b0 b1 b2 b3 : UInt8) : ((ub b0 <<< 24 + ub b1 <<< 16) + ub b2 <<< 8) + ub b3 = ((ub b0 <<< 24 ||| ub b1 <<< 16) ||| ub b2 <<< 8) ||| ub b3 := by
  have h0 := b0.toNat_lt
  have h1 := b1.toNat_lt
  have h2 := b2.toNat_lt
  have h3 := b3.toNat_lt
  have s0 := ub_shl b0 (k := 24) (by decide)
  have s1 := ub_shl b1 (k := 16) (by decide)
  have s2 := ub_shl b2 (k := 8) (by decide)
  have s3 := ub_toNat b3
  have t1 : (ub b0 <<< 24 + ub b1 <<< 16).toNat = b0.toNat * 2 ^ 24 + b1.toNat * 2 ^ 16 := by rw [BitVec.toNat_add, s0, s1]; omega
  have t2 : ((ub b0 <<< 24 + ub b1 <<< 16) + ub b2 <<< 8).toNat = b0.toNat * 2 ^ 24 + b1.toNat * 2 ^ 16 + b2.toNat * 2 ^ 8 := by rw [BitVec.toNat_add, t1, s2]; omega
  rw [or_add (x := (ub b0 <<< 24 + ub b1 <<< 16) + ub b2 <<< 8) (k := 8) (by rw [t2]; omega) (by rw [s3]; omega),
    or_add (x := ub b0 <<< 24 + ub b1 <<< 16) (k := 16) (by rw [t1]; omega) (by rw [s2]; omega), or_add (x := ub b0 <<< 24) (k := 24) (by rw [s0]; omega) (by rw [s1]; omega)]

/-! ### padding -/
def padL (bs : List UInt8) (high : Bool) : List UInt8 := bs ++ tailL bs.length high
theorem padL_length (bs : List UInt8) (high : Bool) : (padL bs high).length % 64 = 0 ∧ (padL bs high).length ≤ bs.length + 100 := by
  unfold padL
  rw [List.length_append, tailL_length]
  unfold zc
  omega
theorem sum_pad {α : Type} (f : α → List UInt8 → α) (x : α) (high : Bool) (bs : List UInt8) : blocksN f ((padL bs high).length / 64) x (padL bs high) = sumSt f x high bs := by
  unfold sumSt
  have e : padL bs high = bs.take (64 * (bs.length / 64)) ++ fillL bs high := by
    unfold padL fillL
    rw [← List.append_assoc]
    congr 1
    rw [Nat.mul_comm 64]
    exact (List.take_append_drop _ _).symm
  have el : (bs.take (64 * (bs.length / 64))).length = 64 * (bs.length / 64) := by rw [List.length_take]; omega
  obtain ⟨f1, f2, f3⟩ := fillL_length bs high
  have en : (padL bs high).length / 64 = bs.length / 64 + (fillL bs high).length / 64 := by
    rw [e, List.length_append, el]; omega
  rw [en, e, blocksN_append f _ _ x _ _ el, blocksN_take]

theorem padded_spec {h : Heap} {a : Option Addr} {l c : Nat} {bs : List UInt8} {high : Bool} (hb : Rb h a l bs) (hl : l ≤ 140737488352000) {R : Sl → Heap → Prop}
    (hk : ∀ s h', Bl h' s.a s.len s.cap (padL bs high) → s.len ≤ s.cap → (∀ b, blk s.a b → h.size ≤ b) → Keep (fun _ => False) h h' → R s h') :
    CallT Try.prog ref2_padded_no [.slice a l c, .bool high] h [.sc .sl] R := by
  have hcall := ref2_padded_call (b_0 := ⟨a, l, c⟩) (high_1 := high) (R := R) (h := h)
  apply hcall
  simp only [ref2_padded]
  have hlen := hb.len
  refine hb.rd ?_
  have e0 : Bl h none 0 0 [] := SlR.nil _ _
  refine e0.push (new := bs) (by omega) hlen rfl ?_
  intro a3 c3 h3 q1 q2 q3
  rw [List.nil_append] at q1
  have nob : ∀ b, ¬ blk none b := fun b hb => by obtain ⟨x, hx, _⟩ := hb; cases hx
  have k3 : Keep (fun _ => False) h h3 := q2.mono (fun y _ hy => nob y hy)
  refine newB_row ?_
  intro h4 s4 r4 k4
  refine ldRow_row r4 (by simp) ?_
  have q1' : Bl h4 a3 _ c3 _ := SlR.keep q1 k4 (fun _ _ h => h)
  refine q1'.push (new := [128]) (by omega) rfl rfl ?_
  intro a5 c5 h5 w1 w2 w3
  have z3 := q2.size
  have new3 : ∀ b, blk a3 b → h.size ≤ b := fun b hb' => by
    rcases q3 b hb' with hh | hh
    · exact absurd hh (nob b)
    · exact hh
  have new5 : ∀ b, blk a5 b → h.size ≤ b := fun b hb' => by
    rcases w3 b hb' with hh | hh
    · exact new3 b hh
    · omega
  have k5 : Keep (fun y => h.size ≤ y) h h5 := ((k3.mono (fun _ _ h => h.elim)).trans k4 (fun _ _ h => h.elim)).trans w2 (fun y _ hb' => new3 y hb')
  refine pad_loops (n := l) (h0 := h) (by omega) w1 new5 k5 (by simp only; omega) (by simp only; omega) ?_
  intro s h' v1 v2 v3 v4
  refine hk s h' ?_ v2 v3 ⟨v4.size, fun b hb' _ => v4.same b hb' (by omega)⟩
  unfold padL tailL
  rw [← hlen]
  simpa using v1

set_option maxRecDepth 10000 in
theorem sines_spec {h : Heap} {R : Sl → Heap → Prop} (hk : ∀ h', Ws h' (some ⟨h.size, 0, none⟩) 64 sineL → Keep (fun _ => False) h h' → h'.size = h.size + 1 → R ⟨some ⟨h.size, 0, none⟩, 64, 64⟩ h') : CallT Try.prog ref2_sines_no [] h [.sc .sl] R := by
  apply ref2_sines_call
  unfold ref2_sines
  refine newB_row (cs := sineL.map fun w => .int .u32 (u w)) ?_
  intro h1 s1 r1 k1
  refine hk h1 ⟨by simp [sineL], fun i v hv => ⟨_, rfl, rfl, ?_⟩⟩ k1 s1
  rw [add_mk, Nat.zero_add, r1.cells]
  exact hv
set_option maxRecDepth 10000 in
theorem roots_spec {h : Heap} {R : Sl → Heap → Prop} (hk : ∀ h', Ws h' (some ⟨h.size, 0, none⟩) 64 rootL → Keep (fun _ => False) h h' → h'.size = h.size + 1 → R ⟨some ⟨h.size, 0, none⟩, 64, 64⟩ h') : CallT Try.prog ref2_roots_no [] h [.sc .sl] R := by
  apply ref2_roots_call
  unfold ref2_roots
  refine newB_row (cs := rootL.map fun w => .int .u32 (u w)) ?_
  intro h1 s1 r1 k1
  refine hk h1 ⟨by simp [rootL], fun i v hv => ⟨_, rfl, rfl, ?_⟩⟩ k1 s1
  rw [add_mk, Nat.zero_add, r1.cells]
  exact hv

end Ref2
end Go.Proofs.Ytecfcodildjnnaa
