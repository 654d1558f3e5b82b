/- hash.CRC: what it computes. -/
import Derived.Test.YtecfcodildjnnaaPU32
import Derived.Test.YtecfcodildjnnaaGHash
namespace Go.Proofs.Ytecfcodildjnnaa
open Go D
set_option linter.unusedVariables false
set_option linter.unusedSimpArgs false
namespace Hash

theorem crc_spec {h : Heap} {a : Option Addr} {l c : Nat} {bs : List UInt8} (hb : Rb h a l bs) (hl : l ≤ 1000000000000000) {R : Int → Heap → Prop} (hk : R (u (crcF bs)) h) :
    CallT Try.prog hash_CRC_no [.slice a l c] h [.sc (.int .u32)] R := by
  have hcall := hash_CRC_call (b_0 := ⟨a, l, c⟩) (R := R) (h := h)
  apply hcall
  simp only [hash_CRC]
  have hlen := hb.len
  refine LoopT.intro (fun (t : Int × Int) h' => h' = h ∧ 0 ≤ t.2 ∧ t.2 ≤ l ∧ t.1 = u ((bs.take t.2.toNat).foldl crcByte 0xffffffff#32)) (fun t _ => (l - t.2).toNat) ⟨rfl, by simp, by simp, rfl⟩ ?_
  rintro ⟨x, i⟩ h' ⟨rfl, q1, q2, q3⟩
  replace q1 : 0 ≤ i := q1
  replace q2 : i ≤ l := q2
  obtain ⟨z, hz⟩ : ∃ z, z = (bs.take i.toNat).foldl crcByte 0xffffffff#32 := ⟨_, rfl⟩
  replace q3 : x = u z := by rw [hz]; exact q3
  subst q3
  refine cnd_dec (fun hi => ?_) (fun hi => ?_)
  · replace hi : i < l := hi
    refine hb.at q1 hi ?_
    intro b hbb
    have hw : w64 (i + 1) = i + 1 := w64_id (by omega) (by omega)
    refine LoopT.intro (fun (t : Int × Int) h2 => h2 = h' ∧ 0 ≤ t.2 ∧ t.2 ≤ 8 ∧ t.1 = u (iter8 crcBit t.2.toNat (z ^^^ ub b))) (fun t _ => (8 - t.2).toNat) ⟨rfl, by simp, by simp, ?_⟩ ?_
    · show xorI .u32 _ _ = _
      rw [u_byte, u_xor]; rfl
    · rintro ⟨y, k⟩ h2 ⟨rfl, p1, p2, p3⟩
      replace p1 : 0 ≤ k := p1
      replace p2 : k ≤ 8 := p2
      obtain ⟨t, ht⟩ : ∃ t, t = iter8 crcBit k.toNat (z ^^^ ub b) := ⟨_, rfl⟩
      replace p3 : y = u t := by rw [ht]; exact p3
      subst p3
      refine cnd_dec (fun hk8 => ?_) (fun hk8 => ?_)
      · have hw2 : w64 (k + 1) = k + 1 := w64_id (by omega) (by omega)
        replace hk8 : k < 8 := hk8
        refine ⟨⟨rfl, ?_, ?_, ?_⟩, ?_⟩
        · show 0 ≤ w64 (k + 1); omega
        · show w64 (k + 1) ≤ 8; omega
        · show xorI .u32 (shrI .u32 (u t) 1) (andI .u32 2197175160 (IntKind.u32.wrap (0 - andI .u32 (u t) 1))) = u (iter8 crcBit (w64 (k + 1)).toNat _)
          rw [hw2, show (k + 1).toNat = k.toNat + 1 by omega]
          rw [show (2197175160 : Int) = u 0x82f63b78#32 from rfl, u_shr _ (by omega) (by omega)]
          rw [show andI .u32 (u t) 1 = u (t &&& 1#32) from u_and _ 1#32]
          rw [u_neg, u_and, u_xor]
          show _ = u (crcBit (iter8 crcBit k.toNat _))
          rw [← ht]
          rfl
        · show (8 - w64 (k + 1)).toNat < (8 - k).toNat; omega
      · have hk : k = 8 := by
          have : ¬ k < 8 := hk8
          omega
        subst hk
        refine ⟨⟨rfl, ?_, ?_, ?_⟩, ?_⟩
        · show 0 ≤ w64 (i + 1); omega
        · show w64 (i + 1) ≤ l; omega
        · show u t = u ((bs.take (w64 (i + 1)).toNat).foldl _ _)
          rw [hw, show (i + 1).toNat = i.toNat + 1 by omega, foldl_take _ _ _ _ b hbb, ← hz, ht]
          rfl
        · show (l - w64 (i + 1)).toNat < (l - i).toNat; omega
  · have hil : i = l := by
      have : ¬ i < (l : Int) := hi
      omega
    subst hil
    show R (xorI .u32 IntKind.u32.max (u z)) h'
    rw [Int.toNat_natCast, List.take_of_length_le (by omega)] at hz
    rw [u_not, hz]
    exact hk

end Hash
end Go.Proofs.Ytecfcodildjnnaa
