/- Contracts of the document's answer: four bytes, eight bytes, a part of bytes. -/
import Derived.Test.YtmkobpkdodgboaaPMix
import Derived.Test.YtmkobpkdodgboaaPCrcR
import Derived.Test.YtmkobpkdodgboaaPRef5
namespace Go.Proofs.Ytmkobpkdodgboaa
open Go D
set_option linter.unusedVariables false
set_option linter.unusedSimpArgs false
namespace Ref7
open Disk Enc Hash Snap

theorem four_spec {h : Heap} {x : W} {R : Sl → Heap → Prop} (hk : ∀ h', Bl h' (some ⟨h.size, 0, none⟩) 4 4 (be4W x) → Keep (fun _ => False) h h' → h'.size = h.size + 1 → R ⟨some ⟨h.size, 0, none⟩, 4, 4⟩ h') :
    CallT Try.prog ref1_Four_no [.int .u32 (u x)] h [.sc .sl] R := by
  apply ref1_Four_call
  simp only [ref1_Four]
  rw [be4W_cells]
  refine newB_row ?_
  intro h1 s1 r1 k1
  exact hk h1 (.inr ⟨h.size, 0, _, rfl, r1, by simp, by simp [be4W], by simp [be4W], by simp [be4W]⟩) k1 s1

def hi32 (n : Nat) : W := BitVec.ofNat 32 (n >>> 32)
def lo32 (n : Nat) : W := BitVec.ofNat 32 n
theorem lowb_shr (m k : Nat) (hk : k ≤ 24) (n : Nat) : lowb ((BitVec.ofNat 32 (n >>> m)) >>> k) = UInt8.ofNat (n >>> (m + k)) := by
  unfold lowb
  rw [BitVec.toNat_ushiftRight, BitVec.toNat_ofNat]
  apply UInt8.toNat_inj.1
  rw [UInt8.toNat_ofNat', UInt8.toNat_ofNat', Nat.shiftRight_add]
  apply Nat.eq_of_testBit_eq
  intro i
  rw [Nat.testBit_mod_two_pow, Nat.testBit_mod_two_pow, Nat.testBit_shiftRight, Nat.testBit_mod_two_pow, Nat.testBit_shiftRight]
  by_cases h : i < 8
  · have : k + i < 32 := by omega
    simp [h, this]
  · simp [h]
theorem p64_split (n : Nat) : p64 n = be4W (hi32 n) ++ be4W (lo32 n) := by
  have e0 : ∀ x : W, lowb x = lowb (x >>> 0) := fun x => by simp
  have l0 : lo32 n = BitVec.ofNat 32 (n >>> 0) := rfl
  unfold be4W
  rw [e0 (hi32 n), e0 (lo32 n), l0]
  unfold hi32
  rw [lowb_shr 32 24 (by omega), lowb_shr 32 16 (by omega), lowb_shr 32 8 (by omega), lowb_shr 32 0 (by omega), lowb_shr 0 24 (by omega), lowb_shr 0 16 (by omega), lowb_shr 0 8 (by omega), lowb_shr 0 0 (by omega)]
  rfl

theorem put64_spec {h : Heap} {n : Nat} (hn : n < 18446744073709551616) {R : Sl → Heap → Prop} (hk : ∀ s h', s.len = 8 → Bl h' s.a 8 s.cap (p64 n) → (∀ b, blk s.a b → h.size ≤ b) → Keep (fun _ => False) h h' → R s h') :
    CallT Try.prog ref1_Put64_no [.int .u64 (n : Int)] h [.sc .sl] R := by
  apply ref1_Put64_call
  simp only [ref1_Put64]
  have e1 : IntKind.u32.wrap (shrI .u64 (n : Int) 32) = u (hi32 n) := by
    have := shrI_nat (k := .u64) (x := n) (n := 32) (by decide)
    rw [show ((32 : Nat) : Int) = 32 from rfl] at this
    rw [this, wrap_u]
    unfold u hi32
    rw [BitVec.toNat_ofNat]
    omega
  have e2 : IntKind.u32.wrap (n : Int) = u (lo32 n) := by
    rw [wrap_u]
    unfold u lo32
    rw [BitVec.toNat_ofNat]
    omega
  rw [e1, e2]
  refine four_spec ?_
  intro h1 b1 k1 s1
  refine b1.rb.rd ?_
  refine (show Bl h1 none 0 0 [] from SlR.nil h1 1).push (new := be4W (hi32 n)) (by show 0 + 4 ≤ _; omega) rfl rfl ?_
  intro a2 c2 h2 b2 k2 n2
  have z2 := k2.size
  refine four_spec ?_
  intro h3 b3 k3 s3
  refine b3.rb.rd ?_
  have b2' : Bl h3 a2 (0 + 4) c2 _ := SlR.keep b2 k3 (fun _ _ h => h)
  refine b2'.push (new := be4W (lo32 n)) (by show 0 + 4 + 4 ≤ _; omega) rfl rfl ?_
  intro a4 c4 h4 b4 k4 n4
  have f2 : ∀ b, blk a2 b → h.size ≤ b := fun b hb => by
    rcases n2 b hb with hh | hh
    · exact absurd hh (Ref5.nob b)
    · omega
  have k13 : Keep (fun _ => False) h h3 := (k1.trans k2 (fun b _ hb => Ref5.nob b hb)).trans' k3
  refine hk _ h4 rfl ?_ (fun b hb => ?_) (k13.trans k4 (fun y hy hb => by have := f2 y hb; omega))
  · rw [p64_split]
    exact b4
  · rcases n4 b hb with hh | hh
    · exact f2 b hh
    · have := k13.size; omega

theorem step256 {z b : Nat} (hz : z < 2 ^ 56) (hb : b < 256) : IntKind.u64.wrap (IntKind.u64.wrap (256 * (z : Int)) + IntKind.u64.wrap (b : Int)) = ((z * 256 + b : Nat) : Int) := by
  rw [wrap_u64, wrap_u64, wrap_u64]
  omega
theorem get64_spec {h : Heap} {a : Option Addr} {c : Nat} {bs : List UInt8} (hb : Rb h a 8 bs) {R : Int × Bool → Heap → Prop} (hk : R ((g64 bs : Int), true) h) :
    CallT Try.prog ref1_Get64_no [.slice a 8 c] h [.sc (.int .u64), .sc .bool] R := by
  have hcall := ref1_Get64_call (b_0 := ⟨a, 8, c⟩) (R := R) (h := h)
  apply hcall
  simp only [ref1_Get64]
  have hlen := hb.len
  refine cnd_f rfl ?_
  refine LoopT.intro (fun (t : Int × Int) h' => h' = h ∧ 0 ≤ t.2 ∧ t.2 ≤ 8 ∧ t.1 = (g64 (bs.take t.2.toNat) : Int)) (fun t _ => (8 - t.2).toNat) ⟨rfl, by simp, by simp, rfl⟩ ?_
  rintro ⟨x, i⟩ h' ⟨rfl, q1, q2, q3⟩
  replace q1 : 0 ≤ i := q1
  replace q2 : i ≤ 8 := q2
  obtain ⟨z, hz⟩ : ∃ z, z = g64 (bs.take i.toNat) := ⟨_, rfl⟩
  replace q3 : x = (z : Int) := by rw [hz]; exact q3
  subst q3
  refine cnd_dec (fun hi => ?_) (fun hi => ?_)
  · replace hi : i < 8 := hi
    refine hb.at q1 (by omega) ?_
    intro b hbb
    have hw : w64 (i + 1) = i + 1 := w64_id (by omega) (by omega)
    have hzl := g64_lt (bs.take i.toNat)
    rw [← hz, List.length_take] at hzl
    have hz56 : z < 2 ^ 56 := Nat.lt_of_lt_of_le hzl (Nat.pow_le_pow_right (by decide) (by omega))
    have hb8 := b.toNat_lt
    have eq := step256 hz56 hb8
    dsimp only
    rw [hw, eq, show (i + 1).toNat = i.toNat + 1 by omega]
    refine ⟨⟨rfl, by omega, by omega, ?_⟩, by omega⟩
    have eg : g64 (bs.take (i.toNat + 1)) = g64 (bs.take i.toNat) * 256 + b.toNat := foldl_take _ _ _ _ b hbb
    rw [eg, ← hz]
  · have hi8 : i = 8 := by
      have : ¬ i < (8 : Int) := hi
      omega
    subst hi8
    show R ((z : Int), true) h'
    rw [hz, List.take_of_length_le (by simp; omega)]
    exact hk

/-- the bytes that a part holds: those that are there, then noughts -/
theorem secL_get (st : List UInt8) (i k : Nat) (hk : k < 256) : (secL st i)[k]? = some (st.getD (256 * i + k) 0) := by
  unfold secL
  by_cases h : 256 * i + k < st.length
  · rw [List.getElem?_append_left (by rw [List.length_take, List.length_drop]; omega), List.getElem?_take_of_lt hk, List.getElem?_drop, List.getElem?_eq_getElem h, List.getD_eq_getElem?_getD, List.getElem?_eq_getElem h]
    rfl
  · rw [List.getElem?_append_right (by rw [List.length_take, List.length_drop]; omega), List.getElem?_replicate, if_pos (by simp only [List.length_take, List.length_drop]; omega), List.getD_eq_getElem?_getD, List.getElem?_eq_none (by omega)]
    rfl
theorem secL_take (st : List UInt8) (i k : Nat) (hk : k < 256) : (secL st i).take (k + 1) = (secL st i).take k ++ [st.getD (256 * i + k) 0] := by
  rw [List.take_add_one, secL_get st i k hk]
  rfl

theorem part_spec {h : Heap} {a : Option Addr} {l c : Nat} {st : List UInt8} (hb : Rb h a l st) {i : Int} (h0 : 0 ≤ i) (h1 : i ≤ 1000000000) {R : ByteArray → Heap → Prop}
    (hk : ∀ h', Keep (fun _ => False) h h' → R (ofL (secL st i.toNat)) h') : CallT Try.prog ref6_Part_no [.slice a l c, .int .i64 i] h [.sc .str] R := by
  have hcall := ref6_Part_call (b_0 := ⟨a, l, c⟩) (i_1 := i) (R := R) (h := h)
  apply hcall
  simp only [ref6_Part]
  have hlen := hb.len
  have w1 : w64 (256 * i) = 256 * i := w64_id (by omega) (by omega)
  have w2 : w64 (256 * i + 256) = 256 * i + 256 := w64_id (by omega) (by omega)
  rw [w1, w2]
  refine LoopT.intro (fun (t : Sl × Int) h' => 256 * i ≤ t.2 ∧ t.2 ≤ 256 * i + 256 ∧ (t.1.len : Int) = t.2 - 256 * i ∧ Bl h' t.1.a t.1.len t.1.cap ((secL st i.toNat).take t.1.len) ∧ (∀ b, blk t.1.a b → h.size ≤ b) ∧ Keep (fun _ => False) h h') (fun t _ => (256 * i + 256 - t.2).toNat)
    ⟨by simp, by simp only; omega, by simp, by rw [List.take_zero]; exact SlR.nil h 1, fun b hb => absurd hb (Ref5.nob b), .refl _ _⟩ ?_
  rintro ⟨s, k⟩ h2 ⟨q1, q2, q3, q4, q5, q6⟩
  replace q1 : 256 * i ≤ k := q1
  replace q2 : k ≤ 256 * i + 256 := q2
  replace q3 : (s.len : Int) = k - 256 * i := q3
  replace q4 : Bl h2 s.a s.len s.cap ((secL st i.toNat).take s.len) := q4
  replace q5 : ∀ b, blk s.a b → h.size ≤ b := q5
  refine cnd_dec (fun hk2 => ?_) (fun hk2 => ?_)
  · replace hk2 : k < 256 * i + 256 := hk2
    have hw : w64 (k + 1) = k + 1 := w64_id (by omega) (by omega)
    have hst := secL_take st i.toNat s.len (by omega)
    rw [show 256 * i.toNat + s.len = k.toNat by omega] at hst
    have z6 := q6.size
    -- one more byte
    have more : ∀ (b : UInt8) {a9 : Addr} {h3 : Heap}, b = st.getD k.toNat 0 → Keep (fun _ => False) h2 h3 → h3.size = h2.size + 1 → Row h3 h2.size [byteV b] → app [.int .u8 0] 5 1 1 s.a s.len s.cap [byteV b] 1 h3 fun o11 c12 h13 =>
        (256 * i ≤ w64 (k + 1) ∧ w64 (k + 1) ≤ 256 * i + 256 ∧ ((s.len + 1 : Nat) : Int) = w64 (k + 1) - 256 * i ∧ Bl h13 o11 (s.len + 1) c12 ((secL st i.toNat).take (s.len + 1)) ∧ (∀ b, blk o11 b → h.size ≤ b) ∧ Keep (fun _ => False) h h13) ∧ (256 * i + 256 - w64 (k + 1)).toNat < (256 * i + 256 - k).toNat := by
      intro b a9 h3 hbv k3 s3 r3
      have q4' : Bl h3 s.a s.len s.cap _ := SlR.keep q4 k3 (fun _ _ h => h)
      refine q4'.push (new := [b]) (by omega) rfl rfl ?_
      intro o c' h4 b4 k4 n4
      rw [hw]
      refine ⟨⟨by omega, by omega, by omega, by rw [hst, ← hbv]; exact b4, fun y hy => ?_, (q6.trans' k3).trans k4 (fun y hy hb' => by have := q5 y hb'; omega)⟩, by omega⟩
      rcases n4 y hy with hh | hh
      · exact q5 y hh
      · omega
    refine withJ.inl ?_
    refine cnd_dec (fun hin => ?_) (fun hin => ?_)
    · replace hin : k < l := hin
      have hb2 : Rb h2 a l st := hb.keep q6 (fun _ _ _ h => h)
      refine hb2.at (by omega) hin ?_
      intro b hbb
      refine newB_row ?_
      intro h3 s3 r3 k3
      refine ldRow_row r3 (by simp) ?_
      exact more b (a9 := ⟨0, 0, none⟩) (by rw [List.getD_eq_getElem?_getD, hbb]; rfl) k3 s3 r3
    · replace hin : ¬ k < l := hin
      refine newB_row ?_
      intro h3 s3 r3 k3
      refine ldRow_row r3 (by simp) ?_
      exact more 0 (a9 := ⟨0, 0, none⟩) (by rw [List.getD_eq_getElem?_getD, List.getElem?_eq_none (by omega)]; rfl) k3 s3 r3
  · have hkk : s.len = 256 := by
      have : ¬ k < 256 * i + 256 := hk2
      omega
    rw [hkk, List.take_of_length_le (by rw [secL_length]; omega)] at q4
    show b2s s.a s.len h2 fun s21 => R s21 h2
    rw [hkk]
    exact q4.rb.str (hk h2 q6)

end Ref7
end Go.Proofs.Ytmkobpkdodgboaa
