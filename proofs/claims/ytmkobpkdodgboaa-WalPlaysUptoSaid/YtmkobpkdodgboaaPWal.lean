/- Contracts: enc.Pack, enc.Unpack, and the small functions of package wal. -/
import Derived.Test.YtmkobpkdodgboaaPMix
import Derived.Test.YtmkobpkdodgboaaGWal
namespace Go.Proofs.Ytmkobpkdodgboaa
open Go D
set_option linter.unusedVariables false
set_option linter.unusedSimpArgs false

/-- texts that are only read -/
def Ts (h : Heap) (a : Option Addr) (l : Nat) (rs : List ByteArray) : Prop := Rv h a l (rs.map .string)
theorem Ts.len {h : Heap} {a : Option Addr} {l : Nat} {rs : List ByteArray} (ht : Ts h a l rs) : l = rs.length := by
  have := ht.1
  rw [List.length_map] at this
  omega
theorem Ts.at {h : Heap} {a : Option Addr} {l : Nat} {rs : List ByteArray} (ht : Ts h a l rs) {i : Int} (h0 : 0 ≤ i) (h1 : i < l) {K : ByteArray → Prop} (hk : ∀ s, rs[i.toNat]? = some s → K s) : idx a l i fun x => ldS (x.add (i.toNat * 1)) h K := by
  have hl := ht.len
  have hi : i.toNat < rs.length := by omega
  refine Rv.at ht h0 h1 (v := .string rs[i.toNat]) (by rw [List.getElem?_map, List.getElem?_eq_getElem hi]; rfl) fun x hx => ldS_at hx (hk _ (List.getElem?_eq_getElem hi))
theorem Ts.keep0 {h h' : Heap} {a : Option Addr} {l : Nat} {rs : List ByteArray} (ht : Ts h a l rs) (hk : Keep (fun _ => False) h h') : Ts h' a l rs := Rv.keep ht hk (fun _ _ _ h => h)

namespace Wal
open Enc Hash

def four (n : Nat) : List UInt8 := [UInt8.ofNat (n >>> 24), UInt8.ofNat (n >>> 16), UInt8.ofNat (n >>> 8), UInt8.ofNat n]
theorem four_length (n : Nat) : (four n).length = 4 := rfl
theorem four_cells (n : Nat) : [Value.int .u8 (IntKind.u8.wrap (shrI .i64 (n : Int) 24)), .int .u8 (IntKind.u8.wrap (shrI .i64 (n : Int) 16)), .int .u8 (IntKind.u8.wrap (shrI .i64 (n : Int) 8)), .int .u8 (IntKind.u8.wrap (n : Int))] = (four n).map byteV := by
  have s : ∀ k : Nat, k ≤ 64 → Value.int .u8 (IntKind.u8.wrap (shrI .i64 (n : Int) (k : Int))) = byteV (UInt8.ofNat (n >>> k)) := fun k hk => by
    rw [shrI_nat (by exact hk)]
    unfold byteV
    congr 1
  have s24 := s 24 (by decide)
  have s16 := s 16 (by decide)
  have s8 := s 8 (by decide)
  have s0 : Value.int .u8 (IntKind.u8.wrap (n : Int)) = byteV (UInt8.ofNat n) := by
    unfold byteV
    congr 1
  simp only [four, List.map_cons, List.map_nil]
  rw [← s24, ← s16, ← s8, ← s0]
  rfl
theorem g64_four {n : Nat} (h : n < 4294967296) : g64 (four n) = n := by
  simp only [g64, four, List.foldl_cons, List.foldl_nil, UInt8.toNat_ofNat', Nat.shiftRight_eq_div_pow]
  simp only [Nat.reducePow, Nat.zero_mul, Nat.zero_add]
  omega
theorem four_spec {h : Heap} {n : Nat} {R : Sl → Heap → Prop} (hk : ∀ h', Bl h' (some ⟨h.size, 0, none⟩) 4 4 (four n) → Keep (fun _ => False) h h' → h'.size = h.size + 1 → R ⟨some ⟨h.size, 0, none⟩, 4, 4⟩ h') :
    CallT Try.prog wal_four_no [.int .i64 (n : Int)] h [.sc .sl] R := by
  apply wal_four_call
  simp only [wal_four]
  rw [four_cells]
  refine newB_row ?_
  intro h1 s1 r1 k1
  exact hk h1 (.inr ⟨h.size, 0, _, rfl, r1, by simp, by simp [four], by simp [four], by simp [four]⟩) k1 s1

theorem orI_i64 {x y : Nat} (hx : x < 2 ^ 63) (hy : y < 2 ^ 63) : orI .i64 (x : Int) (y : Int) = ((x ||| y : Nat) : Int) := by
  unfold orI
  have h1 : (BitVec.ofInt IntKind.i64.bits (x : Int) ||| BitVec.ofInt IntKind.i64.bits (y : Int)).toNat = x ||| y := by
    rw [BitVec.toNat_or]
    show (BitVec.ofInt 64 (x : Int)).toNat ||| (BitVec.ofInt 64 (y : Int)).toNat = _
    rw [ofInt_nat (by omega), ofInt_nat (by omega)]
  rw [h1]
  have h2 : x ||| y < 2 ^ 63 := Nat.or_lt_two_pow hx hy
  exact w64_id (by omega) (by omega)
theorem shlI_i64 {x n : Nat} (hn : n ≤ 64) (hx : x * 2 ^ n < 2 ^ 63) : shlI .i64 (x : Int) (n : Int) = ((x * 2 ^ n : Nat) : Int) := by
  unfold shlI
  have e : min ((n : Int).toNat) IntKind.i64.bits = n := by show min n 64 = n; omega
  rw [e]
  show w64 ((x : Int) * 2 ^ n) = _
  have e2 : (x : Int) * 2 ^ n = ((x * 2 ^ n : Nat) : Int) := by simp
  rw [e2, w64_id (by omega) (by omega)]
theorem num_or (a b c d : UInt8) : orI .i64 (orI .i64 (orI .i64 (shlI .i64 (w64 (a.toNat : Int)) 24) (shlI .i64 (w64 (b.toNat : Int)) 16)) (shlI .i64 (w64 (c.toNat : Int)) 8)) (w64 (d.toNat : Int)) = (g64 [a, b, c, d] : Int) := by
  have ha := a.toNat_lt
  have hb := b.toNat_lt
  have hc := c.toNat_lt
  have hd := d.toNat_lt
  rw [w64_id (x := (a.toNat : Int)) (by omega) (by omega), w64_id (x := (b.toNat : Int)) (by omega) (by omega), w64_id (x := (c.toNat : Int)) (by omega) (by omega), w64_id (x := (d.toNat : Int)) (by omega) (by omega)]
  have s1 := shlI_i64 (x := a.toNat) (n := 24) (by decide) (by omega)
  have s2 := shlI_i64 (x := b.toNat) (n := 16) (by decide) (by omega)
  have s3 := shlI_i64 (x := c.toNat) (n := 8) (by decide) (by omega)
  rw [show ((24 : Nat) : Int) = 24 from rfl] at s1
  rw [show ((16 : Nat) : Int) = 16 from rfl] at s2
  rw [show ((8 : Nat) : Int) = 8 from rfl] at s3
  rw [s1, s2, s3]
  have orAdd : ∀ x y k : Nat, y < 2 ^ k → x * 2 ^ k ||| y = x * 2 ^ k + y := fun x y k h => by
    have := Nat.shiftLeft_add_eq_or_of_lt h x
    rw [Nat.shiftLeft_eq] at this
    exact this.symm
  have o1 := orAdd a.toNat (b.toNat * 2 ^ 16) 24 (by omega)
  rw [orI_i64 (by omega) (by omega), o1]
  have o2 := orAdd (a.toNat * 2 ^ 8 + b.toNat) (c.toNat * 2 ^ 8) 16 (by omega)
  rw [show (a.toNat * 2 ^ 8 + b.toNat) * 2 ^ 16 = a.toNat * 2 ^ 24 + b.toNat * 2 ^ 16 by omega] at o2
  rw [orI_i64 (by omega) (by omega), o2]
  have o3 := orAdd (a.toNat * 2 ^ 16 + b.toNat * 2 ^ 8 + c.toNat) d.toNat 8 (by omega)
  rw [show (a.toNat * 2 ^ 16 + b.toNat * 2 ^ 8 + c.toNat) * 2 ^ 8 = a.toNat * 2 ^ 24 + b.toNat * 2 ^ 16 + c.toNat * 2 ^ 8 by omega] at o3
  rw [orI_i64 (by omega) (by omega), o3]
  simp only [g64, List.foldl_cons, List.foldl_nil]
  omega

theorem take4 {bs : List UInt8} {a b c d : UInt8} (h0 : bs[0]? = some a) (h1 : bs[1]? = some b) (h2 : bs[2]? = some c) (h3 : bs[3]? = some d) : bs.take 4 = [a, b, c, d] := by
  match bs, h0, h1, h2, h3 with
  | [], h0, _, _, _ => simp at h0
  | [_], _, h1, _, _ => simp at h1
  | [_, _], _, _, h2, _ => simp at h2
  | [_, _, _], _, _, _, h3 => simp at h3
  | x :: y :: z :: w :: r, h0, h1, h2, h3 =>
    simp at h0 h1 h2 h3
    subst h0 h1 h2 h3
    simp

theorem num_at {h : Heap} {a : Option Addr} {l : Nat} {bs : List UInt8} (hb : Rb h a l bs) (hl : 4 ≤ l) {K : Int → Int → Int → Int → Prop} (hk : ∀ b0 b1 b2 b3 : UInt8, bs.take 4 = [b0, b1, b2, b3] → K (b0.toNat : Int) (b1.toNat : Int) (b2.toNat : Int) (b3.toNat : Int)) :
    idx a l 0 fun a1 => ldI .u8 (a1.add ((0 : Int).toNat * 1)) h fun n2 => idx a l 1 fun a3 => ldI .u8 (a3.add ((1 : Int).toNat * 1)) h fun n4 => idx a l 2 fun a5 => ldI .u8 (a5.add ((2 : Int).toNat * 1)) h fun n6 => idx a l 3 fun a7 => ldI .u8 (a7.add ((3 : Int).toNat * 1)) h fun n8 => K n2 n4 n6 n8 := by
  refine Rb.at hb (by omega) (by omega) fun b0 e0 => ?_
  refine Rb.at hb (by omega) (by omega) fun b1 e1 => ?_
  refine Rb.at hb (by omega) (by omega) fun b2 e2 => ?_
  refine Rb.at hb (by omega) (by omega) fun b3 e3 => ?_
  exact hk b0 b1 b2 b3 (take4 e0 e1 e2 e3)

theorem number_spec {h : Heap} {a : Option Addr} {l c : Nat} {bs : List UInt8} (hb : Rb h a l bs) (hl : 4 ≤ l) {R : Int → Heap → Prop} (hk : R (g64 (bs.take 4) : Int) h) :
    CallT Try.prog wal_number_no [.slice a l c] h [.sc (.int .i64)] R := by
  have hcall := wal_number_call (b_0 := ⟨a, l, c⟩) (R := R) (h := h)
  apply hcall
  simp only [wal_number]
  refine num_at hb hl (fun b0 b1 b2 b3 e => ?_)
  rw [num_or, ← e]
  exact hk

/-- the sectors that so many bytes of payload take -/
def secs (l : Nat) : Nat := (l + 279) / 256
theorem sectors_spec {h : Heap} {l : Nat} (hl : (l : Int) ≤ 4611686018427387904) {R : Int → Heap → Prop} (hk : R (secs l : Int) h) : CallT Try.prog wal_sectors_no [.int .i64 (l : Int)] h [.sc (.int .i64)] R := by
  apply wal_sectors_call
  simp only [wal_sectors]
  have e1 : w64 (24 + (l : Int)) = 24 + l := w64_id (by omega) (by omega)
  have e2 : w64 (24 + (l : Int) - 1) = 23 + l := by rw [w64_id (by omega) (by omega)]; omega
  have e3 : w64 ((23 + (l : Int)).tdiv 256) = (23 + l) / 256 := by rw [Int.tdiv_eq_ediv_of_nonneg (by omega), w64_id (by omega) (by omega)]
  rw [e1, e2, e3, w64_id (by omega) (by omega)]
  have : (23 + (l : Int)) / 256 + 1 = (secs l : Int) := by unfold secs; omega
  rw [this]
  exact hk

/-! ### texts as bytes -/
def packL (rs : List ByteArray) : List UInt8 := rs.flatMap fun s => four s.size ++ s.data.toList
theorem packL_snoc (rs : List ByteArray) (s : ByteArray) : packL (rs ++ [s]) = packL rs ++ (four s.size ++ s.data.toList) := by simp [packL]
theorem packL_len_snoc (rs : List ByteArray) (s : ByteArray) : (packL (rs ++ [s])).length = (packL rs).length + 4 + s.size := by
  rw [packL_snoc, List.length_append, List.length_append, four_length]
  have : s.data.toList.length = s.size := rfl
  omega
theorem take_snoc {α : Type} {l : List α} {i : Nat} {x : α} (h : l[i]? = some x) : l.take (i + 1) = l.take i ++ [x] := by rw [List.take_add_one, h]; rfl
theorem packL_take (rs : List ByteArray) (i : Nat) : (packL (rs.take i)).length ≤ (packL rs).length := by
  have : packL rs = packL (rs.take i) ++ packL (rs.drop i) := by
    unfold packL
    rw [← List.flatMap_append, List.take_append_drop]
  rw [this, List.length_append]
  omega

/-- the loop that adds up -/
theorem sum_loop {h : Heap} {a : Option Addr} {l : Nat} {rs : List ByteArray} (ht : Ts h a l rs) (hb : ((packL rs).length : Int) ≤ 4611686018427387904) (hl : (l : Int) ≤ 4611686018427387904) {K : Int × Int → Heap → Prop} (hk : ∀ j, K (((packL rs).length : Int), j) h) :
    LoopT (σ := Int × Int) (fun X2 s1 h3 => cnd (decide (s1.2 < (l : Int))) (idx a l s1.2 fun a4 => ldS (a4.add (s1.2.toNat * 1)) h3 fun s5 => X2 ((w64 (s1.1 + (w64 (4 + (s5.size : Int))))), (w64 (s1.2 + 1))) h3) (K s1 h3)) (0, 0) h := by
  have hlen := ht.len
  refine LoopT.intro (fun (t : Int × Int) h' => h' = h ∧ 0 ≤ t.2 ∧ t.2 ≤ l ∧ t.1 = ((packL (rs.take t.2.toNat)).length : Int)) (fun t _ => ((l : Int) - t.2).toNat) ⟨rfl, by simp, by simp, rfl⟩ ?_
  rintro ⟨n, i⟩ h' ⟨rfl, q1, q2, q3⟩
  replace q1 : 0 ≤ i := q1
  replace q2 : i ≤ l := q2
  replace q3 : n = ((packL (rs.take i.toNat)).length : Int) := q3
  subst q3
  refine cnd_dec (fun hi => ?_) (fun hi => ?_)
  · replace hi : i < l := hi
    refine Ts.at ht q1 hi ?_
    intro s hs
    have e := packL_len_snoc (rs.take i.toNat) s
    rw [← take_snoc hs] at e
    have hle := packL_take rs (i.toNat + 1)
    have hw : w64 (i + 1) = i + 1 := w64_id (by omega) (by omega)
    have hw4 : w64 (4 + (s.size : Int)) = 4 + s.size := w64_id (by omega) (by omega)
    show (h' = h' ∧ 0 ≤ w64 (i + 1) ∧ w64 (i + 1) ≤ l ∧ w64 (((packL (rs.take i.toNat)).length : Int) + w64 (4 + (s.size : Int))) = ((packL (rs.take (w64 (i + 1)).toNat)).length : Int)) ∧ ((l : Int) - w64 (i + 1)).toNat < ((l : Int) - i).toNat
    rw [hw, hw4, show (i + 1).toNat = i.toNat + 1 by omega, w64_id (by omega) (by omega)]
    exact ⟨⟨rfl, by omega, by omega, by omega⟩, by omega⟩
  · replace hi : ¬ i < l := hi
    show K (((packL (rs.take i.toNat)).length : Int), i) h'
    rw [List.take_of_length_le (by omega)]
    exact hk i

theorem need_spec {h : Heap} {a : Option Addr} {l c : Nat} {rs : List ByteArray} (ht : Ts h a l rs) (hb : ((packL rs).length : Int) ≤ 4611686018427387904) (hl : (l : Int) ≤ 4611686018427387904) {R : Int → Heap → Prop} (hk : R (secs (packL rs).length : Int) h) :
    CallT Try.prog wal_Need_no [.slice a l c] h [.sc (.int .i64)] R := by
  have hcall := wal_Need_call (records_0 := ⟨a, l, c⟩) (R := R) (h := h)
  apply hcall
  simp only [wal_Need]
  exact sum_loop ht hb hl (fun j => sectors_spec hb hk)

theorem pack_spec {h : Heap} {a : Option Addr} {l c : Nat} {rs : List ByteArray} (ht : Ts h a l rs) (hb : (packL rs).length ≤ 1000000000000) (hl : l ≤ 1000000000000) {R : Sl → Heap → Prop}
    (hk : ∀ s h', Bl h' s.a s.len s.cap (packL rs) → (∀ b, blk s.a b → h.size ≤ b) → Keep (fun _ => False) h h' → R s h') :
    CallT Try.prog enc_Pack_no [.slice a l c] h [.sc .sl] R := by
  have hcall := enc_Pack_call (l_0 := ⟨a, l, c⟩) (R := R) (h := h)
  apply hcall
  simp only [enc_Pack]
  have hlen := ht.len
  refine sum_loop ht (by omega) (by omega) (fun j => ?_)
  refine mkSl_row (by decide) (by omega) (by omega) (by omega) ?_
  intro h1 s1 r1 k1
  refine LoopT.intro (fun (t : Sl × Int) h' => 0 ≤ t.2 ∧ t.2 ≤ l ∧ t.1.len = (packL (rs.take t.2.toNat)).length ∧ Bl h' t.1.a t.1.len t.1.cap (packL (rs.take t.2.toNat)) ∧ (∀ b, blk t.1.a b → h.size ≤ b) ∧ Keep (fun _ => False) h h') (fun t _ => ((l : Int) - t.2).toNat)
    ⟨by simp, by simp, by simp [packL], ?_, fun b hb => by rw [blk_some] at hb; simp only at hb; omega, k1⟩ ?_
  · refine .inr ⟨h.size, 0, _, rfl, r1, ?_, ?_, ?_, ?_⟩
    · exact Nat.zero_le _
    · rw [zerosL_one]; simp
    · simp [packL]
    · simp [packL]
  rintro ⟨s, i⟩ h2 ⟨q1, q2, q3, q4, q5, q6⟩
  replace q1 : 0 ≤ i := q1
  replace q2 : i ≤ l := q2
  replace q3 : s.len = (packL (rs.take i.toNat)).length := q3
  replace q4 : Bl h2 s.a s.len s.cap (packL (rs.take i.toNat)) := q4
  replace q5 : ∀ b, blk s.a b → h.size ≤ b := q5
  have z6 := q6.size
  refine cnd_dec (fun hi => ?_) (fun hi => ?_)
  · replace hi : i < l := hi
    refine Ts.at (ht.keep0 q6) q1 hi ?_
    intro x hx
    have e := packL_len_snoc (rs.take i.toNat) x
    rw [← take_snoc hx] at e
    have hle := packL_take rs (i.toNat + 1)
    rw [four_cells]
    refine newB_row ?_
    intro h3 s3 r3 k3
    refine ldRow_row r3 (by simp [four]) ?_
    rw [List.drop_zero, List.take_of_length_le (by simp [four])]
    have q4' : Bl h3 s.a s.len s.cap _ := SlR.keep q4 k3 (fun _ _ h => h)
    refine q4'.push (new := four x.size) (by omega) rfl rfl ?_
    intro a4 c4 h4 b4 k4 n4
    refine b4.push (new := x.data.toList) (by omega) rfl (bytesV_eq x) ?_
    intro a5 c5 h5 b5 k5 n5
    have hw : w64 (i + 1) = i + 1 := w64_id (by omega) (by omega)
    have f4 : ∀ b, blk a4 b → h.size ≤ b := fun b hb => by
      rcases n4 b hb with hh | hh
      · exact q5 b hh
      · omega
    have z4 := k4.size
    show (0 ≤ w64 (i + 1) ∧ w64 (i + 1) ≤ l ∧ s.len + 4 + x.size = (packL (rs.take (w64 (i + 1)).toNat)).length ∧ Bl h5 a5 (s.len + 4 + x.size) c5 (packL (rs.take (w64 (i + 1)).toNat)) ∧ (∀ b, blk a5 b → h.size ≤ b) ∧ Keep (fun _ => False) h h5) ∧ ((l : Int) - w64 (i + 1)).toNat < ((l : Int) - i).toNat
    rw [hw, show (i + 1).toNat = i.toNat + 1 by omega]
    refine ⟨⟨by omega, by omega, by omega, ?_, fun b hb => ?_, ((q6.trans' k3).trans k4 (fun y hy hb => by have := q5 y hb; omega)).trans k5 (fun y hy hb => by have := f4 y hb; omega)⟩, by omega⟩
    · rw [take_snoc hx, packL_snoc, ← List.append_assoc]
      exact b5
    · rcases n5 b hb with hh | hh
      · exact f4 b hh
      · omega
  · replace hi : ¬ i < l := hi
    rw [List.take_of_length_le (by omega)] at q4
    exact hk _ h2 q4 q5 q6

end Wal
end Go.Proofs.Ytmkobpkdodgboaa
