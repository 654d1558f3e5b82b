/- PWal PWalB PWalC PWalD PWalE PWalF PWalG joined, for seat work that lacks some functions; written by wip/tool/cut.py. -/
import Derived.Test.YtkgocfaajfaidaaKMidB
namespace Go.Proofs.Ytkgocfaajfaidaa
open Go D
set_option linter.unusedVariables false
set_option linter.unusedSimpArgs false
/-- texts that are only read -/
def Ts (h : Heap) (a : Option Addr) (l : Nat) (rs : List ByteArray) : Prop := Rv h a l (rs.map .string)
theorem Ts.len {h : Heap} {a : Option Addr} {l : Nat} {rs : List ByteArray} (ht : Ts h a l rs) : l = rs.length := by
  have := ht.1
  rw [List.length_map] at this
  omega
theorem Ts.at {h : Heap} {a : Option Addr} {l : Nat} {rs : List ByteArray} (ht : Ts h a l rs) {i : Int} (h0 : 0 ≤ i) (h1 : i < l) {K : ByteArray → Prop} (hk : ∀ s, rs[i.toNat]? = some s → K s) : idx a l i fun x => ldS (x.add (i.toNat * 1)) h K := by
  have hl := ht.len
  have hi : i.toNat < rs.length := by omega
  refine Rv.at ht h0 h1 (v := .string rs[i.toNat]) (by rw [List.getElem?_map, List.getElem?_eq_getElem hi]; rfl) fun x hx => ldS_at hx (hk _ (List.getElem?_eq_getElem hi))
theorem Ts.keep0 {h h' : Heap} {a : Option Addr} {l : Nat} {rs : List ByteArray} (ht : Ts h a l rs) (hk : Keep (fun _ => False) h h') : Ts h' a l rs := Rv.keep ht hk (fun _ _ _ h => h)

namespace Wal
open Enc Hash

def four (n : Nat) : List UInt8 := [UInt8.ofNat (n >>> 24), UInt8.ofNat (n >>> 16), UInt8.ofNat (n >>> 8), UInt8.ofNat n]
theorem four_length (n : Nat) : (four n).length = 4 := rfl
theorem four_cells (n : Nat) : [Value.int .u8 (IntKind.u8.wrap (shrI .i64 (n : Int) 24)), .int .u8 (IntKind.u8.wrap (shrI .i64 (n : Int) 16)), .int .u8 (IntKind.u8.wrap (shrI .i64 (n : Int) 8)), .int .u8 (IntKind.u8.wrap (n : Int))] = (four n).map byteV := by
  have s : ∀ k : Nat, k ≤ 64 → Value.int .u8 (IntKind.u8.wrap (shrI .i64 (n : Int) (k : Int))) = byteV (UInt8.ofNat (n >>> k)) := fun k hk => by
    rw [shrI_nat (by exact hk)]
    unfold byteV
    congr 1
  have s24 := s 24 (by decide)
  have s16 := s 16 (by decide)
  have s8 := s 8 (by decide)
  have s0 : Value.int .u8 (IntKind.u8.wrap (n : Int)) = byteV (UInt8.ofNat n) := by
    unfold byteV
    congr 1
  simp only [four, List.map_cons, List.map_nil]
  rw [← s24, ← s16, ← s8, ← s0]
  rfl
theorem g64_four {n : Nat} (h : n < 4294967296) : g64 (four n) = n := by
  simp only [g64, four, List.foldl_cons, List.foldl_nil, UInt8.toNat_ofNat', Nat.shiftRight_eq_div_pow]
  simp only [Nat.reducePow, Nat.zero_mul, Nat.zero_add]
  omega
theorem four_spec {h : Heap} {n : Nat} {R : Sl → Heap → Prop} (hk : ∀ h', Bl h' (some ⟨h.size, 0, none⟩) 4 4 (four n) → Keep (fun _ => False) h h' → h'.size = h.size + 1 → R ⟨some ⟨h.size, 0, none⟩, 4, 4⟩ h') :
    CallT Try.prog wal_four_no [.int .i64 (n : Int)] h [.sc .sl] R := by
  apply wal_four_call
  simp only [wal_four]
  rw [four_cells]
  refine newB_row ?_
  intro h1 s1 r1 k1
  exact hk h1 (.inr ⟨h.size, 0, _, rfl, r1, by simp, by simp [four], by simp [four], by simp [four]⟩) k1 s1

theorem orI_i64 {x y : Nat} (hx : x < 2 ^ 63) (hy : y < 2 ^ 63) : orI .i64 (x : Int) (y : Int) = ((x ||| y : Nat) : Int) := by
  unfold orI
  have h1 : (BitVec.ofInt IntKind.i64.bits (x : Int) ||| BitVec.ofInt IntKind.i64.bits (y : Int)).toNat = x ||| y := by
    rw [BitVec.toNat_or]
    show (BitVec.ofInt 64 (x : Int)).toNat ||| (BitVec.ofInt 64 (y : Int)).toNat = _
    rw [ofInt_nat (by omega), ofInt_nat (by omega)]
  rw [h1]
  have h2 : x ||| y < 2 ^ 63 := Nat.or_lt_two_pow hx hy
  exact w64_id (by omega) (by omega)
theorem shlI_i64 {x n : Nat} (hn : n ≤ 64) (hx : x * 2 ^ n < 2 ^ 63) : shlI .i64 (x : Int) (n : Int) = ((x * 2 ^ n : Nat) : Int) := by
  unfold shlI
  have e : min ((n : Int).toNat) IntKind.i64.bits = n := by show min n 64 = n; omega
  rw [e]
  show w64 ((x : Int) * 2 ^ n) = _
  have e2 : (x : Int) * 2 ^ n = ((x * 2 ^ n : Nat) : Int) := by simp
  rw [e2, w64_id (by omega) (by omega)]
theorem num_or (a b c d : UInt8) : orI .i64 (orI .i64 (orI .i64 (shlI .i64 (w64 (a.toNat : Int)) 24) (shlI .i64 (w64 (b.toNat : Int)) 16)) (shlI .i64 (w64 (c.toNat : Int)) 8)) (w64 (d.toNat : Int)) = (g64 [a, b, c, d] : Int) := by
  have ha := a.toNat_lt
  have hb := b.toNat_lt
  have hc := c.toNat_lt
  have hd := d.toNat_lt
  rw [w64_id (x := (a.toNat : Int)) (by omega) (by omega), w64_id (x := (b.toNat : Int)) (by omega) (by omega), w64_id (x := (c.toNat : Int)) (by omega) (by omega), w64_id (x := (d.toNat : Int)) (by omega) (by omega)]
  have s1 := shlI_i64 (x := a.toNat) (n := 24) (by decide) (by omega)
  have s2 := shlI_i64 (x := b.toNat) (n := 16) (by decide) (by omega)
  have s3 := shlI_i64 (x := c.toNat) (n := 8) (by decide) (by omega)
  rw [show ((24 : Nat) : Int) = 24 from rfl] at s1
  rw [show ((16 : Nat) : Int) = 16 from rfl] at s2
  rw [show ((8 : Nat) : Int) = 8 from rfl] at s3
  rw [s1, s2, s3]
  have orAdd : ∀ x y k : Nat, y < 2 ^ k → x * 2 ^ k ||| y = x * 2 ^ k + y := fun x y k h => by
    have := Nat.shiftLeft_add_eq_or_of_lt h x
    rw [Nat.shiftLeft_eq] at this
    exact this.symm
  have o1 := orAdd a.toNat (b.toNat * 2 ^ 16) 24 (by omega)
  rw [orI_i64 (by omega) (by omega), o1]
  have o2 := orAdd (a.toNat * 2 ^ 8 + b.toNat) (c.toNat * 2 ^ 8) 16 (by omega)
  rw [show (a.toNat * 2 ^ 8 + b.toNat) * 2 ^ 16 = a.toNat * 2 ^ 24 + b.toNat * 2 ^ 16 by omega] at o2
  rw [orI_i64 (by omega) (by omega), o2]
  have o3 := orAdd (a.toNat * 2 ^ 16 + b.toNat * 2 ^ 8 + c.toNat) d.toNat 8 (by omega)
  rw [show (a.toNat * 2 ^ 16 + b.toNat * 2 ^ 8 + c.toNat) * 2 ^ 8 = a.toNat * 2 ^ 24 + b.toNat * 2 ^ 16 + c.toNat * 2 ^ 8 by omega] at o3
  rw [orI_i64 (by omega) (by omega), o3]
  simp only [g64, List.foldl_cons, List.foldl_nil]
  omega

theorem take4 {bs : List UInt8} {a b c d : UInt8} (h0 : bs[0]? = some a) (h1 : bs[1]? = some b) (h2 : bs[2]? = some c) (h3 : bs[3]? = some d) : bs.take 4 = [a, b, c, d] := by
  match bs, h0, h1, h2, h3 with
  | [], h0, _, _, _ => simp at h0
  | [_], _, h1, _, _ => simp at h1
  | [_, _], _, _, h2, _ => simp at h2
  | [_, _, _], _, _, _, h3 => simp at h3
  | x :: y :: z :: w :: r, h0, h1, h2, h3 =>
    simp at h0 h1 h2 h3
    subst h0 h1 h2 h3
    simp

theorem num_at {h : Heap} {a : Option Addr} {l : Nat} {bs : List UInt8} (hb : Rb h a l bs) (hl : 4 ≤ l) {K : Int → Int → Int → Int → Prop} (hk : ∀ b0 b1 b2 b3 : UInt8, bs.take 4 = [b0, b1, b2, b3] → K (b0.toNat : Int) (b1.toNat : Int) (b2.toNat : Int) (b3.toNat : Int)) :
    idx a l 0 fun a1 => ldI .u8 (a1.add ((0 : Int).toNat * 1)) h fun n2 => idx a l 1 fun a3 => ldI .u8 (a3.add ((1 : Int).toNat * 1)) h fun n4 => idx a l 2 fun a5 => ldI .u8 (a5.add ((2 : Int).toNat * 1)) h fun n6 => idx a l 3 fun a7 => ldI .u8 (a7.add ((3 : Int).toNat * 1)) h fun n8 => K n2 n4 n6 n8 := by
  refine Rb.at hb (by omega) (by omega) fun b0 e0 => ?_
  refine Rb.at hb (by omega) (by omega) fun b1 e1 => ?_
  refine Rb.at hb (by omega) (by omega) fun b2 e2 => ?_
  refine Rb.at hb (by omega) (by omega) fun b3 e3 => ?_
  exact hk b0 b1 b2 b3 (take4 e0 e1 e2 e3)

theorem number_spec {h : Heap} {a : Option Addr} {l c : Nat} {bs : List UInt8} (hb : Rb h a l bs) (hl : 4 ≤ l) {R : Int → Heap → Prop} (hk : R (g64 (bs.take 4) : Int) h) :
    CallT Try.prog wal_number_no [.slice a l c] h [.sc (.int .i64)] R := by
  have hcall := wal_number_call (b_0 := ⟨a, l, c⟩) (R := R) (h := h)
  apply hcall
  simp only [wal_number]
  refine num_at hb hl (fun b0 b1 b2 b3 e => ?_)
  rw [num_or, ← e]
  exact hk

/-- the sectors that so many bytes of payload take -/
def secs (l : Nat) : Nat := (l + 279) / 256
theorem sectors_spec {h : Heap} {l : Nat} (hl : (l : Int) ≤ 4611686018427387904) {R : Int → Heap → Prop} (hk : R (secs l : Int) h) : CallT Try.prog wal_sectors_no [.int .i64 (l : Int)] h [.sc (.int .i64)] R := by
  apply wal_sectors_call
  simp only [wal_sectors]
  have e1 : w64 (24 + (l : Int)) = 24 + l := w64_id (by omega) (by omega)
  have e2 : w64 (24 + (l : Int) - 1) = 23 + l := by rw [w64_id (by omega) (by omega)]; omega
  have e3 : w64 ((23 + (l : Int)).tdiv 256) = (23 + l) / 256 := by rw [Int.tdiv_eq_ediv_of_nonneg (by omega), w64_id (by omega) (by omega)]
  rw [e1, e2, e3, w64_id (by omega) (by omega)]
  have : (23 + (l : Int)) / 256 + 1 = (secs l : Int) := by unfold secs; omega
  rw [this]
  exact hk

/-! ### texts as bytes -/
def packL (rs : List ByteArray) : List UInt8 := rs.flatMap fun s => four s.size ++ s.data.toList
theorem packL_snoc (rs : List ByteArray) (s : ByteArray) : packL (rs ++ [s]) = packL rs ++ (four s.size ++ s.data.toList) := by simp [packL]
theorem packL_len_snoc (rs : List ByteArray) (s : ByteArray) : (packL (rs ++ [s])).length = (packL rs).length + 4 + s.size := by
  rw [packL_snoc, List.length_append, List.length_append, four_length]
  have : s.data.toList.length = s.size := rfl
  omega
theorem take_snoc {α : Type} {l : List α} {i : Nat} {x : α} (h : l[i]? = some x) : l.take (i + 1) = l.take i ++ [x] := by rw [List.take_add_one, h]; rfl
theorem packL_take (rs : List ByteArray) (i : Nat) : (packL (rs.take i)).length ≤ (packL rs).length := by
  have : packL rs = packL (rs.take i) ++ packL (rs.drop i) := by
    unfold packL
    rw [← List.flatMap_append, List.take_append_drop]
  rw [this, List.length_append]
  omega

/-- the loop that adds up -/
theorem sum_loop {h : Heap} {a : Option Addr} {l : Nat} {rs : List ByteArray} (ht : Ts h a l rs) (hb : ((packL rs).length : Int) ≤ 4611686018427387904) (hl : (l : Int) ≤ 4611686018427387904) {K : Int × Int → Heap → Prop} (hk : ∀ j, K (((packL rs).length : Int), j) h) :
    LoopT (σ := Int × Int) (fun X2 s1 h3 => cnd (decide (s1.2 < (l : Int))) (idx a l s1.2 fun a4 => ldS (a4.add (s1.2.toNat * 1)) h3 fun s5 => X2 ((w64 (s1.1 + (w64 (4 + (s5.size : Int))))), (w64 (s1.2 + 1))) h3) (K s1 h3)) (0, 0) h := by
  have hlen := ht.len
  refine LoopT.intro (fun (t : Int × Int) h' => h' = h ∧ 0 ≤ t.2 ∧ t.2 ≤ l ∧ t.1 = ((packL (rs.take t.2.toNat)).length : Int)) (fun t _ => ((l : Int) - t.2).toNat) ⟨rfl, by simp, by simp, rfl⟩ ?_
  rintro ⟨n, i⟩ h' ⟨rfl, q1, q2, q3⟩
  replace q1 : 0 ≤ i := q1
  replace q2 : i ≤ l := q2
  replace q3 : n = ((packL (rs.take i.toNat)).length : Int) := q3
  subst q3
  refine cnd_dec (fun hi => ?_) (fun hi => ?_)
  · replace hi : i < l := hi
    refine Ts.at ht q1 hi ?_
    intro s hs
    have e := packL_len_snoc (rs.take i.toNat) s
    rw [← take_snoc hs] at e
    have hle := packL_take rs (i.toNat + 1)
    have hw : w64 (i + 1) = i + 1 := w64_id (by omega) (by omega)
    have hw4 : w64 (4 + (s.size : Int)) = 4 + s.size := w64_id (by omega) (by omega)
    show (h' = h' ∧ 0 ≤ w64 (i + 1) ∧ w64 (i + 1) ≤ l ∧ w64 (((packL (rs.take i.toNat)).length : Int) + w64 (4 + (s.size : Int))) = ((packL (rs.take (w64 (i + 1)).toNat)).length : Int)) ∧ ((l : Int) - w64 (i + 1)).toNat < ((l : Int) - i).toNat
    rw [hw, hw4, show (i + 1).toNat = i.toNat + 1 by omega, w64_id (by omega) (by omega)]
    exact ⟨⟨rfl, by omega, by omega, by omega⟩, by omega⟩
  · replace hi : ¬ i < l := hi
    show K (((packL (rs.take i.toNat)).length : Int), i) h'
    rw [List.take_of_length_le (by omega)]
    exact hk i

theorem need_spec {h : Heap} {a : Option Addr} {l c : Nat} {rs : List ByteArray} (ht : Ts h a l rs) (hb : ((packL rs).length : Int) ≤ 4611686018427387904) (hl : (l : Int) ≤ 4611686018427387904) {R : Int → Heap → Prop} (hk : R (secs (packL rs).length : Int) h) :
    CallT Try.prog wal_Need_no [.slice a l c] h [.sc (.int .i64)] R := by
  have hcall := wal_Need_call (records_0 := ⟨a, l, c⟩) (R := R) (h := h)
  apply hcall
  simp only [wal_Need]
  exact sum_loop ht hb hl (fun j => sectors_spec hb hk)

theorem pack_spec {h : Heap} {a : Option Addr} {l c : Nat} {rs : List ByteArray} (ht : Ts h a l rs) (hb : (packL rs).length ≤ 1000000000000) (hl : l ≤ 1000000000000) {R : Sl → Heap → Prop}
    (hk : ∀ s h', Bl h' s.a s.len s.cap (packL rs) → (∀ b, blk s.a b → h.size ≤ b) → Keep (fun _ => False) h h' → R s h') :
    CallT Try.prog enc_Pack_no [.slice a l c] h [.sc .sl] R := by
  have hcall := enc_Pack_call (l_0 := ⟨a, l, c⟩) (R := R) (h := h)
  apply hcall
  simp only [enc_Pack]
  have hlen := ht.len
  refine sum_loop ht (by omega) (by omega) (fun j => ?_)
  refine mkSl_row (by decide) (by omega) (by omega) (by omega) ?_
  intro h1 s1 r1 k1
  refine LoopT.intro (fun (t : Sl × Int) h' => 0 ≤ t.2 ∧ t.2 ≤ l ∧ t.1.len = (packL (rs.take t.2.toNat)).length ∧ Bl h' t.1.a t.1.len t.1.cap (packL (rs.take t.2.toNat)) ∧ (∀ b, blk t.1.a b → h.size ≤ b) ∧ Keep (fun _ => False) h h') (fun t _ => ((l : Int) - t.2).toNat)
    ⟨by simp, by simp, by simp [packL], ?_, fun b hb => by rw [blk_some] at hb; simp only at hb; omega, k1⟩ ?_
  · refine .inr ⟨h.size, 0, _, rfl, r1, ?_, ?_, ?_, ?_⟩
    · exact Nat.zero_le _
    · rw [zerosL_one]; simp
    · simp [packL]
    · simp [packL]
  rintro ⟨s, i⟩ h2 ⟨q1, q2, q3, q4, q5, q6⟩
  replace q1 : 0 ≤ i := q1
  replace q2 : i ≤ l := q2
  replace q3 : s.len = (packL (rs.take i.toNat)).length := q3
  replace q4 : Bl h2 s.a s.len s.cap (packL (rs.take i.toNat)) := q4
  replace q5 : ∀ b, blk s.a b → h.size ≤ b := q5
  have z6 := q6.size
  refine cnd_dec (fun hi => ?_) (fun hi => ?_)
  · replace hi : i < l := hi
    refine Ts.at (ht.keep0 q6) q1 hi ?_
    intro x hx
    have e := packL_len_snoc (rs.take i.toNat) x
    rw [← take_snoc hx] at e
    have hle := packL_take rs (i.toNat + 1)
    rw [four_cells]
    refine newB_row ?_
    intro h3 s3 r3 k3
    refine ldRow_row r3 (by simp [four]) ?_
    rw [List.drop_zero, List.take_of_length_le (by simp [four])]
    have q4' : Bl h3 s.a s.len s.cap _ := SlR.keep q4 k3 (fun _ _ h => h)
    refine q4'.push (new := four x.size) (by omega) rfl rfl ?_
    intro a4 c4 h4 b4 k4 n4
    refine b4.push (new := x.data.toList) (by omega) rfl (bytesV_eq x) ?_
    intro a5 c5 h5 b5 k5 n5
    have hw : w64 (i + 1) = i + 1 := w64_id (by omega) (by omega)
    have f4 : ∀ b, blk a4 b → h.size ≤ b := fun b hb => by
      rcases n4 b hb with hh | hh
      · exact q5 b hh
      · omega
    have z4 := k4.size
    show (0 ≤ w64 (i + 1) ∧ w64 (i + 1) ≤ l ∧ s.len + 4 + x.size = (packL (rs.take (w64 (i + 1)).toNat)).length ∧ Bl h5 a5 (s.len + 4 + x.size) c5 (packL (rs.take (w64 (i + 1)).toNat)) ∧ (∀ b, blk a5 b → h.size ≤ b) ∧ Keep (fun _ => False) h h5) ∧ ((l : Int) - w64 (i + 1)).toNat < ((l : Int) - i).toNat
    rw [hw, show (i + 1).toNat = i.toNat + 1 by omega]
    refine ⟨⟨by omega, by omega, by omega, ?_, fun b hb => ?_, ((q6.trans' k3).trans k4 (fun y hy hb => by have := q5 y hb; omega)).trans k5 (fun y hy hb => by have := f4 y hb; omega)⟩, by omega⟩
    · rw [take_snoc hx, packL_snoc, ← List.append_assoc]
      exact b5
    · rcases n5 b hb with hh | hh
      · exact f4 b hh
      · omega
  · replace hi : ¬ i < l := hi
    rw [List.take_of_length_le (by omega)] at q4
    exact hk _ h2 q4 q5 q6

end Wal
namespace Wal
open Enc Hash

def unpF : Nat → List UInt8 → Option (List ByteArray)
  | 0, bs => if bs = [] then some [] else none
  | f + 1, bs => if bs = [] then some [] else if bs.length < 4 then none else if bs.length - 4 < g64 (bs.take 4) then none else
    (unpF f (bs.drop (4 + g64 (bs.take 4)))).map (ofL ((bs.drop 4).take (g64 (bs.take 4))) :: ·)
def unpackL (bs : List UInt8) : Option (List ByteArray) := unpF bs.length bs
theorem unpF_more : ∀ (f g : Nat) (bs : List UInt8), bs.length ≤ f → bs.length ≤ g → unpF f bs = unpF g bs
  | 0, 0, _, _, _ => rfl
  | 0, g + 1, bs, h, _ => by
    have : bs = [] := List.length_eq_zero_iff.1 (by omega)
    subst this; simp [unpF]
  | f + 1, 0, bs, _, h => by
    have : bs = [] := List.length_eq_zero_iff.1 (by omega)
    subst this; simp [unpF]
  | f + 1, g + 1, bs, h1, h2 => by
    unfold unpF
    by_cases e : bs = []
    · rw [if_pos e, if_pos e]
    · rw [if_neg e, if_neg e]
      split
      · rfl
      · split
        · rfl
        · rw [unpF_more f g _ (by rw [List.length_drop]; omega) (by rw [List.length_drop]; omega)]
theorem unpack_nil : unpackL [] = some [] := rfl
theorem unpack_short {bs : List UInt8} (h0 : bs ≠ []) (h : bs.length < 4) : unpackL bs = none := by
  unfold unpackL
  cases hl : bs.length with
  | zero => exact absurd (List.length_eq_zero_iff.1 hl) h0
  | succ n =>
    unfold unpF
    rw [if_neg h0, if_pos (by omega)]
theorem unpack_over {bs : List UInt8} (h : 4 ≤ bs.length) (h2 : bs.length - 4 < g64 (bs.take 4)) : unpackL bs = none := by
  unfold unpackL
  have h0 : bs ≠ [] := fun e => by subst e; simp at h
  cases hl : bs.length with
  | zero => omega
  | succ n =>
    unfold unpF
    rw [if_neg h0, if_neg (by omega), if_pos (by omega)]
theorem unpack_cons {bs : List UInt8} (h : 4 ≤ bs.length) (h2 : g64 (bs.take 4) ≤ bs.length - 4) : unpackL bs = (unpackL (bs.drop (4 + g64 (bs.take 4)))).map (ofL ((bs.drop 4).take (g64 (bs.take 4))) :: ·) := by
  have h0 : bs ≠ [] := fun e => by subst e; simp at h
  have e : unpackL bs = unpF (bs.length - 1 + 1) bs := by
    unfold unpackL
    rw [show bs.length - 1 + 1 = bs.length by omega]
  rw [e]
  unfold unpF
  rw [if_neg h0, if_neg (by omega), if_neg (by omega)]
  unfold unpackL
  rw [unpF_more (bs.length - 1) _ _ (by rw [List.length_drop]; omega) (Nat.le_refl _)]

theorem unpack_pack : ∀ (rs : List ByteArray), (packL rs).length < 4294967296 → unpackL (packL rs) = some rs
  | [], _ => rfl
  | s :: rs, h => by
    have e : packL (s :: rs) = four s.size ++ (s.data.toList ++ packL rs) := by simp [packL]
    have hs : s.data.toList.length = s.size := rfl
    have hl : (packL (s :: rs)).length = 4 + s.size + (packL rs).length := by
      rw [e, List.length_append, List.length_append, four_length, hs]; omega
    have ht : (packL (s :: rs)).take 4 = four s.size := by rw [e, List.take_left' (four_length _)]
    have hg : g64 ((packL (s :: rs)).take 4) = s.size := by rw [ht, g64_four (by omega)]
    rw [unpack_cons (by omega) (by rw [hg]; omega), hg]
    have hd : (packL (s :: rs)).drop 4 = s.data.toList ++ packL rs := by rw [e, List.drop_left' (four_length _)]
    have hd2 : (packL (s :: rs)).drop (4 + s.size) = packL rs := by rw [← List.drop_drop, hd, List.drop_left' hs]
    rw [hd2, hd, List.take_left' hs, unpack_pack rs (by omega)]
    rfl

theorem unpack_spec {h : Heap} {a : Option Addr} {l c : Nat} {bs : List UInt8} (hb : Rb h a l bs) (hc : l ≤ c) (hl : l ≤ 1000000000) {R : Sl × Bool → Heap → Prop}
    (hno : unpackL bs = none → ∀ h', Keep (fun _ => False) h h' → R (⟨none, 0, 0⟩, false) h')
    (hyes : ∀ rs, unpackL bs = some rs → ∀ s h', Ts h' s.a s.len rs → s.len ≤ s.cap → (∀ b, blk s.a b → h.size ≤ b) → Keep (fun _ => False) h h' → R (s, true) h') :
    CallT Try.prog enc_Unpack_no [.slice a l c] h [.sc .sl, .sc .bool] R := by
  have hcall := enc_Unpack_call (b_0 := ⟨a, l, c⟩) (R := R) (h := h)
  apply hcall
  simp only [enc_Unpack]
  have hlen := hb.len
  refine LoopT.intro (fun (t : Sl × Sl) h' => ∃ bs' rs', Rb h t.1.a t.1.len bs' ∧ t.1.len ≤ t.1.cap ∧ SlR h' 1 t.2.a t.2.len t.2.cap (rs'.map Value.string) ∧ unpackL bs = (unpackL bs').map (rs' ++ ·) ∧ bs'.length + rs'.length ≤ l ∧ (∀ b, blk t.2.a b → h.size ≤ b) ∧ Keep (fun _ => False) h h') (fun t _ => t.1.len)
    ⟨bs, [], hb, hc, SlR.nil h 1, by simp, by simp; omega, (fun b hb => by obtain ⟨x, hx, _⟩ := hb; cases hx), .refl _ _⟩ ?_
  rintro ⟨b, out⟩ h1 ⟨bs', rs', q1, q2, q3, q4, q5, q6, q7⟩
  replace q1 : Rb h b.a b.len bs' := q1
  replace q2 : b.len ≤ b.cap := q2
  replace q3 : SlR h1 1 out.a out.len out.cap (rs'.map Value.string) := q3
  replace q6 : ∀ y, blk out.a y → h.size ≤ y := q6
  have hbl := q1.len
  have hol : rs'.length = out.len := by have := q3.len; rw [List.length_map] at this; omega
  have z7 := q7.size
  refine cnd_dec (fun hpos => ?_) (fun hpos => ?_)
  · replace hpos : (b.len : Int) > 0 := hpos
    have hne : bs' ≠ [] := fun e => by subst e; simp at hbl; omega
    refine cnd_dec (fun h4 => ?_) (fun h4 => ?_)
    · replace h4 : (b.len : Int) < 4 := h4
      exact hno (by rw [q4, unpack_short hne (by omega)]; rfl) h1 q7
    · replace h4 : ¬ (b.len : Int) < 4 := h4
      have q1' : Rb h1 b.a b.len bs' := Rv.keep q1 q7 (fun _ _ _ h => h)
      have hg := g64_lt (bs'.take 4)
      rw [List.length_take] at hg
      have hg' : g64 (bs'.take 4) < 4294967296 := Nat.lt_of_lt_of_le hg (Nat.le_trans (Nat.pow_le_pow_right (by decide) (Nat.mul_le_mul (Nat.le_refl 8) (Nat.min_le_left 4 _))) (by decide))
      refine num_at q1' (by show 4 ≤ b.len; omega) (fun b0 b1 b2 b3 eb => ?_)
      obtain ⟨n, hn⟩ : ∃ n, n = g64 (bs'.take 4) := ⟨_, rfl⟩
      rw [num_or, ← eb, ← hn]
      rw [← hn] at hg'
      have e4 : w64 ((b.len : Int) - 4) = b.len - 4 := w64_id (by omega) (by omega)
      have e4n : w64 (4 + (n : Int)) = 4 + n := w64_id (by omega) (by omega)
      dsimp only
      rw [e4]
      refine cnd_dec (fun hov => ?_) (fun hov => ?_)
      · exact hno (by rw [q4, unpack_over (by omega) (by omega)]; rfl) h1 q7
      · rw [e4n]
        refine Rb.sub q1' (by omega) (by omega) (by omega) (by omega) (by omega) ?_
        intro a2 w2 _
        have en : (4 + (n : Int) - 4).toNat = n := by omega
        rw [en] at w2 ⊢
        have w2' : Rb h1 a2 n ((bs'.drop 4).take n) := w2
        refine Rb.str w2' ?_
        refine newB_row ?_
        intro h3 s3 r3 k3
        refine ldRow_row r3 (by simp) ?_
        refine (q3.keep k3 (fun _ _ h => h)).app rfl (by simp) (fun v hv => by simp at hv; subst hv; rfl) (by omega) ?_
        intro a4 c4 h4' v1 v2 v3
        refine Rb.sub q1 (by omega) (by omega) (by omega) (by omega) (by omega) ?_
        intro a5 w5 _
        rw [show ((b.len : Int) - (4 + n)).toNat = b.len - (4 + n) by omega, show (4 + (n : Int)).toNat = 4 + n by omega] at w5
        rw [show ((b.len : Int) - (4 + n)).toNat = b.len - (4 + n) by omega, show ((b.cap : Int) - (4 + n)).toNat = b.cap - (4 + n) by omega]
        have w5' : Rb h a5 (b.len - (4 + n)) (bs'.drop (4 + n)) := by
          rw [List.take_of_length_le (by rw [List.length_drop]; omega)] at w5
          exact w5
        refine ⟨⟨bs'.drop (4 + n), rs' ++ [ofL ((bs'.drop 4).take n)], w5', by show b.len - (4 + n) ≤ b.cap - (4 + n); omega, by rw [List.map_append]; exact v1, ?_, by rw [List.length_drop, List.length_append]; show bs'.length - (4 + n) + (rs'.length + 1) ≤ l; omega, fun y hy => ?_, (q7.trans' k3).trans v2 (fun y hy hb => by have := q6 y hb; omega)⟩, by show b.len - (4 + n) < b.len; omega⟩
        · rw [q4, unpack_cons (by omega) (by rw [← hn]; omega), ← hn]
          cases unpackL (bs'.drop (4 + n)) <;> simp
        · rcases v3 with ⟨rfl, _⟩ | ⟨rfl, _⟩
          · exact q6 y hy
          · rw [blk_some] at hy
            simp only at hy
            omega
  · replace hpos : ¬ (b.len : Int) > 0 := hpos
    have he : bs' = [] := List.length_eq_zero_iff.1 (by omega)
    subst he
    refine Rv.sub (show Ts h1 out.a out.len rs' from SlR.rv q3) (by omega) (by show (0 : Int) ≤ out.len; omega) (by show (out.len : Int) ≤ out.len; omega) (by show (out.len : Int) ≤ out.len; omega) (by have := SlR.le q3; show (out.len : Int) ≤ out.cap; omega) ?_
    intro a2 w2 hb2
    rw [show ((out.len : Int) - 0).toNat = out.len by omega] at w2 ⊢
    have w2' : Ts h1 a2 out.len rs' := by
      have e : ((rs'.map Value.string).drop (0 : Int).toNat).take out.len = rs'.map Value.string := by
        show ((rs'.map Value.string).drop 0).take out.len = _
        rw [List.drop_zero, List.take_of_length_le (by rw [List.length_map]; omega)]
      rw [e] at w2
      exact w2
    exact hyes rs' (by rw [q4]; simp [unpack_nil]) ⟨a2, out.len, out.len⟩ h1 w2' (Nat.le_refl _) (fun y hy => q6 y (hb2 y hy)) q7

end Wal
namespace Wal
open Enc Hash Snap

def bodyL (e x : Nat) (pl : List UInt8) : List UInt8 := p64 e ++ p64 x ++ pl
theorem bodyL_length (e x : Nat) (pl : List UInt8) : (bodyL e x pl).length = 16 + pl.length := by simp [bodyL, p64_length]; omega
def frameL (e x : Nat) (pl : List UInt8) : List UInt8 := four pl.length ++ (be4W (crcF (bodyL e x pl)) ++ bodyL e x pl)
theorem frameL_length (e x : Nat) (pl : List UInt8) : (frameL e x pl).length = 24 + pl.length := by simp [frameL, bodyL_length, four, be4W]; omega
def frameF (e x : Nat) (pl : List UInt8) : List UInt8 := frameL e x pl ++ List.replicate (256 * secs pl.length - (24 + pl.length)) 0
theorem secs_le (l : Nat) : 24 + l ≤ 256 * secs l := by unfold secs; omega
theorem frameF_length (e x : Nat) (pl : List UInt8) : (frameF e x pl).length = 256 * secs pl.length := by
  have := secs_le pl.length
  simp only [frameF, List.length_append, frameL_length, List.length_replicate]
  omega
theorem four_be4W (x : W) : four x.toNat = be4W x := by
  simp [four, be4W, lowb]

theorem frame_spec {h : Heap} {a : Option Addr} {l c e x : Nat} {pl : List UInt8} (hb : Rb h a l pl) (hl : l ≤ 100000000) {R : Sl → Heap → Prop}
    (hk : ∀ s h', s.len = 256 * secs l → Bl h' s.a s.len s.cap (frameF e x pl) → (∀ b, blk s.a b → h.size ≤ b) → Keep (fun _ => False) h h' → R s h') :
    CallT Try.prog wal_frame_no [.int .u64 (e : Int), .int .u64 (x : Int), .slice a l c] h [.sc .sl] R := by
  have hcall := wal_frame_call (epoch_0 := (e : Int)) (number_1 := (x : Int)) (payload_2 := ⟨a, l, c⟩) (R := R) (h := h)
  apply hcall
  simp only [wal_frame]
  have hlen := hb.len
  have x8 : (p64 x).length = 8 := p64_length x
  refine put64_spec ?_
  intro h1 b1 k1 s1
  dsimp only
  refine put64_spec ?_
  intro h2 b2 k2 s2
  dsimp only
  refine b2.rb.rd ?_
  have b1' : Bl h2 (some ⟨h.size, 0, none⟩) 8 8 (p64 e) := SlR.keep b1 k2 (fun _ _ h => h)
  refine b1'.push (new := p64 x) (by omega) x8.symm rfl ?_
  intro a3 c3 h3 b3 k3 n3
  have f3 : ∀ b, blk a3 b → h.size ≤ b := fun b hb' => by
    rcases n3 b hb' with hh | hh
    · rw [blk_some] at hh; simp only at hh; omega
    · omega
  have k03 : Keep (fun _ => False) h h3 := (k1.trans' k2).trans k3 (fun y hy hb' => by rw [blk_some] at hb'; simp only at hb'; omega)
  have z3 := k3.size
  have hb3 : Rb h3 a l pl := Rv.keep hb k03 (fun _ _ _ h => h)
  refine hb3.rd ?_
  refine b3.push (new := pl) (by omega) hlen rfl ?_
  intro a4 c4 h4 b4 k4 n4
  have f4 : ∀ b, blk a4 b → h.size ≤ b := fun b hb' => by
    rcases n4 b hb' with hh | hh
    · exact f3 b hh
    · omega
  have k04 := k03.trans k4 (fun y hy hb' => by have := f3 y hb'; omega)
  have z4 := k4.size
  have b4' : Bl h4 a4 (8 + 8 + l) c4 (bodyL e x pl) := b4
  refine four_spec ?_
  intro h5 b5 k5 s5
  dsimp only
  have b45 : Bl h5 a4 (8 + 8 + l) c4 (bodyL e x pl) := SlR.keep b4' k5 (fun _ _ h => h)
  refine crc_spec b45.rb (by omega) ?_
  have ec : w64 (u (crcF (bodyL e x pl))) = (((crcF (bodyL e x pl)).toNat : Nat) : Int) := by
    have := (crcF (bodyL e x pl)).isLt
    unfold u
    exact w64_id (by omega) (by omega)
  rw [ec]
  refine four_spec ?_
  intro h6 b6 k6 s6
  dsimp only
  rw [four_be4W] at b6
  refine b6.rb.rd ?_
  have b56 : Bl h6 (some ⟨h4.size, 0, none⟩) 4 4 (four l) := SlR.keep b5 k6 (fun _ _ h => h)
  refine b56.push (new := be4W (crcF (bodyL e x pl))) (by omega) rfl rfl ?_
  intro a7 c7 h7 b7 k7 n7
  have z7 := k7.size
  have f7 : ∀ b, blk a7 b → h4.size ≤ b := fun b hb' => by
    rcases n7 b hb' with hh | hh
    · rw [blk_some] at hh; simp only at hh; omega
    · omega
  have b47 : Rb h7 a4 (8 + 8 + l) (bodyL e x pl) := (Rv.keep b45.rb k6 (fun _ _ _ h => h)).keep k7 (fun _ y hy hh => by
    rw [blk_some] at hh
    have := SlR.blk_lt b4' hy
    simp only at hh
    omega)
  refine b47.rd ?_
  refine b7.push (new := bodyL e x pl) (by omega) (by rw [bodyL_length]; omega) rfl ?_
  intro a8 c8 h8 b8 k8 n8
  have z8 := k8.size
  have f8 : ∀ b, blk a8 b → h4.size ≤ b := fun b hb' => by
    rcases n8 b hb' with hh | hh
    · exact f7 b hh
    · omega
  refine sectors_spec (by omega) ?_
  have hsl := secs_le l
  have hsu : secs l ≤ 1000000 := by unfold secs; omega
  have e1 : w64 ((secs l : Int) * 256) = secs l * 256 := w64_id (by omega) (by omega)
  have e2 : w64 ((secs l : Int) * 256 - (((4 : Nat) : Int) + ((4 : Nat) : Int) + (((8 : Nat) : Int) + ((8 : Nat) : Int) + (l : Int)))) = ((256 * secs l - (24 + l) : Nat) : Int) := by rw [w64_id (by omega) (by omega)]; omega
  rw [e1, e2]
  refine ⟨by omega, by omega, ?_⟩
  rw [Int.toNat_natCast]
  have zr : zerosL [.int .u8 0] (256 * secs l - (24 + l)) = (List.replicate (256 * secs l - (24 + l)) (0 : UInt8)).map byteV := by
    rw [zerosL_one, List.map_replicate]; rfl
  rw [zr]
  refine b8.push (new := List.replicate (256 * secs l - (24 + l)) 0) (by omega) (by rw [List.length_replicate]) rfl ?_
  intro a9 c9 h9 b9 k9 n9
  refine hk _ h9 (by show 4 + 4 + (8 + 8 + l) + (256 * secs l - (24 + l)) = _; omega) ?_ (fun b hb' => ?_) ?_
  · have e : four l ++ be4W (crcF (bodyL e x pl)) ++ bodyL e x pl ++ List.replicate (256 * secs l - (24 + l)) 0 = frameF e x pl := by
      unfold frameF frameL
      rw [← hlen]
      simp
    rw [← e]
    exact b9
  · have z04 := k04.size
    rcases n9 b hb' with hh | hh
    · have := f8 b hh; omega
    · omega
  · have z04 := k04.size
    refine (((((k04.trans' k5).trans' k6).trans k7 (fun y hy hb' => ?_))).trans k8 (fun y hy hb' => ?_)).trans k9 (fun y hy hb' => ?_)
    · rw [blk_some] at hb'
      simp only at hb'
      omega
    · have := f7 y hb'; omega
    · have := f8 y hb'; omega

end Wal
namespace Wal
open Disk Enc Hash Snap

structure Lg where
  fr : Int
  n : Int
  ep : Nat
  nx : Nat
  pos : Int
  dead : Bool
deriving DecidableEq
def LRow (p : Nat) (L : Lg) : List Value := [.pointer (some ⟨p, 0, none⟩), .int .i64 L.fr, .int .i64 L.n, .int .u64 (L.ep : Int), .int .u64 (L.nx : Int), .int .i64 L.pos, .bool L.dead]

/-- k sectors from p on -/
def rdC (m : M) (p : Int) : Nat → List UInt8
  | 0 => []
  | k + 1 => rdC m p k ++ (readAt m (p + k)).data.toList
theorem rdC_length {m : M} (hz : ∀ i, (readAt m i).size = 256) (p : Int) : ∀ k, (rdC m p k).length = 256 * k
  | 0 => rfl
  | k + 1 => by
    have := hz (p + k)
    have e : (readAt m (p + k)).data.toList.length = 256 := this
    show (rdC m p k ++ _).length = _
    rw [List.length_append, rdC_length hz p k, e]
    omega
def many (m : M) (L : Lg) : Nat := g64 ((readAt m (L.fr + L.pos)).data.toList.take 4)
def payL (m : M) (L : Lg) : List UInt8 := ((rdC m (L.fr + L.pos) (secs (many m L))).drop 24).take (many m L)
def readM (m : M) (L : Lg) : Option (List ByteArray × Nat) :=
  if L.n ≤ L.pos then none else if (L.n - L.pos) * 256 - 24 < (many m L : Int) then none else
  if (frameF L.ep L.nx (payL m L)).take 24 = (rdC m (L.fr + L.pos) (secs (many m L))).take 24 then (unpackL (payL m L)).map (fun rs => (rs, secs (many m L))) else none

theorem secs_pos (l : Nat) : 1 ≤ secs l := by unfold secs; omega

theorem read_spec {mu im : Nat → Prop} {h : Heap} {p q : Nat} {m : M} {L : Lg} (hr : Disk.Rep h p mu im m) (hc : m.c.length ≤ 1000000) (ho : Row h q (LRow p L)) (g0 : 0 ≤ L.fr) (g1 : 0 ≤ L.pos) (g2 : L.fr + L.n ≤ m.l.length) (g3 : L.pos ≤ 100000) (g4 : -100000 ≤ L.n) {R : Sl × Int × Bool × Int → Heap → Prop}
    (hdead : m.st = 2 → L.pos < L.n → ∀ h', Keep (fun _ => False) h h' → R (⟨none, 0, 0⟩, 0, false, 50) h')
    (hno : readM m L = none → (m.st ≠ 2 ∨ L.n ≤ L.pos) → ∀ h', Keep (fun _ => False) h h' → R (⟨none, 0, 0⟩, 0, false, 0) h')
    (hyes : ∀ rs k, readM m L = some (rs, k) → m.st ≠ 2 → 1 ≤ k → L.pos + (k : Int) ≤ L.n → ∀ s h', Ts h' s.a s.len rs → s.len ≤ s.cap → (∀ b, blk s.a b → h.size ≤ b) → Keep (fun _ => False) h h' → R (s, (k : Int), true, 0) h') :
    CallT Try.prog wal_Log_read_no [.pointer (some ⟨q, 0, none⟩)] h [.sc .sl, .sc (.int .i64), .sc .bool, .sc (.int .i64)] R := by
  apply wal_Log_read_call
  simp only [wal_Log_read, nn_eq]
  rw [add_mk, add_mk, add_mk, add_mk, add_mk]
  have hle := hr.le
  have hz : ∀ i, (readAt m i).size = 256 := by
    obtain ⟨z1, z2⟩ := Rep.secs hr
    exact fun i => readAt_size z1 z2 i
  refine withJ.inl ?_
  refine ldI_row (o := 0 + 5) ho rfl (ldI_row (o := 0 + 2) ho rfl ?_)
  refine cnd_dec (fun hn => ?_) (fun hn => ?_)
  · exact hno (by unfold readM; rw [if_pos hn]) (.inr hn) h (.refl _ _)
  replace hn : ¬ L.n ≤ L.pos := hn
  refine ldP_row (o := 0) ho rfl (ldI_row (o := 0 + 1) ho rfl (ldI_row (o := 0 + 5) ho rfl ?_))
  obtain ⟨P, hP⟩ : ∃ P, P = L.fr + L.pos := ⟨_, rfl⟩
  have ew : w64 (L.fr + L.pos) = P := by rw [w64_id (by omega) (by omega)]; exact hP.symm
  rw [ew]
  by_cases hst : m.st = 2
  · have e : readErr m P = 50 := by unfold readErr; rw [if_pos hst]
    refine Disk.read_spec hr hc (i := P) (by unfold InI; omega) (fun _ => ?_) (fun e' => by rw [e] at e'; cases e')
    rw [e]
    exact cnd_t rfl (hdead hst (by omega) h (.refl _ _))
  have rd0 : ∀ i : Int, 0 ≤ i → i < m.l.length → readErr m i = 0 := fun i a b => by unfold readErr; rw [if_neg hst, if_neg (by omega)]
  refine Disk.read_spec hr hc (i := P) (by unfold InI; omega) (fun e' => absurd (rd0 P (by omega) (by omega)) e') ?_
  intro _ b h1 hb1 hb2 bs1 r1 k1
  refine cnd_f rfl ?_
  have hbl : Bl h1 (some ⟨b, 0, none⟩) 256 256 (readAt m P).data.toList := bs1
  dsimp only
  refine number_spec hbl.rb (by omega) ?_
  have eM : g64 ((readAt m P).data.toList.take 4) = many m L := by unfold many; rw [hP]
  rw [eM]
  obtain ⟨N, hN⟩ : ∃ N, N = many m L := ⟨_, rfl⟩
  rw [← hN]
  have ho1 := k1.row ho (fun h => h)
  refine ldI_row (o := 0 + 2) ho1 rfl (ldI_row (o := 0 + 5) ho1 rfl ?_)
  have e1 : w64 (L.n - L.pos) = L.n - L.pos := w64_id (by omega) (by omega)
  have e2 : w64 ((L.n - L.pos) * 256) = (L.n - L.pos) * 256 := w64_id (by omega) (by omega)
  have e3 : w64 ((L.n - L.pos) * 256 - 24) = (L.n - L.pos) * 256 - 24 := w64_id (by omega) (by omega)
  rw [e1, e2, e3]
  refine cnd_dec (fun hov => ?_) (fun hov => ?_)
  · exact hno (by unfold readM; rw [if_neg hn, if_pos (by rw [← hN]; exact hov)]) (.inl hst) h1 k1
  replace hov : ¬ (L.n - L.pos) * 256 - 24 < (N : Int) := hov
  have hsle := secs_le N
  have hsp := secs_pos N
  have hsn : L.pos + (secs N : Int) ≤ L.n := by unfold secs; omega
  have rl := rdC_length hz P
  refine LoopT.intro (fun (t : Sl × Int) h' => 1 ≤ t.2 ∧ t.2 ≤ secs N ∧ t.1.len = 256 * t.2.toNat ∧ Bl h' t.1.a t.1.len t.1.cap (rdC m P t.2.toNat) ∧ (∀ y, blk t.1.a y → h.size ≤ y) ∧ Keep (fun _ => False) h h') (fun t _ => ((secs N : Nat) - t.2).toNat)
    ⟨by simp, by simp only; omega, by simp, ?_, fun y hy => ?_, k1⟩ ?_
  · show Bl h1 (some ⟨b, 0, none⟩) 256 256 ([] ++ (readAt m (P + ((0 : Nat) : Int))).data.toList)
    rw [List.nil_append, show P + ((0 : Nat) : Int) = P by omega]
    exact hbl
  · rw [blk_some] at hy
    simp only at hy
    omega
  rintro ⟨s, i⟩ h2 ⟨p1, p2, p3, p4, p5, p6⟩
  replace p1 : 1 ≤ i := p1
  replace p2 : i ≤ secs N := p2
  replace p3 : s.len = 256 * i.toNat := p3
  replace p4 : Bl h2 s.a s.len s.cap (rdC m P i.toNat) := p4
  replace p5 : ∀ y, blk s.a y → h.size ≤ y := p5
  have ho2 := p6.row ho (fun h => h)
  have r2 := hr.keep p6 (fun _ _ h => h) (fun _ _ h => h)
  have z6 := p6.size
  refine sectors_spec (by omega) ?_
  refine cnd_dec (fun hi => ?_) (fun hi => ?_)
  · replace hi : i < secs N := hi
    refine ldP_row (o := 0) ho2 rfl (ldI_row (o := 0 + 1) ho2 rfl (ldI_row (o := 0 + 5) ho2 rfl ?_))
    rw [ew]
    have ewi : w64 (P + i) = P + (i.toNat : Int) := by rw [w64_id (by omega) (by omega)]; omega
    show CallT Try.prog disk_Dev_Read_no [.pointer (some ⟨p, 0, none⟩), .int .i64 (w64 (P + i))] h2 _ _
    rw [ewi]
    refine Disk.read_spec r2 hc (i := P + (i.toNat : Int)) (by unfold InI; omega) (fun e' => absurd (rd0 _ (by omega) (by omega)) e') ?_
    intro _ b3 h3 hb31 hb32 bs3 r3 k3
    refine cnd_f rfl ?_
    have hbl3 : Bl h3 (some ⟨b3, 0, none⟩) 256 256 (readAt m (P + (i.toNat : Int))).data.toList := bs3
    dsimp only
    refine hbl3.rb.rd ?_
    have p4' : Bl h3 s.a s.len s.cap _ := SlR.keep p4 k3 (fun _ _ h => h)
    refine p4'.push (new := (readAt m (P + (i.toNat : Int))).data.toList) (by omega) (hz _).symm rfl ?_
    intro a4 c4 h4 v1 v2 v3
    have hw : w64 (i + 1) = i + 1 := w64_id (by omega) (by omega)
    show (1 ≤ w64 (i + 1) ∧ w64 (i + 1) ≤ secs N ∧ s.len + 256 = 256 * (w64 (i + 1)).toNat ∧ Bl h4 a4 (s.len + 256) c4 (rdC m P (w64 (i + 1)).toNat) ∧ (∀ y, blk a4 y → h.size ≤ y) ∧ Keep (fun _ => False) h h4) ∧ ((secs N : Nat) - w64 (i + 1)).toNat < ((secs N : Nat) - i).toNat
    rw [hw, show (i + 1).toNat = i.toNat + 1 by omega]
    refine ⟨⟨by omega, by omega, by omega, v1, fun y hy => ?_, (p6.trans' k3).trans v2 (fun y hy hb => by have := p5 y hb; omega)⟩, by omega⟩
    rcases v3 y hy with hh | hh
    · exact p5 y hh
    · have := k3.size; omega
  · replace hi : ¬ i < secs N := hi
    have hii : i.toNat = secs N := by omega
    rw [hii] at p3 p4
    have hcap := SlR.le p4
    have e4 : w64 (24 + (N : Int)) = 24 + N := w64_id (by omega) (by omega)
    rw [e4]
    refine p4.rb.sub (by omega) (by omega) (by omega) (by show 24 + (N : Int) ≤ (s.cap : Int); omega) (by omega) ?_
    intro a5 w5 wb5
    rw [show (24 + (N : Int) - 24).toNat = N by omega] at w5 ⊢
    rw [show ((s.cap : Int) - 24).toNat = s.cap - 24 by omega]
    have w5' : Rb h2 a5 N (payL m L) := by
      unfold payL
      rw [← hN, ← hP]
      exact w5
    refine ldI_row (o := 0 + 3) ho2 rfl (ldI_row (o := 0 + 4) ho2 rfl ?_)
    refine p4.rb.sub (by omega) (by omega) (by omega) (by show (24 : Int) ≤ (s.cap : Int); omega) (by omega) ?_
    intro a6 w6 wb6
    have w6' : Rb h2 a6 24 ((rdC m P (secs N)).take 24) := w6
    show b2s a6 24 h2 _
    refine w6'.str ?_
    refine frame_spec w5' (by omega) ?_
    intro s7 h7 sl7 b7 n7 k7
    refine ⟨(show Rb h7 a6 24 _ from Rv.keep w6' k7 (fun _ _ _ h => h)).str rfl, ?_⟩
    have hc7 := SlR.le b7
    refine b7.rb.sub (by omega) (by omega) (by omega) (by show (24 : Int) ≤ (s7.cap : Int); omega) (by omega) ?_
    intro a8 w8 _
    have w8' : Rb h7 a8 24 ((frameF L.ep L.nx (payL m L)).take 24) := w8
    show b2s a8 24 h7 _
    refine w8'.str ?_
    rw [seq_ofL]
    have eR : readM m L = if (frameF L.ep L.nx (payL m L)).take 24 = (rdC m P (secs N)).take 24 then (unpackL (payL m L)).map (fun rs => (rs, secs N)) else none := by
      unfold readM
      rw [if_neg hn, ← hN, ← hP, if_neg hov]
    have k07 := p6.trans' k7
    refine cnd_of (fun hne => ?_) (fun heq => ?_)
    · have hne' : ¬ (frameF L.ep L.nx (payL m L)).take 24 = (rdC m P (secs N)).take 24 := by simpa using hne
      exact hno (by rw [eR, if_neg hne']) (.inl hst) h7 k07
    have heq' : (frameF L.ep L.nx (payL m L)).take 24 = (rdC m P (secs N)).take 24 := by simpa using heq
    rw [if_pos heq'] at eR
    refine unpack_spec (Rv.keep w5' k7 (fun _ _ _ h => h)) (by omega) (by omega) (fun hu h8 k8 => ?_) (fun rs hu s8 h8 t8 l8 n8 k8 => ?_)
    · exact cnd_t rfl (hno (by rw [eR, hu]; rfl) (.inl hst) h8 (k07.trans' k8))
    · refine cnd_f rfl ?_
      refine sectors_spec (by omega) ?_
      have z07 := k07.size
      exact hyes rs (secs N) (by rw [eR, hu]; rfl) hst hsp hsn s8 h8 t8 l8 (fun b hb => by have := n8 b hb; omega) (k07.trans' k8)

end Wal
/-- texts whose cells lie in blocks of B -/
def TsB (h : Heap) (B : Nat → Prop) (a : Option Addr) (l : Nat) (rs : List ByteArray) : Prop := Ts h a l rs ∧ (0 < l → ∀ b, blk a b → B b)
theorem TsB.keep {S B : Nat → Prop} {h h' : Heap} {a : Option Addr} {l : Nat} {rs : List ByteArray} (ht : TsB h B a l rs) (hk : Keep S h h') (hn : ∀ b, b < h.size → B b → ¬ S b) : TsB h' B a l rs :=
  ⟨Rv.keep ht.1 hk (fun hl b hb => hn b (Rv.lt ht.1 hl hb) (ht.2 hl b hb)), ht.2⟩
theorem TsB.mono {B C : Nat → Prop} {h : Heap} {a : Option Addr} {l : Nat} {rs : List ByteArray} (ht : TsB h B a l rs) (hn : ∀ b, b < h.size → B b → C b) : TsB h C a l rs :=
  ⟨ht.1, fun hl b hb => hn b (Rv.lt ht.1 hl hb) (ht.2 hl b hb)⟩

/-- a slice's cell that holds such texts -/
def TsV (h : Heap) (B : Nat → Prop) (v : Value) (rs : List ByteArray) : Prop := ∃ a l c, v = .slice a l c ∧ TsB h B a l rs
/-- lists of texts whose cells lie in blocks of B -/
def FsB (h : Heap) (B : Nat → Prop) (vs : List Value) (fs : List (List ByteArray)) : Prop := vs.length = fs.length ∧ ∀ (i : Nat) (v : Value) (f : List ByteArray), vs[i]? = some v → fs[i]? = some f → TsV h B v f
theorem FsB.keep {S B : Nat → Prop} {h h' : Heap} {vs : List Value} {fs : List (List ByteArray)} (hf : FsB h B vs fs) (hk : Keep S h h') (hn : ∀ b, b < h.size → B b → ¬ S b) : FsB h' B vs fs :=
  ⟨hf.1, fun i v f h1 h2 => by
    obtain ⟨a, l, c, e, t⟩ := hf.2 i v f h1 h2
    exact ⟨a, l, c, e, t.keep hk hn⟩⟩
theorem FsB.mono {B C : Nat → Prop} {h : Heap} {vs : List Value} {fs : List (List ByteArray)} (hf : FsB h B vs fs) (hn : ∀ b, b < h.size → B b → C b) : FsB h C vs fs :=
  ⟨hf.1, fun i v f h1 h2 => by
    obtain ⟨a, l, c, e, t⟩ := hf.2 i v f h1 h2
    exact ⟨a, l, c, e, t.mono hn⟩⟩
theorem FsB.nil (h : Heap) (B : Nat → Prop) : FsB h B [] [] := ⟨rfl, fun i v f h1 => by simp at h1⟩
theorem FsB.snoc {B : Nat → Prop} {h : Heap} {vs : List Value} {fs : List (List ByteArray)} {v : Value} {f : List ByteArray} (hf : FsB h B vs fs) (hv : TsV h B v f) : FsB h B (vs ++ [v]) (fs ++ [f]) := by
  refine ⟨by simp [hf.1], fun i w g h1 h2 => ?_⟩
  by_cases hi : i < vs.length
  · rw [List.getElem?_append_left hi] at h1
    rw [List.getElem?_append_left (by rw [← hf.1]; exact hi)] at h2
    exact hf.2 i w g h1 h2
  · rw [List.getElem?_append_right (by omega)] at h1
    rw [List.getElem?_append_right (by rw [← hf.1]; omega)] at h2
    have e1 := (List.getElem?_eq_some_iff.1 h1).1
    simp only [List.length_singleton] at e1
    have e2 : i - vs.length = 0 := by omega
    rw [e2] at h1
    have e3 : i - fs.length = 0 := by rw [← hf.1]; exact e2
    rw [e3] at h2
    simp only [List.getElem?_cons_zero, Option.some.injEq] at h1 h2
    subst h1 h2
    exact hv

/-- lists of texts, read -/
def Fs (h : Heap) (B : Nat → Prop) (a : Option Addr) (l : Nat) (fs : List (List ByteArray)) : Prop := ∃ vs, Rv h a l vs ∧ (0 < l → ∀ b, blk a b → B b) ∧ FsB h B vs fs
theorem Fs.keep {S B : Nat → Prop} {h h' : Heap} {a : Option Addr} {l : Nat} {fs : List (List ByteArray)} (hf : Fs h B a l fs) (hk : Keep S h h') (hn : ∀ b, b < h.size → B b → ¬ S b) : Fs h' B a l fs := by
  obtain ⟨vs, h1, h2, h3⟩ := hf
  exact ⟨vs, Rv.keep h1 hk (fun hl b hb => hn b (Rv.lt h1 hl hb) (h2 hl b hb)), h2, h3.keep hk hn⟩
theorem Fs.mono {B C : Nat → Prop} {h : Heap} {a : Option Addr} {l : Nat} {fs : List (List ByteArray)} (hf : Fs h B a l fs) (hn : ∀ b, b < h.size → B b → C b) : Fs h C a l fs := by
  obtain ⟨vs, h1, h2, h3⟩ := hf
  exact ⟨vs, h1, fun hl b hb => hn b (Rv.lt h1 hl hb) (h2 hl b hb), h3.mono hn⟩
theorem Fs.len {B : Nat → Prop} {h : Heap} {a : Option Addr} {l : Nat} {fs : List (List ByteArray)} (hf : Fs h B a l fs) : l = fs.length := by
  obtain ⟨vs, h1, h2, h3⟩ := hf
  have := h1.1
  have := h3.1
  omega

namespace Wal
open Disk Enc Hash Snap

def openF (m : M) : Nat → Lg → List (List ByteArray) → Lg × List (List ByteArray)
  | 0, L, fs => (L, fs)
  | f + 1, L, fs => match readM m L with
    | none => (L, fs)
    | some (rs, k) => openF m f { L with pos := L.pos + k, nx := L.nx + 1 } (fs ++ [rs])
def lg0 (fr n : Int) (e : Nat) : Lg := ⟨fr, n, e, 0, 0, false⟩
def openM (m : M) (fr n : Int) (e : Nat) : Lg × List (List ByteArray) := openF m (n.toNat + 1) (lg0 fr n e) []
def okR (l : Nat) (fr n : Int) : Prop := 1 ≤ n ∧ 0 ≤ fr ∧ fr ≤ l ∧ n ≤ l - fr
instance (l : Nat) (fr n : Int) : Decidable (okR l fr n) := by unfold okR; infer_instance

theorem LRow_len (p : Nat) (L : Lg) : (LRow p L).length = 7 := rfl

theorem open_spec {mu im : Nat → Prop} {h : Heap} {p : Nat} {m : M} (hr : Disk.Rep h p mu im m) (hc : m.c.length ≤ 1000000) {fr n : Int} (hf : InI fr) (hn : InI n) {e : Nat} {R : (Option Addr) × Sl × Int → Heap → Prop}
    (hbad : ¬ okR m.l.length fr n → R (none, ⟨none, 0, 0⟩, 1) h)
    (hdead : okR m.l.length fr n → m.st = 2 → R (none, ⟨none, 0, 0⟩, 50) h)
    (hk : okR m.l.length fr n → m.st ≠ 2 → ∀ q s h', h.size ≤ q → Row h' q (LRow p (openM m fr n e).1) → Fs h' (fun b => q < b) s.a s.len (openM m fr n e).2 → s.len = s.cap → Keep (fun _ => False) h h' → R (some ⟨q, 0, none⟩, s, 0) h') :
    CallT Try.prog wal_Open_no [.pointer (some ⟨p, 0, none⟩), .int .i64 fr, .int .i64 n, .int .u64 (e : Int)] h [.sc .ptr, .sc .sl, .sc (.int .i64)] R := by
  apply wal_Open_call
  simp only [wal_Open]
  have hle := hr.le
  unfold InI at hf hn
  refine withJ.inl (withJ.inl ?_)
  refine cnd_f rfl ?_
  refine cnd_dec (fun h1 => cnd_t rfl (hbad (fun ha => by have := ha.1; omega))) (fun h1 => ?_)
  refine cnd_dec (fun h2 => cnd_t rfl (hbad (fun ha => by have := ha.2.1; omega))) (fun h2 => ?_)
  refine size_spec hr ?_
  refine cnd_dec (fun h3 => cnd_t rfl (hbad (fun ha => by have := ha.2.2.1; omega))) (fun h3 => ?_)
  refine size_spec hr ?_
  have e1 : w64 ((m.l.length : Int) - fr) = m.l.length - fr := w64_id (by omega) (by omega)
  rw [e1]
  refine cnd_dec (fun h4 => hbad (fun ha => by have := ha.2.2.2; omega)) (fun h4 => ?_)
  have hok : okR m.l.length fr n := ⟨by omega, by omega, by omega, by omega⟩
  refine dead_spec hr ?_
  by_cases hst : m.st = 2
  · exact cnd_t (by simp [hst]) (hdead hok hst)
  refine cnd_f (by simp [hst]) ?_
  replace hk := hk hok hst
  refine newB_row ?_
  intro h5 s5 o5 k5
  obtain ⟨q, hq⟩ : ∃ q, q = h.size := ⟨_, rfl⟩
  rw [← hq] at o5 ⊢
  refine LoopT.intro (fun (s : Sl) h' => ∃ (L : Lg) (fs : List (List ByteArray)) (f : Nat) (vs : List Value), openM m fr n e = openF m f L fs ∧ n - L.pos < f ∧ 0 ≤ L.pos ∧ L.pos ≤ n ∧ L.fr = fr ∧ L.n = n ∧ (L.nx : Int) ≤ L.pos ∧ Row h' q (LRow p L) ∧ SlR h' 1 s.a s.len s.cap vs ∧ (s.len : Int) ≤ L.pos ∧ (∀ b, blk s.a b → q < b) ∧ FsB h' (fun b => q < b ∧ ¬ blk s.a b) vs fs ∧ Keep (fun _ => False) h h' ∧ q < h'.size)
    (fun s h' => match cellH h' ⟨q, 5, none⟩ with | some (.int _ z) => (n - z).toNat | _ => 0)
    ⟨lg0 fr n e, [], n.toNat + 1, [], rfl, by show n - 0 < _; omega, by show (0 : Int) ≤ 0; omega, by show (0 : Int) ≤ n; omega, rfl, rfl, by show ((0 : Nat) : Int) ≤ 0; omega, o5, SlR.nil _ _, by show ((0 : Nat) : Int) ≤ 0; omega, fun b hb => absurd hb (fun hb => by obtain ⟨x, hx, _⟩ := hb; cases hx), FsB.nil _ _, k5, by omega⟩ ?_
  rintro s h6 ⟨L, fs, f, vs, f1, f2, f3, f4, f5, f6, f7, o6, sl6, f8, f9, fb6, k6, z6⟩
  have r6 := hr.keep k6 (fun _ _ h => h) (fun _ _ h => h)
  have hsz := sl6.len
  refine read_spec r6 hc o6 (by omega) f3 (by omega) (by omega) (by omega) (fun hd => absurd hd hst) (fun hno _ h7 k7 => ?_) (fun rs k hsome _ hk1 hk2 s7 h7 t7 l7 n7 k7 => ?_)
  · refine cnd_f rfl (cnd_t rfl ?_)
    have efin : openM m fr n e = (L, fs) := by
      rw [f1]
      cases f with
      | zero => rfl
      | succ f => unfold openF; rw [hno]
    have hcap := SlR.le sl6
    refine Rv.sub (SlR.rv sl6) (by omega) (by show (0 : Int) ≤ s.len; omega) (by show (s.len : Int) ≤ s.len; omega) (by show (s.len : Int) ≤ s.len; omega) (by show (s.len : Int) ≤ s.cap; omega) ?_
    intro a2 w2 hb2
    rw [show ((s.len : Int) - 0).toNat = s.len by omega] at w2 ⊢
    have hvl : vs.length = s.len := by omega
    have e2 : (vs.drop (0 : Int).toNat).take s.len = vs := by
      show (vs.drop 0).take s.len = _
      rw [List.drop_zero, List.take_of_length_le (by omega)]
    rw [e2] at w2
    have := hk q ⟨a2, s.len, s.len⟩ h7 (by omega)
    rw [efin] at this
    exact this (k7.row o6 (fun h => h)) ⟨vs, Rv.keep w2 k7 (fun _ _ _ h => h), fun _ b hb => f9 b (hb2 b hb), (fb6.keep k7 (fun _ _ _ h => h)).mono (fun b _ hb => hb.1)⟩ rfl (k6.trans' k7)
  · refine cnd_f rfl (cnd_f rfl ?_)
    refine newB_row ?_
    intro h8 s8 o8 k8
    refine ldRow_row o8 (by simp) ?_
    have k78 := k7.trans' k8
    have z78 := k78.size
    refine (sl6.keep k78 (fun _ _ h => h)).app rfl (by simp) (fun v hv => by simp at hv; subst hv; rfl) (by omega) ?_
    intro a9 c9 h9 v1 v2 v3
    have k69 : Keep (blk s.a) h6 h9 := (k78.mono (fun _ _ h => h.elim)).trans v2 (fun _ _ h => h)
    have o9 := k69.row o6 (fun hb => by have := f9 q hb; omega)
    have ho5 : cellH h6 ⟨q, 5, none⟩ = some (.int .i64 L.pos) := by rw [o6.cells]; rfl
    rw [add_mk]
    refine ldI_row (o := 0 + 5) o9 rfl ?_
    have ew : w64 (L.pos + (k : Int)) = L.pos + k := w64_id (by omega) (by omega)
    show stC ⟨q, 0 + 5, none⟩ (.int .i64 (w64 (L.pos + (k : Int)))) h9 _
    rw [ew]
    refine stC_row (o := 0 + 5) o9 (by rw [LRow_len]; omega) rfl ?_
    intro h10 s10 o10 k10
    rw [add_mk]
    refine ldI_row (n := (L.nx : Int)) (o := 0 + 4) o10 rfl ?_
    have ex : IntKind.u64.wrap ((L.nx : Int) + 1) = ((L.nx + 1 : Nat) : Int) := by rw [wrap_u64_id (by omega) (by omega)]; rfl
    show stC ⟨q, 0 + 4, none⟩ (.int .u64 (IntKind.u64.wrap ((L.nx : Int) + 1))) h10 _
    rw [ex]
    refine stC_row (o := 0 + 4) o10 (by rw [List.length_set, LRow_len]; omega) rfl ?_
    intro h11 s11 o11 k11
    have o11' : Row h11 q (LRow p { L with pos := L.pos + k, nx := L.nx + 1 }) := o11
    have k911 : Keep (· = q) h9 h11 := k10.trans' k11
    have hpos : cellH h11 ⟨q, 5, none⟩ = some (.int .i64 (L.pos + k)) := by rw [o11'.cells]; rfl
    have fa9 : ∀ b, blk a9 b → q < b := fun b hb => by
      rcases v3 with ⟨rfl, _⟩ | ⟨rfl, _⟩
      · exact f9 b hb
      · rw [blk_some] at hb
        simp only at hb
        omega
    refine ⟨⟨{ L with pos := L.pos + k, nx := L.nx + 1 }, fs ++ [rs], f - 1, vs ++ [.slice s7.a s7.len s7.cap], ?_, ?_, ?_, ?_, f5, f6, ?_, o11', v1.keep k911 (fun b hb hh => ?_), ?_, fa9, ?_, ?_, ?_⟩, ?_⟩
    · rw [f1]
      cases f with
      | zero => omega
      | succ f =>
        show openF m (f + 1) L fs = openF m f _ _
        conv => lhs; unfold openF
        rw [hsome]
    · show n - (L.pos + k) < ((f - 1 : Nat) : Int)
      omega
    · show 0 ≤ L.pos + k
      omega
    · show L.pos + k ≤ n
      omega
    · show ((L.nx + 1 : Nat) : Int) ≤ L.pos + k
      omega
    · have := fa9 b hb
      have hh' : b = q := hh
      omega
    · show ((s.len + 1 : Nat) : Int) ≤ L.pos + k
      omega
    · have hz := k7.size
      have new9 : ∀ b, b < h7.size → ¬ blk s.a b → ¬ blk a9 b := fun b hb hn hh => by
        rcases v3 with ⟨rfl, _⟩ | ⟨rfl, _⟩
        · exact hn hh
        · rw [blk_some] at hh
          simp only at hh
          omega
      have t9 : TsV h9 (fun b => q < b ∧ ¬ blk a9 b) (.slice s7.a s7.len s7.cap) rs := ⟨s7.a, s7.len, s7.cap, rfl, Rv.keep (Ts.keep0 t7 k8) v2 (fun hl b hb hh => by
        have := n7 b hb
        have h2 := sl6.blk_lt hh
        omega), fun hl b hb => by
        have g1 := n7 b hb
        have g2 := Rv.lt t7 hl hb
        exact ⟨by omega, new9 b g2 (fun hh => by have := sl6.blk_lt hh; omega)⟩⟩
      have f9' : FsB h9 (fun b => q < b ∧ ¬ blk a9 b) vs fs := (((fb6.mono (C := fun b => q < b ∧ ¬ blk s.a b ∧ ¬ blk a9 b) (fun b hb hq => ⟨hq.1, hq.2, new9 b (by omega) hq.2⟩)).keep k78 (fun _ _ _ h => h)).keep v2 (fun b _ hb hh => hb.2.1 hh)).mono (fun b _ hb => ⟨hb.1, hb.2.2⟩)
      exact (f9'.snoc t9).keep k911 (fun b _ hb hh => by
        have hh' : b = q := hh
        have hb' : q < b := hb.1
        omega)
    · refine (k6.trans k69 (fun y hy hb => by have := f9 y hb; omega)).trans k911 (fun y hy hb => by
        have hb' : y = q := hb
        omega)
    · have := k69.size
      have := k911.size
      omega
    · show (match cellH h11 ⟨q, 5, none⟩ with | some (.int _ z) => (n - z).toNat | _ => 0) < (match cellH h6 ⟨q, 5, none⟩ with | some (.int _ z) => (n - z).toNat | _ => 0)
      rw [hpos, ho5]
      show (n - (L.pos + k)).toNat < (n - L.pos).toNat
      omega

end Wal
namespace Wal
open Disk Enc Hash Snap

def chunk (F : List UInt8) (i : Nat) : ByteArray := ofL ((F.drop (256 * i)).take 256)
/-- the writes of a frame's later sectors -/
def fws (P : Int) (F : List UInt8) (k : Nat) : List (Int × ByteArray) := (List.range (k - 1)).map fun (j : Nat) => (P + 1 + (j : Int), chunk F (j + 1))
theorem fws_succ (P : Int) (F : List UInt8) (k : Nat) (hk : 1 ≤ k) : fws P F (k + 1) = fws P F k ++ [(P + (k : Int), chunk F k)] := by
  unfold fws
  rw [show k + 1 - 1 = (k - 1) + 1 by omega, List.range_succ, List.map_append]
  simp only [List.map_cons, List.map_nil]
  rw [show k - 1 + 1 = k by omega, show P + 1 + ((k - 1 : Nat) : Int) = P + (k : Int) by omega]
def frest (P : Int) (F : List UInt8) : Nat → Nat → List (Int × ByteArray)
  | _, 0 => []
  | i, d + 1 => (P + (i : Int), chunk F i) :: frest P F (i + 1) d
theorem fws_split (P : Int) (F : List UInt8) : ∀ (d i : Nat), 1 ≤ i → fws P F (i + d) = fws P F i ++ frest P F i d
  | 0, i, _ => by simp [frest]
  | d + 1, i, hi => by
    rw [show i + (d + 1) = (i + 1) + d by omega, fws_split P F d (i + 1) (by omega), fws_succ P F i hi]
    simp [frest]
/-- all but the head -/
def aws (L : Lg) (F : List UInt8) (k : Nat) : List (Int × ByteArray) := fws (L.fr + L.pos) F k ++ (if L.pos + (k : Int) < L.n then [(L.fr + L.pos + (k : Int), noughts 256)] else [])

theorem write_spec {mu im : Nat → Prop} {h : Heap} {p q : Nat} {m : M} {L : Lg} (hr : Disk.Rep h p mu im m) (hc : m.c.length ≤ 800000) (ho : Row h q (LRow p L)) (hq : ¬ mu q) (g0 : 0 ≤ L.fr) (g1 : 0 ≤ L.pos) (g3 : L.fr ≤ 100000 ∧ L.pos ≤ 100000) (g4 : -100000 ≤ L.n ∧ L.n ≤ 100000)
    {a : Option Addr} {l c k : Nat} {F : List UInt8} (hb : Bl h a l c F) (hk1 : 1 ≤ k) (hk2 : k ≤ 10000) (hl : l = 256 * k) (hfar : ∀ b, blk a b → ¬ mu b) {R : Int → Heap → Prop}
    (hk : ∀ mu' im' h', Disk.Rep h' p mu' im' (commitM m (aws L F k) (L.fr + L.pos, chunk F 0)).2 → Keep mu h h' → Grew h mu im mu' im' → R (commitM m (aws L F k) (L.fr + L.pos, chunk F 0)).1 h') :
    CallT Try.prog wal_Log_write_no [.pointer (some ⟨q, 0, none⟩), .slice a l c] h [.sc (.int .i64)] R := by
  have hcall := wal_Log_write_call (x_0 := some ⟨q, 0, none⟩) (x_1 := ⟨a, l, c⟩) (R := R) (h := h)
  apply hcall
  simp only [wal_Log_write, nn_eq]
  rw [add_mk, add_mk, add_mk]
  have hcap := SlR.le hb
  obtain ⟨P, hP⟩ : ∃ P, P = L.fr + L.pos := ⟨_, rfl⟩
  have ew : w64 (L.fr + L.pos) = P := by rw [w64_id (by omega) (by omega)]; exact hP.symm
  have ek : w64 ((l : Int).tdiv 256) = k := by rw [Int.tdiv_eq_ediv_of_nonneg (by omega), w64_id (by omega) (by omega)]; omega
  rw [ek]
  rw [← hP] at hk
  have hlF := hb.len
  -- a part of the frame
  have csz : ∀ i, i < k → (chunk F i).size = 256 := fun i hi => by
    unfold chunk
    show (List.toArray _).size = 256
    rw [List.size_toArray, List.length_take, List.length_drop]
    omega
  have keep1 : ∀ {mu1 im1 : Nat → Prop} {hA hB : Heap}, Keep mu h hA → Grew h mu im mu1 im1 → Keep mu1 hA hB → Keep mu h hB := fun kA gA kB => kA.trans kB (fun y hy hm => by
    rcases gA.1 y hm with hh | hh
    · exact hh
    · omega)
  have grow : ∀ {mu1 im1 mu2 im2 : Nat → Prop} {hA : Heap}, h.size ≤ hA.size → Grew h mu im mu1 im1 → Grew hA mu1 im1 mu2 im2 → Grew h mu im mu2 im2 := fun hz gA gB => ⟨fun b hb => by
    rcases gB.1 b hb with hh | hh
    · exact gA.1 b hh
    · right; omega, fun b hb => by
    rcases gB.2 b hb with hh | hh
    · exact gA.2 b hh
    · right; omega⟩
  refine LoopT.intro (fun i h' => 1 ≤ i ∧ i ≤ k ∧ (wrs (fws P F i.toNat) m).1 = 0 ∧ ∃ mu' im', Disk.Rep h' p mu' im' (wrs (fws P F i.toNat) m).2 ∧ Keep mu h h' ∧ Grew h mu im mu' im') (fun i _ => ((k : Int) - i).toNat)
    ⟨by omega, by omega, rfl, mu, im, hr, .refl _ _, .same _ _ _⟩ ?_
  rintro i h1 ⟨q1, q2, q3, mu1, im1, r1, k1, gr1⟩
  have ho1 := k1.row ho hq
  have hb1 : Bl h1 a l c F := SlR.keep hb k1 hfar
  have hfar1 : ∀ b, blk a b → ¬ mu1 b := fun b hb' hm => by
    have := SlR.blk_lt hb hb'
    rcases gr1.1 b hm with hh | hh
    · exact hfar b hb' hh
    · omega
  have hq1 : ¬ mu1 q := fun hm => by
    have := ho.lt
    rcases gr1.1 q hm with hh | hh
    · exact hq hh
    · omega
  have z1 := k1.size
  have wl := wrs_len (fws P F i.toNat) m
  have fl : (fws P F i.toNat).length = i.toNat - 1 := by simp [fws]
  have hwi : w64 (i * 256) = i * 256 := w64_id (by omega) (by omega)
  have hwi2 : w64 (i * 256 + 256) = i * 256 + 256 := w64_id (by omega) (by omega)
  have aeq : aws L F k = fws P F k ++ (if L.pos + (k : Int) < L.n then [(P + (k : Int), noughts 256)] else []) := by unfold aws; rw [← hP]
  refine cnd_dec (fun hi => ?_) (fun hi => ?_)
  · refine ldP_row (o := 0) ho1 rfl (ldI_row (o := 0 + 1) ho1 rfl (ldI_row (o := 0 + 5) ho1 rfl ?_))
    rw [hwi, hwi2]
    refine SlR.sub hb1 (by omega) (by omega) (by omega) (by show i * 256 + 256 ≤ (c : Int); omega) (by omega) ?_
    intro a2 w2 hb2
    rw [show (i * 256 + 256 - i * 256).toNat = 256 by omega] at w2 ⊢
    have ew2 : w64 (w64 (L.fr + L.pos) + i) = P + (i.toNat : Int) := by rw [ew, w64_id (by omega) (by omega)]; omega
    rw [ew2]
    have w2' : Bl h1 a2 256 ((c : Int) - i * 256).toNat ((F.drop (256 * i.toNat)).take 256) := by
      unfold Bl
      rw [List.map_take, List.map_drop, show 256 * i.toNat = (i * 256).toNat by omega]
      exact w2
    refine Disk.write_spec r1 (by unfold InI; omega) w2'.bs (by rw [show ofL ((F.drop (256 * i.toNat)).take 256) = chunk F i.toNat from rfl, csz _ (by omega)]; omega) (by omega) (fun b hb' => hfar1 b (hb2 b hb')) ?_
    intro mu3 im3 h3 r3 k3 gr3
    have hnext : wrs (fws P F (i.toNat + 1)) m = write (wrs (fws P F i.toNat) m).2 (P + (i.toNat : Int)) (chunk F i.toNat) := by
      rw [fws_succ P F i.toNat (by omega), wrs_snoc _ _ _ q3]
    rw [show ofL ((F.drop (256 * i.toNat)).take 256) = chunk F i.toNat from rfl, ← hnext] at r3 ⊢
    have k03 := keep1 k1 gr1 k3
    have g03 := grow z1 gr1 gr3
    refine cnd_of (fun hne => ?_) (fun heq => ?_)
    · have hne' : (wrs (fws P F (i.toNat + 1)) m).1 ≠ 0 := by simpa using hne
      have e : commitM m (aws L F k) (P, chunk F 0) = wrs (fws P F (i.toNat + 1)) m := by
        have e1 : wrs (aws L F k) m = wrs (fws P F (i.toNat + 1)) m := by
          rw [aeq, show k = (i.toNat + 1) + (k - (i.toNat + 1)) by omega, fws_split P F _ _ (by omega), List.append_assoc, wrs_stop hne']
        unfold commitM
        rw [e1, if_pos hne']
      rw [e] at hk
      exact hk mu3 im3 h3 r3 k03 g03
    · have heq' : (wrs (fws P F (i.toNat + 1)) m).1 = 0 := by simpa using heq
      have hw : w64 (i + 1) = i + 1 := w64_id (by omega) (by omega)
      show (1 ≤ w64 (i + 1) ∧ w64 (i + 1) ≤ k ∧ (wrs (fws P F (w64 (i + 1)).toNat) m).1 = 0 ∧ ∃ mu' im', Disk.Rep h3 p mu' im' (wrs (fws P F (w64 (i + 1)).toNat) m).2 ∧ Keep mu h h3 ∧ Grew h mu im mu' im') ∧ ((k : Int) - w64 (i + 1)).toNat < ((k : Int) - i).toNat
      rw [hw, show (i + 1).toNat = i.toNat + 1 by omega]
      exact ⟨⟨by omega, by omega, heq', mu3, im3, r3, k03, g03⟩, by omega⟩
  · have hik : i.toNat = k := by omega
    rw [hik] at q3 r1 wl fl
    -- the end: all but the head is written
    have fin : ∀ {mu2 im2 : Nat → Prop} {h2 : Heap}, (wrs (aws L F k) m).1 = 0 → Disk.Rep h2 p mu2 im2 (wrs (aws L F k) m).2 → Keep mu h h2 → Grew h mu im mu2 im2 →
        ldP ⟨q, 0, none⟩ h2 fun p17 => CallT Try.prog disk_Dev_Flush_no [.pointer p17] h2 [.sc (.int .i64)] fun (r18 : Int) h19 => cnd (r18 != 0) (R r18 h19) (
          ldP ⟨q, 0, none⟩ h19 fun p21 => ldI .i64 ⟨q, 0 + 1, none⟩ h19 fun n23 => ldI .i64 ⟨q, 0 + 5, none⟩ h19 fun n25 => lsl 1 a c 0 256 (c : Int) fun o26 l26 c26 =>
          CallT Try.prog disk_Dev_Write_no [.pointer p21, .int .i64 (w64 (n23 + n25)), .slice o26 l26 c26] h19 [.sc (.int .i64)] fun (r27 : Int) h28 => cnd (r27 != 0) (R r27 h28) (
          ldP ⟨q, 0, none⟩ h28 fun p30 => CallT Try.prog disk_Dev_Flush_no [.pointer p30] h28 [.sc (.int .i64)] fun (r31 : Int) h32 => R r31 h32)) := by
      intro mu2 im2 h2 hz r2 k2 gr2
      have wl2 := wrs_len (aws L F k) m
      have al : (aws L F k).length ≤ k := by
        rw [aeq, List.length_append, fl]
        split <;> simp <;> omega
      have ho2 := k2.row ho hq
      have hq2 : ¬ mu2 q := fun hm => by
        have := ho.lt
        rcases gr2.1 q hm with hh | hh
        · exact hq hh
        · omega
      unfold commitM at hk
      rw [if_neg (Classical.not_not.2 hz)] at hk
      refine ldP_row (o := 0) ho2 rfl ?_
      refine flush_spec r2 (by omega) ?_
      intro h3 r3 k3
      have k03 := keep1 k2 gr2 k3
      have fln := flush_len (wrs (aws L F k) m).2
      refine cnd_of (fun hne => ?_) (fun heq => ?_)
      · have hne' : (flush (wrs (aws L F k) m).2).1 ≠ 0 := by simpa using hne
        rw [if_pos hne'] at hk
        exact hk mu2 im2 h3 r3 k03 gr2
      have heq' : (flush (wrs (aws L F k) m).2).1 = 0 := by simpa using heq
      rw [if_neg (Classical.not_not.2 heq')] at hk
      have ho3 := k3.row ho2 hq2
      refine ldP_row (o := 0) ho3 rfl (ldI_row (o := 0 + 1) ho3 rfl (ldI_row (o := 0 + 5) ho3 rfl ?_))
      have hb3 : Bl h3 a l c F := SlR.keep hb k03 hfar
      refine SlR.sub hb3 (by omega) (by omega) (by omega) (by show (256 : Int) ≤ (c : Int); omega) (by omega) ?_
      intro a4 w4 hb4
      rw [ew]
      have w4' : Bl h3 a4 256 ((c : Int) - 0).toNat ((F.drop (256 * 0)).take 256) := by
        unfold Bl
        rw [List.map_take, List.map_drop]
        exact w4
      have hfar2 : ∀ b, blk a4 b → ¬ mu2 b := fun b hb' hm => by
        have := SlR.blk_lt hb (hb4 b hb')
        rcases gr2.1 b hm with hh | hh
        · exact hfar b (hb4 b hb') hh
        · omega
      refine Disk.write_spec r3 (by unfold InI; omega) w4'.bs (by rw [show ofL ((F.drop (256 * 0)).take 256) = chunk F 0 from rfl, csz _ (by omega)]; omega) (by omega) hfar2 ?_
      intro mu5 im5 h5 r5 k5 gr5
      rw [show ofL ((F.drop (256 * 0)).take 256) = chunk F 0 from rfl] at r5 ⊢
      have k05 := keep1 k03 gr2 k5
      have z3 := k03.size
      have g05 := grow z3 gr2 gr5
      have wln := write_len (flush (wrs (aws L F k) m).2).2 P (chunk F 0)
      refine cnd_of (fun hne => ?_) (fun heq2 => ?_)
      · have hne' : (write (flush (wrs (aws L F k) m).2).2 P (chunk F 0)).1 ≠ 0 := by simpa using hne
        rw [if_pos hne'] at hk
        exact hk mu5 im5 h5 r5 k05 g05
      have heq2' : (write (flush (wrs (aws L F k) m).2).2 P (chunk F 0)).1 = 0 := by simpa using heq2
      rw [if_neg (Classical.not_not.2 heq2')] at hk
      have ho5 := k5.row ho3 hq2
      refine ldP_row (o := 0) ho5 rfl ?_
      refine flush_spec r5 (by omega) ?_
      intro h6 r6 k6
      exact hk mu5 im5 h6 r6 (keep1 k05 g05 k6) g05
    refine withJ.inl ?_
    refine ldI_row (o := 0 + 5) ho1 rfl (ldI_row (o := 0 + 2) ho1 rfl ?_)
    have ewk : w64 (L.pos + (k : Int)) = L.pos + k := w64_id (by omega) (by omega)
    rw [ewk]
    refine cnd_dec (fun hlt => ?_) (fun hge => ?_)
    · have a1 : aws L F k = fws P F k ++ [(P + (k : Int), noughts 256)] := by rw [aeq, if_pos hlt]
      refine ldP_row (o := 0) ho1 rfl (ldI_row (o := 0 + 1) ho1 rfl (ldI_row (o := 0 + 5) ho1 rfl ?_))
      refine mkBytes (by decide) (by decide) ?_
      intro h2 s2 b2 k2
      have ho2 := k2.row ho1 (fun h => h)
      refine ⟨ldI_row (o := 0 + 5) ho2 rfl rfl, ldI_row (o := 0 + 1) ho2 rfl rfl, ldP_row (o := 0) ho2 rfl rfl, ?_⟩
      have ewp : w64 (w64 (L.fr + L.pos) + (k : Int)) = P + k := by rw [ew, w64_id (by omega) (by omega)]
      rw [ewp]
      refine Disk.write_spec (r1.keep k2 (fun _ _ h => h) (fun _ _ h => h)) (by unfold InI; omega) b2 (by rw [noughts_size]; decide) (by omega) (fun b hb' hm => by
        rw [blk_some] at hb'
        have := r1.lt b (.inl hm)
        simp only at hb'
        omega) ?_
      intro mu3 im3 h3 r3 k3 gr3
      have hnext : wrs (aws L F k) m = write (wrs (fws P F k) m).2 (P + (k : Int)) (noughts 256) := by rw [a1, wrs_snoc _ _ _ q3]
      replace r3 : Disk.Rep h3 p mu3 im3 (write (wrs (fws P F k) m).2 (P + (k : Int)) (noughts 256)).2 := r3
      show cnd ((write (wrs (fws P F k) m).2 (P + (k : Int)) (noughts 256)).1 != 0) _ _
      rw [← hnext] at r3 ⊢
      have z2 := k2.size
      have k03 := keep1 (k1.trans k2 (fun _ _ h => h.elim)) gr1 k3
      have g03 := grow (by omega) gr1 gr3
      refine cnd_of (fun hne => ?_) (fun heq => ?_)
      · have hne' : (wrs (aws L F k) m).1 ≠ 0 := by simpa using hne
        have e : commitM m (aws L F k) (P, chunk F 0) = wrs (aws L F k) m := by
          unfold commitM
          rw [if_pos hne']
        rw [e] at hk
        have := hk mu3 im3 h3 r3 k03 g03
        rw [hnext] at this
        exact this
      · exact fin (by simpa using heq) r3 k03 g03
    · have a1 : aws L F k = fws P F k := by rw [aeq, if_neg hge, List.append_nil]
      exact fin (by rw [a1]; exact q3) (by rw [a1]; exact r1) k1 gr1

end Wal
namespace Wal
open Disk Enc Hash Snap

def appM (m : M) (L : Lg) (rs : List ByteArray) : Int × M × Lg :=
  if L.dead then (50, m, L) else if L.n - L.pos < (secs (packL rs).length : Int) then (60, m, L) else
  let F := frameF L.ep L.nx (packL rs)
  let r := commitM m (aws L F (secs (packL rs).length)) (L.fr + L.pos, chunk F 0)
  if r.1 ≠ 0 then (r.1, r.2, { L with dead := true }) else (0, r.2, { L with pos := L.pos + secs (packL rs).length, nx := L.nx + 1 })

theorem room_spec {h : Heap} {p q : Nat} {L : Lg} (ho : Row h q (LRow p L)) (g : -100000 ≤ L.n ∧ L.n ≤ 100000 ∧ 0 ≤ L.pos ∧ L.pos ≤ 100000) {R : Int → Heap → Prop} (hk : R (L.n - L.pos) h) : CallT Try.prog wal_Log_Room_no [.pointer (some ⟨q, 0, none⟩)] h [.sc (.int .i64)] R := by
  apply wal_Log_Room_call
  simp only [wal_Log_Room, nn_eq]
  rw [add_mk, add_mk]
  refine ldI_row (o := 0 + 2) ho rfl (ldI_row (o := 0 + 5) ho rfl ?_)
  rw [w64_id (by omega) (by omega)]
  exact hk

theorem append_spec {mu im : Nat → Prop} {h : Heap} {p q : Nat} {m : M} {L : Lg} (hr : Disk.Rep h p mu im m) (hc : m.c.length ≤ 800000) (ho : Row h q (LRow p L)) (hq : ¬ mu q ∧ ¬ im q) (g0 : 0 ≤ L.fr) (g1 : 0 ≤ L.pos) (g3 : L.fr ≤ 100000 ∧ L.pos ≤ 100000) (g4 : -100000 ≤ L.n ∧ L.n ≤ 10000) (g5 : L.nx ≤ 1000000)
    {a : Option Addr} {l c : Nat} {rs : List ByteArray} (ht : Ts h a l rs) (hb : ((packL rs).length : Int) ≤ 4611686018427387904) {R : Int → Heap → Prop}
    (hk : ∀ mu' im' h', Disk.Rep h' p mu' im' (appM m L rs).2.1 → Row h' q (LRow p (appM m L rs).2.2) → Keep (fun b => mu b ∨ b = q) h h' → Grew h mu im mu' im' → R (appM m L rs).1 h') :
    CallT Try.prog wal_Log_Append_no [.pointer (some ⟨q, 0, none⟩), .slice a l c] h [.sc (.int .i64)] R := by
  have hcall := wal_Log_Append_call (l_0 := some ⟨q, 0, none⟩) (records_1 := ⟨a, l, c⟩) (R := R) (h := h)
  apply hcall
  simp only [wal_Log_Append, nn_eq]
  have hlen := ht.len
  have hpl : 4 * rs.length ≤ (packL rs).length := by
    have : ∀ rs : List ByteArray, 4 * rs.length ≤ (packL rs).length := by
      intro rs
      induction rs with
      | nil => simp
      | cons s rs ih =>
        have e : packL (s :: rs) = four s.size ++ (s.data.toList ++ packL rs) := by simp [packL]
        rw [e, List.length_append, List.length_append, four_length, List.length_cons]
        omega
    exact this rs
  rw [add_mk, add_mk, add_mk, add_mk]
  unfold appM at hk
  refine ldB_row (o := 0 + 6) ho rfl ?_
  cases hd : L.dead
  rotate_left
  · rw [hd] at hk
    exact cnd_t rfl (hk mu im h hr ho (.refl _ _) (.same _ _ _))
  rw [hd] at hk
  simp only [Bool.false_eq_true, if_false] at hk
  refine cnd_f rfl ?_
  refine need_spec ht hb (by omega) ?_
  refine room_spec ho (by omega) ?_
  obtain ⟨k, hkk⟩ : ∃ k, k = secs (packL rs).length := ⟨_, rfl⟩
  rw [← hkk] at hk ⊢
  refine cnd_dec (fun hfull => ?_) (fun hfull => ?_)
  · replace hfull : (k : Int) > L.n - L.pos := hfull
    rw [if_pos (by omega)] at hk
    exact hk mu im h hr ho (.refl _ _) (.same _ _ _)
  replace hfull : ¬ (k : Int) > L.n - L.pos := hfull
  rw [if_neg (by omega)] at hk
  have hkp := secs_pos (packL rs).length
  have hpk : (packL rs).length ≤ 256 * k := by have := secs_le (packL rs).length; omega
  refine ldI_row (o := 0 + 3) ho rfl (ldI_row (o := 0 + 4) ho rfl ?_)
  refine pack_spec ht (by omega) (by omega) ?_
  intro s1 h1 b1 n1 k1
  have ho1 := k1.row ho (fun h => h)
  refine ⟨ldI_row (o := 0 + 4) ho1 rfl rfl, ldI_row (o := 0 + 3) ho1 rfl rfl, ?_⟩
  have hs1 := b1.len
  refine frame_spec b1.rb (by omega) ?_
  intro s2 h2 sl2 b2 n2 k2
  rw [hs1] at sl2
  have ho2 := k2.row ho1 (fun h => h)
  have r2 := (hr.keep k1 (fun _ _ h => h) (fun _ _ h => h)).keep k2 (fun _ _ h => h) (fun _ _ h => h)
  have z1 := k1.size
  refine write_spec r2 hc ho2 hq.1 g0 g1 g3 (by omega) b2 (k := k) (by omega) (by omega) (by rw [sl2, ← hkk]) (fun b hb' hm => by
    have := n2 b hb'
    have := hr.lt b (.inl hm)
    omega) ?_
  intro mu3 im3 h3 r3 k3 gr3
  have ho3 := k3.row ho2 hq.1
  have z2 := k2.size
  have g03 : Grew h mu im mu3 im3 := ⟨fun b hb' => by
    rcases gr3.1 b hb' with hh | hh
    · exact .inl hh
    · right; omega, fun b hb' => by
    rcases gr3.2 b hb' with hh | hh
    · exact .inl hh
    · right; omega⟩
  have hql := ho.lt
  have hq3 : ¬ mu3 q := fun hm => by
    rcases gr3.1 q hm with hh | hh
    · exact hq.1 hh
    · omega
  have hi3 : ¬ im3 q := fun hm => by
    rcases gr3.2 q hm with hh | hh
    · exact hq.2 hh
    · omega
  have k03 : Keep (fun b => mu b ∨ b = q) h h3 := ((k1.trans' k2).mono (T := fun b => mu b ∨ b = q) (fun _ _ h => h.elim)).trans k3 (fun y _ hy => .inl hy)
  obtain ⟨F, hF⟩ : ∃ F, F = frameF L.ep L.nx (packL rs) := ⟨_, rfl⟩
  rw [← hF] at r3 hk ⊢
  refine cnd_of (fun hne => ?_) (fun heq => ?_)
  · have hne' : (commitM m (aws L F k) (L.fr + L.pos, chunk F 0)).1 ≠ 0 := by simpa using hne
    simp only [if_pos hne'] at hk
    refine stC_row (o := 0 + 6) ho3 (by rw [LRow_len]; omega) rfl ?_
    intro h4 s4 o4 k4
    exact hk mu3 im3 h4 (r3.keep k4 (fun b hb' e => hq3 (by have e' : b = q := e; rw [← e']; exact hb')) (fun b hb' e => hi3 (by have e' : b = q := e; rw [← e']; exact hb'))) o4 (k03.trans k4 (fun y _ hy => .inr hy)) g03
  · have heq' : (commitM m (aws L F k) (L.fr + L.pos, chunk F 0)).1 = 0 := by simpa using heq
    simp only [if_neg (Classical.not_not.2 heq')] at hk
    refine ldI_row (o := 0 + 5) ho3 rfl ?_
    have e1 : w64 (L.pos + (k : Int)) = L.pos + k := w64_id (by omega) (by omega)
    rw [e1]
    refine stC_row (o := 0 + 5) ho3 (by rw [LRow_len]; omega) rfl ?_
    intro h4 s4 o4 k4
    refine ldI_row (n := (L.nx : Int)) (o := 0 + 4) o4 rfl ?_
    have ex : IntKind.u64.wrap ((L.nx : Int) + 1) = ((L.nx + 1 : Nat) : Int) := by rw [wrap_u64_id (by omega) (by omega)]; rfl
    rw [ex]
    refine stC_row (o := 0 + 4) o4 (by rw [List.length_set, LRow_len]; omega) rfl ?_
    intro h5 s5 o5 k5
    have k35 := k4.trans' k5
    have o5' : Row h5 q (LRow p ⟨L.fr, L.n, L.ep, L.nx + 1, L.pos + (k : Int), L.dead⟩) := o5
    rw [hd] at o5'
    exact hk mu3 im3 h5 (r3.keep k35 (fun b hb' e => hq3 (by have e' : b = q := e; rw [← e']; exact hb')) (fun b hb' e => hi3 (by have e' : b = q := e; rw [← e']; exact hb'))) o5' (k03.trans k35 (fun y _ hy => .inr hy)) g03

/-! ### texts compared -/
theorem Fs_at {h : Heap} {B : Nat → Prop} {a : Option Addr} {l : Nat} {fs : List (List ByteArray)} (hf : Fs h B a l fs) {i : Int} (h0 : 0 ≤ i) (h1 : i < l) {K : Option Addr → Nat → Nat → Prop} (hk : ∀ f, fs[i.toNat]? = some f → ∀ a' l' c', TsB h B a' l' f → K a' l' c') :
    idx a l i fun x => ldL (x.add (i.toNat * 1)) h K := by
  have hl := hf.len
  obtain ⟨vs, q1, q2, q3⟩ := hf
  have hv : i.toNat < vs.length := by rw [q3.1]; omega
  have hf' : i.toNat < fs.length := by omega
  obtain ⟨a', l', c', e, t⟩ := q3.2 i.toNat _ _ (List.getElem?_eq_getElem hv) (List.getElem?_eq_getElem hf')
  refine Rv.at q1 h0 h1 (List.getElem?_eq_getElem hv) fun x hx => ldL_at (by rw [hx, e]) (hk _ (List.getElem?_eq_getElem hf') a' l' c' t)

end Wal
end Go.Proofs.Ytkgocfaajfaidaa
