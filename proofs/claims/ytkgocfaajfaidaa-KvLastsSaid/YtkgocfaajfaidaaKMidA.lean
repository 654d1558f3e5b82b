/- PArgs PU32 PCrc PDisk PDiskB PDiskC PDiskL PView PEnc PMix PSector PCommit joined, for seat work that lacks some functions; written by wip/tool/cut.py. -/
import Derived.Test.YtkgocfaajfaidaaXBytes
import Derived.Test.YtkgocfaajfaidaaXLift
import Derived.Test.YtkgocfaajfaidaaGMid
namespace Go.Proofs.Ytkgocfaajfaidaa
open Go D
set_option linter.unusedVariables false
set_option linter.unusedSimpArgs false
/-- an int of 64 bits -/
def InI (x : Int) : Prop := -9223372036854775808 ≤ x ∧ x ≤ 9223372036854775807

/-- a slice of ints, of bools, that came in -/
def IntsAt (h : Heap) (a : Option Addr) (l : Nat) : Prop := ∀ i : Nat, i < l → ∃ x z, a = some x ∧ cellH h (x.add (i * 1)) = some (.int .i64 z) ∧ InI z
def BoolsAt (h : Heap) (a : Option Addr) (l : Nat) : Prop := ∀ i : Nat, i < l → ∃ x z, a = some x ∧ cellH h (x.add (i * 1)) = some (.bool z)

theorem cell_lt {h : Heap} {a : Addr} {v : Value} (hc : cellH h a = some v) : a.block < h.size := by
  unfold cellH at hc
  rcases Nat.lt_or_ge a.block h.size with h1 | h1
  · exact h1
  · rw [Array.getElem?_eq_none h1] at hc; cases hc

theorem IntsAt.ld {h h' : Heap} {a : Option Addr} {l : Nat} (hs : IntsAt h a l) (hk : Keep (fun y => h.size ≤ y) h h') {i : Int} {K : Int → Prop} (h0 : 0 ≤ i) (h1 : i < l) (hK : ∀ z, InI z → K z) :
    idx a l i fun x => ldI .i64 (x.add (i.toNat * 1)) h' K := by
  obtain ⟨x, z, rfl, h2, h3⟩ := hs i.toNat (by omega)
  refine idx_some h0 h1 (ldI_at (hk.cell h2 ?_) (hK z h3))
  have := cell_lt h2
  omega

theorem BoolsAt.ld {h h' : Heap} {a : Option Addr} {l : Nat} (hs : BoolsAt h a l) (hk : Keep (fun y => h.size ≤ y) h h') {i : Int} {K : Bool → Prop} (h0 : 0 ≤ i) (h1 : i < l) (hK : ∀ z, K z) :
    idx a l i fun x => ldB (x.add (i.toNat * 1)) h' K := by
  obtain ⟨x, z, rfl, h2⟩ := hs i.toNat (by omega)
  refine idx_some h0 h1 (ldB_at (hk.cell h2 ?_) (hK z))
  have := cell_lt h2
  omega

theorem add_zero (a : Addr) : a.add 0 = a := by unfold Addr.add; rw [if_pos rfl]

theorem ints_of {h : Heap} {a : Option Addr} {l c n : Nat} (hs : InSl 1 (InInt .i64) h n [.slice a l c]) : IntsAt h a l := by
  rcases hs with h1 | ⟨x, l', c', h1, h2, h3, h4, h5⟩
  · injection h1 with h1
    injection h1 with h1 h2 h3
    subst h2
    intro i hi
    omega
  · injection h1 with h1
    injection h1 with e1 e2 e3
    subst e1 e2 e3
    intro i hi
    obtain ⟨r, b, g1, _, g2, z, rfl, g4, g5, _⟩ := h5 i (by omega)
    have := g2 0 (by omega)
    rw [add_zero] at this
    exact ⟨x, z, rfl, this, g4, g5⟩

theorem bools_of {h : Heap} {a : Option Addr} {l c n : Nat} (hs : InSl 1 InBool h n [.slice a l c]) : BoolsAt h a l := by
  rcases hs with h1 | ⟨x, l', c', h1, h2, h3, h4, h5⟩
  · injection h1 with h1
    injection h1 with h1 h2 h3
    subst h2
    intro i hi
    omega
  · injection h1 with h1
    injection h1 with e1 e2 e3
    subst e1 e2 e3
    intro i hi
    obtain ⟨r, b, g1, _, g2, z, rfl, g4⟩ := h5 i (by omega)
    have := g2 0 (by omega)
    rw [add_zero] at this
    exact ⟨x, z, rfl, this⟩

/-- a slice of triples of ints that came in -/
def OpsAt (h : Heap) (a : Option Addr) (l : Nat) : Prop := ∀ i : Nat, i < l → ∃ x n0 n1 n2, a = some x ∧ cellH h (x.add (i * 3)) = some (.int .i64 n0) ∧ cellH h ((x.add (i * 3)).add 1) = some (.int .i64 n1) ∧ cellH h ((x.add (i * 3)).add 2) = some (.int .i64 n2) ∧ InI n0 ∧ InI n1 ∧ InI n2

theorem ops_of {h : Heap} {a : Option Addr} {l c n : Nat} (hs : InSl 3 (InAgg 3 [(0, 1, InInt .i64), (1, 1, InInt .i64), (2, 1, InInt .i64)]) h n [.slice a l c]) : OpsAt h a l := by
  rcases hs with h1 | ⟨x, l', c', h1, h2, h3, h4, h5⟩
  · injection h1 with h1
    injection h1 with h1 h2 h3
    subst h2
    intro i hi
    omega
  · injection h1 with h1
    injection h1 with e1 e2 e3
    subst e1 e2 e3
    intro i hi
    obtain ⟨r, b, g1, _, g2, g3, g4⟩ := h5 i (by omega)
    obtain ⟨b0, _, n0, f0, u0, v0, _⟩ := g4 (0, 1, InInt .i64) (by simp)
    obtain ⟨b1, _, n1, f1, u1, v1, _⟩ := g4 (1, 1, InInt .i64) (by simp)
    obtain ⟨b2, _, n2, f2, u2, v2, _⟩ := g4 (2, 1, InInt .i64) (by simp)
    match r, g1, f0, f1, f2 with
    | [y0, y1, y2], _, f0, f1, f2 =>
      simp at f0 f1 f2
      subst f0 f1 f2
      have w0 := g2 0 (by omega)
      rw [add_zero] at w0
      exact ⟨x, n0, n1, n2, rfl, w0, g2 1 (by omega), g2 2 (by omega), ⟨u0, v0⟩, ⟨u1, v1⟩, ⟨u2, v2⟩⟩

/-- bytes that came in -/
theorem bytes_of {h : Heap} {a : Option Addr} {l c n : Nat} (hs : InSl 1 (InInt .u8) h n [.slice a l c]) : Rb h a l (bytesAt h a l) ∧ l ≤ c ∧ c + 1 ≤ n + 1 := by
  rcases hs with h1 | ⟨x, l', c', h1, h2, h3, h4, h5⟩
  · injection h1 with h1
    injection h1 with h1 h2 h3
    subst h1 h2 h3
    refine ⟨⟨by simp [bytesAt], fun i v hv => ?_⟩, Nat.le_refl _, by omega⟩
    simp [bytesAt] at hv
  · injection h1 with h1
    injection h1 with e1 e2 e3
    subst e1 e2 e3
    refine ⟨⟨by simp [bytesAt], fun i v hv => ?_⟩, h2, by omega⟩
    have hi : i < l := by
      have := (List.getElem?_eq_some_iff.1 hv).1
      simpa [bytesAt] using this
    obtain ⟨r, b, g1, _, g2, z, rfl, g4, g5, _⟩ := h5 i (by omega)
    have hc := g2 0 (by omega)
    rw [add_zero, Nat.mul_one] at hc
    have hc' : cellH h (x.add i) = some (.int .u8 z) := hc
    have hsp : x.spot = none := by
      cases hx : x.spot with
      | none => rfl
      | some t =>
        obtain ⟨r', b', g1', _, g2', z', rfl, _⟩ := h5 0 (by omega)
        have := g2' 0 (by omega)
        rw [add_zero, Nat.zero_mul, add_zero] at this
        unfold cellH at this
        rw [hx] at this
        split at this
        · simp at this
        · cases this
    refine ⟨x, rfl, hsp, ?_⟩
    rw [hc']
    unfold bytesAt at hv
    rw [List.getElem?_map, List.getElem?_map, List.getElem?_range hi] at hv
    simp only [Option.map_some, hc'] at hv
    rw [← hv]
    unfold byteV
    have e1 : IntKind.u8.min = 0 := rfl
    have e2 : IntKind.u8.max = 255 := rfl
    rw [e1] at g4
    rw [e2] at g5
    congr 2
    rw [UInt8.toNat_ofNat']
    omega

abbrev W := BitVec 32
/-- a word as the texts hold it -/
def u (a : W) : Int := (a.toNat : Int)

theorem wrap_u (x : Int) : IntKind.u32.wrap x = x % 4294967296 := by
  simp [IntKind.wrap, IntKind.bits, IntKind.signed]
theorem u_lt (a : W) : 0 ≤ u a ∧ u a < 4294967296 := by
  unfold u
  have := a.isLt
  omega
theorem u_ofInt (a : W) : BitVec.ofInt IntKind.u32.bits (u a) = a := by
  show BitVec.ofInt 32 (a.toNat : Int) = a
  rw [BitVec.ofInt_natCast, BitVec.ofNat_toNat, BitVec.setWidth_eq]
theorem wrap_nat (a : W) : IntKind.u32.wrap ((a.toNat : Nat) : Int) = u a := by
  rw [wrap_u]
  have := u_lt a
  unfold u at *
  omega
theorem u_add (a b : W) : IntKind.u32.wrap (u a + u b) = u (a + b) := by
  rw [wrap_u]; unfold u
  rw [BitVec.toNat_add]; omega
theorem u_neg (a : W) : IntKind.u32.wrap (0 - u a) = u (-a) := by
  rw [wrap_u]; unfold u
  rw [BitVec.toNat_neg]
  have := a.isLt
  omega
theorem u_and (a b : W) : andI .u32 (u a) (u b) = u (a &&& b) := by
  unfold andI; rw [u_ofInt, u_ofInt]; exact wrap_nat _
theorem u_or (a b : W) : orI .u32 (u a) (u b) = u (a ||| b) := by
  unfold orI; rw [u_ofInt, u_ofInt]; exact wrap_nat _
theorem u_xor (a b : W) : xorI .u32 (u a) (u b) = u (a ^^^ b) := by
  unfold xorI; rw [u_ofInt, u_ofInt]; exact wrap_nat _
theorem u_not (a : W) : xorI .u32 IntKind.u32.max (u a) = u (~~~a) := by
  have e : IntKind.u32.max = u (4294967295#32) := rfl
  rw [e, u_xor]
  congr 1
theorem u_shl (a : W) {n : Int} (h0 : 0 ≤ n) (h1 : n ≤ 32) : shlI .u32 (u a) n = u (a <<< n.toNat) := by
  unfold shlI
  rw [wrap_u]; unfold u
  rw [BitVec.toNat_shiftLeft, Nat.shiftLeft_eq]
  have e : min n.toNat IntKind.u32.bits = n.toNat := by show min n.toNat 32 = _; omega
  rw [e]
  simp
theorem u_shr (a : W) {n : Int} (h0 : 0 ≤ n) (h1 : n ≤ 32) : shrI .u32 (u a) n = u (a >>> n.toNat) := by
  unfold shrI u
  rw [BitVec.toNat_ushiftRight, Nat.shiftRight_eq_div_pow]
  have e : min n.toNat IntKind.u32.bits = n.toNat := by show min n.toNat 32 = _; omega
  rw [e]
  rw [Int.fdiv_eq_ediv_of_nonneg _ (by exact Int.pow_nonneg (by decide))]
  simp
theorem u_inj {a b : W} (h : u a = u b) : a = b := by
  unfold u at h
  exact BitVec.eq_of_toNat_eq (by omega)
theorem u_of {z : Int} (h0 : IntKind.u32.min ≤ z) (h1 : z ≤ IntKind.u32.max) : ∃ w, z = u w := by
  have e0 : IntKind.u32.min = 0 := rfl
  have e1 : IntKind.u32.max = 4294967295 := rfl
  rw [e0] at h0
  rw [e1] at h1
  refine ⟨BitVec.ofNat 32 z.toNat, ?_⟩
  unfold u
  rw [BitVec.toNat_ofNat]
  omega
theorem u_beq (a b : W) : (u a == u b) = (a == b) := by
  rw [Bool.eq_iff_iff]
  simp only [beq_iff_eq]
  exact ⟨u_inj, fun h => by rw [h]⟩

/-- a byte as a word, a word's lowest byte -/
def ub (b : UInt8) : W := BitVec.ofNat 32 b.toNat
def lowb (a : W) : UInt8 := UInt8.ofNat a.toNat
theorem u_byte (b : UInt8) : IntKind.u32.wrap ((b.toNat : Nat) : Int) = u (ub b) := by
  rw [wrap_u]; unfold u ub
  rw [BitVec.toNat_ofNat]
  have := b.toNat_lt
  omega
theorem u_low (a : W) : (Value.int .u8 (IntKind.u8.wrap (u a))) = byteV (lowb a) := by
  unfold byteV lowb u
  congr 1

/-! ### CRC-32C -/
def crcBit (c : W) : W := (c >>> 1) ^^^ (0x82f63b78#32 &&& -(c &&& 1#32))
def iter8 (f : W → W) : Nat → W → W
  | 0, c => c
  | n + 1, c => f (iter8 f n c)
def crcByte (c : W) (b : UInt8) : W := iter8 crcBit 8 (c ^^^ ub b)
def crcF (bs : List UInt8) : W := ~~~(bs.foldl crcByte 0xffffffff#32)

theorem foldl_take {α β : Type} (f : β → α → β) (z : β) (l : List α) (i : Nat) (x : α) (h : l[i]? = some x) : (l.take (i + 1)).foldl f z = f ((l.take i).foldl f z) x := by
  rw [List.take_add_one, h]
  simp

theorem low1 (c : W) : c &&& 1#32 = 0#32 ∨ c &&& 1#32 = 1#32 := by
  have e : (c &&& 1#32).toNat = c.toNat % 2 := by
    rw [BitVec.toNat_and]
    exact Nat.and_one_is_mod _
  rcases Nat.mod_two_eq_zero_or_one c.toNat with h | h
  · left; exact BitVec.eq_of_toNat_eq (by rw [e, h]; rfl)
  · right; exact BitVec.eq_of_toNat_eq (by rw [e, h]; rfl)

theorem crcBit_eq (c : W) : crcBit c = if c &&& 1#32 = 1#32 then (c >>> 1) ^^^ 0x82f63b78#32 else c >>> 1 := by
  unfold crcBit
  rcases low1 c with h | h
  · rw [h, if_neg (by decide)]
    rw [show (0x82f63b78#32 &&& -0#32) = 0#32 from by decide, BitVec.xor_zero]
  · rw [h, if_pos rfl]
    rw [show (0x82f63b78#32 &&& -1#32) = 0x82f63b78#32 from by decide]

/-- words that are only read -/
def Ws (h : Heap) (a : Option Addr) (l : Nat) (ws : List W) : Prop := Rv h a l (ws.map fun w => .int .u32 (u w))
theorem Ws.at {h : Heap} {a : Option Addr} {l : Nat} {ws : List W} (hs : Ws h a l ws) {i : Int} (h0 : 0 ≤ i) (h1 : i < l) {K : Int → Prop} (hk : K (u (ws.getD i.toNat 0))) : idx a l i fun x => ldI .u32 (x.add (i.toNat * 1)) h K := by
  have hl := hs.1
  rw [List.length_map] at hl
  have hi : i.toNat < ws.length := by omega
  refine Rv.at hs h0 h1 (v := .int .u32 (u ws[i.toNat])) (by rw [List.getElem?_map, List.getElem?_eq_getElem hi]; rfl) fun x hx => ldI_at hx ?_
  rw [List.getD_eq_getElem?_getD, List.getElem?_eq_getElem hi] at hk
  exact hk
/-- bytes that are held, as a list -/
def ofL (bs : List UInt8) : ByteArray := ⟨bs.toArray⟩
theorem ofL_bytes (bs : List UInt8) : bytesV (ofL bs) = bs.map byteV := by simp [bytesV_eq, ofL]
def Bl (h : Heap) (a : Option Addr) (l c : Nat) (bs : List UInt8) : Prop := SlR h 1 a l c (bs.map byteV)
theorem Bl.rb {h : Heap} {a : Option Addr} {l c : Nat} {bs : List UInt8} (hb : Bl h a l c bs) : Rb h a l bs := SlR.rv hb
theorem Bl.bs {h : Heap} {a : Option Addr} {l c : Nat} {bs : List UInt8} (hb : Bl h a l c bs) : Bs h a l c (ofL bs) := by unfold Bs; rw [ofL_bytes]; exact hb
theorem Bl.len {h : Heap} {a : Option Addr} {l c : Nat} {bs : List UInt8} (hb : Bl h a l c bs) : l = bs.length := hb.rb.len
/-- bytes are laid behind others: the new ones lie in a row of their own -/
theorem Bl.push {h : Heap} {a : Option Addr} {l c m : Nat} {bs new : List UInt8} {vs : List Value} (hb : Bl h a l c bs) {K : Option Addr → Nat → Heap → Prop} (hl : l + m ≤ 140737488354000) (hm : m = new.length) (hv : vs = new.map byteV)
    (hk : ∀ a' c' h', Bl h' a' (l + m) c' (bs ++ new) → Keep (blk a) h h' → (∀ b, blk a' b → blk a b ∨ h.size ≤ b) → K a' c' h') :
    app [.int .u8 0] 5 1 1 a l c vs m h K := by
  subst hm hv
  refine SlR.app hb rfl (by simp) (fun v hv => by obtain ⟨x, _, rfl⟩ := List.mem_map.1 hv; rfl) (by omega) ?_
  intro a' c' h' q1 q2 q3
  rw [← List.map_append] at q1
  refine hk a' c' h' q1 q2 (fun b hb' => ?_)
  rcases q3 with ⟨rfl, _⟩ | ⟨rfl, _⟩
  · exact .inl hb'
  · rw [blk_some] at hb'
    exact .inr (by simp only at hb'; omega)

/-- the same, and what it was laid behind stays as it was where it is not the same slice -/
theorem Bl.push2 {h : Heap} {a : Option Addr} {l c m : Nat} {bs new : List UInt8} {vs : List Value} (hb : Bl h a l c bs) {K : Option Addr → Nat → Heap → Prop} (hl : l + m ≤ 140737488354000) (hm : m = new.length) (hv : vs = new.map byteV)
    (hk : ∀ a' c' h', Bl h' a' (l + m) c' (bs ++ new) → Keep (blk a) h h' → (∀ b, blk a' b → blk a b ∨ h.size ≤ b) → Rb h' a l bs → K a' c' h') :
    app [.int .u8 0] 5 1 1 a l c vs m h K := by
  subst hm hv
  refine SlR.app hb rfl (by simp) (fun v hv => by obtain ⟨x, _, rfl⟩ := List.mem_map.1 hv; rfl) (by omega) ?_
  intro a' c' h' q1 q2 q3
  rw [← List.map_append] at q1
  have hlen := hb.len
  refine hk a' c' h' q1 q2 (fun b hb' => ?_) ?_
  · rcases q3 with ⟨rfl, _⟩ | ⟨rfl, _⟩
    · exact .inl hb'
    · rw [blk_some] at hb'
      exact .inr (by simp only at hb'; omega)
  · rcases q3 with ⟨rfl, _⟩ | ⟨_, _, k⟩
    · have r : Rv h' a' (l + new.length) ((bs ++ new).map byteV) := SlR.rv q1
      refine ⟨by simp; exact hlen, fun i v hv => ?_⟩
      have hi := (List.getElem?_eq_some_iff.1 hv).1
      refine r.2 i v ?_
      rw [List.map_append, List.getElem?_append_left hi]
      exact hv
    · exact Rv.keep hb.rb k (fun _ _ _ h => h)

/-! ### turning -/
def rotl (x : W) (n : Nat) : W := x <<< n ||| x >>> (32 - n)
theorem and31 (k : Int) : andI .u64 (IntKind.u64.wrap k) 31 = k % 32 := by
  rw [wrap_u64]
  obtain ⟨y, hy⟩ : ∃ y : Nat, (k % 18446744073709551616 : Int) = y := ⟨(k % 18446744073709551616).toNat, by omega⟩
  rw [hy, show (31 : Int) = ((31 : Nat) : Int) from rfl, andI_u64 (by omega) (by decide)]
  have := Nat.and_two_pow_sub_one_eq_mod y 5
  rw [show (2 : Nat) ^ 5 - 1 = 31 from rfl, show (2 : Nat) ^ 5 = 32 from rfl] at this
  rw [this]
  omega

namespace Hash

theorem crc_spec {h : Heap} {a : Option Addr} {l c : Nat} {bs : List UInt8} (hb : Rb h a l bs) (hl : l ≤ 1000000000000000) {R : Int → Heap → Prop} (hk : R (u (crcF bs)) h) :
    CallT Try.prog hash_CRC_no [.slice a l c] h [.sc (.int .u32)] R := by
  have hcall := hash_CRC_call (b_0 := ⟨a, l, c⟩) (R := R) (h := h)
  apply hcall
  simp only [hash_CRC]
  have hlen := hb.len
  refine LoopT.intro (fun (t : Int × Int) h' => h' = h ∧ 0 ≤ t.2 ∧ t.2 ≤ l ∧ t.1 = u ((bs.take t.2.toNat).foldl crcByte 0xffffffff#32)) (fun t _ => (l - t.2).toNat) ⟨rfl, by simp, by simp, rfl⟩ ?_
  rintro ⟨x, i⟩ h' ⟨rfl, q1, q2, q3⟩
  replace q1 : 0 ≤ i := q1
  replace q2 : i ≤ l := q2
  obtain ⟨z, hz⟩ : ∃ z, z = (bs.take i.toNat).foldl crcByte 0xffffffff#32 := ⟨_, rfl⟩
  replace q3 : x = u z := by rw [hz]; exact q3
  subst q3
  refine cnd_dec (fun hi => ?_) (fun hi => ?_)
  · replace hi : i < l := hi
    refine hb.at q1 hi ?_
    intro b hbb
    have hw : w64 (i + 1) = i + 1 := w64_id (by omega) (by omega)
    refine LoopT.intro (fun (t : Int × Int) h2 => h2 = h' ∧ 0 ≤ t.2 ∧ t.2 ≤ 8 ∧ t.1 = u (iter8 crcBit t.2.toNat (z ^^^ ub b))) (fun t _ => (8 - t.2).toNat) ⟨rfl, by simp, by simp, ?_⟩ ?_
    · show xorI .u32 _ _ = _
      rw [u_byte, u_xor]; rfl
    · rintro ⟨y, k⟩ h2 ⟨rfl, p1, p2, p3⟩
      replace p1 : 0 ≤ k := p1
      replace p2 : k ≤ 8 := p2
      obtain ⟨t, ht⟩ : ∃ t, t = iter8 crcBit k.toNat (z ^^^ ub b) := ⟨_, rfl⟩
      replace p3 : y = u t := by rw [ht]; exact p3
      subst p3
      refine cnd_dec (fun hk8 => ?_) (fun hk8 => ?_)
      · have hw2 : w64 (k + 1) = k + 1 := w64_id (by omega) (by omega)
        replace hk8 : k < 8 := hk8
        refine ⟨⟨rfl, ?_, ?_, ?_⟩, ?_⟩
        · show 0 ≤ w64 (k + 1); omega
        · show w64 (k + 1) ≤ 8; omega
        · show xorI .u32 (shrI .u32 (u t) 1) (andI .u32 2197175160 (IntKind.u32.wrap (0 - andI .u32 (u t) 1))) = u (iter8 crcBit (w64 (k + 1)).toNat _)
          rw [hw2, show (k + 1).toNat = k.toNat + 1 by omega]
          rw [show (2197175160 : Int) = u 0x82f63b78#32 from rfl, u_shr _ (by omega) (by omega)]
          rw [show andI .u32 (u t) 1 = u (t &&& 1#32) from u_and _ 1#32]
          rw [u_neg, u_and, u_xor]
          show _ = u (crcBit (iter8 crcBit k.toNat _))
          rw [← ht]
          rfl
        · show (8 - w64 (k + 1)).toNat < (8 - k).toNat; omega
      · have hk : k = 8 := by
          have : ¬ k < 8 := hk8
          omega
        subst hk
        refine ⟨⟨rfl, ?_, ?_, ?_⟩, ?_⟩
        · show 0 ≤ w64 (i + 1); omega
        · show w64 (i + 1) ≤ l; omega
        · show u t = u ((bs.take (w64 (i + 1)).toNat).foldl _ _)
          rw [hw, show (i + 1).toNat = i.toNat + 1 by omega, foldl_take _ _ _ _ b hbb, ← hz, ht]
          rfl
        · show (l - w64 (i + 1)).toNat < (l - i).toNat; omega
  · have hil : i = l := by
      have : ¬ i < (l : Int) := hi
      omega
    subst hil
    show R (xorI .u32 IntKind.u32.max (u z)) h'
    rw [Int.toNat_natCast, List.take_of_length_le (by omega)] at hz
    rw [u_not, hz]
    exact hk

end Hash
namespace Disk

/-- a device: what lasts, what waits, its state (0 alive, 1 burning, 2 dead), its fuse -/
structure M where
  l : List ByteArray
  c : List (Int × ByteArray)
  st : Int
  fuse : Int

/-- a value that holds a sector -/
def Sec (h : Heap) (im : Nat → Prop) (v : Value) (s : ByteArray) : Prop :=
  s.size = 256 ∧ ((v = .slice none 0 0 ∧ s = noughts 256) ∨ ∃ b c, v = .slice (some ⟨b, 0, none⟩) 256 c ∧ im b ∧ Bs h (some ⟨b, 0, none⟩) 256 c s)

theorem Sec.keep {S im : Nat → Prop} {h h' : Heap} {v : Value} {s : ByteArray} (hs : Sec h im v s) (hk : Keep S h h') (hn : ∀ b, im b → ¬ S b) : Sec h' im v s := by
  obtain ⟨h1, h2 | ⟨b, c, h2, h3, h4⟩⟩ := hs
  · exact ⟨h1, .inl h2⟩
  · exact ⟨h1, .inr ⟨b, c, h2, h3, h4.keep hk (fun b' hb => by rw [blk_some] at hb; subst hb; exact hn _ h3)⟩⟩
theorem Sec.mono {im im' : Nat → Prop} {h : Heap} {v : Value} {s : ByteArray} (hs : Sec h im v s) (hi : ∀ b, im b → im' b) : Sec h im' v s := by
  obtain ⟨h1, h2 | ⟨b, c, h2, h3, h4⟩⟩ := hs
  · exact ⟨h1, .inl h2⟩
  · exact ⟨h1, .inr ⟨b, c, h2, hi _ h3, h4⟩⟩

def entV (x : Int × Value × ByteArray) : List Value := [.int .i64 x.1, x.2.1]

/-- a device at block p; the blocks that it writes to; the blocks of its sectors -/
structure Rep (h : Heap) (p : Nat) (mu im : Nat → Prop) (m : M) : Prop where
  ex : ∃ (ql lc : Nat) (secs : List (Value × ByteArray)) (ca : Option Addr) (cc : Nat) (cv : List (Int × Value × ByteArray)),
    m.l = secs.map (·.2) ∧ m.c = cv.map (fun x => (x.1, x.2.2)) ∧
    Row h p [.slice (some ⟨ql, 0, none⟩) secs.length lc, .slice ca cv.length cc, .int .i64 m.st, .int .i64 m.fuse] ∧
    SlR h 1 (some ⟨ql, 0, none⟩) secs.length lc (secs.map (·.1)) ∧ SlR h 2 ca cv.length cc (cv.flatMap entV) ∧
    (∀ x ∈ secs, Sec h im x.1 x.2) ∧ (∀ x ∈ cv, 0 ≤ x.1 ∧ x.1 < (secs.length : Int) ∧ Sec h im x.2.1 x.2.2 ∧ x.2.1 ≠ .slice none 0 0) ∧
    mu p ∧ mu ql ∧ (∀ b, blk ca b → mu b) ∧ p ≠ ql ∧ ¬ blk ca p ∧ ¬ blk ca ql
  dis : ∀ b, mu b → ¬ im b
  lt : ∀ b, mu b ∨ im b → b < h.size
  le : m.l.length ≤ 4096
  fz : 0 ≤ m.fuse ∧ m.fuse ≤ 9223372036854775807

theorem Rep.keep {S mu im : Nat → Prop} {h h' : Heap} {p : Nat} {m : M} (hr : Rep h p mu im m) (hk : Keep S h h') (hm : ∀ b, mu b → ¬ S b) (hi : ∀ b, im b → ¬ S b) : Rep h' p mu im m := by
  obtain ⟨⟨ql, lc, secs, ca, cc, cv, e1, e2, r1, r2, r3, g1, g2, g3, g4, g5, g6⟩, d, lt, le, fz⟩ := hr
  refine ⟨⟨ql, lc, secs, ca, cc, cv, e1, e2, hk.row r1 (hm _ g3), r2.keep hk (fun b hb => by rw [blk_some] at hb; subst hb; exact hm _ g4), r3.keep hk (fun b hb => hm _ (g5 b hb)),
    fun x hx => (g1 x hx).keep hk hi, fun x hx => ?_, g3, g4, g5, g6⟩, d, fun b hb => Nat.lt_of_lt_of_le (lt b hb) hk.size, le, fz⟩
  obtain ⟨w1, w2, w3, w4⟩ := g2 x hx
  exact ⟨w1, w2, w3.keep hk hi, w4⟩

theorem Rep.own {mu im : Nat → Prop} {h : Heap} {p : Nat} {m : M} (hr : Rep h p mu im m) : mu p := by
  obtain ⟨⟨ql, lc, secs, ca, cc, cv, e1, e2, r1, r2, r3, g1, g2, g3, _⟩, _⟩ := hr
  exact g3

/-- the device's own four cells -/
theorem Rep.cells {mu im : Nat → Prop} {h : Heap} {p : Nat} {m : M} (hr : Rep h p mu im m) :
    (∃ a c, cellH h ⟨p, 0, none⟩ = some (.slice a m.l.length c)) ∧ (∃ a c, cellH h ⟨p, 1, none⟩ = some (.slice a m.c.length c)) ∧ cellH h ⟨p, 2, none⟩ = some (.int .i64 m.st) ∧ cellH h ⟨p, 3, none⟩ = some (.int .i64 m.fuse) := by
  obtain ⟨⟨ql, lc, secs, ca, cc, cv, e1, e2, r1, _⟩, _⟩ := hr
  refine ⟨⟨_, _, by rw [r1.cells, e1, List.length_map]; rfl⟩, ⟨_, _, by rw [r1.cells, e2, List.length_map]; rfl⟩, by rw [r1.cells]; rfl, by rw [r1.cells]; rfl⟩

theorem Rep.setSt {mu im : Nat → Prop} {h : Heap} {p : Nat} {m : M} (hr : Rep h p mu im m) {n : Int} {K : Heap → Prop}
    (hk : ∀ h', Rep h' p mu im { m with st := n } → Keep (· = p) h h' → h'.size = h.size → K h') : stC ⟨p, 2, none⟩ (.int .i64 n) h K := by
  obtain ⟨⟨ql, lc, secs, ca, cc, cv, e1, e2, r1, r2, r3, g1, g2, g3, g4, g5, g6, g7, g8⟩, d, lt, le, fz⟩ := hr
  refine stC_row r1 (by simp) rfl ?_
  intro h' s1 row k1
  have hi : ∀ b, im b → ¬ (b = p) := fun b hb e => d p g3 (e ▸ hb)
  refine hk h' ⟨⟨ql, lc, secs, ca, cc, cv, e1, e2, row, r2.keep k1 (fun b hb => by rw [blk_some] at hb; subst hb; exact fun e => g6 e.symm), r3.keep k1 (fun b hb e => g7 (e ▸ hb)),
    fun x hx => (g1 x hx).keep k1 hi, fun x hx => ?_, g3, g4, g5, g6, g7, g8⟩, d, fun b hb => by rw [s1]; exact lt b hb, le, fz⟩ k1 s1
  obtain ⟨w1, w2, w3, w4⟩ := g2 x hx
  exact ⟨w1, w2, w3.keep k1 hi, w4⟩

theorem Rep.setFuse {mu im : Nat → Prop} {h : Heap} {p : Nat} {m : M} (hr : Rep h p mu im m) {n : Int} (hn : 0 ≤ n ∧ n ≤ 9223372036854775807) {K : Heap → Prop}
    (hk : ∀ h', Rep h' p mu im { m with fuse := n } → Keep (· = p) h h' → h'.size = h.size → K h') : stC ⟨p, 3, none⟩ (.int .i64 n) h K := by
  obtain ⟨⟨ql, lc, secs, ca, cc, cv, e1, e2, r1, r2, r3, g1, g2, g3, g4, g5, g6, g7, g8⟩, d, lt, le, fz⟩ := hr
  refine stC_row r1 (by simp) rfl ?_
  intro h' s1 row k1
  have hi : ∀ b, im b → ¬ (b = p) := fun b hb e => d p g3 (e ▸ hb)
  refine hk h' ⟨⟨ql, lc, secs, ca, cc, cv, e1, e2, row, r2.keep k1 (fun b hb => by rw [blk_some] at hb; subst hb; exact fun e => g6 e.symm), r3.keep k1 (fun b hb e => g7 (e ▸ hb)),
    fun x hx => (g1 x hx).keep k1 hi, fun x hx => ?_, g3, g4, g5, g6, g7, g8⟩, d, fun b hb => by rw [s1]; exact lt b hb, le, hn⟩ k1 s1
  obtain ⟨w1, w2, w3, w4⟩ := g2 x hx
  exact ⟨w1, w2, w3.keep k1 hi, w4⟩

/-- the cache is dropped -/
theorem Rep.noCache {mu im : Nat → Prop} {h : Heap} {p : Nat} {m : M} (hr : Rep h p mu im m) {K : Heap → Prop}
    (hk : ∀ h', Rep h' p mu im { m with c := [] } → Keep (· = p) h h' → h'.size = h.size → K h') : stC ⟨p, 1, none⟩ (.slice none 0 0) h K := by
  obtain ⟨⟨ql, lc, secs, ca, cc, cv, e1, e2, r1, r2, r3, g1, g2, g3, g4, g5, g6, g7, g8⟩, d, lt, le, fz⟩ := hr
  refine stC_row r1 (by simp) rfl ?_
  intro h' s1 row k1
  have hi : ∀ b, im b → ¬ (b = p) := fun b hb e => d p g3 (e ▸ hb)
  have nob : ∀ b, ¬ blk none b := fun b hb => by obtain ⟨x, hx, _⟩ := hb; cases hx
  exact hk h' ⟨⟨ql, lc, secs, none, 0, [], e1, rfl, row, r2.keep k1 (fun b hb => by rw [blk_some] at hb; subst hb; exact fun e => g6 e.symm), SlR.nil _ _,
    fun x hx => (g1 x hx).keep k1 hi, fun x hx => (by cases hx), g3, g4, fun b hb => absurd hb (nob b), g6, nob _, nob _⟩, d, fun b hb => by rw [s1]; exact lt b hb, le, fz⟩ k1 s1

def burn (m : M) : Int × M := if m.st = 1 then (if m.fuse = 0 then (50, { m with st := 2 }) else (0, { m with fuse := m.fuse - 1 })) else (0, m)

theorem burn_spec {mu im : Nat → Prop} {h : Heap} {p : Nat} {m : M} (hr : Rep h p mu im m) {R : Int → Heap → Prop}
    (hk : ∀ h', Rep h' p mu im (burn m).2 → Keep (· = p) h h' → h'.size = h.size → R (burn m).1 h') : CallT Try.prog disk_Dev_burn_no [.pointer (some ⟨p, 0, none⟩)] h [.sc (.int .i64)] R := by
  apply disk_Dev_burn_call
  obtain ⟨_, _, c2, c3⟩ := hr.cells
  have fz := hr.fz
  simp only [disk_Dev_burn, nn_eq, add_mk, Nat.zero_add, withJ]
  refine ldI_at c2 ?_
  by_cases h1 : m.st = 1
  · refine cnd_t (by simp [h1]) (ldI_at c3 ?_)
    by_cases h2 : m.fuse = 0
    · refine cnd_t (by simp [h2]) ?_
      refine hr.setSt ?_
      intro h' w1 w2 w3
      have e : burn m = (50, { m with st := 2 }) := by unfold burn; rw [if_pos h1, if_pos h2]
      rw [e] at hk
      exact hk h' w1 w2 w3
    · refine cnd_f (by simp [h2]) (ldI_at c2 (cnd_t (by simp [h1]) (ldI_at c3 ?_)))
      rw [w64_id (by omega) (by omega)]
      refine hr.setFuse (by omega) ?_
      intro h' w1 w2 w3
      have e : burn m = (0, { m with fuse := m.fuse - 1 }) := by unfold burn; rw [if_pos h1, if_neg h2]
      rw [e] at hk
      exact hk h' w1 w2 w3
  · have e : burn m = (0, m) := by unfold burn; rw [if_neg h1]
    rw [e] at hk
    refine cnd_f (by simp [h1]) (cnd_f rfl (ldI_at c2 (cnd_f (by simp [h1]) ?_)))
    exact hk h hr (.refl _ _) rfl

theorem pending_spec {mu im : Nat → Prop} {h : Heap} {p : Nat} {m : M} (hr : Rep h p mu im m) {R : Int → Heap → Prop} (hk : R (m.c.length : Int) h) : CallT Try.prog disk_Dev_Pending_no [.pointer (some ⟨p, 0, none⟩)] h [.sc (.int .i64)] R := by
  apply disk_Dev_Pending_call
  obtain ⟨_, ⟨a, c, c1⟩, _⟩ := hr.cells
  exact ldL_at c1 hk
theorem size_spec {mu im : Nat → Prop} {h : Heap} {p : Nat} {m : M} (hr : Rep h p mu im m) {R : Int → Heap → Prop} (hk : R (m.l.length : Int) h) : CallT Try.prog disk_Dev_Size_no [.pointer (some ⟨p, 0, none⟩)] h [.sc (.int .i64)] R := by
  apply disk_Dev_Size_call
  obtain ⟨⟨a, c, c0⟩, _⟩ := hr.cells
  exact ldL_at c0 hk
theorem dead_spec {mu im : Nat → Prop} {h : Heap} {p : Nat} {m : M} (hr : Rep h p mu im m) {R : Bool → Heap → Prop} (hk : R (m.st == 2) h) : CallT Try.prog disk_Dev_Dead_no [.pointer (some ⟨p, 0, none⟩)] h [.sc .bool] R := by
  apply disk_Dev_Dead_call
  obtain ⟨_, _, c2, _⟩ := hr.cells
  exact ldI_at c2 hk

def fuse (m : M) (k : Int) : M := if m.st = 2 then m else if k < 0 then { m with st := 0 } else { m with st := 1, fuse := k }

theorem fuse_spec {mu im : Nat → Prop} {h : Heap} {p : Nat} {m : M} (hr : Rep h p mu im m) {k : Int} (hki : InI k) {R : Unit → Heap → Prop}
    (hk : ∀ h', Rep h' p mu im (fuse m k) → Keep (· = p) h h' → h'.size = h.size → R () h') : CallT Try.prog disk_Dev_Fuse_no [.pointer (some ⟨p, 0, none⟩), .int .i64 k] h [] R := by
  apply disk_Dev_Fuse_call
  obtain ⟨_, _, c2, _⟩ := hr.cells
  simp only [disk_Dev_Fuse, nn_eq, add_mk, Nat.zero_add]
  refine ldI_at c2 ?_
  unfold fuse at hk
  by_cases h2 : m.st = 2
  · rw [if_pos h2] at hk
    exact cnd_t (by simp [h2]) (hk h hr (.refl _ _) rfl)
  · rw [if_neg h2] at hk
    refine cnd_f (by simp [h2]) (cnd_dec (fun h3 => ?_) (fun h3 => ?_))
    · rw [if_pos h3] at hk
      exact hr.setSt hk
    · rw [if_neg h3] at hk
      refine hr.setSt ?_
      intro h1 w1 w2 w3
      refine w1.setFuse ⟨by omega, hki.2⟩ ?_
      intro h' v1 v2 v3
      exact hk h' v1 (w2.trans' v2) (by omega)

theorem cloneB_spec {h : Heap} {a : Option Addr} {l c : Nat} {s : ByteArray} {x : Addr} (ha : a = some x) (hs : Bs h a l c s) (hl : l ≤ 1000000000) {R : Sl → Heap → Prop}
    (hk : ∀ c' b h', h.size ≤ b → b < h'.size → Bs h' (some ⟨b, 0, none⟩) l c' s → Keep (fun _ => False) h h' → R ⟨some ⟨b, 0, none⟩, l, c'⟩ h') :
    CallT Try.prog slices_Clone_byte_no [.slice a l c] h [.sc .sl] R := by
  have hx := slices_Clone_byte_call (s_0 := ⟨a, l, c⟩) (R := R) (h := h)
  apply hx
  simp only [slices_Clone_byte]
  refine cnd_f (by rw [ha]; rfl) ?_
  refine newB_row ?_
  intro h1 s1 r1 k1
  have hs1 := hs.keep k1 (fun _ _ h => h)
  refine SlR.rd hs1 ?_
  have e0 : SlR h1 1 (some ⟨h.size, 0, none⟩) 0 0 [] := .inr ⟨h.size, 0, _, rfl, r1, by simp, by simp, by simp, by simp⟩
  refine e0.app rfl (by rw [SlR.len hs]) (bytesV_one s) (by omega) ?_
  intro a' c' h2 q1 q2 q3
  rw [Nat.zero_add, List.nil_append] at q1
  rw [Nat.zero_add]
  have hk2 : Keep (fun _ => False) h h2 := k1.trans q2 (fun y hy hb => by rw [blk_some] at hb; simp only at hb; omega)
  rcases q3 with ⟨rfl, e⟩ | ⟨rfl, e⟩
  · exact hk c' h.size h2 (Nat.le_refl _) (by omega) q1 hk2
  · exact hk c' h1.size h2 (by omega) (by omega) q1 hk2

theorem new_spec {h : Heap} {n : Int} (hn : InI n) {R : (Option Addr) × Int → Heap → Prop} (hno : (n < 1 ∨ 4096 < n) → R (none, 1) h)
    (hyes : 1 ≤ n → n ≤ 4096 → ∀ p mu im h', (∀ b, mu b ∨ im b → h.size ≤ b) → Rep h' p mu im ⟨List.replicate n.toNat (noughts 256), [], 0, 0⟩ → Keep (fun _ => False) h h' → R (some ⟨p, 0, none⟩, 0) h') :
    CallT Try.prog disk_New_no [.int .i64 n] h [.sc .ptr, .sc (.int .i64)] R := by
  apply disk_New_call
  unfold InI at hn
  simp only [disk_New, withJ]
  refine cnd_dec (fun h1 => hno (.inl h1)) (fun h1 => ?_)
  refine cnd_dec (fun h2 => hno (.inr (by omega))) (fun h2 => ?_)
  refine mkSl_row (by omega) (by omega) (by omega) (by omega) ?_
  intro h1 s1 r1 k1
  rw [zerosL_one] at r1
  refine newB_row ?_
  intro h2 s2 r2 k2
  have nob : ∀ b, ¬ blk none b := fun b hb => by obtain ⟨x, hx, _⟩ := hb; cases hx
  refine hyes (by omega) (by omega) h1.size (fun b => b = h1.size ∨ b = h.size) (fun _ => False) h2 (fun b hb => by rcases hb with (hb | hb) | hb; omega; omega; exact hb.elim) ?_ (k1.trans' k2)
  refine ⟨⟨h.size, n.toNat, List.replicate n.toNat (.slice none 0 0, noughts 256), none, 0, [], by simp, rfl, ?_, ?_, SlR.nil _ _, ?_, fun x hx => (by cases hx), .inl rfl, .inr rfl, fun b hb => absurd hb (nob b), by omega, nob _, nob _⟩,
    fun _ _ h => h, fun b hb => by rcases hb with (hb | hb) | hb; omega; omega; exact hb.elim, by simp; omega, by simp⟩
  · simpa using r2
  · refine .inr ⟨h.size, 0, _, rfl, k2.row r1 (fun h => h), by simp, by simp, by simp, by simp⟩
  · intro x hx
    have := List.eq_of_mem_replicate hx
    subst this
    exact ⟨noughts_size 256, .inl ⟨rfl, rfl⟩⟩

def write (m : M) (i : Int) (s : ByteArray) : Int × M :=
  if m.st = 2 then (50, m) else if i < 0 ∨ (m.l.length : Int) ≤ i ∨ s.size ≠ 256 then (1, m) else if (burn m).1 ≠ 0 then burn m else (0, { (burn m).2 with c := (burn m).2.c ++ [(i, s)] })

theorem burn_l (m : M) : (burn m).2.l = m.l ∧ (burn m).2.c = m.c := by
  unfold burn
  split
  · split <;> exact ⟨rfl, rfl⟩
  · exact ⟨rfl, rfl⟩

theorem burn_r (m : M) : (burn m).1 = 0 ∨ (burn m).1 = 50 := by
  unfold burn
  split
  · split
    · exact .inr rfl
    · exact .inl rfl
  · exact .inl rfl

/-- a device that went on: its blocks are old ones of its own or new -/
def Grew (h : Heap) (mu im mu' im' : Nat → Prop) : Prop := (∀ b, mu' b → mu b ∨ h.size ≤ b) ∧ (∀ b, im' b → im b ∨ h.size ≤ b)

theorem Grew.same (h : Heap) (mu im : Nat → Prop) : Grew h mu im mu im := ⟨fun _ h => .inl h, fun _ h => .inl h⟩

theorem write_spec {mu im : Nat → Prop} {h : Heap} {p : Nat} {m : M} (hr : Rep h p mu im m) {i : Int} (hi : InI i) {a : Option Addr} {l c : Nat} {s : ByteArray} (hb : Bs h a l c s) (hs : s.size ≤ 1000000000) (hc : m.c.length ≤ 1000000)
    (hfar : ∀ b, blk a b → ¬ mu b) {R : Int → Heap → Prop}
    (hk : ∀ mu' im' h', Rep h' p mu' im' (write m i s).2 → Keep mu h h' → Grew h mu im mu' im' → R (write m i s).1 h') :
    CallT Try.prog disk_Dev_Write_no [.pointer (some ⟨p, 0, none⟩), .int .i64 i, .slice a l c] h [.sc (.int .i64)] R := by
  have hcall := disk_Dev_Write_call (d_0 := some ⟨p, 0, none⟩) (i_1 := i) (b_2 := ⟨a, l, c⟩) (R := R) (h := h)
  apply hcall
  obtain ⟨⟨la, lc, c0⟩, _, c2, _⟩ := hr.cells
  have hlen := hb.len
  simp only [disk_Dev_Write, nn_eq, add_mk, Nat.zero_add, withJ]
  refine ldI_at c2 ?_
  unfold write at hk
  by_cases h2 : m.st = 2
  · rw [if_pos h2] at hk
    exact cnd_t (by simp [h2]) (hk mu im h hr (.refl _ _) (.same _ _ _))
  · rw [if_neg h2] at hk
    refine cnd_f (by simp [h2]) ?_
    by_cases hbad : i < 0 ∨ (m.l.length : Int) ≤ i ∨ s.size ≠ 256
    · rw [if_pos hbad] at hk
      have fin := hk mu im h hr (.refl _ _) (.same _ _ _)
      refine cnd_dec (fun _ => fin) (fun h3 => ?_)
      refine ldL_at c0 (cnd_dec (fun _ => fin) (fun h4 => ?_))
      exact cnd_t (by simp; omega) fin
    · rw [if_neg hbad] at hk
      refine cnd_neg (by omega) (ldL_at c0 (cnd_neg (by omega) (cnd_f (by simp; omega) ?_)))
      refine burn_spec hr ?_
      intro h3 r3 k3 s3
      by_cases hbz : (burn m).1 ≠ 0
      · rw [if_pos hbz] at hk
        exact cnd_t (by simpa using hbz) (hk mu im h3 r3 (k3.mono (fun y _ hy => by subst hy; exact hr.own)) (.same _ _ _))
      · rw [if_neg hbz] at hk
        refine cnd_f (by simpa using hbz) ?_
        obtain ⟨bl, bc⟩ := burn_l m
        obtain ⟨⟨ql, lcap, secs, ca, cc, cv, e1, e2, row, sl1, sl2, g1, g2, g3, g4, g5, g6, g7, g8⟩, dis, lt, le, fz⟩ := r3
        have hcv : cv.length = m.c.length := by rw [← bc, e2, List.length_map]
        have hsl : secs.length = m.l.length := by rw [← bl, e1, List.length_map]
        have hltp := lt p (.inl g3)
        have hltq := lt ql (.inl g4)
        have hltc : ∀ b, blk ca b → b < h3.size := fun b hb => lt b (.inl (g5 b hb))
        refine ldL_row row rfl ?_
        have hb3 : Bs h3 a l c s := hb.keep k3 (fun b hb' e => hfar b hb' (e ▸ hr.own))
        have hx : ∃ x, a = some x := by
          cases a with
          | none =>
            rcases hb with ⟨_, e, _⟩ | ⟨_, _, _, e, _⟩
            · omega
            · cases e
          | some x => exact ⟨x, rfl⟩
        obtain ⟨x, hx⟩ := hx
        refine cloneB_spec hx hb3 (by omega) ?_
        intro cap' bb h4 hbb1 hbb2 hbs4 k4
        have row4 := k4.row row (fun h => h)
        refine ⟨ldL_row row4 rfl rfl, ?_⟩
        refine newB_row ?_
        intro h5 s5 row5 k5
        have rowp5 := k5.row row4 (fun h => h)
        refine ⟨ldL_row rowp5 rfl rfl, ?_⟩
        refine ldRow_row row5 (by simp) ?_
        have hs34 := k4.size
        have sl2' := (sl2.keep k4 (fun _ _ h => h)).keep k5 (fun _ _ h => h)
        refine sl2'.app rfl (by simp) (by simp [Value.oneCell']) (by omega) ?_
        intro a' c' h6 q1 q2 q3
        have rowp6 := q2.row rowp5 g7
        refine stC_row rowp6 (by simp) rfl ?_
        intro h7 s7 row7 k7
        have hblk : ∀ b, blk a' b → blk ca b ∨ b = h5.size := by
          intro b hb'
          rcases q3 with ⟨rfl, _⟩ | ⟨rfl, _⟩
          · exact .inl hb'
          · rw [blk_some] at hb'
            exact .inr hb'.symm
        have hlt' : ∀ b, blk a' b → b < h7.size := by
          intro b hb'
          have := q1.blk_lt hb'
          omega
        have s6 := q2.size
        have kk : Keep mu h3 h7 := ((k4.trans' k5).mono (fun _ _ h => h.elim)).trans ((q2.mono (T := mu) (fun b _ hb' => g5 b hb')).trans k7 (fun b _ hb' => by
          have : b = p := hb'
          rw [this]; exact g3)) (fun _ _ h => h)
        have hbp : bb ≠ p := by omega
        have hl1 : (burn m).1 = 0 := by
          rcases burn_r m with h | h
          · exact h
          · exact absurd h (by omega)
        refine hk (fun b => mu b ∨ blk a' b) (fun b => im b ∨ b = bb) h7 ⟨⟨ql, lcap, secs, a', c', cv ++ [(i, .slice (some ⟨bb, 0, none⟩) l cap', s)], e1, by simp [e2], ?_, ?_, ?_, ?_, ?_, .inl g3, .inl g4, fun b hb' => .inr hb', g6, ?_, ?_⟩, ?_, ?_, le, fz⟩ ?_ ?_
        · rw [List.length_append, List.length_singleton]
          exact row7
        · exact (((sl1.keep k4 (fun _ _ h => h)).keep k5 (fun _ _ h => h)).keep q2 (fun b hb' hc' => by rw [blk_some] at hb'; subst hb'; exact g8 hc')).keep k7 (fun b hb' e => by rw [blk_some] at hb'; subst hb'; exact g6 e.symm)
        · rw [List.length_append, List.length_singleton, List.flatMap_append]
          have := q1.keep k7 (fun b hb' e => by
            have e' : b = p := e
            rcases hblk b hb' with hc' | hc'
            · exact g7 (e' ▸ hc')
            · omega)
          simpa [entV] using this
        · intro y hy
          exact ((g1 y hy).keep kk (fun b hb' hm => dis b hm hb')).mono (fun b hb' => .inl hb')
        · intro y hy
          rcases List.mem_append.1 hy with hy | hy
          · obtain ⟨w1, w2, w3, w4⟩ := g2 y hy
            exact ⟨w1, w2, (w3.keep kk (fun b hb' hm => dis b hm hb')).mono (fun b hb' => .inl hb'), w4⟩
          · simp only [List.mem_singleton] at hy
            subst hy
            have hl256 : l = 256 := by omega
            refine ⟨by simp only; omega, by simp only; omega, ⟨by simp only; omega, .inr ⟨bb, cap', by simp only [hl256], .inr rfl, ?_⟩⟩, by simp⟩
            rw [hl256] at hbs4
            exact ((hbs4.keep k5 (fun _ _ h => h)).keep q2 (fun b hb' hc' => by
              rw [blk_some] at hb'
              have := hltc b hc'
              simp only at hb'
              omega)).keep k7 (fun b hb' e => by
                rw [blk_some] at hb'
                have e' : b = p := e
                simp only at hb'
                omega)
        · intro hb'
          rcases hblk _ hb' with hc' | hc'
          · exact g7 hc'
          · omega
        · intro hb'
          rcases hblk _ hb' with hc' | hc'
          · exact g8 hc'
          · omega
        · rintro b (hm | hm) (hi' | hi')
          · exact dis b hm hi'
          · have := lt b (.inl hm); omega
          · rcases hblk b hm with hc' | hc'
            · exact dis b (g5 b hc') hi'
            · have := lt b (.inr hi'); omega
          · rcases hblk b hm with hc' | hc'
            · have := hltc b hc'; omega
            · omega
        · rintro b ((hm | hm) | (hi' | hi'))
          · have := lt b (.inl hm); omega
          · exact hlt' b hm
          · have := lt b (.inr hi'); omega
          · omega
        · exact (k3.mono (T := mu) (fun y _ hy => by
            have : y = p := hy
            rw [this]; exact hr.own)).trans kk (fun _ _ h => h)
        · have hs3 := k3.size
          refine ⟨fun b hb' => ?_, fun b hb' => ?_⟩
          · rcases hb' with hm | hm
            · exact .inl hm
            · rcases hblk b hm with hc' | hc'
              · exact .inl (g5 b hc')
              · exact .inr (by omega)
          · rcases hb' with hm | hm
            · exact .inl hm
            · exact .inr (by omega)

end Disk
namespace Disk

theorem flat2_get {α : Type} (f : α → List Value) (hf : ∀ x, (f x).length = 2) (l : List α) : ∀ (i : Nat) (x : α), l[i]? = some x → ∀ o, o < 2 → (l.flatMap f)[i * 2 + o]? = (f x)[o]? := by
  induction l with
  | nil => intro i x h; simp at h
  | cons y r ih =>
    intro i x h o ho
    rw [List.flatMap_cons]
    cases i with
    | zero =>
      simp only [List.getElem?_cons_zero, Option.some.injEq] at h
      subst h
      rw [Nat.zero_mul, Nat.zero_add, List.getElem?_append_left (by rw [hf]; exact ho)]
    | succ i =>
      simp only [List.getElem?_cons_succ] at h
      rw [List.getElem?_append_right (by rw [hf]; omega), hf, show (i + 1) * 2 + o - 2 = i * 2 + o by omega]
      exact ih i x h o ho

def ent (m : M) (j : Int) : Int × ByteArray := m.c.getD j.toNat (0, noughts 256)

/-- an entry of the cache is copied into a new cell row -/
theorem ent_spec {ty : TypeId} {mu im : Nat → Prop} {h : Heap} {p : Nat} {m : M} (hr : Rep h p mu im m) {ca : Option Addr} {lc cc : Nat} (hc : cellH h ⟨p, 1, none⟩ = some (.slice ca lc cc)) {j : Int} (h0 : 0 ≤ j) (h1 : j < m.c.length) {K : Addr → Heap → Prop}
    (hk : ∀ o l c h', Row h' h.size [.int .i64 (ent m j).1, .slice o l c] → Sec h' im (.slice o l c) (ent m j).2 → Value.slice o l c ≠ .slice none 0 0 → 0 ≤ (ent m j).1 → (ent m j).1 < m.l.length → Rep h' p mu im m → Keep (fun _ => False) h h' → h'.size = h.size + 1 → K ⟨h.size, 0, none⟩ h') :
    idx ca lc j fun a10 => ldI .i64 (a10.add (j.toNat * 2)) h fun n11 => ldL ((a10.add (j.toNat * 2)).add 1) h fun o12 l12 c12 => newB [.int .i64 0, .slice none 0 0] ty h fun a13 h14 => stC a13 (.int .i64 n11) h14 fun h15 => stC (a13.add 1) (.slice o12 l12 c12) h15 fun h16 => K a13 h16 := by
  have hr0 := hr
  obtain ⟨⟨ql, lcap, secs, ca', cc', cv, e1, e2, row, sl1, sl2, g1, g2, g3, g4, g5, g6, g7, g8⟩, dis, lt, le, fz⟩ := hr
  have hcell : cellH h ⟨p, 1, none⟩ = some (.slice ca' cv.length cc') := by rw [row.cells]; rfl
  rw [hcell] at hc
  injection hc with hc
  injection hc with w1 w2 w3
  subst w1 w2 w3
  have hcv : cv.length = m.c.length := by rw [e2, List.length_map]
  have hj : j.toNat < cv.length := by omega
  have hg : cv[j.toNat]? = some cv[j.toNat] := List.getElem?_eq_getElem hj
  have hent : ent m j = (cv[j.toNat].1, cv[j.toNat].2.2) := by
    unfold ent
    rw [List.getD_eq_getElem?_getD, e2, List.getElem?_map, hg]
    rfl
  obtain ⟨u1, u2, u3, u4⟩ := g2 _ (List.getElem_mem hj)
  rw [hent] at hk
  refine sl2.idx h0 (by omega) fun x hx hsp => ?_
  rw [hx] at sl2
  have c0 := flat2_get entV (fun _ => rfl) cv j.toNat _ hg 0 (by decide)
  have c1 := flat2_get entV (fun _ => rfl) cv j.toNat _ hg 1 (by decide)
  refine ldI_at (n := cv[j.toNat].1) (by rw [sl2.cell (by omega)]; exact c0) ?_
  rw [add_add hsp]
  obtain ⟨o, l, c, hv⟩ : ∃ o l c, cv[j.toNat].2.1 = .slice o l c := by
    obtain ⟨_, hh | ⟨b, c, hh, _⟩⟩ := u3
    · exact ⟨_, _, _, hh.1⟩
    · exact ⟨_, _, _, hh⟩
  refine ldL_at (x := o) (l := l) (c := c) (by rw [sl2.cell (by omega)]; rw [c1, ← hv]; rfl) ?_
  refine newB_row ?_
  intro h2 s2 n2 k2
  refine stC_row n2 (by simp) rfl ?_
  intro h3 s3 n3 k3
  rw [add_mk]
  refine stC_row n3 (by simp) rfl ?_
  intro h4 s4 n4 k4
  have kk : Keep (fun _ => False) h h4 := k2.trans (k3.trans' k4) (fun y hy hb => by
    have : y = h.size := hb
    omega)
  rw [hv] at u3 u4
  refine hk o l c h4 n4 (u3.keep kk (fun _ _ h => h)) u4 u1 (by rw [e1, List.length_map]; exact u2) (hr0.keep kk (fun _ _ h => h) (fun _ _ h => h)) kk (by omega)

/-- a sector is laid -/
theorem lay_spec {mu im : Nat → Prop} {h : Heap} {p : Nat} {m : M} (hr : Rep h p mu im m) {t : Nat} {i : Int} {o : Option Addr} {l c : Nat} {s : ByteArray} (ht : Row h t [.int .i64 i, .slice o l c]) (hs : Sec h im (.slice o l c) s) (h0 : 0 ≤ i) (h1 : i < m.l.length) {K : Heap → Prop}
    (hk : ∀ h', Rep h' p mu im { m with l := m.l.set i.toNat s } → Keep mu h h' → h'.size = h.size → cellH h' ⟨p, 1, none⟩ = cellH h ⟨p, 1, none⟩ → K h') :
    ldL ⟨p, 0, none⟩ h fun o18 l18 c18 => ldI .i64 ⟨t, 0, none⟩ h fun n19 => ldL ((⟨t, 0, none⟩ : Addr).add 1) h fun o20 l20 c20 => idx o18 l18 n19 fun a21 => stC (a21.add (n19.toNat * 1)) (.slice o20 l20 c20) h fun h22 => K h22 := by
  obtain ⟨⟨ql, lcap, secs, ca, cc, cv, e1, e2, row, sl1, sl2, g1, g2, g3, g4, g5, g6, g7, g8⟩, dis, lt, le, fz⟩ := hr
  have hl : m.l.length = secs.length := by rw [e1, List.length_map]
  refine ldL_row row rfl (ldI_row ht rfl ?_)
  rw [add_mk]
  refine ldL_row ht rfl ?_
  refine idx_some h0 (by omega) ?_
  rw [Nat.mul_one]
  refine sl1.set (by omega) rfl ?_
  intro h' s1 q1 q2
  have hq : Keep (· = ql) h h' := q2
  have hi : ∀ b, im b → ¬ (b = ql) := fun b hb e => dis ql g4 (e ▸ hb)
  refine hk h' ⟨⟨ql, lcap, secs.set i.toNat (.slice o l c, s), ca, cc, cv, by simp only [e1, List.map_set], e2, ?_, ?_, sl2.keep hq (fun b hb e => by
      have e' : b = ql := e
      exact g8 (e' ▸ hb)), ?_, ?_, g3, g4, g5, g6, g7, g8⟩, dis, fun b hb => by rw [s1]; exact lt b hb, by simpa using le, fz⟩ (hq.mono (fun b _ hb => by
      have : b = ql := hb
      rw [this]; exact g4)) s1 ?_
  · rw [List.length_set]; exact hq.row row g6
  · rw [List.length_set, List.map_set]; exact q1
  · intro x hx
    rcases List.mem_or_eq_of_mem_set hx with hx | rfl
    · exact (g1 x hx).keep hq hi
    · exact hs.keep hq hi
  · intro x hx
    obtain ⟨w1, w2, w3, w4⟩ := g2 x hx
    exact ⟨w1, by rw [List.length_set]; exact w2, w3.keep hq hi, w4⟩
  · rw [(hq.row row g6).cells, row.cells]

/-- all that waits is laid, in its order -/
def lays (l : List ByteArray) (c : List (Int × ByteArray)) : List ByteArray := c.foldl (fun l x => l.set x.1.toNat x.2) l

theorem lays_length (c : List (Int × ByteArray)) : ∀ l, (lays l c).length = l.length := by
  induction c with
  | nil => intro l; rfl
  | cons x c ih => intro l; unfold lays at *; rw [List.foldl_cons, ih, List.length_set]

theorem lays_snoc (l : List ByteArray) (c : List (Int × ByteArray)) (x : Int × ByteArray) : lays l (c ++ [x]) = (lays l c).set x.1.toNat x.2 := by simp [lays]

def flush (m : M) : Int × M := if m.st = 2 then (50, m) else if (burn m).1 ≠ 0 then burn m else (0, { (burn m).2 with l := lays m.l m.c, c := [] })

theorem flush_spec {mu im : Nat → Prop} {h : Heap} {p : Nat} {m : M} (hr : Rep h p mu im m) (hc : m.c.length ≤ 1000000) {R : Int → Heap → Prop}
    (hk : ∀ h', Rep h' p mu im (flush m).2 → Keep mu h h' → R (flush m).1 h') :
    CallT Try.prog disk_Dev_Flush_no [.pointer (some ⟨p, 0, none⟩)] h [.sc (.int .i64)] R := by
  apply disk_Dev_Flush_call
  obtain ⟨_, _, c2, _⟩ := hr.cells
  simp only [disk_Dev_Flush, nn_eq, add_mk, Nat.zero_add]
  refine ldI_at c2 ?_
  unfold flush at hk
  by_cases h2 : m.st = 2
  · rw [if_pos h2] at hk
    exact cnd_t (by simp [h2]) (hk h hr (.refl _ _))
  · rw [if_neg h2] at hk
    refine cnd_f (by simp [h2]) ?_
    refine burn_spec hr ?_
    intro h3 r3 k3 s3
    have k3' : Keep mu h h3 := k3.mono (fun y _ hy => by
      have : y = p := hy
      rw [this]; exact hr.own)
    by_cases hbz : (burn m).1 ≠ 0
    · rw [if_pos hbz] at hk
      exact cnd_t (by simpa using hbz) (hk h3 r3 k3')
    · rw [if_neg hbz] at hk
      refine cnd_f (by simpa using hbz) ?_
      obtain ⟨bl, bc⟩ := burn_l m
      obtain ⟨_, ⟨ca, cc, c1⟩, _⟩ := r3.cells
      rw [bc] at c1
      refine ldL_at c1 ?_
      refine LoopT.intro (fun j h' => 0 ≤ j ∧ j ≤ m.c.length ∧ Rep h' p mu im { (burn m).2 with l := lays m.l (m.c.take j.toNat) } ∧ Keep mu h3 h' ∧ cellH h' ⟨p, 1, none⟩ = some (.slice ca m.c.length cc)) (fun j _ => (m.c.length - j).toNat) ⟨by omega, by omega, ?_, .refl _ _, c1⟩ ?_
      · rw [show (0 : Int).toNat = 0 from rfl, List.take_zero]
        have : ({ (burn m).2 with l := lays m.l [] } : M) = (burn m).2 := by
          show ({ (burn m).2 with l := m.l } : M) = _
          rw [← bl]
        rw [this]; exact r3
      · rintro j h4 ⟨q1, q2, q3, q4, q5⟩
        refine cnd_dec (fun hj => ?_) (fun hj => ?_)
        · refine ent_spec (K := fun a13 h16 => ldL ⟨p, 0, none⟩ h16 fun o18 l18 c18 => ldI .i64 a13 h16 fun n19 => ldL (a13.add 1) h16 fun o20 l20 c20 => idx o18 l18 n19 fun a21 => stC (a21.add (n19.toNat * 1)) (.slice o20 l20 c20) h16 fun h22 => _) q3 q5 q1 (by simp only [bc]; omega) ?_
          intro o l c h5 n5 se ne i0 i1 r5 k5 s5
          refine lay_spec r5 n5 se i0 i1 ?_
          intro h6 r6 k6 s6 e6
          rw [w64_id (x := j + 1) (by omega) (by omega)]
          refine ⟨⟨by omega, by omega, ?_, q4.trans' ((k5.mono (fun _ _ h => h.elim)).trans' k6), ?_⟩, by omega⟩
          · have hjl : j.toNat < m.c.length := by omega
            have he : ent { (burn m).2 with l := lays m.l (m.c.take j.toNat) } j = m.c[j.toNat] := by
              unfold ent
              simp only [bc]
              rw [List.getD_eq_getElem?_getD, List.getElem?_eq_getElem hjl]; rfl
            rw [he] at r6
            have : m.c.take (j + 1).toNat = m.c.take j.toNat ++ [m.c[j.toNat]] := by
              rw [show (j + 1).toNat = j.toNat + 1 by omega, List.take_add_one, List.getElem?_eq_getElem hjl]; rfl
            rw [this, lays_snoc]
            exact r6
          · rw [e6]
            exact k5.cell q5 (fun h => h)
        · have hjl : j = m.c.length := by omega
          subst hjl
          rw [Int.toNat_natCast, List.take_length] at q3
          refine q3.noCache ?_
          intro h5 r5 k5 s5
          have e0 : (burn m).1 = 0 := by
            rcases burn_r m with h | h
            · exact h
            · exact absurd h (by omega)
          refine hk h5 r5 ((k3'.trans' q4).trans' (k5.mono (fun y _ hy => by
            have : y = p := hy
            rw [this]; exact hr.own)))

end Disk
/-- a slice of bools, their values known -/
def BoolsIs (h : Heap) (a : Option Addr) (l : Nat) (ks : List Bool) : Prop := ks.length = l ∧ ∀ i : Nat, i < l → ∃ x, a = some x ∧ cellH h (x.add (i * 1)) = some (.bool (ks.getD i false))

theorem BoolsIs.keep {S : Nat → Prop} {h h' : Heap} {a : Option Addr} {l : Nat} {ks : List Bool} (hs : BoolsIs h a l ks) (hk : Keep S h h') (hn : 0 < l → ∀ b, blk a b → ¬ S b) : BoolsIs h' a l ks := by
  refine ⟨hs.1, fun i hi => ?_⟩
  obtain ⟨x, h1, h2⟩ := hs.2 i hi
  refine ⟨x, h1, hk.cell h2 ?_⟩
  refine hn (by omega) _ ⟨x, h1, ?_⟩
  unfold Addr.add
  split <;> rfl

namespace Disk

/-- what a crash keeps -/
def kept : List (Int × ByteArray) → List Bool → List (Int × ByteArray)
  | x :: c, k :: ks => if k then x :: kept c ks else kept c ks
  | _, _ => []

theorem kept_succ : ∀ (c : List (Int × ByteArray)) (ks : List Bool) (j : Nat) (hj : j < c.length), kept (c.take (j + 1)) ks = kept (c.take j) ks ++ (if ks.getD j false then [c[j]] else [])
  | [], ks, j, hj => by simp at hj
  | x :: c, [], j, hj => by
    cases j <;> simp [kept]
  | x :: c, k :: ks, 0, hj => by
    cases k <;> simp [kept]
  | x :: c, k :: ks, j + 1, hj => by
    have := kept_succ c ks j (by simpa using hj)
    rw [List.take_succ_cons, List.take_succ_cons]
    simp only [kept, List.getD_cons_succ, List.getElem_cons_succ]
    rw [this]
    cases k <;> simp

def crash (m : M) (ks : List Bool) : M := ⟨lays m.l (kept m.c ks), [], 0, 0⟩

theorem crash_spec {mu im : Nat → Prop} {h : Heap} {p : Nat} {m : M} (hr : Rep h p mu im m) (hc : m.c.length ≤ 1000000) {a : Option Addr} {l c : Nat} {ks : List Bool} (hks : BoolsIs h a l ks) (hfar : 0 < l → ∀ b, blk a b → ¬ mu b) {R : Unit → Heap → Prop}
    (hk : ∀ h', Rep h' p mu im (crash m ks) → Keep mu h h' → R () h') :
    CallT Try.prog disk_Dev_Crash_no [.pointer (some ⟨p, 0, none⟩), .slice a l c] h [] R := by
  have hcall := disk_Dev_Crash_call (d_0 := some ⟨p, 0, none⟩) (keep_1 := ⟨a, l, c⟩) (R := R) (h := h)
  apply hcall
  obtain ⟨_, ⟨ca, cc, c1⟩, _⟩ := hr.cells
  simp only [disk_Dev_Crash, nn_eq, add_mk, Nat.zero_add]
  refine ldL_at c1 ?_
  have keepp : ∀ {h1 h2 : Heap}, Keep (· = p) h1 h2 → Keep mu h1 h2 := fun k => k.mono (fun y _ hy => by
    have : y = p := hy
    rw [this]; exact hr.own)
  refine LoopT.intro (fun j h' => 0 ≤ j ∧ j ≤ m.c.length ∧ Rep h' p mu im { m with l := lays m.l (kept (m.c.take j.toNat) ks) } ∧ Keep mu h h' ∧ cellH h' ⟨p, 1, none⟩ = some (.slice ca m.c.length cc)) (fun j _ => (m.c.length - j).toNat) ⟨by omega, by omega, ?_, .refl _ _, c1⟩ ?_
  · rw [show (0 : Int).toNat = 0 from rfl, List.take_zero]
    have : ({ m with l := lays m.l (kept [] ks) } : M) = m := by
      cases ks <;> rfl
    rw [this]; exact hr
  · rintro j h4 ⟨q1, q2, q3, q4, q5⟩
    refine cnd_dec (fun hj => ?_) (fun hj => ?_)
    · refine withJ.inl ?_
      refine ent_spec (K := fun a13 h16 => withJ (σ := Bool) _ _) q3 q5 q1 hj ?_
      intro o lo co h5 n5 se ne i0 i1 r5 k5 s5
      have hjl : j.toNat < m.c.length := by omega
      have he : ent { m with l := lays m.l (kept (m.c.take j.toNat) ks) } j = m.c[j.toNat] := by
        unfold ent
        rw [List.getD_eq_getElem?_getD, List.getElem?_eq_getElem hjl]; rfl
      rw [he] at n5 se i0 i1
      have ks5 := hks.keep (q4.trans' (k5.mono (fun _ _ h => h.elim))) hfar
      have stp : m.c.take (j + 1).toNat = m.c.take (j.toNat + 1) := by rw [show (j + 1).toNat = j.toNat + 1 by omega]
      have hw : w64 (j + 1) = j + 1 := w64_id (by omega) (by omega)
      refine withJ.intro (fun s h' => h' = h5 ∧ s = ks.getD j.toNat false) ?_ ?_
      · rintro s h' ⟨rfl, hs⟩
        cases s
        · refine cnd_f rfl ?_
          show (0 ≤ w64 (j + 1) ∧ _) ∧ _
          rw [hw]
          refine ⟨⟨by omega, by omega, ?_, q4.trans' (k5.mono (fun _ _ h => h.elim)), k5.cell q5 (fun h => h)⟩, by omega⟩
          rw [stp, kept_succ _ _ _ hjl, ← hs]
          simpa using r5
        · refine cnd_t rfl ?_
          refine lay_spec r5 n5 se i0 i1 ?_
          intro h6 r6 k6 s6 e6
          show (0 ≤ w64 (j + 1) ∧ _) ∧ _
          rw [hw]
          refine ⟨⟨by omega, by omega, ?_, q4.trans' ((k5.mono (fun _ _ h => h.elim)).trans' k6), by rw [e6]; exact k5.cell q5 (fun h => h)⟩, by omega⟩
          rw [stp, kept_succ _ _ _ hjl, ← hs]
          rw [if_pos rfl, lays_snoc]
          exact r6
      · intro J hJ
        refine cnd_dec (fun hjk => ?_) (fun hjk => ?_)
        · obtain ⟨x, hx, hcell⟩ := ks5.2 j.toNat (by have : j < (l : Int) := hjk; omega)
          show idx a l j _
          rw [hx]
          refine idx_some q1 hjk (ldB_at hcell ?_)
          exact hJ _ _ ⟨rfl, rfl⟩
        · refine hJ _ _ ⟨rfl, ?_⟩
          have hlk : ks.length ≤ j.toNat := by
            have : ¬ j < (l : Int) := hjk
            have := hks.1
            omega
          rw [List.getD_eq_getElem?_getD, List.getElem?_eq_none hlk]; rfl
    · have hjl : j = m.c.length := by omega
      subst hjl
      rw [Int.toNat_natCast, List.take_length] at q3
      refine q3.noCache ?_
      intro h5 r5 k5 s5
      refine r5.setSt ?_
      intro h6 r6 k6 s6
      refine r6.setFuse (by omega) ?_
      intro h7 r7 k7 s7
      exact hk h7 r7 (q4.trans' ((keepp k5).trans' ((keepp k6).trans' (keepp k7))))

/-- a sector is copied over a buffer -/
theorem copy_sec {im : Nat → Prop} {h : Heap} {o : Option Addr} {l c b : Nat} {s s0 : ByteArray} (hs : Sec h im (.slice o l c) s) (hb : Bs h (some ⟨b, 0, none⟩) 256 256 s0) (h0 : Value.slice o l c = .slice none 0 0 → s0 = noughts 256) {K : Heap → Prop}
    (hk : ∀ h', Bs h' (some ⟨b, 0, none⟩) 256 256 s → Keep (· = b) h h' → h'.size = h.size → K h') :
    rdCells o ((Nat.min l ((256 : Int).toNat)) * 1) h fun cs => wrRow cs (some ⟨b, 0, none⟩) h K := by
  obtain ⟨h1, ⟨h2, h3⟩ | ⟨b', c', h2, h3, h4⟩⟩ := hs
  · have hz := h0 h2
    injection h2 with e1 e2 e3
    subst e1 e2 e3 hz h3
    unfold rdCells
    refine SlR.over hb (by simp) (by simp) ?_
    intro h' w1 w2 w3
    exact hk h' (by unfold Bs; simpa using w2) w3 w1
  · injection h2 with e1 e2 e3
    subst e1 e2 e3
    refine SlR.rd (l := 256) h4 ?_
    have hl : (bytesV s).length = 256 := by rw [bytesV_length, h1]
    refine SlR.over hb (by omega) (bytesV_one s) ?_
    intro h' w1 w2 w3
    refine hk h' ?_ w3 w1
    have hl0 : (bytesV s0).length = 256 := by have := SlR.len hb; omega
    rw [hl, List.drop_of_length_le (by omega), List.append_nil] at w2
    exact w2

def readAt (m : M) (i : Int) : ByteArray := m.c.foldl (fun s x => if x.1 = i then x.2 else s) (m.l.getD i.toNat (noughts 256))

def readErr (m : M) (i : Int) : Int := if m.st = 2 then 50 else if i < 0 ∨ (m.l.length : Int) ≤ i then 1 else 0

theorem read_spec {mu im : Nat → Prop} {h : Heap} {p : Nat} {m : M} (hr : Rep h p mu im m) (hc : m.c.length ≤ 1000000) {i : Int} (hi : InI i) {R : Sl × Int → Heap → Prop}
    (hbad : readErr m i ≠ 0 → R (⟨none, 0, 0⟩, readErr m i) h)
    (hk : readErr m i = 0 → ∀ b h', h.size ≤ b → b < h'.size → Bs h' (some ⟨b, 0, none⟩) 256 256 (readAt m i) → Rep h' p mu im m → Keep (fun _ => False) h h' → R (⟨some ⟨b, 0, none⟩, 256, 256⟩, 0) h') :
    CallT Try.prog disk_Dev_Read_no [.pointer (some ⟨p, 0, none⟩), .int .i64 i] h [.sc .sl, .sc (.int .i64)] R := by
  apply disk_Dev_Read_call
  obtain ⟨⟨la, lc, c0⟩, ⟨ca, cc, c1⟩, c2, _⟩ := hr.cells
  simp only [disk_Dev_Read, nn_eq, add_mk, Nat.zero_add]
  refine ldI_at c2 ?_
  unfold readErr at hbad hk
  by_cases h2 : m.st = 2
  · rw [if_pos h2] at hbad
    exact cnd_t (by simp [h2]) (hbad (by decide))
  · rw [if_neg h2] at hbad hk
    refine cnd_f (by simp [h2]) (withJ.inl (withJ.inl ?_))
    by_cases hb : i < 0 ∨ (m.l.length : Int) ≤ i
    · rw [if_pos hb] at hbad
      have fin := hbad (by decide)
      refine cnd_dec (fun _ => cnd_t rfl fin) (fun h3 => ldL_at c0 (cnd_t ?_ fin))
      simp only [decide_eq_true_eq]; omega
    · rw [if_neg hb] at hk
      have hk := hk rfl
      refine cnd_neg (by omega) (ldL_at c0 (cnd_neg (by omega) ?_))
      refine mkBytes (by decide) (by decide) ?_
      intro h3 s3 b3 k3
      have r3 := hr.keep k3 (fun _ _ h => h) (fun _ _ h => h)
      have r3' := r3
      obtain ⟨⟨ql, lcap, secs, ca', cc', cv, e1, e2, row, sl1, sl2, g1, g2, g3, g4, g5, g6, g7, g8⟩, dis, lt, le, fz⟩ := r3'
      have hl : m.l.length = secs.length := by rw [e1, List.length_map]
      have hfar : ∀ b, mu b ∨ im b → ¬ (b = h.size) := fun b hb' e => by have := hr.lt b hb'; omega
      refine ldL_row row rfl ?_
      refine idx_some (by omega) (by omega) ?_
      rw [add_mk, Nat.zero_add, Nat.mul_one]
      have hil : i.toNat < secs.length := by omega
      have hsec := g1 _ (List.getElem_mem hil)
      obtain ⟨o, l, c, hv⟩ : ∃ o l c, secs[i.toNat].1 = .slice o l c := by
        obtain ⟨_, hh | ⟨b, c, hh, _⟩⟩ := hsec
        · exact ⟨_, _, _, hh.1⟩
        · exact ⟨_, _, _, hh⟩
      have hcell : cellH h3 ⟨ql, i.toNat, none⟩ = some (.slice o l c) := by
        have := sl1.cell (i := i.toNat) (by omega)
        rw [add_mk, Nat.zero_add] at this
        rw [this, List.getElem?_map, List.getElem?_eq_getElem hil, ← hv]; rfl
      refine ldL_at hcell ?_
      rw [hv] at hsec
      refine copy_sec hsec b3 (fun _ => rfl) ?_
      intro h4 b4 k4 s4
      have kk4 : Keep (fun _ => False) h h4 := k3.trans k4 (fun y hy hb' => by
        have : y = h.size := hb'
        omega)
      have r4 := hr.keep kk4 (fun _ _ h => h) (fun _ _ h => h)
      refine ldL_at (kk4.cell c1 (fun h => h)) ?_
      refine LoopT.intro (fun j h' => 0 ≤ j ∧ j ≤ m.c.length ∧ Bs h' (some ⟨h.size, 0, none⟩) 256 256 ((m.c.take j.toNat).foldl (fun s x => if x.1 = i then x.2 else s) (m.l.getD i.toNat (noughts 256))) ∧ Keep (fun _ => False) h h' ∧ h.size < h'.size) (fun j _ => (m.c.length - j).toNat) ⟨by omega, by omega, ?_, kk4, by omega⟩ ?_
      · have : m.l.getD i.toNat (noughts 256) = secs[i.toNat].2 := by
          rw [List.getD_eq_getElem?_getD, e1, List.getElem?_map, List.getElem?_eq_getElem hil]; rfl
        rw [show (0 : Int).toNat = 0 from rfl, List.take_zero, this]
        exact b4
      · rintro j h5 ⟨q1, q2, q3, q4, q5⟩
        have r5 := hr.keep q4 (fun _ _ h => h) (fun _ _ h => h)
        refine cnd_dec (fun hj => ?_) (fun hj => ?_)
        · refine withJ.inl ?_
          refine ent_spec (K := fun a13 h16 => ldI .i64 a13 h16 fun n29 => _) r5 (q4.cell c1 (fun h => h)) q1 hj ?_
          intro o lo co h6 n6 se ne i0 i1 r6 k6 s6
          have hjl : j.toNat < m.c.length := by omega
          have he : ent m j = m.c[j.toNat] := by
            unfold ent
            rw [List.getD_eq_getElem?_getD, List.getElem?_eq_getElem hjl]; rfl
          have stp : m.c.take (j + 1).toNat = m.c.take j.toNat ++ [m.c[j.toNat]] := by
            rw [show (j + 1).toNat = j.toNat + 1 by omega, List.take_add_one, List.getElem?_eq_getElem hjl]; rfl
          have hw : w64 (j + 1) = j + 1 := w64_id (by omega) (by omega)
          rw [he] at n6 se
          have b6 := q3.keep k6 (fun _ _ h => h)
          refine ldI_row n6 rfl ?_
          by_cases hji : m.c[j.toNat].1 = i
          · refine cnd_t (by simp [hji]) ?_
            rw [add_mk]
            refine ldL_row n6 rfl ?_
            refine copy_sec se b6 (fun e => absurd e ne) ?_
            intro h7 b7 k7 s7
            show (0 ≤ w64 (j + 1) ∧ _) ∧ _
            rw [hw, stp, List.foldl_append]
            refine ⟨⟨by omega, by omega, ?_, (q4.trans' k6).trans k7 (fun y hy hb' => by
              have : y = h.size := hb'
              omega), by omega⟩, by omega⟩
            simp only [List.foldl_cons, List.foldl_nil, hji, if_true]
            exact b7
          · refine cnd_f (by simp [hji]) ?_
            show (0 ≤ w64 (j + 1) ∧ _) ∧ _
            rw [hw, stp, List.foldl_append]
            refine ⟨⟨by omega, by omega, ?_, q4.trans' k6, by omega⟩, by omega⟩
            simp only [List.foldl_cons, List.foldl_nil, hji, if_false]
            exact b6
        · have hjl : j = m.c.length := by omega
          subst hjl
          rw [Int.toNat_natCast, List.take_length] at q3
          exact hk h.size h5 (Nat.le_refl _) q5 q3 r5 q4

end Disk
namespace Disk

theorem write_len (m : M) (i : Int) (s : ByteArray) : (write m i s).2.l.length = m.l.length ∧ (write m i s).2.c.length ≤ m.c.length + 1 := by
  obtain ⟨b1, b2⟩ := burn_l m
  unfold write
  split
  · exact ⟨rfl, Nat.le_succ _⟩
  · split
    · exact ⟨rfl, Nat.le_succ _⟩
    · split
      · rw [b1, b2]; exact ⟨rfl, Nat.le_succ _⟩
      · simp only [b1, b2, List.length_append, List.length_singleton]; exact ⟨trivial, Nat.le_refl _⟩
theorem flush_len (m : M) : (flush m).2.l.length = m.l.length ∧ (flush m).2.c.length ≤ m.c.length + 1 := by
  obtain ⟨b1, b2⟩ := burn_l m
  unfold flush
  split
  · exact ⟨rfl, Nat.le_succ _⟩
  · split
    · rw [b1, b2]; exact ⟨rfl, Nat.le_succ _⟩
    · simp only [lays_length, List.length_nil]; exact ⟨trivial, by omega⟩
theorem crash_len (m : M) (ks : List Bool) : (crash m ks).l.length = m.l.length ∧ (crash m ks).c.length ≤ m.c.length + 1 := by
  unfold crash
  simp only [lays_length, List.length_nil]; exact ⟨trivial, by omega⟩
theorem fuse_len (m : M) (k : Int) : (fuse m k).l.length = m.l.length ∧ (fuse m k).c.length ≤ m.c.length + 1 := by
  unfold fuse
  split
  · exact ⟨rfl, Nat.le_succ _⟩
  · split <;> exact ⟨rfl, Nat.le_succ _⟩
theorem fuse_lc (m : M) (k : Int) : (fuse m k).l = m.l ∧ (fuse m k).c = m.c := by
  unfold fuse
  split
  · exact ⟨rfl, rfl⟩
  · split <;> exact ⟨rfl, rfl⟩
theorem maxI_m1 (k : Int) : maxI k (-1) = if k < 0 then -1 else k := by
  unfold maxI
  by_cases h : k < 0
  · rw [if_pos h]
    by_cases h2 : k = -1
    · rw [if_neg (by omega)]; exact h2
    · rw [if_pos (by omega)]
  · rw [if_neg h, if_neg (by omega)]

theorem burn_st (m : M) : (burn m).1 = 0 → (burn m).2.st = m.st := by
  unfold burn
  split
  · split
    · intro h; simp at h
    · intro _; rfl
  · intro _; rfl

end Disk
namespace Disk

theorem write_c (m : M) (i : Int) (s : ByteArray) : (write m i s).2.l = m.l ∧ ((write m i s).1 = 0 → (write m i s).2.c = m.c ++ [(i, s)]) ∧ ((write m i s).1 ≠ 0 → (write m i s).2.c = m.c) := by
  obtain ⟨b1, b2⟩ := burn_l m
  unfold write
  split
  · exact ⟨rfl, fun h => absurd h (by simp), fun _ => rfl⟩
  · split
    · exact ⟨rfl, fun h => absurd h (by simp), fun _ => rfl⟩
    · split
      · rename_i hb
        exact ⟨b1, fun h => absurd h hb, fun _ => b2⟩
      · exact ⟨b1, fun _ => by simp only [b2], fun h => absurd rfl h⟩
theorem flush_c (m : M) : ((flush m).1 = 0 → (flush m).2.l = lays m.l m.c ∧ (flush m).2.c = []) ∧ ((flush m).1 ≠ 0 → (flush m).2.l = m.l ∧ (flush m).2.c = m.c) := by
  obtain ⟨b1, b2⟩ := burn_l m
  unfold flush
  split
  · exact ⟨fun h => absurd h (by simp), fun _ => ⟨rfl, rfl⟩⟩
  · split
    · rename_i hb
      exact ⟨fun h => absurd h hb, fun _ => ⟨b1, b2⟩⟩
    · exact ⟨fun _ => ⟨rfl, rfl⟩, fun h => absurd rfl h⟩
theorem flush_alive0 {m : M} (h : m.st = 0) : flush m = (0, { m with l := lays m.l m.c, c := [] }) := by
  have hb : burn m = (0, m) := by unfold burn; rw [if_neg (by omega)]
  unfold flush
  rw [if_neg (by omega), hb]
  rfl

/-- what is seen at i where z lasts and c waits -/
def lk (c : List (Int × ByteArray)) (i : Int) (z : ByteArray) : ByteArray := c.foldl (fun s x => if x.1 = i then x.2 else s) z
/-- what lasts at i -/
def sec (l : List ByteArray) (i : Int) : ByteArray := l.getD i.toNat (noughts 256)
theorem readAt_lk (m : M) (i : Int) : readAt m i = lk m.c i (sec m.l i) := rfl
theorem lk_append (c d : List (Int × ByteArray)) (i : Int) (z : ByteArray) : lk (c ++ d) i z = lk d i (lk c i z) := by simp [lk]
theorem lk_one (x : Int × ByteArray) (i : Int) (z : ByteArray) : lk [x] i z = if x.1 = i then x.2 else z := rfl
theorem lk_nil (i : Int) (z : ByteArray) : lk [] i z = z := rfl
theorem lk_far {c : List (Int × ByteArray)} {i : Int} (h : ∀ x ∈ c, x.1 ≠ i) (z : ByteArray) : lk c i z = z := by
  induction c generalizing z with
  | nil => rfl
  | cons x c ih =>
    show lk c i (if x.1 = i then x.2 else z) = z
    rw [if_neg (h x (by simp)), ih (fun y hy => h y (by simp [hy]))]

theorem sec_set {l : List ByteArray} {k : Int} {v : ByteArray} {i : Int} (hk : 0 ≤ k) (h0 : 0 ≤ i) (h1 : i < l.length) : sec (l.set k.toNat v) i = if k = i then v else sec l i := by
  unfold sec
  by_cases e : k = i
  · subst e
    rw [if_pos rfl, List.getD_eq_getElem?_getD, List.getElem?_set, if_pos rfl, if_pos (by omega)]; rfl
  · rw [if_neg e, List.getD_eq_getElem?_getD, List.getElem?_set_ne (by omega), ← List.getD_eq_getElem?_getD]

theorem lays_lk {i : Int} (h0 : 0 ≤ i) : ∀ (c : List (Int × ByteArray)) (l : List ByteArray), (∀ x ∈ c, 0 ≤ x.1) → i < l.length → sec (lays l c) i = lk c i (sec l i)
  | [], l, _, _ => rfl
  | x :: c, l, hk, h1 => by
    show sec (lays (l.set x.1.toNat x.2) c) i = lk c i (if x.1 = i then x.2 else sec l i)
    rw [lays_lk h0 c _ (fun y hy => hk y (by simp [hy])) (by rw [List.length_set]; exact h1), sec_set (hk x (by simp)) h0 h1]

/-- what may be seen at i behind a crash -/
def Poss (m : M) (i : Int) (s : ByteArray) : Prop := s = sec m.l i ∨ ∃ x ∈ m.c, x.1 = i ∧ x.2 = s

theorem kept_sub : ∀ (c : List (Int × ByteArray)) (ks : List Bool) (x : Int × ByteArray), x ∈ kept c ks → x ∈ c
  | [], ks, x, h => by cases ks <;> simp [kept] at h
  | y :: c, [], x, h => by simp [kept] at h
  | y :: c, k :: ks, x, h => by
    unfold kept at h
    split at h
    · rcases List.mem_cons.1 h with e | e
      · subst e; simp
      · exact List.mem_cons_of_mem _ (kept_sub c ks x e)
    · exact List.mem_cons_of_mem _ (kept_sub c ks x h)

theorem lk_or (i : Int) : ∀ (c : List (Int × ByteArray)) (z : ByteArray), lk c i z = z ∨ ∃ x ∈ c, x.1 = i ∧ x.2 = lk c i z
  | [], z => .inl rfl
  | y :: c, z => by
    show lk c i (if y.1 = i then y.2 else z) = z ∨ ∃ x ∈ y :: c, x.1 = i ∧ x.2 = lk c i (if y.1 = i then y.2 else z)
    rcases lk_or i c (if y.1 = i then y.2 else z) with h | ⟨x, hx, h1, h2⟩
    · by_cases e : y.1 = i
      · rw [if_pos e] at h ⊢
        exact .inr ⟨y, by simp, e, h.symm⟩
      · rw [if_neg e] at h ⊢
        exact .inl h
    · exact .inr ⟨x, List.mem_cons_of_mem _ hx, h1, h2⟩

theorem crash_poss {m : M} (ks : List Bool) {i : Int} (h0 : 0 ≤ i) (h1 : i < m.l.length) (hk : ∀ x ∈ m.c, 0 ≤ x.1) : Poss m i (readAt (crash m ks) i) := by
  have e : readAt (crash m ks) i = lk (kept m.c ks) i (sec m.l i) := lays_lk h0 _ _ (fun x hx => hk x (kept_sub _ _ _ hx)) h1
  rw [e]
  rcases lk_or i (kept m.c ks) (sec m.l i) with h | ⟨x, hx, h2, h3⟩
  · exact .inl h
  · exact .inr ⟨x, kept_sub _ _ _ hx, h2, h3⟩

theorem flush_view {m : M} (hf : (flush m).1 = 0) {i : Int} (h0 : 0 ≤ i) (h1 : i < m.l.length) (hk : ∀ x ∈ m.c, 0 ≤ x.1) : sec (flush m).2.l i = readAt m i := by
  rw [((flush_c m).1 hf).1]
  exact lays_lk h0 _ _ hk h1

end Disk
namespace Enc

/-- the i-th of a number's eight bytes -/
def b64 (n i : Nat) : UInt8 := UInt8.ofNat (n >>> (56 - 8 * i))
def p64 (n : Nat) : List UInt8 := (List.range 8).map (b64 n)
def g64 (bs : List UInt8) : Nat := bs.foldl (fun n b => n * 256 + b.toNat) 0
theorem p64_length (n : Nat) : (p64 n).length = 8 := by simp [p64]

theorem b64_val {n : Nat} {s : Nat} (hs : s ≤ 64) : Value.int .u8 (IntKind.u8.wrap (shrI .u64 (n : Int) (s : Int))) = byteV (UInt8.ofNat (n >>> s)) := by
  rw [shrI_nat (by exact hs)]
  unfold byteV
  congr 1

theorem put64_spec {h : Heap} {n : Nat} {R : Sl → Heap → Prop} (hk : ∀ h', Bl h' (some ⟨h.size, 0, none⟩) 8 8 (p64 n) → Keep (fun _ => False) h h' → h'.size = h.size + 1 → R ⟨some ⟨h.size, 0, none⟩, 8, 8⟩ h') :
    CallT Try.prog enc_Put64_no [.int .u64 (n : Int)] h [.sc .sl] R := by
  apply enc_Put64_call
  simp only [enc_Put64]
  refine mkSl_row (by decide) (by decide) (by decide) (by decide) ?_
  intro h1 s1 r1 k1
  refine LoopT.intro (fun i h' => 0 ≤ i ∧ i ≤ 8 ∧ Row h' h.size ((List.range 8).map fun j => if j < i.toNat then byteV (b64 n j) else .int .u8 0) ∧ Keep (fun _ => False) h h' ∧ h'.size = h.size + 1) (fun i _ => (8 - i).toNat) ⟨by omega, by omega, r1, k1, s1⟩ ?_
  rintro i h2 ⟨q1, q2, q3, q4, q5⟩
  refine cnd_dec (fun hi => ?_) (fun hi => ?_)
  · replace hi : i < 8 := hi
    have w1 : w64 (8 * i) = 8 * i := w64_id (by omega) (by omega)
    have w2 : w64 (56 - 8 * i) = ((56 - 8 * i.toNat : Nat) : Int) := by rw [w64_id (by omega) (by omega)]; omega
    rw [w1, w2]
    refine geZ_of (by omega) (idx_some q1 hi ?_)
    rw [b64_val (by omega), add_mk, Nat.zero_add, Nat.mul_one]
    refine stC_row q3 (by simp; omega) rfl ?_
    intro h3 s3 r3 k3
    rw [w64_id (x := i + 1) (by omega) (by omega)]
    refine ⟨⟨by omega, by omega, ?_, q4.trans k3 (fun y hy e => by
      have e' : y = h.size := e
      omega), by omega⟩, by omega⟩
    rw [show (i + 1).toNat = i.toNat + 1 by omega]
    have el : ((List.range 8).map fun j => if j < i.toNat then byteV (b64 n j) else Value.int .u8 0).set i.toNat (byteV (UInt8.ofNat (n >>> (56 - 8 * i.toNat)))) = (List.range 8).map fun j => if j < i.toNat + 1 then byteV (b64 n j) else Value.int .u8 0 := by
      apply List.ext_getElem?
      intro j
      rw [List.getElem?_set, List.length_map, List.length_range, List.getElem?_map, List.getElem?_map]
      by_cases hj : j < 8
      · rw [List.getElem?_range hj]
        simp only [Option.map_some]
        by_cases hij : i.toNat = j
        · rw [if_pos hij, if_pos (by omega), if_pos (by omega), ← hij]; rfl
        · rw [if_neg hij]
          by_cases h6 : j < i.toNat
          · rw [if_pos h6, if_pos (by omega)]
          · rw [if_neg h6, if_neg (by omega)]
      · rw [if_neg (by omega), List.getElem?_eq_none (by simp; omega)]
        simp
    rw [← el]
    exact r3
  · have hi8 : i = 8 := by
      have : ¬ i < (8 : Int) := hi
      omega
    subst hi8
    refine hk h2 (.inr ⟨h.size, 0, _, rfl, q3, by simp, by simp, by simp [p64], ?_⟩) q4 q5
    rw [List.drop_zero, List.take_of_length_le (by simp)]
    unfold p64
    rw [List.map_map]
    apply List.map_congr_left
    intro j hj
    rw [List.mem_range] at hj
    rw [if_pos (by simpa using hj)]
    rfl

theorem shl8 {n : Nat} (hn : n < 2 ^ 56) (b : UInt8) : orI .u64 (shlI .u64 (n : Int) 8) (IntKind.u64.wrap (b.toNat : Int)) = ((n * 256 + b.toNat : Nat) : Int) := by
  have hb := b.toNat_lt
  have e1 : shlI .u64 (n : Int) 8 = ((n <<< 8 : Nat) : Int) := by
    unfold shlI
    rw [show min (8 : Int).toNat IntKind.u64.bits = 8 from rfl, wrap_u64_id (by omega) (by omega), Nat.shiftLeft_eq]
    omega
  have e2 : IntKind.u64.wrap (b.toNat : Int) = b.toNat := wrap_u64_id (by omega) (by omega)
  rw [e1, e2]
  unfold orI
  rw [BitVec.toNat_or]
  simp only [IntKind.bits]
  rw [ofInt_nat (by rw [Nat.shiftLeft_eq]; omega), ofInt_nat (by omega)]
  have e := Nat.shiftLeft_add_eq_or_of_lt (i := 8) (b := b.toNat) (by omega) n
  rw [← e, Nat.shiftLeft_eq, wrap_u64_id (by omega) (by omega)]

theorem g64_lt : ∀ (bs : List UInt8), g64 bs < 2 ^ (8 * bs.length) := by
  have key : ∀ (bs : List UInt8) (n k : Nat), n < 2 ^ (8 * k) → bs.foldl (fun n b => n * 256 + b.toNat) n < 2 ^ (8 * (k + bs.length)) := by
    intro bs
    induction bs with
    | nil => intro n k h; simpa using h
    | cons b r ih =>
      intro n k h
      have hb := b.toNat_lt
      have := ih (n * 256 + b.toNat) (k + 1) (by
        rw [show 8 * (k + 1) = 8 * k + 8 by omega, Nat.pow_add]
        omega)
      simp only [List.foldl_cons, List.length_cons]
      rw [show k + (r.length + 1) = k + 1 + r.length by omega]
      exact this
  intro bs
  have := key bs 0 0 (by decide)
  rw [Nat.zero_add] at this
  exact this

set_option maxRecDepth 20000 in
theorem get64_spec {h : Heap} {a : Option Addr} {c : Nat} {bs : List UInt8} (hb : Rb h a 8 bs) {R : Int × Bool → Heap → Prop} (hk : R ((g64 bs : Int), true) h) :
    CallT Try.prog enc_Get64_no [.slice a 8 c] h [.sc (.int .u64), .sc .bool] R := by
  have hcall := enc_Get64_call (b_0 := ⟨a, 8, c⟩) (R := R) (h := h)
  apply hcall
  simp only [enc_Get64]
  have hlen := hb.len
  refine cnd_f rfl ?_
  refine LoopT.intro (fun (t : Int × Int) h' => h' = h ∧ 0 ≤ t.2 ∧ t.2 ≤ 8 ∧ t.1 = (g64 (bs.take t.2.toNat) : Int)) (fun t _ => (8 - t.2).toNat) ⟨rfl, by simp, by simp, rfl⟩ ?_
  rintro ⟨x, i⟩ h' ⟨rfl, q1, q2, q3⟩
  replace q1 : 0 ≤ i := q1
  replace q2 : i ≤ 8 := q2
  obtain ⟨z, hz⟩ : ∃ z, z = g64 (bs.take i.toNat) := ⟨_, rfl⟩
  replace q3 : x = (z : Int) := by rw [hz]; exact q3
  subst q3
  refine cnd_dec (fun hi => ?_) (fun hi => ?_)
  · replace hi : i < 8 := hi
    refine hb.at q1 (by omega) ?_
    intro b hbb
    have hw : w64 (i + 1) = i + 1 := w64_id (by omega) (by omega)
    have hzl := g64_lt (bs.take i.toNat)
    rw [← hz, List.length_take] at hzl
    have hz56 : z < 2 ^ 56 := Nat.lt_of_lt_of_le hzl (Nat.pow_le_pow_right (by decide) (by omega))
    show (h' = h' ∧ 0 ≤ w64 (i + 1) ∧ w64 (i + 1) ≤ 8 ∧ orI .u64 (shlI .u64 (z : Int) 8) (IntKind.u64.wrap (b.toNat : Int)) = (g64 (bs.take (w64 (i + 1)).toNat) : Int)) ∧ (8 - w64 (i + 1)).toNat < (8 - i).toNat
    rw [hw, shl8 hz56, show (i + 1).toNat = i.toNat + 1 by omega]
    refine ⟨⟨rfl, by omega, by omega, ?_⟩, by omega⟩
    unfold g64
    rw [foldl_take _ _ _ _ b hbb]
    congr 1
    rw [hz]
    rfl
  · have hi8 : i = 8 := by
      have : ¬ i < (8 : Int) := hi
      omega
    subst hi8
    show R ((z : Int), true) h'
    rw [hz, List.take_of_length_le (by simp; omega)]
    exact hk

end Enc
def boolsOf (h : Heap) (a : Option Addr) (l : Nat) : List Bool := (List.range l).map fun i => match a with | some x => (match cellH h (x.add (i * 1)) with | some (.bool z) => z | _ => false) | none => false

theorem BoolsAt.is {h : Heap} {a : Option Addr} {l : Nat} (hs : BoolsAt h a l) : BoolsIs h a l (boolsOf h a l) := by
  refine ⟨by simp [boolsOf], fun i hi => ?_⟩
  obtain ⟨x, z, h2, h3⟩ := hs i hi
  refine ⟨x, h2, ?_⟩
  unfold boolsOf
  rw [List.getD_eq_getElem?_getD, List.getElem?_map, List.getElem?_range hi, h2]
  simp only [Option.map_some, Option.getD_some, h3]

theorem BoolsAt.lt {h : Heap} {a : Option Addr} {l : Nat} (hs : BoolsAt h a l) (hl : 0 < l) {b : Nat} (hb : blk a b) : b < h.size := by
  obtain ⟨x, z, h2, h3⟩ := hs 0 hl
  have := cell_lt h3
  rw [add_block] at this
  rw [h2, blk_some] at hb
  omega

namespace Disk
theorem write_alive {m : M} {i : Int} {s : ByteArray} (h0 : m.st = 0) (h1 : 0 ≤ i) (h2 : i < m.l.length) (h3 : s.size = 256) : write m i s = (0, { m with c := m.c ++ [(i, s)] }) := by
  have hb : burn m = (0, m) := by unfold burn; rw [if_neg (by omega)]
  unfold write
  rw [if_neg (by omega), if_neg (by omega), hb]
  rfl

theorem boolsIs_nil (h : Heap) : BoolsIs h none 0 [] := ⟨rfl, fun i hi => by omega⟩

end Disk
namespace Enc
theorem g64_append (a b : List UInt8) : g64 (a ++ b) = b.foldl (fun n b => n * 256 + b.toNat) (g64 a) := by simp [g64]

theorem g64_p64 {n : Nat} (h : n < 18446744073709551616) : g64 (p64 n) = n := by
  simp only [g64, p64, b64, List.range, List.range.loop, List.map_cons, List.map_nil, List.foldl_cons, List.foldl_nil, UInt8.toNat_ofNat', Nat.shiftRight_eq_div_pow]
  simp only [Nat.reduceMul, Nat.reduceSub, Nat.reducePow, Nat.zero_mul, Nat.zero_add, Nat.div_one]
  omega

end Enc
namespace Snap
open Disk Enc Hash
def be4W (x : W) : List UInt8 := [lowb (x >>> 24), lowb (x >>> 16), lowb (x >>> 8), lowb x]

theorem be4W_cells (x : W) : [Value.int .u8 (IntKind.u8.wrap (shrI .u32 (u x) 24)), .int .u8 (IntKind.u8.wrap (shrI .u32 (u x) 16)), .int .u8 (IntKind.u8.wrap (shrI .u32 (u x) 8)), .int .u8 (IntKind.u8.wrap (u x))] = (be4W x).map byteV := by
  simp only [be4W, List.map_cons, List.map_nil, u_shr x (n := 24) (by decide) (by decide), u_shr x (n := 16) (by decide) (by decide), u_shr x (n := 8) (by decide) (by decide), u_low]
  rfl

theorem ofL_inj {a b : List UInt8} (h : ofL a = ofL b) : a = b := by
  unfold ofL at h
  injection h with h
  simpa using h

theorem seq_ofL (a b : List UInt8) : seq (⟨a.toArray⟩ : ByteArray) ⟨b.toArray⟩ = decide (a = b) := by
  by_cases h : a = b
  · subst h
    rw [seq_self]; simp
  · rw [seq_false (s := ⟨a.toArray⟩) (t := ⟨b.toArray⟩) (fun e => h (ofL_inj e))]
    simp [h]

/-- a device's sectors have 256 bytes -/
theorem Rep.secs {mu im : Nat → Prop} {h : Heap} {p : Nat} {m : M} (hr : Disk.Rep h p mu im m) : (∀ s ∈ m.l, s.size = 256) ∧ (∀ x ∈ m.c, x.2.size = 256) := by
  obtain ⟨⟨ql, lcap, secs, ca, cc, cv, e1, e2, row, sl1, sl2, g1, g2, _⟩, _⟩ := hr
  constructor
  · intro s hs
    rw [e1] at hs
    obtain ⟨x, hx, rfl⟩ := List.mem_map.1 hs
    exact (g1 x hx).1
  · intro x hx
    rw [e2] at hx
    obtain ⟨y, hy, rfl⟩ := List.mem_map.1 hx
    exact (g2 y hy).2.2.1.1

theorem readAt_size {m : M} (h1 : ∀ s ∈ m.l, s.size = 256) (h2 : ∀ x ∈ m.c, x.2.size = 256) (i : Int) : (readAt m i).size = 256 := by
  have key : ∀ (c : List (Int × ByteArray)) (z : ByteArray), z.size = 256 → (∀ x ∈ c, x.2.size = 256) → (c.foldl (fun s x => if x.1 = i then x.2 else s) z).size = 256 := by
    intro c
    induction c with
    | nil => intro z hz _; exact hz
    | cons x c ih =>
      intro z hz hx
      refine ih _ ?_ (fun y hy => hx y (List.mem_cons_of_mem _ hy))
      show (if x.1 = i then x.2 else z).size = 256
      split
      · exact hx x (List.mem_cons_self ..)
      · exact hz
  refine key _ _ ?_ h2
  rw [List.getD_eq_getElem?_getD]
  cases hg : m.l[i.toNat]? with
  | none => exact noughts_size 256
  | some s => exact h1 s (List.mem_of_getElem? hg)

theorem data_ofL (l : List UInt8) : (ofL l).data.toList = l := by simp [ofL]

theorem ofL_size (l : List UInt8) : (ofL l).size = l.length := by simp [ofL, ByteArray.size]

theorem blank_read {m : M} {k : Nat} (hl : m.l = List.replicate k (noughts 256)) (hc : m.c = []) (i : Int) : readAt m i = noughts 256 := by
  rw [readAt_lk, hc, lk_nil]
  unfold sec
  rw [hl, List.getD_eq_getElem?_getD, List.getElem?_replicate]
  split <;> rfl

theorem crash_none {m : M} (hc : m.c = []) (ks : List Bool) : crash m ks = ⟨m.l, [], 0, 0⟩ := by
  unfold crash
  rw [hc]
  cases ks <;> rfl

def secL (st : List UInt8) (i : Nat) : List UInt8 := (st.drop (256 * i)).take 256 ++ List.replicate (256 - ((st.drop (256 * i)).take 256).length) 0

theorem secL_length (st : List UInt8) (i : Nat) : (secL st i).length = 256 := by simp [secL]; omega

end Snap
namespace Disk

def secB (a b : Int) (i : Nat) : UInt8 := UInt8.ofNat ((w64 (w64 (a * i) + b)) % 256).toNat
def sector (a b : Int) : ByteArray := ⟨((List.range 256).map (secB a b)).toArray⟩
theorem sector_size (a b : Int) : (sector a b).size = 256 := by simp [sector, ByteArray.size]
theorem sector_bytes (a b : Int) : bytesV (sector a b) = (List.range 256).map fun i => byteV (secB a b i) := by simp [bytesV, sector, byteV, Function.comp_def]

theorem secB_v (a b : Int) (i : Nat) : Value.int .u8 (IntKind.u8.wrap (w64 (w64 (a * i) + b))) = byteV (secB a b i) := by
  unfold byteV secB
  rw [wrap_u8]
  congr 1
  have h1 : 0 ≤ (w64 (w64 (a * i) + b)) % 256 := Int.emod_nonneg _ (by decide)
  have h2 : (w64 (w64 (a * i) + b)) % 256 < 256 := Int.emod_lt_of_pos _ (by decide)
  have : (UInt8.ofNat ((w64 (w64 (a * i) + b)) % 256).toNat).toNat = ((w64 (w64 (a * i) + b)) % 256).toNat := by
    rw [UInt8.toNat_ofNat']
    apply Nat.mod_eq_of_lt
    omega
  rw [this]; omega

end Disk
/-- a part of a slice -/
theorem SlR.sub {h : Heap} {a : Option Addr} {l c : Nat} {vs : List Value} (hs : SlR h 1 a l c vs) {lo hi mx : Int} (h0 : 0 ≤ lo) (h1 : lo ≤ hi) (h2 : hi ≤ l) (h3 : hi ≤ mx) (h4 : mx ≤ c) {K : Option Addr → Nat → Nat → Prop}
    (hk : ∀ a' : Option Addr, SlR h 1 a' (hi - lo).toNat (mx - lo).toNat ((vs.drop lo.toNat).take (hi - lo).toNat) → (∀ b, blk a' b → blk a b) → K a' (hi - lo).toNat (mx - lo).toNat) : lsl 1 a c lo hi mx K := by
  refine ⟨h0, h1, h3, h4, ?_⟩
  rcases hs with ⟨rfl, rfl, rfl, rfl⟩ | ⟨b, o, cs, rfl, q2, q3, q4, q5, q6⟩
  · have e1 : lo = 0 := by omega
    have e2 : hi = 0 := by omega
    have e3 : mx = 0 := by omega
    subst e1 e2 e3
    exact hk none (SlR.nil h 1) (fun b hb => hb)
  · refine hk _ ?_ ?_
    · by_cases e : mx = lo
      · rw [if_pos e]
        have e2 : hi = lo := by omega
        subst e2 e
        refine .inr ⟨b, o, cs, rfl, q2, by simp, by omega, by simp, by simp⟩
      · rw [if_neg e]
        refine .inr ⟨b, o + lo.toNat, cs, ?_, q2, by omega, by omega, ?_, ?_⟩
        · show some ((⟨b, o, none⟩ : Addr).add (lo.toNat * 1)) = _
          rw [add_mk, Nat.mul_one]
        · rw [List.length_take, List.length_drop, q5]; omega
        · rw [← q6, List.drop_take, List.drop_drop, List.take_take]
          congr 1
          omega
    · intro y hy
      by_cases e : mx = lo
      · rw [if_pos e] at hy
        exact hy
      · rw [if_neg e, Option.map_some, blk_some, add_block] at hy
        rw [blk_some]
        exact hy

namespace Disk

def wrs : List (Int × ByteArray) → M → Int × M
  | [], m => (0, m)
  | x :: ws, m => if (write m x.1 x.2).1 ≠ 0 then write m x.1 x.2 else wrs ws (write m x.1 x.2).2
theorem wrs_append : ∀ (ws vs : List (Int × ByteArray)) (m : M), wrs (ws ++ vs) m = if (wrs ws m).1 ≠ 0 then wrs ws m else wrs vs (wrs ws m).2
  | [], vs, m => by
    rw [List.nil_append]
    show wrs vs m = if (0 : Int) ≠ 0 then _ else wrs vs m
    rw [if_neg (by decide)]
  | x :: ws, vs, m => by
    rw [List.cons_append]
    show (if (write m x.1 x.2).1 ≠ 0 then write m x.1 x.2 else wrs (ws ++ vs) (write m x.1 x.2).2) = if (if (write m x.1 x.2).1 ≠ 0 then write m x.1 x.2 else wrs ws (write m x.1 x.2).2).1 ≠ 0 then (if (write m x.1 x.2).1 ≠ 0 then write m x.1 x.2 else wrs ws (write m x.1 x.2).2) else wrs vs (if (write m x.1 x.2).1 ≠ 0 then write m x.1 x.2 else wrs ws (write m x.1 x.2).2).2
    by_cases h : (write m x.1 x.2).1 ≠ 0
    · rw [if_pos h, if_pos h, if_pos h]
    · rw [if_neg h, if_neg h, wrs_append ws vs]
theorem wrs_snoc (ws : List (Int × ByteArray)) (x : Int × ByteArray) (m : M) (h : (wrs ws m).1 = 0) : wrs (ws ++ [x]) m = write (wrs ws m).2 x.1 x.2 := by
  rw [wrs_append, if_neg (Classical.not_not.2 h)]
  show (if _ then _ else wrs [] _) = _
  by_cases e : (write (wrs ws m).2 x.1 x.2).1 ≠ 0
  · rw [if_pos e]
  · rw [if_neg e]
    show ((0 : Int), (write (wrs ws m).2 x.1 x.2).2) = _
    have : (write (wrs ws m).2 x.1 x.2).1 = 0 := Classical.not_not.1 e
    exact Prod.ext this.symm rfl
theorem wrs_stop {ws vs : List (Int × ByteArray)} {m : M} (h : (wrs ws m).1 ≠ 0) : wrs (ws ++ vs) m = wrs ws m := by rw [wrs_append, if_pos h]
theorem wrs_len : ∀ (ws : List (Int × ByteArray)) (m : M), (wrs ws m).2.l.length = m.l.length ∧ (wrs ws m).2.c.length ≤ m.c.length + ws.length
  | [], m => ⟨rfl, Nat.le_refl _⟩
  | x :: ws, m => by
    have h1 := write_len m x.1 x.2
    show (if _ then _ else _ : Int × M).2.l.length = _ ∧ (if _ then _ else _ : Int × M).2.c.length ≤ _
    rw [List.length_cons]
    split
    · omega
    · have h2 := wrs_len ws (write m x.1 x.2).2
      omega
theorem wrs_c : ∀ (ws : List (Int × ByteArray)) (m : M), (wrs ws m).2.l = m.l ∧ ((wrs ws m).1 = 0 → (wrs ws m).2.c = m.c ++ ws) ∧ ∃ vs us, ws = vs ++ us ∧ (wrs ws m).2.c = m.c ++ vs
  | [], m => ⟨rfl, fun _ => (by simp [wrs]), [], [], rfl, by simp [wrs]⟩
  | x :: ws, m => by
    obtain ⟨w1, w2, w3⟩ := write_c m x.1 x.2
    have e : wrs (x :: ws) m = if (write m x.1 x.2).1 ≠ 0 then write m x.1 x.2 else wrs ws (write m x.1 x.2).2 := rfl
    rw [e]
    by_cases h : (write m x.1 x.2).1 ≠ 0
    · rw [if_pos h]
      exact ⟨w1, fun e => absurd e h, [], x :: ws, rfl, by rw [w3 h]; simp⟩
    · rw [if_neg h]
      have hz := Classical.not_not.1 h
      obtain ⟨h1, h2, vs, us, h3, h4⟩ := wrs_c ws (write m x.1 x.2).2
      refine ⟨by rw [h1, w1], fun e => by rw [h2 e, w2 hz]; simp, x :: vs, us, by rw [h3]; rfl, by rw [h4, w2 hz]; simp⟩
theorem wrs_alive : ∀ (ws : List (Int × ByteArray)) (m : M), m.st = 0 → (∀ x ∈ ws, 0 ≤ x.1 ∧ x.1 < m.l.length ∧ x.2.size = 256) → (wrs ws m).1 = 0 ∧ (wrs ws m).2.st = 0
  | [], m, h0, _ => ⟨rfl, h0⟩
  | x :: ws, m, h0, hw => by
    obtain ⟨q1, q2, q3⟩ := hw x (by simp)
    have e := write_alive h0 q1 q2 q3
    show (if _ then _ else _ : Int × M).1 = 0 ∧ (if _ then _ else _ : Int × M).2.st = 0
    rw [e, if_neg (by simp)]
    exact wrs_alive ws _ h0 (fun y hy => hw y (by simp [hy]))

def commitM (m : M) (ws : List (Int × ByteArray)) (x : Int × ByteArray) : Int × M :=
  if (wrs ws m).1 ≠ 0 then wrs ws m else
  if (flush (wrs ws m).2).1 ≠ 0 then flush (wrs ws m).2 else
  if (write (flush (wrs ws m).2).2 x.1 x.2).1 ≠ 0 then write (flush (wrs ws m).2).2 x.1 x.2 else flush (write (flush (wrs ws m).2).2 x.1 x.2).2

theorem commit_len (m : M) (ws : List (Int × ByteArray)) (x : Int × ByteArray) : (commitM m ws x).2.l.length = m.l.length ∧ (commitM m ws x).2.c.length ≤ m.c.length + ws.length + 3 := by
  have h1 := wrs_len ws m
  unfold commitM
  split
  · omega
  · have h2 := flush_len (wrs ws m).2
    split
    · omega
    · have h3 := write_len (flush (wrs ws m).2).2 x.1 x.2
      split
      · omega
      · have h4 := flush_len (write (flush (wrs ws m).2).2 x.1 x.2).2
        omega

theorem commit_alive {m : M} {ws : List (Int × ByteArray)} {x : Int × ByteArray} (h0 : m.st = 0) (hw : ∀ y ∈ ws, 0 ≤ y.1 ∧ y.1 < m.l.length ∧ y.2.size = 256) (hx : 0 ≤ x.1 ∧ x.1 < m.l.length ∧ x.2.size = 256) : (commitM m ws x).1 = 0 ∧ (commitM m ws x).2.st = 0 := by
  obtain ⟨h1, h2⟩ := wrs_alive ws m h0 hw
  have hl := (wrs_len ws m).1
  obtain ⟨q, hq⟩ : ∃ q, q = (wrs ws m).2 := ⟨_, rfl⟩
  have fl : ∀ q : M, q.st = 0 → (flush q).1 = 0 ∧ (flush q).2.st = 0 ∧ (flush q).2.l.length = q.l.length := fun q hq => by
    rw [flush_alive0 hq]
    exact ⟨rfl, hq, by simp [lays_length]⟩
  unfold commitM
  rw [if_neg (Classical.not_not.2 h1), ← hq]
  rw [← hq] at h2 hl
  obtain ⟨f1, f2, f3⟩ := fl q h2
  rw [if_neg (Classical.not_not.2 f1)]
  have e := write_alive (m := (flush q).2) (i := x.1) (s := x.2) f2 hx.1 (by rw [f3, hl]; exact hx.2.1) hx.2.2
  rw [e, if_neg (by simp)]
  refine ⟨(fl _ ?_).1, (fl _ ?_).2.1⟩ <;> exact f2

/-- what is seen once all is written -/
def newV (ws : List (Int × ByteArray)) (x : Int × ByteArray) (i : Int) (z : ByteArray) : ByteArray := if x.1 = i then x.2 else lk ws i z

theorem commit_plain {m : M} (hc : m.c = []) {ws : List (Int × ByteArray)} {x : Int × ByteArray} (hws : ∀ y ∈ ws, 0 ≤ y.1) (hx : 0 ≤ x.1) (hxl : x.1 < m.l.length) (hd : ∀ y ∈ ws, y.1 ≠ x.1) :
    ((commitM m ws x).1 = 0 → (commitM m ws x).2.c = [] ∧ ∀ i : Int, 0 ≤ i → i < m.l.length → readAt (commitM m ws x).2 i = newV ws x i (readAt m i)) ∧
    ((commitM m ws x).1 ≠ 0 → ∀ ks, (∀ i : Int, 0 ≤ i → i < m.l.length → i ≠ x.1 → (∀ y ∈ ws, y.1 ≠ i) → readAt (crash (commitM m ws x).2 ks) i = readAt m i) ∧
      (readAt (crash (commitM m ws x).2 ks) x.1 = readAt m x.1 ∨ ∀ i : Int, 0 ≤ i → i < m.l.length → readAt (crash (commitM m ws x).2 ks) i = newV ws x i (readAt m i))) := by
  have hrd : ∀ i, readAt m i = sec m.l i := fun i => by rw [readAt_lk, hc]; rfl
  obtain ⟨w1, w2, vs, us, w3, w4⟩ := wrs_c ws m
  rw [hc, List.nil_append] at w4
  have vsub : ∀ y ∈ vs, y ∈ ws := fun y hy => by rw [w3]; exact List.mem_append_left _ hy
  -- a device of which only some sectors were written
  have part : ∀ m' : M, m'.l = m.l → m'.c = vs → ∀ ks, (∀ i : Int, 0 ≤ i → i < m.l.length → i ≠ x.1 → (∀ y ∈ ws, y.1 ≠ i) → readAt (crash m' ks) i = readAt m i) ∧
      (readAt (crash m' ks) x.1 = readAt m x.1 ∨ ∀ i : Int, 0 ≤ i → i < m.l.length → readAt (crash m' ks) i = newV ws x i (readAt m i)) := by
    intro m' e1 e2 ks
    have key : ∀ i : Int, 0 ≤ i → i < m.l.length → (∀ y ∈ ws, y.1 ≠ i) → readAt (crash m' ks) i = readAt m i := fun i g0 g1 g2 => by
      rcases crash_poss (m := m') ks g0 (by rw [e1]; exact g1) (by rw [e2]; exact fun y hy => hws y (vsub y hy)) with h | ⟨y, hy, h2, h3⟩
      · rw [h, e1, hrd]
      · rw [e2] at hy
        exact absurd h2 (g2 y (vsub y hy))
    exact ⟨fun i g0 g1 _ g2 => key i g0 g1 g2, .inl (key x.1 hx hxl hd)⟩
  by_cases e1 : (wrs ws m).1 = 0
  rotate_left
  · rw [show commitM m ws x = wrs ws m by unfold commitM; rw [if_pos e1]]
    exact ⟨fun h => absurd h e1, fun _ ks => part _ w1 w4 ks⟩
  have hc1 := w2 e1
  rw [hc, List.nil_append] at hc1
  obtain ⟨r, hr⟩ : ∃ r, r = (wrs ws m).2 := ⟨_, rfl⟩
  rw [← hr] at w1 w4 hc1
  have hl1 : r.l.length = m.l.length := by rw [w1]
  have rpos : ∀ y ∈ r.c, 0 ≤ y.1 := by rw [hc1]; exact hws
  have rrd : ∀ i, readAt r i = lk ws i (readAt m i) := fun i => by
    rw [readAt_lk, hc1, w1, hrd]
  by_cases e2 : (flush r).1 = 0
  rotate_left
  · rw [show commitM m ws x = flush r by unfold commitM; rw [if_neg (Classical.not_not.2 e1), ← hr, if_pos e2]]
    obtain ⟨f1, f2⟩ := (flush_c r).2 e2
    exact ⟨fun h => absurd h e2, fun _ ks => part _ (by rw [f1, w1]) (by rw [f2, w4]) ks⟩
  obtain ⟨f1, f2⟩ := (flush_c r).1 e2
  obtain ⟨f, hf⟩ : ∃ f, f = (flush r).2 := ⟨_, rfl⟩
  rw [← hf] at f1 f2
  have hl2 : f.l.length = m.l.length := by rw [f1, lays_length, hl1]
  have frd : ∀ i : Int, 0 ≤ i → i < m.l.length → sec f.l i = lk ws i (readAt m i) := fun i g0 g1 => by
    rw [hf, flush_view e2 g0 (by rw [hl1]; exact g1) rpos, rrd]
  obtain ⟨v1, v2, v3⟩ := write_c f x.1 x.2
  -- a device of which all is flushed but the last
  have late : ∀ m' : M, m'.l = f.l → (m'.c = [] ∨ m'.c = [x]) → ∀ ks, (∀ i : Int, 0 ≤ i → i < m.l.length → i ≠ x.1 → (∀ y ∈ ws, y.1 ≠ i) → readAt (crash m' ks) i = readAt m i) ∧
      (readAt (crash m' ks) x.1 = readAt m x.1 ∨ ∀ i : Int, 0 ≤ i → i < m.l.length → readAt (crash m' ks) i = newV ws x i (readAt m i)) := by
    intro m' g1 g2 ks
    have pos : ∀ y ∈ m'.c, 0 ≤ y.1 := by
      rcases g2 with g | g <;> rw [g] <;> intro y hy
      · cases hy
      · simp only [List.mem_singleton] at hy
        subst hy
        exact hx
    have key : ∀ i : Int, 0 ≤ i → i < m.l.length → i ≠ x.1 → readAt (crash m' ks) i = sec f.l i := fun i q0 q1 q2 => by
      rcases crash_poss (m := m') ks q0 (by rw [g1, hl2]; exact q1) pos with h | ⟨y, hy, h2, h3⟩
      · rw [h, g1]
      · rcases g2 with g | g <;> rw [g] at hy
        · cases hy
        · simp only [List.mem_singleton] at hy
          subst hy
          exact absurd h2 (fun e => q2 e.symm)
    refine ⟨fun i q0 q1 q2 q3 => by rw [key i q0 q1 q2, frd i q0 q1, lk_far q3], ?_⟩
    have hat : readAt (crash m' ks) x.1 = readAt m x.1 ∨ readAt (crash m' ks) x.1 = x.2 := by
      rcases crash_poss (m := m') ks hx (by rw [g1, hl2]; omega) pos with h | ⟨y, hy, h2, h3⟩
      · left
        rw [h, g1, frd x.1 hx hxl, lk_far hd]
      · right
        rcases g2 with g | g <;> rw [g] at hy
        · cases hy
        · simp only [List.mem_singleton] at hy
          subst hy
          exact h3.symm
    rcases hat with h | h
    · exact .inl h
    · refine .inr (fun i q0 q1 => ?_)
      unfold newV
      by_cases ei : x.1 = i
      · rw [if_pos ei, ← ei, h]
      · rw [if_neg ei, key i q0 q1 (fun e => ei e.symm), frd i q0 q1]
  by_cases e3 : (write f x.1 x.2).1 = 0
  rotate_left
  · rw [show commitM m ws x = write f x.1 x.2 by unfold commitM; rw [if_neg (Classical.not_not.2 e1), ← hr, if_neg (Classical.not_not.2 e2), ← hf, if_pos e3]]
    exact ⟨fun h => absurd h e3, fun _ ks => late _ v1 (.inl (by rw [v3 e3, f2])) ks⟩
  have hc3 := v2 e3
  rw [f2, List.nil_append] at hc3
  obtain ⟨g, hg⟩ : ∃ g, g = (write f x.1 x.2).2 := ⟨_, rfl⟩
  rw [← hg] at v1 hc3
  rw [show commitM m ws x = flush g by unfold commitM; rw [if_neg (Classical.not_not.2 e1), ← hr, if_neg (Classical.not_not.2 e2), ← hf, if_neg (Classical.not_not.2 e3), ← hg]]
  by_cases e4 : (flush g).1 = 0
  rotate_left
  · obtain ⟨q1, q2⟩ := (flush_c g).2 e4
    exact ⟨fun h => absurd h e4, fun _ ks => late _ (by rw [q1, v1]) (.inr (by rw [q2, hc3])) ks⟩
  obtain ⟨q1, q2⟩ := (flush_c g).1 e4
  refine ⟨fun _ => ⟨q2, fun i p0 p1 => ?_⟩, fun h => absurd e4 h⟩
  rw [readAt_lk, q2]
  show sec (flush g).2.l i = _
  rw [flush_view e4 p0 (by rw [v1, hl2]; exact p1) (by rw [hc3]; intro y hy; simp only [List.mem_singleton] at hy; subst hy; exact hx), readAt_lk, hc3, v1, frd i p0 p1]
  rfl

end Disk
end Go.Proofs.Ytkgocfaajfaidaa
