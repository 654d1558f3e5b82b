/- Words of 32 bits: what the texts' operations come to. -/
import Derived.Test.YtjpmjhnjdnbopaaXBytes
import Derived.Test.YtjpmjhnjdnbopaaPArgs
namespace Go.Proofs.Ytjpmjhnjdnbopaa
open Go D
set_option linter.unusedVariables false
set_option linter.unusedSimpArgs false

abbrev W := BitVec 32
/-- a word as the texts hold it -/
def u (a : W) : Int := (a.toNat : Int)

theorem wrap_u (x : Int) : IntKind.u32.wrap x = x % 4294967296 := by
  simp [IntKind.wrap, IntKind.bits, IntKind.signed]
theorem u_lt (a : W) : 0 ≤ u a ∧ u a < 4294967296 := by
  unfold u
  have := a.isLt
  omega
theorem u_ofInt (a : W) : BitVec.ofInt IntKind.u32.bits (u a) = a := by
  show BitVec.ofInt 32 (a.toNat : Int) = a
  rw [BitVec.ofInt_natCast, BitVec.ofNat_toNat, BitVec.setWidth_eq]
theorem wrap_nat (a : W) : IntKind.u32.wrap ((a.toNat : Nat) : Int) = u a := by
  rw [wrap_u]
  have := u_lt a
  unfold u at *
  omega
theorem u_add (a b : W) : IntKind.u32.wrap (u a + u b) = u (a + b) := by
  rw [wrap_u]; unfold u
  rw [BitVec.toNat_add]; omega
theorem u_neg (a : W) : IntKind.u32.wrap (0 - u a) = u (-a) := by
  rw [wrap_u]; unfold u
  rw [BitVec.toNat_neg]
  have := a.isLt
  omega
theorem u_and (a b : W) : andI .u32 (u a) (u b) = u (a &&& b) := by
  unfold andI; rw [u_ofInt, u_ofInt]; exact wrap_nat _
theorem u_or (a b : W) : orI .u32 (u a) (u b) = u (a ||| b) := by
  unfold orI; rw [u_ofInt, u_ofInt]; exact wrap_nat _
theorem u_xor (a b : W) : xorI .u32 (u a) (u b) = u (a ^^^ b) := by
  unfold xorI; rw [u_ofInt, u_ofInt]; exact wrap_nat _
theorem u_not (a : W) : xorI .u32 IntKind.u32.max (u a) = u (~~~a) := by
  have e : IntKind.u32.max = u (4294967295#32) := rfl
  rw [e, u_xor]
  congr 1
theorem u_shl (a : W) {n : Int} (h0 : 0 ≤ n) (h1 : n ≤ 32) : shlI .u32 (u a) n = u (a <<< n.toNat) := by
  unfold shlI
  rw [wrap_u]; unfold u
  rw [BitVec.toNat_shiftLeft, Nat.shiftLeft_eq]
  have e : min n.toNat IntKind.u32.bits = n.toNat := by show min n.toNat 32 = _; omega
  rw [e]
  simp
theorem u_shr (a : W) {n : Int} (h0 : 0 ≤ n) (h1 : n ≤ 32) : shrI .u32 (u a) n = u (a >>> n.toNat) := by
  unfold shrI u
  rw [BitVec.toNat_ushiftRight, Nat.shiftRight_eq_div_pow]
  have e : min n.toNat IntKind.u32.bits = n.toNat := by show min n.toNat 32 = _; omega
  rw [e]
  rw [Int.fdiv_eq_ediv_of_nonneg _ (by exact Int.pow_nonneg (by decide))]
  simp
theorem u_inj {a b : W} (h : u a = u b) : a = b := by
  unfold u at h
  exact BitVec.eq_of_toNat_eq (by omega)
theorem u_of {z : Int} (h0 : IntKind.u32.min ≤ z) (h1 : z ≤ IntKind.u32.max) : ∃ w, z = u w := by
  have e0 : IntKind.u32.min = 0 := rfl
  have e1 : IntKind.u32.max = 4294967295 := rfl
  rw [e0] at h0
  rw [e1] at h1
  refine ⟨BitVec.ofNat 32 z.toNat, ?_⟩
  unfold u
  rw [BitVec.toNat_ofNat]
  omega
theorem u_beq (a b : W) : (u a == u b) = (a == b) := by
  rw [Bool.eq_iff_iff]
  simp only [beq_iff_eq]
  exact ⟨u_inj, fun h => by rw [h]⟩

/-- a byte as a word, a word's lowest byte -/
def ub (b : UInt8) : W := BitVec.ofNat 32 b.toNat
def lowb (a : W) : UInt8 := UInt8.ofNat a.toNat
theorem u_byte (b : UInt8) : IntKind.u32.wrap ((b.toNat : Nat) : Int) = u (ub b) := by
  rw [wrap_u]; unfold u ub
  rw [BitVec.toNat_ofNat]
  have := b.toNat_lt
  omega
theorem u_low (a : W) : (Value.int .u8 (IntKind.u8.wrap (u a))) = byteV (lowb a) := by
  unfold byteV lowb u
  congr 1

/-! ### CRC-32C -/
def crcBit (c : W) : W := (c >>> 1) ^^^ (0x82f63b78#32 &&& -(c &&& 1#32))
def iter8 (f : W → W) : Nat → W → W
  | 0, c => c
  | n + 1, c => f (iter8 f n c)
def crcByte (c : W) (b : UInt8) : W := iter8 crcBit 8 (c ^^^ ub b)
def crcF (bs : List UInt8) : W := ~~~(bs.foldl crcByte 0xffffffff#32)

theorem foldl_take {α β : Type} (f : β → α → β) (z : β) (l : List α) (i : Nat) (x : α) (h : l[i]? = some x) : (l.take (i + 1)).foldl f z = f ((l.take i).foldl f z) x := by
  rw [List.take_add_one, h]
  simp

theorem low1 (c : W) : c &&& 1#32 = 0#32 ∨ c &&& 1#32 = 1#32 := by
  have e : (c &&& 1#32).toNat = c.toNat % 2 := by
    rw [BitVec.toNat_and]
    exact Nat.and_one_is_mod _
  rcases Nat.mod_two_eq_zero_or_one c.toNat with h | h
  · left; exact BitVec.eq_of_toNat_eq (by rw [e, h]; rfl)
  · right; exact BitVec.eq_of_toNat_eq (by rw [e, h]; rfl)

theorem crcBit_eq (c : W) : crcBit c = if c &&& 1#32 = 1#32 then (c >>> 1) ^^^ 0x82f63b78#32 else c >>> 1 := by
  unfold crcBit
  rcases low1 c with h | h
  · rw [h, if_neg (by decide)]
    rw [show (0x82f63b78#32 &&& -0#32) = 0#32 from by decide, BitVec.xor_zero]
  · rw [h, if_pos rfl]
    rw [show (0x82f63b78#32 &&& -1#32) = 0x82f63b78#32 from by decide]

/-- words that are only read -/
def Ws (h : Heap) (a : Option Addr) (l : Nat) (ws : List W) : Prop := Rv h a l (ws.map fun w => .int .u32 (u w))
theorem Ws.at {h : Heap} {a : Option Addr} {l : Nat} {ws : List W} (hs : Ws h a l ws) {i : Int} (h0 : 0 ≤ i) (h1 : i < l) {K : Int → Prop} (hk : K (u (ws.getD i.toNat 0))) : idx a l i fun x => ldI .u32 (x.add (i.toNat * 1)) h K := by
  have hl := hs.1
  rw [List.length_map] at hl
  have hi : i.toNat < ws.length := by omega
  refine Rv.at hs h0 h1 (v := .int .u32 (u ws[i.toNat])) (by rw [List.getElem?_map, List.getElem?_eq_getElem hi]; rfl) fun x hx => ldI_at hx ?_
  rw [List.getD_eq_getElem?_getD, List.getElem?_eq_getElem hi] at hk
  exact hk
/-- bytes that are held, as a list -/
def ofL (bs : List UInt8) : ByteArray := ⟨bs.toArray⟩
theorem ofL_bytes (bs : List UInt8) : bytesV (ofL bs) = bs.map byteV := by simp [bytesV_eq, ofL]
def Bl (h : Heap) (a : Option Addr) (l c : Nat) (bs : List UInt8) : Prop := SlR h 1 a l c (bs.map byteV)
theorem Bl.rb {h : Heap} {a : Option Addr} {l c : Nat} {bs : List UInt8} (hb : Bl h a l c bs) : Rb h a l bs := SlR.rv hb
theorem Bl.bs {h : Heap} {a : Option Addr} {l c : Nat} {bs : List UInt8} (hb : Bl h a l c bs) : Bs h a l c (ofL bs) := by unfold Bs; rw [ofL_bytes]; exact hb
theorem Bl.len {h : Heap} {a : Option Addr} {l c : Nat} {bs : List UInt8} (hb : Bl h a l c bs) : l = bs.length := hb.rb.len
/-- bytes are laid behind others: the new ones lie in a row of their own -/
theorem Bl.push {h : Heap} {a : Option Addr} {l c m : Nat} {bs new : List UInt8} {vs : List Value} (hb : Bl h a l c bs) {K : Option Addr → Nat → Heap → Prop} (hl : l + m ≤ 140737488354000) (hm : m = new.length) (hv : vs = new.map byteV)
    (hk : ∀ a' c' h', Bl h' a' (l + m) c' (bs ++ new) → Keep (blk a) h h' → (∀ b, blk a' b → blk a b ∨ h.size ≤ b) → K a' c' h') :
    app [.int .u8 0] 5 1 1 a l c vs m h K := by
  subst hm hv
  refine SlR.app hb rfl (by simp) (fun v hv => by obtain ⟨x, _, rfl⟩ := List.mem_map.1 hv; rfl) (by omega) ?_
  intro a' c' h' q1 q2 q3
  rw [← List.map_append] at q1
  refine hk a' c' h' q1 q2 (fun b hb' => ?_)
  rcases q3 with ⟨rfl, _⟩ | ⟨rfl, _⟩
  · exact .inl hb'
  · rw [blk_some] at hb'
    exact .inr (by simp only at hb'; omega)

/-- the same, and what it was laid behind stays as it was where it is not the same slice -/
theorem Bl.push2 {h : Heap} {a : Option Addr} {l c m : Nat} {bs new : List UInt8} {vs : List Value} (hb : Bl h a l c bs) {K : Option Addr → Nat → Heap → Prop} (hl : l + m ≤ 140737488354000) (hm : m = new.length) (hv : vs = new.map byteV)
    (hk : ∀ a' c' h', Bl h' a' (l + m) c' (bs ++ new) → Keep (blk a) h h' → (∀ b, blk a' b → blk a b ∨ h.size ≤ b) → Rb h' a l bs → K a' c' h') :
    app [.int .u8 0] 5 1 1 a l c vs m h K := by
  subst hm hv
  refine SlR.app hb rfl (by simp) (fun v hv => by obtain ⟨x, _, rfl⟩ := List.mem_map.1 hv; rfl) (by omega) ?_
  intro a' c' h' q1 q2 q3
  rw [← List.map_append] at q1
  have hlen := hb.len
  refine hk a' c' h' q1 q2 (fun b hb' => ?_) ?_
  · rcases q3 with ⟨rfl, _⟩ | ⟨rfl, _⟩
    · exact .inl hb'
    · rw [blk_some] at hb'
      exact .inr (by simp only at hb'; omega)
  · rcases q3 with ⟨rfl, _⟩ | ⟨_, _, k⟩
    · have r : Rv h' a' (l + new.length) ((bs ++ new).map byteV) := SlR.rv q1
      refine ⟨by simp; exact hlen, fun i v hv => ?_⟩
      have hi := (List.getElem?_eq_some_iff.1 hv).1
      refine r.2 i v ?_
      rw [List.map_append, List.getElem?_append_left hi]
      exact hv
    · exact Rv.keep hb.rb k (fun _ _ _ h => h)

/-! ### turning -/
def rotl (x : W) (n : Nat) : W := x <<< n ||| x >>> (32 - n)
theorem and31 (k : Int) : andI .u64 (IntKind.u64.wrap k) 31 = k % 32 := by
  rw [wrap_u64]
  obtain ⟨y, hy⟩ : ∃ y : Nat, (k % 18446744073709551616 : Int) = y := ⟨(k % 18446744073709551616).toNat, by omega⟩
  rw [hy, show (31 : Int) = ((31 : Nat) : Int) from rfl, andI_u64 (by omega) (by decide)]
  have := Nat.and_two_pow_sub_one_eq_mod y 5
  rw [show (2 : Nat) ^ 5 - 1 = 31 from rfl, show (2 : Nat) ^ 5 = 32 from rfl] at this
  rw [this]
  omega

end Go.Proofs.Ytjpmjhnjdnbopaa
