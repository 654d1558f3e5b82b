/- hash.Stream, enc.Hex, and layer 2's own words. -/
import Derived.Test.YtecfcodildjnnaaPShaB
import Derived.Test.YtecfcodildjnnaaGLaw
namespace Go.Proofs.Ytecfcodildjnnaa
open Go D
set_option linter.unusedVariables false
set_option linter.unusedSimpArgs false
namespace Hash

/-- a stream at block p -/
structure St (h : Heap) (p : Nat) (ty : TypeId) (mu : Nat → Prop) (bs : List UInt8) : Prop where
  ex : ∃ a c, Row h p [.iface ty (.agg #[]), .slice a bs.length c] ∧ Bl h a bs.length c bs ∧ ¬ blk a p ∧ mu p ∧ ∀ b, blk a b → mu b
  lt : ∀ b, mu b → b < h.size

theorem St.keep {S mu : Nat → Prop} {h h' : Heap} {p : Nat} {ty : TypeId} {bs : List UInt8} (hs : St h p ty mu bs) (hk : Keep S h h') (hm : ∀ b, mu b → ¬ S b) : St h' p ty mu bs := by
  obtain ⟨⟨a, c, r, b, n, m1, m2⟩, lt⟩ := hs
  exact ⟨⟨a, c, hk.row r (hm _ m1), SlR.keep b hk (fun x hx => hm _ (m2 x hx)), n, m1, m2⟩, fun x hx => Nat.lt_of_lt_of_le (lt x hx) hk.size⟩

theorem new_spec {h : Heap} {k : Int} {R : (Option Addr) × Int → Heap → Prop} (hno : k ≠ 1 → k ≠ 2 → R (none, 1) h)
    (hyes : ∀ h', (k = 1 → St h' h.size 58 (· = h.size) []) → (k = 2 → St h' h.size 63 (· = h.size) []) → Keep (fun _ => False) h h' → h'.size = h.size + 1 → k = 1 ∨ k = 2 → R (some ⟨h.size, 0, none⟩, 0) h') :
    CallT Try.prog hash_New_no [.int .i64 k] h [.sc .ptr, .sc (.int .i64)] R := by
  apply hash_New_call
  simp only [hash_New]
  have nob : ∀ b, ¬ blk none b := fun b hb => by obtain ⟨x, hx, _⟩ := hb; cases hx
  refine cnd_of (fun h1 => ?_) (fun h1 => ?_)
  · have e : k = 1 := by simpa using h1
    refine newB_row ?_
    intro h2 s2 r2 k2
    exact hyes h2 (fun _ => ⟨⟨none, 0, r2, SlR.nil _ _, nob _, rfl, fun b hb => absurd hb (nob b)⟩, fun b hb => by omega⟩) (fun e2 => by omega) k2 s2 (.inl e)
  · have e : k ≠ 1 := by simpa using h1
    refine cnd_of (fun h2 => ?_) (fun h2 => ?_)
    · have e2 : k = 2 := by simpa using h2
      refine newB_row ?_
      intro h2 s2 r2 k2
      exact hyes h2 (fun e2 => by omega) (fun _ => ⟨⟨none, 0, r2, SlR.nil _ _, nob _, rfl, fun b hb => absurd hb (nob b)⟩, fun b hb => by omega⟩) k2 s2 (.inr e2)
    · exact hno e (by simpa using h2)

theorem write_spec {mu : Nat → Prop} {h : Heap} {p : Nat} {ty : TypeId} {bs : List UInt8} (hs : St h p ty mu bs) {a : Option Addr} {l c : Nat} {new : List UInt8} (hb : Rb h a l new) (hl : bs.length + l ≤ 140737488354000) {R : Unit → Heap → Prop}
    (hk : ∀ mu' h', St h' p ty mu' (bs ++ new) → Keep mu h h' → (∀ b, mu' b → mu b ∨ h.size ≤ b) → R () h') : CallT Try.prog hash_Stream_Write_no [.pointer (some ⟨p, 0, none⟩), .slice a l c] h [] R := by
  have hcall := hash_Stream_Write_call (s_0 := some ⟨p, 0, none⟩) (b_1 := ⟨a, l, c⟩) (R := R) (h := h)
  apply hcall
  obtain ⟨⟨sa, sc, r, bl, n, m1, m2⟩, lt⟩ := hs
  simp only [hash_Stream_Write, nn_eq, add_mk]
  have hlen := hb.len
  refine ldL_row r rfl ?_
  refine hb.rd ?_
  refine bl.push (new := new) hl hlen rfl ?_
  intro a' c' h2 q1 q2 q3
  have hp := lt p m1
  have hne : ¬ blk a' p := fun hb' => by
    rcases q3 p hb' with hh | hh
    · exact n hh
    · omega
  refine stC_row (q2.row r n) (by simp) rfl ?_
  intro h3 s3 r3 k3
  have z2 := q2.size
  refine hk (fun b => mu b ∨ blk a' b) h3 ⟨⟨a', c', ?_, ?_, hne, .inl m1, fun b hb' => .inr hb'⟩, ?_⟩ ((q2.mono (fun b _ hb' => m2 b hb')).trans k3 (fun b _ e => by
    have e' : b = p := e
    rw [e']; exact m1)) ?_
  · rw [List.length_append, ← hlen]
    exact r3
  · rw [List.length_append, ← hlen]
    exact SlR.keep q1 k3 (fun b hb' e => hne (by have e' : b = p := e; rwa [← e']))
  · rintro b (hb' | hb')
    · have := lt b hb'; omega
    · have := SlR.blk_lt q1 hb'; omega
  · rintro b (hb' | hb')
    · exact .inl hb'
    · rcases q3 b hb' with hh | hh
      · exact .inl (m2 b hh)
      · exact .inr hh

theorem size_spec {mu : Nat → Prop} {h : Heap} {p : Nat} {ty : TypeId} {bs : List UInt8} (hs : St h p ty mu bs) {R : Int → Heap → Prop} (hk : R (bs.length : Int) h) : CallT Try.prog hash_Stream_Size_no [.pointer (some ⟨p, 0, none⟩)] h [.sc (.int .i64)] R := by
  apply hash_Stream_Size_call
  obtain ⟨⟨sa, sc, r, _⟩, _⟩ := hs
  simp only [hash_Stream_Size, nn_eq, add_mk]
  exact ldL_row r rfl hk

/-! ### digits -/
def digits : List UInt8 := [48, 49, 50, 51, 52, 53, 54, 55, 56, 57, 97, 98, 99, 100, 101, 102]
def hexB (b : UInt8) : List UInt8 := [digits.getD (b.toNat / 16) 0, digits.getD (b.toNat % 16) 0]
def hexL (bs : List UInt8) : List UInt8 := bs.flatMap hexB

theorem hex_spec {h : Heap} {a : Option Addr} {l c : Nat} {bs : List UInt8} (hb : Rb h a l bs) (hl : l ≤ 100000000) {R : ByteArray → Heap → Prop} (hk : ∀ h', Keep (fun _ => False) h h' → R (ofL (hexL bs)) h') :
    CallT Try.prog enc_Hex_no [.slice a l c] h [.sc .str] R := by
  have hcall := enc_Hex_call (b_0 := ⟨a, l, c⟩) (R := R) (h := h)
  apply hcall
  simp only [enc_Hex]
  have hlen := hb.len
  have hw2 : w64 (2 * (l : Int)) = 2 * l := w64_id (by omega) (by omega)
  rw [hw2]
  refine mkSl_row (by omega) (by omega) (by omega) (by omega) ?_
  intro h1 s1 r1 k1
  have e0 : Bl h1 (some ⟨h.size, 0, none⟩) 0 (2 * (l : Int)).toNat [] := .inr ⟨h.size, 0, _, rfl, r1, by simp, by simp [zerosL_one], by simp, by simp⟩
  refine LoopT.intro (fun (t : Sl × Int) h' => 0 ≤ t.2 ∧ t.2 ≤ l ∧ t.1.len = 2 * t.2.toNat ∧ Bl h' t.1.a t.1.len t.1.cap ((bs.take t.2.toNat).flatMap hexB) ∧ (∀ b, blk t.1.a b → h.size ≤ b) ∧ Keep (fun y => h.size ≤ y) h h') (fun t _ => (l - t.2).toNat)
    ⟨by simp, by simp, by simp, e0, fun b hb' => by rw [blk_some] at hb'; simp only at hb'; omega, k1.mono (fun _ _ h => h.elim)⟩ ?_
  rintro ⟨o, i⟩ h2 ⟨p1, p2, p3, p4, p5, p6⟩
  replace p1 : 0 ≤ i := p1
  replace p2 : i ≤ l := p2
  replace p3 : o.len = 2 * i.toNat := p3
  replace p4 : Bl h2 o.a o.len o.cap ((bs.take i.toNat).flatMap hexB) := p4
  replace p5 : ∀ b, blk o.a b → h.size ≤ b := p5
  refine cnd_dec (fun hi => ?_) (fun hi => ?_)
  · replace hi : i < l := hi
    have hb2 : Rb h2 a l bs := hb.keep p6 (fun h0 b hb' hge => by have := hb.lt h0 hb'; have hge' : h.size ≤ b := hge; omega)
    refine hb2.at p1 hi ?_
    intro b hbb
    have hbl := b.toNat_lt
    have e1 : shrI .u8 (b.toNat : Int) 4 = ((b.toNat / 16 : Nat) : Int) := by
      rw [show (4 : Int) = ((4 : Nat) : Int) from rfl, shrI_nat (by decide), Nat.shiftRight_eq_div_pow]
    have e2 : andI .u8 (b.toNat : Int) 15 = ((b.toNat % 16 : Nat) : Int) := by
      unfold andI
      rw [BitVec.toNat_and]
      simp only [IntKind.bits]
      rw [ofInt_nat (by omega), show (15 : Int) = ((15 : Nat) : Int) from rfl, ofInt_nat (by decide)]
      have := Nat.and_two_pow_sub_one_eq_mod b.toNat 4
      rw [show (2 : Nat) ^ 4 - 1 = 15 from rfl, show (2 : Nat) ^ 4 = 16 from rfl] at this
      rw [this, wrap_u8]
      omega
    have dg : ∀ n : Nat, n < 16 → ∀ {K : UInt8 → Prop}, K (digits.getD n 0) → sidx (⟨#[48, 49, 50, 51, 52, 53, 54, 55, 56, 57, 97, 98, 99, 100, 101, 102]⟩ : ByteArray) (n : Int) K := by
      intro n hn K hK
      refine ⟨_, by omega, ?_, hK⟩
      rw [Int.toNat_natCast]
      show digits[n]? = some _
      have hd : n < digits.length := by simpa [digits] using hn
      rw [List.getD_eq_getElem?_getD, List.getElem?_eq_getElem hd]
      rfl
    show sidx _ (shrI .u8 (b.toNat : Int) 4) fun u8 => sidx _ (andI .u8 (b.toNat : Int) 15) _
    rw [e1, e2]
    refine dg _ (by omega) (dg _ (by omega) ?_)
    refine newB_row ?_
    intro h3 s3 r3 k3
    refine ldRow_row r3 (by simp) ?_
    have p4' : Bl h3 o.a o.len o.cap _ := SlR.keep p4 k3 (fun _ _ h => h)
    refine p4'.push (new := hexB b) (by show o.len + 2 ≤ _; omega) rfl rfl ?_
    intro a' c' h4 w1 w2 w3
    show (0 ≤ w64 (i + 1) ∧ w64 (i + 1) ≤ l ∧ o.len + 2 = 2 * (w64 (i + 1)).toNat ∧ Bl h4 a' (o.len + 2) c' ((bs.take (w64 (i + 1)).toNat).flatMap hexB) ∧ (∀ b, blk a' b → h.size ≤ b) ∧ Keep (fun y => h.size ≤ y) h h4) ∧ (l - w64 (i + 1)).toNat < (l - i).toNat
    rw [w64_id (x := i + 1) (by omega) (by omega), show (i + 1).toNat = i.toNat + 1 by omega, List.take_add_one, hbb, List.flatMap_append]
    have := p6.size
    refine ⟨⟨by omega, by omega, by omega, by simpa using w1, fun b hb' => ?_, (p6.trans k3 (fun _ _ h => h.elim)).trans w2 (fun y _ hy => p5 y hy)⟩, by omega⟩
    rcases w3 b hb' with hh | hh
    · exact p5 b hh
    · omega
  · have hil : i = l := by
      have : ¬ i < (l : Int) := hi
      omega
    subst hil
    refine p4.rb.str ?_
    rw [Int.toNat_natCast, List.take_of_length_le (by omega)]
    exact hk h2 ⟨p6.size, fun b hb' _ => p6.same b hb' (by omega)⟩

theorem md5_nil : hexL (md5F []) = [100, 52, 49, 100, 56, 99, 100, 57, 56, 102, 48, 48, 98, 50, 48, 52, 101, 57, 56, 48, 48, 57, 57, 56, 101, 99, 102, 56, 52, 50, 55, 101] := by decide +kernel
theorem sha_abc : hexL (sha256F [97, 98, 99]) = [98, 97, 55, 56, 49, 54, 98, 102, 56, 102, 48, 49, 99, 102, 101, 97, 52, 49, 52, 49, 52, 48, 100, 101, 53, 100, 97, 101, 50, 50, 50, 51, 98, 48, 48, 51, 54, 49, 97, 51, 57, 54, 49, 55, 55, 97, 57, 99, 98, 52, 49, 48, 102, 102, 54, 49, 102, 50, 48, 48, 49, 53, 97, 100] := by decide +kernel
theorem crc_nine : crcF [49, 50, 51, 52, 53, 54, 55, 56, 57] = 3808858755#32 := by decide +kernel

theorem awake_spec {h : Heap} {R : Bool → Heap → Prop} (hk : ∀ h', Keep (fun _ => False) h h' → R true h') : CallT Try.prog law2_awake_no [] h [.sc .bool] R := by
  apply law2_awake_call
  unfold law2_awake
  refine new_spec (fun h1 _ => absurd rfl h1) ?_
  intro h1 st _ k1 s1 _
  have st := st rfl
  refine withJ.inl (withJ.inl (cnd_f rfl (cnd_f rfl ?_)))
  refine lit_row ?_
  intro h2 s2 r2 k2
  have b2 : Bl h2 (some ⟨h1.size, 0, none⟩) 1 1 [97] := .inr ⟨h1.size, 0, _, rfl, r2, by simp, by simp, by simp, by simp; rfl⟩
  refine write_spec (st.keep k2 (fun _ _ h => h)) b2.rb (by simp) ?_
  intro mu h3 st3 k3 gr3
  refine withJ.inl ?_
  have nil : Rb h3 none 0 [] := (SlR.nil h3 1).rv
  refine md5_spec nil (Nat.le_refl _) (by omega) ?_
  intro sm h4 b4 n4 k4
  have l4 := b4.len
  refine hex_spec b4.rb (by rw [l4]; simp [md5F, le4]) ?_
  intro h5 k5
  refine cnd_t (by rw [md5_nil]; exact seq_self _) ?_
  refine lit_row ?_
  intro h6 s6 r6 k6
  have b6 : Bl h6 (some ⟨h5.size, 0, none⟩) 3 3 [97, 98, 99] := .inr ⟨h5.size, 0, _, rfl, r6, by simp, by simp, by simp, by simp; exact ⟨rfl, rfl, rfl⟩⟩
  refine sha256_spec b6.rb (Nat.le_refl _) (by omega) ?_
  intro ss h7 b7 _ n7 k7
  have l7 := b7.len
  refine hex_spec b7.rb (by rw [l7, sha256F_length]; omega) ?_
  intro h8 k8
  refine cnd_t (by rw [sha_abc]; exact seq_self _) ?_
  refine lit_row ?_
  intro h9 s9 r9 k9
  have b9 : Bl h9 (some ⟨h8.size, 0, none⟩) 9 9 [49, 50, 51, 52, 53, 54, 55, 56, 57] := .inr ⟨h8.size, 0, _, rfl, r9, by simp, by simp, by simp, by simp; exact ⟨rfl, rfl, rfl, rfl, rfl, rfl, rfl, rfl, rfl⟩⟩
  refine crc_spec b9.rb (by omega) ?_
  rw [crc_nine]
  refine cnd_t rfl ?_
  have k39 : Keep (fun _ => False) h3 h9 := ((((k4.trans' k5).trans' k6).trans' k7).trans' k8).trans' k9
  refine size_spec (st3.keep k39 (fun _ _ h => h)) ?_
  refine hk h9 ?_
  have z1 := k1.size
  exact (((k1.trans' k2).trans k3 (fun y hy e => by
    have e' : y = h.size := e
    omega))).trans' k39

theorem same_spec {h : Heap} {a b : Option Addr} {l m c d : Nat} {xs ys : List UInt8} (hx : Rb h a l xs) (hy : Rb h b m ys) (he : xs = ys) {R : Bool → Heap → Prop} (hk : R true h) : CallT Try.prog law1_Same_no [.slice a l c, .slice b m d] h [.sc .bool] R := by
  have hcall := law1_Same_call (a_0 := ⟨a, l, c⟩) (b_1 := ⟨b, m, d⟩) (R := R) (h := h)
  apply hcall
  simp only [law1_Same]
  refine hx.str (hy.str ?_)
  rw [he, seq_self]
  exact hk

end Hash
end Go.Proofs.Ytecfcodildjnnaa
