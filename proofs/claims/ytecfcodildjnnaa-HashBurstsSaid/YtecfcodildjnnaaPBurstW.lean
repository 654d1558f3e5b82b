/- stowagelaw2.HashBursts returns true and writes nothing that was there. -/
import Derived.Test.YtecfcodildjnnaaPBurst
import Derived.Test.YtecfcodildjnnaaPStream
namespace Go.Proofs.Ytecfcodildjnnaa
open Go D
set_option linter.unusedVariables false
set_option linter.unusedSimpArgs false
namespace Hash

/-- a bit is turned -/
def flipY (b : UInt8) (s : Nat) : UInt8 := UInt8.ofNat (b.toNat ^^^ 2 ^ s)
def flipB (bs : List UInt8) (n : Nat) : List UInt8 := bs.set (n / 8) (flipY (bs.getD (n / 8) 0) (n % 8))
def turnN (bs : List UInt8) (P pat : Nat) : Nat → List UInt8
  | 0 => bs
  | k + 1 => if pat.testBit k && decide (P + k < 8 * bs.length) then flipB (turnN bs P pat k) (P + k) else turnN bs P pat k

theorem flipB_length (bs : List UInt8) (n : Nat) : (flipB bs n).length = bs.length := by simp [flipB]
theorem turnN_length (bs : List UInt8) (P pat : Nat) : ∀ k, (turnN bs P pat k).length = bs.length
  | 0 => rfl
  | k + 1 => by
    unfold turnN
    split
    · rw [flipB_length, turnN_length bs P pat k]
    · exact turnN_length bs P pat k

theorem flipY_val (b : UInt8) {s : Nat} (hs : s < 8) : (flipY b s).toNat = b.toNat ^^^ 2 ^ s := by
  unfold flipY
  have h1 := b.toNat_lt
  have h2 : b.toNat ^^^ 2 ^ s < 2 ^ 8 := Nat.xor_lt_two_pow (by omega) (Nat.pow_lt_pow_right (by decide) hs)
  rw [UInt8.toNat_ofNat']
  exact Nat.mod_eq_of_lt h2

theorem flipB_bit {bs : List UInt8} {n : Nat} (hn : n < 8 * bs.length) (m : Nat) : bitAt (flipB bs n) m = (bitAt bs m != decide (m = n)) := by
  unfold bitAt flipB
  by_cases hm : n / 8 = m / 8
  · have e : (bs.set (n / 8) (flipY (bs.getD (n / 8) 0) (n % 8))).getD (m / 8) 0 = flipY (bs.getD (m / 8) 0) (n % 8) := by
      rw [List.getD_eq_getElem?_getD, List.getElem?_set, if_pos hm, if_pos (by omega), hm]
      rfl
    rw [e, flipY_val _ (by omega), Nat.testBit_xor, Nat.testBit_two_pow]
    have : decide (n % 8 = m % 8) = decide (m = n) := by
      rw [Bool.eq_iff_iff]; simp; omega
    rw [this]
  · have e : (bs.set (n / 8) (flipY (bs.getD (n / 8) 0) (n % 8))).getD (m / 8) 0 = bs.getD (m / 8) 0 := by
      rw [List.getD_eq_getElem?_getD, List.getElem?_set, if_neg hm, ← List.getD_eq_getElem?_getD]
    rw [e]
    have : decide (m = n) = false := by simp; omega
    rw [this]
    generalize (bs.getD (m / 8) 0).toNat.testBit (m % 8) = z
    cases z <;> rfl

theorem turnN_bit (bs : List UInt8) (P pat : Nat) (m : Nat) (hm : m < 8 * bs.length) : ∀ k, bitAt (turnN bs P pat k) m = (bitAt bs m != (decide (P ≤ m ∧ m < P + k) && pat.testBit (m - P)))
  | 0 => by
    have : decide (P ≤ m ∧ m < P + 0) = false := by simp
    rw [this]
    show bitAt bs m = _
    cases bitAt bs m <;> rfl
  | k + 1 => by
    have ih := turnN_bit bs P pat m hm k
    unfold turnN
    by_cases hmk : m = P + k
    · have e1 : decide (P ≤ m ∧ m < P + k) = false := by simp; omega
      have e2 : decide (P ≤ m ∧ m < P + (k + 1)) = true := by simp; omega
      have e3 : m - P = k := by omega
      rw [e1, Bool.false_and] at ih
      rw [e2, e3, Bool.true_and]
      by_cases hb : pat.testBit k = true
      · rw [hb, if_pos (by simp; omega), flipB_bit (by rw [turnN_length]; omega), ih]
        have : decide (m = P + k) = true := by simpa using hmk
        rw [this]
        cases bitAt bs m <;> rfl
      · have hb' : pat.testBit k = false := by simpa using hb
        rw [hb', if_neg (by simp), ih]
    · have e1 : decide (P ≤ m ∧ m < P + (k + 1)) = decide (P ≤ m ∧ m < P + k) := by
        rw [Bool.eq_iff_iff]; simp; omega
      rw [e1, ← ih]
      split
      · rename_i hc
        simp only [Bool.and_eq_true, decide_eq_true_eq] at hc
        rw [flipB_bit (by rw [turnN_length]; omega)]
        have : decide (m = P + k) = false := by simpa using hmk
        rw [this]
        cases bitAt (turnN bs P pat k) m <;> rfl
      · rfl

theorem flip_val (b : UInt8) {s : Int} (h0 : 0 ≤ s) (h1 : s < 8) : Value.int .u8 (xorI .u8 (b.toNat : Int) (shlI .u8 1 s)) = byteV (flipY b s.toNat) := by
  unfold byteV
  have hs : s.toNat < 8 := by omega
  rw [flipY_val b hs]
  have e1 : shlI .u8 1 s = ((2 ^ s.toNat : Nat) : Int) := by
    unfold shlI
    have em : min s.toNat IntKind.u8.bits = s.toNat := by show min s.toNat 8 = _; omega
    rw [em, wrap_u8, Int.one_mul]
    have : (2 : Nat) ^ s.toNat < 2 ^ 8 := Nat.pow_lt_pow_right (by decide) hs
    have e2 : ((2 : Int) ^ s.toNat) = ((2 ^ s.toNat : Nat) : Int) := by simp
    rw [e2]
    obtain ⟨q, hq⟩ : ∃ q, q = 2 ^ s.toNat := ⟨_, rfl⟩
    rw [← hq] at this ⊢
    omega
  rw [e1]
  unfold xorI
  have h2 : (2 : Nat) ^ s.toNat < 2 ^ 8 := Nat.pow_lt_pow_right (by decide) hs
  have hb := b.toNat_lt
  rw [BitVec.toNat_xor]
  simp only [IntKind.bits]
  rw [ofInt_nat (by omega), ofInt_nat h2, wrap_u8]
  have h3 : b.toNat ^^^ 2 ^ s.toNat < 2 ^ 8 := Nat.xor_lt_two_pow (by omega) h2
  congr 1
  omega

theorem mod_step (pat k : Nat) : pat % 2 ^ (k + 1) = pat % 2 ^ k + 2 ^ k * (pat.testBit k).toNat := by
  rw [Nat.mod_pow_succ, Nat.testBit_eq_decide_div_mod_eq]
  rcases Nat.mod_two_eq_zero_or_one (pat / 2 ^ k) with h | h <;> rw [h] <;> simp

theorem bit_val (pat : W) {k : Int} (h0 : 0 ≤ k) (h1 : k < 32) : (andI .u32 (shrI .u32 (u pat) k) 1 == 1) = pat.toNat.testBit k.toNat := by
  rw [u_shr _ h0 (by omega), show andI .u32 (u (pat >>> k.toNat)) 1 = u ((pat >>> k.toNat) &&& 1#32) from u_and _ 1#32, show (1 : Int) = u 1#32 from rfl, u_beq]
  have e : ((pat >>> k.toNat) &&& 1#32).toNat = (pat.toNat >>> k.toNat) % 2 := by
    rw [BitVec.toNat_and, BitVec.toNat_ushiftRight]
    exact Nat.and_one_is_mod _
  rw [Nat.testBit_eq_decide_div_mod_eq, ← Nat.shiftRight_eq_div_pow, ← e]
  rw [Bool.eq_iff_iff]
  simp only [beq_iff_eq, decide_eq_true_eq]
  constructor
  · intro h; rw [h]; rfl
  · intro h; exact BitVec.eq_of_toNat_eq (by rw [h]; rfl)

theorem hashBursts_spec {h : Heap} {x0 : Sl} {bs : List UInt8} (hb : Rb h x0.a x0.len bs) {at_ : Int} (hat : InI at_) {pat : W} {R : Bool → Heap → Prop} (hR : ∀ h', Keep (fun _ => False) h h' → R true h') :
    CallT Try.prog law2_HashBursts_no [.slice x0.a x0.len x0.cap, .int .i64 at_, .int .u32 (u pat)] h [.sc .bool] R := by
  apply law2_HashBursts_call
  unfold law2_HashBursts
  have hlen := hb.len
  refine withJ.inl (withJ.inl ?_)
  by_cases h0 : x0.len = 0
  · refine cnd_t (by simp [h0]) (cnd_t rfl (awake_spec fun h' hk => hR h' hk))
  refine cnd_f (by simp; omega) ?_
  by_cases h5 : 5000 < x0.len
  · refine cnd_t (by simp; omega) (awake_spec fun h' hk => hR h' hk)
  refine cnd_f (by simp; omega) ?_
  obtain ⟨E, hE⟩ : ∃ E : Nat, E = 8 * x0.len := ⟨_, rfl⟩
  have wE : w64 (8 * ((0 : Int) + x0.len)) = E := by rw [w64_id (by omega) (by omega)]; omega
  unfold InI at hat
  obtain ⟨P, hP, hPE⟩ : ∃ P : Nat, (w64 (at_.tmod E + E)).tmod E = P ∧ P < E := by
    have e1 : -(E : Int) < at_.tmod E := by
      have := Int.lt_tmod_of_pos at_ (show (0 : Int) < E by omega)
      omega
    have e2 : at_.tmod E < E := Int.tmod_lt_of_pos _ (by omega)
    rw [w64_id (by omega) (by omega), Int.tmod_eq_emod_of_nonneg (by omega)]
    have e3 := Int.emod_nonneg (at_.tmod E + E) (show (E : Int) ≠ 0 by omega)
    have e4 := Int.emod_lt_of_pos (at_.tmod E + E) (show (0 : Int) < E by omega)
    exact ⟨((at_.tmod E + E) % E).toNat, by omega, by omega⟩
  simp only [wE, hP]
  refine newB_row ?_
  intro h1 s1 r1 k1
  refine (hb.keep k1 (fun _ _ _ h => h)).rd ?_
  have e0 : Bl h1 (some ⟨h.size, 0, none⟩) 0 0 [] := .inr ⟨h.size, 0, _, rfl, r1, by simp, by simp, by simp, by simp⟩
  refine e0.push (new := bs) (by omega) hlen rfl ?_
  intro a2 c2 h2 q1 q2 q3
  rw [List.nil_append] at q1
  have new2 : ∀ b, blk a2 b → h.size ≤ b := fun b hb' => by
    rcases q3 b hb' with hh | hh
    · rw [blk_some] at hh; simp only at hh; omega
    · omega
  have k2 : Keep (fun y => h.size ≤ y) h h2 := (k1.mono (fun _ _ h => h.elim)).trans q2 (fun y _ hb' => by rw [blk_some] at hb'; simp only at hb'; omega)
  have hpl := pat.isLt
  refine LoopT.intro (fun (t : Bool × Int) h' => 0 ≤ t.2 ∧ t.2 ≤ 32 ∧ Bl h' a2 (0 + x0.len) c2 (turnN bs P pat.toNat t.2.toNat) ∧ t.1 = decide (pat.toNat % 2 ^ min t.2.toNat (E - P) ≠ 0) ∧ Keep (fun y => h.size ≤ y) h h') (fun t _ => (32 - t.2).toNat)
    ⟨by simp, by simp, q1, by simp [Nat.mod_one], k2⟩ ?_
  rintro ⟨t, k⟩ h3 ⟨p1, p2, p3, p4, p5⟩
  replace p1 : 0 ≤ k := p1
  replace p2 : k ≤ 32 := p2
  replace p3 : Bl h3 a2 (0 + x0.len) c2 (turnN bs P pat.toNat k.toNat) := p3
  replace p4 : t = decide (pat.toNat % 2 ^ min k.toNat (E - P) ≠ 0) := p4
  refine cnd_dec (fun hk => ?_) (fun hk => ?_)
  · replace hk : k < 32 := hk
    refine withJ.inl ⟨by omega, by omega, ?_⟩
    refine withJ.inl (geZ_of p1 ?_)
    have hn : w64 ((P : Int) + k) = ((P + k.toNat : Nat) : Int) := by rw [w64_id (by omega) (by omega)]; omega
    have hbv := bit_val pat p1 hk
    have hw : w64 (k + 1) = k + 1 := w64_id (by omega) (by omega)
    have hk1 : (k + 1).toNat = k.toNat + 1 := by omega
    show cnd (andI .u32 (shrI .u32 (u pat) k) 1 == 1) _ _
    rw [hbv]
    have ms := mod_step pat.toNat k.toNat
    -- the state where nothing is turned
    have stay : (pat.toNat.testBit k.toNat && decide (P + k.toNat < 8 * bs.length)) = false → (0 ≤ w64 (k + 1) ∧ w64 (k + 1) ≤ 32 ∧ Bl h3 a2 (0 + x0.len) c2 (turnN bs P pat.toNat (w64 (k + 1)).toNat) ∧ t = decide (pat.toNat % 2 ^ min (w64 (k + 1)).toNat (E - P) ≠ 0) ∧ Keep (fun y => h.size ≤ y) h h3) ∧ (32 - w64 (k + 1)).toNat < (32 - k).toNat := by
      intro hno
      rw [hw, hk1]
      refine ⟨⟨by omega, by omega, ?_, ?_, p5⟩, by omega⟩
      · unfold turnN
        rw [hno, if_neg (by simp)]
        exact p3
      · rw [p4]
        by_cases hin : P + k.toNat < 8 * bs.length
        · have hbit : pat.toNat.testBit k.toNat = false := by
            have : decide (P + k.toNat < 8 * bs.length) = true := by simpa using hin
            rw [this, Bool.and_true] at hno
            exact hno
          rw [hbit] at ms
          rw [show min k.toNat (E - P) = k.toNat by omega, show min (k.toNat + 1) (E - P) = k.toNat + 1 by omega, ms]
          simp
        · rw [show min k.toNat (E - P) = min (k.toNat + 1) (E - P) by omega]
    refine cnd_of (fun hbit => ?_) (fun hbit => ?_)
    · show cnd (decide (w64 ((P : Int) + k) < (E : Int))) _ _
      rw [hn]
      refine cnd_dec (fun hin => ?_) (fun hin => ?_)
      · have hin' : P + k.toNat < 8 * bs.length := by omega
        obtain ⟨n, hnn⟩ : ∃ n, n = P + k.toNat := ⟨_, rfl⟩
        rw [← hnn]
        have d8 : w64 (((n : Nat) : Int).tdiv 8) = ((n / 8 : Nat) : Int) := by
          rw [Int.tdiv_eq_ediv_of_nonneg (by omega), w64_id (by omega) (by omega)]; omega
        have m8 : ((n : Nat) : Int).tmod 8 = ((n % 8 : Nat) : Int) := by
          rw [Int.tmod_eq_emod_of_nonneg (by omega)]; omega
        simp only [d8, m8]
        have tl := turnN_length bs P pat.toNat k.toNat
        refine p3.rb.at (by omega) (by omega) ?_
        intro b hbb
        rw [Int.toNat_natCast] at hbb
        refine geZ_of (by omega) ?_
        refine SlR.idx p3 (by omega) (by omega) fun x hx hsp => ?_
        subst hx
        rw [flip_val b (by omega) (by omega), Int.toNat_natCast, Int.toNat_natCast, Nat.mul_one]
        refine SlR.set p3 (by omega) rfl ?_
        intro h4 s4 w1 k4
        show (0 ≤ w64 (k + 1) ∧ w64 (k + 1) ≤ 32 ∧ Bl h4 _ (0 + x0.len) c2 (turnN bs P pat.toNat (w64 (k + 1)).toNat) ∧ true = decide (pat.toNat % 2 ^ min (w64 (k + 1)).toNat (E - P) ≠ 0) ∧ Keep (fun y => h.size ≤ y) h h4) ∧ (32 - w64 (k + 1)).toNat < (32 - k).toNat
        rw [hw, hk1]
        refine ⟨⟨by omega, by omega, ?_, ?_, p5.trans k4 (fun y _ e => by
          have e' : y = x.block := e
          exact new2 y (blk_some.2 e'.symm))⟩, by omega⟩
        · unfold turnN
          rw [hbit, if_pos (by simpa using hin'), ← hnn]
          unfold flipB
          have e : (turnN bs P pat.toNat k.toNat).getD (n / 8) 0 = b := getD_of hbb
          rw [e]
          unfold Bl
          rw [List.map_set]
          exact w1
        · rw [show min (k.toNat + 1) (E - P) = k.toNat + 1 by omega, ms, hbit]
          have : 0 < 2 ^ k.toNat := Nat.pow_pos (by decide)
          symm
          rw [decide_eq_true_eq]
          simp
      · refine stay ?_
        have : decide (P + k.toNat < 8 * bs.length) = false := by simp; omega
        rw [this, Bool.and_false]
    · refine stay ?_
      rw [hbit, Bool.false_and]
  · have hk32 : k = 32 := by
      have : ¬ k < 32 := hk
      omega
    subst hk32
    refine withJ.inl ?_
    have hb3 : Rb h3 x0.a x0.len bs := hb.keep p5 (fun h0 b hb' hge => by have := hb.lt h0 hb'; have hge' : h.size ≤ b := hge; omega)
    refine crc_spec hb3 (by omega) ?_
    refine crc_spec p3.rb (by omega) ?_
    have tl := turnN_length bs P pat.toNat (32 : Int).toNat
    have bu := burst (bs := bs) (cs := turnN bs P pat.toNat (32 : Int).toNat) tl.symm (P := P) hpl (by omega) (fun n hn => by
      rw [turnN_bit bs P pat.toNat n hn]
      have e : (decide (P ≤ n ∧ n < P + (32 : Int).toNat) && pat.toNat.testBit (n - P)) = (decide (P ≤ n) && pat.toNat.testBit (n - P)) := by
        by_cases h1 : P ≤ n
        · by_cases h2 : n < P + 32
          · have e1 : decide (P ≤ n ∧ n < P + (32 : Int).toNat) = true := by simp; omega
            have e2 : decide (P ≤ n) = true := by simpa using h1
            rw [e1, e2]
          · have e3 : pat.toNat.testBit (n - P) = false := Nat.testBit_lt_two_pow (Nat.lt_of_lt_of_le hpl (Nat.pow_le_pow_right (by decide) (by omega)))
            rw [e3, Bool.and_false, Bool.and_false]
        · have e1 : decide (P ≤ n ∧ n < P + (32 : Int).toNat) = false := by simp; omega
          have e2 : decide (P ≤ n) = false := by simpa using h1
          rw [e1, e2]
      rw [e]
      cases bitAt bs n <;> cases (decide (P ≤ n) && pat.toNat.testBit (n - P)) <;> rfl)
    have hm : pat.toNat % 2 ^ min (32 : Int).toNat (E - P) = pat.toNat % 2 ^ (8 * bs.length - P) := by
      by_cases h32 : 32 ≤ E - P
      · rw [show min (32 : Int).toNat (E - P) = 32 by simp; omega, Nat.mod_eq_of_lt hpl, Nat.mod_eq_of_lt (Nat.lt_of_lt_of_le hpl (Nat.pow_le_pow_right (by decide) (by omega)))]
      · rw [show min (32 : Int).toNat (E - P) = 8 * bs.length - P by simp; omega]
    refine cnd_t ?_ ?_
    · show (t == (u (crcF bs) != u (crcF _))) = true
      rw [p4, hm]
      have e : (u (crcF bs) != u (crcF (turnN bs P pat.toNat (32 : Int).toNat))) = decide (pat.toNat % 2 ^ (8 * bs.length - P) ≠ 0) := by
        rw [Bool.eq_iff_iff]
        simp only [bne_iff_ne, ne_eq, decide_eq_true_eq]
        rw [← bu]
        exact ⟨fun h1 h2 => h1 (by rw [h2]), fun h1 h2 => h1 (u_inj h2)⟩
      rw [e]
      simp
    · refine awake_spec fun h' hk' => hR h' ?_
      have kk := p5.trans hk' (fun _ _ h => h.elim)
      exact ⟨kk.size, fun b hb' _ => kk.same b hb' (by omega)⟩

end Hash
end Go.Proofs.Ytecfcodildjnnaa
