/- strings.ContainsAny of 0D 0A; strings.Cut at a byte. -/
import Derived.Test.YtjpmjhnjdnbopaaPStrI
namespace Go.Proofs.Ytjpmjhnjdnbopaa
open Go D
set_option linter.unusedVariables false
set_option linter.unusedSimpArgs false

theorem valid_spec {h : Heap} {r : Int} {R : Bool → Heap → Prop} (hk : R (Utf8.valid r) h) : CallT Try.prog unicode_utf8_ValidRune_no [.int .i32 r] h [.sc .bool] R := by
  apply unicode_utf8_ValidRune_call
  unfold unicode_utf8_ValidRune
  have ev : Utf8.valid r = (decide (0 ≤ r ∧ r < 55296) || decide (57344 ≤ r ∧ r ≤ 1114111)) := by
    unfold Utf8.valid
    rw [Bool.eq_iff_iff]
    simp
  rw [ev] at hk
  refine withJ.intro (fun _ h' => h' = h ∧ ¬ (0 ≤ r ∧ r < 55296) ∧ ¬ (57344 ≤ r ∧ r ≤ 1114111)) ?_ ?_
  · rintro _ h' ⟨rfl, h1, h2⟩
    rw [decide_eq_false h1, decide_eq_false h2] at hk
    exact hk
  · intro J hJ
    refine withJ.intro (fun (b : Bool) h' => h' = h ∧ b = decide (0 ≤ r ∧ r < 55296)) ?_ ?_
    · rintro b h' ⟨rfl, rfl⟩
      refine cnd_dec (fun h1 => ?_) (fun h1 => ?_)
      · rw [decide_eq_true h1] at hk
        exact hk
      · refine withJ.intro (fun (b : Bool) h2 => h2 = h' ∧ b = decide (57344 ≤ r ∧ r ≤ 1114111)) ?_ ?_
        · rintro b h2 ⟨rfl, rfl⟩
          refine cnd_dec (fun h3 => ?_) (fun h3 => hJ _ _ ⟨rfl, h1, h3⟩)
          rw [decide_eq_true h3, Bool.or_true] at hk
          exact hk
        · intro J2 hJ2
          refine cnd_dec (fun h3 => ?_) (fun h3 => ?_)
          · refine hJ2 _ _ ⟨rfl, ?_⟩
            rw [Bool.eq_iff_iff, decide_eq_true_eq, decide_eq_true_eq]
            omega
          · exact hJ2 _ _ ⟨rfl, (decide_eq_false (by omega)).symm⟩
    · intro J2 hJ2
      refine cnd_dec (fun h3 => ?_) (fun h3 => ?_)
      · refine hJ2 _ _ ⟨rfl, ?_⟩
        rw [Bool.eq_iff_iff, decide_eq_true_eq, decide_eq_true_eq]
        omega
      · exact hJ2 _ _ ⟨rfl, (decide_eq_false (by omega)).symm⟩

theorem enc_high {r : Int} (h : 128 ≤ r) (hv : Utf8.valid r = true) : ∃ b : UInt8, 2 ≤ (Utf8.encode r).size ∧ (Utf8.encode r).size ≤ 4 ∧ (bl (Utf8.encode r))[(Utf8.encode r).size - 1]? = some b ∧ 128 ≤ b.toNat := by
  have hb : ∀ x : Nat, 128 ≤ (UInt8.ofNat (0x80 + x % 64)).toNat := fun x => by
    rw [UInt8.toNat_ofNat']
    omega
  unfold Utf8.encode
  rw [if_pos hv]
  simp only
  rw [if_neg (by omega)]
  split
  · exact ⟨_, by show 2 ≤ 2; omega, by show 2 ≤ 4; omega, rfl, hb _⟩
  · split
    · exact ⟨_, by show 2 ≤ 3; omega, by show 3 ≤ 4; omega, rfl, hb _⟩
    · exact ⟨_, by show 2 ≤ 4; omega, by show 4 ≤ 4; omega, rfl, hb _⟩

theorem rng_row {s : ByteArray} {h : Heap} {K : Addr → Heap → Prop} (hk : ∀ h', h'.size = h.size + 1 → h'[h.size]? = some (.stringIter s 0) → Keep (fun _ => False) h h' → K ⟨h.size, 0, none⟩ h') : rngS s h K :=
  hk _ (by simp) (by simp) (keep_push h _)
theorem nxt_row {s : ByteArray} {pos b : Nat} {h : Heap} (hb : h[b]? = some (.stringIter s pos)) {Y : Int → Int → Heap → Prop} {N : Prop} (hN : ¬ pos < s.size → N)
    (hY : pos < s.size → ∀ h', h'.size = h.size → h'[b]? = some (.stringIter s (pos + (Utf8.decode s pos).2)) → Keep (· = b) h h' → Y (pos : Int) ((Utf8.decode s pos).1 : Int) h') : nxtS ⟨b, 0, none⟩ h Y N := by
  refine ⟨s, pos, rfl, hb, fun hlt => ?_, hN⟩
  have hbl := (Array.getElem?_eq_some_iff.1 hb).1
  refine hY hlt _ (by simp) ?_ ⟨by simp, fun x hx hne => ?_⟩
  · rw [Array.getElem?_setIfInBounds_self_of_lt hbl]
  · rw [Array.getElem?_setIfInBounds_ne (fun e => hne e.symm)]

def ixR (r : Int) : Int := if 0 ≤ r ∧ r < 128 then ixB crT (IntKind.u8.wrap r) else -1

theorem rune_spec {h : Heap} {r : Int} (h0 : 0 ≤ r) {R : Int → Heap → Prop} (hk : ∀ h', Keep (fun _ => False) h h' → R (ixR r) h') : CallT Try.prog strings_IndexRune_no [.string crT, .int .i32 r] h [.sc (.int .i64)] R := by
  apply strings_IndexRune_call
  unfold strings_IndexRune
  have hk0 := hk h (.refl _ _)
  have s2 : crT.size = 2 := rfl
  refine withJ.intro (fun (b : Bool) h' => h' = h ∧ b = decide (r < 128)) ?_ ?_
  · rintro b h' ⟨rfl, rfl⟩
    refine cnd_dec (fun h1 => ?_) (fun h1 => ?_)
    · refine indexByteH_spec ?_
      unfold ixR at hk0
      rw [if_pos ⟨h0, h1⟩] at hk0
      exact hk0
    · have hno : ixR r = -1 := by unfold ixR; rw [if_neg (by omega)]
      rw [hno] at hk hk0
      refine cnd_of (fun e => ?_) (fun e => ?_)
      · refine rng_row ?_
        intro h1 z1 b1 k1
        refine LoopT.intro (fun _ h2 => Keep (fun y => h'.size ≤ y) h' h2 ∧ ∃ pos, h2[h'.size]? = some (.stringIter crT pos) ∧ (pos = 0 ∨ pos = 1 ∨ pos = 2)) (fun _ h2 => match h2[h'.size]? with | some (.stringIter _ pos) => 2 - pos | _ => 0) ⟨k1.mono (fun _ _ h => h.elim), 0, b1, .inl rfl⟩ ?_
        rintro _ h2 ⟨k2, pos, b2, hp⟩
        refine nxt_row b2 (fun _ => hk h2 ⟨k2.size, fun b hb _ => k2.same b hb (by show ¬ h'.size ≤ b; omega)⟩) (fun hlt h3 z3 b3 k3 => ?_)
        rw [b2]
        rcases hp with rfl | rfl | rfl
        · have ed : Utf8.decode crT 0 = (13, 1) := by decide
          rw [ed] at b3 ⊢
          refine cnd_f (by decide) ⟨⟨k2.trans k3 (fun y _ hy => by have hy' : y = h'.size := hy; omega), 1, b3, .inr (.inl rfl)⟩, ?_⟩
          rw [b3]
          show 2 - 1 < 2 - 0
          omega
        · have ed : Utf8.decode crT 1 = (10, 1) := by decide
          rw [ed] at b3 ⊢
          refine cnd_f (by decide) ⟨⟨k2.trans k3 (fun y _ hy => by have hy' : y = h'.size := hy; omega), 2, b3, .inr (.inr rfl)⟩, ?_⟩
          rw [b3]
          show 2 - 2 < 2 - 1
          omega
        · rw [s2] at hlt
          omega
      · refine valid_spec ?_
        cases hv : Utf8.valid r with
        | false => exact cnd_t rfl hk0
        | true =>
          refine cnd_f rfl ?_
          obtain ⟨y, y1, y2, y3, y4⟩ := enc_high (by omega) hv
          have ew : w64 (((Utf8.encode r).size : Int) - 1) = (((Utf8.encode r).size - 1 : Nat) : Int) := by rw [w64_id (by omega) (by omega)]; omega
          first
            | refine withJ.intro (fun _ _ => False) (fun _ _ hh => hh.elim) ?_
              intro J hJ
            | skip
          refine LoopT.intro (fun (t : Int × Int) h2 => t = (w64 (((Utf8.encode r).size : Int) - 1), 0) ∧ h2 = h') (fun _ _ => 0) ⟨rfl, rfl⟩ ?_
          rintro t h2 ⟨rfl, rfl⟩
          rw [ew]
          refine cnd_dec (fun hlt => ?_) (fun _ => hk0)
          replace hlt : (((Utf8.encode r).size - 1 : Nat) : Int) < (crT.size : Int) := hlt
          rw [s2] at hlt
          have e1 : (Utf8.encode r).size - 1 = 1 := by omega
          refine withJ.intro (fun _ _ => False) (fun _ _ hh => hh.elim) ?_
          intro J1 _
          refine withJ.intro (fun _ _ => False) (fun _ _ hh => hh.elim) ?_
          intro J2 _
          refine ⟨10, by show (0 : Int) ≤ _; omega, ?_, ⟨y, by omega, by rw [Int.toNat_natCast]; exact y3, ?_⟩⟩
          · show (bl crT)[(((Utf8.encode r).size - 1 : Nat) : Int).toNat]? = some 10
            rw [e1]
            rfl
          · refine cnd_t ?_ ?_
            · rw [bne_iff_ne]
              intro e
              have e10 : (10 : UInt8).toNat = 10 := rfl
              omega
            · show ssl crT (w64 ((((Utf8.encode r).size - 1 : Nat) : Int) + 1)) (crT.size : Int) _
              rw [e1]
              refine ⟨by decide, by decide, by decide, ?_⟩
              refine ⟨y, by omega, by rw [Int.toNat_natCast]; rw [e1] at y3; exact y3, ?_⟩
              refine indexByteH_spec ?_
              have hix := ixB_is (crT.extract (w64 ((1 : Nat) + 1)).toNat (crT.size : Int).toNat) y
              have hnil : bl (crT.extract (w64 ((1 : Nat) + 1)).toNat (crT.size : Int).toNat) = [] := by decide
              rw [hnil] at hix
              rcases hix with ⟨e2, _⟩ | ⟨i, _, hi, _⟩
              · show cnd (decide (ixB _ (((y.toNat : Nat)) : Int) < 0)) _ _
                rw [e2]
                exact cnd_pos (by decide) hk0
              · simp at hi
  · intro J hJ
    refine cnd_pos (by omega) (hJ _ _ ⟨rfl, rfl⟩)

/-- is a byte 0D or 0A? -/
def isCL (b : UInt8) : Bool := b == 13 || b == 10
def bareL (s : List UInt8) : Bool := s.any isCL

theorem ixR_is (b : UInt8) (h : b.toNat < 128) : decide (ixR (b.toNat : Int) ≥ 0) = isCL b := by
  have : ∀ n : Fin 128, decide (ixR (((UInt8.ofNat n.val).toNat : Nat) : Int) ≥ 0) = isCL (UInt8.ofNat n.val) := by decide +kernel
  have h2 := this ⟨b.toNat, h⟩
  simpa using h2
theorem ixR_big {r : Int} (h : 128 ≤ r) : ixR r = -1 := by unfold ixR; rw [if_neg (by omega)]

/-- what a character's reading takes: a byte below 128 alone, or bytes above it -/
theorem dec_is (s : ByteArray) {p : Nat} {b0 : UInt8} (hb : (bl s)[p]? = some b0) : (b0.toNat < 128 ∧ Utf8.decode s p = (b0.toNat, 1)) ∨
    (128 ≤ b0.toNat ∧ 128 ≤ (Utf8.decode s p).1 ∧ 1 ≤ (Utf8.decode s p).2 ∧ ∀ (j : Nat) (b : UInt8), p ≤ j → j < p + (Utf8.decode s p).2 → (bl s)[j]? = some b → 128 ≤ b.toNat) := by
  have hp : p < s.size := (List.getElem?_eq_some_iff.1 hb).1
  have get : ∀ {k : Nat} {b : UInt8}, (bl s)[p + k]? = some b → (s.get! (p + k)).toNat = b.toNat := fun {k b} h => by
    have hlt : p + k < s.size := (List.getElem?_eq_some_iff.1 h).1
    have e : s.get! (p + k) = s[p + k]'hlt := by
      simp [ByteArray.get!, getElem!_pos, hlt]
      rfl
    have e2 : (bl s)[p + k]? = some (s[p + k]'hlt) := by
      rw [List.getElem?_eq_getElem (show p + k < (bl s).length from hlt)]
      rfl
    rw [h] at e2
    injection e2 with e2
    rw [e, e2]
  have g0 : (s.get! (p + 0)).toNat = b0.toNat := get (k := 0) (by simpa using hb)
  by_cases h0 : b0.toNat < 128
  · left
    refine ⟨h0, ?_⟩
    unfold Utf8.decode
    simp only [g0]
    rw [if_pos h0]
  · right
    have hc : ∀ {k : Nat}, (decide (p + k < s.size) && (s.get! (p + k)).toNat / 64 == 2) = true → ∀ (b : UInt8), (bl s)[p + k]? = some b → 128 ≤ b.toNat := fun {k} h b hb2 => by
      have e := get hb2
      simp only [Bool.and_eq_true, decide_eq_true_eq, beq_iff_eq] at h
      omega
    have one : ∀ (j : Nat) (b : UInt8), p ≤ j → j < p + 1 → (bl s)[j]? = some b → 128 ≤ b.toNat := fun j b h1 h2 h3 => by
      have : j = p := by omega
      subst this
      rw [hb] at h3
      injection h3 with h3
      subst h3
      omega
    have err : 128 ≤ Utf8.runeError := by decide
    refine ⟨by omega, ?_⟩
    unfold Utf8.decode
    simp only [g0]
    rw [if_neg h0]
    split
    · rename_i c1
      simp only [Bool.and_eq_true] at c1
      split
      · rename_i c2
        refine ⟨c2, by omega, fun j b h1 h2 h3 => ?_⟩
        by_cases hj : j < p + 1
        · exact one j b h1 hj h3
        · have : j = p + 1 := by omega
          subst this
          exact hc (k := 1) (by simpa using c1.2) b h3
      · exact ⟨err, by omega, one⟩
    · split
      · rename_i c1
        simp only [Bool.and_eq_true] at c1
        split
        · rename_i c2
          simp only [Bool.and_eq_true, decide_eq_true_eq] at c2
          refine ⟨by omega, by omega, fun j b h1 h2 h3 => ?_⟩
          by_cases hj : j < p + 1
          · exact one j b h1 hj h3
          · by_cases hj2 : j = p + 1
            · subst hj2
              exact hc (k := 1) (by simpa using c1.1.2) b h3
            · have : j = p + 2 := by omega
              subst this
              exact hc (k := 2) (by simpa using c1.2) b h3
        · exact ⟨err, by omega, one⟩
      · split
        · rename_i c1
          simp only [Bool.and_eq_true] at c1
          split
          · rename_i c2
            simp only [Bool.and_eq_true, decide_eq_true_eq] at c2
            refine ⟨by omega, by omega, fun j b h1 h2 h3 => ?_⟩
            by_cases hj : j < p + 1
            · exact one j b h1 hj h3
            · by_cases hj2 : j = p + 1
              · subst hj2
                exact hc (k := 1) (by simpa using c1.1.1.2) b h3
              · by_cases hj3 : j = p + 2
                · subst hj3
                  exact hc (k := 2) (by simpa using c1.1.2) b h3
                · have : j = p + 3 := by omega
                  subst this
                  exact hc (k := 3) (by simpa using c1.2) b h3
          · exact ⟨err, by omega, one⟩
        · exact ⟨err, by omega, one⟩
end Go.Proofs.Ytjpmjhnjdnbopaa
