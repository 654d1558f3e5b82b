/- strings.Index of 0D 0A, strings.Cut at a byte. -/
import Derived.Test.YtjpmjhnjdnbopaaPStrH
namespace Go.Proofs.Ytjpmjhnjdnbopaa
open Go D
set_option linter.unusedVariables false
set_option linter.unusedSimpArgs false

theorem roll {a b c : Nat} (ha : a < 256) (hb : b < 256) (hc : c < 256) :
    IntKind.u32.wrap ((IntKind.u32.wrap ((IntKind.u32.wrap (((((a : Int) * 16777619 + b) % 4294967296)) * 16777619)) + (IntKind.u32.wrap (c : Int)))) - (IntKind.u32.wrap (637696617 * (IntKind.u32.wrap (a : Int))))) = ((b : Int) * 16777619 + c) % 4294967296 := by
  simp only [wrap_u32]
  omega

theorem at2_cut {s : ByteArray} {i : Nat} (hi : i + 2 ≤ s.size) {K : ByteArray → Prop} (hk : ∀ x, seq x crT = decide (At2 (bl s) i) → K x) {lo hi' : Int} (h1 : lo = (i : Int)) (h2 : hi' = ((i + 2 : Nat) : Int)) : ssl s lo hi' K := by
  subst h1 h2
  refine ⟨by omega, by omega, by omega, hk _ ?_⟩
  rw [Int.toNat_natCast, Int.toNat_natCast, ← piece_is]
  unfold seq
  rw [beq_toListBytes]

theorem rabin_spec {h : Heap} {s : ByteArray} (h2 : 2 ≤ s.size) (hs : s.size ≤ 1000000000) {R : Int → Heap → Prop} (hk : R (oI (crlf (bl s))) h) : CallT Try.prog internal_bytealg_IndexRabinKarp_string_no [.string s, .string crT] h [.sc (.int .i64)] R := by
  apply internal_bytealg_IndexRabinKarp_string_call
  unfold internal_bytealg_IndexRabinKarp_string
  refine hash_spec ?_
  have hlen := bl_len s
  have l0 : 0 < (bl s).length := by omega
  have l1 : 1 < (bl s).length := by omega
  -- a byte by its place
  have byte : ∀ {i : Nat} {b : UInt8}, (bl s)[i]? = some b → b.toNat < 256 := fun {i b} _ => b.toNat_lt
  have q0 : ∀ (b : UInt8), b.toNat = 13 ↔ b = 13 := fun b => ⟨fun e => UInt8.toNat_inj.1 e, fun e => by subst e; rfl⟩
  have q1 : ∀ (b : UInt8), b.toNat = 10 ↔ b = 10 := fun b => ⟨fun e => UInt8.toNat_inj.1 e, fun e => by subst e; rfl⟩
  refine LoopT.intro (fun (t : Int × Int) h' => h' = h ∧ (t = (0, 0) ∨ t = ((((bl s)[0].toNat : Nat) : Int), 1) ∨ t = (((((bl s)[0].toNat : Nat) : Int) * (16777619 : Int) + (((bl s)[1].toNat : Nat) : Int)) % (4294967296 : Int), 2))) (fun t _ => (2 - t.2).toNat) ⟨rfl, .inl rfl⟩ ?_
  rintro t h' ⟨rfl, ht⟩
  have b0 := (bl s)[0].toNat_lt
  have b1 := (bl s)[1].toNat_lt
  rcases ht with rfl | rfl | rfl
  · refine cnd_pos (by decide) ⟨_, by decide, List.getElem?_eq_getElem l0, ?_⟩
    refine ⟨⟨rfl, .inr (.inl ?_)⟩, by show ((2 : Int) - w64 (0 + 1)).toNat < ((2 : Int) - 0).toNat; decide⟩
    show (IntKind.u32.wrap (IntKind.u32.wrap (0 * 16777619) + IntKind.u32.wrap (((bl s)[0].toNat : Nat) : Int)), w64 (0 + 1)) = _
    simp only [wrap_u32]
    have e : (((0 : Int) * (16777619 : Int) % (4294967296 : Int) + (((bl s)[0].toNat : Nat) : Int) % (4294967296 : Int)) % (4294967296 : Int)) = (((bl s)[0].toNat : Nat) : Int) := by omega
    rw [e]
    rfl
  · refine cnd_pos (by show (1 : Int) < ((2 : Nat) : Int); decide) ⟨_, by show (0 : Int) ≤ 1; decide, List.getElem?_eq_getElem l1, ?_⟩
    refine ⟨⟨rfl, .inr (.inr ?_)⟩, by show ((2 : Int) - w64 (1 + 1)).toNat < ((2 : Int) - 1).toNat; decide⟩
    show (IntKind.u32.wrap (IntKind.u32.wrap ((((bl s)[0].toNat : Nat) : Int) * 16777619) + IntKind.u32.wrap (((bl s)[1].toNat : Nat) : Int)), w64 (1 + 1)) = _
    simp only [wrap_u32]
    have e : (((((bl s)[0].toNat : Nat) : Int) * (16777619 : Int) % (4294967296 : Int) + (((bl s)[1].toNat : Nat) : Int) % (4294967296 : Int)) % (4294967296 : Int)) = ((((bl s)[0].toNat : Nat) : Int) * (16777619 : Int) + (((bl s)[1].toNat : Nat) : Int)) % (4294967296 : Int) := by omega
    rw [e]
    rfl
  · refine cnd_neg (by show ¬ (2 : Int) < ((2 : Nat) : Int); decide) ?_
    have g0 : (bl s)[0]? = some (bl s)[0] := List.getElem?_eq_getElem l0
    have g1 : (bl s)[1]? = some (bl s)[1] := List.getElem?_eq_getElem l1
    generalize (bl s)[0] = x0 at *
    generalize (bl s)[1] = x1 at *
    refine withJ.intro (fun _ h2 => h2 = h' ∧ ¬ At2 (bl s) 0) ?_ ?_
    · rintro _ h2 ⟨rfl, hn0⟩
      refine LoopT.intro (fun (t : Int × Int) h3 => h3 = h2 ∧ 2 ≤ t.2 ∧ t.2 ≤ s.size ∧ (∃ a b : UInt8, (bl s)[t.2.toNat - 2]? = some a ∧ (bl s)[t.2.toNat - 1]? = some b ∧ t.1 = ((a.toNat : Int) * 16777619 + (b.toNat : Int)) % 4294967296) ∧ ∀ j, j + 1 < t.2.toNat → ¬ At2 (bl s) j) (fun t _ => (s.size - t.2).toNat) ⟨rfl, by show (2 : Int) ≤ 2; omega, by show (2 : Int) ≤ s.size; omega, ⟨x0, x1, g0, g1, rfl⟩, fun j hj => by
        have : j = 0 := by
          have hj' : j + 1 < 2 := hj
          omega
        subst this
        exact hn0⟩ ?_
      rintro ⟨hh, i⟩ h3 ⟨rfl, p1, p2, ⟨a, b, ga, gb, ph⟩, pn⟩
      replace p1 : 2 ≤ i := p1
      replace p2 : i ≤ s.size := p2
      replace ga : (bl s)[i.toNat - 2]? = some a := ga
      replace gb : (bl s)[i.toNat - 1]? = some b := gb
      replace ph : hh = ((a.toNat : Int) * 16777619 + (b.toNat : Int)) % 4294967296 := ph
      replace pn : ∀ j, j + 1 < i.toNat → ¬ At2 (bl s) j := pn
      subst ph
      refine cnd_dec (fun hi => ?_) (fun hi => ?_)
      · replace hi : i < (s.size : Int) := hi
        have li : i.toNat < (bl s).length := by omega
        have gc : (bl s)[i.toNat]? = some (bl s)[i.toNat] := List.getElem?_eq_getElem li
        generalize (bl s)[i.toNat] = c at gc
        refine ⟨c, by show 0 ≤ i; omega, gc, ?_⟩
        show sidx s (w64 (i - 2)) _
        rw [w64_id (x := i - 2) (by omega) (by omega)]
        refine ⟨a, by omega, by rw [show (i - 2).toNat = i.toNat - 2 by omega]; exact ga, ?_⟩
        show withJ _ _
        rw [roll a.toNat_lt b.toNat_lt c.toNat_lt]
        have la := a.toNat_lt
        have lb := b.toNat_lt
        have lc := c.toNat_lt
        have hat : At2 (bl s) (i.toNat - 1) ↔ b = 13 ∧ c = 10 := by
          unfold At2
          rw [gb, show i.toNat - 1 + 1 = i.toNat by omega, gc]
          simp
        refine withJ.intro (fun (r : Bool) h4 => h4 = h3 ∧ r = decide (At2 (bl s) (i.toNat - 1))) ?_ ?_
        · rintro r h4 ⟨rfl, rfl⟩
          refine cnd_dec (fun hy => ?_) (fun hno => ?_)
          · show R (w64 (w64 (i + 1) - 2)) h4
            rw [w64_id (x := i + 1) (by omega) (by omega), w64_id (by omega) (by omega)]
            rw [crlf_some hy (fun j hj => pn j (by omega))] at hk
            have e : ((i.toNat - 1 : Nat) : Int) = i + 1 - 2 := by omega
            show R (i + 1 - 2) h4
            rw [← e]
            exact hk
          · show (h4 = h4 ∧ 2 ≤ w64 (i + 1) ∧ w64 (i + 1) ≤ s.size ∧ (∃ x y : UInt8, (bl s)[(w64 (i + 1)).toNat - 2]? = some x ∧ (bl s)[(w64 (i + 1)).toNat - 1]? = some y ∧ ((b.toNat : Int) * 16777619 + (c.toNat : Int)) % 4294967296 = ((x.toNat : Int) * 16777619 + (y.toNat : Int)) % 4294967296) ∧ ∀ j, j + 1 < (w64 (i + 1)).toNat → ¬ At2 (bl s) j) ∧ (s.size - w64 (i + 1)).toNat < (s.size - i).toNat
            rw [w64_id (x := i + 1) (by omega) (by omega), show (i + 1).toNat = i.toNat + 1 by omega]
            refine ⟨⟨rfl, by omega, by omega, ⟨b, c, by rw [show i.toNat + 1 - 2 = i.toNat - 1 by omega]; exact gb, gc, rfl⟩, fun j hj => ?_⟩, by omega⟩
            by_cases h1 : j + 1 < i.toNat
            · exact pn j h1
            · have : j = i.toNat - 1 := by omega
              rw [this]
              exact hno
        · intro J hJ
          refine cnd_of (fun e => ?_) (fun e => ?_)
          · show ssl s (w64 (w64 (i + 1) - 2)) (w64 (i + 1)) _
            rw [w64_id (x := i + 1) (by omega) (by omega), w64_id (x := i + 1 - 2) (by omega) (by omega)]
            refine at2_cut (i := i.toNat - 1) (by omega) (fun x hx => ?_) (by omega) (by omega)
            exact hJ _ _ ⟨rfl, hx⟩
          · refine hJ _ _ ⟨rfl, (decide_eq_false (fun hh => ?_)).symm⟩
            obtain ⟨e1, e2⟩ := hat.1 hh
            subst e1 e2
            have := ne_of_beq_false e
            exact this (by decide)
      · have hil : i = s.size := by
          have : ¬ i < (s.size : Int) := hi
          omega
        rw [crlf_none (fun j hj => ?_)] at hk
        · exact hk
        · have hj1 : j + 1 < (bl s).length := (List.getElem?_eq_some_iff.1 hj.2).1
          exact pn j (by omega) hj
    · intro J hJ
      refine withJ.intro (fun (r : Bool) h4 => h4 = h' ∧ r = decide (At2 (bl s) 0)) ?_ ?_
      · rintro r h4 ⟨rfl, rfl⟩
        refine cnd_dec (fun hy => ?_) (fun hno => hJ _ _ ⟨rfl, hno⟩)
        rw [crlf_some hy (fun j hj => by omega)] at hk
        exact hk
      · intro J2 hJ2
        refine cnd_of (fun e => ?_) (fun e => ?_)
        · refine at2_cut (i := 0) (by omega) (fun x hx => hJ2 _ _ ⟨rfl, hx⟩) rfl rfl
        · refine hJ2 _ _ ⟨rfl, (decide_eq_false (fun hh => ?_)).symm⟩
          unfold At2 at hh
          rw [g0, g1] at hh
          have e1 : x0 = 13 := by simpa using hh.1
          have e2 : x1 = 10 := by simpa using hh.2
          subst e1 e2
          have := ne_of_beq_false e
          exact this (by decide)

theorem seq_crT (s : ByteArray) : seq crT s = true ↔ bl s = [13, 10] := by
  rw [seq_iff]
  exact ⟨fun h => by rw [← h]; rfl, fun h => (bl_inj (by rw [h]; rfl)).symm⟩

/-- the search's loop -/
def loopX (s : ByteArray) (R : Int → Heap → Prop) (h3 : Heap) : Prop :=
  sidx crT 0 fun u4 =>
  sidx crT 1 fun u5 =>
  LoopT (σ := Int × Int) (fun X7 s6 h8 =>
  cnd (decide (s6.1 < (w64 ((w64 ((s.size : Int) - (crT.size : Int))) + 1)))) (
  withJ (σ := Int) (fun s9 h11 =>
  withJ (σ := Unit) (fun s12 h14 =>
  withJ (σ := Bool) (fun s15 h17 =>
  cnd s15 (
  ssl s (w64 (s9 + 1)) (s.size : Int) fun s18 =>
  ixS 0 s18 crT h17 fun n19 =>
  cnd (decide (n19 ≥ 0)) (
  R (w64 (n19 + (w64 (s9 + 1)))) h17) (
  R (-1) h17)) (
  withJ (σ := Bool) (fun s20 h22 =>
  cnd s20 (
  ssl s (w64 (s9 + 1)) (s.size : Int) fun s23 =>
  CallT Try.prog internal_bytealg_IndexRabinKarp_string_no [.string s23, .string crT] h22 [.sc (.int .i64)] fun (r24 : Int) h25 =>
  cnd (decide (r24 < 0)) (
  R (-1) h25) (
  R (w64 ((w64 (s9 + 1)) + r24)) h25)) (
  X7 ((w64 (s9 + 1)), (w64 (s6.2 + 1))) h22)) (fun J21 =>
  ldI .i64 (⟨0, 0, none⟩) h17 fun n26 =>
  cnd (decide ((crT.size : Int) > n26)) (
  cnd (decide ((w64 (s6.2 + 1)) ≥ (w64 (4 + (shrI .i64 (w64 (s9 + 1)) 4))))) (
  J21 (decide ((w64 (s9 + 1)) < (w64 ((w64 ((s.size : Int) - (crT.size : Int))) + 1)))) h17) (
  J21 false h17)) (
  J21 false h17)))) (fun J16 =>
  ldI .i64 (⟨0, 0, none⟩) h14 fun n27 =>
  cnd (decide ((crT.size : Int) ≤ n27)) (
  CallT Try.prog internal_bytealg_Cutover_no [.int .i64 (w64 (s9 + 1))] h14 [.sc (.int .i64)] fun (r28 : Int) h29 =>
  J16 (decide ((w64 (s6.2 + 1)) > r28)) h29) (
  J16 false h14))) (fun J13 =>
  withJ (σ := Bool) (fun s30 h32 =>
  cnd s30 (
  R s9 h32) (
  J13 () h32)) (fun J31 =>
  sidx s (w64 (s9 + 1)) fun u33 =>
  cnd ((u33.toNat : Int) == (u5.toNat : Int)) (
  ssl s s9 (w64 (s9 + (crT.size : Int))) fun s34 =>
  J31 (seq s34 crT) h11) (
  J31 false h11)))) (fun J10 =>
  sidx s s6.1 fun u35 =>
  cnd ((u35.toNat : Int) != (u4.toNat : Int)) (
  ssl s (w64 (s6.1 + 1)) (w64 ((w64 ((s.size : Int) - (crT.size : Int))) + 1)) fun s36 =>
  CallT Try.prog internal_stringslite_IndexByte_no [.string s36, .int .u8 (u4.toNat : Int)] h8 [.sc (.int .i64)] fun (r37 : Int) h38 =>
  cnd (decide (r37 < 0)) (
  R (-1) h38) (
  J10 (w64 (s6.1 + (w64 (r37 + 1)))) h38)) (
  J10 s6.1 h8))) (
  R (-1) h8)) (0, 0) h3
set_option maxHeartbeats 1000000 in
theorem loopX_spec {h' : Heap} {s : ByteArray} (hs : s.size ≤ 1000000000) (hg : MaxG h') (h3 : 3 ≤ s.size) {R : Int → Heap → Prop} (hk : R (oI (crlf (bl s))) h') : loopX s R h' := by
  unfold loopX
  obtain ⟨m, hm⟩ := hg
  have hlen := bl_len s
  have s2 : crT.size = 2 := rfl
  refine ⟨13, by decide, rfl, ⟨10, by decide, rfl, ?_⟩⟩
  have ht : w64 (w64 ((s.size : Int) - (crT.size : Int)) + 1) = (s.size : Int) - 1 := by
    rw [s2, w64_id (x := (s.size : Int) - ((2 : Nat) : Int)) (by omega) (by omega), w64_id (by omega) (by omega)]
    omega
  rw [ht]
  refine LoopT.intro (fun (t : Int × Int) h2 => h2 = h' ∧ 0 ≤ t.1 ∧ t.1 ≤ s.size ∧ 0 ≤ t.2 ∧ t.2 ≤ t.1 ∧ ∀ j, j < t.1.toNat → ¬ At2 (bl s) j) (fun t _ => (s.size - t.1).toNat) ⟨rfl, by simp, by simp, by simp, by simp, fun j hj => by simp at hj⟩ ?_
  rintro ⟨i, f⟩ h2 ⟨rfl, p1, p2, p3, p4, pn⟩
  replace p1 : 0 ≤ i := p1
  replace p2 : i ≤ s.size := p2
  replace p3 : 0 ≤ f := p3
  replace p4 : f ≤ i := p4
  replace pn : ∀ j, j < i.toNat → ¬ At2 (bl s) j := pn
  have nomore : (∀ j, i.toNat ≤ j → ¬ At2 (bl s) j) → R (-1) h2 := fun hn => by
    rw [crlf_none (fun j hj => by
      by_cases hji : j < i.toNat
      · exact pn j hji hj
      · exact hn j (by omega) hj)] at hk
    exact hk
  refine cnd_dec (fun hi => ?_) (fun hi => ?_)
  · replace hi : i < (s.size : Int) - 1 := hi
    refine withJ.intro (fun (k : Int) h3 => h3 = h2 ∧ i ≤ k ∧ k < (s.size : Int) - 1 ∧ (bl s)[k.toNat]? = some 13 ∧ ∀ j, j < k.toNat → ¬ At2 (bl s) j) ?_ ?_
    · rintro k h3 ⟨rfl, k1, k2, k3, k4⟩
      have lk : k.toNat + 1 < (bl s).length := by omega
      have gk : (bl s)[k.toNat + 1]? = some (bl s)[k.toNat + 1] := List.getElem?_eq_getElem lk
      generalize (bl s)[k.toNat + 1] = y at gk
      have hat : At2 (bl s) k.toNat ↔ y = 10 := by
        unfold At2
        rw [k3, gk]
        simp
      refine withJ.intro (fun _ h4 => h4 = h3 ∧ ¬ At2 (bl s) k.toNat) ?_ ?_
      · rintro _ h4 ⟨rfl, hno⟩
        have pn2 : ∀ j, j < k.toNat + 1 → ¬ At2 (bl s) j := fun j hj => by
          by_cases hjk : j < k.toNat
          · exact k4 j hjk
          · have : j = k.toNat := by omega
            rw [this]
            exact hno
        have ek : w64 (k + 1) = k + 1 := w64_id (by omega) (by omega)
        have ef : w64 (f + 1) = f + 1 := w64_id (by omega) (by omega)
        have hcd := crlf_drop pn2
        have rest : ∀ {K : ByteArray → Prop}, (∀ x, bl x = (bl s).drop (k.toNat + 1) → K x) → ssl s (w64 (k + 1)) (s.size : Int) K := fun hK => by
          rw [ek]
          refine ⟨by omega, by omega, by omega, hK _ ?_⟩
          rw [bl_ext, Int.toNat_natCast, show (k + 1).toNat = k.toNat + 1 by omega]
          exact List.take_of_length_le (by rw [List.length_drop]; omega)
        have out : ∀ {K : Int → Prop}, (∀ o, oI (crlf ((bl s).drop (k.toNat + 1))) = o → ((0 ≤ o → R (w64 (o + w64 (k + 1))) h4) ∧ (o < 0 → R (-1) h4)) → K o) → K (oI (crlf ((bl s).drop (k.toNat + 1)))) := fun hK => by
          refine hK _ rfl ?_
          rw [hcd] at hk
          rcases crlf_is ((bl s).drop (k.toNat + 1)) with ⟨e, _⟩ | ⟨o, e, ho, _⟩
          · rw [e] at hk ⊢
            exact ⟨fun h => by simp [oI] at h, fun _ => hk⟩
          · rw [e] at hk ⊢
            have hol : o < ((bl s).drop (k.toNat + 1)).length := (List.getElem?_eq_some_iff.1 ho.1).1
            rw [List.length_drop] at hol
            refine ⟨fun _ => ?_, fun h => by simp [oI] at h; omega⟩
            have e2 : w64 (oI (some o) + w64 (k + 1)) = ((o + (k.toNat + 1) : Nat) : Int) := by
              show w64 ((o : Int) + w64 (k + 1)) = _
              rw [ek, w64_id (by omega) (by omega)]
              omega
            rw [e2]
            exact hk
        have go : ((s.size - w64 (k + 1)).toNat < (s.size - i).toNat) ∧ (h4 = h4 ∧ 0 ≤ w64 (k + 1) ∧ w64 (k + 1) ≤ s.size ∧ 0 ≤ w64 (f + 1) ∧ w64 (f + 1) ≤ w64 (k + 1) ∧ ∀ j, j < (w64 (k + 1)).toNat → ¬ At2 (bl s) j) := by
          rw [ek, ef, show (k + 1).toNat = k.toNat + 1 by omega]
          exact ⟨by omega, rfl, by omega, by omega, by omega, by omega, pn2⟩
        refine withJ.intro (fun (b : Bool) h5 => h5 = h4 ∧ (b = true → 2 ≤ m)) ?_ ?_
        · rintro b h5 ⟨rfl, hb⟩
          refine cnd_of (fun e => ?_) (fun e => ?_)
          · refine rest (fun x hx => ?_)
            refine ⟨⟨m, hm, by have := hb e; rw [s2]; omega⟩, by rw [s2]; omega, ?_, ?_⟩
            · have := congrArg List.length hx
              rw [bl_len, List.length_drop] at this
              omega
            · rw [ixT_is, hx]
              refine out (K := fun n19 => cnd (decide (n19 ≥ 0)) (R (w64 (n19 + (w64 (k + 1)))) h5) (R (-1) h5)) (fun o _ ho => ?_)
              exact cnd_dec (fun h => ho.1 h) (fun h => ho.2 (by omega))
          · refine withJ.intro (fun (b2 : Bool) h6 => h6 = h5 ∧ (b2 = true → k + 1 < (s.size : Int) - 1)) ?_ ?_
            · rintro b2 h6 ⟨rfl, hb2⟩
              refine cnd_of (fun e2 => ?_) (fun e2 => ?_)
              · refine rest (fun x hx => ?_)
                have hxl := congrArg List.length hx
                rw [bl_len, List.length_drop] at hxl
                have := hb2 e2
                refine rabin_spec (by omega) (by omega) ?_
                rw [hx]
                refine out (K := fun r24 => cnd (decide (r24 < 0)) (R (-1) h6) (R (w64 ((w64 (k + 1)) + r24)) h6)) (fun o _ ho => ?_)
                refine cnd_dec (fun h => ho.2 h) (fun h => ?_)
                rw [Int.add_comm]
                exact ho.1 (by omega)
              · exact ⟨go.2, go.1⟩
            · intro J hJ
              refine ldI_at hm ?_
              refine cnd_of (fun _ => ?_) (fun _ => hJ _ _ ⟨rfl, fun e => by cases e⟩)
              refine cnd_of (fun _ => ?_) (fun _ => hJ _ _ ⟨rfl, fun e => by cases e⟩)
              refine hJ _ _ ⟨rfl, fun e => ?_⟩
              have := of_decide_eq_true e
              rw [ek] at this
              exact this
        · intro J hJ
          refine ldI_at hm ?_
          refine cnd_dec (fun hle => ?_) (fun _ => hJ _ _ ⟨rfl, fun e => by cases e⟩)
          have hcall := internal_bytealg_Cutover_call (n_0 := w64 (k + 1)) (R := fun r28 h29 => J (decide ((w64 (f + 1)) > r28)) h29) (h := h4)
          apply hcall
          unfold internal_bytealg_Cutover
          refine hJ _ _ ⟨rfl, fun _ => ?_⟩
          rw [s2] at hle
          omega
      · intro J hJ
        refine withJ.intro (fun (b : Bool) h4 => h4 = h3 ∧ b = decide (At2 (bl s) k.toNat)) ?_ ?_
        · rintro b h4 ⟨rfl, rfl⟩
          refine cnd_dec (fun hy => ?_) (fun hno => hJ _ _ ⟨rfl, hno⟩)
          rw [crlf_some hy k4] at hk
          have e : oI (some k.toNat) = k := by show ((k.toNat : Nat) : Int) = k; omega
          rw [e] at hk
          exact hk
        · intro J2 hJ2
          rw [w64_id (x := k + 1) (by omega) (by omega)]
          refine ⟨y, by omega, by rw [show (k + 1).toNat = k.toNat + 1 by omega]; exact gk, ?_⟩
          refine cnd_of (fun e => ?_) (fun e => ?_)
          · rw [s2, w64_id (x := k + ((2 : Nat) : Int)) (by omega) (by omega)]
            refine at2_cut (i := k.toNat) (by omega) (fun x hx => hJ2 _ _ ⟨rfl, hx⟩) (by omega) (by omega)
          · refine hJ2 _ _ ⟨rfl, (decide_eq_false (fun hh => ?_)).symm⟩
            have := hat.1 hh
            subst this
            simp at e
    · intro J hJ
      have li : i.toNat < (bl s).length := by omega
      have gi : (bl s)[i.toNat]? = some (bl s)[i.toNat] := List.getElem?_eq_getElem li
      generalize (bl s)[i.toNat] = a at gi
      refine ⟨a, p1, gi, ?_⟩
      refine cnd_of (fun e => ?_) (fun e => ?_)
      · have hne : a ≠ 13 := fun e2 => by subst e2; simp at e
        show ssl s (w64 (i + 1)) ((s.size : Int) - 1) _
        rw [w64_id (x := i + 1) (by omega) (by omega)]
        refine ⟨by omega, by omega, by omega, ?_⟩
        have hx : bl (s.extract (i + 1).toNat ((s.size : Int) - 1).toNat) = ((bl s).drop (i.toNat + 1)).take (s.size - 1 - (i.toNat + 1)) := by
          rw [bl_ext, show (i + 1).toNat = i.toNat + 1 by omega, show ((s.size : Int) - 1).toNat = s.size - 1 by omega]
        refine indexByteI_spec ?_
        have hix := ixB_is (s.extract (i + 1).toNat ((s.size : Int) - 1).toNat) 13
        show cnd (decide (ixB _ (((13 : UInt8).toNat : Nat) : Int) < 0)) _ _
        have step : ∀ (o : Nat), (∀ (j : Nat) (b : UInt8), j < o → (((bl s).drop (i.toNat + 1)).take (s.size - 1 - (i.toNat + 1)))[j]? = some b → b ≠ 13) → ∀ j, j < i.toNat + 1 + o → j < s.size - 1 → ¬ At2 (bl s) j := by
          intro o ho j hj hjs hat
          by_cases h1 : j < i.toNat
          · exact pn j h1 hat
          · by_cases h2 : j = i.toNat
            · rw [h2] at hat
              have := hat.1
              rw [gi] at this
              injection this with this
              exact hne this
            · refine ho (j - (i.toNat + 1)) 13 (by omega) ?_ rfl
              rw [List.getElem?_take, if_pos (by omega), List.getElem?_drop, show i.toNat + 1 + (j - (i.toNat + 1)) = j by omega]
              exact hat.1
        rcases hix with ⟨e1, hn⟩ | ⟨o, e1, ho, hn⟩
        · rw [e1]
          refine cnd_pos (by decide) (nomore (fun j hj hat => ?_))
          rw [hx] at hn
          have hj1 : j + 1 < (bl s).length := (List.getElem?_eq_some_iff.1 hat.2).1
          exact step (s.size) (fun j b _ hb => hn j b hb) j (by omega) (by omega) hat
        · rw [e1]
          rw [hx] at ho hn
          have hol := (List.getElem?_eq_some_iff.1 ho).1
          rw [List.length_take, List.length_drop] at hol
          refine cnd_neg (by omega) ?_
          rw [List.getElem?_take, if_pos (by omega), List.getElem?_drop] at ho
          have ek : w64 (i + w64 ((o : Int) + 1)) = ((i.toNat + 1 + o : Nat) : Int) := by
            rw [w64_id (x := (o : Int) + 1) (by omega) (by omega), w64_id (by omega) (by omega)]
            omega
          show J (w64 (i + w64 ((o : Int) + 1))) h2
          rw [ek]
          exact hJ _ _ ⟨rfl, by omega, by omega, by rw [Int.toNat_natCast]; exact ho, fun j hj => step o hn j (by omega) (by omega)⟩
      · have he : a = 13 := UInt8.toNat_inj.1 (by
          have : ((a.toNat : Int) == 13) = true := by simpa using e
          have := eq_of_beq this
          have e13 : (13 : UInt8).toNat = 13 := rfl
          omega)
        subst he
        exact hJ _ _ ⟨rfl, by omega, hi, gi, pn⟩
  · refine nomore (fun j hj hat => ?_)
    have hj1 : j + 1 < (bl s).length := (List.getElem?_eq_some_iff.1 hat.2).1
    have hi' : ¬ i < (s.size : Int) - 1 := hi
    omega

theorem index_spec {h : Heap} {s : ByteArray} (hs : s.size ≤ 1000000000) (hg : MaxG h) {R : Int → Heap → Prop} (hk : R (oI (crlf (bl s))) h) : CallT Try.prog internal_stringslite_Index_no [.string s, .string crT] h [.sc (.int .i64)] R := by
  apply internal_stringslite_Index_call
  unfold internal_stringslite_Index
  have hg' := hg
  obtain ⟨m, hm⟩ := hg
  have hlen := bl_len s
  have s2 : crT.size = 2 := rfl
  refine withJ.intro (fun _ h' => h' = h ∧ 3 ≤ s.size) ?_ ?_
  · rintro _ h' ⟨rfl, h3⟩
    exact loopX_spec hs hg' h3 hk
  · intro J hJ
    refine withJ.intro (fun (b : Bool) h' => h' = h ∧ b = decide (bl s = [13, 10])) ?_ ?_
    · rintro b h' ⟨rfl, rfl⟩
      refine cnd_dec (fun e => ?_) (fun e => ?_)
      · rw [e] at hk
        exact hk
      · refine cnd_f (by rw [s2]; rfl) ?_
        refine cnd_dec (fun h2 => ?_) (fun h2 => ?_)
        · rw [s2] at h2
          rw [crlf_none (fun j hat => ?_)] at hk
          · exact hk
          · have hj1 : j + 1 < (bl s).length := (List.getElem?_eq_some_iff.1 hat.2).1
            have hj0 : j = 0 := by omega
            subst hj0
            refine e ?_
            match hb : bl s, hlen, hat with
            | [x, y], _, hat =>
              unfold At2 at hat
              simp at hat
              rw [hat.1, hat.2]
            | [], _, _ => rw [hb] at hj1; simp at hj1
            | [_], _, _ => rw [hb] at hj1; simp at hj1
            | _ :: _ :: _ :: _, hl, _ => simp at hl; omega
        · have h3 : 3 ≤ s.size := by rw [s2] at h2; omega
          refine withJ.intro (fun (b : Bool) h2 => h2 = h' ∧ (b = true → 2 ≤ m)) ?_ ?_
          · rintro b h2 ⟨rfl, hb⟩
            refine cnd_of (fun e => ?_) (fun e => hJ _ _ ⟨rfl, h3⟩)
            refine ⟨⟨m, hm, by rw [s2]; have := hb e; omega⟩, by rw [s2]; omega, by omega, ?_⟩
            rw [ixT_is]
            exact hk
          · intro J2 hJ2
            refine ldI_at hm ?_
            refine cnd_dec (fun hle => ?_) (fun _ => hJ2 _ _ ⟨rfl, fun e => by cases e⟩)
            rw [s2] at hle
            exact hJ2 _ _ ⟨rfl, fun _ => by omega⟩
    · intro J2 hJ2
      refine cnd_f (by rw [s2]; rfl) ?_
      refine hJ2 _ _ ⟨rfl, ?_⟩
      rw [Bool.eq_iff_iff, decide_eq_true_eq]
      exact seq_crT s

/-- the same for strings.Index -/
theorem indexS_spec {h : Heap} {s : ByteArray} (hs : s.size ≤ 1000000000) (hg : MaxG h) {R : Int → Heap → Prop} (hk : R (oI (crlf (bl s))) h) : CallT Try.prog strings_Index_no [.string s, .string (⟨#[13, 10]⟩ : ByteArray)] h [.sc (.int .i64)] R := by
  apply strings_Index_call
  unfold strings_Index
  exact index_spec hs hg hk
end Go.Proofs.Ytjpmjhnjdnbopaa
