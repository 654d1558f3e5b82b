/- strings.ContainsAny of 0D 0A; strings.Cut at a byte. -/
import Derived.Test.YtjpmjhnjdnbopaaPStrJ
namespace Go.Proofs.Ytjpmjhnjdnbopaa
open Go D
set_option linter.unusedVariables false
set_option linter.unusedSimpArgs false

def setV : Nat → List Value
  | 0 => List.replicate 256 (.bool false)
  | 1 => (List.replicate 256 (.bool false)).set 13 (.bool true)
  | _ => ((List.replicate 256 (Value.bool false)).set 13 (.bool true)).set 10 (.bool true)
theorem setV_len (n : Nat) : (setV n).length = 256 := by
  unfold setV
  split <;> simp only [List.length_set, List.length_replicate]
theorem setV_one (n : Nat) : ∀ v ∈ setV n, v.oneCell' = true := by
  have h : ∀ (l : List Value) (i : Nat), (∀ v ∈ l, v.oneCell' = true) → ∀ v ∈ l.set i (.bool true), v.oneCell' = true := fun l i hl v hv => by
    rcases List.mem_or_eq_of_mem_set hv with h | h
    · exact hl v h
    · rw [h]; rfl
  have h0 : ∀ v ∈ List.replicate 256 (Value.bool false), v.oneCell' = true := fun v hv => by rw [List.eq_of_mem_replicate hv]; rfl
  unfold setV
  split
  · exact h0
  · exact h _ _ h0
  · exact h _ _ (h _ _ h0)
theorem setV_get (b : UInt8) : (setV 2)[b.toNat]? = some (.bool (isCL b)) := by
  have hb : b.toNat < 256 := b.toNat_lt
  have e13 : (13 : UInt8).toNat = 13 := rfl
  have e10 : (10 : UInt8).toNat = 10 := rfl
  show (((List.replicate 256 (Value.bool false)).set 13 (.bool true)).set 10 (.bool true))[b.toNat]? = _
  rw [List.getElem?_set, List.getElem?_set]
  simp only [List.length_set, List.length_replicate]
  have i13 : b = 13 ↔ 13 = b.toNat := ⟨fun h => by subst h; rfl, fun h => UInt8.toNat_inj.1 (by rw [e13]; exact h.symm)⟩
  have i10 : b = 10 ↔ 10 = b.toNat := ⟨fun h => by subst h; rfl, fun h => UInt8.toNat_inj.1 (by rw [e10]; exact h.symm)⟩
  unfold isCL
  by_cases h10 : 10 = b.toNat
  · rw [if_pos h10, if_pos (by omega)]
    have := i10.2 h10
    subst this
    rfl
  · rw [if_neg h10]
    have n10 : (b == 10) = false := by rw [beq_eq_false_iff_ne]; exact fun h => h10 (i10.1 h)
    by_cases h13 : 13 = b.toNat
    · rw [if_pos h13, if_pos (by omega)]
      have := i13.2 h13
      subst this
      rfl
    · rw [if_neg h13, List.getElem?_replicate, if_pos hb]
      have n13 : (b == 13) = false := by rw [beq_eq_false_iff_ne]; exact fun h => h13 (i13.1 h)
      rw [n13, n10]
      rfl

theorem putL_all {cs new : List Value} (h : new.length = cs.length) : putL cs 0 new = new := by
  unfold putL
  simp [h]

theorem set_spec {h : Heap} {R : Value × Bool → Heap → Prop} (hk : ∀ h', Keep (fun _ => False) h h' → R (.agg (setV 2).toArray, true) h') : CallT Try.prog strings_makeASCIISet_no [.string crT] h [.sc .raw, .sc .bool] R := by
  apply strings_makeASCIISet_call
  unfold strings_makeASCIISet
  refine newB_row ?_
  intro h1 s1 r1 k1
  have s2 : crT.size = 2 := rfl
  refine LoopT.intro (fun (i : Int) h2 => 0 ≤ i ∧ i ≤ 2 ∧ Row h2 h.size (setV i.toNat) ∧ Keep (fun y => y = h.size) h1 h2) (fun i _ => (2 - i).toNat) ⟨by decide, by decide, r1, .refl _ _⟩ ?_
  rintro i h2 ⟨p1, p2, r2, k2⟩
  have step : ∀ {c : UInt8} {n : Nat}, c.toNat < 128 → n < 2 → Row h2 h.size (setV n) → (setV n).set c.toNat (.bool true) = setV (n + 1) → i = (n : Int) → (decide ((c.toNat : Int) ≥ 128) = false) ∧ inB 256 (c.toNat : Int) (stC ((⟨h.size, 0, none⟩ : Addr).add ((c.toNat : Int).toNat * 1)) (.bool true) h2 fun h10 => (0 ≤ w64 (i + 1) ∧ w64 (i + 1) ≤ 2 ∧ Row h10 h.size (setV (w64 (i + 1)).toNat) ∧ Keep (fun y => y = h.size) h1 h10) ∧ (2 - w64 (i + 1)).toNat < (2 - i).toNat) := by
    intro c n hc hn hr he hi
    refine ⟨decide_eq_false (by omega), ⟨by omega, by omega, ?_⟩⟩
    rw [add_mk, Int.toNat_natCast, Nat.zero_add, Nat.mul_one]
    refine stC_row hr (by rw [setV_len]; omega) rfl ?_
    intro h3 s3 r3 k3
    rw [he] at r3
    rw [w64_id (x := i + 1) (by omega) (by omega)]
    have e : (i + 1).toNat = n + 1 := by omega
    rw [e]
    exact ⟨⟨by omega, by omega, r3, k2.trans' k3⟩, by omega⟩
  refine cnd_dec (fun hi => ?_) (fun hi => ?_)
  · rw [s2] at hi
    by_cases h0 : i = 0
    · subst h0
      have := step (c := 13) (n := 0) (by decide) (by decide) r2 rfl rfl
      exact ⟨13, by decide, rfl, cnd_f this.1 this.2⟩
    · have h1' : i = 1 := by omega
      subst h1'
      have := step (c := 10) (n := 1) (by decide) (by decide) r2 rfl rfl
      exact ⟨10, by decide, rfl, cnd_f this.1 this.2⟩
  · rw [s2] at hi
    have h2' : i = 2 := by omega
    subst h2'
    have r2' : Row h2 h.size (setV 2) := r2
    have l2 := setV_len 2
    refine ldRow_row r2' (by omega) ?_
    have e0 : ((setV 2).drop 0).take 256 = setV 2 := by rw [List.drop_zero]; exact List.take_of_length_le (by omega)
    rw [e0]
    refine ⟨l2, stRow_row r2' (by omega) (setV_one 2) ?_⟩
    intro h3 s3 r3 k3
    rw [putL_all rfl] at r3
    refine ldRow_row r3 (by omega) ?_
    rw [e0]
    refine hk h3 ⟨by have := k2.size; omega, fun b hb _ => ?_⟩
    rw [k3.same b (by have := k2.size; omega) (by show ¬ b = h.size; omega), k2.same b (by omega) (by show ¬ b = h.size; omega), k1.same b hb (fun h => h)]

set_option maxRecDepth 100000 in
theorem any_spec {h : Heap} {s : ByteArray} (hs : s.size ≤ 1000000000) {R : Int → Heap → Prop} (hk : ∀ n h', decide (n ≥ 0) = bareL (bl s) → Keep (fun _ => False) h h' → R n h') : CallT Try.prog strings_IndexAny_no [.string s, .string crT] h [.sc (.int .i64)] R := by
  apply strings_IndexAny_call
  unfold strings_IndexAny
  have hlen := bl_len s
  have s2 : crT.size = 2 := rfl
  refine cnd_f (by rw [seq_false]; decide) ?_
  refine cnd_f (by rw [s2]; rfl) ?_
  refine withJ.intro (fun _ h' => Keep (fun _ => False) h h') ?_ ?_
  · rintro _ h1 k1
    refine rng_row ?_
    intro h2 z2 b2 k2
    refine LoopT.intro (fun _ h3 => Keep (fun y => h1.size ≤ y) h1 h3 ∧ ∃ pos, h3[h1.size]? = some (.stringIter s pos) ∧ ∀ (j : Nat) (b : UInt8), j < pos → (bl s)[j]? = some b → isCL b = false) (fun _ h3 => match h3[h1.size]? with | some (.stringIter s pos) => s.size - pos | _ => 0) ⟨k2.mono (fun _ _ h => h.elim), 0, b2, fun j b hj => by omega⟩ ?_
    rintro _ h3 ⟨k3, pos, b3, hp⟩
    have K : ∀ {h'}, Keep (fun y => h1.size ≤ y) h1 h' → Keep (fun _ => False) h h' := fun k => ⟨by have := k1.size; have := k.size; omega, fun b hb _ => by
      have := k1.size
      rw [k.same b (by omega) (by show ¬ h1.size ≤ b; omega), k1.same b hb (fun h => h)]⟩
    refine nxt_row b3 (fun hend => hk (-1) h3 ?_ (K k3)) (fun hlt h4 z4 b4 k4 => ?_)
    · symm
      rw [show decide ((-1 : Int) ≥ 0) = false from rfl]
      unfold bareL
      rw [List.any_eq_false]
      intro b hb
      obtain ⟨j, hj, e⟩ := List.getElem_of_mem hb
      have := hp j b (by omega) (by rw [List.getElem?_eq_getElem hj, e])
      simp [this]
    · rw [b3]
      have hpl : pos < (bl s).length := by omega
      have gp : (bl s)[pos]? = some (bl s)[pos] := List.getElem?_eq_getElem hpl
      generalize (bl s)[pos] = b0 at gp
      have k5 : Keep (fun y => h1.size ≤ y) h1 h4 := k3.trans k4 (fun y _ hy => by have hy' : y = h1.size := hy; omega)
      refine rune_spec (by omega) ?_
      intro h6 k6
      have K6 : Keep (fun y => h1.size ≤ y) h1 h6 := k5.trans k6 (fun _ _ h => h.elim)
      have b6 : h6[h1.size]? = some (.stringIter s (pos + (Utf8.decode s pos).2)) := by
        rw [k6.same h1.size (by rw [z4]; exact (Array.getElem?_eq_some_iff.1 b3).1) (fun h => h)]; exact b4
      have memT : isCL b0 = true → bareL (bl s) = true := fun e => by
        unfold bareL
        rw [List.any_eq_true]
        exact ⟨b0, List.mem_of_getElem? gp, e⟩
      rcases dec_is s gp with ⟨hlow, hd⟩ | ⟨hhigh, hd1, hd2, hd3⟩
      · have hix := ixR_is b0 hlow
        rw [hd] at b6 ⊢
        show cnd (decide (ixR ((b0.toNat : Nat) : Int) ≥ 0)) _ _
        rw [hix]
        cases hc : isCL b0 with
        | true =>
          refine cnd_t rfl (hk _ h6 ?_ (K K6))
          rw [memT hc]
          exact decide_eq_true (by omega)
        | false =>
          refine cnd_f rfl ⟨⟨K6, _, b6, fun j b hj hb => ?_⟩, ?_⟩
          · by_cases h1 : j < pos
            · exact hp j b h1 hb
            · have : j = pos := by
                have hj' : j < pos + 1 := hj
                omega
              subst this
              rw [gp] at hb
              injection hb with hb
              rw [← hb]; exact hc
          · rw [b6]
            show s.size - (pos + 1) < s.size - pos
            omega
      · rw [ixR_big (by omega)]
        refine cnd_neg (by omega) ⟨⟨K6, _, b6, fun j b hj hb => ?_⟩, ?_⟩
        · by_cases h1 : j < pos
          · exact hp j b h1 hb
          · have hbig := hd3 j b (by omega) hj hb
            unfold isCL
            have e1 : (b == 13) = false := by rw [beq_eq_false_iff_ne]; rintro rfl; exact absurd hbig (by decide)
            have e2 : (b == 10) = false := by rw [beq_eq_false_iff_ne]; rintro rfl; exact absurd hbig (by decide)
            rw [e1, e2]
            rfl
        · rw [b6]
          show s.size - (pos + (Utf8.decode s pos).2) < s.size - pos
          omega
  · intro J hJ
    have hcall := strings_shouldUseASCIISet_call (bufLen_0 := (s.size : Int)) (h := h) (R := fun r20 h21 =>
      cnd r20 (
      CallT Try.prog strings_makeASCIISet_no [.string crT] h21 [.sc (.raw), .sc (.bool)] fun (r22 : Value × Bool) h23 =>
      newB (List.replicate 256 (.bool false : Value)) 112 h23 fun a24 h25 =>
      agD r22.1 fun cs27 =>
      cs27.length = 256 ∧ stRow cs27 a24 h25 fun h26 =>
      cnd r22.2 (
      LoopT (σ := Int) (fun X29 s28 h30 =>
      cnd (decide (s28 < (s.size : Int))) (
      sidx s s28 fun u31 =>
      CallT Try.prog strings_asciiSet_contains_no [.pointer (some a24), .int .u8 (u31.toNat : Int)] h30 [.sc (.bool)] fun (r32 : Bool) h33 =>
      cnd r32 (
      R s28 h33) (
      X29 (w64 (s28 + 1)) h33)) (
      R (-1) h30)) 0 h26) (
      J () h26)) (
      J () h21))
    apply hcall
    unfold strings_shouldUseASCIISet
    refine cnd_of (fun _ => ?_) (fun _ => hJ _ _ (.refl _ _))
    refine set_spec ?_
    intro h1 k1
    refine newB_row ?_
    intro h2 z2 r2 k2
    show (setV 2).toArray.toList.length = 256 ∧ _
    rw [List.toList_toArray]
    refine ⟨setV_len 2, stRow_row r2 (by rw [setV_len, List.length_replicate]; omega) (setV_one 2) ?_⟩
    intro h3 z3 r3 k3
    rw [putL_all (by rw [setV_len, List.length_replicate])] at r3
    refine cnd_t rfl ?_
    have K3 : Keep (fun _ => False) h h3 := ⟨by have := k1.size; omega, fun b hb _ => by
      have := k1.size
      rw [k3.same b (by omega) (by show ¬ b = h1.size; omega), k2.same b (by omega) (fun h => h), k1.same b hb (fun h => h)]⟩
    refine LoopT.intro (fun (i : Int) h4 => h4 = h3 ∧ 0 ≤ i ∧ i ≤ s.size ∧ ∀ (j : Nat) (b : UInt8), j < i.toNat → (bl s)[j]? = some b → isCL b = false) (fun i _ => (s.size - i).toNat) ⟨rfl, by omega, by omega, fun j b hj => by simp at hj⟩ ?_
    rintro i h4 ⟨rfl, p1, p2, hp⟩
    refine cnd_dec (fun hi => ?_) (fun hi => ?_)
    · have li : i.toNat < (bl s).length := by omega
      have gi : (bl s)[i.toNat]? = some (bl s)[i.toNat] := List.getElem?_eq_getElem li
      generalize (bl s)[i.toNat] = b0 at gi
      refine ⟨b0, p1, gi, ?_⟩
      have hcall2 := strings_asciiSet_contains_call (as_0 := some ⟨h1.size, 0, none⟩) (c_1 := (b0.toNat : Int)) (h := h4) (R := fun r32 h33 => cnd r32 (R i h33) ((h33 = h4 ∧ 0 ≤ w64 (i + 1) ∧ w64 (i + 1) ≤ s.size ∧ ∀ (j : Nat) (b : UInt8), j < (w64 (i + 1)).toNat → (bl s)[j]? = some b → isCL b = false) ∧ (s.size - w64 (i + 1)).toNat < (s.size - i).toNat))
      apply hcall2
      unfold strings_asciiSet_contains
      have hbl := b0.toNat_lt
      refine ⟨by omega, by omega, ?_⟩
      rw [add_mk, Int.toNat_natCast, Nat.zero_add, Nat.mul_one]
      refine ldB_row r3 (setV_get b0) ?_
      cases hc : isCL b0 with
      | true =>
        refine cnd_t rfl (hk _ h4 ?_ K3)
        have : bareL (bl s) = true := by
          unfold bareL
          rw [List.any_eq_true]
          exact ⟨b0, List.mem_of_getElem? gi, hc⟩
        rw [this]
        exact decide_eq_true (by omega)
      | false =>
        refine cnd_f rfl ?_
        rw [w64_id (x := i + 1) (by omega) (by omega), show (i + 1).toNat = i.toNat + 1 by omega]
        refine ⟨⟨rfl, by omega, by omega, fun j b hj hb => ?_⟩, by omega⟩
        by_cases h1 : j < i.toNat
        · exact hp j b h1 hb
        · have : j = i.toNat := by omega
          subst this
          rw [gi] at hb
          injection hb with hb
          rw [← hb]; exact hc
    · refine hk (-1) h4 ?_ K3
      symm
      rw [show decide ((-1 : Int) ≥ 0) = false from rfl]
      unfold bareL
      rw [List.any_eq_false]
      intro b hb
      obtain ⟨j, hj, e⟩ := List.getElem_of_mem hb
      have := hp j b (by omega) (by rw [List.getElem?_eq_getElem hj, e])
      simp [this]

theorem bare_spec {h : Heap} {s : ByteArray} (hs : s.size ≤ 1000000000) {R : Bool → Heap → Prop} (hk : ∀ h', Keep (fun _ => False) h h' → R (bareL (bl s)) h') : CallT Try.prog strings_ContainsAny_no [.string s, .string (⟨#[13, 10]⟩ : ByteArray)] h [.sc .bool] R := by
  apply strings_ContainsAny_call
  unfold strings_ContainsAny
  refine any_spec hs ?_
  intro n h1 e k1
  rw [e]
  exact hk h1 k1

/-! ### cut at a byte -/
def cutAt (c : UInt8) : List UInt8 → List UInt8 × List UInt8 × Bool
  | [] => ([], [], false)
  | a :: r => if a = c then ([], r, true) else (a :: (cutAt c r).1, (cutAt c r).2.1, (cutAt c r).2.2)
theorem cutAt_no {c : UInt8} : ∀ {s : List UInt8}, (∀ (j : Nat) (b : UInt8), s[j]? = some b → b ≠ c) → cutAt c s = (s, [], false)
  | [], _ => rfl
  | a :: r, h => by
    unfold cutAt
    rw [if_neg (h 0 a rfl), cutAt_no (s := r) (fun j b hb => h (j + 1) b (by simpa using hb))]
theorem cutAt_yes {c : UInt8} : ∀ {s : List UInt8} {i : Nat}, s[i]? = some c → (∀ (j : Nat) (b : UInt8), j < i → s[j]? = some b → b ≠ c) → cutAt c s = (s.take i, s.drop (i + 1), true)
  | [], i, h, _ => by simp at h
  | a :: r, 0, h, _ => by
    simp at h
    subst h
    unfold cutAt
    rw [if_pos rfl]
    simp
  | a :: r, i + 1, h, hn => by
    unfold cutAt
    rw [if_neg (hn 0 a (by omega) rfl), cutAt_yes (s := r) (i := i) (by simpa using h) (fun j b hj hb => hn (j + 1) b (by omega) (by simpa using hb))]
    simp

theorem index1_spec {h : Heap} {s : ByteArray} {c : UInt8} {R : Int → Heap → Prop} (hk : R (ixB s (c.toNat : Int)) h) : CallT Try.prog internal_stringslite_Index_no [.string s, .string (ofL [c])] h [.sc (.int .i64)] R := by
  apply internal_stringslite_Index_call
  unfold internal_stringslite_Index
  have s1 : (ofL [c]).size = 1 := rfl
  refine withJ.intro (fun _ _ => False) (fun _ _ hh => hh.elim) ?_
  intro J _
  refine withJ.intro (fun (b : Bool) h' => h' = h ∧ b = seq (ofL [c]) s) ?_ ?_
  · rintro b h' ⟨rfl, rfl⟩
    refine cnd_of (fun e => ?_) (fun _ => ?_)
    · have e2 := seq_iff.1 e
      have hix := ixB_is s c
      rw [← e2, bl_ofL] at hix
      rcases hix with ⟨_, hn⟩ | ⟨i, e3, _, hn⟩
      · exact absurd rfl (hn 0 c rfl)
      · have : i = 0 := by
          rcases Nat.eq_zero_or_pos i with h | h
          · exact h
          · exact absurd rfl (hn 0 c h rfl)
        rw [← e2, e3, this] at hk
        exact hk
    · refine cnd_t (by rw [s1]; rfl) ?_
      refine ⟨c, by decide, rfl, ?_⟩
      exact indexByteI_spec hk
  · intro J2 hJ2
    exact cnd_f (by rw [s1]; rfl) (hJ2 _ _ ⟨rfl, rfl⟩)

theorem cut_spec {h : Heap} {s sep : ByteArray} {c : UInt8} (hsep : sep = ofL [c]) (hs : s.size ≤ 1000000000) {R : ByteArray × ByteArray × Bool → Heap → Prop} (hk : R (ofL (cutAt c (bl s)).1, ofL (cutAt c (bl s)).2.1, (cutAt c (bl s)).2.2) h) :
    CallT Try.prog strings_Cut_no [.string s, .string sep] h [.sc .str, .sc .str, .sc .bool] R := by
  subst hsep
  apply strings_Cut_call
  unfold strings_Cut
  have hcall := internal_stringslite_Cut_call (s_0 := s) (sep_1 := ofL [c]) (R := fun r1 h2 => R (r1.1, r1.2.1, r1.2.2) h2) (h := h)
  apply hcall
  unfold internal_stringslite_Cut
  refine index1_spec ?_
  have hlen := bl_len s
  have s1 : (ofL [c]).size = 1 := rfl
  rcases ixB_is s c with ⟨e, hn⟩ | ⟨i, e, hi, hn⟩
  · rw [e]
    rw [cutAt_no hn] at hk
    refine cnd_neg (by decide) ?_
    have : ofL (bl s) = s := ofL_bl s
    rw [this] at hk
    exact hk
  · rw [e]
    rw [cutAt_yes hi hn] at hk
    have hil := (List.getElem?_eq_some_iff.1 hi).1
    refine cnd_pos (by omega) ?_
    refine ssl_bl (by omega) (by omega) (by omega) ?_
    rw [s1, w64_id (x := (i : Int) + ((1 : Nat) : Int)) (by omega) (by omega)]
    refine ssl_bl (by omega) (by omega) (by omega) ?_
    have e1 : ((bl s).drop (0 : Int).toNat).take ((i : Int).toNat - (0 : Int).toNat) = (bl s).take i := by simp
    have e2 : ((bl s).drop ((i : Int) + ((1 : Nat) : Int)).toNat).take ((s.size : Int).toNat - ((i : Int) + ((1 : Nat) : Int)).toNat) = (bl s).drop (i + 1) := by
      rw [show ((i : Int) + ((1 : Nat) : Int)).toNat = i + 1 by omega, Int.toNat_natCast]
      exact List.take_of_length_le (by rw [List.length_drop]; omega)
    rw [e1, e2]
    exact hk
end Go.Proofs.Ytjpmjhnjdnbopaa
