/- The document's reader of chunks: size, eat, name. -/
import Derived.Test.YtncffbocmpmejaaDoorPRefCB
import Derived.Test.YtncffbocmpmejaaDoorPBackC
import Derived.Test.YtncffbocmpmejaaDoorPChunkF
namespace Go.Proofs.YtncffbocmpmejaaDoor
open Go D
set_option linter.unusedVariables false
set_option linter.unusedSimpArgs false
namespace Chunk
open Hash (hexL hmacF sha256F hexB)

theorem digit19_spec {h : Heap} {b : UInt8} {R : Bool → Heap → Prop} (hk : R (dg b) h) : CallT Tryd.prog ref19_digit_no [.int .u8 (b.toNat : Int)] h [.sc .bool] R := by
  apply ref19_digit_call
  unfold ref19_digit
  refine withJ.intro (fun (r : Bool) h' => h' = h ∧ r = dg b) ?_ ?_
  · rintro r h' ⟨rfl, rfl⟩
    exact hk
  · intro J hJ
    have hdg : ∀ {r : Bool}, (r = true ↔ (48 ≤ b.toNat ∧ b.toNat ≤ 57) ∨ (97 ≤ b.toNat ∧ b.toNat ≤ 102)) → J r h := fun hb => hJ _ _ ⟨rfl, by
      rw [Bool.eq_iff_iff, hb]
      unfold dg
      simp⟩
    refine cnd_dec (fun h1 => ?_) (fun h1 => ?_)
    · refine cnd_dec (fun h2 => ?_) (fun h2 => ?_)
      · exact hdg ⟨fun _ => .inl ⟨by omega, by omega⟩, fun _ => rfl⟩
      · refine cnd_dec (fun h3 => ?_) (fun h3 => ?_)
        · refine hdg ?_
          rw [decide_eq_true_eq]
          omega
        · exact hdg ⟨fun e => (by cases e), fun e => (by omega)⟩
    · refine cnd_dec (fun h3 => ?_) (fun h3 => ?_)
      · refine hdg ?_
        rw [decide_eq_true_eq]
        omega
      · exact hdg ⟨fun e => (by cases e), fun e => (by omega)⟩

theorem digit3_spec {h : Heap} {b : UInt8} (hb : dg b = true) {R : Int → Heap → Prop} (hk : R ((hv b : Nat) : Int) h) : CallT Tryd.prog ref3_Digit_no [.int .u8 (b.toNat : Int)] h [.sc (.int .i64)] R := by
  apply ref3_Digit_call
  unfold ref3_Digit
  have hd : (48 ≤ b.toNat ∧ b.toNat ≤ 57) ∨ (97 ≤ b.toNat ∧ b.toNat ≤ 102) := by
    unfold dg at hb
    simpa using hb
  unfold hv at hk
  refine withJ.inl ?_
  refine withJ.intro (fun (r : Bool) h' => h' = h ∧ r = decide (48 ≤ b.toNat ∧ b.toNat ≤ 57)) ?_ ?_
  · rintro r h' ⟨rfl, rfl⟩
    refine cnd_dec (fun h1 => ?_) (fun h1 => ?_)
    · rw [if_pos h1.2] at hk
      rw [wrap_u8, w64_id (by omega) (by omega)]
      have e : ((b.toNat : Int) - 48) % 256 = ((b.toNat - 48 : Nat) : Int) := by omega
      rw [e]
      exact hk
    · refine withJ.intro (fun (r : Bool) h2 => h2 = h' ∧ r = true) ?_ ?_
      · rintro r h2 ⟨rfl, rfl⟩
        refine cnd_t rfl ?_
        rw [if_neg (by omega)] at hk
        rw [wrap_u8, w64_id (x := ((b.toNat : Int) - 97) % 256) (by omega) (by omega), w64_id (by omega) (by omega)]
        have e : ((b.toNat : Int) - 97) % 256 + 10 = ((b.toNat - 87 : Nat) : Int) := by omega
        rw [e]
        exact hk
      · intro J hJ
        refine cnd_pos (by omega) ?_
        exact hJ _ _ ⟨rfl, decide_eq_true (by omega)⟩
  · intro J hJ
    refine cnd_dec (fun h1 => ?_) (fun h1 => ?_)
    · refine hJ _ _ ⟨rfl, ?_⟩
      rw [Bool.eq_iff_iff, decide_eq_true_eq, decide_eq_true_eq]
      omega
    · exact hJ _ _ ⟨rfl, (decide_eq_false (by omega)).symm⟩

/-- a reader at block p -/
def Rdr (h : Heap) (p : Nat) (a : Option Addr) (l c at_ : Nat) (f : Int) : Prop := Row h p [.slice a l c, .int .i64 (at_ : Int), .int .i64 f]

def endS (p : Nat) (k : Int) (K : Heap → Prop) (h3 : Heap) : Prop :=
  withJ (σ := Unit) (fun s53 h55 => K h55) (fun J54 =>
  ldI .i64 ((⟨p, 0, none⟩ : Addr).add 1) h3 fun n57 =>
  ldL ⟨p, 0, none⟩ h3 fun o59 l59 c59 =>
  cnd (n57 == (l59 : Int)) (
  stC ((⟨p, 0, none⟩ : Addr).add 2) (.int .i64 307) h3 fun h61 =>
  J54 () h61) (
  cnd (k == 0) (
  stC ((⟨p, 0, none⟩ : Addr).add 2) (.int .i64 308) h3 fun h63 =>
  J54 () h63) (
  J54 () h3)))

theorem endS_spec {h : Heap} {p : Nat} {a : Option Addr} {l c at_ : Nat} {k : Int} (r : Rdr h p a l c at_ 0) {K : Heap → Prop} (hk : ∀ h', Rdr h' p a l c at_ (if at_ = l then 307 else if k = 0 then 308 else 0) → Keep (· = p) h h' → K h') : endS p k K h := by
  unfold endS
  simp only [add_mk]
  refine withJ.intro (fun _ h' => Rdr h' p a l c at_ (if at_ = l then 307 else if k = 0 then 308 else 0) ∧ Keep (· = p) h h') (fun _ h' hh => hk h' hh.1 hh.2) ?_
  intro J hJ
  unfold Rdr at r
  refine ldI_row (o := 0 + 1) r rfl (ldL_row (o := 0) r rfl ?_)
  refine cnd_of (fun e => ?_) (fun e => ?_)
  · have e' : at_ = l := by have := eq_of_beq e; omega
    refine stC_row r (by simp) rfl ?_
    intro h2 s2 r2 k2
    refine hJ _ _ ⟨?_, k2⟩
    rw [if_pos e']
    exact r2
  · have e' : at_ ≠ l := fun e2 => by rw [e2] at e; simp at e
    refine cnd_of (fun e2 => ?_) (fun e2 => ?_)
    · have e3 : k = 0 := eq_of_beq e2
      refine stC_row r (by simp) rfl ?_
      intro h2 s2 r2 k2
      refine hJ _ _ ⟨?_, k2⟩
      rw [if_neg e', if_pos e3]
      exact r2
    · have e3 : k ≠ 0 := ne_of_beq_false e2
      refine hJ _ _ ⟨?_, .refl _ _⟩
      rw [if_neg e', if_neg e3]
      exact r

section
variable {h : Heap} {p : Nat} {a : Option Addr} {l c at_ : Nat} {body : List UInt8}

theorem bodyK {h' : Heap} (hb : Rb h a l body) (hp : ∀ b, blk a b → 0 < l → b ≠ p) (hk : Keep (· = p) h h') : Rb h' a l body := hb.keep hk (fun h0 b hb' => hp b hb' h0)

theorem size_spec (r : Rdr h p a l c at_ 0) (hb : Rb h a l body) (hp : ∀ b, blk a b → 0 < l → b ≠ p) (hl : l ≤ 1000000000) (hat : at_ ≤ l) {R : Int → Heap → Prop}
    (hk : ∀ h', Rdr h' p a l c (at_ + runN 8 (body.drop at_)) (if at_ + runN 8 (body.drop at_) = l then 307 else if runN 8 (body.drop at_) = 0 then 308 else 0) → Keep (· = p) h h' → R ((valN ((body.drop at_).take (runN 8 (body.drop at_))) : Nat) : Int) h') :
    CallT Tryd.prog ref19_Reader_size_no [.pointer (some ⟨p, 0, none⟩)] h [.sc (.int .i64)] R := by
  apply ref19_Reader_size_call
  unfold ref19_Reader_size
  have hlen := hb.len
  have hn := runN_le 8 (body.drop at_)
  have hdg := @runN_dg 8 (body.drop at_)
  have hsl : (body.drop at_).length = l - at_ := by rw [List.length_drop]; omega
  generalize hs : body.drop at_ = s at hk hn hdg hsl
  refine LoopT.intro (fun (t : Int × Int) h' => 0 ≤ t.2 ∧ t.2 ≤ 8 ∧ t.2.toNat ≤ s.length ∧ t.1 = ((valN (s.take t.2.toNat) : Nat) : Int) ∧ t.1 < 16 ^ t.2.toNat ∧ Rdr h' p a l c (at_ + t.2.toNat) 0 ∧ Keep (· = p) h h' ∧ runN 8 s = t.2.toNat + runN (8 - t.2.toNat) (s.drop t.2.toNat)) (fun t _ => (8 - t.2).toNat) ?_ ?_
  · exact ⟨by simp, by simp, by simp, by simp [valN], by simp, by simpa using r, .refl _ _, by simp⟩
  · rintro ⟨acc, k⟩ h2 ⟨p1, p2, p3, p4, p5, p6, p7, p8⟩
    replace p1 : 0 ≤ k := p1
    replace p2 : k ≤ 8 := p2
    replace p3 : k.toNat ≤ s.length := p3
    replace p4 : acc = ((valN (s.take k.toNat) : Nat) : Int) := p4
    replace p5 : acc < 16 ^ k.toNat := p5
    replace p6 : Rdr h2 p a l c (at_ + k.toNat) 0 := p6
    replace p8 : runN 8 s = k.toNat + runN (8 - k.toNat) (s.drop k.toNat) := p8
    have hb2 := bodyK hb hp p7
    have p6' := p6
    unfold Rdr at p6'
    -- the end
    have fin : runN 8 s = k.toNat → endS p k (fun h' => R acc h') h2 := fun e => endS_spec p6 (fun h3 r3 k3 => by
      rw [e] at hk
      rw [p4]
      refine hk h3 ?_ (p7.trans' k3)
      have e2 : (if k.toNat = 0 then (308 : Int) else 0) = if k = 0 then 308 else 0 := by
        by_cases h0 : k = 0
        · rw [if_pos h0, if_pos (by omega)]
        · rw [if_neg h0, if_neg (by omega)]
      rw [e2]
      exact r3)
    refine withJ.intro (fun _ h3 => h3 = h2 ∧ k < 8 ∧ ∃ b, s[k.toNat]? = some b ∧ dg b = true) ?_ ?_
    · rintro _ h3 ⟨rfl, hk8, b, hb0, hd⟩
      simp only [nn_eq, add_mk]
      refine ldL_row (o := 0) p6' rfl (ldI_row (o := 0 + 1) p6' rfl ?_)
      have hi := (List.getElem?_eq_some_iff.1 hb0).1
      refine hb2.at (by omega) (by omega) ?_
      intro b' hb'
      have : b' = b := by
        rw [← hs, List.getElem?_drop] at hb0
        rw [Int.toNat_natCast, hb0] at hb'
        injection hb' with hb'
        exact hb'.symm
      subst this
      refine digit3_spec hd ?_
      refine ldI_row (o := 0 + 1) p6' rfl ?_
      refine stC_row p6' (by simp) rfl ?_
      intro h4 s4 r4 k4
      have hvl := hv_lt hd
      have v3 : (16 : Int) ^ k.toNat ≤ 268435456 := by
        have h1 : (16 : Nat) ^ k.toNat ≤ 16 ^ 7 := Nat.pow_le_pow_right (by omega) (by omega)
        have h2 : (16 : Nat) ^ 7 = 268435456 := by decide
        have h3 : ((16 : Int) ^ k.toNat) = (((16 : Nat) ^ k.toNat : Nat) : Int) := by simp
        rw [h3]; omega
      have a0 : 0 ≤ acc := by omega
      have ea : w64 (w64 (16 * acc) + ((hv b' : Nat) : Int)) = acc * 16 + ((hv b' : Nat) : Int) := by
        rw [w64_id (x := 16 * acc) (by omega) (by omega), w64_id (by omega) (by omega)]; omega
      have ek : (w64 (k + 1)).toNat = k.toNat + 1 := by rw [w64_id (by omega) (by omega)]; omega
      show (0 ≤ w64 (k + 1) ∧ w64 (k + 1) ≤ 8 ∧ (w64 (k + 1)).toNat ≤ s.length ∧ w64 (w64 (16 * acc) + ((hv b' : Nat) : Int)) = ((valN (s.take (w64 (k + 1)).toNat) : Nat) : Int) ∧ w64 (w64 (16 * acc) + ((hv b' : Nat) : Int)) < 16 ^ (w64 (k + 1)).toNat ∧ Rdr h4 p a l c (at_ + (w64 (k + 1)).toNat) 0 ∧ Keep (· = p) h h4 ∧ runN 8 s = (w64 (k + 1)).toNat + runN (8 - (w64 (k + 1)).toNat) (s.drop (w64 (k + 1)).toNat)) ∧ (8 - w64 (k + 1)).toNat < (8 - k).toNat
      rw [ea, ek]
      have hw : w64 (k + 1) = k + 1 := w64_id (by omega) (by omega)
      rw [hw]
      refine ⟨⟨by omega, by omega, by omega, ?_, ?_, ?_, p7.trans' k4, ?_⟩, by omega⟩
      · rw [List.take_add_one, hb0]
        simp only [Option.toList_some]
        rw [valN_snoc, p4]
        omega
      · rw [Int.pow_succ]; omega
      · unfold Rdr
        have e : w64 (((at_ + k.toNat : Nat) : Int) + 1) = ((at_ + (k.toNat + 1) : Nat) : Int) := by rw [w64_id (by omega) (by omega)]; omega
        rw [e] at r4
        exact r4
      · have e8 : 8 - k.toNat = (8 - (k.toNat + 1)) + 1 := by omega
        rw [p8, e8, List.drop_eq_getElem_cons hi]
        have : s[k.toNat] = b' := by
          rw [List.getElem?_eq_getElem hi] at hb0
          injection hb0
        simp only [runN, this, hd, if_true]
        omega
    · intro J hJ
      refine cnd_dec (fun hk8 => ?_) (fun hk8 => ?_)
      · simp only [nn_eq]
        rw [add_mk]
        refine ldI_row (o := 0 + 1) p6' rfl (ldL_row (o := 0) p6' rfl ?_)
        refine cnd_dec (fun hlt => ?_) (fun hge => ?_)
        · refine ldL_row (o := 0) p6' rfl (ldI_row (o := 0 + 1) p6' rfl ?_)
          have hi : k.toNat < s.length := by omega
          refine atA hb2 (by omega) (by omega) ?_
          intro x b hb'
          have hb0 : s[k.toNat]? = some b := by
            rw [← hs, List.getElem?_drop, ← hb', Int.toNat_natCast]
          refine digit19_spec ?_
          refine cnd_of (fun hd => ?_) (fun hd => ?_)
          · exact hJ _ _ ⟨rfl, hk8, b, hb0, hd⟩
          · have e : runN 8 s = k.toNat := by
              have e8 : 8 - k.toNat = (8 - (k.toNat + 1)) + 1 := by omega
              rw [p8, e8, List.drop_eq_getElem_cons hi]
              have : s[k.toNat] = b := by
                rw [List.getElem?_eq_getElem hi] at hb0
                injection hb0
              simp [runN, this, hd]
            have := fin e
            unfold endS at this
            rw [add_mk] at this
            exact this
        · have e : runN 8 s = k.toNat := by
            rw [p8, List.drop_eq_nil_of_le (by omega)]
            cases 8 - k.toNat <;> rfl
          have := fin e
          unfold endS at this
          rw [add_mk] at this
          exact this
      · have e : runN 8 s = k.toNat := by
          rw [p8, show 8 - k.toNat = 0 by omega]
          rfl
        exact fin e
end
end Chunk
end Go.Proofs.YtncffbocmpmejaaDoor
