/- Small letters, splitting, cutting: the program's and the document's. -/
import Derived.Test.YtjpmjhnjdnbopaaPChars
import Derived.Test.YtjpmjhnjdnbopaaPNew
namespace Go.Proofs.Ytjpmjhnjdnbopaa
open Go D
set_option linter.unusedVariables false
set_option linter.unusedSimpArgs false

/-! ### small letters -/
theorem low_iff (b : UInt8) : (65 ≤ b.toNat ∧ b.toNat ≤ 90) → (b + 32).toNat = b.toNat + 32 := fun h => by
  rw [UInt8.toNat_add]
  have : (32 : UInt8).toNat = 32 := rfl
  omega

theorem lower_spec {h : Heap} {s : ByteArray} (hs : s.size ≤ 4611686018427387904) {R : ByteArray → Heap → Prop} (hk : ∀ h', Nw h h' → R (ofL (lowerL (bl s))) h') : CallT Try.prog chars_Lower_no [.string s] h [.sc .str] R := by
  apply chars_Lower_call
  unfold chars_Lower
  refine s2b_row (by omega) ?_
  intro c h1 b1 k1 s1
  have hl := bl_len s
  refine LoopT.intro (fun (i : Int) h' => 0 ≤ i ∧ i ≤ s.size ∧ Bs h' (some ⟨h.size, 0, none⟩) s.size c (ofL (((bl s).take i.toNat).map lowB ++ (bl s).drop i.toNat)) ∧ Nw h h') (fun i _ => (s.size - i).toNat) ?_ ?_
  · refine ⟨by omega, by omega, ?_, k1⟩
    simpa [ofL_bl] using b1
  · rintro i h2 ⟨p1, p2, p3, p4⟩
    refine cnd_dec (fun hi => ?_) (fun hi => ?_)
    · have hlt : i.toNat < (bl s).length := by omega
      have hg : (bl s)[i.toNat]? = some (bl s)[i.toNat] := List.getElem?_eq_getElem hlt
      have key : ∀ b, (bl s)[i.toNat]? = some b → ((bl s).take i.toNat).map lowB ++ (bl s).drop i.toNat = ((bl s).take i.toNat).map lowB ++ b :: (bl s).drop (i.toNat + 1) ∧ ((bl s).take (i.toNat + 1)).map lowB ++ (bl s).drop (i.toNat + 1) = ((bl s).take i.toNat).map lowB ++ lowB b :: (bl s).drop (i.toNat + 1) := by
        intro b hb
        have e : (bl s)[i.toNat] = b := by
          rw [hg] at hb; injection hb
        constructor
        · rw [List.drop_eq_getElem_cons hlt, e]
        · rw [List.take_add_one, hb]; simp
      generalize (bl s)[i.toNat] = b at hg
      obtain ⟨e1, e2⟩ := key b hg
      rw [e1] at p3
      have hlen : (((bl s).take i.toNat).map lowB).length = i.toNat := by rw [List.length_map, List.length_take]; omega
      refine withJ.intro (fun _ h3 => Bs h3 (some ⟨h.size, 0, none⟩) s.size c (ofL (((bl s).take (i.toNat + 1)).map lowB ++ (bl s).drop (i.toNat + 1))) ∧ Nw h h3) ?_ ?_
      · rintro _ h3 ⟨q1, q2⟩
        rw [w64_id (by omega) (by omega), show (i + 1).toNat = i.toNat + 1 by omega]
        exact ⟨⟨by omega, by omega, q1, q2⟩, by omega⟩
      · intro J hJ
        refine p3.at p1 hi ?_
        intro b' hb'
        have : b' = b := by
          have h0 : (bl (ofL (((bl s).take i.toNat).map lowB ++ b :: (bl s).drop (i.toNat + 1))))[i.toNat]? = some b' := hb'
          rw [bl_ofL, List.getElem?_append_right (by omega), hlen, Nat.sub_self] at h0
          injection h0 with h0
          exact h0.symm
        subst this
        refine withJ.intro (fun (q : Bool) h3 => h3 = h2 ∧ q = decide (65 ≤ b'.toNat ∧ b'.toNat ≤ 90)) ?_ ?_
        · rintro q h3 ⟨rfl, rfl⟩
          refine cnd_dec (fun hy => ?_) (fun hn => ?_)
          · refine SlR.idx p3 p1 hi fun x hx hsp => ?_
            injection hx with hx
            subst hx
            rw [Nat.mul_one]
            refine SlR.set p3 (by omega) rfl ?_
            intro h4 z4 q4 k4
            refine hJ _ _ ⟨?_, p4.st k4 (Nat.le_refl _)⟩
            rw [e2]
            unfold Bs
            rw [ofL_bytes] at q4 ⊢
            rw [List.map_append, List.set_append_right _ _ (by rw [List.length_map]; omega), List.length_map, hlen, Nat.sub_self] at q4
            rw [List.map_append]
            have : byteV (lowB b') = .int .u8 (IntKind.u8.wrap ((b'.toNat : Int) + 32)) := by
              unfold byteV lowB
              rw [if_pos hy, low_iff b' hy, wrap_u8]
              congr 1
              omega
            rw [List.map_cons, this]
            exact q4
          · refine hJ _ _ ⟨?_, p4⟩
            rw [e2]
            have : lowB b' = b' := by unfold lowB; rw [if_neg hn]
            rw [this]
            exact p3
        · intro J2 hJ2
          refine cnd_dec (fun h1 => hJ2 _ _ ⟨rfl, ?_⟩) (fun h1 => hJ2 _ _ ⟨rfl, ?_⟩)
          · rw [Bool.eq_iff_iff, decide_eq_true_eq, decide_eq_true_eq]; omega
          · exact (decide_eq_false (by omega)).symm
    · have : i.toNat = (bl s).length := by omega
      refine p3.str ?_
      have := hk h2 p4
      unfold lowerL at this
      rw [List.take_of_length_le (by omega), List.drop_eq_nil_of_le (by omega), List.append_nil]
      exact this

theorem lower3_spec {h : Heap} {s : ByteArray} (hs : s.size ≤ 100000000000000) {R : ByteArray → Heap → Prop} (hk : ∀ h', Nw h h' → R (ofL (lowerL (bl s))) h') : CallT Try.prog ref3_Lower_no [.string s] h [.sc .str] R := by
  apply ref3_Lower_call
  unfold ref3_Lower
  have hl := bl_len s
  refine LoopT.intro (fun (t : Sl × Int) h' => 0 ≤ t.2 ∧ t.2 ≤ s.size ∧ Own h h' 1 t.1 ((lowerL ((bl s).take t.2.toNat)).map byteV) ∧ Nw h h') (fun t _ => (s.size - t.2).toNat) ?_ ?_
  · exact ⟨by simp, by simp, Own.nil _ _ _, .refl _ _⟩
  · rintro ⟨o, i⟩ h2 ⟨p1, p2, p3, p4⟩
    replace p1 : 0 ≤ i := p1
    replace p2 : i ≤ s.size := p2
    replace p3 : Own h h2 1 o ((lowerL ((bl s).take i.toNat)).map byteV) := p3
    have ol := p3.len
    have ol2 : (lowerL ((bl s).take i.toNat)).length = i.toNat := by unfold lowerL; rw [List.length_map, List.length_take]; omega
    rw [List.length_map, ol2] at ol
    refine cnd_dec (fun hi => ?_) (fun hi => ?_)
    · replace hi : i < (s.size : Int) := hi
      have hlt : i.toNat < (bl s).length := by omega
      have hg : (bl s)[i.toNat]? = some (bl s)[i.toNat] := List.getElem?_eq_getElem hlt
      generalize (bl s)[i.toNat] = b at hg
      refine withJ.intro (fun (s' : Sl) h3 => Own h h3 1 s' ((lowerL ((bl s).take (i.toNat + 1))).map byteV) ∧ Nw h h3) ?_ ?_
      · rintro s' h3 ⟨q1, q2⟩
        show (0 ≤ w64 (i + 1) ∧ w64 (i + 1) ≤ s.size ∧ Own h h3 1 s' ((lowerL ((bl s).take (w64 (i + 1)).toNat)).map byteV) ∧ Nw h h3) ∧ (s.size - w64 (i + 1)).toNat < (s.size - i).toNat
        rw [w64_id (x := i + 1) (by omega) (by omega), show (i + 1).toNat = i.toNat + 1 by omega]
        exact ⟨⟨by omega, by omega, q1, q2⟩, by omega⟩
      · intro J hJ
        refine sidx_i p1 hg ?_
        refine withJ.intro (fun (c : Int) h3 => h3 = h2 ∧ c = ((lowB b).toNat : Int)) ?_ ?_
        · rintro c h3 ⟨rfl, rfl⟩
          refine p3.push p4 rfl rfl rfl (fun v hv => by simp only [List.mem_singleton] at hv; subst hv; rfl) (by omega) ?_
          intro a' c' h4 q1 q2 q3 q4
          refine hJ _ _ ⟨?_, q2⟩
          unfold lowerL
          rw [List.take_add_one, hg]
          simp only [Option.toList_some, List.map_append, List.map_cons, List.map_nil]
          exact q1
        · intro J2 hJ2
          refine withJ.intro (fun (q : Bool) h3 => h3 = h2 ∧ q = decide (65 ≤ b.toNat ∧ b.toNat ≤ 90)) ?_ ?_
          · rintro q h3 ⟨rfl, rfl⟩
            refine cnd_dec (fun hy => hJ2 _ _ ⟨rfl, ?_⟩) (fun hn => hJ2 _ _ ⟨rfl, ?_⟩)
            · unfold lowB
              rw [if_pos hy, low_iff b hy, wrap_u8]
              omega
            · unfold lowB
              rw [if_neg hn]
          · intro J3 hJ3
            refine cnd_dec (fun h1 => hJ3 _ _ ⟨rfl, ?_⟩) (fun h1 => hJ3 _ _ ⟨rfl, ?_⟩)
            · rw [Bool.eq_iff_iff, decide_eq_true_eq, decide_eq_true_eq]; omega
            · exact (decide_eq_false (by omega)).symm
    · have hil : ¬ i < (s.size : Int) := hi
      have hrb : Rb h2 o.a o.len (lowerL ((bl s).take i.toNat)) := p3.rv
      refine Rb.str hrb ?_
      rw [List.take_of_length_le (by omega)]
      exact hk h2 p4

/-! ### splitting -/
def splitA (c : UInt8) : List UInt8 → List UInt8 → List (List UInt8)
  | cur, [] => [cur]
  | cur, b :: r => if b = c then cur :: splitA c [] r else splitA c (cur ++ [b]) r
def splitL (c : UInt8) (s : List UInt8) : List (List UInt8) := splitA c [] s
def strsV (l : List (List UInt8)) : List Value := l.map fun x => .string (ofL x)
theorem strsV_app (a b : List (List UInt8)) : strsV (a ++ b) = strsV a ++ strsV b := List.map_append
theorem strsV_one (l : List (List UInt8)) : ∀ v ∈ strsV l, v.oneCell' = true := fun v hv => by obtain ⟨x, _, rfl⟩ := List.mem_map.1 hv; rfl

theorem beq_byte (b c : UInt8) : (((b.toNat : Nat) : Int) == ((c.toNat : Nat) : Int)) = decide (b = c) := by
  rw [Bool.eq_iff_iff, beq_iff_eq, decide_eq_true_eq, ← UInt8.toNat_inj]
  omega

structure SplitI (h : Heap) (s : ByteArray) (c : UInt8) (o : Sl) (fr i : Int) (h' : Heap) : Prop where
  fr0 : 0 ≤ fr
  fri : fr ≤ i
  iz : i ≤ s.size
  nw : Nw h h'
  own : ∃ done, Own h h' 1 o (strsV done) ∧ splitL c (bl s) = done ++ splitA c (((bl s).drop fr.toNat).take (i.toNat - fr.toNat)) ((bl s).drop i.toNat) ∧ done.length ≤ i

theorem split_step {h h2 : Heap} {s : ByteArray} {c : UInt8} {o : Sl} {fr i : Int} (hs : s.size ≤ 1000000000) (hI : SplitI h s c o fr i h2) (hi : i < s.size) {J : Sl × Int → Heap → Prop} (hJ : ∀ o' fr' h3, SplitI h s c o' fr' (i + 1) h3 → J (o', fr') h3) :
    sidx s i fun u7 =>
  cnd ((u7.toNat : Int) == ((c.toNat : Nat) : Int)) (
  ssl s fr i fun s8 =>
  newB [.string s8] 9 h2 fun a9 h10 =>
  ldRow (1 * 1) a9 h10 fun cs14 =>
  app [.string (⟨#[]⟩ : ByteArray)] 9 1 16 o.a o.len o.cap cs14 1 h10 fun o11 c12 h13 =>
  J ((⟨o11, (o.len + 1), c12⟩ : Sl), (w64 (i + 1))) h13) (
  J (o, fr) h2) := by
  have hl := bl_len s
  obtain ⟨f0, f1, f2, nw, done, ow, eq, dl⟩ := hI
  have hlt : i.toNat < (bl s).length := by omega
  have hg : (bl s)[i.toNat]? = some (bl s)[i.toNat] := List.getElem?_eq_getElem hlt
  have hd : (bl s).drop i.toNat = (bl s)[i.toNat] :: (bl s).drop (i.toNat + 1) := List.drop_eq_getElem_cons hlt
  generalize (bl s)[i.toNat] = b at hg hd
  rw [hd] at eq
  have ol := ow.len
  have ol2 : (strsV done).length = done.length := List.length_map _
  refine sidx_i (by omega) hg ?_
  rw [beq_byte]
  refine cnd_dec (fun hb => ?_) (fun hb => ?_)
  · refine ssl_bl f0 f1 f2 ?_
    refine ow.push nw rfl rfl rfl (fun v hv => by simp only [List.mem_singleton] at hv; subst hv; rfl) (by omega) ?_
    intro a' c' h3 q1 q2 q3 q4
    rw [w64_id (by omega) (by omega)]
    refine hJ _ _ _ ⟨by omega, Int.le_refl _, by omega, q2, done ++ [((bl s).drop fr.toNat).take (i.toNat - fr.toNat)], ?_, ?_, ?_⟩
    · rw [strsV_app]
      exact q1
    · rw [eq]
      simp only [splitA]
      rw [if_pos hb, Nat.sub_self, List.take_zero, show (i + 1).toNat = i.toNat + 1 by omega]
      simp
    · rw [List.length_append]; simp; omega
  · refine hJ _ _ _ ⟨f0, by omega, by omega, nw, done, ow, ?_, by omega⟩
    rw [eq]
    simp only [splitA]
    rw [if_neg hb, show (i + 1).toNat = i.toNat + 1 by omega, show i.toNat + 1 - fr.toNat = (i.toNat - fr.toNat) + 1 by omega, List.take_add_one, List.getElem?_drop, show fr.toNat + (i.toNat - fr.toNat) = i.toNat by omega, hg]
    rfl

theorem split_end {h h2 : Heap} {s : ByteArray} {c : UInt8} {o : Sl} {fr i : Int} (hs : s.size ≤ 1000000000) (hI : SplitI h s c o fr i h2) (hi : ¬ i < s.size) {K : Option Addr → Nat → Heap → Prop} (hK : ∀ a' c' h3, Own h h3 1 ⟨a', o.len + 1, c'⟩ (strsV (splitL c (bl s))) → Nw h h3 → K a' c' h3) :
  ssl s fr (s.size : Int) fun s15 =>
  newB [.string s15] 9 h2 fun a16 h17 =>
  ldRow (1 * 1) a16 h17 fun cs21 =>
  app [.string (⟨#[]⟩ : ByteArray)] 9 1 16 o.a o.len o.cap cs21 1 h17 K := by
  have hl := bl_len s
  obtain ⟨f0, f1, f2, nw, done, ow, eq, dl⟩ := hI
  have ol := ow.len
  have ol2 : (strsV done).length = done.length := List.length_map _
  rw [List.drop_eq_nil_of_le (show (bl s).length ≤ i.toNat by omega)] at eq
  simp only [splitA] at eq
  refine ssl_bl f0 (by omega) (by omega) ?_
  refine ow.push nw rfl rfl rfl (fun v hv => by simp only [List.mem_singleton] at hv; subst hv; rfl) (by omega) ?_
  intro a' c' h3 q1 q2 q3 q4
  refine hK a' c' h3 ?_ q2
  rw [eq, strsV_app]
  have : i.toNat = (s.size : Int).toNat := by omega
  rw [this]
  exact q1

theorem split_spec {h : Heap} {s : ByteArray} {c : UInt8} (hs : s.size ≤ 1000000000) {R : Sl → Heap → Prop} (hk : ∀ o h', Own h h' 1 o (strsV (splitL c (bl s))) → Nw h h' → R o h') : CallT Try.prog chars_Split_no [.string s, .int .u8 (c.toNat : Int)] h [.sc .sl] R := by
  apply chars_Split_call
  unfold chars_Split
  refine LoopT.intro (fun (t : Sl × Int × Int) h' => SplitI h s c t.1 t.2.1 t.2.2 h') (fun t _ => (s.size - t.2.2).toNat) ?_ ?_
  · exact ⟨by simp, by simp, by simp, .refl _ _, [], Own.nil _ _ _, by simp [splitL], by simp⟩
  · rintro ⟨o, fr, i⟩ h2 hI
    replace hI : SplitI h s c o fr i h2 := hI
    have f0 := hI.fr0
    have f1 := hI.fri
    have f2 := hI.iz
    refine cnd_dec (fun hi => ?_) (fun hi => ?_)
    · replace hi : i < (s.size : Int) := hi
      refine withJ.intro (fun (t : Sl × Int) h3 => SplitI h s c t.1 t.2 (i + 1) h3) ?_ ?_
      · rintro ⟨o', fr'⟩ h3 hI'
        show SplitI h s c o' fr' (w64 (i + 1)) h3 ∧ (s.size - w64 (i + 1)).toNat < (s.size - i).toNat
        rw [w64_id (x := i + 1) (by omega) (by omega)]
        exact ⟨hI', by omega⟩
      · intro J hJ
        exact split_step hs hI hi (fun o' fr' h3 hI' => hJ _ _ hI')
    · refine split_end hs hI hi ?_
      intro a' c' h3 q1 q2
      have q1' := Own.cut (K := fun o l c => R ⟨o, l, c⟩ h3) q1 (fun a2 q3 _ => hk _ _ q3 q2)
      exact q1'

theorem split3_spec {h : Heap} {s : ByteArray} {c : UInt8} (hs : s.size ≤ 1000000000) {R : Sl → Heap → Prop} (hk : ∀ o h', Own h h' 1 o (strsV (splitL c (bl s))) → Nw h h' → R o h') : CallT Try.prog ref3_Split_no [.string s, .int .u8 (c.toNat : Int)] h [.sc .sl] R := by
  apply ref3_Split_call
  unfold ref3_Split
  refine LoopT.intro (fun (t : Sl × Int × Int) h' => SplitI h s c t.1 t.2.1 t.2.2 h') (fun t _ => (s.size - t.2.2).toNat) ?_ ?_
  · exact ⟨by simp, by simp, by simp, .refl _ _, [], Own.nil _ _ _, by simp [splitL], by simp⟩
  · rintro ⟨o, fr, i⟩ h2 hI
    replace hI : SplitI h s c o fr i h2 := hI
    have f0 := hI.fr0
    have f1 := hI.fri
    have f2 := hI.iz
    refine cnd_dec (fun hi => ?_) (fun hi => ?_)
    · replace hi : i < (s.size : Int) := hi
      refine withJ.intro (fun (t : Sl × Int) h3 => SplitI h s c t.1 t.2 (i + 1) h3) ?_ ?_
      · rintro ⟨o', fr'⟩ h3 hI'
        show SplitI h s c o' fr' (w64 (i + 1)) h3 ∧ (s.size - w64 (i + 1)).toNat < (s.size - i).toNat
        rw [w64_id (x := i + 1) (by omega) (by omega)]
        exact ⟨hI', by omega⟩
      · intro J hJ
        exact split_step hs hI hi (fun o' fr' h3 hI' => hJ _ _ hI')
    · refine split_end hs hI hi ?_
      intro a' c' h3 q1 q2
      exact hk _ _ q1 q2

/-! ### cutting, trimming: the document's -/
theorem cut3_spec {h : Heap} {s : ByteArray} {c : UInt8} (hs : s.size ≤ 4611686018427387904) {R : ByteArray × ByteArray × Bool → Heap → Prop} (hk : R (ofL (cutAt c (bl s)).1, ofL (cutAt c (bl s)).2.1, (cutAt c (bl s)).2.2) h) :
    CallT Try.prog ref3_Cut_no [.string s, .int .u8 (c.toNat : Int)] h [.sc .str, .sc .str, .sc .bool] R := by
  apply ref3_Cut_call
  unfold ref3_Cut
  have hl := bl_len s
  refine LoopT.intro (fun (i : Int) h' => h' = h ∧ 0 ≤ i ∧ i ≤ s.size ∧ ∀ (j : Nat) (b : UInt8), j < i.toNat → (bl s)[j]? = some b → b ≠ c) (fun i _ => (s.size - i).toNat) ⟨rfl, by omega, by omega, fun j b hj => by omega⟩ ?_
  rintro i h' ⟨rfl, p1, p2, p3⟩
  refine cnd_dec (fun hi => ?_) (fun hi => ?_)
  · have hlt : i.toNat < (bl s).length := by omega
    have hg : (bl s)[i.toNat]? = some (bl s)[i.toNat] := List.getElem?_eq_getElem hlt
    generalize (bl s)[i.toNat] = b at hg
    refine sidx_i (by omega) hg ?_
    rw [beq_byte]
    refine cnd_dec (fun hb => ?_) (fun hb => ?_)
    · subst hb
      rw [cutAt_yes hg p3] at hk
      rw [w64_id (by omega) (by omega)]
      refine ssl_bl (by omega) (by omega) (by omega) (ssl_bl (by omega) (by omega) (by omega) ?_)
      have e1 : ((bl s).drop (0 : Int).toNat).take (i.toNat - (0 : Int).toNat) = (bl s).take i.toNat := by simp
      have e2 : ((bl s).drop (i + 1).toNat).take ((s.size : Int).toNat - (i + 1).toNat) = (bl s).drop (i.toNat + 1) := by
        rw [show (i + 1).toNat = i.toNat + 1 by omega]
        exact List.take_of_length_le (by rw [List.length_drop]; omega)
      rw [e1, e2]
      exact hk
    · rw [w64_id (by omega) (by omega)]
      refine ⟨⟨rfl, by omega, by omega, fun j d hj hd => ?_⟩, by omega⟩
      by_cases hji : j < i.toNat
      · exact p3 j d hji hd
      · have : j = i.toNat := by omega
        subst this
        rw [hg] at hd
        injection hd with hd
        rw [← hd]; exact hb
  · rw [cutAt_no (fun j b hb => p3 j b (by have := (List.getElem?_eq_some_iff.1 hb).1; omega) hb)] at hk
    have : ofL (bl s) = s := ofL_bl s
    rw [this] at hk
    exact hk

theorem beq_c (b : UInt8) (n : Nat) (hn : n < 256) : (((b.toNat : Nat) : Int) == (n : Int)) = (b == UInt8.ofNat n) := by
  rw [Bool.eq_iff_iff, beq_iff_eq, beq_iff_eq, ← UInt8.toNat_inj, UInt8.toNat_ofNat']
  omega

def endTrim3 (s_0 : ByteArray) (R : ByteArray → Heap → Prop) (h : Heap) : Prop :=
  LoopT (σ := ByteArray) (fun X11 s10 h12 =>
  withJ (σ := ByteArray × ByteArray × Int × Int × Int × Bool × Bool × Bool) (fun s13 h15 =>
  ssl s10 0 (w64 ((s10.size : Int) - 1)) fun s16 =>
  X11 s16 h15) (fun J14 =>
  cnd (decide ((s10.size : Int) > 0)) (
  sidx s10 (w64 ((s10.size : Int) - 1)) fun u17 =>
  cnd ((u17.toNat : Int) == 32) (
  J14 (s10, s10, (s10.size : Int), (w64 ((s10.size : Int) - 1)), (u17.toNat : Int), ((u17.toNat : Int) == 32), true, true) h12) (
  sidx s10 (w64 ((s10.size : Int) - 1)) fun u18 =>
  cnd ((u18.toNat : Int) == 9) (
  J14 (s10, s10, (s10.size : Int), (w64 ((s10.size : Int) - 1)), (u17.toNat : Int), ((u17.toNat : Int) == 32), false, ((u18.toNat : Int) == 9)) h12) (
  R s10 h12))) (
  R s10 h12))) s_0 h

theorem endTrim3_spec {h : Heap} {s : ByteArray} (hs : s.size ≤ 4611686018427387904) {R : ByteArray → Heap → Prop} (hk : R (ofL ((bl s).reverse.dropWhile blankB).reverse) h) : endTrim3 s R h := by
  unfold endTrim3
  refine LoopT.intro (fun (t : ByteArray) h' => h' = h ∧ t.size ≤ 4611686018427387904 ∧ ((bl t).reverse.dropWhile blankB).reverse = ((bl s).reverse.dropWhile blankB).reverse) (fun t _ => t.size) ⟨rfl, hs, rfl⟩ ?_
  rintro t h' ⟨rfl, ht, e⟩
  rw [← e] at hk ⊢
  refine withJ.intro (fun _ h2 => h2 = h' ∧ ∃ l b, bl t = l ++ [b] ∧ blankB b = true) ?_ ?_
  · rintro _ h2 ⟨rfl, l, b, el, hb⟩
    have hl : t.size = l.length + 1 := by rw [← bl_len, el]; simp
    rw [w64_id (by omega) (by omega)]
    refine ssl_bl (by omega) (by omega) (by omega) ?_
    have e2 : ((bl t).drop (0 : Int).toNat).take (((t.size : Int) - 1).toNat - (0 : Int).toNat) = l := by
      rw [el, show ((t.size : Int) - 1).toNat = l.length by omega]
      simp
    rw [e2]
    refine ⟨⟨rfl, by rw [ofL_size]; omega, ?_⟩, by rw [ofL_size]; omega⟩
    rw [bl_ofL, el, rtrim_cons hb]
  · intro J hJ
    by_cases h0 : t.size = 0
    · have e0 := bl_nil_of h0
      refine cnd_neg (by omega) ?_
      rw [e0] at hk
      rw [← ofL_bl t, e0]
      exact hk
    · obtain ⟨l, b, el⟩ := snoc_of h0
      have hl : t.size = l.length + 1 := by rw [← bl_len, el]; simp
      refine cnd_pos (by omega) ?_
      rw [w64_id (x := (t.size : Int) - 1) (by omega) (by omega), show (t.size : Int) - 1 = (l.length : Int) by omega]
      refine sidx_at (b := b) (by rw [el]; simp) ?_
      have e1 := beq_c b 32 (by decide)
      have e2 := beq_c b 9 (by decide)
      refine cnd_of (fun hb => hJ _ _ ⟨rfl, l, b, el, ?_⟩) (fun hb => ?_)
      · unfold blankB; rw [show (b == 32) = true from e1.symm.trans hb]; rfl
      · refine sidx_at (b := b) (by rw [el]; simp) ?_
        refine cnd_of (fun hb2 => hJ _ _ ⟨rfl, l, b, el, ?_⟩) (fun hb2 => ?_)
        · unfold blankB; rw [show (b == 9) = true from e2.symm.trans hb2]; simp
        · have hbf : blankB b = false := by unfold blankB; rw [show (b == 32) = false from e1.symm.trans hb, show (b == 9) = false from e2.symm.trans hb2]; rfl
          rw [el, rtrim_stop hbf, ← el, ofL_bl] at hk
          exact hk

theorem trim3_spec {h : Heap} {s : ByteArray} (hs : s.size ≤ 4611686018427387904) {R : ByteArray → Heap → Prop} (hk : R (ofL (trimL (bl s))) h) : CallT Try.prog ref3_Trim_no [.string s] h [.sc .str] R := by
  apply ref3_Trim_call
  unfold ref3_Trim
  unfold trimL at hk
  refine LoopT.intro (fun (t : ByteArray) h' => h' = h ∧ t.size ≤ 4611686018427387904 ∧ (bl t).dropWhile blankB = (bl s).dropWhile blankB) (fun t _ => t.size) ⟨rfl, hs, rfl⟩ ?_
  rintro t h' ⟨rfl, ht, e⟩
  rw [← e] at hk ⊢
  refine withJ.intro (fun _ h2 => h2 = h' ∧ ∃ b l, bl t = b :: l ∧ blankB b = true) ?_ ?_
  · rintro _ h2 ⟨rfl, b, l, el, hb⟩
    have hl : t.size = l.length + 1 := by rw [← bl_len, el]; simp
    refine ssl_bl (by omega) (by omega) (by omega) ?_
    have e2 : ((bl t).drop (1 : Int).toNat).take ((t.size : Int).toNat - (1 : Int).toNat) = l := by
      rw [el]
      show l.take _ = l
      exact List.take_of_length_le (by omega)
    rw [e2]
    refine ⟨⟨rfl, by rw [ofL_size]; omega, ?_⟩, by rw [ofL_size]; omega⟩
    rw [bl_ofL, el, List.dropWhile_cons, if_pos hb]
  · intro J hJ
    have fin : (bl t).dropWhile blankB = bl t → endTrim3 t R h' := fun e2 => by
      rw [e2] at hk
      exact endTrim3_spec ht hk
    by_cases h0 : t.size = 0
    · have e0 := bl_nil_of h0
      exact cnd_neg (by omega) (fin (by rw [e0]; rfl))
    · cases el : bl t with
      | nil => exact absurd (by rw [← bl_len, el]; rfl) h0
      | cons b l =>
        refine cnd_pos (by omega) ?_
        refine sidx_at (i := 0) (b := b) (by rw [el]; rfl) ?_
        have e1 := beq_c b 32 (by decide)
        have e2 := beq_c b 9 (by decide)
        refine cnd_of (fun hb => hJ _ _ ⟨rfl, b, l, el, ?_⟩) (fun hb => ?_)
        · unfold blankB; rw [show (b == 32) = true from e1.symm.trans hb]; rfl
        · refine sidx_at (i := 0) (b := b) (by rw [el]; rfl) ?_
          refine cnd_of (fun hb2 => hJ _ _ ⟨rfl, b, l, el, ?_⟩) (fun hb2 => ?_)
          · unfold blankB; rw [show (b == 9) = true from e2.symm.trans hb2]; simp
          · have hbf : blankB b = false := by unfold blankB; rw [show (b == 32) = false from e1.symm.trans hb, show (b == 9) = false from e2.symm.trans hb2]; rfl
            exact fin (by rw [el, List.dropWhile_cons, if_neg (by simp [hbf])])
end Go.Proofs.Ytjpmjhnjdnbopaa
