/- The document's reader: lines, header lines. -/
import Derived.Test.YtjpmjhnjdnbopaaPParseF
namespace Go.Proofs.Ytjpmjhnjdnbopaa
open Go D
set_option linter.unusedVariables false
set_option linter.unusedSimpArgs false

/-- the document's reader -/
def dRow (s : ByteArray) (at_ head lines : Nat) (more : Bool) (f : Int) : List Value := [.string s, .int .i64 (at_ : Int), .int .i64 (head : Int), .int .i64 (lines : Int), .bool more, .int .i64 f, .slice none 0 0]
/-- it stopped with this fault -/
def DStop (h : Heap) (p : Nat) (s : ByteArray) (f : Int) : Prop := ∃ (a b c : Nat) (m : Bool), Row h p (dRow s a b c m f)

theorem at2_lt {a : List UInt8} {i : Nat} (h : At2 a i) : i + 2 ≤ a.length := by
  have := (List.getElem?_eq_some_iff.1 h.2).1
  omega
theorem crlf_at {s : List UInt8} {k i : Nat} (h : crlf (s.drop k) = some i) : At2 s (k + i) ∧ ∀ j, k ≤ j → j < k + i → ¬ At2 s j := by
  have hd : ∀ j, At2 (s.drop k) j ↔ At2 s (k + j) := fun j => by
    unfold At2
    rw [List.getElem?_drop, List.getElem?_drop]
    rfl
  rcases crlf_is (s.drop k) with ⟨e, _⟩ | ⟨i', e, hi, hn⟩
  · rw [e] at h; cases h
  · rw [e] at h
    injection h with h
    subst h
    exact ⟨(hd _).1 hi, fun j h1 h2 h3 => hn (j - k) (by omega) ((hd _).2 (by rw [show k + (j - k) = j by omega]; exact h3))⟩

def endR (s : List UInt8) (k : Nat) : Int := match crlf (s.drop k) with | some i => ((k + i : Nat) : Int) | none => -1

theorem end_spec {h : Heap} {s : ByteArray} {k : Nat} (hs : s.size ≤ 4000000000000) (hk0 : k ≤ s.size) {R : Int → Heap → Prop} (hk : R (endR (bl s) k) h) : CallT Try.prog ref16_end_no [.string s, .int .i64 (k : Int)] h [.sc (.int .i64)] R := by
  apply ref16_end_call
  unfold ref16_end
  have hl := bl_len s
  have hd : ∀ j, At2 ((bl s).drop k) j ↔ At2 (bl s) (k + j) := fun j => by
    unfold At2
    rw [List.getElem?_drop, List.getElem?_drop]
    rfl
  refine LoopT.intro (fun (i : Int) h' => h' = h ∧ k ≤ i ∧ i ≤ s.size ∧ ∀ j, k ≤ j → (j : Int) < i → ¬ At2 (bl s) j) (fun i _ => (s.size - i).toNat) ⟨rfl, by omega, by omega, fun j h1 h2 => by omega⟩ ?_
  rintro i h' ⟨rfl, p1, p2, p3⟩
  obtain ⟨n, rfl⟩ : ∃ n : Nat, i = (n : Int) := ⟨i.toNat, by omega⟩
  rw [w64_id (x := (n : Int) + 1) (by omega) (by omega)]
  refine cnd_dec (fun hi => ?_) (fun hi => ?_)
  · have i1 : n < (bl s).length := by omega
    have i2 : n + 1 < (bl s).length := by omega
    have g1 : (bl s)[n]? = some (bl s)[n] := List.getElem?_eq_getElem i1
    have g2 : (bl s)[n + 1]? = some (bl s)[n + 1] := List.getElem?_eq_getElem i2
    generalize (bl s)[n] = x at g1
    generalize (bl s)[n + 1] = y at g2
    refine withJ.intro (fun _ h2 => h2 = h' ∧ ¬ At2 (bl s) n) ?_ ?_
    · rintro _ h2 ⟨rfl, hn⟩
      refine ⟨⟨rfl, by omega, by omega, fun j h1 h2 => ?_⟩, by omega⟩
      by_cases hj : j = n
      · subst hj; exact hn
      · exact p3 j h1 (by omega)
    · intro J hJ
      refine withJ.intro (fun (q : Bool) h2 => h2 = h' ∧ q = decide (At2 (bl s) n)) ?_ ?_
      · rintro q h2 ⟨rfl, rfl⟩
        refine cnd_dec (fun e => ?_) (fun e => hJ _ _ ⟨rfl, e⟩)
        have hc : crlf ((bl s).drop k) = some (n - k) := crlf_some ((hd _).2 (by rw [show k + (n - k) = n by omega]; exact e)) (fun j hj hj2 => p3 (k + j) (by omega) (by omega) ((hd j).1 hj2))
        unfold endR at hk
        rw [hc] at hk
        simp only at hk
        rw [show k + (n - k) = n by omega] at hk
        exact hk
      · intro J2 hJ2
        refine sidx_at g1 ?_
        have q1 := beq_c x 13 (by decide)
        rw [show ((x.toNat : Int) == 13) = (x == 13) from q1]
        have h2 : At2 (bl s) n ↔ x = 13 ∧ y = 10 := by
          unfold At2
          rw [g1, g2]
          simp
        refine cnd_of (fun e => ?_) (fun e => hJ2 _ _ ⟨rfl, ?_⟩)
        · have ex : x = 13 := by simpa using e
          refine sidx_i (i := (n : Int) + 1) (b := y) (by omega) (by rw [show ((n : Int) + 1).toNat = n + 1 by omega]; exact g2) (hJ2 _ _ ⟨rfl, ?_⟩)
          have q2 := beq_c y 10 (by decide)
          rw [show ((y.toNat : Int) == 10) = (y == 10) from q2, Bool.eq_iff_iff, decide_eq_true_eq, h2]
          simp [ex]
        · have ex : x ≠ 13 := by simpa using e
          symm
          exact decide_eq_false (fun hh => ex (h2.1 hh).1)
  · have hc : crlf ((bl s).drop k) = none := crlf_none (fun j hj => by
      have hj' := (hd j).1 hj
      have := at2_lt hj'
      exact p3 (k + j) (by omega) (by omega) hj')
    unfold endR at hk
    rw [hc] at hk
    exact hk

theorem bare16_spec {h : Heap} {s : ByteArray} (hs : s.size ≤ 4611686018427387904) {R : Bool → Heap → Prop} (hk : R (bareL (bl s)) h) : CallT Try.prog ref16_bare_no [.string s] h [.sc .bool] R := by
  apply ref16_bare_call
  unfold ref16_bare
  have e1 : bareL (bl s) = !(bl s).all (fun b => !isCL b) := by
    unfold bareL
    rw [Bool.eq_iff_iff]
    simp
  refine scan (fun b => !isCL b) hs (fun X i b hi hb hy hn => ?_) (fun hall X => ?_)
  · refine cnd_pos (by omega) ?_
    refine withJ.intro (fun _ h' => h' = h ∧ isCL b = false) (by rintro _ _ ⟨rfl, ht⟩; exact hy (by simp [ht])) ?_
    intro J hJ
    refine withJ.intro (fun (q : Bool) h' => h' = h ∧ q = isCL b) ?_ ?_
    · rintro q h' ⟨rfl, rfl⟩
      refine cnd_of (fun e => ?_) (fun e => hJ _ _ ⟨rfl, e⟩)
      rw [e1, hn (by simp [e])] at hk
      exact hk
    · intro J2 hJ2
      refine sidx_at hb ?_
      have q1 := beq_c b 13 (by decide)
      have q2 := beq_c b 10 (by decide)
      rw [show ((b.toNat : Int) == 13) = (b == 13) from q1]
      refine cnd_of (fun e => hJ2 _ _ ⟨rfl, by unfold isCL; rw [e]; rfl⟩) (fun e => ?_)
      refine sidx_at hb (hJ2 _ _ ⟨rfl, ?_⟩)
      rw [show ((b.toNat : Int) == 10) = (b == 10) from q2]
      unfold isCL
      rw [e]; rfl
  · refine cnd_neg (by omega) ?_
    rw [e1, hall] at hk
    exact hk

section
variable {h : Heap} {p : Nat} {s : ByteArray} {at_ head lines : Nat}

theorem mid_ssl {s : ByteArray} {k i : Nat} (hi : k + i ≤ s.size) {K : ByteArray → Prop} (hk : K (ofL (((bl s).drop k).take i))) : ssl s (k : Int) ((k + i : Nat) : Int) K := by
  refine ssl_bl (by omega) (by omega) (by omega) ?_
  rw [Int.toNat_natCast, Int.toNat_natCast, show k + i - k = i by omega]
  exact hk

theorem line16_spec (r : Row h p (dRow s at_ head lines false 0)) (hs : s.size ≤ 4000000000000) (hat : at_ ≤ s.size) {bound : Nat} (hb : bound ≤ 100000) {long : Int} {R : ByteArray × Bool → Heap → Prop}
    (hok : ∀ l n h', lineF bound long ((bl s).drop at_) = .ok (l, n) → Row h' p (dRow s (at_ + n) head lines false 0) → Keep (· = p) h h' → R (ofL l, true) h')
    (hno : ∀ f h', lineF bound long ((bl s).drop at_) = .error f → (∃ (a : Nat) (m : Bool), Row h' p (dRow s a head lines m f)) → Keep (· = p) h h' → R (⟨#[]⟩, false) h') :
    CallT Try.prog ref16_Reader_line_no [.pointer (some ⟨p, 0, none⟩), .int .i64 (bound : Int), .int .i64 long] h [.sc .str, .sc .bool] R := by
  apply ref16_Reader_line_call
  simp only [ref16_Reader_line, nn_eq, add_mk]
  have r' := r
  unfold dRow at r'
  have hl := bl_len s
  refine ldS_row (o := 0) r' rfl (ldI_row (o := 0 + 1) r' rfl ?_)
  refine end_spec hs hat ?_
  have hrl : ((bl s).drop at_).length = s.size - at_ := by rw [List.length_drop]; omega
  unfold endR
  unfold lineF at hok hno
  obtain ⟨r5, hr⟩ : ∃ x : Int, x = (match crlf ((bl s).drop at_) with | some i => ((at_ + i : Nat) : Int) | none => -1) := ⟨_, rfl⟩
  rw [← hr]
  have long1 : ∀ {K : Heap → Prop}, (∀ h', (∃ (a : Nat) (m : Bool), Row h' p (dRow s a head lines m long)) → Keep (· = p) h h' → K h') → stC ⟨p, 0 + 5, none⟩ (.int .i64 long) h K := fun hk => by
    refine stC_row r' (by simp) rfl ?_
    intro h2 s2 r2 k2
    exact hk h2 ⟨at_, false, r2⟩ k2
  cases hc : crlf ((bl s).drop at_) with
  | some i =>
    rw [hc] at hr hok hno
    replace hr : r5 = ((at_ + i : Nat) : Int) := hr
    subst hr
    simp only at hok hno
    have hlt := crlf_lt hc
    rw [hrl] at hlt
    refine withJ.intro (fun _ h' => h' = h ∧ i ≤ bound) ?_ ?_
    · rintro _ h' ⟨rfl, hi⟩
      rw [if_neg (by omega)] at hok hno
      refine cnd_neg (by omega) ?_
      refine ldS_row (o := 0) r' rfl (ldI_row (o := 0 + 1) r' rfl ?_)
      refine mid_ssl (by omega) ?_
      rw [w64_id (by omega) (by omega)]
      refine stC_row r' (by simp) rfl ?_
      intro h2 s2 r2 k2
      have r2' : Row h2 p (dRow s (at_ + (i + 2)) head lines false 0) := by
        have e : (((at_ + i : Nat) : Int) + 2) = ((at_ + (i + 2) : Nat) : Int) := by omega
        rw [e] at r2
        exact r2
      have hts := ofL_size (((bl s).drop at_).take i)
      rw [List.length_take] at hts
      refine bare16_spec (by omega) ?_
      rw [bl_ofL]
      refine cnd_of (fun hb => ?_) (fun hb => ?_)
      · rw [if_pos hb] at hno
        refine stC_row (o := 0 + 5) (by unfold dRow at r2'; exact r2') (by simp) rfl ?_
        intro h4 s4 r4 k4
        exact hno 308 h4 rfl ⟨_, _, r4⟩ (k2.trans' k4)
      · rw [if_neg (by simp [hb])] at hok
        exact hok _ _ h2 rfl r2' k2
    · intro J hJ
      refine withJ.intro (fun (q : Bool) h' => h' = h ∧ q = decide (bound < i)) ?_ ?_
      · rintro q h' ⟨rfl, rfl⟩
        refine cnd_dec (fun e => ?_) (fun e => hJ _ _ ⟨rfl, by omega⟩)
        rw [if_pos e] at hno
        exact long1 fun h2 st k2 => hno long h2 rfl st k2
      · intro J2 hJ2
        refine ldI_row (o := 0 + 1) r' rfl ?_
        rw [w64_id (x := (at_ : Int) + (bound : Int)) (by omega) (by omega)]
        refine cnd_dec (fun e => hJ2 _ _ ⟨rfl, (decide_eq_true (by omega)).symm⟩) (fun e => cnd_neg (by omega) (hJ2 _ _ ⟨rfl, (decide_eq_false (by omega)).symm⟩))
  | none =>
    rw [hc] at hr hok hno
    replace hr : r5 = -1 := hr
    subst hr
    simp only at hok hno
    refine withJ.intro (fun _ h' => h' = h ∧ ¬ bound + 2 ≤ ((bl s).drop at_).length) ?_ ?_
    · rintro _ h' ⟨rfl, hi⟩
      rw [if_neg hi] at hno
      refine cnd_t rfl ?_
      refine stC_row r' (by simp) rfl ?_
      intro h2 s2 r2 k2
      exact hno 0 h2 rfl ⟨at_, true, r2⟩ k2
    · intro J hJ
      refine withJ.intro (fun (q : Bool) h' => h' = h ∧ q = decide (bound + 2 ≤ ((bl s).drop at_).length)) ?_ ?_
      · rintro q h' ⟨rfl, rfl⟩
        refine cnd_dec (fun e => ?_) (fun e => hJ _ _ ⟨rfl, e⟩)
        rw [if_pos e] at hno
        exact long1 fun h2 st k2 => hno long h2 rfl st k2
      · intro J2 hJ2
        refine ldI_row (o := 0 + 1) r' rfl ?_
        rw [w64_id (x := (at_ : Int) + (bound : Int)) (by omega) (by omega)]
        refine cnd_neg (by omega) (cnd_pos (by omega) ?_)
        refine ldS_row (o := 0) r' rfl (ldI_row (o := 0 + 1) r' rfl (hJ2 _ _ ⟨rfl, ?_⟩))
        rw [w64_id (x := (s.size : Int) - (at_ : Int)) (by omega) (by omega), w64_id (by omega) (by omega), Bool.eq_iff_iff, decide_eq_true_eq, decide_eq_true_eq]
        omega
end

/-! ### one header line -/
/-- what one call of header comes to: the empty line: none -/
def hd1F (k : Nat) (rest : List UInt8) (hd : Nat) : Except Int (Option HP × Nat) :=
  match crlf rest with
  | none => if 65536 < hd + rest.length then .error 339 else .error 0
  | some i => if 65536 < hd + (i + 2) then .error 339 else if i ≠ 0 ∧ k = 0 then .error 339 else if i = 0 then .ok (none, 2) else
    match headF (rest.take i) with
    | none => .error 308
    | some p => .ok (some p, i + 2)

theorem headersF_1 {k hd : Nat} {rest : List UInt8} : (∀ e, hd1F k rest hd = .error e → headersF k rest hd = .error e) ∧ (hd1F k rest hd = .ok (none, 2) → headersF k rest hd = .ok ([], 2, k)) ∧
    (∀ p n, hd1F k rest hd = .ok (some p, n) → ∃ k', k = k' + 1 ∧ n ≤ rest.length ∧ hd + n ≤ 65536 ∧ headersF k rest hd = match headersF k' (rest.drop n) (hd + n) with | .ok (l, m, k'') => .ok (p :: l, n + m, k'') | .error e => .error e) := by
  unfold hd1F
  cases hc : crlf rest with
  | none =>
    refine ⟨fun e he => ?_, fun he => ?_, fun p n he => ?_⟩
    · rw [headersF_no hc]
      simp only at he
      split at he
      · rw [if_pos (by assumption)]; injection he with he; subst he; rfl
      · rw [if_neg (by assumption)]; injection he with he; subst he; rfl
    · simp only at he; split at he <;> cases he
    · simp only at he; split at he <;> cases he
  | some i =>
    have hlt := crlf_lt hc
    simp only
    by_cases hb : 65536 < hd + (i + 2)
    · rw [if_pos hb]
      refine ⟨fun e he => ?_, fun he => (by cases he), fun p n he => by cases he⟩
      injection he with he
      subst he
      exact headersF_big hc (by omega)
    · rw [if_neg hb]
      by_cases h2 : i ≠ 0 ∧ k = 0
      · rw [if_pos h2]
        refine ⟨fun e he => ?_, fun he => (by cases he), fun p n he => by cases he⟩
        injection he with he
        subst he
        rw [h2.2]
        exact headersF_many hc h2.1
      · rw [if_neg h2]
        by_cases h0 : i = 0
        · subst h0
          rw [if_pos rfl]
          refine ⟨fun e he => (by cases he), fun _ => headersF_end hc (by omega), fun p n he => ?_⟩
          injection he with he
          injection he with he _
          cases he
        · rw [if_neg h0]
          obtain ⟨k', rfl⟩ : ∃ k', k = k' + 1 := ⟨k - 1, by omega⟩
          have hs := headersF_step (k := k') (hd := hd) hc h0 (by omega)
          cases hp : headF (rest.take i) with
          | none =>
            rw [hp] at hs
            refine ⟨fun e he => ?_, fun he => (by cases he), fun p n he => by cases he⟩
            injection he with he
            subst he
            exact hs
          | some q =>
            rw [hp] at hs
            refine ⟨fun e he => (by cases he), fun he => ?_, fun p n he => ?_⟩
            · injection he with he
              injection he with he _
              cases he
            · injection he with he
              injection he with h1 h2
              injection h1 with h1
              subst h1 h2
              refine ⟨k', rfl, hlt, by omega, ?_⟩
              rw [hs]
              show (match headersF k' (rest.drop (i + 2)) (hd + i + 2) with | .ok (l, n, k') => _ | .error e => _) = _
              rw [show hd + i + 2 = hd + (i + 2) by omega]
end Go.Proofs.Ytjpmjhnjdnbopaa
