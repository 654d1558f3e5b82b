/- The document's reader of chunks: eat, name, the head of a piece. -/
import Derived.Test.YtncffbocmpmejaaDoorPRead
namespace Go.Proofs.YtncffbocmpmejaaDoor
open Go D
set_option linter.unusedVariables false
set_option linter.unusedSimpArgs false
namespace Chunk
open Hash (hexL hmacF sha256F hexB)

theorem pre_false {s t : List UInt8} {i : Nat} (hi : i < t.length) (h : (s.take t.length)[i]? ≠ t[i]?) : pre s t = false := by
  unfold pre
  exact decide_eq_false (fun e => h (by rw [e]))
theorem eat_end {s T : List UInt8} {i : Nat} (hi : i < T.length) (hs : s.length = i) (he : s.take i = T.take i) : eatF s T = ([], 307) := by
  unfold eatF
  have e1 : pre s T = false := by
    unfold pre
    refine decide_eq_false (fun e => ?_)
    have := congrArg List.length e
    rw [List.length_take] at this
    omega
  have e2 : pre T s = true := by
    unfold pre
    rw [hs, ← he, List.take_of_length_le (by omega)]
    simp
  rw [e1, e2]
  rfl
theorem eat_bad {s T : List UInt8} {i : Nat} {x y : UInt8} (hx : s[i]? = some x) (hy : T[i]? = some y) (hne : x ≠ y) : eatF s T = ([], 308) := by
  have hi := (List.getElem?_eq_some_iff.1 hx).1
  have hj := (List.getElem?_eq_some_iff.1 hy).1
  unfold eatF
  have e1 : pre s T = false := pre_false hj (by
    rw [List.getElem?_take, if_pos hj, hx, hy]
    intro e
    injection e with e
    exact hne e)
  have e2 : pre T s = false := pre_false hi (by
    rw [List.getElem?_take, if_pos hi, hx, hy]
    intro e
    injection e with e
    exact hne e.symm)
  rw [e1, e2]
  rfl
theorem eat_all {s T : List UInt8} (he : s.take T.length = T) : eatF s T = (s.drop T.length, 0) := by
  unfold eatF pre
  rw [if_pos (decide_eq_true he)]

section
variable {h : Heap} {p : Nat} {a : Option Addr} {l c at_ : Nat} {body : List UInt8}

theorem eatOff_spec {f : Int} (r : Rdr h p a l c at_ f) (hf : f ≠ 0) {T : ByteArray} {R : Unit → Heap → Prop} (hk : R () h) : CallT Tryd.prog ref19_Reader_eat_no [.pointer (some ⟨p, 0, none⟩), .string T] h [] R := by
  apply ref19_Reader_eat_call
  unfold ref19_Reader_eat
  unfold Rdr at r
  refine LoopT.intro (fun (i : Int) h' => h' = h) (fun _ _ => 0) rfl ?_
  rintro i h' rfl
  refine withJ.intro (fun _ _ => False) (fun _ _ hh => hh.elim) ?_
  intro J hJ
  simp only [nn_eq, add_mk]
  refine cnd_dec (fun _ => ?_) (fun _ => hk)
  refine ldI_row (o := 0 + 2) r rfl ?_
  exact cnd_f (by simpa using hf) hk

theorem eat19_spec (r : Rdr h p a l c at_ 0) (hb : Rb h a l body) (hp : ∀ b, blk a b → 0 < l → b ≠ p) (hl : l ≤ 1000000000) (hat : at_ ≤ l) {T : ByteArray} (hT : T.size ≤ 1000) {R : Unit → Heap → Prop}
    (hk : ∀ at' h', Rdr h' p a l c at' (eatF (body.drop at_) (bl T)).2 → at' ≤ l → ((eatF (body.drop at_) (bl T)).2 = 0 → at' = at_ + T.size) → Keep (· = p) h h' → R () h') :
    CallT Tryd.prog ref19_Reader_eat_no [.pointer (some ⟨p, 0, none⟩), .string T] h [] R := by
  apply ref19_Reader_eat_call
  unfold ref19_Reader_eat
  have hlen := hb.len
  have hsl : (body.drop at_).length = l - at_ := by rw [List.length_drop]; omega
  generalize hs : body.drop at_ = s at hk hsl
  refine LoopT.intro (fun (i : Int) h' => 0 ≤ i ∧ i ≤ T.size ∧ Keep (· = p) h h' ∧ ∃ at' f, Rdr h' p a l c at' f ∧ ((f = 0 ∧ at' = at_ + i.toNat ∧ i.toNat ≤ s.length ∧ s.take i.toNat = (bl T).take i.toNat) ∨ (f ≠ 0 ∧ eatF s (bl T) = ([], f) ∧ at' ≤ l))) (fun i _ => (T.size - i).toNat) ?_ ?_
  · exact ⟨by omega, by omega, .refl _ _, at_, 0, r, .inl ⟨rfl, by simp, by simp, by simp⟩⟩
  · rintro i h2 ⟨p1, p2, k2, at', f, r2, hor⟩
    have r2' := r2
    unfold Rdr at r2'
    have stop : i = T.size ∨ f ≠ 0 → R () h2 := fun hst => by
      rcases hor with ⟨e1, e2, e3, e4⟩ | ⟨e1, e2, e3⟩
      · have hi : i = T.size := by
          rcases hst with h | h
          · exact h
          · exact absurd e1 h
        have e5 : i.toNat = (bl T).length := by rw [bl_len]; omega
        rw [e5, List.take_of_length_le (Nat.le_refl _)] at e4
        have e6 := eat_all e4
        rw [e6] at hk
        subst e1
        refine hk at' h2 r2 (by rw [bl_len] at e5; omega) (fun _ => by rw [bl_len] at e5; omega) k2
      · rw [e2] at hk
        exact hk at' h2 r2 e3 (fun e => absurd e e1) k2
    refine withJ.intro (fun _ h3 => h3 = h2 ∧ i < T.size ∧ f = 0) ?_ ?_
    · rintro _ h3 ⟨rfl, hi, hf⟩
      subst hf
      rcases hor with ⟨_, e2, e3, e4⟩ | ⟨e1, _⟩
      · subst e2
        refine withJ.intro (fun _ h4 => Keep (· = p) h h4 ∧ ∃ at' f, Rdr h4 p a l c at' f ∧ ((f = 0 ∧ at' = at_ + (i.toNat + 1) ∧ i.toNat + 1 ≤ s.length ∧ s.take (i.toNat + 1) = (bl T).take (i.toNat + 1)) ∨ (f ≠ 0 ∧ eatF s (bl T) = ([], f) ∧ at' ≤ l))) ?_ ?_
        · rintro _ h4 ⟨k4, hh⟩
          show (0 ≤ w64 (i + 1) ∧ w64 (i + 1) ≤ T.size ∧ Keep (· = p) h h4 ∧ ∃ at' f, Rdr h4 p a l c at' f ∧ ((f = 0 ∧ at' = at_ + (w64 (i + 1)).toNat ∧ (w64 (i + 1)).toNat ≤ s.length ∧ s.take (w64 (i + 1)).toNat = (bl T).take (w64 (i + 1)).toNat) ∨ (f ≠ 0 ∧ eatF s (bl T) = ([], f) ∧ at' ≤ l))) ∧ (T.size - w64 (i + 1)).toNat < (T.size - i).toNat
          rw [w64_id (x := i + 1) (by omega) (by omega), show (i + 1).toNat = i.toNat + 1 by omega]
          exact ⟨⟨by omega, by omega, k4, hh⟩, by omega⟩
        · intro J hJ
          simp only [nn_eq, add_mk]
          have hTl : i.toNat < (bl T).length := by rw [bl_len]; omega
          refine ldI_row (o := 0 + 1) r2' rfl (ldL_row (o := 0) r2' rfl ?_)
          refine cnd_of (fun e => ?_) (fun e => ?_)
          · have e' : at_ + i.toNat = l := by have := eq_of_beq e; omega
            refine stC_row r2' (by simp) rfl ?_
            intro h4 s4 r4 k4
            refine hJ _ _ ⟨k2.trans' k4, _, 307, r4, .inr ⟨by decide, eat_end hTl (by omega) e4, by omega⟩⟩
          · have e' : at_ + i.toNat ≠ l := fun e2 => by
              rw [e2] at e
              simp at e
            have hi2 : i.toNat < s.length := by omega
            refine ldL_row (o := 0) r2' rfl (ldI_row (o := 0 + 1) r2' rfl ?_)
            refine (bodyK hb hp k2).at (by omega) (by omega) ?_
            intro b hb'
            have hb0 : s[i.toNat]? = some b := by rw [← hs, List.getElem?_drop, ← hb', Int.toNat_natCast]
            refine ⟨(bl T)[i.toNat], p1, List.getElem?_eq_getElem hTl, ?_⟩
            have hT0 : (bl T)[i.toNat]? = some (bl T)[i.toNat] := List.getElem?_eq_getElem hTl
            generalize (bl T)[i.toNat] = y at hT0
            refine cnd_of (fun hne => ?_) (fun heq => ?_)
            · have hne' : b ≠ y := fun e => by subst e; simp at hne
              refine stC_row r2' (by simp) rfl ?_
              intro h4 s4 r4 k4
              exact hJ _ _ ⟨k2.trans' k4, _, 308, r4, .inr ⟨by decide, eat_bad hb0 hT0 hne', by omega⟩⟩
            · have heq' : b = y := UInt8.toNat_inj.1 (by
                have : ((b.toNat : Int) == (y.toNat : Int)) = true := by
                  simpa using heq
                have := eq_of_beq this
                omega)
              subst heq'
              refine ldI_row (o := 0 + 1) r2' rfl ?_
              refine stC_row r2' (by simp) rfl ?_
              intro h4 s4 r4 k4
              have e : w64 (((at_ + i.toNat : Nat) : Int) + 1) = ((at_ + (i.toNat + 1) : Nat) : Int) := by rw [w64_id (by omega) (by omega)]; omega
              rw [e] at r4
              refine hJ _ _ ⟨k2.trans' k4, _, 0, r4, .inl ⟨rfl, rfl, by omega, ?_⟩⟩
              rw [List.take_add_one, List.take_add_one, e4, hb0, hT0]
      · exact absurd rfl e1
    · intro J hJ
      simp only [nn_eq, add_mk]
      refine cnd_dec (fun hi => ?_) (fun hi => stop (.inl (by omega)))
      refine ldI_row (o := 0 + 2) r2' rfl ?_
      refine cnd_of (fun e => hJ _ _ ⟨rfl, hi, eq_of_beq e⟩) (fun e => stop (.inr (ne_of_beq_false e)))

/-- what a name's end tells -/
def nameF (s : List UInt8) : Int := if runN 64 s = 64 then 0 else if runN 64 s = s.length then 307 else 308

theorem nameOff_spec {f : Int} (r : Rdr h p a l c at_ f) (hf : f ≠ 0) (hb : Rb h a l body) (hc : l ≤ c) (hl : l ≤ 1000000000) (hat : at_ ≤ l) {R : ByteArray → Heap → Prop} (hk : ∀ x, R x h) : CallT Tryd.prog ref19_Reader_name_no [.pointer (some ⟨p, 0, none⟩)] h [.sc .str] R := by
  apply ref19_Reader_name_call
  unfold ref19_Reader_name
  unfold Rdr at r
  simp only [nn_eq, add_mk]
  refine ldI_row (o := 0 + 1) r rfl ?_
  have fin : ldL ⟨p, 0, none⟩ h fun o35 l35 c35 => ldI .i64 ⟨p, 0 + 1, none⟩ h fun n37 => lsl 1 o35 c35 (at_ : Int) n37 (c35 : Int) fun o38 l38 c38 => b2s o38 l38 h fun s39 => R s39 h := by
    refine ldL_row (o := 0) r rfl (ldI_row (o := 0 + 1) r rfl ?_)
    refine Rb.sub hb (by omega) (by omega) (by omega) (by omega) (by omega) ?_
    intro a' ra _
    exact Rb.str ra (hk _)
  refine LoopT.intro (fun (i : Int) h' => h' = h) (fun _ _ => 0) rfl ?_
  rintro i h' rfl
  refine withJ.intro (fun _ _ => False) (fun _ _ hh => hh.elim) ?_
  intro J hJ
  refine cnd_dec (fun _ => ?_) (fun _ => fin)
  refine ldI_row (o := 0 + 2) r rfl ?_
  exact cnd_f (by simpa using hf) fin

theorem name_spec (r : Rdr h p a l c at_ 0) (hb : Rb h a l body) (hc : l ≤ c) (hp : ∀ b, blk a b → 0 < l → b ≠ p) (hl : l ≤ 1000000000) (hat : at_ ≤ l) {R : ByteArray → Heap → Prop}
    (hk : ∀ at' x h', Rdr h' p a l c at' (nameF (body.drop at_)) → at' ≤ l → (nameF (body.drop at_) = 0 → at' = at_ + 64 ∧ x = ofL ((body.drop at_).take 64)) → Keep (· = p) h h' → R x h') :
    CallT Tryd.prog ref19_Reader_name_no [.pointer (some ⟨p, 0, none⟩)] h [.sc .str] R := by
  apply ref19_Reader_name_call
  unfold ref19_Reader_name
  have hlen := hb.len
  have hn := runN_le 64 (body.drop at_)
  have hsl : (body.drop at_).length = l - at_ := by rw [List.length_drop]; omega
  generalize hs : body.drop at_ = s at hk hn hsl
  have r' := r
  unfold Rdr at r'
  simp only [nn_eq, add_mk]
  refine ldI_row (o := 0 + 1) r' rfl ?_
  refine LoopT.intro (fun (k : Int) h' => 0 ≤ k ∧ k ≤ 64 ∧ Keep (· = p) h h' ∧ ∃ at' f, Rdr h' p a l c at' f ∧ at_ ≤ at' ∧ at' ≤ l ∧ ((f = 0 ∧ at' = at_ + k.toNat ∧ k.toNat ≤ s.length ∧ runN 64 s = k.toNat + runN (64 - k.toNat) (s.drop k.toNat)) ∨ (f ≠ 0 ∧ nameF s = f))) (fun k _ => (64 - k).toNat) ?_ ?_
  · exact ⟨by omega, by omega, .refl _ _, at_, 0, r, Nat.le_refl _, hat, .inl ⟨rfl, by simp, by simp, by simp⟩⟩
  · rintro k h2 ⟨p1, p2, k2, at', f, r2, q1, q2, hor⟩
    have r2' := r2
    unfold Rdr at r2'
    have fin : k = 64 ∨ f ≠ 0 → ldL ⟨p, 0, none⟩ h2 fun o35 l35 c35 => ldI .i64 ⟨p, 0 + 1, none⟩ h2 fun n37 => lsl 1 o35 c35 (at_ : Int) n37 (c35 : Int) fun o38 l38 c38 => b2s o38 l38 h2 fun s39 => R s39 h2 := by
      intro hst
      refine ldL_row (o := 0) r2' rfl (ldI_row (o := 0 + 1) r2' rfl ?_)
      refine Rb.sub (bodyK hb hp k2) (by omega) (by omega) (by omega) (by omega) (by omega) ?_
      intro a' ra _
      refine Rb.str ra ?_
      rcases hor with ⟨e1, e2, e3, e4⟩ | ⟨e1, e2⟩
      · have hk64 : k = 64 := by
          rcases hst with h | h
          · exact h
          · exact absurd e1 h
        subst hk64
        have e5 : runN 64 s = 64 := by
          rw [e4]
          rfl
        have e6 : nameF s = 0 := by unfold nameF; rw [if_pos e5]
        subst e1
        rw [e6] at hk
        refine hk at' _ h2 r2 q2 (fun _ => ⟨e2, ?_⟩) k2
        show ofL _ = _
        rw [Int.toNat_natCast, hs, e2]
        congr 2
        omega
      · rw [e2] at hk
        exact hk at' _ h2 r2 q2 (fun e => absurd e e1) k2
    refine withJ.intro (fun _ h3 => h3 = h2 ∧ k < 64 ∧ f = 0) ?_ ?_
    · rintro _ h3 ⟨rfl, hk8, hf⟩
      subst hf
      rcases hor with ⟨_, e2, e3, e4⟩ | ⟨e1, _⟩
      · subst e2
        refine withJ.intro (fun _ h4 => Keep (· = p) h h4 ∧ ∃ at' f, Rdr h4 p a l c at' f ∧ at_ ≤ at' ∧ at' ≤ l ∧ ((f = 0 ∧ at' = at_ + (k.toNat + 1) ∧ k.toNat + 1 ≤ s.length ∧ runN 64 s = (k.toNat + 1) + runN (64 - (k.toNat + 1)) (s.drop (k.toNat + 1))) ∨ (f ≠ 0 ∧ nameF s = f))) ?_ ?_
        · rintro _ h4 ⟨k4, hh⟩
          show (0 ≤ w64 (k + 1) ∧ w64 (k + 1) ≤ 64 ∧ Keep (· = p) h h4 ∧ ∃ at' f, Rdr h4 p a l c at' f ∧ at_ ≤ at' ∧ at' ≤ l ∧ ((f = 0 ∧ at' = at_ + (w64 (k + 1)).toNat ∧ (w64 (k + 1)).toNat ≤ s.length ∧ runN 64 s = (w64 (k + 1)).toNat + runN (64 - (w64 (k + 1)).toNat) (s.drop (w64 (k + 1)).toNat)) ∨ (f ≠ 0 ∧ nameF s = f))) ∧ (64 - w64 (k + 1)).toNat < (64 - k).toNat
          rw [w64_id (x := k + 1) (by omega) (by omega), show (k + 1).toNat = k.toNat + 1 by omega]
          exact ⟨⟨by omega, by omega, k4, hh⟩, by omega⟩
        · intro J hJ
          refine ldI_row (o := 0 + 1) r2' rfl (ldL_row (o := 0) r2' rfl ?_)
          refine cnd_of (fun e => ?_) (fun e => ?_)
          · have e' : at_ + k.toNat = l := by have := eq_of_beq e; omega
            refine stC_row r2' (by simp) rfl ?_
            intro h4 s4 r4 k4
            have e5 : runN 64 s = k.toNat := by
              rw [e4, List.drop_eq_nil_of_le (by omega)]
              cases 64 - k.toNat <;> rfl
            refine hJ _ _ ⟨k2.trans' k4, _, 307, r4, q1, q2, .inr ⟨by decide, ?_⟩⟩
            unfold nameF
            rw [e5, if_neg (by omega), if_pos (by omega)]
          · have e' : at_ + k.toNat ≠ l := fun e2 => by
              rw [e2] at e
              simp at e
            have hi : k.toNat < s.length := by omega
            refine ldL_row (o := 0) r2' rfl (ldI_row (o := 0 + 1) r2' rfl ?_)
            refine (bodyK hb hp k2).at (by omega) (by omega) ?_
            intro b hb'
            have hb0 : s[k.toNat]? = some b := by rw [← hs, List.getElem?_drop, ← hb', Int.toNat_natCast]
            have hge : s[k.toNat] = b := by
              rw [List.getElem?_eq_getElem hi] at hb0
              injection hb0
            have e8 : 64 - k.toNat = (64 - (k.toNat + 1)) + 1 := by omega
            refine digit19_spec ?_
            cases hd : dg b with
            | false =>
              refine cnd_t rfl ?_
              refine stC_row r2' (by simp) rfl ?_
              intro h4 s4 r4 k4
              have e5 : runN 64 s = k.toNat := by
                rw [e4, e8, List.drop_eq_getElem_cons hi]
                simp [runN, hge, hd]
              refine hJ _ _ ⟨k2.trans' k4, _, 308, r4, q1, q2, .inr ⟨by decide, ?_⟩⟩
              unfold nameF
              rw [e5, if_neg (by omega), if_neg (by omega)]
            | true =>
              refine cnd_f rfl ?_
              refine ldI_row (o := 0 + 1) r2' rfl ?_
              refine stC_row r2' (by simp) rfl ?_
              intro h4 s4 r4 k4
              have e : w64 (((at_ + k.toNat : Nat) : Int) + 1) = ((at_ + (k.toNat + 1) : Nat) : Int) := by rw [w64_id (by omega) (by omega)]; omega
              rw [e] at r4
              refine hJ _ _ ⟨k2.trans' k4, _, 0, r4, by omega, by omega, .inl ⟨rfl, rfl, by omega, ?_⟩⟩
              rw [e4, e8, List.drop_eq_getElem_cons hi]
              simp only [runN, hge, hd, if_true]
              omega
      · exact absurd rfl e1
    · intro J hJ
      refine cnd_dec (fun hi => ?_) (fun hi => fin (.inl (by omega)))
      refine ldI_row (o := 0 + 2) r2' rfl ?_
      refine cnd_of (fun e => hJ _ _ ⟨rfl, hi, eq_of_beq e⟩) (fun e => fin (.inr (ne_of_beq_false e)))
end
end Chunk
end Go.Proofs.YtncffbocmpmejaaDoor
