/- Package kv: contracts of its small functions. -/
import Derived.Test.YtkgocfaajfaidaaKPrs
import Derived.Test.YtkgocfaajfaidaaKWalP
import Derived.Test.YtkgocfaajfaidaaKTurn
namespace Go.Proofs.Ytkgocfaajfaidaa
open Go D
set_option linter.unusedVariables false
set_option linter.unusedSimpArgs false
namespace Kv
open Wal (packL unpackL)

abbrev Ch := Key × Key × Bool
def mayC (c : Ch) : Bool := decide (0 < c.1.size) && (decide (c.1.size ≤ 2048) && (decide (c.2.1.size ≤ 65536) && !(c.2.2 && !decide (c.2.1 = nok))))
theorem mayC_iff {c : Ch} : mayC c = true ↔ 0 < c.1.size ∧ c.1.size ≤ 2048 ∧ c.2.1.size ≤ 65536 ∧ (c.2.2 = true → c.2.1 = nok) := by
  unfold mayC
  simp only [Bool.and_eq_true, decide_eq_true_eq, Bool.not_eq_true', Bool.and_eq_false_iff, Bool.not_eq_false']
  constructor
  · rintro ⟨h1, h2, h3, h4⟩
    refine ⟨h1, h2, h3, fun e => ?_⟩
    rcases h4 with h4 | h4
    · rw [e] at h4; cases h4
    · exact h4
  · rintro ⟨h1, h2, h3, h4⟩
    refine ⟨h1, h2, h3, ?_⟩
    cases e : c.2.2
    · exact .inl rfl
    · exact .inr (h4 e)
def recL (c : Ch) : List ByteArray := if c.2.2 then [⟨#[45]⟩, c.1] else [⟨#[43]⟩, c.1, c.2.1]
def recS (c : Ch) : ByteArray := ofL (packL (recL c))
theorem packL_nil : packL [] = [] := rfl
theorem packL_cons (s : ByteArray) (rs : List ByteArray) : packL (s :: rs) = Wal.four s.size ++ (s.data.toList ++ packL rs) := by simp [packL]
theorem packL_len_cons (s : ByteArray) (rs : List ByteArray) : (packL (s :: rs)).length = 4 + s.size + (packL rs).length := by
  rw [packL_cons, List.length_append, List.length_append, Wal.four_length]
  have : s.data.toList.length = s.size := rfl
  omega
theorem recL_len {c : Ch} (h : mayC c = true) : (packL (recL c)).length ≤ 67600 := by
  obtain ⟨h1, h2, h3, h4⟩ := mayC_iff.1 h
  unfold recL
  split
  · rw [packL_len_cons, packL_len_cons, packL_nil]
    show 4 + 1 + _ ≤ _
    simp; omega
  · rw [packL_len_cons, packL_len_cons, packL_len_cons, packL_nil]
    show 4 + 1 + _ ≤ _
    simp; omega
theorem unrec {c : Ch} (h : mayC c = true) : unpackL (packL (recL c)) = some (recL c) := Wal.unpack_pack _ (by have := recL_len h; omega)

theorem may_spec {h : Heap} {c : Ch} {R : Bool → Heap → Prop} (hk : ∀ h', Nw h h' → R (mayC c) h') : CallT Try.prog kv_may_no [.agg #[.string c.1, .string c.2.1, .bool c.2.2]] h [.sc .bool] R := by
  have hcall := kv_may_call c (R := R) (h := h)
  apply hcall; clear hcall
  unfold kv_may
  refine newB_row ?_
  intro h2 s2 r2 k2
  have fin := hk h2 k2
  unfold mayC at fin
  refine withJ.inl ?_
  refine ldS_row (o := 0) r2 rfl ?_
  refine cnd_dec (fun e1 => ?_) (fun e1 => ?_)
  rotate_left
  · rw [decide_eq_false (by omega)] at fin; exact fin
  rw [decide_eq_true (by omega)] at fin
  refine ldS_row (o := 0) r2 rfl ?_
  refine cnd_dec (fun e2 => ?_) (fun e2 => ?_)
  rotate_left
  · rw [decide_eq_false (p := c.1.size ≤ 2048) (by omega)] at fin; exact fin
  rw [decide_eq_true (p := c.1.size ≤ 2048) (by omega)] at fin
  refine ldS_row (o := 0 + 1) r2 rfl ?_
  refine cnd_dec (fun e3 => ?_) (fun e3 => ?_)
  rotate_left
  · rw [decide_eq_false (p := c.2.1.size ≤ 65536) (by omega)] at fin; exact fin
  rw [decide_eq_true (p := c.2.1.size ≤ 65536) (by omega)] at fin
  refine ldB_row (o := 0 + 2) r2 rfl ?_
  refine cnd_of (fun e4 => ?_) (fun e4 => ?_)
  · rw [e4] at fin
    refine ldS_row (o := 0 + 1) r2 rfl ?_
    rw [seq_dec]
    simpa using fin
  · rw [e4] at fin; exact fin

theorem record_spec {h : Heap} {c : Ch} (hm : mayC c = true) {R : ByteArray → Heap → Prop} (hk : ∀ h', Nw h h' → R (recS c) h') : CallT Try.prog kv_record_no [.agg #[.string c.1, .string c.2.1, .bool c.2.2]] h [.sc .str] R := by
  have hcall := kv_record_call c (R := R) (h := h)
  apply hcall; clear hcall
  unfold kv_record
  have hl := recL_len hm
  unfold recS at hk
  unfold recL at hk hl
  refine newB_row ?_
  intro h2 s2 r2 k2
  refine ldB_row (o := 0 + 2) r2 rfl ?_
  refine cnd_of (fun e => ?_) (fun e => ?_)
  · rw [if_pos e] at hk hl
    refine ldS_row (o := 0) r2 rfl ?_
    refine newB_row ?_
    intro h6 s6 r6 k6
    refine Wal.pack_spec (rs := [⟨#[45]⟩, c.1]) (rv_row r6 rfl) (by omega) (by simp) ?_
    intro s h8 b8 _ k8
    exact Rb.str b8.rb (hk h8 ((k2.trans' k6).trans' k8))
  · rw [if_neg (by simp [e])] at hk hl
    refine ldS_row (o := 0) r2 rfl (ldS_row (o := 0 + 1) r2 rfl ?_)
    refine newB_row ?_
    intro h6 s6 r6 k6
    refine Wal.pack_spec (rs := [⟨#[43]⟩, c.1, c.2.1]) (rv_row r6 rfl) (by omega) (by simp) ?_
    intro s h8 b8 _ k8
    exact Rb.str b8.rb (hk h8 ((k2.trans' k6).trans' k8))

theorem change_spec {h : Heap} {c : Ch} (hm : mayC c = true) {R : Ch × Bool → Heap → Prop} (hk : ∀ h', Nw h h' → R (c, true) h') : CallT Try.prog kv_change_no [.string (recS c)] h [.agg [.str, .str, .bool], .sc .bool] R := by
  have hcall := kv_change_call (recS c) (R := R) (h := h)
  apply hcall; clear hcall
  unfold kv_change
  have hl := recL_len hm
  have hsz : (recS c).size = (packL (recL c)).length := Snap.ofL_size _
  refine newB_row ?_
  intro h2 s2 r2 k2
  refine s2b_row (by omega) ?_
  intro c4 h5 b5 k5 s5
  have rb5 : Rb h5 (some ⟨h2.size, 0, none⟩) (recS c).size (packL (recL c)) := by
    have := SlR.rv b5
    unfold recS at this ⊢
    rw [ofL_bytes] at this
    exact this
  refine Wal.unpack_spec rb5 b5.le (by omega) (fun e => ?_) (fun rs e s h7 t7 le7 f7 k7 => ?_)
  · rw [unrec hm] at e; cases e
  rw [unrec hm] at e
  injection e with e
  subst e
  have len := t7.len
  have k27 : Nw h2 h7 := k5.trans' k7
  refine newB_row ?_
  intro h9 s9 r9 k9
  have n9 : Nw h h9 := (k2.trans' k27).trans' k9
  have t9 := t7.keep0 k9
  have r29 : Row h9 h.size _ := k9.row (k27.row r2 (fun h => h)) (fun h => h)
  have z27 := k27.size
  have z9 := k9.size
  have at0 : ∀ {K : ByteArray → Prop} {i : Nat} {x : ByteArray} {h' : Heap}, Ts h' s.a s.len (recL c) → (recL c)[i]? = some x → K x → idx s.a s.len (i : Int) fun a => ldS (a.add ((i : Int).toNat * 1)) h' K := by
    intro K i x h' t' hx hK
    have hi : i < (recL c).length := (List.getElem?_eq_some_iff.1 hx).1
    refine Ts.at t' (by omega) (by omega) ?_
    intro y hy
    rw [Int.toNat_natCast, hx] at hy
    injection hy with hy
    subst hy
    exact hK
  -- the common end
  refine withJ.intro (fun _ h12 => Row h12 h.size [.string ⟨#[]⟩, .string ⟨#[]⟩, .bool false] ∧ Row h12 h7.size [.string c.1, .string c.2.1, .bool c.2.2] ∧ Nw h h12) ?_ ?_
  · rintro _ h12 ⟨w1, w2, nw⟩
    refine ldS_row (o := 0) w2 rfl (ldS_row (o := 0 + 1) w2 rfl (ldB_row (o := 0 + 2) w2 rfl ?_))
    refine ldS_row (o := 0) w2 rfl (ldS_row (o := 0 + 1) w2 rfl (ldB_row (o := 0 + 2) w2 rfl ?_))
    refine may_spec (c := c) ?_
    intro h20 k20
    have v1 := k20.row w1 (fun h => h)
    have v2 := k20.row w2 (fun h => h)
    refine ⟨ldS_row (o := 0) v2 rfl (ldS_row (o := 0 + 1) v2 rfl (ldB_row (o := 0 + 2) v2 rfl rfl)), ?_⟩
    refine stC_row (o := 0) v1 (by simp) rfl ?_
    intro h24 s24 r24 k24
    refine stC_row (o := 0 + 1) r24 (by simp) rfl ?_
    intro h25 s25 r25 k25
    refine stC_row (o := 0 + 2) r25 (by simp) rfl ?_
    intro h26 s26 r26 k26
    refine ldS_row (o := 0) r26 rfl (ldS_row (o := 0 + 1) r26 rfl (ldB_row (o := 0 + 2) r26 rfl ?_))
    rw [hm]
    exact hk h26 (Nw.st (Nw.st (Nw.st (nw.trans' k20) k24 (Nat.le_refl _)) k25 (Nat.le_refl _)) k26 (Nat.le_refl _))
  · intro J hJ
    by_cases e : c.2.2 = true
    · have eL : recL c = [⟨#[45]⟩, c.1] := by unfold recL; rw [if_pos e]
      have ln : s.len = 2 := by rw [len, eL]; rfl
      have ev := (mayC_iff.1 hm).2.2.2 e
      refine withJ.inl ?_
      refine cnd_t rfl ?_
      refine cnd_f (by rw [ln]; rfl) ?_
      refine cnd_f rfl ?_
      refine withJ.inl ?_
      refine cnd_t rfl ?_
      refine cnd_t (by rw [ln]; rfl) ?_
      refine at0 (i := 0) t9 (by rw [eL]; rfl) ?_
      rw [seq_self]
      refine cnd_t rfl ?_
      refine at0 (i := 1) t9 (by rw [eL]; rfl) ?_
      refine stC_row (o := 0) r9 (by simp) rfl ?_
      intro h24 s24 r24 k24
      refine stC_row (o := 0 + 1) r24 (by simp) rfl ?_
      intro h25 s25 r25 k25
      refine stC_row (o := 0 + 2) r25 (by simp) rfl ?_
      intro h26 s26 r26 k26
      have kk : Keep (· = h7.size) h9 h26 := (k24.trans' k25).trans' k26
      refine hJ () h26 ⟨kk.row r29 (fun e => by have e' : h.size = h7.size := e; omega), ?_, Nw.st n9 kk (by omega)⟩
      rw [ev, e]; exact r26
    · have e' : c.2.2 = false := by simpa using e
      have eL : recL c = [⟨#[43]⟩, c.1, c.2.1] := by unfold recL; rw [if_neg e]
      have ln : s.len = 3 := by rw [len, eL]; rfl
      refine withJ.inl ?_
      refine cnd_t rfl ?_
      refine cnd_t (by rw [ln]; rfl) ?_
      refine at0 (i := 0) t9 (by rw [eL]; rfl) ?_
      rw [seq_self]
      refine cnd_t rfl ?_
      refine at0 (i := 1) t9 (by rw [eL]; rfl) ?_
      refine at0 (i := 2) t9 (by rw [eL]; rfl) ?_
      refine stC_row (o := 0) r9 (by simp) rfl ?_
      intro h24 s24 r24 k24
      refine stC_row (o := 0 + 1) r24 (by simp) rfl ?_
      intro h25 s25 r25 k25
      refine stC_row (o := 0 + 2) r25 (by simp) rfl ?_
      intro h26 s26 r26 k26
      have kk : Keep (· = h7.size) h9 h26 := (k24.trans' k25).trans' k26
      refine hJ () h26 ⟨kk.row r29 (fun e => by have e' : h.size = h7.size := e; omega), ?_, Nw.st n9 kk (by omega)⟩
      rw [e']; exact r26

def appC (c : Ch) (l : List KV) : List KV := withKV c.1 c.2.1 c.2.2 l
theorem insKV_len (k v : Key) : ∀ l : List KV, (insKV k v l).length ≤ l.length + 1
  | [] => by simp [insKV]
  | (a, x) :: r => by
    have := insKV_len k v r
    unfold insKV
    split
    · simp; omega
    · split <;> simp <;> omega
theorem appC_len (c : Ch) (l : List KV) : (appC c l).length ≤ l.length + 1 := by
  unfold appC withKV
  split
  · have : (delKV c.1 l).length ≤ l.length := List.length_filter_le _ _
    omega
  · exact insKV_len _ _ _

theorem apply_spec {h : Heap} {F : Nat → Prop} {p : Nat} {l : List KV} {c : Ch} (ht : TreeAt h F p l) (hF : ∀ b, F b → b < h.size) (hl : l.length ≤ 1000000000000000) {R : Option Addr → Heap → Prop}
    (hk : ∀ p' h', Nw h h' → TreeAt h' (Fn F h h') p' (appC c l) → R (some ⟨p', 0, none⟩) h') : CallT Try.prog kv_apply_no [.pointer (some ⟨p, 0, none⟩), .agg #[.string c.1, .string c.2.1, .bool c.2.2]] h [.sc .ptr] R := by
  have hcall := kv_apply_call (some ⟨p, 0, none⟩) c (R := R) (h := h)
  apply hcall; clear hcall
  unfold kv_apply
  unfold appC withKV at hk
  refine newB_row ?_
  intro h2 s2 r2 k2
  have z2 := k2.size
  have fn : ∀ {h' : Heap} {b : Nat}, Fn F h2 h' b → Fn F h h' b := fun hb => fn_mono z2 (Nat.le_refl _) hb
  refine ldB_row (o := 0 + 2) r2 rfl ?_
  refine cnd_of (fun e => ?_) (fun e => ?_)
  · rw [if_pos e] at hk
    refine ldS_row (o := 0) r2 rfl ?_
    refine treeDel (ht.nw k2) (fun b hb => by have := hF b hb; omega) hl (fun hn h6 n6 => ?_) (fun hs p' h6 n6 t6 _ => ?_)
    · refine hk p h6 (k2.trans' n6) ?_
      rw [delKV_self (fun q hq e => ?_)]
      · exact ((ht.nw k2).nw n6).mono (fun b hb => .inl hb)
      · unfold hasK at hn
        rw [List.any_eq_false] at hn
        exact hn q hq (by simpa using e)
    · exact hk p' h6 (k2.trans' n6) (t6.mono (fun b hb => fn hb))
  · rw [if_neg (by simp [e])] at hk
    refine ldS_row (o := 0) r2 rfl (ldS_row (o := 0 + 1) r2 rfl ?_)
    refine treePut (ht.nw k2) (fun b hb => by have := hF b hb; omega) hl ?_
    intro p' h6 n6 t6
    exact hk p' h6 (k2.trans' n6) (t6.mono (fun b hb => fn hb))

end Kv
end Go.Proofs.Ytkgocfaajfaidaa
