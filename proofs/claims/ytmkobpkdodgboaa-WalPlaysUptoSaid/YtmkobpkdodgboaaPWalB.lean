/- Contracts: enc.Unpack, wal.frame. -/
import Derived.Test.YtmkobpkdodgboaaPWal
namespace Go.Proofs.Ytmkobpkdodgboaa
open Go D
set_option linter.unusedVariables false
set_option linter.unusedSimpArgs false
namespace Wal
open Enc Hash

def unpF : Nat → List UInt8 → Option (List ByteArray)
  | 0, bs => if bs = [] then some [] else none
  | f + 1, bs => if bs = [] then some [] else if bs.length < 4 then none else if bs.length - 4 < g64 (bs.take 4) then none else
    (unpF f (bs.drop (4 + g64 (bs.take 4)))).map (ofL ((bs.drop 4).take (g64 (bs.take 4))) :: ·)
def unpackL (bs : List UInt8) : Option (List ByteArray) := unpF bs.length bs
theorem unpF_more : ∀ (f g : Nat) (bs : List UInt8), bs.length ≤ f → bs.length ≤ g → unpF f bs = unpF g bs
  | 0, 0, _, _, _ => rfl
  | 0, g + 1, bs, h, _ => by
    have : bs = [] := List.length_eq_zero_iff.1 (by omega)
    subst this; simp [unpF]
  | f + 1, 0, bs, _, h => by
    have : bs = [] := List.length_eq_zero_iff.1 (by omega)
    subst this; simp [unpF]
  | f + 1, g + 1, bs, h1, h2 => by
    unfold unpF
    by_cases e : bs = []
    · rw [if_pos e, if_pos e]
    · rw [if_neg e, if_neg e]
      split
      · rfl
      · split
        · rfl
        · rw [unpF_more f g _ (by rw [List.length_drop]; omega) (by rw [List.length_drop]; omega)]
theorem unpack_nil : unpackL [] = some [] := rfl
theorem unpack_short {bs : List UInt8} (h0 : bs ≠ []) (h : bs.length < 4) : unpackL bs = none := by
  unfold unpackL
  cases hl : bs.length with
  | zero => exact absurd (List.length_eq_zero_iff.1 hl) h0
  | succ n =>
    unfold unpF
    rw [if_neg h0, if_pos (by omega)]
theorem unpack_over {bs : List UInt8} (h : 4 ≤ bs.length) (h2 : bs.length - 4 < g64 (bs.take 4)) : unpackL bs = none := by
  unfold unpackL
  have h0 : bs ≠ [] := fun e => by subst e; simp at h
  cases hl : bs.length with
  | zero => omega
  | succ n =>
    unfold unpF
    rw [if_neg h0, if_neg (by omega), if_pos (by omega)]
theorem unpack_cons {bs : List UInt8} (h : 4 ≤ bs.length) (h2 : g64 (bs.take 4) ≤ bs.length - 4) : unpackL bs = (unpackL (bs.drop (4 + g64 (bs.take 4)))).map (ofL ((bs.drop 4).take (g64 (bs.take 4))) :: ·) := by
  have h0 : bs ≠ [] := fun e => by subst e; simp at h
  have e : unpackL bs = unpF (bs.length - 1 + 1) bs := by
    unfold unpackL
    rw [show bs.length - 1 + 1 = bs.length by omega]
  rw [e]
  unfold unpF
  rw [if_neg h0, if_neg (by omega), if_neg (by omega)]
  unfold unpackL
  rw [unpF_more (bs.length - 1) _ _ (by rw [List.length_drop]; omega) (Nat.le_refl _)]

theorem unpack_pack : ∀ (rs : List ByteArray), (packL rs).length < 4294967296 → unpackL (packL rs) = some rs
  | [], _ => rfl
  | s :: rs, h => by
    have e : packL (s :: rs) = four s.size ++ (s.data.toList ++ packL rs) := by simp [packL]
    have hs : s.data.toList.length = s.size := rfl
    have hl : (packL (s :: rs)).length = 4 + s.size + (packL rs).length := by
      rw [e, List.length_append, List.length_append, four_length, hs]; omega
    have ht : (packL (s :: rs)).take 4 = four s.size := by rw [e, List.take_left' (four_length _)]
    have hg : g64 ((packL (s :: rs)).take 4) = s.size := by rw [ht, g64_four (by omega)]
    rw [unpack_cons (by omega) (by rw [hg]; omega), hg]
    have hd : (packL (s :: rs)).drop 4 = s.data.toList ++ packL rs := by rw [e, List.drop_left' (four_length _)]
    have hd2 : (packL (s :: rs)).drop (4 + s.size) = packL rs := by rw [← List.drop_drop, hd, List.drop_left' hs]
    rw [hd2, hd, List.take_left' hs, unpack_pack rs (by omega)]
    rfl

theorem unpack_spec {h : Heap} {a : Option Addr} {l c : Nat} {bs : List UInt8} (hb : Rb h a l bs) (hc : l ≤ c) (hl : l ≤ 1000000000) {R : Sl × Bool → Heap → Prop}
    (hno : unpackL bs = none → ∀ h', Keep (fun _ => False) h h' → R (⟨none, 0, 0⟩, false) h')
    (hyes : ∀ rs, unpackL bs = some rs → ∀ s h', Ts h' s.a s.len rs → s.len ≤ s.cap → (∀ b, blk s.a b → h.size ≤ b) → Keep (fun _ => False) h h' → R (s, true) h') :
    CallT Try.prog enc_Unpack_no [.slice a l c] h [.sc .sl, .sc .bool] R := by
  have hcall := enc_Unpack_call (b_0 := ⟨a, l, c⟩) (R := R) (h := h)
  apply hcall
  simp only [enc_Unpack]
  have hlen := hb.len
  refine LoopT.intro (fun (t : Sl × Sl) h' => ∃ bs' rs', Rb h t.1.a t.1.len bs' ∧ t.1.len ≤ t.1.cap ∧ SlR h' 1 t.2.a t.2.len t.2.cap (rs'.map Value.string) ∧ unpackL bs = (unpackL bs').map (rs' ++ ·) ∧ bs'.length + rs'.length ≤ l ∧ (∀ b, blk t.2.a b → h.size ≤ b) ∧ Keep (fun _ => False) h h') (fun t _ => t.1.len)
    ⟨bs, [], hb, hc, SlR.nil h 1, by simp, by simp; omega, (fun b hb => by obtain ⟨x, hx, _⟩ := hb; cases hx), .refl _ _⟩ ?_
  rintro ⟨b, out⟩ h1 ⟨bs', rs', q1, q2, q3, q4, q5, q6, q7⟩
  replace q1 : Rb h b.a b.len bs' := q1
  replace q2 : b.len ≤ b.cap := q2
  replace q3 : SlR h1 1 out.a out.len out.cap (rs'.map Value.string) := q3
  replace q6 : ∀ y, blk out.a y → h.size ≤ y := q6
  have hbl := q1.len
  have hol : rs'.length = out.len := by have := q3.len; rw [List.length_map] at this; omega
  have z7 := q7.size
  refine cnd_dec (fun hpos => ?_) (fun hpos => ?_)
  · replace hpos : (b.len : Int) > 0 := hpos
    have hne : bs' ≠ [] := fun e => by subst e; simp at hbl; omega
    refine cnd_dec (fun h4 => ?_) (fun h4 => ?_)
    · replace h4 : (b.len : Int) < 4 := h4
      exact hno (by rw [q4, unpack_short hne (by omega)]; rfl) h1 q7
    · replace h4 : ¬ (b.len : Int) < 4 := h4
      have q1' : Rb h1 b.a b.len bs' := Rv.keep q1 q7 (fun _ _ _ h => h)
      have hg := g64_lt (bs'.take 4)
      rw [List.length_take] at hg
      have hg' : g64 (bs'.take 4) < 4294967296 := Nat.lt_of_lt_of_le hg (Nat.le_trans (Nat.pow_le_pow_right (by decide) (Nat.mul_le_mul (Nat.le_refl 8) (Nat.min_le_left 4 _))) (by decide))
      refine num_at q1' (by show 4 ≤ b.len; omega) (fun b0 b1 b2 b3 eb => ?_)
      obtain ⟨n, hn⟩ : ∃ n, n = g64 (bs'.take 4) := ⟨_, rfl⟩
      rw [num_or, ← eb, ← hn]
      rw [← hn] at hg'
      have e4 : w64 ((b.len : Int) - 4) = b.len - 4 := w64_id (by omega) (by omega)
      have e4n : w64 (4 + (n : Int)) = 4 + n := w64_id (by omega) (by omega)
      dsimp only
      rw [e4]
      refine cnd_dec (fun hov => ?_) (fun hov => ?_)
      · exact hno (by rw [q4, unpack_over (by omega) (by omega)]; rfl) h1 q7
      · rw [e4n]
        refine Rb.sub q1' (by omega) (by omega) (by omega) (by omega) (by omega) ?_
        intro a2 w2 _
        have en : (4 + (n : Int) - 4).toNat = n := by omega
        rw [en] at w2 ⊢
        have w2' : Rb h1 a2 n ((bs'.drop 4).take n) := w2
        refine Rb.str w2' ?_
        refine newB_row ?_
        intro h3 s3 r3 k3
        refine ldRow_row r3 (by simp) ?_
        refine (q3.keep k3 (fun _ _ h => h)).app rfl (by simp) (fun v hv => by simp at hv; subst hv; rfl) (by omega) ?_
        intro a4 c4 h4' v1 v2 v3
        refine Rb.sub q1 (by omega) (by omega) (by omega) (by omega) (by omega) ?_
        intro a5 w5 _
        rw [show ((b.len : Int) - (4 + n)).toNat = b.len - (4 + n) by omega, show (4 + (n : Int)).toNat = 4 + n by omega] at w5
        rw [show ((b.len : Int) - (4 + n)).toNat = b.len - (4 + n) by omega, show ((b.cap : Int) - (4 + n)).toNat = b.cap - (4 + n) by omega]
        have w5' : Rb h a5 (b.len - (4 + n)) (bs'.drop (4 + n)) := by
          rw [List.take_of_length_le (by rw [List.length_drop]; omega)] at w5
          exact w5
        refine ⟨⟨bs'.drop (4 + n), rs' ++ [ofL ((bs'.drop 4).take n)], w5', by show b.len - (4 + n) ≤ b.cap - (4 + n); omega, by rw [List.map_append]; exact v1, ?_, by rw [List.length_drop, List.length_append]; show bs'.length - (4 + n) + (rs'.length + 1) ≤ l; omega, fun y hy => ?_, (q7.trans' k3).trans v2 (fun y hy hb => by have := q6 y hb; omega)⟩, by show b.len - (4 + n) < b.len; omega⟩
        · rw [q4, unpack_cons (by omega) (by rw [← hn]; omega), ← hn]
          cases unpackL (bs'.drop (4 + n)) <;> simp
        · rcases v3 with ⟨rfl, _⟩ | ⟨rfl, _⟩
          · exact q6 y hy
          · rw [blk_some] at hy
            simp only at hy
            omega
  · replace hpos : ¬ (b.len : Int) > 0 := hpos
    have he : bs' = [] := List.length_eq_zero_iff.1 (by omega)
    subst he
    refine Rv.sub (show Ts h1 out.a out.len rs' from SlR.rv q3) (by omega) (by show (0 : Int) ≤ out.len; omega) (by show (out.len : Int) ≤ out.len; omega) (by show (out.len : Int) ≤ out.len; omega) (by have := SlR.le q3; show (out.len : Int) ≤ out.cap; omega) ?_
    intro a2 w2 hb2
    rw [show ((out.len : Int) - 0).toNat = out.len by omega] at w2 ⊢
    have w2' : Ts h1 a2 out.len rs' := by
      have e : ((rs'.map Value.string).drop (0 : Int).toNat).take out.len = rs'.map Value.string := by
        show ((rs'.map Value.string).drop 0).take out.len = _
        rw [List.drop_zero, List.take_of_length_le (by rw [List.length_map]; omega)]
      rw [e] at w2
      exact w2
    exact hyes rs' (by rw [q4]; simp [unpack_nil]) ⟨a2, out.len, out.len⟩ h1 w2' (Nat.le_refl _) (fun y hy => q6 y (hb2 y hy)) q7

end Wal
end Go.Proofs.Ytmkobpkdodgboaa
