/- chunk.Decode: what it comes to. -/
import Derived.Test.YtncffbocmpmejaaDoorPChunkB
namespace Go.Proofs.YtncffbocmpmejaaDoor
open Go D
set_option linter.unusedVariables false
set_option linter.unusedSimpArgs false
namespace Chunk
open Hash (hexL hmacF sha256F hexB)

def decN (w : Wh) (size : Int) : Nat → List UInt8 → List UInt8 → List UInt8 → List UInt8 × Int
  | 0, _, _, _ => ([], 307)
  | n + 1, last, s, out => if (pieceF s).2.2.2 ≠ 0 then ([], (pieceF s).2.2.2) else
    if signF w last (pieceF s).2.1 ≠ (pieceF s).1 then ([], 301) else
    if (pieceF s).2.1 = [] then (if (out.length : Int) ≠ size then ([], 307) else (out, 0)) else
    decN w size n (pieceF s).1 (pieceF s).2.2.1 (out ++ (pieceF s).2.1)
def decF (w : Wh) (size : Int) (body : List UInt8) : List UInt8 × Int := decN w size (body.length + 1) (bl w.sig) body []

theorem eat_ok {s b : List UInt8} (h : (eatF s b).2 = 0) : (eatF s b).1 = s.drop b.length ∧ s = b ++ s.drop b.length := by
  unfold eatF at h ⊢
  split at h
  · rename_i hp
    rw [if_pos hp]
    refine ⟨rfl, ?_⟩
    have := of_decide_eq_true hp
    conv => lhs; rw [← List.take_append_drop b.length s, this]
  · split at h
    · cases h
    · cases h
theorem err_code {e : Int} (he : e ≠ 0) {p : Pc} (h : p = errP e) : p.2.2.2 ≠ 0 := by subst h; exact he

theorem pz2_ok {sum data : List UInt8} {size : Nat} {g : List UInt8 × Int} (h : (pz2 sum data size g).2.2.2 = 0) : g.2 = 0 ∧ ¬ (size = 0 ∧ g.1 ≠ []) ∧ pz2 sum data size g = (sum, data, g.1, 0) := by
  unfold pz2 at h ⊢
  by_cases c : g.2 = 0 ∧ size = 0 ∧ g.1 ≠ []
  · rw [if_pos c, if_pos (by decide)] at h
    cases h
  · rw [if_neg c] at h ⊢
    by_cases c2 : g.2 = 0
    · rw [if_neg (by simpa using c2)]
      exact ⟨c2, fun hh => c ⟨c2, hh⟩, rfl⟩
    · rw [if_pos c2] at h
      exact absurd h c2

/-- what a piece that may be read takes -/
theorem piece_ok {s : List UInt8} (h : (pieceF s).2.2.2 = 0) : ∃ k : Nat, (pieceF s).1.length = 64 ∧ s.length = k + (pieceF s).1.length + (pieceF s).2.1.length + (pieceF s).2.2.1.length ∧ 0 < k := by
  unfold pieceF at h ⊢
  split at h
  · cases h
  · rename_i c1
    rw [if_neg c1]
    split at h
    · rename_i c2
      exact absurd h c2
    · rename_i c2
      rw [if_neg c2]
      have e1 := eat_ok (Decidable.not_not.1 c2)
      generalize hn : runN 8 s = n at *
      have hnl := runN_le 8 s
      rw [hn] at hnl
      generalize hv : valN (s.take n) = size at *
      rw [e1.1] at h ⊢
      have l1 := congrArg List.length e1.2
      rw [List.length_append, List.length_drop] at l1
      generalize hr : (s.drop n).drop markL.length = r at *
      have lm : markL.length = 17 := rfl
      unfold py at h ⊢
      split at h
      · cases h
      · rename_i c3
        rw [if_neg c3]
        split at h
        · cases h
        · rename_i c4
          rw [if_neg c4]
          have hk := runN_le 64 r
          have hr64 : 64 ≤ r.length := by omega
          unfold pz at h ⊢
          split at h
          · rename_i c5
            exact absurd h c5
          · rename_i c5
            rw [if_neg c5]
            have e2 := eat_ok (Decidable.not_not.1 c5)
            rw [e2.1] at h ⊢
            have l2 := congrArg List.length e2.2
            rw [List.length_append] at l2
            generalize (r.drop 64).drop crL.length = r2 at *
            split at h
            · cases h
            · rename_i c6
              rw [if_neg c6]
              obtain ⟨e3, _, e5⟩ := pz2_ok h
              rw [e5]
              have e4 := eat_ok e3
              have l3 := congrArg List.length e4.2
              rw [List.length_append, List.length_drop] at l3
              rw [e4.1]
              have lc : crL.length = 2 := rfl
              rw [lc] at l2 l3
              rw [List.length_drop] at l2
              refine ⟨n + 17 + 4, ?_, ?_, by omega⟩
              · show (r.take 64).length = 64
                rw [List.length_take]; omega
              · show s.length = n + 17 + 4 + (r.take 64).length + (r2.take size).length + ((r2.drop size).drop crL.length).length
                rw [List.length_take, List.length_take, lc]
                omega

theorem decode_spec {h : Heap} {w : Wh} {ka ba : Option Addr} {kl kc blen bc : Nat} {body : List UInt8} {size : Int} (hkey : Rb h ka kl w.key) (hkc : kl ≤ kc) (hb : Rb h ba blen body) (hbl : blen ≤ 100000000) (hsz : w.n ≤ 100000000)
    {R : Sl × Int → Heap → Prop} (hk : ∀ s h', Rb h' s.a s.len (decF w size body).1 → s.len ≤ s.cap → Keep (fun _ => False) h h' → R (s, (decF w size body).2) h') :
    CallT Tryd.prog chunk_Decode_no [.agg #[.string w.id, .string w.date, .string w.scope, .string w.sig, .slice ka kl kc, .string w.pay], .slice ba blen bc, .int .i64 size] h [.sc .sl, .sc (.int .i64)] R := by
  have hcall := chunk_Decode_call (w_0 := (w.id, w.date, w.scope, w.sig, ⟨ka, kl, kc⟩, w.pay)) (body_1 := ⟨ba, blen, bc⟩) (size_2 := size) (R := R) (h := h)
  apply hcall
  have hblen := hb.len
  have hn := hsz
  unfold Wh.n at hn
  have hkl := hkey.len
  unfold chunk_Decode
  refine newB_row ?_
  intro h1 s1 r1 k1
  simp only [add_mk]
  refine ldS_row (o := 0 + 3) r1 rfl ?_
  refine Rb.str (bs := body) (hb.keep0 k1) ?_
  have gone : ∀ {h'}, Keep (fun y => h1.size ≤ y) h1 h' → Keep (fun _ => False) h h' := fun k => ⟨by have := k.size; omega, fun b hb' _ => by
    rw [k.same b (by omega) (by omega)]
    exact k1.same b hb' (fun h => h)⟩
  have err : ∀ {h'} {e : Int}, Keep (fun y => h1.size ≤ y) h1 h' → decF w size body = ([], e) → R ((⟨none, 0, 0⟩ : Sl), e) h' := fun k e => by
    have := hk ⟨none, 0, 0⟩ _ (by rw [e]; exact rb_nil _) (Nat.le_refl _) (gone k)
    rw [e] at this
    exact this
  refine LoopT.intro (fun (t : Sl × ByteArray × ByteArray) h' => ∃ out n, Bl h' t.1.a t.1.len t.1.cap out ∧ (∀ b, blk t.1.a b → h1.size ≤ b) ∧ Keep (fun y => h1.size ≤ y) h1 h' ∧ (bl t.2.2).length < n ∧ decN w size n (bl t.2.1) (bl t.2.2) out = decF w size body ∧ out.length + t.2.2.size ≤ body.length ∧ t.2.1.size ≤ 64 + w.sig.size)
    (fun t _ => t.2.2.size) ?_ ?_
  · refine ⟨[], body.length + 1, SlR.nil _ _, fun b hb' => (by obtain ⟨x, e, _⟩ := hb'; cases e), .refl _ _, ?_, ?_, ?_, by show w.sig.size ≤ _; omega⟩
    · show (bl (ofL body)).length < _
      rw [bl_ofL]; omega
    · show decN w size _ (bl w.sig) (bl (ofL body)) [] = _
      rw [bl_ofL]; rfl
    · show 0 + (ofL body).size ≤ _
      rw [ofL_size]; omega
  · rintro ⟨t, last, s⟩ h2 ⟨out, n, p1, p2, p3, p4, p5, p6, p7⟩
    replace p1 : Bl h2 t.a t.len t.cap out := p1
    replace p2 : ∀ b, blk t.a b → h1.size ≤ b := p2
    replace p4 : (bl s).length < n := p4
    replace p5 : decN w size n (bl last) (bl s) out = decF w size body := p5
    replace p6 : out.length + s.size ≤ body.length := p6
    replace p7 : last.size ≤ 64 + w.sig.size := p7
    obtain ⟨m, rfl⟩ : ∃ m, n = m + 1 := ⟨n - 1, by omega⟩
    unfold decN at p5
    refine piece_spec (by show s.size ≤ _; omega) ?_
    intro h3 k3
    have K3 := p3.trans k3 (fun _ _ h => h.elim)
    have hok := piece_ok (s := bl s)
    generalize pieceF (bl s) = pc at p5 hok ⊢
    obtain ⟨sum, data, rest, e⟩ := pc
    show cnd (e != 0) _ _
    refine cnd_of (fun he => ?_) (fun he => ?_)
    · have he' : e ≠ 0 := by simpa using he
      rw [if_pos he'] at p5
      exact err K3 p5.symm
    · have he' : e = 0 := by simpa using he
      subst he'
      rw [if_neg (by simp)] at p5
      obtain ⟨q, q1, q2, q3⟩ := hok rfl
      rw [bl_len] at q2
      replace q1 : sum.length = 64 := q1
      replace q2 : s.size = q + sum.length + data.length + rest.length := q2
      have r3 := K3.row r1 (by have := r1.lt; omega)
      refine ldS_row (o := 0) r3 rfl (ldS_row (o := 0 + 1) r3 rfl (ldS_row (o := 0 + 2) r3 rfl (ldS_row (o := 0 + 3) r3 rfl (ldL_row (o := 0 + 4) r3 rfl (ldS_row (o := 0 + 5) r3 rfl ?_)))))
      show s2b (ofL data) 5 h3 fun a16 c17 h18 => _
      refine s2b_row (by rw [ofL_size]; omega) ?_
      intro cap h4 b4 k4 s4
      have K4 := K3.trans k4 (fun _ _ h => h.elim)
      have rb4 := rb_s2b b4
      rw [bl_ofL] at rb4
      refine sign_spec (w := w) (hkey.keep0 (gone K4)) hkc rb4 (SlR.le b4) (by rw [ofL_size]; omega) (by show _ + last.size ≤ _; omega) ?_
      intro h5 k5
      have K5 := K4.trans k5 (fun _ _ h => h.elim)
      show cnd (!seq (ofL (signF w (bl last) data)) (ofL sum)) _ _
      rw [seq_bl, bl_ofL, bl_ofL]
      by_cases hsg : signF w (bl last) data = sum
      · rw [if_neg (show ¬ signF w (bl last) data ≠ sum by simpa using hsg)] at p5
        refine cnd_f (by simp [hsg]) ?_
        show cnd (seq (ofL data) (⟨#[]⟩ : ByteArray)) _ _
        rw [seq_nil]
        have K25 : Keep (fun _ => False) h2 h5 := (k3.trans' k4).trans' k5
        have b5 : Bl h5 t.a t.len t.cap out := SlR.keep p1 K25 (fun _ _ h => h)
        have hlen := b5.len
        refine cnd_dec (fun hd => ?_) (fun hd => ?_)
        · rw [if_pos hd] at p5
          show cnd ((t.len : Int) != size) _ _
          refine cnd_of (fun hz => ?_) (fun hz => ?_)
          · have hz' : (out.length : Int) ≠ size := by rw [← hlen]; simpa using hz
            rw [if_pos hz'] at p5
            exact err K5 p5.symm
          · have hz' : (out.length : Int) = size := by rw [← hlen]; simpa using hz
            rw [if_neg (by simpa using hz')] at p5
            show lsl 1 t.a t.cap 0 (t.len : Int) (t.len : Int) _
            have hc := SlR.le b5
            refine b5.rb.sub (by omega) (by omega) (by omega) (by omega) (by omega) ?_
            intro a' ra _
            have e1 : ((out.drop (0 : Int).toNat).take ((t.len : Int) - 0).toNat) = out := by
              show out.take _ = out
              exact List.take_of_length_le (by omega)
            rw [e1] at ra
            rw [← p5] at hk
            exact hk ⟨a', ((t.len : Int) - 0).toNat, ((t.len : Int) - 0).toNat⟩ h5 ra (Nat.le_refl _) (gone K5)
        · rw [if_neg hd] at p5
          show app [.int .u8 0] 5 1 1 t.a t.len t.cap (bytesV (ofL data)) (ofL data).size h5 _
          rw [ofL_size]
          refine b5.push (new := data) (by omega) rfl (ofL_bytes data) ?_
          intro a' c' h6 b6 k6 n6
          have z5 := K5.size
          refine ⟨⟨out ++ data, m, b6, fun b hb' => ?_, K5.trans k6 (fun y _ hy => p2 y hy), ?_, ?_, ?_, ?_⟩, ?_⟩
          · rcases n6 b hb' with hh | hh
            · exact p2 b hh
            · omega
          · show (bl (ofL rest)).length < m
            rw [bl_ofL]
            rw [bl_len] at p4
            omega
          · show decN w size m (bl (ofL sum)) (bl (ofL rest)) (out ++ data) = _
            rw [bl_ofL, bl_ofL]
            exact p5
          · show (out ++ data).length + (ofL rest).size ≤ _
            rw [ofL_size, List.length_append]; omega
          · show (ofL sum).size ≤ _
            rw [ofL_size]; omega
          · show (ofL rest).size < s.size
            rw [ofL_size]; omega
      · rw [if_pos (show signF w (bl last) data ≠ sum from hsg)] at p5
        refine cnd_t (by simp [hsg]) ?_
        exact err K5 p5.symm
end Chunk
end Go.Proofs.YtncffbocmpmejaaDoor
