/- The document's HMAC, and HashMacs. -/
import Derived.Test.YtecfcodildjnnaaPSumsC
namespace Go.Proofs.Ytecfcodildjnnaa
open Go D
set_option linter.unusedVariables false
set_option linter.unusedSimpArgs false
namespace Ref2
open Hash

theorem hmac_spec {h : Heap} {a b : Option Addr} {l c m d : Nat} {key bs : List UInt8} (hkey : Rb h a l key) (hl : l ≤ 140737488352000) (hb : Rb h b m bs) (hm : m ≤ 140737488351500) {R : Sl → Heap → Prop}
    (hk : ∀ s h', Bl h' s.a s.len s.cap (hmacF key bs) → Keep (fun _ => False) h h' → R s h') :
    CallT Try.prog ref2_HMAC_no [.slice a l c, .slice b m d] h [.sc .sl] R := by
  have hcall := ref2_HMAC_call (key_0 := ⟨a, l, c⟩) (b_1 := ⟨b, m, d⟩) (R := R) (h := h)
  apply hcall
  unfold ref2_HMAC
  have hlen := hkey.len
  have hblen := hb.len
  refine withJ.intro (fun (s : Sl) h' => Rb h' s.a s.len (keyB key) ∧ Keep (fun _ => False) h h') ?_ ?_
  rotate_left
  · intro J hJ
    refine cnd_dec (fun h64 => ?_) (fun h64 => ?_)
    · refine sha256_spec hkey hl ?_
      intro s h' w1 w4
      refine hJ _ _ ⟨?_, w4⟩
      unfold keyB
      rw [if_pos (by simp only at h64; omega)]
      exact w1.rb
    · refine hJ _ _ ⟨?_, .refl _ _⟩
      unfold keyB
      rw [if_neg (by simp only at h64; omega)]
      exact hkey
  rintro s h1 ⟨hk1, k1⟩
  have kle := keyB_le key
  have klen := hk1.len
  obtain ⟨kb, hkb⟩ : ∃ kb, kb = keyB key := ⟨_, rfl⟩
  rw [← hkb] at hk1 kle klen
  have hb1 := hb.keep k1 (fun _ _ _ h => h)
  have nob : ∀ b, ¬ blk none b := fun b hb => by obtain ⟨x, hx, _⟩ := hb; cases hx
  let pt : Nat → Nat → List UInt8 := fun k i => (List.range i).map fun j => xb (kb.getD j 0) k
  have pts : ∀ k i, pt k (i + 1) = pt k i ++ [xb (kb.getD i 0) k] := fun k i => by
    show (List.range (i + 1)).map _ = _
    rw [List.range_succ, List.map_append]
    rfl
  refine LoopT.intro (fun (t : Sl × Sl × Int) h' => 0 ≤ t.2.2 ∧ t.2.2 ≤ 64 ∧ t.1.len = t.2.2.toNat ∧ t.2.1.len = t.2.2.toNat ∧ Bl h' t.1.a t.1.len t.1.cap (pt 54 t.2.2.toNat) ∧ Bl h' t.2.1.a t.2.1.len t.2.1.cap (pt 92 t.2.2.toNat) ∧ (∀ b, blk t.1.a b → h1.size ≤ b ∧ ¬ blk t.2.1.a b) ∧ (∀ b, blk t.2.1.a b → h1.size ≤ b) ∧ Keep (fun y => h1.size ≤ y) h1 h') (fun t _ => (64 - t.2.2).toNat)
    ⟨by simp, by simp, by simp, by simp, SlR.nil _ _, SlR.nil _ _, (fun b hb' => absurd hb' (nob b)), (fun b hb' => absurd hb' (nob b)), .refl _ _⟩ ?_
  rintro ⟨si, so, i⟩ h2 ⟨p1, p2, p3, p4, p5, p6, p7, p8, p9⟩
  replace p1 : 0 ≤ i := p1
  replace p2 : i ≤ 64 := p2
  replace p3 : si.len = i.toNat := p3
  replace p4 : so.len = i.toNat := p4
  replace p5 : Bl h2 si.a si.len si.cap (pt 54 i.toNat) := p5
  replace p6 : Bl h2 so.a so.len so.cap (pt 92 i.toNat) := p6
  replace p7 : ∀ b, blk si.a b → h1.size ≤ b ∧ ¬ blk so.a b := p7
  replace p8 : ∀ b, blk so.a b → h1.size ≤ b := p8
  have z9 := p9.size
  refine cnd_dec (fun hi => ?_) (fun hi => ?_)
  · replace hi : i < 64 := hi
    have hw : w64 (i + 1) = i + 1 := w64_id (by omega) (by omega)
    refine withJ.inl ?_
    refine withJ.intro (fun (x : Int) h' => h' = h2 ∧ x = ((kb.getD i.toNat 0).toNat : Int)) ?_ ?_
    · rintro x h' ⟨rfl, hx⟩
      subst hx
      rw [show (54 : Int) = ((54 : Nat) : Int) from rfl, xb_val _ (by decide), show (92 : Int) = ((92 : Nat) : Int) from rfl, xb_val _ (by decide)]
      refine newB_row ?_
      intro h3 s3 r3 k3
      refine ldRow_row r3 (by simp) ?_
      have p5' : Bl h3 si.a si.len si.cap _ := SlR.keep p5 k3 (fun _ _ h => h)
      have p6' : Bl h3 so.a so.len so.cap _ := SlR.keep p6 k3 (fun _ _ h => h)
      refine p5'.push (new := [xb (kb.getD i.toNat 0) 54]) (by show si.len + 1 ≤ _; omega) rfl rfl ?_
      intro a4 c4 h4 w1 w2 w3
      have n4 : ∀ b, blk a4 b → h1.size ≤ b ∧ ¬ blk so.a b := fun b hb' => by
        rcases w3 b hb' with hh | hh
        · exact p7 b hh
        · exact ⟨by omega, fun h' => by have := SlR.blk_lt p6' h'; omega⟩
      have p6'' : Bl h4 so.a so.len so.cap _ := SlR.keep p6' w2 (fun b hb' hh => (p7 b hh).2 hb')
      refine newB_row ?_
      intro h5 s5 r5 k5
      refine ldRow_row r5 (by simp) ?_
      have p63 : Bl h5 so.a so.len so.cap _ := SlR.keep p6'' k5 (fun _ _ h => h)
      refine p63.push (new := [xb (kb.getD i.toNat 0) 92]) (by show so.len + 1 ≤ _; omega) rfl rfl ?_
      intro a6 c6 h6 v1 v2 v3
      have w15 : Bl h5 a4 _ c4 _ := SlR.keep w1 k5 (fun _ _ h => h)
      have w16 : Bl h6 a4 _ c4 _ := SlR.keep w15 v2 (fun b hb' hh => (n4 b hb').2 hh)
      show (0 ≤ w64 (i + 1) ∧ w64 (i + 1) ≤ 64 ∧ si.len + 1 = (w64 (i + 1)).toNat ∧ so.len + 1 = (w64 (i + 1)).toNat ∧ Bl h6 a4 (si.len + 1) c4 (pt 54 (w64 (i + 1)).toNat) ∧ Bl h6 a6 (so.len + 1) c6 (pt 92 (w64 (i + 1)).toNat) ∧ (∀ b, blk a4 b → h1.size ≤ b ∧ ¬ blk a6 b) ∧ (∀ b, blk a6 b → h1.size ≤ b) ∧ Keep (fun y => h1.size ≤ y) h1 h6) ∧ (64 - w64 (i + 1)).toNat < (64 - i).toNat
      have z4 := w2.size
      have n6 : ∀ b, blk a6 b → h1.size ≤ b := fun b hb' => by
        rcases v3 b hb' with hh | hh
        · exact p8 b hh
        · omega
      rw [hw, show (i + 1).toNat = i.toNat + 1 by omega, pts, pts]
      refine ⟨⟨by omega, by omega, by omega, by omega, w16, v1, fun b hb' => ⟨(n4 b hb').1, fun hh => ?_⟩, n6, ?_⟩, by omega⟩
      · rcases v3 b hh with h' | h'
        · exact (n4 b hb').2 h'
        · have := SlR.blk_lt w15 hb'; omega
      · exact (((p9.trans k3 (fun _ _ h => h.elim)).trans w2 (fun y _ hy => (p7 y hy).1)).trans k5 (fun _ _ h => h.elim)).trans v2 (fun y _ hy => p8 y hy)
    · intro J hJ
      refine cnd_dec (fun hik => ?_) (fun hik => ?_)
      · have hk2 : Rb h2 s.a s.len kb := hk1.keep p9 (fun h0 y hy hge => by have := hk1.lt h0 hy; have hge' : h1.size ≤ y := hge; omega)
        refine hk2.at p1 hik ?_
        intro b hb'
        exact hJ _ _ ⟨rfl, by rw [getD_of hb']⟩
      · refine hJ _ _ ⟨rfl, ?_⟩
        have : kb.length ≤ i.toNat := by
          have : ¬ i < (s.len : Int) := hik
          omega
        rw [List.getD_eq_getElem?_getD, List.getElem?_eq_none this]
        rfl
  · have hi64 : i = 64 := by
      have : ¬ i < (64 : Int) := hi
      omega
    subst hi64
    have e54 : pt 54 (64 : Int).toNat = keyPad kb 54 := rfl
    have e92 : pt 92 (64 : Int).toNat = keyPad kb 92 := rfl
    rw [e54] at p5
    rw [e92] at p6
    have hb2 : Rb h2 b m bs := hb1.keep p9 (fun hl' y hy hge => by have := hb1.lt hl' hy; have hge' : h1.size ≤ y := hge; omega)
    refine hb2.rd ?_
    refine p5.push (new := bs) (by show si.len + m ≤ _; omega) hblen rfl ?_
    intro a6 c6 h6 q1 q2 q3
    have so6 : Bl h6 so.a so.len so.cap _ := SlR.keep p6 q2 (fun y hy hh => (p7 y hh).2 hy)
    refine sha256_spec q1.rb (by show si.len + m ≤ _; omega) ?_
    intro s7 h7 w1 w4
    refine w1.rb.rd ?_
    have l7 := w1.len
    rw [sha256F_length] at l7
    have so7 : Bl h7 so.a so.len so.cap _ := SlR.keep so6 w4 (fun _ _ h => h)
    refine so7.push (new := sha256F (keyPad kb 54 ++ bs)) (by show so.len + s7.len ≤ _; omega) (by rw [sha256F_length]; exact l7) rfl ?_
    intro a8 c8 h8 v1 v2 v3
    refine sha256_spec v1.rb (by show so.len + s7.len ≤ _; omega) ?_
    intro s9 h9 t1 t4
    have z1 := k1.size
    have k08 : Keep (fun y => h1.size ≤ y) h1 h8 := ((p9.trans q2 (fun y _ hy => (p7 y hy).1)).trans w4 (fun _ _ h => h.elim)).trans v2 (fun y _ hy => p8 y hy)
    refine hk s9 h9 ?_ ?_
    · unfold hmacF
      rw [← hkb]
      exact t1
    · have kk := (k1.mono (T := fun y => h1.size ≤ y) (fun _ _ h => h.elim)).trans' (k08.trans t4 (fun _ _ h => h.elim))
      exact ⟨kk.size, fun y hy _ => kk.same y hy (by omega)⟩

theorem hashMacs_spec {h : Heap} {x0 x1 : Sl} {key bs : List UInt8} (hkey : Rb h x0.a x0.len key) (hc : x0.len ≤ x0.cap) (hl : x0.len ≤ 140737488351500) (hb : Rb h x1.a x1.len bs) (hm : x1.len ≤ 140737488351500) {R : Bool → Heap → Prop} (hR : ∀ h', Keep (fun _ => False) h h' → R true h') :
    CallT Try.prog law2_HashMacs_no [.slice x0.a x0.len x0.cap, .slice x1.a x1.len x1.cap] h [.sc .bool] R := by
  apply law2_HashMacs_call
  unfold law2_HashMacs
  refine withJ.inl ?_
  refine Hash.hmac_spec hkey hc (by omega) hb hm ?_
  intro s1 h1 b1 _ _ k1
  refine hmac_spec (Rv.keep hkey k1 (fun _ _ _ h => h)) (by omega) (Rv.keep hb k1 (fun _ _ _ h => h)) hm ?_
  intro s2 h2 b2 k2
  refine same_spec (Rv.keep b1.rb k2 (fun _ _ _ h => h)) b2.rb rfl ?_
  refine cnd_t rfl ?_
  exact awake_spec fun h' hk' => hR h' ((k1.trans' k2).trans' hk')

end Ref2
end Go.Proofs.Ytecfcodildjnnaa
