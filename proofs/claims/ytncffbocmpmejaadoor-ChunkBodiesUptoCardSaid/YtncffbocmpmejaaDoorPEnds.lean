/- ChunkEnds. -/
import Derived.Test.YtncffbocmpmejaaDoorPLaw19
import Derived.Test.YtncffbocmpmejaaDoorPChunkF
namespace Go.Proofs.YtncffbocmpmejaaDoor
open Go D
set_option linter.unusedVariables false
set_option linter.unusedSimpArgs false
namespace Chunk
open Hash (hexL hmacF sha256F hexB)

theorem bl_none {h : Heap} {b : Nat} (r : Row h b []) : Bl h (some ⟨b, 0, none⟩) 0 0 [] := .inr ⟨b, 0, [], rfl, r, Nat.le_refl _, by simp, by simp, by simp⟩

theorem chunkEnds_spec {h : Heap} {w : Wh} {ka : Option Addr} {kl kc : Nat} {x1 x2 : Sl} {at_ : Int} {data : List UInt8} {sa : List Int} (wa : WA h w ka kl kc) (hd : Rb h x1.a x1.len data) (hdc : x1.len ≤ x1.cap)
    (ha : Rv h x2.a x2.len (sa.map (.int .i64 ·))) (hai : ∀ z ∈ sa, InI z) {R : Bool → Heap → Prop} (hR : ∀ h', Keep (fun _ => False) h h' → R true h') :
    CallT Tryd.prog 6 [.agg #[.string w.id, .string w.date, .string w.scope, .string w.sig, .slice ka kl kc, .string w.pay], .slice x1.a x1.len x1.cap, .slice x2.a x2.len x2.cap, .int .i64 at_] h [.sc .bool] R := by
  have hcall := law19_ChunkEnds_call (x_0 := (w.id, w.date, w.scope, w.sig, ⟨ka, kl, kc⟩, w.pay)) (x_1 := x1) (x_2 := x2) (x_3 := at_) (R := R) (h := h)
  apply hcall
  have e1 := hd.len
  have e2 := ha.1
  rw [List.length_map] at e2
  have hn := wa.n
  unfold law19_ChunkEnds
  refine newB_row ?_
  intro h1 s1 r1 k1
  replace r1 : Row h1 h.size (whoRow w ka kl kc) := r1
  have awake : ∀ {h'}, Keep (fun _ => False) h h' → CallT Tryd.prog law19_awake_no [] h' [.sc .bool] fun (r62 : Bool) h63 => R r62 h63 := fun k => awake_spec fun h2 k2 => hR h2 (k.trans' k2)
  refine withJ.intro (fun _ h' => h' = h1 ∧ x1.len ≤ 2000 ∧ x2.len ≤ 40) ?_ ?_
  · rintro _ h' ⟨rfl, b1, b2⟩
    refine ldW r1 ?_
    refine encode_spec (wa.key.keep0 k1) wa.le (by omega) (hd.keep0 k1) hdc (by omega) (ha.keep0 k1) hai (by omega) ?_
    intro t h2 t2 t3 t4 _ _ k2
    have r2 := k2.row r1 (fun h => h)
    have K2 := k1.trans' k2
    have tl := t2.len
    have tpos := encF_len w data sa
    refine cnd_f (by rw [beq_eq_false_iff_ne]; omega) ?_
    refine ldW r2 ?_
    refine ⟨by omega, by omega, ?_⟩
    have m1 := Int.lt_tmod_of_pos at_ (show (0 : Int) < (t.len : Int) by omega)
    have m2 := Int.tmod_lt_of_pos at_ (show (0 : Int) < (t.len : Int) by omega)
    generalize at_.tmod (t.len : Int) = m at m1 m2 ⊢
    rw [w64_id (x := m + (t.len : Int)) (by omega) (by omega)]
    have m3 := Int.tmod_nonneg (t.len : Int) (show 0 ≤ m + (t.len : Int) by omega)
    have m4 := Int.tmod_lt_of_pos (m + (t.len : Int)) (show (0 : Int) < (t.len : Int) by omega)
    generalize (m + (t.len : Int)).tmod (t.len : Int) = j at m3 m4 ⊢
    refine t2.sub (by omega) (by omega) (by omega) (by omega) (by omega) ?_
    intro a' ra _
    rw [show (0 : Int).toNat = 0 from rfl, List.drop_zero, show j - 0 = j by omega] at ra
    rw [show j - 0 = j by omega]
    refine decode_spec (wa.key.keep0 K2) wa.le ra (by omega) (by omega) ?_
    intro x h3 xb xc k3
    have r3 := k3.row r2 (fun h => h)
    have K3 := K2.trans' k3
    rw [dec_takeF (by omega) (by omega)] at xb
    rw [dec_takeF (by omega) (by omega)]
    have xl := xb.len
    refine withJ.intro (fun (s : Int) h' => s = 308 ∧ Keep (fun _ => False) h h') ?_ ?_
    · rintro s h4 ⟨rfl, K4⟩
      refine withJ.intro (fun (b : Bool) h' => b = true ∧ Keep (fun _ => False) h h') ?_ ?_
      · rintro b h5 ⟨rfl, k⟩
        exact hR h5 k
      · intro J hJ
        refine cnd_t rfl (cnd_t (by rw [beq_iff_eq]; show (x.len : Int) = 0; rw [xl]; rfl) (cnd_t rfl ?_))
        exact awake_spec fun h6 k6 => hJ _ _ ⟨rfl, K4.trans' k6⟩
    · intro J hJ
      refine ldW r3 ?_
      have t3b : Rb h3 t.a t.len (encF w data sa) := t2.keep0 k3
      have hz3 : h.size < h3.size := r3.lt
      -- the last call
      have fin : ∀ {h4 : Heap} {o : Option Addr} {c : Nat}, Keep (fun _ => False) h h4 → Bl h4 o (0 + t.len + 1) c (([] ++ encF w data sa) ++ [120]) → CallT Tryd.prog chunk_Decode_no [.agg #[.string w.id, .string w.date, .string w.scope, .string w.sig, .slice ka kl kc, .string w.pay], .slice o ((0 + t.len) + 1) c, .int .i64 (x1.len : Int)] h4 [.sc (.sl), .sc (.int .i64)] fun (r73 : Sl × Int) h74 => J r73.2 h74 := by
        intro h4 o c K4 b4
        refine decode_spec (wa.key.keep0 K4) wa.le b4.rb (by omega) (by omega) ?_
        intro y h5 _ _ k5
        refine hJ _ _ ⟨?_, K4.trans' k5⟩
        rw [List.nil_append, dec_moreF (by omega)]
      have tail : ∀ {h4 : Heap} {b : Nat} {o : Option Addr} {c : Nat} {K : Option Addr → Nat → Heap → Prop}, Keep (fun y => h3.size ≤ y) h3 h4 → Row h4 b [.int .u8 120] → Bl h4 o (0 + t.len) c ([] ++ encF w data sa) → (∀ y, blk o y → h3.size ≤ y) →
          (∀ a' c' h', Keep (fun y => h3.size ≤ y) h3 h' → Bl h' a' (0 + t.len + 1) c' (([] ++ encF w data sa) ++ [120]) → K a' c' h') → ldRow (1 * 1) ⟨b, 0, none⟩ h4 fun cs => app [.int .u8 0] 5 1 1 o (0 + t.len) c cs 1 h4 K := by
        intro h4 b o c K K4 r4 b4 n4 hk
        refine ldRow_row r4 (by simp) ?_
        refine Bl.push b4 (new := [120]) (by omega) rfl rfl ?_
        intro a' c' h5 q1 q2 q3
        exact hk a' c' h5 (K4.trans q2 (fun y _ hy => n4 y hy)) q1
      have whoK : ∀ {h4 : Heap}, Keep (fun y => h3.size ≤ y) h3 h4 → Row h4 h.size (whoRow w ka kl kc) := fun k => k.row r3 (by omega)
      have cpK : ∀ {h4 : Heap}, Keep (fun y => h3.size ≤ y) h3 h4 → Rb h4 t.a t.len (encF w data sa) := fun k => t3b.keep k (fun h0 b hb hge => by have := t3b.lt h0 hb; have hge' : h3.size ≤ b := hge; omega)
      have allK : ∀ {h4 : Heap}, Keep (fun y => h3.size ≤ y) h3 h4 → Keep (fun _ => False) h h4 := fun k => ⟨by have := k.size; omega, fun b hb _ => by rw [k.same b (by omega) (by show ¬ h3.size ≤ b; omega), K3.same b hb (fun h => h)]⟩
      -- the copy
      have copy : ∀ {h4 : Heap} {b : Nat} {K : Option Addr → Nat → Heap → Prop}, Keep (fun y => h3.size ≤ y) h3 h4 → Row h4 b [] → h3.size ≤ b →
          (∀ a' c' h', Keep (fun y => h3.size ≤ y) h3 h' → Keep (· = b) h4 h' → Bl h' a' (0 + t.len) c' ([] ++ encF w data sa) → (∀ y, blk a' y → y = b ∨ h4.size ≤ y) → K a' c' h') → rdCells t.a (t.len * 1) h4 fun cs => app [.int .u8 0] 5 1 1 (some ⟨b, 0, none⟩) 0 0 cs t.len h4 K := by
        intro h4 b K K4 r4 hb4 hk
        refine Rv.rd (cpK K4) ?_
        refine Bl.push (bl_none r4) (new := encF w data sa) (by omega) tl rfl ?_
        intro a' c' h5 q1 q2 q3
        have q2' : Keep (· = b) h4 h5 := q2.mono (fun y _ hy => by rw [blk_some] at hy; exact hy.symm)
        refine hk a' c' h5 (K4.trans q2' (fun y _ hy => by have hy' : y = b := hy; omega)) q2' q1 (fun y hy => ?_)
        rcases q3 y hy with hh | hh
        · rw [blk_some] at hh; exact .inl hh.symm
        · exact .inr hh
      refine ⟨?_, ?_⟩
      · refine newB_row ?_
        intro h4 s4 r4 k4
        have K4 : Keep (fun y => h3.size ≤ y) h3 h4 := k4.mono (fun _ _ h => h.elim)
        refine ⟨ldW (whoK K4) rfl, ?_, ?_⟩
        · refine copy K4 r4 (Nat.le_refl _) ?_
          intro a5 c5 h5 K5 k5 b5 n5
          refine ⟨ldW (whoK K5) rfl, ?_⟩
          refine newB_row ?_
          intro h6 s6 r6 k6
          have K6 := K5.trans k6 (fun _ _ h => h.elim)
          refine ⟨ldW (whoK K6) rfl, ?_⟩
          refine tail K6 r6 (SlR.keep b5 k6 (fun _ _ h => h)) (fun y hy => by have := n5 y hy; omega) ?_
          intro a7 c7 h7 K7 b7
          exact ⟨ldW (whoK K7) rfl, fin (allK K7) b7⟩
        · refine newB_row ?_
          intro h5 s5 r5 k5
          have K5 := K4.trans k5 (fun _ _ h => h.elim)
          refine ⟨ldW (whoK K5) rfl, ?_⟩
          refine copy K5 (k5.row r4 (fun h => h)) (Nat.le_refl _) ?_
          intro a6 c6 h6 K6 k6 b6 n6
          refine ⟨ldW (whoK K6) rfl, ?_⟩
          refine tail K6 (k6.row r5 (by omega)) b6 (fun y hy => by have := n6 y hy; omega) ?_
          intro a7 c7 h7 K7 b7
          exact ⟨ldW (whoK K7) rfl, fin (allK K7) b7⟩
      · refine newB_row ?_
        intro h4 s4 r4 k4
        have K4 : Keep (fun y => h3.size ≤ y) h3 h4 := k4.mono (fun _ _ h => h.elim)
        refine ⟨ldW (whoK K4) rfl, ?_⟩
        refine newB_row ?_
        intro h5 s5 r5 k5
        have K5 := K4.trans k5 (fun _ _ h => h.elim)
        refine ⟨ldW (whoK K5) rfl, ?_⟩
        refine copy K5 r5 (by omega) ?_
        intro a6 c6 h6 K6 k6 b6 n6
        refine ⟨ldW (whoK K6) rfl, ?_⟩
        refine tail K6 (k6.row (k5.row r4 (fun h => h)) (by omega)) b6 (fun y hy => by have := n6 y hy; omega) ?_
        intro a7 c7 h7 K7 b7
        exact ⟨ldW (whoK K7) rfl, fin (allK K7) b7⟩
  · intro J hJ
    refine withJ.intro (fun (b : Bool) h' => h' = h1 ∧ (b = false → x1.len ≤ 2000 ∧ x2.len ≤ 40)) ?_ ?_
    · rintro b h' ⟨rfl, hb'⟩
      refine cnd_of (fun e => awake k1) (fun e => ?_)
      exact hJ _ _ ⟨rfl, hb' e⟩
    · intro J2 hJ2
      refine cnd_dec (fun h1 => hJ2 _ _ ⟨rfl, fun e => by cases e⟩) (fun g1 => ?_)
      refine hJ2 _ _ ⟨rfl, fun e => ?_⟩
      have := of_decide_eq_false e
      omega
end Chunk
end Go.Proofs.YtncffbocmpmejaaDoor
