/- The document's MD5 and SHA-256: the same as package hash's. -/
import Derived.Test.YtecfcodildjnnaaPSums
namespace Go.Proofs.Ytecfcodildjnnaa
open Go D
set_option linter.unusedVariables false
set_option linter.unusedSimpArgs false
namespace Ref2
open Hash

def turnL : List Nat := [7, 12, 17, 22, 5, 9, 14, 20, 4, 11, 16, 23, 6, 10, 15, 21]
theorem turnL_get (n : Nat) (hn : n < 64) : turnL[n / 16 * 4 + n % 4]? = some (mdT n) := by
  have h : ∀ k : Fin 64, turnL[k.val / 16 * 4 + k.val % 4]? = some (mdT k.val) := by decide
  exact h ⟨n, hn⟩

theorem blk_getD (M : List UInt8) (k i : Nat) (hi : i < 64) : ((M.drop (64 * k)).take 64).getD i 0 = M.getD (64 * k + i) 0 := by
  rw [List.getD_eq_getElem?_getD, List.getD_eq_getElem?_getD, List.getElem?_take, if_pos hi, List.getElem?_drop]

theorem md5_spec {h : Heap} {a : Option Addr} {l c : Nat} {bs : List UInt8} (hb : Rb h a l bs) (hl : l ≤ 140737488352000) {R : Sl → Heap → Prop}
    (hk : ∀ s h', Bl h' s.a s.len s.cap (md5F bs) → Keep (fun _ => False) h h' → R s h') :
    CallT Try.prog ref2_MD5_no [.slice a l c] h [.sc .sl] R := by
  have hcall := ref2_MD5_call (x_0 := ⟨a, l, c⟩) (R := R) (h := h)
  apply hcall
  unfold ref2_MD5
  have hlen := hb.len
  refine newB_row ?_
  intro h1 s1 r1 k1
  have r1' : Row h1 h.size (c4 md0) := r1
  refine sines_spec ?_
  intro h2 ws2 k2 s2
  refine newB_row (cs := turnL.map fun n => .int .i64 ((n : Nat) : Int)) ?_
  intro h3 s3 rt3 k3
  have k03 : Keep (fun _ => False) h h3 := (k1.trans' k2).trans' k3
  refine padded_spec (hb.keep k03 (fun _ _ _ h => h)) hl ?_
  intro t h4 bt bc bn k4
  obtain ⟨M, hM⟩ : ∃ M, M = padL bs false := ⟨_, rfl⟩
  rw [← hM] at bt
  obtain ⟨f1, f2⟩ := padL_length bs false
  rw [← hM] at f1 f2
  have tl := bt.len
  have r4 : Row h4 h.size (c4 md0) := k4.row (k3.row (k2.row r1' (fun h => h)) (fun h => h)) (fun h => h)
  have rt4 := k4.row rt3 (fun h => h)
  have ws4 : Ws h4 (some ⟨h1.size, 0, none⟩) 64 sineL := Rv.keep (Rv.keep ws2 k3 (fun _ _ _ h => h)) k4 (fun _ _ _ h => h)
  have k04 := k03.trans' k4
  have z3 := k03.size
  have hsz := r4.lt
  refine LoopT.intro (fun at_ h' => ∃ k : Nat, at_ = ((64 * k : Nat) : Int) ∧ 64 * k ≤ t.len ∧ Row h' h.size (c4 (blocksN mdBlk k md0 M)) ∧ Keep (· = h.size) h4 h') (fun at_ _ => (t.len - at_).toNat) ⟨0, rfl, by omega, r4, .refl _ _⟩ ?_
  rintro at_ h5 ⟨k, rfl, q2, q3, q4⟩
  have ne1 : ∀ y : Nat, y ≠ h.size → ¬ (y = h.size) := fun _ h => h
  have ws5 : Ws h5 (some ⟨h1.size, 0, none⟩) 64 sineL := Rv.keep ws4 q4 (fun _ y hy e => by
    rw [blk_some] at hy
    have e' : y = h.size := e
    simp only at hy
    omega)
  have rt5 := q4.row rt4 (fun e => by
    have e' : h2.size = h.size := e
    omega)
  have bt5 : Bl h5 t.a t.len t.cap M := SlR.keep bt q4 (fun y hy e => by
    have e' : y = h.size := e
    have := bn y hy
    omega)
  refine cnd_dec (fun hin => ?_) (fun hin => ?_)
  · have hkl : 64 * k + 64 ≤ t.len := by omega
    refine idx_some (by decide) (by decide) (ldI_row (o := 0) q3 rfl (idx_some (by decide) (by decide) (ldI_row (o := 1) q3 rfl (idx_some (by decide) (by decide) (ldI_row (o := 2) q3 rfl (idx_some (by decide) (by decide) (ldI_row (o := 3) q3 rfl ?_)))))))
    obtain ⟨x, hx⟩ : ∃ x, x = blocksN mdBlk k md0 M := ⟨_, rfl⟩
    obtain ⟨blk_, hblk⟩ : ∃ b, b = (M.drop (64 * k)).take 64 := ⟨_, rfl⟩
    rw [← hx] at q3 ⊢
    refine LoopT.intro (fun (t : Int × Int × Int × Int × Int) h' => h' = h5 ∧ 0 ≤ t.2.2.2.2 ∧ t.2.2.2.2 ≤ 64 ∧ (t.1, t.2.1, t.2.2.1, t.2.2.2.1) = u4 (st blk_ x t.2.2.2.2.toNat)) (fun t _ => (64 - t.2.2.2.2).toNat) ⟨rfl, by simp, by simp, rfl⟩ ?_
    rintro ⟨ya, yb, yc, yd, i⟩ h6 ⟨rfl, p1, p2, p3⟩
    replace p1 : 0 ≤ i := p1
    replace p2 : i ≤ 64 := p2
    replace p3 : (ya, yb, yc, yd) = u4 (st blk_ x i.toNat) := p3
    obtain ⟨z, hz⟩ : ∃ z, z = st blk_ x i.toNat := ⟨_, rfl⟩
    rw [← hz] at p3
    unfold u4 at p3
    injection p3 with p3 p4
    injection p4 with p4 p5
    injection p5 with p5 p6
    subst p3 p4 p5 p6
    refine cnd_dec (fun hi => ?_) (fun hi => ?_)
    · replace hi : i < 64 := hi
      have hw : w64 (i + 1) = i + 1 := w64_id (by omega) (by omega)
      refine withJ.inl ?_
      refine withJ.intro (fun (t : Int × Int) h' => h' = h6 ∧ t.1 = u (mdf i.toNat z.2.1 z.2.2.1 z.2.2.2) ∧ t.2 = (mdg i.toNat : Int)) ?_ ?_
      · rintro ⟨f, g⟩ h' ⟨rfl, hf, hg⟩
        replace hf : f = _ := hf
        replace hg : g = _ := hg
        subst hf hg
        have hg16 : mdg i.toNat < 16 := by unfold mdg; (repeat' split) <;> omega
        have w4g : w64 (4 * ((mdg i.toNat : Nat) : Int)) = ((4 * mdg i.toNat : Nat) : Int) := by rw [w64_id (by omega) (by omega)]; omega
        have wj : w64 (((64 * k : Nat) : Int) + ((4 * mdg i.toNat : Nat) : Int)) = ((64 * k + 4 * mdg i.toNat : Nat) : Int) := by rw [w64_id (by omega) (by omega)]; omega
        have wj1 : w64 (((64 * k + 4 * mdg i.toNat : Nat) : Int) + 1) = ((64 * k + (4 * mdg i.toNat + 1) : Nat) : Int) := by rw [w64_id (by omega) (by omega)]; omega
        have wj2 : w64 (((64 * k + 4 * mdg i.toNat : Nat) : Int) + 2) = ((64 * k + (4 * mdg i.toNat + 2) : Nat) : Int) := by rw [w64_id (by omega) (by omega)]; omega
        have wj3 : w64 (((64 * k + 4 * mdg i.toNat : Nat) : Int) + 3) = ((64 * k + (4 * mdg i.toNat + 3) : Nat) : Int) := by rw [w64_id (by omega) (by omega)]; omega
        simp only [w4g, wj, wj1, wj2, wj3]
        refine bt5.rb.at (by omega) (by omega) ?_
        intro b0 e0
        refine bt5.rb.at (by omega) (by omega) ?_
        intro b1 e1
        refine bt5.rb.at (by omega) (by omega) ?_
        intro b2 e2
        refine bt5.rb.at (by omega) (by omega) ?_
        intro b3 e3
        rw [Int.toNat_natCast] at e0 e1 e2 e3
        refine ws5.at p1 hi ?_
        have hT := mdT_lt i.toNat (by omega)
        have wt : w64 (w64 (w64 (i.tdiv 16) * 4) + i.tmod 4) = ((i.toNat / 16 * 4 + i.toNat % 4 : Nat) : Int) := by
          rw [div16 p1 hi, Int.tmod_eq_emod_of_nonneg p1, w64_id (x := i / 16 * 4) (by omega) (by omega), w64_id (by omega) (by omega)]; omega
        show idx _ 16 (w64 (w64 (w64 (i.tdiv 16) * 4) + i.tmod 4)) _
        simp only [wt]
        refine idx_some (by omega) (by show ((i.toNat / 16 * 4 + i.toNat % 4 : Nat) : Int) < ((16 : Nat) : Int); omega) ?_
        refine ldI_at (n := ((mdT i.toNat : Nat) : Int)) ?_ ?_
        · rw [Int.toNat_natCast, add_mk, Nat.zero_add, Nat.mul_one, rt5.cells, List.getElem?_map, turnL_get _ (by omega)]
          rfl
        have ew : IntKind.u32.wrap (IntKind.u32.wrap (IntKind.u32.wrap (IntKind.u32.wrap (b0.toNat : Int) + shlI .u32 (IntKind.u32.wrap (b1.toNat : Int)) 8) + shlI .u32 (IntKind.u32.wrap (b2.toNat : Int)) 16) + shlI .u32 (IntKind.u32.wrap (b3.toNat : Int)) 24) = u (mdW blk_ (mdg i.toNat)) := by
          rw [u_byte, u_byte, u_byte, u_byte, u_shl _ (by omega) (by omega), u_shl _ (by omega) (by omega), u_shl _ (by omega) (by omega), u_add, u_add, u_add]
          show u (((ub b0 + ub b1 <<< 8) + ub b2 <<< 16) + ub b3 <<< 24) = _
          rw [le_sum]
          unfold mdW
          rw [hblk, blk_getD _ _ _ (by omega), blk_getD _ _ _ (by omega), blk_getD _ _ _ (by omega), blk_getD _ _ _ (by omega), getD_of e0, getD_of e1, getD_of e2, getD_of e3]
        simp only [ew, u_add]
        refine left_spec (by omega) ?_
        refine ⟨⟨rfl, ?_, ?_, ?_⟩, ?_⟩
        · show 0 ≤ w64 (i + 1); omega
        · show w64 (i + 1) ≤ 64; omega
        · show (u z.2.2.2, IntKind.u32.wrap (u z.2.1 + u _), u z.2.1, u z.2.2.1) = u4 (st blk_ x (w64 (i + 1)).toNat)
          rw [hw, show (i + 1).toNat = i.toNat + 1 by omega, st_succ, ← hz, u_add]
          unfold mdStep u4
          have ea : ∀ f p q r : W, f + p + q + r = f + (p + q + r) := fun f p q r => by rw [BitVec.add_assoc f p q, BitVec.add_assoc f]
          rw [ea]
        · show (64 - w64 (i + 1)).toNat < (64 - i).toNat; omega
      · intro J hJ
        show cnd (w64 (i.tdiv 16) == 0) (J (orI .u32 (andI .u32 (u z.2.1) (u z.2.2.1)) (andI .u32 (xorI .u32 IntKind.u32.max (u z.2.1)) (u z.2.2.2)), i) h6) (cnd (w64 (i.tdiv 16) == 1) (J (orI .u32 (andI .u32 (u z.2.2.2) (u z.2.1)) (andI .u32 (xorI .u32 IntKind.u32.max (u z.2.2.2)) (u z.2.2.1)), (w64 (w64 (5 * i) + 1)).tmod 16) h6)
          (cnd (w64 (i.tdiv 16) == 2) (J (xorI .u32 (xorI .u32 (u z.2.1) (u z.2.2.1)) (u z.2.2.2), (w64 (w64 (3 * i) + 5)).tmod 16) h6) (J (xorI .u32 (u z.2.2.1) (orI .u32 (u z.2.1) (xorI .u32 IntKind.u32.max (u z.2.2.2))), (w64 (7 * i)).tmod 16) h6)))
        simp only [u_not, u_and, u_or, u_xor, div16 p1 hi]
        have t5 : (w64 (w64 (5 * i) + 1)).tmod 16 = (5 * i + 1) % 16 := by rw [w64_id (x := 5 * i) (by omega) (by omega), w64_id (by omega) (by omega), Int.tmod_eq_emod_of_nonneg (by omega)]
        have t3 : (w64 (w64 (3 * i) + 5)).tmod 16 = (3 * i + 5) % 16 := by rw [w64_id (x := 3 * i) (by omega) (by omega), w64_id (by omega) (by omega), Int.tmod_eq_emod_of_nonneg (by omega)]
        have t7 : (w64 (7 * i)).tmod 16 = 7 * i % 16 := by rw [w64_id (x := 7 * i) (by omega) (by omega), Int.tmod_eq_emod_of_nonneg (by omega)]
        rw [t5, t3, t7]
        refine cnd_of (fun hc => ?_) (fun hc => ?_)
        · simp only [beq_iff_eq] at hc
          refine hJ _ _ ⟨rfl, ?_, ?_⟩
          · unfold mdf; rw [if_pos (by omega)]
          · unfold mdg; rw [if_pos (by omega)]; show i = _; omega
        · replace hc : ¬ (i / 16 = 0) := fun e => by rw [e] at hc; cases hc
          refine cnd_of (fun hc2 => ?_) (fun hc2 => ?_)
          · simp only [beq_iff_eq] at hc2
            refine hJ _ _ ⟨rfl, ?_, ?_⟩
            · unfold mdf; rw [if_neg (by omega), if_pos (by omega)]
            · unfold mdg; rw [if_neg (by omega), if_pos (by omega)]; show (5 * i + 1) % 16 = _; omega
          · replace hc2 : ¬ (i / 16 = 1) := fun e => by rw [e] at hc2; cases hc2
            refine cnd_of (fun hc3 => ?_) (fun hc3 => ?_)
            · simp only [beq_iff_eq] at hc3
              refine hJ _ _ ⟨rfl, ?_, ?_⟩
              · unfold mdf; rw [if_neg (by omega), if_neg (by omega), if_pos (by omega)]
              · unfold mdg; rw [if_neg (by omega), if_neg (by omega), if_pos (by omega)]; show (3 * i + 5) % 16 = _; omega
            · replace hc3 : ¬ (i / 16 = 2) := fun e => by rw [e] at hc3; cases hc3
              refine hJ _ _ ⟨rfl, ?_, ?_⟩
              · unfold mdf; rw [if_neg (by omega), if_neg (by omega), if_neg (by omega)]
              · unfold mdg; rw [if_neg (by omega), if_neg (by omega), if_neg (by omega)]; show 7 * i % 16 = _; omega
    · have hi64 : i = 64 := by
        have : ¬ i < 64 := hi
        omega
      subst hi64
      have up : ∀ {hh : Heap} {o : Nat} {cs : List Value} {n : Int} {y : W} {K : Heap → Prop} {kk : Int}, Row hh h.size cs → kk = (o : Int) → o < 4 → cs.length = 4 → cs[o]? = some (.int .u32 n) → (∀ h', Row h' h.size (cs.set o (.int .u32 (IntKind.u32.wrap (n + u y)))) → Keep (· = h.size) hh h' → K h') →
          idx (some ⟨h.size, 0, none⟩) 4 kk fun a43 => ldI .u32 (a43.add (kk.toNat * 1)) hh fun n44 => idx (some ⟨h.size, 0, none⟩) 4 kk fun a45 => stC (a45.add (kk.toNat * 1)) (.int .u32 (IntKind.u32.wrap (n44 + u y))) hh K := by
        intro hh o cs n y K kk w1 w2 w3 w4 w5 w6
        subst w2
        refine idx_some (by omega) (by omega) ?_
        rw [Int.toNat_natCast, Nat.mul_one, add_mk, Nat.zero_add]
        refine ldI_row w1 w5 (idx_some (by omega) (by omega) ?_)
        rw [add_mk, Nat.zero_add]
        exact stC_row w1 (by omega) rfl (fun h' _ r' k' => w6 h' r' k')
      refine up (o := 0) q3 rfl (by decide) rfl rfl ?_
      intro h7 r7 k7
      refine up (o := 1) r7 rfl (by decide) rfl rfl ?_
      intro h8 r8 k8
      refine up (o := 2) r8 rfl (by decide) rfl rfl ?_
      intro h9 r9 k9
      refine up (o := 3) r9 rfl (by decide) rfl rfl ?_
      intro h10 r10 k10
      have wn : w64 (((64 * k : Nat) : Int) + 64) = ((64 * (k + 1) : Nat) : Int) := by rw [w64_id (by omega) (by omega)]; omega
      rw [wn]
      refine ⟨⟨k + 1, rfl, by omega, ?_, q4.trans' (((k7.trans' k8).trans' k9).trans' k10)⟩, by omega⟩
      rw [blocksN_succ, ← hx, ← hblk]
      have e : z = st blk_ x 64 := hz
      rw [e] at r10
      simp only [u_add] at r10
      exact r10
  · have hkk : k = M.length / 64 := by omega
    subst hkk
    obtain ⟨S, hS⟩ : ∃ S, S = md5St bs := ⟨_, rfl⟩
    rw [hM, sum_pad] at q3
    have q3' : Row h5 h.size (c4 S) := by rw [hS]; exact q3
    let wd : Nat → W := fun j => [S.1, S.2.1, S.2.2.1, S.2.2.2].getD j 0
    refine LoopT.intro (fun (t : Sl × Int) h' => 0 ≤ t.2 ∧ t.2 ≤ 4 ∧ t.1.len = 4 * t.2.toNat ∧ Bl h' t.1.a t.1.len t.1.cap ((List.range t.2.toNat).flatMap fun j => le4 (wd j)) ∧ (∀ b, blk t.1.a b → h5.size ≤ b) ∧ Keep (fun y => h5.size ≤ y) h5 h') (fun t _ => (4 - t.2).toNat)
      ⟨by simp, by simp, by simp, SlR.nil _ _, (fun b hb' => by obtain ⟨x, hx, _⟩ := hb'; cases hx), .refl _ _⟩ ?_
    rintro ⟨o, i⟩ h12 ⟨p1, p2, p3, p4, p5, p6⟩
    replace p1 : 0 ≤ i := p1
    replace p2 : i ≤ 4 := p2
    replace p3 : o.len = 4 * i.toNat := p3
    replace p4 : Bl h12 o.a o.len o.cap ((List.range i.toNat).flatMap fun j => le4 (wd j)) := p4
    replace p5 : ∀ b, blk o.a b → h5.size ≤ b := p5
    refine cnd_dec (fun hi => ?_) (fun hi => ?_)
    · replace hi : i < 4 := hi
      have r12 : Row h12 h.size (c4 S) := p6.row q3' (fun e => by
        have e' : h5.size ≤ h.size := e
        have := q3'.lt
        omega)
      have rd : cellH h12 ((⟨h.size, 0, none⟩ : Addr).add (i.toNat * 1)) = some (.int .u32 (u (wd i.toNat))) := by
        rw [add_mk, Nat.zero_add, Nat.mul_one, r12.cells]
        obtain ⟨j, hj⟩ : ∃ j, j = i.toNat := ⟨_, rfl⟩
        rw [← hj]
        have hj4 : j < 4 := by omega
        match j, hj4 with
        | 0, _ => rfl
        | 1, _ => rfl
        | 2, _ => rfl
        | 3, _ => rfl
      refine idx_some p1 hi (ldI_at rd (idx_some p1 hi (ldI_at rd (idx_some p1 hi (ldI_at rd (idx_some p1 hi (ldI_at rd ?_)))))))
      refine newB_row ?_
      intro h13 s13 r13 k13
      refine ldRow_row r13 (by simp) ?_
      have p4' : Bl h13 o.a o.len o.cap _ := SlR.keep p4 k13 (fun _ _ h => h)
      refine p4'.push (new := le4 (wd i.toNat)) (by show o.len + 4 ≤ _; omega) rfl ?_ ?_
      · simp only [le4, List.map_cons, List.map_nil, u_shr (wd i.toNat) (n := 8) (by decide) (by decide), u_shr (wd i.toNat) (n := 16) (by decide) (by decide), u_shr (wd i.toNat) (n := 24) (by decide) (by decide), u_low]
        rfl
      · intro a' c' h14 w1 w2 w3
        show (0 ≤ w64 (i + 1) ∧ w64 (i + 1) ≤ 4 ∧ o.len + 4 = 4 * (w64 (i + 1)).toNat ∧ Bl h14 a' (o.len + 4) c' ((List.range (w64 (i + 1)).toNat).flatMap fun j => le4 (wd j)) ∧ (∀ b, blk a' b → h5.size ≤ b) ∧ Keep (fun y => h5.size ≤ y) h5 h14) ∧ (4 - w64 (i + 1)).toNat < (4 - i).toNat
        rw [w64_id (x := i + 1) (by omega) (by omega), show (i + 1).toNat = i.toNat + 1 by omega, List.range_succ, List.flatMap_append]
        have := p6.size
        refine ⟨⟨by omega, by omega, by omega, by simpa using w1, fun b hb' => ?_, (p6.trans k13 (fun _ _ h => h.elim)).trans w2 (fun y _ hy => p5 y hy)⟩, by omega⟩
        rcases w3 b hb' with hh | hh
        · exact p5 b hh
        · omega
    · have hi4 : i = 4 := by
        have : ¬ i < 4 := hi
        omega
      subst hi4
      have z5 := q4.size
      have kk := (k04.mono (T := fun y => h.size ≤ y) (fun _ _ h => h.elim)).trans' ((q4.mono (T := fun y => h.size ≤ y) (fun y _ e => by
        have e' : y = h.size := e
        show h.size ≤ y
        omega)).trans p6 (fun y _ hy => by
        have hy' : h5.size ≤ y := hy
        have := k04.size
        show h.size ≤ y
        omega))
      refine hk o h12 ?_ ⟨kk.size, fun b hb' _ => kk.same b hb' (by omega)⟩
      have e : md5F bs = (List.range (4 : Int).toNat).flatMap fun j => le4 (wd j) := by
        unfold md5F
        rw [← hS]
        rfl
      rw [e]
      exact p4

end Ref2
end Go.Proofs.Ytecfcodildjnnaa
