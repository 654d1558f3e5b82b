/- The document's SHA-256 and HMAC, and the laws of the sums. -/
import Derived.Test.YtecfcodildjnnaaPSumsB
namespace Go.Proofs.Ytecfcodildjnnaa
open Go D
set_option linter.unusedVariables false
set_option linter.unusedSimpArgs false
namespace Ref2
open Hash

/-- words that are held -/
def Wl (h : Heap) (a : Option Addr) (l c : Nat) (ws : List W) : Prop := SlR h 1 a l c (ws.map fun w => .int .u32 (u w))

theorem wpush {h0 h : Heap} {s : Sl} {ws : List W} {w : W} {v : Int} {K : Option Addr → Nat → Heap → Prop} (hs : Wl h s.a s.len s.cap ws) (hnew : ∀ b, blk s.a b → h0.size ≤ b) (hk0 : Keep (fun y => h0.size ≤ y) h0 h) (hl : s.len ≤ 1000000) (hv : v = u w)
    (hk : ∀ a c h', Wl h' a (s.len + 1) c (ws ++ [w]) → (∀ b, blk a b → h0.size ≤ b) → Keep (fun y => h0.size ≤ y) h0 h' → K a c h') :
    newB [.int .u32 v] 25 h fun a12 h13 => ldRow (1 * 1) a12 h13 fun cs17 => app [.int .u32 0] 25 1 4 s.a s.len s.cap cs17 1 h13 fun o14 c15 h16 => K o14 c15 h16 := by
  refine newB_row ?_
  intro h2 s2 r2 k2
  refine ldRow_row r2 (by simp) ?_
  have hs2 : Wl h2 s.a s.len s.cap ws := SlR.keep hs k2 (fun _ _ h => h)
  refine SlR.app hs2 rfl (by simp) (by simp [Value.oneCell']) (by omega) ?_
  intro a' c' h3 q1 q2 q3
  have z := hk0.size
  refine hk a' c' h3 ?_ (fun b hb => ?_) ((hk0.trans k2 (fun _ _ h => h.elim)).trans q2 (fun y _ hy => hnew y hy))
  · unfold Wl
    rw [List.map_append]
    subst hv
    exact q1
  · rcases q3 with ⟨rfl, _⟩ | ⟨rfl, _⟩
    · exact hnew b hb
    · rw [blk_some] at hb
      simp only at hb
      omega

theorem schedule_spec {h : Heap} {a : Option Addr} {c : Nat} {bs : List UInt8} (hb : Rb h a 64 bs) {R : Sl → Heap → Prop} (hk : ∀ s h', s.len = 64 → Wl h' s.a s.len s.cap (shaSched bs 64) → Keep (fun _ => False) h h' → R s h') :
    CallT Try.prog ref2_schedule_no [.slice a 64 c] h [.sc .sl] R := by
  have hcall := ref2_schedule_call (x_0 := ⟨a, 64, c⟩) (R := R) (h := h)
  apply hcall
  unfold ref2_schedule
  have hlen := hb.len
  refine LoopT.intro (fun (t : Sl × Int) h' => 0 ≤ t.2 ∧ t.2 ≤ 16 ∧ t.1.len = t.2.toNat ∧ Wl h' t.1.a t.1.len t.1.cap (shaSched bs t.2.toNat) ∧ (∀ b, blk t.1.a b → h.size ≤ b) ∧ Keep (fun y => h.size ≤ y) h h') (fun t _ => (16 - t.2).toNat)
    ⟨by simp, by simp, by simp, SlR.nil _ _, (fun b hb' => by obtain ⟨x, hx, _⟩ := hb'; cases hx), .refl _ _⟩ ?_
  rintro ⟨s, i⟩ h1 ⟨p1, p2, p3, p4, p5, p6⟩
  replace p1 : 0 ≤ i := p1
  replace p2 : i ≤ 16 := p2
  replace p3 : s.len = i.toNat := p3
  replace p4 : Wl h1 s.a s.len s.cap (shaSched bs i.toNat) := p4
  replace p5 : ∀ b, blk s.a b → h.size ≤ b := p5
  refine cnd_dec (fun hi => ?_) (fun hi => ?_)
  · replace hi : i < 16 := hi
    have hw : w64 (i + 1) = i + 1 := w64_id (by omega) (by omega)
    have w0 : w64 (4 * i) = 4 * i := w64_id (by omega) (by omega)
    have w1 : w64 (4 * i + 1) = 4 * i + 1 := w64_id (by omega) (by omega)
    have w2 : w64 (4 * i + 2) = 4 * i + 2 := w64_id (by omega) (by omega)
    have w3 : w64 (4 * i + 3) = 4 * i + 3 := w64_id (by omega) (by omega)
    simp only [w0, w1, w2, w3]
    have hb1 : Rb h1 a 64 bs := hb.keep p6 (fun hl b hb' hge => by have := hb.lt hl hb'; have hge' : h.size ≤ b := hge; omega)
    refine hb1.at (by omega) (by show 4 * i < ((64 : Nat) : Int); omega) ?_
    intro b0 e0
    refine hb1.at (by omega) (by show 4 * i + 1 < ((64 : Nat) : Int); omega) ?_
    intro b1 e1
    refine hb1.at (by omega) (by show 4 * i + 2 < ((64 : Nat) : Int); omega) ?_
    intro b2 e2
    refine hb1.at (by omega) (by show 4 * i + 3 < ((64 : Nat) : Int); omega) ?_
    intro b3 e3
    have slen := shaSched_length bs i.toNat
    refine wpush (w := be4 bs i.toNat) p4 p5 p6 (by omega) ?_ ?_
    · rw [u_byte, u_byte, u_byte, u_byte, u_shl _ (by omega) (by omega), u_shl _ (by omega) (by omega), u_shl _ (by omega) (by omega), u_add, u_add, u_add]
      show u (((ub b0 <<< 24 + ub b1 <<< 16) + ub b2 <<< 8) + ub b3) = _
      rw [be_sum]
      unfold be4
      rw [getD_of (x := b0) (by rw [← e0]; congr 1; omega), getD_of (x := b1) (by rw [← e1]; congr 1; omega), getD_of (x := b2) (by rw [← e2]; congr 1; omega), getD_of (x := b3) (by rw [← e3]; congr 1; omega)]
    · intro a' c' h2 v1 v2 v3
      show (0 ≤ w64 (i + 1) ∧ w64 (i + 1) ≤ 16 ∧ s.len + 1 = (w64 (i + 1)).toNat ∧ Wl h2 a' (s.len + 1) c' (shaSched bs (w64 (i + 1)).toNat) ∧ (∀ b, blk a' b → h.size ≤ b) ∧ Keep (fun y => h.size ≤ y) h h2) ∧ (16 - w64 (i + 1)).toNat < (16 - i).toNat
      rw [hw, show (i + 1).toNat = i.toNat + 1 by omega]
      refine ⟨⟨by omega, by omega, by omega, ?_, v2, v3⟩, by omega⟩
      show Wl h2 a' (s.len + 1) c' (shaSched bs i.toNat ++ [if i.toNat < 16 then _ else _])
      rw [if_pos (by omega)]
      exact v1
  · have hi16 : i = 16 := by
      have : ¬ i < 16 := hi
      omega
    subst hi16
    refine LoopT.intro (fun (t : Sl × Int) h' => 16 ≤ t.2 ∧ t.2 ≤ 64 ∧ t.1.len = t.2.toNat ∧ Wl h' t.1.a t.1.len t.1.cap (shaSched bs t.2.toNat) ∧ (∀ b, blk t.1.a b → h.size ≤ b) ∧ Keep (fun y => h.size ≤ y) h h') (fun t _ => (64 - t.2).toNat)
      ⟨by simp, by simp, p3, p4, p5, p6⟩ ?_
    rintro ⟨s, i⟩ h1 ⟨p1, p2, p3, p4, p5, p6⟩
    replace p1 : 16 ≤ i := p1
    replace p2 : i ≤ 64 := p2
    replace p3 : s.len = i.toNat := p3
    replace p4 : Wl h1 s.a s.len s.cap (shaSched bs i.toNat) := p4
    replace p5 : ∀ b, blk s.a b → h.size ≤ b := p5
    refine cnd_dec (fun hi => ?_) (fun hi => ?_)
    · replace hi : i < 64 := hi
      have hw : w64 (i + 1) = i + 1 := w64_id (by omega) (by omega)
      have w15 : w64 (i - 15) = i - 15 := w64_id (by omega) (by omega)
      have w2 : w64 (i - 2) = i - 2 := w64_id (by omega) (by omega)
      have w16 : w64 (i - 16) = i - 16 := w64_id (by omega) (by omega)
      have w7 : w64 (i - 7) = i - 7 := w64_id (by omega) (by omega)
      simp only [w15, w2, w16, w7]
      have slen := shaSched_length bs i.toNat
      have old : ∀ j : Int, 0 ≤ j → j < i → ∀ {K : Addr → Prop}, (∀ x : Addr, cellH h1 (x.add (j.toNat * 1)) = some (.int .u32 (u ((shaSched bs i.toNat).getD j.toNat 0))) → K x) → idx s.a s.len j K := by
        intro j j0 j1 K hK
        refine SlR.idx p4 j0 (by omega) fun x hx hsp => hK x ?_
        unfold Wl at p4
        rw [hx] at p4
        rw [Nat.mul_one, SlR.cell p4 (by omega), List.getElem?_map, List.getElem?_eq_getElem (by omega), List.getD_eq_getElem?_getD, List.getElem?_eq_getElem (by omega)]
        rfl
      refine old _ (by omega) (by omega) fun x1 l1 => ldI_at l1 ?_
      refine old _ (by omega) (by omega) fun x2 l2 => ldI_at l2 ?_
      refine old _ (by omega) (by omega) fun x3 l3 => ldI_at l3 ?_
      refine left_spec (n := 25) (by omega) ⟨ldI_at l3 rfl, ldI_at l2 rfl, ?_⟩
      refine left_spec (n := 14) (by omega) ⟨ldI_at l3 rfl, ?_⟩
      refine old _ (by omega) (by omega) fun x4 l4 => ldI_at l4 ?_
      refine old _ (by omega) (by omega) fun x5 l5 => ldI_at l5 ?_
      refine old _ (by omega) (by omega) fun x6 l6 => ldI_at l6 ?_
      refine left_spec (n := 15) (by omega) ⟨ldI_at l6 rfl, ldI_at l5 rfl, ?_⟩
      refine left_spec (n := 13) (by omega) ⟨ldI_at l6 rfl, ?_⟩
      refine old _ (by omega) (by omega) fun x7 l7 => ldI_at l7 ?_
      refine old _ (by omega) (by omega) fun x8 l8 => ldI_at l8 ?_
      refine wpush (w := (shaSched bs i.toNat).getD (i.toNat - 16) 0 + sg0 ((shaSched bs i.toNat).getD (i.toNat - 15) 0) + (shaSched bs i.toNat).getD (i.toNat - 7) 0 + sg1 ((shaSched bs i.toNat).getD (i.toNat - 2) 0)) p4 p5 p6 (by omega) ?_ ?_
      · rw [u_shr _ (by omega) (by omega), u_shr _ (by omega) (by omega)]
        simp only [u_xor, u_add]
        rw [show i.toNat - 16 = (i - 16).toNat by omega, show i.toNat - 15 = (i - 15).toNat by omega, show i.toNat - 7 = (i - 7).toNat by omega, show i.toNat - 2 = (i - 2).toNat by omega]
        rfl
      · intro a' c' h2 v1 v2 v3
        show (16 ≤ w64 (i + 1) ∧ w64 (i + 1) ≤ 64 ∧ s.len + 1 = (w64 (i + 1)).toNat ∧ Wl h2 a' (s.len + 1) c' (shaSched bs (w64 (i + 1)).toNat) ∧ (∀ b, blk a' b → h.size ≤ b) ∧ Keep (fun y => h.size ≤ y) h h2) ∧ (64 - w64 (i + 1)).toNat < (64 - i).toNat
        rw [hw, show (i + 1).toNat = i.toNat + 1 by omega]
        refine ⟨⟨by omega, by omega, by omega, ?_, v2, v3⟩, by omega⟩
        show Wl h2 a' (s.len + 1) c' (shaSched bs i.toNat ++ [if i.toNat < 16 then _ else _])
        rw [if_neg (by omega)]
        exact v1
    · have hi64 : i = 64 := by
        have : ¬ i < 64 := hi
        omega
      subst hi64
      exact hk s h1 p3 p4 ⟨p6.size, fun b hb' _ => p6.same b hb' (by omega)⟩

theorem sha256_spec {h : Heap} {a : Option Addr} {l c : Nat} {bs : List UInt8} (hb : Rb h a l bs) (hl : l ≤ 140737488352000) {R : Sl → Heap → Prop}
    (hk : ∀ s h', Bl h' s.a s.len s.cap (sha256F bs) → Keep (fun _ => False) h h' → R s h') :
    CallT Try.prog ref2_SHA256_no [.slice a l c] h [.sc .sl] R := by
  have hcall := ref2_SHA256_call (x_0 := ⟨a, l, c⟩) (R := R) (h := h)
  apply hcall
  unfold ref2_SHA256
  have hlen := hb.len
  refine newB_row ?_
  intro h1 s1 r1 k1
  have r1' : Row h1 h.size (c8 sha0) := r1
  refine roots_spec ?_
  intro h2 ws2 k2 s2
  have k02 : Keep (fun _ => False) h h2 := k1.trans' k2
  refine padded_spec (hb.keep k02 (fun _ _ _ h => h)) hl ?_
  intro t h4 bt bc bn k4
  obtain ⟨M, hM⟩ : ∃ M, M = padL bs true := ⟨_, rfl⟩
  rw [← hM] at bt
  obtain ⟨f1, f2⟩ := padL_length bs true
  rw [← hM] at f1 f2
  have tl := bt.len
  have r4 : Row h4 h.size (c8 sha0) := k4.row (k2.row r1' (fun h => h)) (fun h => h)
  have ws4 : Ws h4 (some ⟨h1.size, 0, none⟩) 64 rootL := Rv.keep ws2 k4 (fun _ _ _ h => h)
  have k04 := k02.trans' k4
  have hsz := r4.lt
  refine LoopT.intro (fun at_ h' => ∃ k : Nat, at_ = ((64 * k : Nat) : Int) ∧ 64 * k ≤ t.len ∧ Row h' h.size (c8 (blocksN shaBlk k sha0 M)) ∧ Keep (fun y => y = h.size ∨ h4.size ≤ y) h4 h') (fun at_ _ => (t.len - at_).toNat) ⟨0, rfl, by omega, r4, .refl _ _⟩ ?_
  rintro at_ h5 ⟨k, rfl, q2, q3, q4⟩
  have ws5 : Ws h5 (some ⟨h1.size, 0, none⟩) 64 rootL := Rv.keep ws4 q4 (fun _ y hy e => by
    rw [blk_some] at hy
    simp only at hy
    have := k4.size
    rcases e with e | e <;> omega)
  have bt5 : Bl h5 t.a t.len t.cap M := SlR.keep bt q4 (fun y hy e => by
    have := bn y hy
    have := SlR.blk_lt bt hy
    rcases e with e | e <;> omega)
  have z4 := q4.size
  refine cnd_dec (fun hin => ?_) (fun hin => ?_)
  · have hkl : 64 * k + 64 ≤ t.len := by omega
    have wn : w64 (((64 * k : Nat) : Int) + 64) = ((64 * (k + 1) : Nat) : Int) := by rw [w64_id (by omega) (by omega)]; omega
    simp only [wn]
    refine bt5.rb.sub (by omega) (by omega) (by omega) (by omega) (by omega) ?_
    intro a6 b6 _
    obtain ⟨blk_, hblk⟩ : ∃ b, b = (M.drop (64 * k)).take 64 := ⟨_, rfl⟩
    have e64 : (((64 * (k + 1) : Nat) : Int) - ((64 * k : Nat) : Int)).toNat = 64 := by omega
    rw [e64, Int.toNat_natCast, ← hblk] at b6
    rw [e64]
    refine schedule_spec b6 ?_
    intro ss h6 sl6 w6 k6
    have q3' := k6.row q3 (fun h => h)
    obtain ⟨x, hx⟩ : ∃ x, x = blocksN shaBlk k sha0 M := ⟨_, rfl⟩
    rw [← hx] at q3'
    refine idx_some (by decide) (of_decide_eq_true rfl) (ldI_row (o := 0) q3' rfl (idx_some (by decide) (of_decide_eq_true rfl) (ldI_row (o := 1) q3' rfl (idx_some (by decide) (of_decide_eq_true rfl) (ldI_row (o := 2) q3' rfl (idx_some (by decide) (of_decide_eq_true rfl) (ldI_row (o := 3) q3' rfl (idx_some (by decide) (of_decide_eq_true rfl) (ldI_row (o := 4) q3' rfl (idx_some (by decide) (of_decide_eq_true rfl) (ldI_row (o := 5) q3' rfl (idx_some (by decide) (of_decide_eq_true rfl) (ldI_row (o := 6) q3' rfl (idx_some (by decide) (of_decide_eq_true rfl) (ldI_row (o := 7) q3' rfl ?_)))))))))))))))
    refine newB_row ?_
    intro h7 s7 r7 k7
    have r7' : Row h7 h6.size (c8 x) := r7
    have z6 := k6.size
    have k57 := k6.trans' k7
    have q3'' : Row h7 h.size (c8 x) := k7.row q3' (fun h => h)
    have w7 : Wl h7 ss.a ss.len ss.cap (shaSched blk_ 64) := SlR.keep w6 k7 (fun _ _ h => h)
    have ro7 : Ws h7 (some ⟨h1.size, 0, none⟩) 64 rootL := Rv.keep ws5 k57 (fun _ _ _ h => h)
    obtain ⟨ws, hws⟩ : ∃ ws, ws = shaSched blk_ 64 := ⟨_, rfl⟩
    rw [← hws] at w7
    refine LoopT.intro (fun (t : Sl × Int) h' => 0 ≤ t.2 ∧ t.2 ≤ 64 ∧ (∃ b, t.1.a = some ⟨b, 0, none⟩ ∧ h6.size ≤ b ∧ t.1.len = 8 ∧ Row h' b (c8 (shaR ws x t.2.toNat))) ∧ Keep (fun _ => False) h7 h') (fun t _ => (64 - t.2).toNat) ⟨by simp, by simp, ⟨h6.size, rfl, Nat.le_refl _, rfl, r7'⟩, .refl _ _⟩ ?_
    rintro ⟨⟨va, vl, vc⟩, i⟩ h8 ⟨p1, p2, ⟨b, p3, p4, p5, p6⟩, p7⟩
    replace p1 : 0 ≤ i := p1
    replace p2 : i ≤ 64 := p2
    replace p3 : va = some ⟨b, 0, none⟩ := p3
    replace p5 : vl = 8 := p5
    replace p6 : Row h8 b (c8 (shaR ws x i.toNat)) := p6
    subst p3 p5
    obtain ⟨z, hz⟩ : ∃ z, z = shaR ws x i.toNat := ⟨_, rfl⟩
    rw [← hz] at p6
    have w8 : Ws h8 ss.a ss.len ws := Rv.keep (SlR.rv w7) p7 (fun _ _ _ h => h)
    have ro8 : Ws h8 (some ⟨h1.size, 0, none⟩) 64 rootL := Rv.keep ro7 p7 (fun _ _ _ h => h)
    refine cnd_dec (fun hi => ?_) (fun hi => ?_)
    · replace hi : i < 64 := hi
      have hw : w64 (i + 1) = i + 1 := w64_id (by omega) (by omega)
      have hn1 : (i + 1).toNat = i.toNat + 1 := by omega
      refine idx_some (by decide) (of_decide_eq_true rfl) (ldI_row (o := 4) p6 rfl (idx_some (by decide) (of_decide_eq_true rfl) (ldI_row (o := 4) p6 rfl (idx_some (by decide) (of_decide_eq_true rfl) (ldI_row (o := 4) p6 rfl ?_)))))
      refine left_spec (n := 26) (by omega) ⟨ldI_row (o := 4) p6 rfl rfl, ldI_row (o := 4) p6 rfl rfl, ?_⟩
      refine left_spec (n := 21) (by omega) ⟨ldI_row (o := 4) p6 rfl rfl, ?_⟩
      refine left_spec (n := 7) (by omega) ?_
      refine idx_some (by decide) (of_decide_eq_true rfl) (ldI_row (o := 4) p6 rfl (idx_some (by decide) (of_decide_eq_true rfl) (ldI_row (o := 5) p6 rfl (idx_some (by decide) (of_decide_eq_true rfl) (ldI_row (o := 4) p6 rfl (idx_some (by decide) (of_decide_eq_true rfl) (ldI_row (o := 6) p6 rfl (idx_some (by decide) (of_decide_eq_true rfl) (ldI_row (o := 7) p6 rfl ?_)))))))))
      refine ro8.at p1 hi (w8.at p1 (by rw [sl6]; exact hi) ?_)
      refine idx_some (by decide) (of_decide_eq_true rfl) (ldI_row (o := 0) p6 rfl (idx_some (by decide) (of_decide_eq_true rfl) (ldI_row (o := 0) p6 rfl (idx_some (by decide) (of_decide_eq_true rfl) (ldI_row (o := 0) p6 rfl ?_)))))
      refine left_spec (n := 30) (by omega) ⟨ldI_row (o := 0) p6 rfl rfl, ldI_row (o := 0) p6 rfl rfl, ?_⟩
      refine left_spec (n := 19) (by omega) ⟨ldI_row (o := 0) p6 rfl rfl, ?_⟩
      refine left_spec (n := 10) (by omega) ?_
      refine idx_some (by decide) (of_decide_eq_true rfl) (ldI_row (o := 0) p6 rfl (idx_some (by decide) (of_decide_eq_true rfl) (ldI_row (o := 1) p6 rfl (idx_some (by decide) (of_decide_eq_true rfl) (ldI_row (o := 0) p6 rfl (idx_some (by decide) (of_decide_eq_true rfl) (ldI_row (o := 2) p6 rfl (idx_some (by decide) (of_decide_eq_true rfl) (ldI_row (o := 1) p6 rfl (idx_some (by decide) (of_decide_eq_true rfl) (ldI_row (o := 2) p6 rfl (idx_some (by decide) (of_decide_eq_true rfl) (ldI_row (o := 0) p6 rfl (idx_some (by decide) (of_decide_eq_true rfl) (ldI_row (o := 1) p6 rfl (idx_some (by decide) (of_decide_eq_true rfl) (ldI_row (o := 2) p6 rfl (idx_some (by decide) (of_decide_eq_true rfl) (ldI_row (o := 3) p6 rfl (idx_some (by decide) (of_decide_eq_true rfl) (ldI_row (o := 4) p6 rfl (idx_some (by decide) (of_decide_eq_true rfl) (ldI_row (o := 5) p6 rfl (idx_some (by decide) (of_decide_eq_true rfl) (ldI_row (o := 6) p6 rfl ?_)))))))))))))))))))))))))
      simp only [u_not, u_and, u_xor, u_add]
      refine newB_row ?_
      intro h9 s9 r9 k9
      show (0 ≤ w64 (i + 1) ∧ w64 (i + 1) ≤ 64 ∧ (∃ b, some (⟨h8.size, 0, none⟩ : Addr) = some ⟨b, 0, none⟩ ∧ h6.size ≤ b ∧ True ∧ Row h9 b (c8 (shaR ws x (w64 (i + 1)).toNat))) ∧ Keep (fun _ => False) h7 h9) ∧ (64 - w64 (i + 1)).toNat < (64 - i).toNat
      rw [hw, hn1]
      have := p7.size
      refine ⟨⟨by omega, by omega, ⟨h8.size, rfl, by omega, trivial, ?_⟩, p7.trans' k9⟩, by omega⟩
      rw [shaR_succ, ← hz]
      exact r9
    · have hi64 : i = 64 := by
        have : ¬ i < 64 := hi
        omega
      subst hi64
      have q38 : Row h8 h.size (c8 x) := p7.row q3'' (fun h => h)
      refine LoopT.intro (fun i h' => 0 ≤ i ∧ i ≤ 8 ∧ Row h' h.size ((List.range 8).map fun j => .int .u32 (u (if j < i.toNat then (l8 x).getD j 0 + (l8 z).getD j 0 else (l8 x).getD j 0))) ∧ Keep (· = h.size) h8 h') (fun i _ => (8 - i).toNat) ⟨by omega, by omega, q38, .refl _ _⟩ ?_
      rintro i h9 ⟨v1, v2, v3, v4⟩
      refine cnd_dec (fun hi8 => ?_) (fun hi8 => ?_)
      · replace hi8 : i < 8 := hi8
        have pz : Row h9 b (c8 z) := v4.row p6 (fun e => by
          have e' : b = h.size := e
          omega)
        have g1 : cellH h9 ((⟨h.size, 0, none⟩ : Addr).add (i.toNat * 1)) = some (.int .u32 (u ((l8 x).getD i.toNat 0))) := by
          rw [add_mk, Nat.zero_add, Nat.mul_one, v3.cells, List.getElem?_map, List.getElem?_range (by omega)]
          simp only [Option.map_some]
          rw [if_neg (by omega)]
        have g2 : cellH h9 ((⟨b, 0, none⟩ : Addr).add (i.toNat * 1)) = some (.int .u32 (u ((l8 z).getD i.toNat 0))) := by
          have e : c8 z = (l8 z).map fun w => .int .u32 (u w) := rfl
          have hl : (l8 z).length = 8 := rfl
          rw [add_mk, Nat.zero_add, Nat.mul_one, pz.cells, e, List.getElem?_map, List.getElem?_eq_getElem (by omega), List.getD_eq_getElem?_getD, List.getElem?_eq_getElem (by omega)]
          rfl
        refine idx_some v1 hi8 (ldI_at g1 (idx_some v1 hi8 (ldI_at g2 (idx_some v1 hi8 ?_))))
        rw [u_add, add_mk, Nat.zero_add, Nat.mul_one]
        refine stC_row v3 (by simp; omega) rfl ?_
        intro h10 s10 r10 k10
        rw [w64_id (x := i + 1) (by omega) (by omega)]
        refine ⟨⟨by omega, by omega, ?_, v4.trans' k10⟩, by omega⟩
        rw [show (i + 1).toNat = i.toNat + 1 by omega]
        have el : ((List.range 8).map fun j => Value.int .u32 (u (if j < i.toNat then (l8 x).getD j 0 + (l8 z).getD j 0 else (l8 x).getD j 0))).set i.toNat (.int .u32 (u ((l8 x).getD i.toNat 0 + (l8 z).getD i.toNat 0))) = (List.range 8).map fun j => Value.int .u32 (u (if j < i.toNat + 1 then (l8 x).getD j 0 + (l8 z).getD j 0 else (l8 x).getD j 0)) := by
          apply List.ext_getElem?
          intro j
          rw [List.getElem?_set, List.length_map, List.length_range, List.getElem?_map, List.getElem?_map]
          by_cases hj : j < 8
          · rw [List.getElem?_range hj]
            simp only [Option.map_some]
            by_cases hij : i.toNat = j
            · rw [if_pos hij, if_pos (by omega), if_pos (by omega), ← hij]
            · rw [if_neg hij]
              by_cases h6 : j < i.toNat
              · rw [if_pos h6, if_pos (by omega)]
              · rw [if_neg h6, if_neg (by omega)]
          · rw [if_neg (by omega), List.getElem?_eq_none (by simp; omega)]
            simp
        rw [← el]
        exact r10
      · have hi8' : i = 8 := by
          have : ¬ i < 8 := hi8
          omega
        subst hi8'
        have r18 : Row h9 h.size (c8 (add8 x z)) := v3
        refine ⟨⟨k + 1, rfl, by omega, ?_, ?_⟩, by omega⟩
        · rw [blocksN_succ, ← hx, ← hblk]
          have ez : add8 x z = shaBlk x blk_ := by unfold shaBlk; rw [hz, hws]; rfl
          rw [← ez]
          exact r18
        · exact q4.trans (((k57.trans' p7).mono (T := fun y => y = h.size ∨ h4.size ≤ y) (fun _ _ h => h.elim)).trans v4 (fun y _ e => .inl e)) (fun _ _ h => h)
  · have hkk : k = M.length / 64 := by omega
    subst hkk
    obtain ⟨S, hS⟩ : ∃ S, S = shaSt bs := ⟨_, rfl⟩
    rw [hM, sum_pad] at q3
    have q3' : Row h5 h.size (c8 S) := by rw [hS]; exact q3
    have hl8 : (l8 S).length = 8 := rfl
    refine LoopT.intro (fun (t : Sl × Int) h' => 0 ≤ t.2 ∧ t.2 ≤ 8 ∧ t.1.len = 4 * t.2.toNat ∧ Bl h' t.1.a t.1.len t.1.cap (((l8 S).take t.2.toNat).flatMap be4L) ∧ (∀ b, blk t.1.a b → h5.size ≤ b) ∧ Keep (fun y => h5.size ≤ y) h5 h') (fun t _ => (8 - t.2).toNat)
      ⟨by simp, by simp, by simp, SlR.nil _ _, (fun b hb' => by obtain ⟨x, hx, _⟩ := hb'; cases hx), .refl _ _⟩ ?_
    rintro ⟨o, i⟩ h12 ⟨p1, p2, p3, p4, p5, p6⟩
    replace p1 : 0 ≤ i := p1
    replace p2 : i ≤ 8 := p2
    replace p3 : o.len = 4 * i.toNat := p3
    replace p4 : Bl h12 o.a o.len o.cap (((l8 S).take i.toNat).flatMap be4L) := p4
    replace p5 : ∀ b, blk o.a b → h5.size ≤ b := p5
    refine cnd_dec (fun hi => ?_) (fun hi => ?_)
    · replace hi : i < 8 := hi
      have hi8 : i.toNat < (l8 S).length := by omega
      obtain ⟨w, hw⟩ : ∃ w, w = (l8 S)[i.toNat] := ⟨_, rfl⟩
      have r12 : Row h12 h.size (c8 S) := p6.row q3' (fun e => by
        have e' : h5.size ≤ h.size := e
        have := q3'.lt
        omega)
      have rd : cellH h12 ((⟨h.size, 0, none⟩ : Addr).add (i.toNat * 1)) = some (.int .u32 (u w)) := by
        have e : c8 S = (l8 S).map fun w => .int .u32 (u w) := rfl
        rw [add_mk, Nat.zero_add, Nat.mul_one, r12.cells, e, List.getElem?_map, List.getElem?_eq_getElem hi8, hw]
        rfl
      refine idx_some p1 hi (ldI_at rd (idx_some p1 hi (ldI_at rd (idx_some p1 hi (ldI_at rd (idx_some p1 hi (ldI_at rd ?_)))))))
      refine newB_row ?_
      intro h13 s13 r13 k13
      refine ldRow_row r13 (by simp) ?_
      have p4' : Bl h13 o.a o.len o.cap _ := SlR.keep p4 k13 (fun _ _ h => h)
      refine p4'.push (new := be4L w) (by show o.len + 4 ≤ _; omega) rfl ?_ ?_
      · simp only [be4L, List.map_cons, List.map_nil, u_shr w (n := 8) (by decide) (by decide), u_shr w (n := 16) (by decide) (by decide), u_shr w (n := 24) (by decide) (by decide), u_low]
        rfl
      · intro a' c' h14 w1 w2 w3
        show (0 ≤ w64 (i + 1) ∧ w64 (i + 1) ≤ 8 ∧ o.len + 4 = 4 * (w64 (i + 1)).toNat ∧ Bl h14 a' (o.len + 4) c' (((l8 S).take (w64 (i + 1)).toNat).flatMap be4L) ∧ (∀ b, blk a' b → h5.size ≤ b) ∧ Keep (fun y => h5.size ≤ y) h5 h14) ∧ (8 - w64 (i + 1)).toNat < (8 - i).toNat
        rw [w64_id (x := i + 1) (by omega) (by omega), show (i + 1).toNat = i.toNat + 1 by omega, List.take_add_one, List.getElem?_eq_getElem hi8, List.flatMap_append, ← hw]
        have := p6.size
        refine ⟨⟨by omega, by omega, by omega, by simpa using w1, fun b hb' => ?_, (p6.trans k13 (fun _ _ h => h.elim)).trans w2 (fun y _ hy => p5 y hy)⟩, by omega⟩
        rcases w3 b hb' with hh | hh
        · exact p5 b hh
        · omega
    · have hi4 : i = 8 := by
        have : ¬ i < 8 := hi
        omega
      subst hi4
      have kk := (k04.mono (T := fun y => h.size ≤ y) (fun _ _ h => h.elim)).trans' ((q4.mono (T := fun y => h.size ≤ y) (fun y _ e => by
        have := k04.size
        show h.size ≤ y
        rcases e with e | e <;> omega)).trans p6 (fun y _ hy => by
        have hy' : h5.size ≤ y := hy
        have := k04.size
        show h.size ≤ y
        omega))
      refine hk o h12 ?_ ⟨kk.size, fun b hb' _ => kk.same b hb' (by omega)⟩
      have e : sha256F bs = ((l8 S).take (8 : Int).toNat).flatMap be4L := by
        unfold sha256F
        rw [← hS]
        rfl
      rw [e]
      exact p4

theorem hashSums_spec {h : Heap} {x0 : Sl} {bs : List UInt8} (hb : Rb h x0.a x0.len bs) (hc : x0.len ≤ x0.cap) (hl : x0.len ≤ 140737488351500) {R : Bool → Heap → Prop} (hR : ∀ h', Keep (fun _ => False) h h' → R true h') :
    CallT Try.prog law2_HashSums_no [.slice x0.a x0.len x0.cap] h [.sc .bool] R := by
  apply law2_HashSums_call
  unfold law2_HashSums
  refine withJ.inl ?_
  have rk : ∀ {h1 h2 : Heap}, Keep (fun _ => False) h1 h2 → Rb h1 x0.a x0.len bs → Rb h2 x0.a x0.len bs := fun k hb => hb.keep k (fun _ _ _ h => h)
  refine Hash.md5_spec hb hc (by omega) ?_
  intro s1 h1 b1 _ k1
  refine md5_spec (rk k1 hb) (by omega) ?_
  intro s2 h2 b2 k2
  refine same_spec (Rv.keep b1.rb k2 (fun _ _ _ h => h)) b2.rb rfl ?_
  refine cnd_t rfl ?_
  have k02 := k1.trans' k2
  refine Hash.sha256_spec (rk k02 hb) hc (by omega) ?_
  intro s3 h3 b3 _ _ k3
  refine sha256_spec (rk (k02.trans' k3) hb) (by omega) ?_
  intro s4 h4 b4 k4
  refine same_spec (Rv.keep b3.rb k4 (fun _ _ _ h => h)) b4.rb rfl ?_
  refine cnd_t rfl ?_
  have k04 := (k02.trans' k3).trans' k4
  refine Hash.crc_spec (rk k04 hb) (by omega) ?_
  refine crc_spec (rk k04 hb) (by omega) ?_
  refine cnd_t (by simp) ?_
  exact awake_spec fun h' hk' => hR h' (k04.trans' hk')

end Ref2
end Go.Proofs.Ytecfcodildjnnaa
