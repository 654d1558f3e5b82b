/- hash.SHA256: the whole sum. -/
import Derived.Test.YtecfcodildjnnaaPSha
namespace Go.Proofs.Ytecfcodildjnnaa
open Go D
set_option linter.unusedVariables false
set_option linter.unusedSimpArgs false
namespace Hash

def sha0 : W8 := (1779033703#32, 3144134277#32, 1013904242#32, 2773480762#32, 1359893119#32, 2600822924#32, 528734635#32, 1541459225#32)
def be4L (x : W) : List UInt8 := [lowb (x >>> 24), lowb (x >>> 16), lowb (x >>> 8), lowb x]
def shaSt (bs : List UInt8) : W8 := sumSt shaBlk sha0 true bs
def sha256F (bs : List UInt8) : List UInt8 := (l8 (shaSt bs)).flatMap be4L
theorem sha256F_length (bs : List UInt8) : (sha256F bs).length = 32 := by
  simp [sha256F, l8, be4L]

set_option maxRecDepth 10000 in
theorem shaWords_spec {h : Heap} {R : Value → Heap → Prop} (hk : ∀ h', Keep (fun _ => False) h h' → R (.agg (rootL.map fun w => Value.int .u32 (u w)).toArray) h') : CallT Try.prog hash_shaWords_no [] h [.sc .raw] R := by
  apply hash_shaWords_call
  unfold hash_shaWords
  refine newB_row ?_
  intro h1 s1 r1 k1
  refine ⟨rfl, ?_⟩
  refine stRow_row (new := rootL.map fun w => .int .u32 (u w)) r1 (by simp [rootL]) (ws_vals _) ?_
  intro h2 s2 r2 k2
  rw [putL_all (by simp [rootL])] at r2
  refine ldRow_row r2 (by simp [rootL]) ?_
  rw [List.drop_zero, List.take_of_length_le (by simp [rootL])]
  exact hk h2 (k1.trans k2 (fun y hy e => by
    have : y = h.size := e
    omega))

theorem sha_loop {C : Sl → Bool} {Kc : Sl → Heap → Prop} {p ka : Nat} {h : Heap} {s : Sl} {bs : List UInt8} {x : W8} (hb : Rb h s.a s.len bs) (hcap : s.len ≤ s.cap) (hrow : Row h p (c8 x)) (hs : Row h ka (rootL.map fun w => .int .u32 (u w)))
    (hfar : 0 < s.len → ∀ b, blk s.a b → b ≠ p) (hka : ka ≠ p) (hC : ∀ s' : Sl, s'.len ≤ s.len → s'.len % 64 = s.len % 64 → (C s' = true ↔ 64 ≤ s'.len))
    (hk : ∀ s' h', Row h' p (c8 (blocksN shaBlk (bs.length / 64) x bs)) → Keep (· = p) h h' → Kc s' h') :
    LoopT (σ := Sl) (fun X19 s18 h20 => cnd (C s18) (
      ldI .u32 ⟨p, 0, none⟩ h20 fun n0 =>
      ldI .u32 ((⟨p, 0, none⟩ : Addr).add 1) h20 fun n1 =>
      ldI .u32 ((⟨p, 0, none⟩ : Addr).add 2) h20 fun n2 =>
      ldI .u32 ((⟨p, 0, none⟩ : Addr).add 3) h20 fun n3 =>
      ldI .u32 ((⟨p, 0, none⟩ : Addr).add 4) h20 fun n4 =>
      ldI .u32 ((⟨p, 0, none⟩ : Addr).add 5) h20 fun n5 =>
      ldI .u32 ((⟨p, 0, none⟩ : Addr).add 6) h20 fun n6 =>
      ldI .u32 ((⟨p, 0, none⟩ : Addr).add 7) h20 fun n7 =>
      lsl 1 s18.a s18.cap 0 64 (s18.cap : Int) fun o25 l25 c25 =>
      CallT Try.prog hash_shaBlock_no [.agg #[.int .u32 n0, .int .u32 n1, .int .u32 n2, .int .u32 n3, .int .u32 n4, .int .u32 n5, .int .u32 n6, .int .u32 n7], .slice o25 l25 c25, .pointer (some ⟨ka, 0, none⟩)] h20 [.agg [.int .u32, .int .u32, .int .u32, .int .u32, .int .u32, .int .u32, .int .u32, .int .u32]] fun (r26 : (Int × Int × Int × Int × Int × Int × Int × Int)) h27 =>
      stC ⟨p, 0, none⟩ (.int .u32 r26.1) h27 fun h28 =>
      stC ((⟨p, 0, none⟩ : Addr).add 1) (.int .u32 r26.2.1) h28 fun h29 =>
      stC ((⟨p, 0, none⟩ : Addr).add 2) (.int .u32 r26.2.2.1) h29 fun h30 =>
      stC ((⟨p, 0, none⟩ : Addr).add 3) (.int .u32 r26.2.2.2.1) h30 fun h31 =>
      stC ((⟨p, 0, none⟩ : Addr).add 4) (.int .u32 r26.2.2.2.2.1) h31 fun h32 =>
      stC ((⟨p, 0, none⟩ : Addr).add 5) (.int .u32 r26.2.2.2.2.2.1) h32 fun h33 =>
      stC ((⟨p, 0, none⟩ : Addr).add 6) (.int .u32 r26.2.2.2.2.2.2.1) h33 fun h34 =>
      stC ((⟨p, 0, none⟩ : Addr).add 7) (.int .u32 r26.2.2.2.2.2.2.2) h34 fun h35 =>
      lsl 1 s18.a s18.cap 64 (s18.len : Int) (s18.cap : Int) fun o32 l32 c32 =>
      X19 (⟨o32, l32, c32⟩ : Sl) h35) (Kc s18 h20)) s h := by
  have hlen := hb.len
  refine LoopT.intro (fun t h' => ∃ k, 64 * k ≤ bs.length ∧ t.len = bs.length - 64 * k ∧ t.len ≤ t.cap ∧ Rb h' t.a t.len (bs.drop (64 * k)) ∧ Row h' p (c8 (blocksN shaBlk k x bs)) ∧ Keep (· = p) h h' ∧ (0 < t.len → ∀ b, blk t.a b → b ≠ p) ∧ Row h' ka (rootL.map fun w => .int .u32 (u w))) (fun t _ => t.len)
    ⟨0, by omega, by omega, hcap, by simpa using hb, hrow, .refl _ _, hfar, hs⟩ ?_
  rintro t h1 ⟨k, q1, q2, q3, q4, q5, q6, q7, q8⟩
  have hCt := hC t (by omega) (by omega)
  refine cnd_of (fun hc => ?_) (fun hc => ?_)
  · have h64 := hCt.1 hc
    refine ld8 q5 ?_
    refine q4.sub (by omega) (by omega) (by omega) (by omega) (by omega) ?_
    intro a1 w1 w2
    have w1' : Rb h1 a1 64 ((bs.drop (64 * k)).take 64) := w1
    refine shaBlock_spec (x := blocksN shaBlk k x bs) w1' q8 ?_
    intro h2 k2
    refine st8 (k2.row q5 (fun h => h)) rfl ?_
    intro h6 s6 r6 k36
    have k16 : Keep (· = p) h1 h6 := (k2.mono (fun _ _ h => h.elim)).trans' k36
    have q4' : Rb h6 t.a t.len (bs.drop (64 * k)) := q4.keep k16 (fun hl b hb' e => q7 hl b hb' e)
    refine q4'.sub (by omega) (by omega) (by omega) (by omega) (by omega) ?_
    intro a2 v1 v2
    have el : ((t.len : Int) - 64).toNat = t.len - 64 := by omega
    rw [el] at v1 ⊢
    rw [show (64 : Int).toNat = 64 from rfl, List.drop_drop, show 64 * k + 64 = 64 * (k + 1) by omega, List.take_of_length_le (by rw [List.length_drop]; omega)] at v1
    refine ⟨⟨k + 1, by omega, by show t.len - 64 = _; omega, by show t.len - 64 ≤ ((t.cap : Int) - 64).toNat; omega, v1, ?_, q6.trans' k16, ?_, ?_⟩, by show t.len - 64 < t.len; omega⟩
    · rw [blocksN_succ]
      exact r6
    · intro hl b hb'
      exact q7 (by omega) b (v2 b hb')
    · exact k16.row q8 hka
  · have h64 : ¬ 64 ≤ t.len := fun e => by rw [hCt.2 e] at hc; cases hc
    have hkk : k = bs.length / 64 := by omega
    subst hkk
    exact hk t h1 q5 q6

theorem sha256_spec {h : Heap} {a : Option Addr} {l c : Nat} {bs : List UInt8} (hb : Rb h a l bs) (hc : l ≤ c) (hl : l ≤ 140737488352000) {R : Sl → Heap → Prop}
    (hk : ∀ s h', Bl h' s.a s.len s.cap (sha256F bs) → s.len ≤ s.cap → (∀ b, blk s.a b → h.size ≤ b) → Keep (fun _ => False) h h' → R s h') :
    CallT Try.prog hash_SHA256_no [.slice a l c] h [.sc .sl] R := by
  have hcall := hash_SHA256_call (b_0 := ⟨a, l, c⟩) (R := R) (h := h)
  apply hcall
  unfold hash_SHA256
  have hlen := hb.len
  refine newB_row ?_
  intro h1 s1 r1 k1
  refine st8 r1 rfl ?_
  intro h5 s5 r5 k5
  have k05 : Keep (fun _ => False) h h5 := k1.trans k5 (fun y hy e => by
    have : y = h.size := e
    omega)
  have r5' : Row h5 h.size (c8 sha0) := r5
  refine shaWords_spec ?_
  intro h6 k6
  refine newB_row ?_
  intro h6' s6 r6 k6'
  refine ⟨by simp [rootL], ?_⟩
  refine stRow_row (new := rootL.map fun w => .int .u32 (u w)) r6 (by simp [rootL]) (ws_vals _) ?_
  intro h7 s7 ro7 k7
  rw [putL_all (by simp [rootL])] at ro7
  have z6 := k6.size
  have hp := r5'.lt
  have k57 : Keep (fun _ => False) h5 h7 := (k6.trans' k6').trans k7 (fun y hy e => by
    have e' : y = h6.size := e
    omega)
  have k07 := k05.trans' k57
  have r7 := k57.row r5' (fun h => h)
  have z5 := k05.size
  refine filled_spec (hb.keep k07 (fun _ _ _ h => h)) hc hl ?_
  intro t h8 bt1 bt2 bt3 kt
  have hb8 := (hb.keep k07 (fun _ _ _ h => h)).keep kt (fun _ _ _ h => h)
  have r8 := kt.row r7 (fun h => h)
  have ro8 := kt.row ro7 (fun h => h)
  obtain ⟨ft1, ft2, ft3⟩ := fillL_length bs true
  have htl := bt1.len
  refine sha_loop (s := ⟨a, l, c⟩) hb8 hc r8 ro8 (fun h0 b hb' e => by have := hb.lt h0 hb'; omega) (by omega) (fun s' _ _ => by simp only [decide_eq_true_eq]; omega) ?_
  intro _ h9 r9 k9
  have k79 : Keep (· = h.size) h7 h9 := (kt.mono (fun _ _ h => h.elim)).trans' k9
  have bt9 : Bl h9 t.a t.len t.cap _ := SlR.keep bt1 k9 (fun b hb' e => by
    have e' : b = h.size := e
    have := bt3 b hb'
    have := r7.lt
    omega)
  have ro9 := k79.row ro7 (fun e => by
    have e' : h6.size = h.size := e
    omega)
  refine sha_loop (s := t) bt9.rb bt2 r9 ro9 (fun h0 b hb' e => by have := bt3 b hb'; have := r7.lt; omega) (by omega) (fun s' e1 e2 => by
    have : t.len % 64 = 0 := by omega
    simp only [decide_eq_true_eq]
    omega) ?_
  intro _ h10 r10 k10
  refine mkSl_row (by decide) (by decide) (by decide) (by decide) ?_
  intro h11 s11 r11 k11
  have r10' := k11.row r10 (fun h => h)
  refine ld8 r10' ?_
  have k0_10 : Keep (fun y => h.size ≤ y) h h10 := ((k07.mono (fun _ _ h => h.elim)).trans k79 (fun y _ e => by
    have e' : y = h.size := e
    show h.size ≤ y
    omega)).trans k10 (fun y _ e => by
    have e' : y = h.size := e
    show h.size ≤ y
    omega)
  have k0_11 : Keep (fun y => h.size ≤ y) h h11 := k0_10.trans k11 (fun _ _ h => h.elim)
  have z10 := k0_10.size
  have e0 : Bl h11 (some ⟨h10.size, 0, none⟩) 0 32 [] := .inr ⟨h10.size, 0, _, rfl, r11, by simp, by simp [zerosL_one], by simp, by simp⟩
  obtain ⟨S, hS⟩ : ∃ S, S = shaSt bs := ⟨_, rfl⟩
  have hS' : S = blocksN shaBlk ((fillL bs true).length / 64) (blocksN shaBlk (bs.length / 64) sha0 bs) (fillL bs true) := hS
  rw [← hS']
  have hl8 : (l8 S).length = 8 := rfl
  refine LoopT.intro (fun (t : Sl × Int) h' => 0 ≤ t.2 ∧ t.2 ≤ 8 ∧ t.1.len = 4 * t.2.toNat ∧ Bl h' t.1.a t.1.len t.1.cap (((l8 S).take t.2.toNat).flatMap be4L) ∧ (∀ b, blk t.1.a b → h.size ≤ b) ∧ Keep (fun y => h.size ≤ y) h h') (fun t _ => (8 - t.2).toNat)
    ⟨by simp, by simp, by simp, e0, fun b hb' => by rw [blk_some] at hb'; simp only at hb'; omega, k0_11⟩ ?_
  rintro ⟨o, i⟩ h12 ⟨p1, p2, p3, p4, p5, p6⟩
  replace p1 : 0 ≤ i := p1
  replace p2 : i ≤ 8 := p2
  replace p3 : o.len = 4 * i.toNat := p3
  replace p4 : Bl h12 o.a o.len o.cap (((l8 S).take i.toNat).flatMap be4L) := p4
  replace p5 : ∀ b, blk o.a b → h.size ≤ b := p5
  refine cnd_dec (fun hi => ?_) (fun hi => ?_)
  · replace hi : i < 8 := hi
    have hi8 : i.toNat < (l8 S).length := by omega
    obtain ⟨w, hw⟩ : ∃ w, w = (l8 S)[i.toNat] := ⟨_, rfl⟩
    refine inB_of p1 (by show i < ((8 : Nat) : Int); omega) ⟨u w, p1, ?_, ?_⟩
    · show ((l8 S).map fun w => Value.int .u32 (u w))[i.toNat]? = some (.int .u32 (u w))
      rw [List.getElem?_map, List.getElem?_eq_getElem hi8, hw]
      rfl
    · refine newB_row ?_
      intro h13 s13 r13 k13
      refine ldRow_row r13 (by simp) ?_
      have p4' : Bl h13 o.a o.len o.cap _ := SlR.keep p4 k13 (fun _ _ h => h)
      refine p4'.push (new := be4L w) (by omega) rfl ?_ ?_
      · simp only [be4L, List.map_cons, List.map_nil, u_shr w (n := 8) (by decide) (by decide), u_shr w (n := 16) (by decide) (by decide), u_shr w (n := 24) (by decide) (by decide), u_low]
        rfl
      · intro a' c' h14 w1 w2 w3
        show (0 ≤ w64 (i + 1) ∧ w64 (i + 1) ≤ 8 ∧ o.len + 4 = 4 * (w64 (i + 1)).toNat ∧ Bl h14 a' (o.len + 4) c' (((l8 S).take (w64 (i + 1)).toNat).flatMap be4L) ∧ (∀ b, blk a' b → h.size ≤ b) ∧ Keep (fun y => h.size ≤ y) h h14) ∧ (8 - w64 (i + 1)).toNat < (8 - i).toNat
        rw [w64_id (x := i + 1) (by omega) (by omega), show (i + 1).toNat = i.toNat + 1 by omega, List.take_add_one, List.getElem?_eq_getElem hi8, List.flatMap_append, ← hw]
        have := p6.size
        refine ⟨⟨by omega, by omega, by omega, by simpa using w1, fun b hb' => ?_, (p6.trans k13 (fun _ _ h => h.elim)).trans w2 (fun y _ hy => p5 y hy)⟩, by omega⟩
        rcases w3 b hb' with hh | hh
        · exact p5 b hh
        · omega
  · have hi4 : i = 8 := by
      have : ¬ i < 8 := hi
      omega
    subst hi4
    refine hk o h12 ?_ (SlR.le p4) p5 ⟨p6.size, fun b hb' _ => p6.same b hb' (by omega)⟩
    have e : sha256F bs = ((l8 S).take (8 : Int).toNat).flatMap be4L := by
      unfold sha256F
      rw [← hS]
      rfl
    rw [e]
    exact p4

end Hash
end Go.Proofs.Ytecfcodildjnnaa
