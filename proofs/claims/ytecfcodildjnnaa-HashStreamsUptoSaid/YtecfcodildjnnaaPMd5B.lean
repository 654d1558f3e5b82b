/- hash.MD5: the whole sum. -/
import Derived.Test.YtecfcodildjnnaaPMd5
namespace Go.Proofs.Ytecfcodildjnnaa
open Go D
set_option linter.unusedVariables false
set_option linter.unusedSimpArgs false
namespace Hash

/-- whole blocks, one behind the other -/
def blocksN {α : Type} (f : α → List UInt8 → α) : Nat → α → List UInt8 → α
  | 0, x, _ => x
  | n + 1, x, bs => blocksN f n (f x (bs.take 64)) (bs.drop 64)

theorem blocksN_succ {α : Type} (f : α → List UInt8 → α) : ∀ (n : Nat) (x : α) (bs : List UInt8), blocksN f (n + 1) x bs = f (blocksN f n x bs) ((bs.drop (64 * n)).take 64)
  | 0, x, bs => by simp [blocksN]
  | n + 1, x, bs => by
    have := blocksN_succ f n (f x (bs.take 64)) (bs.drop 64)
    rw [List.drop_drop] at this
    show blocksN f (n + 1) (f x (bs.take 64)) (bs.drop 64) = _
    rw [this]
    show f (blocksN f (n + 1) x bs) _ = _
    congr 3
    omega

theorem blocksN_append {α : Type} (f : α → List UInt8 → α) : ∀ (n m : Nat) (x : α) (xs bs : List UInt8), xs.length = 64 * n → blocksN f (n + m) x (xs ++ bs) = blocksN f m (blocksN f n x xs) bs
  | 0, m, x, xs, bs, h => by
    have : xs = [] := List.length_eq_zero_iff.1 (by omega)
    subst this
    simp [blocksN]
  | n + 1, m, x, xs, bs, h => by
    rw [show n + 1 + m = (n + m) + 1 by omega]
    show blocksN f (n + m) (f x ((xs ++ bs).take 64)) ((xs ++ bs).drop 64) = _
    rw [List.take_append_of_le_length (by omega), List.drop_append_of_le_length (by omega)]
    exact blocksN_append f n m _ _ _ (by rw [List.length_drop]; omega)

theorem blocksN_take {α : Type} (f : α → List UInt8 → α) : ∀ (n : Nat) (x : α) (bs : List UInt8), blocksN f n x (bs.take (64 * n)) = blocksN f n x bs
  | 0, x, bs => rfl
  | n + 1, x, bs => by
    show blocksN f n (f x ((bs.take (64 * (n + 1))).take 64)) ((bs.take (64 * (n + 1))).drop 64) = blocksN f n (f x (bs.take 64)) (bs.drop 64)
    rw [List.take_take, List.drop_take, show min 64 (64 * (n + 1)) = 64 by omega, show 64 * (n + 1) - 64 = 64 * n by omega]
    exact blocksN_take f n _ _

def md0 : W4 := (1732584193#32, 4023233417#32, 2562383102#32, 271733878#32)
def le4 (x : W) : List UInt8 := [lowb x, lowb (x >>> 8), lowb (x >>> 16), lowb (x >>> 24)]
/-- a text's blocks and what follows on them -/
def sumSt {α : Type} (f : α → List UInt8 → α) (x : α) (high : Bool) (bs : List UInt8) : α := blocksN f ((fillL bs high).length / 64) (blocksN f (bs.length / 64) x bs) (fillL bs high)
def md5St (bs : List UInt8) : W4 := sumSt mdBlk md0 false bs
def md5F (bs : List UInt8) : List UInt8 := le4 (md5St bs).1 ++ (le4 (md5St bs).2.1 ++ (le4 (md5St bs).2.2.1 ++ le4 (md5St bs).2.2.2))
def c4 (x : W4) : List Value := [.int .u32 (u x.1), .int .u32 (u x.2.1), .int .u32 (u x.2.2.1), .int .u32 (u x.2.2.2)]

theorem md_loop {C : Sl → Bool} {Kc : Sl → Heap → Prop} {p : Nat} {ka : Addr} {h : Heap} {s : Sl} {bs : List UInt8} {x : W4} (hb : Rb h s.a s.len bs) (hcap : s.len ≤ s.cap) (hrow : Row h p (c4 x)) (hs : Ws h (some ka) 64 sineL)
    (hfar : 0 < s.len → ∀ b, blk s.a b → b ≠ p) (hka : ka.block ≠ p) (hC : ∀ s' : Sl, s'.len ≤ s.len → s'.len % 64 = s.len % 64 → (C s' = true ↔ 64 ≤ s'.len))
    (hk : ∀ s' h', Row h' p (c4 (blocksN mdBlk (bs.length / 64) x bs)) → Keep (· = p) h h' → Kc s' h') :
    LoopT (σ := Sl) (fun X19 s18 h20 => cnd (C s18) (
      ldI .u32 ⟨p, 0, none⟩ h20 fun n21 =>
      ldI .u32 ((⟨p, 0, none⟩ : Addr).add 1) h20 fun n22 =>
      ldI .u32 ((⟨p, 0, none⟩ : Addr).add 2) h20 fun n23 =>
      ldI .u32 ((⟨p, 0, none⟩ : Addr).add 3) h20 fun n24 =>
      lsl 1 s18.a s18.cap 0 64 (s18.cap : Int) fun o25 l25 c25 =>
      CallT Try.prog hash_mdBlock_no [.agg #[.int .u32 n21, .int .u32 n22, .int .u32 n23, .int .u32 n24], .slice o25 l25 c25, .slice (some ka) ((64 : Int).toNat) ((64 : Int).toNat)] h20 [.agg [.int .u32, .int .u32, .int .u32, .int .u32]] fun (r26 : (Int × Int × Int × Int)) h27 =>
      stC ⟨p, 0, none⟩ (.int .u32 r26.1) h27 fun h28 =>
      stC ((⟨p, 0, none⟩ : Addr).add 1) (.int .u32 r26.2.1) h28 fun h29 =>
      stC ((⟨p, 0, none⟩ : Addr).add 2) (.int .u32 r26.2.2.1) h29 fun h30 =>
      stC ((⟨p, 0, none⟩ : Addr).add 3) (.int .u32 r26.2.2.2) h30 fun h31 =>
      lsl 1 s18.a s18.cap 64 (s18.len : Int) (s18.cap : Int) fun o32 l32 c32 =>
      X19 (⟨o32, l32, c32⟩ : Sl) h31) (Kc s18 h20)) s h := by
  have hlen := hb.len
  refine LoopT.intro (fun t h' => ∃ k, 64 * k ≤ bs.length ∧ t.len = bs.length - 64 * k ∧ t.len ≤ t.cap ∧ Rb h' t.a t.len (bs.drop (64 * k)) ∧ Row h' p (c4 (blocksN mdBlk k x bs)) ∧ Keep (· = p) h h' ∧ (0 < t.len → ∀ b, blk t.a b → b ≠ p) ∧ Ws h' (some ka) 64 sineL) (fun t _ => t.len)
    ⟨0, by omega, by omega, hcap, by simpa using hb, hrow, .refl _ _, hfar, hs⟩ ?_
  rintro t h1 ⟨k, q1, q2, q3, q4, q5, q6, q7, q8⟩
  have hCt := hC t (by omega) (by omega)
  refine cnd_of (fun hc => ?_) (fun hc => ?_)
  · have h64 := hCt.1 hc
    refine ldI_row (o := 0) q5 rfl (ldI_row (o := 1) q5 rfl (ldI_row (o := 2) q5 rfl (ldI_row (o := 3) q5 rfl ?_)))
    refine q4.sub (by omega) (by omega) (by omega) (by omega) (by omega) ?_
    intro a1 w1 w2
    have w1' : Rb h1 a1 64 ((bs.drop (64 * k)).take 64) := w1
    refine mdBlock_spec (x := blocksN mdBlk k x bs) w1' q8 ?_
    intro h2 k2
    refine stC_row (o := 0) (k2.row q5 (fun h => h)) (by simp [c4]) rfl ?_
    intro h3 s3 r3 k3
    refine stC_row (o := 1) r3 (by simp [c4]) rfl ?_
    intro h4 s4 r4 k4
    refine stC_row (o := 2) r4 (by simp [c4]) rfl ?_
    intro h5 s5 r5 k5
    refine stC_row (o := 3) r5 (by simp [c4]) rfl ?_
    intro h6 s6 r6 k6
    have k16 : Keep (· = p) h1 h6 := (k2.mono (fun _ _ h => h.elim)).trans' (((k3.trans' k4).trans' k5).trans' k6)
    have q4' : Rb h6 t.a t.len (bs.drop (64 * k)) := q4.keep k16 (fun hl b hb' e => q7 hl b hb' e)
    refine q4'.sub (by omega) (by omega) (by omega) (by omega) (by omega) ?_
    intro a2 v1 v2
    have el : ((t.len : Int) - 64).toNat = t.len - 64 := by omega
    rw [el] at v1 ⊢
    rw [show (64 : Int).toNat = 64 from rfl, List.drop_drop, show 64 * k + 64 = 64 * (k + 1) by omega, List.take_of_length_le (by rw [List.length_drop]; omega)] at v1
    refine ⟨⟨k + 1, by omega, by show t.len - 64 = _; omega, by show t.len - 64 ≤ ((t.cap : Int) - 64).toNat; omega, v1, ?_, q6.trans' k16, ?_, ?_⟩, by show t.len - 64 < t.len; omega⟩
    · rw [blocksN_succ]
      exact r6
    · intro hl b hb'
      exact q7 (by omega) b (v2 b hb')
    · exact Rv.keep q8 k16 (fun _ b hb' e => by
        rw [blk_some] at hb'
        have e' : b = p := e
        exact hka (by omega))
  · have h64 : ¬ 64 ≤ t.len := fun e => by rw [hCt.2 e] at hc; cases hc
    have hkk : k = bs.length / 64 := by omega
    subst hkk
    exact hk t h1 q5 q6

set_option maxRecDepth 10000 in
theorem md5_spec {h : Heap} {a : Option Addr} {l c : Nat} {bs : List UInt8} (hb : Rb h a l bs) (hc : l ≤ c) (hl : l ≤ 140737488352000) {R : Sl → Heap → Prop}
    (hk : ∀ s h', Bl h' s.a s.len s.cap (md5F bs) → (∀ b, blk s.a b → h.size ≤ b) → Keep (fun _ => False) h h' → R s h') :
    CallT Try.prog hash_MD5_no [.slice a l c] h [.sc .sl] R := by
  have hcall := hash_MD5_call (x_0 := ⟨a, l, c⟩) (R := R) (h := h)
  apply hcall
  unfold hash_MD5
  have hlen := hb.len
  refine newB_row ?_
  intro h1 s1 r1 k1
  refine stC_row (o := 0) r1 (by simp) rfl ?_
  intro h2 s2 r2 k2
  refine stC_row (o := 1) r2 (by simp) rfl ?_
  intro h3 s3 r3 k3
  refine stC_row (o := 2) r3 (by simp) rfl ?_
  intro h4 s4 r4 k4
  refine stC_row (o := 3) r4 (by simp) rfl ?_
  intro h5 s5 r5 k5
  have k05 : Keep (fun _ => False) h h5 := k1.trans (((k2.trans' k3).trans' k4).trans' k5) (fun y hy e => by
    have : y = h.size := e
    omega)
  have r5' : Row h5 h.size (c4 md0) := r5
  refine mkSl_row (by decide) (by decide) (by decide) (by decide) ?_
  intro h6 s6 r6 k6
  have hp := r5'.lt
  refine LoopT.intro (fun i h' => 0 ≤ i ∧ i ≤ 64 ∧ Row h' h5.size ((List.range 64).map fun j => .int .u32 (if j < i.toNat then u (sineL.getD j 0) else 0)) ∧ Keep (· = h5.size) h6 h') (fun i _ => (64 - i).toNat) ⟨by omega, by omega, ?_, .refl _ _⟩ ?_
  · have e : ((List.range 64).map fun j => Value.int .u32 (if j < (0 : Int).toNat then u (sineL.getD j 0) else 0)) = List.replicate 64 (.int .u32 0) := rfl
    rw [e]; exact r6
  rintro i h7 ⟨q1, q2, q3, q4⟩
  refine cnd_dec (fun hi => ?_) (fun hi => ?_)
  · replace hi : i < 64 := hi
    refine mdSine_spec q1 hi ?_
    intro h8 k8
    refine idx_some q1 hi ?_
    refine stC_row (b := h5.size) (o := i.toNat) (v := .int .u32 (u (sineL.getD i.toNat 0))) (k8.row q3 (fun h => h)) (by simp; omega) rfl ?_ |> fun hh => by rw [add_mk, Nat.zero_add, Nat.mul_one]; exact hh
    intro h9 s9 r9 k9
    rw [w64_id (x := i + 1) (by omega) (by omega)]
    refine ⟨⟨by omega, by omega, ?_, q4.trans ((k8.mono (T := (· = h5.size)) (fun _ _ h => h.elim)).trans' k9) (fun _ _ h => h)⟩, by omega⟩
    have el : ((List.range 64).map fun j => Value.int .u32 (if j < i.toNat then u (sineL.getD j 0) else 0)).set i.toNat (.int .u32 (u (sineL.getD i.toNat 0))) = (List.range 64).map fun j => Value.int .u32 (if j < (i + 1).toNat then u (sineL.getD j 0) else 0) := by
      apply List.ext_getElem?
      intro j
      rw [List.getElem?_set, List.length_map, List.length_range, List.getElem?_map, List.getElem?_map]
      by_cases hj : j < 64
      · rw [List.getElem?_range hj]
        simp only [Option.map_some]
        by_cases hij : i.toNat = j
        · rw [if_pos hij, if_pos (by omega), if_pos (by omega), ← hij]
        · rw [if_neg hij]
          by_cases h6 : j < i.toNat
          · rw [if_pos h6, if_pos (by omega)]
          · rw [if_neg h6, if_neg (by omega)]
      · rw [if_neg (by omega), List.getElem?_eq_none (by simp; omega)]
        simp
    rw [← el]
    exact r9
  · have hi64 : i = 64 := by
      have : ¬ i < 64 := hi
      omega
    subst hi64
    have k07 : Keep (fun _ => False) h h7 := (k05.trans' k6).trans q4 (fun y hy e => by
      have e' : y = h5.size := e
      have := k05.size
      omega)
    have r7 : Row h7 h.size (c4 md0) := q4.row (k6.row r5' (fun h => h)) (fun e => by
      have e' : h.size = h5.size := e
      omega)
    have ws7 : Ws h7 (some ⟨h5.size, 0, none⟩) 64 sineL := by
      refine ⟨by simp [sineL], fun j v hv => ⟨_, rfl, rfl, ?_⟩⟩
      rw [add_mk, Nat.zero_add, q3.cells, List.getElem?_map]
      have hj : j < 64 := by
        have := (List.getElem?_eq_some_iff.1 hv).1
        simpa [sineL] using this
      rw [List.getElem?_map] at hv
      have hj' : j < sineL.length := by simpa [sineL] using hj
      rw [List.getElem?_eq_getElem hj'] at hv
      rw [List.getElem?_range hj]
      simp only [Option.map_some] at hv ⊢
      rw [if_pos (by simpa using hj), List.getD_eq_getElem?_getD, List.getElem?_eq_getElem hj']
      exact hv
    refine filled_spec (hb.keep k07 (fun _ _ _ h => h)) hc hl ?_
    intro t h8 bt1 bt2 bt3 kt
    have hb8 := (hb.keep k07 (fun _ _ _ h => h)).keep kt (fun _ _ _ h => h)
    have r8 := kt.row r7 (fun h => h)
    have ws8 : Ws h8 (some ⟨h5.size, 0, none⟩) 64 sineL := Rv.keep ws7 kt (fun _ _ _ h => h)
    obtain ⟨ft1, ft2, ft3⟩ := fillL_length bs false
    have htl := bt1.len
    refine md_loop (s := ⟨a, l, c⟩) hb8 hc r8 ws8 (fun h0 b hb' e => by have := hb.lt h0 hb'; omega) (by simp only; omega) (fun s' _ _ => by simp only [decide_eq_true_eq]; omega) ?_
    intro _ h9 r9 k9
    have k79 : Keep (· = h.size) h7 h9 := (kt.mono (fun _ _ h => h.elim)).trans' k9
    have bt9 : Bl h9 t.a t.len t.cap _ := SlR.keep bt1 k9 (fun b hb' e => by
      have e' : b = h.size := e
      have := bt3 b hb'
      have := k07.size
      have := r7.lt
      omega)
    have ws9 : Ws h9 (some ⟨h5.size, 0, none⟩) 64 sineL := Rv.keep ws7 k79 (fun _ b hb' e => by
      rw [blk_some] at hb'
      have e' : b = h.size := e
      simp only at hb'
      omega)
    refine md_loop (s := t) bt9.rb bt2 r9 ws9 (fun h0 b hb' e => by have := bt3 b hb'; have := r7.lt; omega) (by simp only; omega) (fun s' e1 e2 => by
      have : t.len % 64 = 0 := by omega
      simp only [decide_eq_true_eq]
      omega) ?_
    intro _ h10 r10 k10
    refine mkSl_row (by decide) (by decide) (by decide) (by decide) ?_
    intro h11 s11 r11 k11
    have r10' := k11.row r10 (fun h => h)
    refine ldI_row (o := 0) r10' rfl (ldI_row (o := 1) r10' rfl (ldI_row (o := 2) r10' rfl (ldI_row (o := 3) r10' rfl ?_)))
    have k0_10 : Keep (fun y => h.size ≤ y) h h10 := ((k07.mono (fun _ _ h => h.elim)).trans k79 (fun y _ e => by
      have e' : y = h.size := e
      show h.size ≤ y
      omega)).trans k10 (fun y _ e => by
      have e' : y = h.size := e
      show h.size ≤ y
      omega)
    have k0_11 : Keep (fun y => h.size ≤ y) h h11 := k0_10.trans k11 (fun _ _ h => h.elim)
    have z10 := k0_10.size
    have e0 : Bl h11 (some ⟨h10.size, 0, none⟩) 0 16 [] := .inr ⟨h10.size, 0, _, rfl, r11, by simp, by simp [zerosL_one], by simp, by simp⟩
    obtain ⟨S, hS⟩ : ∃ S, S = md5St bs := ⟨_, rfl⟩
    have hS' : S = blocksN mdBlk ((fillL bs false).length / 64) (blocksN mdBlk (bs.length / 64) md0 bs) (fillL bs false) := hS
    rw [← hS']
    let wd : Nat → W := fun j => [S.1, S.2.1, S.2.2.1, S.2.2.2].getD j 0
    refine LoopT.intro (fun (t : Sl × Int) h' => 0 ≤ t.2 ∧ t.2 ≤ 4 ∧ t.1.len = 4 * t.2.toNat ∧ Bl h' t.1.a t.1.len t.1.cap ((List.range t.2.toNat).flatMap fun j => le4 (wd j)) ∧ (∀ b, blk t.1.a b → h.size ≤ b) ∧ Keep (fun y => h.size ≤ y) h h') (fun t _ => (4 - t.2).toNat)
      ⟨by simp, by simp, by simp, e0, fun b hb' => by rw [blk_some] at hb'; simp only at hb'; omega, k0_11⟩ ?_
    rintro ⟨o, i⟩ h12 ⟨p1, p2, p3, p4, p5, p6⟩
    replace p1 : 0 ≤ i := p1
    replace p2 : i ≤ 4 := p2
    replace p3 : o.len = 4 * i.toNat := p3
    replace p4 : Bl h12 o.a o.len o.cap ((List.range i.toNat).flatMap fun j => le4 (wd j)) := p4
    replace p5 : ∀ b, blk o.a b → h.size ≤ b := p5
    refine cnd_dec (fun hi => ?_) (fun hi => ?_)
    · replace hi : i < 4 := hi
      refine inB_of p1 (by show i < ((4 : Nat) : Int); omega) ⟨u (wd i.toNat), p1, ?_, ?_⟩
      · obtain ⟨j, hj⟩ : ∃ j, j = i.toNat := ⟨_, rfl⟩
        show [Value.int .u32 (u S.1), .int .u32 (u S.2.1), .int .u32 (u S.2.2.1), .int .u32 (u S.2.2.2)][i.toNat]? = some (.int .u32 (u (wd i.toNat)))
        rw [← hj]
        have hj4 : j < 4 := by omega
        match j, hj4 with
        | 0, _ => rfl
        | 1, _ => rfl
        | 2, _ => rfl
        | 3, _ => rfl
      · refine newB_row ?_
        intro h13 s13 r13 k13
        refine ldRow_row r13 (by simp) ?_
        have p4' : Bl h13 o.a o.len o.cap _ := SlR.keep p4 k13 (fun _ _ h => h)
        refine p4'.push (new := le4 (wd i.toNat)) (by omega) rfl ?_ ?_
        · simp only [le4, List.map_cons, List.map_nil, u_shr (wd i.toNat) (n := 8) (by decide) (by decide), u_shr (wd i.toNat) (n := 16) (by decide) (by decide), u_shr (wd i.toNat) (n := 24) (by decide) (by decide), u_low]
          rfl
        · intro a' c' h14 w1 w2 w3
          show (0 ≤ w64 (i + 1) ∧ w64 (i + 1) ≤ 4 ∧ o.len + 4 = 4 * (w64 (i + 1)).toNat ∧ Bl h14 a' (o.len + 4) c' ((List.range (w64 (i + 1)).toNat).flatMap fun j => le4 (wd j)) ∧ (∀ b, blk a' b → h.size ≤ b) ∧ Keep (fun y => h.size ≤ y) h h14) ∧ (4 - w64 (i + 1)).toNat < (4 - i).toNat
          rw [w64_id (x := i + 1) (by omega) (by omega), show (i + 1).toNat = i.toNat + 1 by omega, List.range_succ, List.flatMap_append]
          have := p6.size
          refine ⟨⟨by omega, by omega, by omega, by simpa using w1, fun b hb' => ?_, (p6.trans k13 (fun _ _ h => h.elim)).trans w2 (fun y _ hy => p5 y hy)⟩, by omega⟩
          rcases w3 b hb' with hh | hh
          · exact p5 b hh
          · omega
    · have hi4 : i = 4 := by
        have : ¬ i < 4 := hi
        omega
      subst hi4
      refine hk o h12 ?_ p5 ⟨p6.size, fun b hb' _ => p6.same b hb' (by omega)⟩
      have e : md5F bs = (List.range (4 : Int).toNat).flatMap fun j => le4 (wd j) := by
        unfold md5F
        rw [← hS]
        rfl
      rw [e]
      exact p4

end Hash
end Go.Proofs.Ytecfcodildjnnaa
