/- hash.MD5: what it computes. -/
import Derived.Test.YtecfcodildjnnaaPCrc
namespace Go.Proofs.Ytecfcodildjnnaa
open Go D
set_option linter.unusedVariables false
set_option linter.unusedSimpArgs false
namespace Hash

theorem rotl_spec {h : Heap} {x : W} {k : Int} {R : Int → Heap → Prop} (hk : R (u (rotl x (k % 32).toNat)) h) : CallT Try.prog math_bits_RotateLeft32_no [.int .u32 (u x), .int .i64 k] h [.sc (.int .u32)] R := by
  apply math_bits_RotateLeft32_call
  simp only [math_bits_RotateLeft32]
  rw [and31]
  have e : IntKind.u64.wrap (32 - k % 32) = 32 - k % 32 := wrap_u64_id (by omega) (by omega)
  rw [e, u_shl _ (by omega) (by omega), u_shr _ (by omega) (by omega), u_or]
  refine geZ_of (by omega) (geZ_of (by omega) ?_)
  have e2 : (32 - k % 32).toNat = 32 - (k % 32).toNat := by omega
  rw [e2]
  exact hk

/-! ### padding -/
def zc (n : Nat) : Nat := (119 - n % 64) % 64
def lenB (n : Nat) (high : Bool) (i : Nat) : UInt8 := UInt8.ofNat ((n * 8) >>> (if high then 56 - 8 * i else 8 * i))
def tailL (n : Nat) (high : Bool) : List UInt8 := 128 :: (List.replicate (zc n) 0 ++ (List.range 8).map (lenB n high))
def fillL (bs : List UInt8) (high : Bool) : List UInt8 := bs.drop (bs.length / 64 * 64) ++ tailL bs.length high
theorem tailL_length (n : Nat) (high : Bool) : (tailL n high).length = 9 + zc n := by simp [tailL]; omega
theorem fillL_length (bs : List UInt8) (high : Bool) : (fillL bs high).length % 64 = 0 ∧ (fillL bs high).length ≤ 200 ∧ 0 < (fillL bs high).length := by
  unfold fillL
  rw [List.length_append, List.length_drop, tailL_length]
  unfold zc
  omega

/-- the length's eight bytes -/
theorem lenB_val {n : Nat} (hn : n ≤ 140737488354000) (high : Bool) {i : Int} (h0 : 0 ≤ i) (h1 : i < 8) {s : Int} (hs : s = if high then 56 - 8 * i else 8 * i) :
    (Value.int .u8 (IntKind.u8.wrap (shrI .u64 (IntKind.u64.wrap (IntKind.u64.wrap ((n : Nat) : Int) * 8)) s))) = byteV (lenB n high i.toNat) := by
  have e1 : IntKind.u64.wrap ((n : Nat) : Int) = n := wrap_u64_id (by omega) (by omega)
  have e2 : IntKind.u64.wrap ((n : Int) * 8) = ((n * 8 : Nat) : Int) := by rw [wrap_u64_id (by omega) (by omega)]; omega
  rw [e1, e2]
  obtain ⟨t, ht, ht2⟩ : ∃ t : Nat, s = t ∧ t = if high then 56 - 8 * i.toNat else 8 * i.toNat := by
    refine ⟨s.toNat, ?_, ?_⟩
    · cases high <;> simp at hs <;> omega
    · cases high <;> simp at hs ⊢ <;> omega
  have htb : t ≤ 64 := by rw [ht2]; split <;> omega
  rw [ht, shrI_nat (by show t ≤ 64; omega)]
  unfold byteV lenB
  rw [← ht2]
  congr 1

theorem tmod_nat (n : Nat) (k : Nat) : ((n : Nat) : Int).tmod k = ((n % k : Nat) : Int) := by
  rw [Int.tmod_eq_emod_of_nonneg (by omega)]; omega

/-- noughts, then the length, behind some bytes (both packages write it so) -/
theorem pad_loops {n : Nat} {high : Bool} (hn : n ≤ 140737488352000) {h0 h : Heap} {o : Sl} {bs : List UInt8} (hb : Bl h o.a o.len o.cap bs) (hnew : ∀ b, blk o.a b → h0.size ≤ b) (hk0 : Keep (fun y => h0.size ≤ y) h0 h) (hlen : o.len ≤ n + 1000) (hmod : o.len % 64 = (n + 1) % 64) {R : Sl → Heap → Prop}
    (hk : ∀ s h', Bl h' s.a s.len s.cap (bs ++ (List.replicate (zc n) 0 ++ (List.range 8).map (lenB n high))) → s.len ≤ s.cap → (∀ b, blk s.a b → h0.size ≤ b) → Keep (fun y => h0.size ≤ y) h0 h' → R s h') :
    LoopT (σ := Sl) (fun X s14 h16 =>
      cnd (((s14.len : Int).tmod 64) != 56) (
      newB [.int .u8 0] 5 h16 fun a17 h18 =>
      ldRow (1 * 1) a17 h18 fun cs22 =>
      app [.int .u8 0] 5 1 1 s14.a s14.len s14.cap cs22 1 h18 fun o19 c20 h21 =>
      X (⟨o19, (s14.len + 1), c20⟩ : Sl) h21) (
      LoopT (σ := Sl × Int) (fun X24 s23 h25 =>
      cnd (decide (s23.2 < 8)) (
      withJ (σ := Sl) (fun s26 h28 =>
      X24 (s26, (w64 (s23.2 + 1))) h28) (fun J27 =>
      withJ (σ := Int) (fun s29 h31 =>
      geZ s29 (
      newB [.int .u8 (IntKind.u8.wrap ((shrI .u64 (IntKind.u64.wrap ((IntKind.u64.wrap ((n : Int))) * 8)) s29)))] 5 h31 fun a32 h33 =>
      ldRow (1 * 1) a32 h33 fun cs37 =>
      app [.int .u8 0] 5 1 1 s23.1.a s23.1.len s23.1.cap cs37 1 h33 fun o34 c35 h36 =>
      J27 (⟨o34, (s23.1.len + 1), c35⟩ : Sl) h36)) (fun J30 =>
      cnd high (
      J30 (w64 (56 - (w64 (8 * s23.2)))) h25) (
      J30 (w64 (8 * s23.2)) h25)))) (
      R s23.1 h25)) (s14, 0) h16)) o h := by
  have step : ∀ {h1 : Heap} {s : Sl} {cur : List UInt8} {b : UInt8} (v : Value) {K : Option Addr → Nat → Heap → Prop}, Bl h1 s.a s.len s.cap cur → (∀ b, blk s.a b → h0.size ≤ b) → Keep (fun y => h0.size ≤ y) h0 h1 → s.len ≤ n + 1500 → v = byteV b →
      (∀ o c h', Bl h' o (s.len + 1) c (cur ++ [b]) → (∀ b, blk o b → h0.size ≤ b) → Keep (fun y => h0.size ≤ y) h0 h' → K o c h') →
      newB [v] 5 h1 fun a17 h18 => ldRow (1 * 1) a17 h18 fun cs22 => app [.int .u8 0] 5 1 1 s.a s.len s.cap cs22 1 h18 fun o19 c20 h21 => K o19 c20 h21 := by
    intro h1 s cur b v K w1 w2 w3 w4 w5 w6
    refine newB_row ?_
    intro h2 s2 r2 k2
    refine ldRow_row r2 (by simp) ?_
    have w1' : Bl h2 s.a s.len s.cap cur := SlR.keep w1 k2 (fun _ _ h => h)
    refine w1'.push (new := [b]) (by omega) rfl (by simp [w5]) ?_
    intro a' c' h3 q1 q2 q3
    have z := w3.size
    refine w6 a' c' h3 q1 (fun y hy => ?_) ((w3.trans k2 (fun _ _ h => h.elim)).trans q2 (fun y _ hy => w2 y hy))
    rcases q3 y hy with hq | hq
    · exact w2 y hq
    · omega
  have hol := hb.len
  refine LoopT.intro (fun s h' => ∃ j, j ≤ zc n ∧ s.len = o.len + j ∧ Bl h' s.a s.len s.cap (bs ++ List.replicate j 0) ∧ (∀ b, blk s.a b → h0.size ≤ b) ∧ Keep (fun y => h0.size ≤ y) h0 h') (fun s _ => o.len + zc n - s.len)
    ⟨0, Nat.zero_le _, rfl, by simpa using hb, hnew, hk0⟩ ?_
  rintro s h1 ⟨j, q1, q2, q3, q4, q5⟩
  have hz : zc n = (119 - n % 64) % 64 := rfl
  rw [show (64 : Int) = ((64 : Nat) : Int) from rfl, tmod_nat]
  refine cnd_of (fun hc => ?_) (fun hc => ?_)
  · have hc' : s.len % 64 ≠ 56 := by
      intro e
      rw [e] at hc
      simp at hc
    have hjz : j < zc n := by omega
    refine step (b := 0) (.int .u8 0) q3 q4 q5 (by omega) rfl ?_
    intro o' c' h' e2 e3 e4
    refine ⟨⟨j + 1, by omega, by show s.len + 1 = _; omega, ?_, e3, e4⟩, by show o.len + zc n - (s.len + 1) < _; omega⟩
    rw [List.replicate_succ', ← List.append_assoc]
    exact e2
  · have hc' : s.len % 64 = 56 := by
      simp at hc
      omega
    have hjz : j = zc n := by omega
    subst hjz
    refine LoopT.intro (fun (t : Sl × Int) h' => 0 ≤ t.2 ∧ t.2 ≤ 8 ∧ t.1.len = o.len + zc n + t.2.toNat ∧ Bl h' t.1.a t.1.len t.1.cap (bs ++ (List.replicate (zc n) 0 ++ (List.range t.2.toNat).map (lenB n high))) ∧ (∀ b, blk t.1.a b → h0.size ≤ b) ∧ Keep (fun y => h0.size ≤ y) h0 h') (fun t _ => (8 - t.2).toNat)
      ⟨by simp, by simp, by simp [q2], by simpa using q3, q4, q5⟩ ?_
    rintro ⟨t, i⟩ h2 ⟨p1, p2, p3, p4, p5, p6⟩
    replace p1 : 0 ≤ i := p1
    replace p2 : i ≤ 8 := p2
    replace p3 : t.len = o.len + zc n + i.toNat := p3
    replace p4 : Bl h2 t.a t.len t.cap (bs ++ (List.replicate (zc n) 0 ++ (List.range i.toNat).map (lenB n high))) := p4
    replace p5 : ∀ b, blk t.a b → h0.size ≤ b := p5
    refine cnd_dec (fun hi => ?_) (fun hi => ?_)
    · replace hi : i < 8 := hi
      refine withJ.inl ?_
      have hw : w64 (i + 1) = i + 1 := w64_id (by omega) (by omega)
      have hw8 : w64 (8 * i) = 8 * i := w64_id (by omega) (by omega)
      have hw56 : w64 (56 - 8 * i) = 56 - 8 * i := w64_id (by omega) (by omega)
      refine withJ.intro (fun (k : Int) h' => h' = h2 ∧ k = if high then 56 - 8 * i else 8 * i) ?_ ?_
      · rintro k h' ⟨rfl, hk'⟩
        refine geZ_of (by rw [hk']; split <;> omega) ?_
        refine step (b := lenB n high i.toNat) _ p4 p5 p6 (by show t.len ≤ _; omega) (lenB_val (by omega) high p1 hi hk') ?_
        intro o' c' h3 e2 e3 e4
        show (0 ≤ w64 (i + 1) ∧ w64 (i + 1) ≤ 8 ∧ t.len + 1 = o.len + zc n + (w64 (i + 1)).toNat ∧ Bl h3 o' (t.len + 1) c' (bs ++ (List.replicate (zc n) 0 ++ (List.range (w64 (i + 1)).toNat).map (lenB n high))) ∧ (∀ b, blk o' b → h0.size ≤ b) ∧ Keep (fun y => h0.size ≤ y) h0 h3) ∧ (8 - w64 (i + 1)).toNat < (8 - i).toNat
        rw [hw, show (i + 1).toNat = i.toNat + 1 by omega, List.range_succ, List.map_append]
        refine ⟨⟨by omega, by omega, by omega, ?_, e3, e4⟩, by omega⟩
        simpa using e2
      · intro J hJ
        show cnd high (J (w64 (56 - w64 (8 * i))) h2) (J (w64 (8 * i)) h2)
        rw [hw8, hw56]
        refine cnd_of (fun hh => hJ _ _ ⟨rfl, by rw [hh]; rfl⟩) (fun hh => hJ _ _ ⟨rfl, by rw [hh]; rfl⟩)
    · have : i = 8 := by
        have : ¬ i < 8 := hi
        omega
      subst this
      exact hk t h2 p4 (SlR.le p4) p5 p6

theorem filled_spec {h : Heap} {a : Option Addr} {l c : Nat} {bs : List UInt8} {high : Bool} (hb : Rb h a l bs) (hc : l ≤ c) (hl : l ≤ 140737488352000) {R : Sl → Heap → Prop}
    (hk : ∀ s h', Bl h' s.a s.len s.cap (fillL bs high) → s.len ≤ s.cap → (∀ b, blk s.a b → h.size ≤ b) → Keep (fun _ => False) h h' → R s h') :
    CallT Try.prog hash_filled_no [.slice a l c, .bool high] h [.sc .sl] R := by
  have hcall := hash_filled_call (b_0 := ⟨a, l, c⟩) (high_1 := high) (R := R) (h := h)
  apply hcall
  simp only [hash_filled]
  have hlen := hb.len
  have ed : w64 ((l : Int).tdiv 64) = ((l / 64 : Nat) : Int) := by
    rw [Int.tdiv_eq_ediv_of_nonneg (by omega)]
    rw [w64_id (by omega) (by omega)]
    omega
  have em : w64 (((l / 64 : Nat) : Int) * 64) = ((l / 64 * 64 : Nat) : Int) := by
    rw [w64_id (by omega) (by omega)]; omega
  rw [ed, em]
  refine hb.sub (by omega) (by omega) (by omega) (by omega) (by omega) ?_
  intro a1 hb1 hblk1
  rw [Int.toNat_natCast, show ((l : Int) - ((l / 64 * 64 : Nat) : Int)).toNat = l - l / 64 * 64 by omega] at hb1
  rw [show ((l : Int) - ((l / 64 * 64 : Nat) : Int)).toNat = l - l / 64 * 64 by omega]
  rw [List.take_of_length_le (by rw [List.length_drop]; omega)] at hb1
  refine mkSl_row (by decide) (by decide) (by decide) (by decide) ?_
  intro h2 s2 r2 k2
  have e0 : Bl h2 (some ⟨h.size, 0, none⟩) 0 128 [] := .inr ⟨h.size, 0, _, rfl, r2, by simp, by simp [zerosL_one], by simp, by simp⟩
  refine (hb1.keep k2 (fun _ _ _ h => h)).rd ?_
  refine e0.push (new := bs.drop (l / 64 * 64)) (by simp; omega) (by rw [List.length_drop]; omega) rfl ?_
  intro a3 c3 h3 q1 q2 q3
  refine newB_row ?_
  intro h4 s4 r4 k4
  refine ldRow_row r4 (by simp) ?_
  have q1' : Bl h4 a3 _ c3 _ := SlR.keep q1 k4 (fun _ _ h => h)
  refine q1'.push (new := [128]) (by simp; omega) rfl rfl ?_
  intro a5 c5 h5 w1 w2 w3
  have z3 := q2.size
  have new3 : ∀ b, blk a3 b → h.size ≤ b := fun b hb' => by
    rcases q3 b hb' with hh | hh
    · rw [blk_some] at hh; simp only at hh; omega
    · omega
  have new5 : ∀ b, blk a5 b → h.size ≤ b := fun b hb' => by
    rcases w3 b hb' with hh | hh
    · exact new3 b hh
    · omega
  have k5 : Keep (fun y => h.size ≤ y) h h5 := (((k2.mono (fun _ _ h => h.elim)).trans q2 (fun y _ hb' => by rw [blk_some] at hb'; simp only at hb'; omega)).trans k4 (fun _ _ h => h.elim)).trans w2 (fun y _ hb' => new3 y hb')
  refine pad_loops (n := l) (h0 := h) (by omega) w1 new5 k5 (by simp; omega) (by simp; omega) ?_
  intro s h' v1 v2 v3 v4
  refine hk s h' ?_ v2 v3 ⟨v4.size, fun b hb' _ => v4.same b hb' (by omega)⟩
  unfold fillL tailL
  rw [← hlen]
  simpa using v1

/-! ### MD5 -/
def sineL : List W := [3614090360#32, 3905402710#32, 606105819#32, 3250441966#32, 4118548399#32, 1200080426#32, 2821735955#32, 4249261313#32, 1770035416#32, 2336552879#32, 4294925233#32, 2304563134#32, 1804603682#32, 4254626195#32, 2792965006#32, 1236535329#32, 4129170786#32, 3225465664#32, 643717713#32, 3921069994#32, 3593408605#32, 38016083#32, 3634488961#32, 3889429448#32, 568446438#32, 3275163606#32, 4107603335#32, 1163531501#32, 2850285829#32, 4243563512#32, 1735328473#32, 2368359562#32, 4294588738#32, 2272392833#32, 1839030562#32, 4259657740#32, 2763975236#32, 1272893353#32, 4139469664#32, 3200236656#32, 681279174#32, 3936430074#32, 3572445317#32, 76029189#32, 3654602809#32, 3873151461#32, 530742520#32, 3299628645#32, 4096336452#32, 1126891415#32, 2878612391#32, 4237533241#32, 1700485571#32, 2399980690#32, 4293915773#32, 2240044497#32, 1873313359#32, 4264355552#32, 2734768916#32, 1309151649#32, 4149444226#32, 3174756917#32, 718787259#32, 3951481745#32]
def mdT (n : Nat) : Nat := (([[7, 12, 17, 22], [5, 9, 14, 20], [4, 11, 16, 23], [6, 10, 15, 21]] : List (List Nat)).getD (n / 16) []).getD (n % 4) 0
def mdf (i : Nat) (b c d : W) : W := if i < 16 then (b &&& c) ||| (~~~b &&& d) else if i < 32 then (d &&& b) ||| (~~~d &&& c) else if i < 48 then b ^^^ c ^^^ d else c ^^^ (b ||| ~~~d)
def mdg (i : Nat) : Nat := if i < 16 then i else if i < 32 then (5 * i + 1) % 16 else if i < 48 then (3 * i + 5) % 16 else 7 * i % 16
def mdW (bs : List UInt8) (i : Nat) : W := ((ub (bs.getD (4 * i) 0) ||| ub (bs.getD (4 * i + 1) 0) <<< 8) ||| ub (bs.getD (4 * i + 2) 0) <<< 16) ||| ub (bs.getD (4 * i + 3) 0) <<< 24
abbrev W4 := W × W × W × W
def mdStep (bs : List UInt8) (x : W4) (i : Nat) : W4 := (x.2.2.2, x.2.1 + rotl (mdf i x.2.1 x.2.2.1 x.2.2.2 + (x.1 + sineL.getD i 0 + mdW bs (mdg i))) (mdT i), x.2.1, x.2.2.1)
def mdBlk (x : W4) (bs : List UInt8) : W4 :=
  let r := (List.range 64).foldl (mdStep bs) x
  (x.1 + r.1, x.2.1 + r.2.1, x.2.2.1 + r.2.2.1, x.2.2.2 + r.2.2.2)
def u4 (x : W4) : Int × Int × Int × Int := (u x.1, u x.2.1, u x.2.2.1, u x.2.2.2)

theorem mdT_lt (n : Nat) (hn : n < 64) : mdT n < 32 := by
  have h : ∀ k : Fin 64, mdT k.val < 32 := by decide
  exact h ⟨n, hn⟩

theorem ws_vals (l : List W) : ∀ v ∈ l.map (fun w => Value.int .u32 (u w)), v.oneCell' = true := fun v hv => by
  obtain ⟨x, _, rfl⟩ := List.mem_map.1 hv; rfl

theorem putL_all {cs new : List Value} (h : new.length = cs.length) : putL cs 0 new = new := by
  unfold putL
  rw [List.take_zero, List.nil_append, List.drop_of_length_le (by omega), List.append_nil]

set_option maxRecDepth 10000 in
theorem mdSine_spec {h : Heap} {i : Int} (h0 : 0 ≤ i) (h1 : i < 64) {R : Int → Heap → Prop} (hk : ∀ h', Keep (fun _ => False) h h' → R (u (sineL.getD i.toNat 0)) h') :
    CallT Try.prog hash_mdSine_no [.int .i64 i] h [.sc (.int .u32)] R := by
  apply hash_mdSine_call
  unfold hash_mdSine
  refine newB_row ?_
  intro h1' s1 r1 k1
  refine ⟨rfl, ?_⟩
  refine stRow_row (new := sineL.map fun w => .int .u32 (u w)) r1 (by simp [sineL]) (ws_vals _) ?_
  intro h2 s2 r2 k2
  rw [putL_all (by simp [sineL])] at r2
  refine inB_of h0 h1 ?_
  rw [add_mk]
  have hi : i.toNat < sineL.length := by simp [sineL]; omega
  refine ldI_row r2 (n := u (sineL.getD i.toNat 0)) ?_ (hk h2 (k1.trans k2 (fun y hy e => by
    have : y = h.size := e
    omega)))
  rw [Nat.zero_add, Nat.mul_one, List.getElem?_map, List.getElem?_eq_getElem hi, List.getD_eq_getElem?_getD, List.getElem?_eq_getElem hi]
  rfl

theorem div16 {i : Int} (h0 : 0 ≤ i) (h1 : i < 64) : w64 (i.tdiv 16) = i / 16 := by
  rw [Int.tdiv_eq_ediv_of_nonneg h0, w64_id (by omega) (by omega)]

theorem mdTurn_spec {h : Heap} {i : Int} (h0 : 0 ≤ i) (h1 : i < 64) {R : Int → Heap → Prop} (hk : R (mdT i.toNat : Int) h) : CallT Try.prog hash_mdTurn_no [.int .i64 i] h [.sc (.int .i64)] R := by
  apply hash_mdTurn_call
  simp only [hash_mdTurn]
  rw [div16 h0 h1, Int.tmod_eq_emod_of_nonneg h0]
  obtain ⟨q, hq⟩ : ∃ q : Nat, q = i.toNat / 16 := ⟨_, rfl⟩
  obtain ⟨r, hr⟩ : ∃ r : Nat, r = i.toNat % 4 := ⟨_, rfl⟩
  have e1 : i / 16 = (q : Int) := by omega
  have e2 : i % 4 = (r : Int) := by omega
  rw [e1, e2]
  have hT : mdT i.toNat = (([[7, 12, 17, 22], [5, 9, 14, 20], [4, 11, 16, 23], [6, 10, 15, 21]] : List (List Nat)).getD q []).getD r 0 := by unfold mdT; rw [← hq, ← hr]
  rw [hT] at hk
  have hq4 : q < 4 := by omega
  have hr4 : r < 4 := by omega
  clear hT e1 e2 hq hr
  have one : ∀ (k0 k1 k2 k3 : Int), R (([k0, k1, k2, k3] : List Int).getD r 0) h → inB 4 (r : Int) (aidxI .i64 [.int .i64 k0, .int .i64 k1, .int .i64 k2, .int .i64 k3] (r : Int) fun v => R v h) := by
    intro k0 k1 k2 k3 hh
    refine inB_of (by omega) (by omega) ⟨_, by omega, ?_, hh⟩
    rw [Int.toNat_natCast]
    match r, hr4 with
    | 0, _ => rfl
    | 1, _ => rfl
    | 2, _ => rfl
    | 3, _ => rfl
  match q, hq4 with
  | 0, _ => exact cnd_t rfl (one _ _ _ _ (by match r, hr4 with | 0, _ => exact hk | 1, _ => exact hk | 2, _ => exact hk | 3, _ => exact hk))
  | 1, _ => exact cnd_f rfl (cnd_t rfl (one _ _ _ _ (by match r, hr4 with | 0, _ => exact hk | 1, _ => exact hk | 2, _ => exact hk | 3, _ => exact hk)))
  | 2, _ => exact cnd_f rfl (cnd_f rfl (cnd_t rfl (one _ _ _ _ (by match r, hr4 with | 0, _ => exact hk | 1, _ => exact hk | 2, _ => exact hk | 3, _ => exact hk))))
  | 3, _ => exact cnd_f rfl (cnd_f rfl (cnd_f rfl (one _ _ _ _ (by match r, hr4 with | 0, _ => exact hk | 1, _ => exact hk | 2, _ => exact hk | 3, _ => exact hk))))

theorem getD_of {α : Type} {l : List α} {i : Nat} {x d : α} (h : l[i]? = some x) : l.getD i d = x := by rw [List.getD_eq_getElem?_getD, h]; rfl

def st (bs : List UInt8) (x : W4) (n : Nat) : W4 := (List.range n).foldl (mdStep bs) x
theorem st_succ (bs : List UInt8) (x : W4) (n : Nat) : st bs x (n + 1) = mdStep bs (st bs x n) n := by unfold st; rw [List.range_succ, List.foldl_append]; rfl

theorem mdBlock_spec {h : Heap} {x : W4} {a : Option Addr} {c : Nat} {bs : List UInt8} (hb : Rb h a 64 bs) {ka : Option Addr} {kc : Nat} (hs : Ws h ka 64 sineL) {R : (Int × Int × Int × Int) → Heap → Prop}
    (hk : ∀ h', Keep (fun _ => False) h h' → R (u4 (mdBlk x bs)) h') :
    CallT Try.prog hash_mdBlock_no [.agg #[.int .u32 (u x.1), .int .u32 (u x.2.1), .int .u32 (u x.2.2.1), .int .u32 (u x.2.2.2)], .slice a 64 c, .slice ka 64 kc] h [.agg [.int .u32, .int .u32, .int .u32, .int .u32]] R := by
  have hcall := hash_mdBlock_call (x_0 := u4 x) (x_1 := ⟨a, 64, c⟩) (x_2 := ⟨ka, 64, kc⟩) (R := R) (h := h)
  apply hcall
  simp only [hash_mdBlock, u4]
  refine newB_row ?_
  intro h1 s1 r1 k1
  refine newB_row ?_
  intro h2 s2 r2 k2
  refine newB_row ?_
  intro h3 s3 r3 k3
  have k03 : Keep (fun _ => False) h h3 := (k1.trans' k2).trans' k3
  have r13 : Row h3 h.size _ := k3.row (k2.row r1 (fun h => h)) (fun h => h)
  have r23 : Row h3 h1.size _ := k3.row r2 (fun h => h)
  refine LoopT.intro (fun i h' => 0 ≤ i ∧ i ≤ 16 ∧ Row h' h2.size ((List.range 16).map fun j => .int .u32 (if j < i.toNat then u (mdW bs j) else 0)) ∧ Keep (· = h2.size) h3 h') (fun i _ => (16 - i).toNat) ⟨by omega, by omega, by
    have e : ((List.range 16).map fun j => Value.int .u32 (if j < (0 : Int).toNat then u (mdW bs j) else 0)) = List.replicate 16 (.int .u32 0) := rfl
    rw [e]; exact r3, .refl _ _⟩ ?_
  rintro i h4 ⟨q1, q2, q3, q4⟩
  have hb4 : Rb h4 a 64 bs := (hb.keep k03 (fun _ _ _ h => h)).keep q4 (fun hl b hb' e => by
    have := hb.lt hl hb'
    have e' : b = h2.size := e
    omega)
  have hlen := hb.len
  refine cnd_dec (fun hi => ?_) (fun hi => ?_)
  · have w0 : w64 (4 * i) = 4 * i := w64_id (by omega) (by omega)
    have w1 : w64 (4 * i + 1) = 4 * i + 1 := w64_id (by omega) (by omega)
    have w2 : w64 (4 * i + 2) = 4 * i + 2 := w64_id (by omega) (by omega)
    have w3 : w64 (4 * i + 3) = 4 * i + 3 := w64_id (by omega) (by omega)
    simp only [w0, w1, w2, w3]
    refine hb4.at (by omega) (by omega) ?_
    intro b0 e0
    refine hb4.at (by omega) (by omega) ?_
    intro b1 e1
    refine hb4.at (by omega) (by omega) ?_
    intro b2 e2
    refine hb4.at (by omega) (by omega) ?_
    intro b3 e3
    refine inB_of q1 hi ?_
    rw [add_mk, Nat.zero_add, Nat.mul_one]
    refine stC_row q3 (by simp; omega) rfl ?_
    intro h5 s5 r5 k5
    rw [w64_id (x := i + 1) (by omega) (by omega)]
    refine ⟨⟨by omega, by omega, ?_, q4.trans' k5⟩, by omega⟩
    have ev : orI .u32 (orI .u32 (orI .u32 (IntKind.u32.wrap (b0.toNat : Int)) (shlI .u32 (IntKind.u32.wrap (b1.toNat : Int)) 8)) (shlI .u32 (IntKind.u32.wrap (b2.toNat : Int)) 16)) (shlI .u32 (IntKind.u32.wrap (b3.toNat : Int)) 24) = u (mdW bs i.toNat) := by
      rw [u_byte, u_byte, u_byte, u_byte, u_shl _ (by omega) (by omega), u_shl _ (by omega) (by omega), u_shl _ (by omega) (by omega), u_or, u_or, u_or]
      unfold mdW
      rw [getD_of (x := b0) (by rw [← e0]; congr 1; omega), getD_of (x := b1) (by rw [← e1]; congr 1; omega), getD_of (x := b2) (by rw [← e2]; congr 1; omega), getD_of (x := b3) (by rw [← e3]; congr 1; omega)]
      rfl
    rw [ev] at r5
    have el : ((List.range 16).map fun j => Value.int .u32 (if j < i.toNat then u (mdW bs j) else 0)).set i.toNat (.int .u32 (u (mdW bs i.toNat))) = (List.range 16).map fun j => Value.int .u32 (if j < (i + 1).toNat then u (mdW bs j) else 0) := by
      apply List.ext_getElem?
      intro j
      rw [List.getElem?_set, List.length_map, List.length_range, List.getElem?_map, List.getElem?_map]
      by_cases hj : j < 16
      · rw [List.getElem?_range hj]
        simp only [Option.map_some]
        by_cases hij : i.toNat = j
        · rw [if_pos hij, if_pos (by omega), if_pos (by omega), ← hij]
        · rw [if_neg hij]
          by_cases h6 : j < i.toNat
          · rw [if_pos h6, if_pos (by omega)]
          · rw [if_neg h6, if_neg (by omega)]
      · rw [if_neg (by omega), List.getElem?_eq_none (by simp; omega)]
        simp
    rw [← el]
    exact r5
  · have hi16 : i = 16 := by omega
    subst hi16
    have hm : ∀ {h' : Heap}, Keep (· = h2.size) h3 h' → Row h' h2.size ((List.range 16).map fun j => .int .u32 (if j < (16 : Int).toNat then u (mdW bs j) else 0)) → True := fun _ _ => trivial
    have r14 : Row h4 h.size _ := q4.row r13 (fun e => by
      have : h.size = h2.size := e
      omega)
    refine inB_of (by decide) (by decide) ?_
    rw [add_mk, add_mk, add_mk, add_mk]
    refine ldI_row r14 rfl (inB_of (by decide) (by decide) (ldI_row r14 rfl (inB_of (by decide) (by decide) (ldI_row r14 rfl (inB_of (by decide) (by decide) (ldI_row r14 rfl ?_))))))
    have rm : ∀ j : Nat, j < 16 → cellH h4 ⟨h2.size, j, none⟩ = some (.int .u32 (u (mdW bs j))) := by
      intro j hj
      rw [q3.cells, List.getElem?_map, List.getElem?_range hj]
      simp only [Option.map_some]
      rw [if_pos (by simpa using hj)]
    refine LoopT.intro (fun (t : Int × Int × Int × Int × Int) h' => h' = h4 ∧ 0 ≤ t.2.2.2.2 ∧ t.2.2.2.2 ≤ 64 ∧ (t.1, t.2.1, t.2.2.1, t.2.2.2.1) = u4 (st bs x t.2.2.2.2.toNat)) (fun t _ => (64 - t.2.2.2.2).toNat) ⟨rfl, by simp, by simp, rfl⟩ ?_
    rintro ⟨ya, yb, yc, yd, i⟩ h5 ⟨rfl, p1, p2, p3⟩
    replace p1 : 0 ≤ i := p1
    replace p2 : i ≤ 64 := p2
    replace p3 : (ya, yb, yc, yd) = u4 (st bs x i.toNat) := p3
    obtain ⟨z, hz⟩ : ∃ z, z = st bs x i.toNat := ⟨_, rfl⟩
    rw [← hz] at p3
    unfold u4 at p3
    injection p3 with p3 p4
    injection p4 with p4 p5
    injection p5 with p5 p6
    subst p3 p4 p5 p6
    refine cnd_dec (fun hi => ?_) (fun hi => ?_)
    · replace hi : i < 64 := hi
      have hw : w64 (i + 1) = i + 1 := w64_id (by omega) (by omega)
      refine withJ.inl ?_
      refine withJ.intro (fun (t : Int × Int) h' => h' = h5 ∧ t.1 = u (mdf i.toNat z.2.1 z.2.2.1 z.2.2.2) ∧ t.2 = (mdg i.toNat : Int)) ?_ ?_
      · rintro ⟨f, g⟩ h' ⟨rfl, hf, hg⟩
        replace hf : f = _ := hf
        replace hg : g = _ := hg
        subst hf hg
        have hg16 : mdg i.toNat < 16 := by unfold mdg; (repeat' split) <;> omega
        have hs5 : Ws h' ka 64 sineL := (hs.keep k03 (fun _ _ _ h => h)).keep q4 (fun hl b hb' e => by
          have := hs.lt hl hb'
          have e' : b = h2.size := e
          omega)
        refine hs5.at p1 (by omega) ?_
        refine inB_of (by omega) (by omega) ?_
        rw [add_mk, Nat.zero_add, Nat.mul_one, Int.toNat_natCast]
        refine ldI_at (rm _ hg16) ?_
        refine mdTurn_spec p1 hi ?_
        simp only [u_add]
        refine rotl_spec ?_
        have hT := mdT_lt i.toNat (by omega)
        have e32 : ((mdT i.toNat : Int) % 32).toNat = mdT i.toNat := by omega
        rw [e32]
        refine ⟨⟨rfl, ?_, ?_, ?_⟩, ?_⟩
        · show 0 ≤ w64 (i + 1); omega
        · show w64 (i + 1) ≤ 64; omega
        · show (u z.2.2.2, IntKind.u32.wrap (u z.2.1 + u _), u z.2.1, u z.2.2.1) = u4 (st bs x (w64 (i + 1)).toNat)
          rw [hw, show (i + 1).toNat = i.toNat + 1 by omega, st_succ, ← hz, u_add]
          rfl
        · show (64 - w64 (i + 1)).toNat < (64 - i).toNat; omega
      · intro J hJ
        show cnd (w64 (i.tdiv 16) == 0) (J (orI .u32 (andI .u32 (u z.2.1) (u z.2.2.1)) (andI .u32 (xorI .u32 IntKind.u32.max (u z.2.1)) (u z.2.2.2)), i) h5) (cnd (w64 (i.tdiv 16) == 1) (J (orI .u32 (andI .u32 (u z.2.2.2) (u z.2.1)) (andI .u32 (xorI .u32 IntKind.u32.max (u z.2.2.2)) (u z.2.2.1)), (w64 (w64 (5 * i) + 1)).tmod 16) h5)
          (cnd (w64 (i.tdiv 16) == 2) (J (xorI .u32 (xorI .u32 (u z.2.1) (u z.2.2.1)) (u z.2.2.2), (w64 (w64 (3 * i) + 5)).tmod 16) h5) (J (xorI .u32 (u z.2.2.1) (orI .u32 (u z.2.1) (xorI .u32 IntKind.u32.max (u z.2.2.2))), (w64 (7 * i)).tmod 16) h5)))
        simp only [u_not, u_and, u_or, u_xor, div16 p1 hi]
        have t5 : (w64 (w64 (5 * i) + 1)).tmod 16 = (5 * i + 1) % 16 := by rw [w64_id (x := 5 * i) (by omega) (by omega), w64_id (by omega) (by omega), Int.tmod_eq_emod_of_nonneg (by omega)]
        have t3 : (w64 (w64 (3 * i) + 5)).tmod 16 = (3 * i + 5) % 16 := by rw [w64_id (x := 3 * i) (by omega) (by omega), w64_id (by omega) (by omega), Int.tmod_eq_emod_of_nonneg (by omega)]
        have t7 : (w64 (7 * i)).tmod 16 = 7 * i % 16 := by rw [w64_id (x := 7 * i) (by omega) (by omega), Int.tmod_eq_emod_of_nonneg (by omega)]
        rw [t5, t3, t7]
        refine cnd_of (fun hc => ?_) (fun hc => ?_)
        · simp only [beq_iff_eq] at hc
          refine hJ _ _ ⟨rfl, ?_, ?_⟩
          · unfold mdf; rw [if_pos (by omega)]
          · unfold mdg; rw [if_pos (by omega)]; show i = _; omega
        · replace hc : ¬ (i / 16 = 0) := fun e => by rw [e] at hc; cases hc
          refine cnd_of (fun hc2 => ?_) (fun hc2 => ?_)
          · simp only [beq_iff_eq] at hc2
            refine hJ _ _ ⟨rfl, ?_, ?_⟩
            · unfold mdf; rw [if_neg (by omega), if_pos (by omega)]
            · unfold mdg; rw [if_neg (by omega), if_pos (by omega)]; show (5 * i + 1) % 16 = _; omega
          · replace hc2 : ¬ (i / 16 = 1) := fun e => by rw [e] at hc2; cases hc2
            refine cnd_of (fun hc3 => ?_) (fun hc3 => ?_)
            · simp only [beq_iff_eq] at hc3
              refine hJ _ _ ⟨rfl, ?_, ?_⟩
              · unfold mdf; rw [if_neg (by omega), if_neg (by omega), if_pos (by omega)]
              · unfold mdg; rw [if_neg (by omega), if_neg (by omega), if_pos (by omega)]; show (3 * i + 5) % 16 = _; omega
            · replace hc3 : ¬ (i / 16 = 2) := fun e => by rw [e] at hc3; cases hc3
              refine hJ _ _ ⟨rfl, ?_, ?_⟩
              · unfold mdf; rw [if_neg (by omega), if_neg (by omega), if_neg (by omega)]
              · unfold mdg; rw [if_neg (by omega), if_neg (by omega), if_neg (by omega)]; show 7 * i % 16 = _; omega
    · have hi64 : i = 64 := by
        have : ¬ i < 64 := hi
        omega
      subst hi64
      have r24 : Row h5 h1.size [.int .u32 0, .int .u32 0, .int .u32 0, .int .u32 0] := q4.row r23 (fun e => by
        have : h1.size = h2.size := e
        omega)
      refine inB_of (by decide) (by decide) (ldI_row r14 rfl (inB_of (by decide) (by decide) (ldI_row r14 rfl (inB_of (by decide) (by decide) (ldI_row r14 rfl (inB_of (by decide) (by decide) (ldI_row r14 rfl ?_)))))))
      simp only [u_add]
      rw [add_mk, add_mk, add_mk]
      refine stC_row r24 (by simp) rfl ?_
      intro h6 s6 r6 k6
      refine stC_row r6 (by simp) rfl ?_
      intro h7 s7 r7 k7
      refine stC_row r7 (by simp) rfl ?_
      intro h8 s8 r8 k8
      refine stC_row r8 (by simp) rfl ?_
      intro h9 s9 r9 k9
      refine ldI_row r9 rfl (ldI_row r9 rfl (ldI_row r9 rfl (ldI_row r9 rfl ?_)))
      have e : z = st bs x 64 := hz
      have := hk h9 ((k03.trans q4 (fun y hy e => by
        have e' : y = h2.size := e
        omega)).trans (((k6.trans' k7).trans' k8).trans' k9) (fun y hy e => by
        have e' : y = h1.size := e
        omega))
      unfold mdBlk u4 at this
      rw [e]
      exact this

end Hash
end Go.Proofs.Ytecfcodildjnnaa
