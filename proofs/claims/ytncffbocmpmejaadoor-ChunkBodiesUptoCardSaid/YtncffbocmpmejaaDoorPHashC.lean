/- PMd5 PMd5B PSha PShaB PStream PHmac PSums PSumsB PSumsC PMacs joined, for seat work that lacks some functions; written by wip/tool/cut.py. -/
import Derived.Test.YtncffbocmpmejaaDoorPU32
import Derived.Test.YtncffbocmpmejaaDoorGHash
import Derived.Test.YtncffbocmpmejaaDoorGSums
namespace Go.Proofs.YtncffbocmpmejaaDoor
open Go D
set_option linter.unusedVariables false
set_option linter.unusedSimpArgs false
namespace Hash

theorem rotl_spec {h : Heap} {x : W} {k : Int} {R : Int → Heap → Prop} (hk : R (u (rotl x (k % 32).toNat)) h) : CallT Tryd.prog math_bits_RotateLeft32_no [.int .u32 (u x), .int .i64 k] h [.sc (.int .u32)] R := by
  apply math_bits_RotateLeft32_call
  simp only [math_bits_RotateLeft32]
  rw [and31]
  have e : IntKind.u64.wrap (32 - k % 32) = 32 - k % 32 := wrap_u64_id (by omega) (by omega)
  rw [e, u_shl _ (by omega) (by omega), u_shr _ (by omega) (by omega), u_or]
  refine geZ_of (by omega) (geZ_of (by omega) ?_)
  have e2 : (32 - k % 32).toNat = 32 - (k % 32).toNat := by omega
  rw [e2]
  exact hk

/-! ### padding -/
def zc (n : Nat) : Nat := (119 - n % 64) % 64
def lenB (n : Nat) (high : Bool) (i : Nat) : UInt8 := UInt8.ofNat ((n * 8) >>> (if high then 56 - 8 * i else 8 * i))
def tailL (n : Nat) (high : Bool) : List UInt8 := 128 :: (List.replicate (zc n) 0 ++ (List.range 8).map (lenB n high))
def fillL (bs : List UInt8) (high : Bool) : List UInt8 := bs.drop (bs.length / 64 * 64) ++ tailL bs.length high
theorem tailL_length (n : Nat) (high : Bool) : (tailL n high).length = 9 + zc n := by simp [tailL]; omega
theorem fillL_length (bs : List UInt8) (high : Bool) : (fillL bs high).length % 64 = 0 ∧ (fillL bs high).length ≤ 200 ∧ 0 < (fillL bs high).length := by
  unfold fillL
  rw [List.length_append, List.length_drop, tailL_length]
  unfold zc
  omega

/-- the length's eight bytes -/
theorem lenB_val {n : Nat} (hn : n ≤ 140737488354000) (high : Bool) {i : Int} (h0 : 0 ≤ i) (h1 : i < 8) {s : Int} (hs : s = if high then 56 - 8 * i else 8 * i) :
    (Value.int .u8 (IntKind.u8.wrap (shrI .u64 (IntKind.u64.wrap (IntKind.u64.wrap ((n : Nat) : Int) * 8)) s))) = byteV (lenB n high i.toNat) := by
  have e1 : IntKind.u64.wrap ((n : Nat) : Int) = n := wrap_u64_id (by omega) (by omega)
  have e2 : IntKind.u64.wrap ((n : Int) * 8) = ((n * 8 : Nat) : Int) := by rw [wrap_u64_id (by omega) (by omega)]; omega
  rw [e1, e2]
  obtain ⟨t, ht, ht2⟩ : ∃ t : Nat, s = t ∧ t = if high then 56 - 8 * i.toNat else 8 * i.toNat := by
    refine ⟨s.toNat, ?_, ?_⟩
    · cases high <;> simp at hs <;> omega
    · cases high <;> simp at hs ⊢ <;> omega
  have htb : t ≤ 64 := by rw [ht2]; split <;> omega
  rw [ht, shrI_nat (by show t ≤ 64; omega)]
  unfold byteV lenB
  rw [← ht2]
  congr 1

theorem tmod_nat (n : Nat) (k : Nat) : ((n : Nat) : Int).tmod k = ((n % k : Nat) : Int) := by
  rw [Int.tmod_eq_emod_of_nonneg (by omega)]; omega

/-- noughts, then the length, behind some bytes (both packages write it so) -/
theorem pad_loops {n : Nat} {high : Bool} (hn : n ≤ 140737488352000) {h0 h : Heap} {o : Sl} {bs : List UInt8} (hb : Bl h o.a o.len o.cap bs) (hnew : ∀ b, blk o.a b → h0.size ≤ b) (hk0 : Keep (fun y => h0.size ≤ y) h0 h) (hlen : o.len ≤ n + 1000) (hmod : o.len % 64 = (n + 1) % 64) {R : Sl → Heap → Prop}
    (hk : ∀ s h', Bl h' s.a s.len s.cap (bs ++ (List.replicate (zc n) 0 ++ (List.range 8).map (lenB n high))) → s.len ≤ s.cap → (∀ b, blk s.a b → h0.size ≤ b) → Keep (fun y => h0.size ≤ y) h0 h' → R s h') :
    LoopT (σ := Sl) (fun X s14 h16 =>
      cnd (((s14.len : Int).tmod 64) != 56) (
      newB [.int .u8 0] 5 h16 fun a17 h18 =>
      ldRow (1 * 1) a17 h18 fun cs22 =>
      app [.int .u8 0] 5 1 1 s14.a s14.len s14.cap cs22 1 h18 fun o19 c20 h21 =>
      X (⟨o19, (s14.len + 1), c20⟩ : Sl) h21) (
      LoopT (σ := Sl × Int) (fun X24 s23 h25 =>
      cnd (decide (s23.2 < 8)) (
      withJ (σ := Sl) (fun s26 h28 =>
      X24 (s26, (w64 (s23.2 + 1))) h28) (fun J27 =>
      withJ (σ := Int) (fun s29 h31 =>
      geZ s29 (
      newB [.int .u8 (IntKind.u8.wrap ((shrI .u64 (IntKind.u64.wrap ((IntKind.u64.wrap ((n : Int))) * 8)) s29)))] 5 h31 fun a32 h33 =>
      ldRow (1 * 1) a32 h33 fun cs37 =>
      app [.int .u8 0] 5 1 1 s23.1.a s23.1.len s23.1.cap cs37 1 h33 fun o34 c35 h36 =>
      J27 (⟨o34, (s23.1.len + 1), c35⟩ : Sl) h36)) (fun J30 =>
      cnd high (
      J30 (w64 (56 - (w64 (8 * s23.2)))) h25) (
      J30 (w64 (8 * s23.2)) h25)))) (
      R s23.1 h25)) (s14, 0) h16)) o h := by
  have step : ∀ {h1 : Heap} {s : Sl} {cur : List UInt8} {b : UInt8} (v : Value) {K : Option Addr → Nat → Heap → Prop}, Bl h1 s.a s.len s.cap cur → (∀ b, blk s.a b → h0.size ≤ b) → Keep (fun y => h0.size ≤ y) h0 h1 → s.len ≤ n + 1500 → v = byteV b →
      (∀ o c h', Bl h' o (s.len + 1) c (cur ++ [b]) → (∀ b, blk o b → h0.size ≤ b) → Keep (fun y => h0.size ≤ y) h0 h' → K o c h') →
      newB [v] 5 h1 fun a17 h18 => ldRow (1 * 1) a17 h18 fun cs22 => app [.int .u8 0] 5 1 1 s.a s.len s.cap cs22 1 h18 fun o19 c20 h21 => K o19 c20 h21 := by
    intro h1 s cur b v K w1 w2 w3 w4 w5 w6
    refine newB_row ?_
    intro h2 s2 r2 k2
    refine ldRow_row r2 (by simp) ?_
    have w1' : Bl h2 s.a s.len s.cap cur := SlR.keep w1 k2 (fun _ _ h => h)
    refine w1'.push (new := [b]) (by omega) rfl (by simp [w5]) ?_
    intro a' c' h3 q1 q2 q3
    have z := w3.size
    refine w6 a' c' h3 q1 (fun y hy => ?_) ((w3.trans k2 (fun _ _ h => h.elim)).trans q2 (fun y _ hy => w2 y hy))
    rcases q3 y hy with hq | hq
    · exact w2 y hq
    · omega
  have hol := hb.len
  refine LoopT.intro (fun s h' => ∃ j, j ≤ zc n ∧ s.len = o.len + j ∧ Bl h' s.a s.len s.cap (bs ++ List.replicate j 0) ∧ (∀ b, blk s.a b → h0.size ≤ b) ∧ Keep (fun y => h0.size ≤ y) h0 h') (fun s _ => o.len + zc n - s.len)
    ⟨0, Nat.zero_le _, rfl, by simpa using hb, hnew, hk0⟩ ?_
  rintro s h1 ⟨j, q1, q2, q3, q4, q5⟩
  have hz : zc n = (119 - n % 64) % 64 := rfl
  rw [show (64 : Int) = ((64 : Nat) : Int) from rfl, tmod_nat]
  refine cnd_of (fun hc => ?_) (fun hc => ?_)
  · have hc' : s.len % 64 ≠ 56 := by
      intro e
      rw [e] at hc
      simp at hc
    have hjz : j < zc n := by omega
    refine step (b := 0) (.int .u8 0) q3 q4 q5 (by omega) rfl ?_
    intro o' c' h' e2 e3 e4
    refine ⟨⟨j + 1, by omega, by show s.len + 1 = _; omega, ?_, e3, e4⟩, by show o.len + zc n - (s.len + 1) < _; omega⟩
    rw [List.replicate_succ', ← List.append_assoc]
    exact e2
  · have hc' : s.len % 64 = 56 := by
      simp at hc
      omega
    have hjz : j = zc n := by omega
    subst hjz
    refine LoopT.intro (fun (t : Sl × Int) h' => 0 ≤ t.2 ∧ t.2 ≤ 8 ∧ t.1.len = o.len + zc n + t.2.toNat ∧ Bl h' t.1.a t.1.len t.1.cap (bs ++ (List.replicate (zc n) 0 ++ (List.range t.2.toNat).map (lenB n high))) ∧ (∀ b, blk t.1.a b → h0.size ≤ b) ∧ Keep (fun y => h0.size ≤ y) h0 h') (fun t _ => (8 - t.2).toNat)
      ⟨by simp, by simp, by simp [q2], by simpa using q3, q4, q5⟩ ?_
    rintro ⟨t, i⟩ h2 ⟨p1, p2, p3, p4, p5, p6⟩
    replace p1 : 0 ≤ i := p1
    replace p2 : i ≤ 8 := p2
    replace p3 : t.len = o.len + zc n + i.toNat := p3
    replace p4 : Bl h2 t.a t.len t.cap (bs ++ (List.replicate (zc n) 0 ++ (List.range i.toNat).map (lenB n high))) := p4
    replace p5 : ∀ b, blk t.a b → h0.size ≤ b := p5
    refine cnd_dec (fun hi => ?_) (fun hi => ?_)
    · replace hi : i < 8 := hi
      refine withJ.inl ?_
      have hw : w64 (i + 1) = i + 1 := w64_id (by omega) (by omega)
      have hw8 : w64 (8 * i) = 8 * i := w64_id (by omega) (by omega)
      have hw56 : w64 (56 - 8 * i) = 56 - 8 * i := w64_id (by omega) (by omega)
      refine withJ.intro (fun (k : Int) h' => h' = h2 ∧ k = if high then 56 - 8 * i else 8 * i) ?_ ?_
      · rintro k h' ⟨rfl, hk'⟩
        refine geZ_of (by rw [hk']; split <;> omega) ?_
        refine step (b := lenB n high i.toNat) _ p4 p5 p6 (by show t.len ≤ _; omega) (lenB_val (by omega) high p1 hi hk') ?_
        intro o' c' h3 e2 e3 e4
        show (0 ≤ w64 (i + 1) ∧ w64 (i + 1) ≤ 8 ∧ t.len + 1 = o.len + zc n + (w64 (i + 1)).toNat ∧ Bl h3 o' (t.len + 1) c' (bs ++ (List.replicate (zc n) 0 ++ (List.range (w64 (i + 1)).toNat).map (lenB n high))) ∧ (∀ b, blk o' b → h0.size ≤ b) ∧ Keep (fun y => h0.size ≤ y) h0 h3) ∧ (8 - w64 (i + 1)).toNat < (8 - i).toNat
        rw [hw, show (i + 1).toNat = i.toNat + 1 by omega, List.range_succ, List.map_append]
        refine ⟨⟨by omega, by omega, by omega, ?_, e3, e4⟩, by omega⟩
        simpa using e2
      · intro J hJ
        show cnd high (J (w64 (56 - w64 (8 * i))) h2) (J (w64 (8 * i)) h2)
        rw [hw8, hw56]
        refine cnd_of (fun hh => hJ _ _ ⟨rfl, by rw [hh]; rfl⟩) (fun hh => hJ _ _ ⟨rfl, by rw [hh]; rfl⟩)
    · have : i = 8 := by
        have : ¬ i < 8 := hi
        omega
      subst this
      exact hk t h2 p4 (SlR.le p4) p5 p6

theorem filled_spec {h : Heap} {a : Option Addr} {l c : Nat} {bs : List UInt8} {high : Bool} (hb : Rb h a l bs) (hc : l ≤ c) (hl : l ≤ 140737488352000) {R : Sl → Heap → Prop}
    (hk : ∀ s h', Bl h' s.a s.len s.cap (fillL bs high) → s.len ≤ s.cap → (∀ b, blk s.a b → h.size ≤ b) → Keep (fun _ => False) h h' → R s h') :
    CallT Tryd.prog hash_filled_no [.slice a l c, .bool high] h [.sc .sl] R := by
  have hcall := hash_filled_call (b_0 := ⟨a, l, c⟩) (high_1 := high) (R := R) (h := h)
  apply hcall
  simp only [hash_filled]
  have hlen := hb.len
  have ed : w64 ((l : Int).tdiv 64) = ((l / 64 : Nat) : Int) := by
    rw [Int.tdiv_eq_ediv_of_nonneg (by omega)]
    rw [w64_id (by omega) (by omega)]
    omega
  have em : w64 (((l / 64 : Nat) : Int) * 64) = ((l / 64 * 64 : Nat) : Int) := by
    rw [w64_id (by omega) (by omega)]; omega
  rw [ed, em]
  refine hb.sub (by omega) (by omega) (by omega) (by omega) (by omega) ?_
  intro a1 hb1 hblk1
  rw [Int.toNat_natCast, show ((l : Int) - ((l / 64 * 64 : Nat) : Int)).toNat = l - l / 64 * 64 by omega] at hb1
  rw [show ((l : Int) - ((l / 64 * 64 : Nat) : Int)).toNat = l - l / 64 * 64 by omega]
  rw [List.take_of_length_le (by rw [List.length_drop]; omega)] at hb1
  refine mkSl_row (by decide) (by decide) (by decide) (by decide) ?_
  intro h2 s2 r2 k2
  have e0 : Bl h2 (some ⟨h.size, 0, none⟩) 0 128 [] := .inr ⟨h.size, 0, _, rfl, r2, by simp, by simp [zerosL_one], by simp, by simp⟩
  refine (hb1.keep k2 (fun _ _ _ h => h)).rd ?_
  refine e0.push (new := bs.drop (l / 64 * 64)) (by simp; omega) (by rw [List.length_drop]; omega) rfl ?_
  intro a3 c3 h3 q1 q2 q3
  refine newB_row ?_
  intro h4 s4 r4 k4
  refine ldRow_row r4 (by simp) ?_
  have q1' : Bl h4 a3 _ c3 _ := SlR.keep q1 k4 (fun _ _ h => h)
  refine q1'.push (new := [128]) (by simp; omega) rfl rfl ?_
  intro a5 c5 h5 w1 w2 w3
  have z3 := q2.size
  have new3 : ∀ b, blk a3 b → h.size ≤ b := fun b hb' => by
    rcases q3 b hb' with hh | hh
    · rw [blk_some] at hh; simp only at hh; omega
    · omega
  have new5 : ∀ b, blk a5 b → h.size ≤ b := fun b hb' => by
    rcases w3 b hb' with hh | hh
    · exact new3 b hh
    · omega
  have k5 : Keep (fun y => h.size ≤ y) h h5 := (((k2.mono (fun _ _ h => h.elim)).trans q2 (fun y _ hb' => by rw [blk_some] at hb'; simp only at hb'; omega)).trans k4 (fun _ _ h => h.elim)).trans w2 (fun y _ hb' => new3 y hb')
  refine pad_loops (n := l) (h0 := h) (by omega) w1 new5 k5 (by simp; omega) (by simp; omega) ?_
  intro s h' v1 v2 v3 v4
  refine hk s h' ?_ v2 v3 ⟨v4.size, fun b hb' _ => v4.same b hb' (by omega)⟩
  unfold fillL tailL
  rw [← hlen]
  simpa using v1

/-! ### MD5 -/
def sineL : List W := [3614090360#32, 3905402710#32, 606105819#32, 3250441966#32, 4118548399#32, 1200080426#32, 2821735955#32, 4249261313#32, 1770035416#32, 2336552879#32, 4294925233#32, 2304563134#32, 1804603682#32, 4254626195#32, 2792965006#32, 1236535329#32, 4129170786#32, 3225465664#32, 643717713#32, 3921069994#32, 3593408605#32, 38016083#32, 3634488961#32, 3889429448#32, 568446438#32, 3275163606#32, 4107603335#32, 1163531501#32, 2850285829#32, 4243563512#32, 1735328473#32, 2368359562#32, 4294588738#32, 2272392833#32, 1839030562#32, 4259657740#32, 2763975236#32, 1272893353#32, 4139469664#32, 3200236656#32, 681279174#32, 3936430074#32, 3572445317#32, 76029189#32, 3654602809#32, 3873151461#32, 530742520#32, 3299628645#32, 4096336452#32, 1126891415#32, 2878612391#32, 4237533241#32, 1700485571#32, 2399980690#32, 4293915773#32, 2240044497#32, 1873313359#32, 4264355552#32, 2734768916#32, 1309151649#32, 4149444226#32, 3174756917#32, 718787259#32, 3951481745#32]
def mdT (n : Nat) : Nat := (([[7, 12, 17, 22], [5, 9, 14, 20], [4, 11, 16, 23], [6, 10, 15, 21]] : List (List Nat)).getD (n / 16) []).getD (n % 4) 0
def mdf (i : Nat) (b c d : W) : W := if i < 16 then (b &&& c) ||| (~~~b &&& d) else if i < 32 then (d &&& b) ||| (~~~d &&& c) else if i < 48 then b ^^^ c ^^^ d else c ^^^ (b ||| ~~~d)
def mdg (i : Nat) : Nat := if i < 16 then i else if i < 32 then (5 * i + 1) % 16 else if i < 48 then (3 * i + 5) % 16 else 7 * i % 16
def mdW (bs : List UInt8) (i : Nat) : W := ((ub (bs.getD (4 * i) 0) ||| ub (bs.getD (4 * i + 1) 0) <<< 8) ||| ub (bs.getD (4 * i + 2) 0) <<< 16) ||| ub (bs.getD (4 * i + 3) 0) <<< 24
abbrev W4 := W × W × W × W
def mdStep (bs : List UInt8) (x : W4) (i : Nat) : W4 := (x.2.2.2, x.2.1 + rotl (mdf i x.2.1 x.2.2.1 x.2.2.2 + (x.1 + sineL.getD i 0 + mdW bs (mdg i))) (mdT i), x.2.1, x.2.2.1)
def mdBlk (x : W4) (bs : List UInt8) : W4 :=
  let r := (List.range 64).foldl (mdStep bs) x
  (x.1 + r.1, x.2.1 + r.2.1, x.2.2.1 + r.2.2.1, x.2.2.2 + r.2.2.2)
def u4 (x : W4) : Int × Int × Int × Int := (u x.1, u x.2.1, u x.2.2.1, u x.2.2.2)

theorem mdT_lt (n : Nat) (hn : n < 64) : mdT n < 32 := by
  have h : ∀ k : Fin 64, mdT k.val < 32 := by decide
  exact h ⟨n, hn⟩

theorem ws_vals (l : List W) : ∀ v ∈ l.map (fun w => Value.int .u32 (u w)), v.oneCell' = true := fun v hv => by
  obtain ⟨x, _, rfl⟩ := List.mem_map.1 hv; rfl

theorem putL_all {cs new : List Value} (h : new.length = cs.length) : putL cs 0 new = new := by
  unfold putL
  rw [List.take_zero, List.nil_append, List.drop_of_length_le (by omega), List.append_nil]

theorem div16 {i : Int} (h0 : 0 ≤ i) (h1 : i < 64) : w64 (i.tdiv 16) = i / 16 := by
  rw [Int.tdiv_eq_ediv_of_nonneg h0, w64_id (by omega) (by omega)]

theorem getD_of {α : Type} {l : List α} {i : Nat} {x d : α} (h : l[i]? = some x) : l.getD i d = x := by rw [List.getD_eq_getElem?_getD, h]; rfl

def st (bs : List UInt8) (x : W4) (n : Nat) : W4 := (List.range n).foldl (mdStep bs) x
theorem st_succ (bs : List UInt8) (x : W4) (n : Nat) : st bs x (n + 1) = mdStep bs (st bs x n) n := by unfold st; rw [List.range_succ, List.foldl_append]; rfl

end Hash
namespace Hash

/-- whole blocks, one behind the other -/
def blocksN {α : Type} (f : α → List UInt8 → α) : Nat → α → List UInt8 → α
  | 0, x, _ => x
  | n + 1, x, bs => blocksN f n (f x (bs.take 64)) (bs.drop 64)

theorem blocksN_succ {α : Type} (f : α → List UInt8 → α) : ∀ (n : Nat) (x : α) (bs : List UInt8), blocksN f (n + 1) x bs = f (blocksN f n x bs) ((bs.drop (64 * n)).take 64)
  | 0, x, bs => by simp [blocksN]
  | n + 1, x, bs => by
    have := blocksN_succ f n (f x (bs.take 64)) (bs.drop 64)
    rw [List.drop_drop] at this
    show blocksN f (n + 1) (f x (bs.take 64)) (bs.drop 64) = _
    rw [this]
    show f (blocksN f (n + 1) x bs) _ = _
    congr 3
    omega

theorem blocksN_append {α : Type} (f : α → List UInt8 → α) : ∀ (n m : Nat) (x : α) (xs bs : List UInt8), xs.length = 64 * n → blocksN f (n + m) x (xs ++ bs) = blocksN f m (blocksN f n x xs) bs
  | 0, m, x, xs, bs, h => by
    have : xs = [] := List.length_eq_zero_iff.1 (by omega)
    subst this
    simp [blocksN]
  | n + 1, m, x, xs, bs, h => by
    rw [show n + 1 + m = (n + m) + 1 by omega]
    show blocksN f (n + m) (f x ((xs ++ bs).take 64)) ((xs ++ bs).drop 64) = _
    rw [List.take_append_of_le_length (by omega), List.drop_append_of_le_length (by omega)]
    exact blocksN_append f n m _ _ _ (by rw [List.length_drop]; omega)

theorem blocksN_take {α : Type} (f : α → List UInt8 → α) : ∀ (n : Nat) (x : α) (bs : List UInt8), blocksN f n x (bs.take (64 * n)) = blocksN f n x bs
  | 0, x, bs => rfl
  | n + 1, x, bs => by
    show blocksN f n (f x ((bs.take (64 * (n + 1))).take 64)) ((bs.take (64 * (n + 1))).drop 64) = blocksN f n (f x (bs.take 64)) (bs.drop 64)
    rw [List.take_take, List.drop_take, show min 64 (64 * (n + 1)) = 64 by omega, show 64 * (n + 1) - 64 = 64 * n by omega]
    exact blocksN_take f n _ _

def md0 : W4 := (1732584193#32, 4023233417#32, 2562383102#32, 271733878#32)
def le4 (x : W) : List UInt8 := [lowb x, lowb (x >>> 8), lowb (x >>> 16), lowb (x >>> 24)]
/-- a text's blocks and what follows on them -/
def sumSt {α : Type} (f : α → List UInt8 → α) (x : α) (high : Bool) (bs : List UInt8) : α := blocksN f ((fillL bs high).length / 64) (blocksN f (bs.length / 64) x bs) (fillL bs high)
def md5St (bs : List UInt8) : W4 := sumSt mdBlk md0 false bs
def md5F (bs : List UInt8) : List UInt8 := le4 (md5St bs).1 ++ (le4 (md5St bs).2.1 ++ (le4 (md5St bs).2.2.1 ++ le4 (md5St bs).2.2.2))
def c4 (x : W4) : List Value := [.int .u32 (u x.1), .int .u32 (u x.2.1), .int .u32 (u x.2.2.1), .int .u32 (u x.2.2.2)]

end Hash
namespace Hash

def rootL : List W := [1116352408#32, 1899447441#32, 3049323471#32, 3921009573#32, 961987163#32, 1508970993#32, 2453635748#32, 2870763221#32, 3624381080#32, 310598401#32, 607225278#32, 1426881987#32, 1925078388#32, 2162078206#32, 2614888103#32, 3248222580#32, 3835390401#32, 4022224774#32, 264347078#32, 604807628#32, 770255983#32, 1249150122#32, 1555081692#32, 1996064986#32, 2554220882#32, 2821834349#32, 2952996808#32, 3210313671#32, 3336571891#32, 3584528711#32, 113926993#32, 338241895#32, 666307205#32, 773529912#32, 1294757372#32, 1396182291#32, 1695183700#32, 1986661051#32, 2177026350#32, 2456956037#32, 2730485921#32, 2820302411#32, 3259730800#32, 3345764771#32, 3516065817#32, 3600352804#32, 4094571909#32, 275423344#32, 430227734#32, 506948616#32, 659060556#32, 883997877#32, 958139571#32, 1322822218#32, 1537002063#32, 1747873779#32, 1955562222#32, 2024104815#32, 2227730452#32, 2361852424#32, 2428436474#32, 2756734187#32, 3204031479#32, 3329325298#32]
abbrev W8 := W × W × W × W × W × W × W × W
def l8 (x : W8) : List W := [x.1, x.2.1, x.2.2.1, x.2.2.2.1, x.2.2.2.2.1, x.2.2.2.2.2.1, x.2.2.2.2.2.2.1, x.2.2.2.2.2.2.2]
def u8 (x : W8) : Int × Int × Int × Int × Int × Int × Int × Int := (u x.1, u x.2.1, u x.2.2.1, u x.2.2.2.1, u x.2.2.2.2.1, u x.2.2.2.2.2.1, u x.2.2.2.2.2.2.1, u x.2.2.2.2.2.2.2)
def c8 (x : W8) : List Value := [.int .u32 (u x.1), .int .u32 (u x.2.1), .int .u32 (u x.2.2.1), .int .u32 (u x.2.2.2.1), .int .u32 (u x.2.2.2.2.1), .int .u32 (u x.2.2.2.2.2.1), .int .u32 (u x.2.2.2.2.2.2.1), .int .u32 (u x.2.2.2.2.2.2.2)]

def rotr (x : W) (n : Nat) : W := rotl x (32 - n)
def be4 (bs : List UInt8) (i : Nat) : W := ((ub (bs.getD (4 * i) 0) <<< 24 ||| ub (bs.getD (4 * i + 1) 0) <<< 16) ||| ub (bs.getD (4 * i + 2) 0) <<< 8) ||| ub (bs.getD (4 * i + 3) 0)
def sg0 (x : W) : W := rotr x 7 ^^^ rotr x 18 ^^^ x >>> 3
def sg1 (x : W) : W := rotr x 17 ^^^ rotr x 19 ^^^ x >>> 10
def shaSched (bs : List UInt8) : Nat → List W
  | 0 => []
  | n + 1 => shaSched bs n ++ [if n < 16 then be4 bs n else (shaSched bs n).getD (n - 16) 0 + sg0 ((shaSched bs n).getD (n - 15) 0) + (shaSched bs n).getD (n - 7) 0 + sg1 ((shaSched bs n).getD (n - 2) 0)]
theorem shaSched_length (bs : List UInt8) : ∀ n, (shaSched bs n).length = n
  | 0 => rfl
  | n + 1 => by
    show (shaSched bs n ++ [_]).length = n + 1
    rw [List.length_append, shaSched_length bs n]; rfl
theorem shaSched_get (bs : List UInt8) {j : Nat} : ∀ {n m : Nat}, j < n → n ≤ m → (shaSched bs m).getD j 0 = (shaSched bs n).getD j 0 := by
  intro n m hj hnm
  induction m with
  | zero => omega
  | succ m ih =>
    by_cases e : n = m + 1
    · rw [e]
    · rw [← ih (by omega)]
      show (shaSched bs m ++ [_]).getD j 0 = _
      rw [List.getD_eq_getElem?_getD, List.getElem?_append_left (by rw [shaSched_length]; omega), ← List.getD_eq_getElem?_getD]

/-- one round, out of the word of the schedule -/
def shaStep (ws : List W) (x : W8) (i : Nat) : W8 :=
  let t := x.2.2.2.2.2.2.2 + (rotr x.2.2.2.2.1 6 ^^^ rotr x.2.2.2.2.1 11 ^^^ rotr x.2.2.2.2.1 25) + ((x.2.2.2.2.1 &&& x.2.2.2.2.2.1) ^^^ (~~~x.2.2.2.2.1 &&& x.2.2.2.2.2.2.1)) + rootL.getD i 0 + ws.getD i 0
  let v := (rotr x.1 2 ^^^ rotr x.1 13 ^^^ rotr x.1 22) + ((x.1 &&& x.2.1) ^^^ (x.1 &&& x.2.2.1) ^^^ (x.2.1 &&& x.2.2.1))
  (t + v, x.1, x.2.1, x.2.2.1, x.2.2.2.1 + t, x.2.2.2.2.1, x.2.2.2.2.2.1, x.2.2.2.2.2.2.1)
def shaR (ws : List W) (x : W8) (n : Nat) : W8 := (List.range n).foldl (shaStep ws) x
theorem shaR_succ (ws : List W) (x : W8) (n : Nat) : shaR ws x (n + 1) = shaStep ws (shaR ws x n) n := by unfold shaR; rw [List.range_succ, List.foldl_append]; rfl
def add8 (x y : W8) : W8 := (x.1 + y.1, x.2.1 + y.2.1, x.2.2.1 + y.2.2.1, x.2.2.2.1 + y.2.2.2.1, x.2.2.2.2.1 + y.2.2.2.2.1, x.2.2.2.2.2.1 + y.2.2.2.2.2.1, x.2.2.2.2.2.2.1 + y.2.2.2.2.2.2.1, x.2.2.2.2.2.2.2 + y.2.2.2.2.2.2.2)
def shaBlk (x : W8) (bs : List UInt8) : W8 := add8 x (shaR (shaSched bs 64) x 64)

theorem ld8 {h : Heap} {p : Nat} {x : W8} {K : Int → Int → Int → Int → Int → Int → Int → Int → Prop} (hr : Row h p (c8 x)) (hk : K (u x.1) (u x.2.1) (u x.2.2.1) (u x.2.2.2.1) (u x.2.2.2.2.1) (u x.2.2.2.2.2.1) (u x.2.2.2.2.2.2.1) (u x.2.2.2.2.2.2.2)) :
    ldI .u32 ⟨p, 0, none⟩ h fun n0 =>
    ldI .u32 ((⟨p, 0, none⟩ : Addr).add 1) h fun n1 =>
    ldI .u32 ((⟨p, 0, none⟩ : Addr).add 2) h fun n2 =>
    ldI .u32 ((⟨p, 0, none⟩ : Addr).add 3) h fun n3 =>
    ldI .u32 ((⟨p, 0, none⟩ : Addr).add 4) h fun n4 =>
    ldI .u32 ((⟨p, 0, none⟩ : Addr).add 5) h fun n5 =>
    ldI .u32 ((⟨p, 0, none⟩ : Addr).add 6) h fun n6 =>
    ldI .u32 ((⟨p, 0, none⟩ : Addr).add 7) h fun n7 =>
    K n0 n1 n2 n3 n4 n5 n6 n7 :=
  ldI_row (o := 0) hr rfl (ldI_row (o := 1) hr rfl (ldI_row (o := 2) hr rfl (ldI_row (o := 3) hr rfl (ldI_row (o := 4) hr rfl (ldI_row (o := 5) hr rfl (ldI_row (o := 6) hr rfl (ldI_row (o := 7) hr rfl hk)))))))

theorem st8 {h : Heap} {p : Nat} {cs : List Value} {v0 v1 v2 v3 v4 v5 v6 v7 : Int} {K : Heap → Prop} (hr : Row h p cs) (hl : cs.length = 8)
    (hk : ∀ h', h'.size = h.size → Row h' p [.int .u32 v0, .int .u32 v1, .int .u32 v2, .int .u32 v3, .int .u32 v4, .int .u32 v5, .int .u32 v6, .int .u32 v7] → Keep (· = p) h h' → K h') :
    stC ⟨p, 0, none⟩ (.int .u32 v0) h fun h1 =>
    stC ((⟨p, 0, none⟩ : Addr).add 1) (.int .u32 v1) h1 fun h2 =>
    stC ((⟨p, 0, none⟩ : Addr).add 2) (.int .u32 v2) h2 fun h3 =>
    stC ((⟨p, 0, none⟩ : Addr).add 3) (.int .u32 v3) h3 fun h4 =>
    stC ((⟨p, 0, none⟩ : Addr).add 4) (.int .u32 v4) h4 fun h5 =>
    stC ((⟨p, 0, none⟩ : Addr).add 5) (.int .u32 v5) h5 fun h6 =>
    stC ((⟨p, 0, none⟩ : Addr).add 6) (.int .u32 v6) h6 fun h7 =>
    stC ((⟨p, 0, none⟩ : Addr).add 7) (.int .u32 v7) h7 fun h8 =>
    K h8 := by
  obtain ⟨a0, a1, a2, a3, a4, a5, a6, a7, rfl⟩ : ∃ a0 a1 a2 a3 a4 a5 a6 a7, cs = [a0, a1, a2, a3, a4, a5, a6, a7] := by
    match cs, hl with
    | [a0, a1, a2, a3, a4, a5, a6, a7], _ => exact ⟨_, _, _, _, _, _, _, _, rfl⟩
  refine stC_row (o := 0) hr (by simp) rfl ?_
  intro h1 s1 r1 k1
  refine stC_row (o := 1) r1 (by simp) rfl ?_
  intro h2 s2 r2 k2
  refine stC_row (o := 2) r2 (by simp) rfl ?_
  intro h3 s3 r3 k3
  refine stC_row (o := 3) r3 (by simp) rfl ?_
  intro h4 s4 r4 k4
  refine stC_row (o := 4) r4 (by simp) rfl ?_
  intro h5 s5 r5 k5
  refine stC_row (o := 5) r5 (by simp) rfl ?_
  intro h6 s6 r6 k6
  refine stC_row (o := 6) r6 (by simp) rfl ?_
  intro h7 s7 r7 k7
  refine stC_row (o := 7) r7 (by simp) rfl ?_
  intro h8 s8 r8 k8
  exact hk h8 (by omega) r8 (((((((k1.trans' k2).trans' k3).trans' k4).trans' k5).trans' k6).trans' k7).trans' k8)

theorem turn_spec {h : Heap} {x : W} {n : Nat} (h0 : 0 < n) (h1 : n < 32) {R : Int → Heap → Prop} (hk : R (u (rotr x n)) h) : CallT Tryd.prog hash_shaBlock_1_no [.int .u32 (u x), .int .i64 (n : Int)] h [.sc (.int .u32)] R := by
  apply hash_shaBlock_1_call
  simp only [hash_shaBlock_1]
  refine rotl_spec ?_
  have e : (w64 (0 - (n : Int)) % 32).toNat = 32 - n := by rw [w64_id (by omega) (by omega)]; omega
  rw [e]
  exact hk

theorem shaBlock_spec {h : Heap} {x : W8} {a : Option Addr} {c : Nat} {bs : List UInt8} (hb : Rb h a 64 bs) {ka : Nat} (hs : Row h ka (rootL.map fun w => .int .u32 (u w))) {R : (Int × Int × Int × Int × Int × Int × Int × Int) → Heap → Prop}
    (hk : ∀ h', Keep (fun _ => False) h h' → R (u8 (shaBlk x bs)) h') :
    CallT Tryd.prog hash_shaBlock_no [.agg #[.int .u32 (u x.1), .int .u32 (u x.2.1), .int .u32 (u x.2.2.1), .int .u32 (u x.2.2.2.1), .int .u32 (u x.2.2.2.2.1), .int .u32 (u x.2.2.2.2.2.1), .int .u32 (u x.2.2.2.2.2.2.1), .int .u32 (u x.2.2.2.2.2.2.2)], .slice a 64 c, .pointer (some ⟨ka, 0, none⟩)] h [.agg [.int .u32, .int .u32, .int .u32, .int .u32, .int .u32, .int .u32, .int .u32, .int .u32]] R := by
  have hcall := hash_shaBlock_call (x_0 := u8 x) (x_1 := ⟨a, 64, c⟩) (x_2 := some ⟨ka, 0, none⟩) (R := R) (h := h)
  apply hcall
  unfold hash_shaBlock
  have hlen := hb.len
  have hka := hs.lt
  refine newB_row ?_
  intro h1 s1 r1 k1
  refine newB_row ?_
  intro h2 s2 r2 k2
  refine newB_row ?_
  intro h3 s3 r3 k3
  have k03 : Keep (fun _ => False) h h3 := (k1.trans' k2).trans' k3
  have r13 : Row h3 h.size (c8 x) := k3.row (k2.row r1 (fun h => h)) (fun h => h)
  have r23 := k3.row r2 (fun h => h)
  refine LoopT.intro (fun i h' => 0 ≤ i ∧ i ≤ 64 ∧ Row h' h2.size ((shaSched bs i.toNat).map (fun w => Value.int .u32 (u w)) ++ List.replicate (64 - i.toNat) (Value.int .u32 0)) ∧ Keep (· = h2.size) h3 h') (fun i _ => (64 - i).toNat) ⟨by omega, by omega, r3, .refl _ _⟩ ?_
  rintro i h4 ⟨q1, q2, q3, q4⟩
  have hb4 : Rb h4 a 64 bs := (hb.keep k03 (fun _ _ _ h => h)).keep q4 (fun hl b hb' e => by
    have := hb.lt hl hb'
    have e' : b = h2.size := e
    omega)
  refine cnd_dec (fun hi => ?_) (fun hi => ?_)
  · replace hi : i < 64 := hi
    have hw : w64 (i + 1) = i + 1 := w64_id (by omega) (by omega)
    have hn1 : (i + 1).toNat = i.toNat + 1 := by omega
    have slen := shaSched_length bs i.toNat
    -- the next word is laid
    have lay : ∀ {v : Int} {K : Heap → Prop}, v = u ((shaSched bs (i.toNat + 1)).getD i.toNat 0) → (∀ h5, (0 ≤ w64 (i + 1) ∧ w64 (i + 1) ≤ 64 ∧ Row h5 h2.size ((shaSched bs (w64 (i + 1)).toNat).map (fun w => Value.int .u32 (u w)) ++ List.replicate (64 - (w64 (i + 1)).toNat) (Value.int .u32 0)) ∧ Keep (· = h2.size) h3 h5) ∧ (64 - w64 (i + 1)).toNat < (64 - i).toNat → K h5) →
        stC ((⟨h2.size, 0, none⟩ : Addr).add (i.toNat * 1)) (.int .u32 v) h4 K := by
      intro v K hv hK
      rw [add_mk, Nat.zero_add, Nat.mul_one]
      refine stC_row q3 (by simp [slen]; omega) rfl ?_
      intro h5 s5 r5 k5
      refine hK h5 ?_
      rw [hw, hn1]
      refine ⟨⟨by omega, by omega, ?_, q4.trans' k5⟩, by omega⟩
      have e : ((shaSched bs i.toNat).map (fun w => Value.int .u32 (u w)) ++ List.replicate (64 - i.toNat) (Value.int .u32 0)).set i.toNat (.int .u32 v) = (shaSched bs (i.toNat + 1)).map (fun w => Value.int .u32 (u w)) ++ List.replicate (64 - (i.toNat + 1)) (Value.int .u32 0) := by
        have e1 : List.replicate (64 - i.toNat) (Value.int .u32 0) = .int .u32 0 :: List.replicate (64 - (i.toNat + 1)) (.int .u32 0) := by
          rw [show 64 - i.toNat = (64 - (i.toNat + 1)) + 1 by omega, List.replicate_succ]
        rw [e1, List.set_append_right _ _ (by simp [slen])]
        have e2 : i.toNat - ((shaSched bs i.toNat).map (fun w => Value.int .u32 (u w))).length = 0 := by simp [slen]
        rw [e2]
        obtain ⟨nx, hnx⟩ : ∃ nx, shaSched bs (i.toNat + 1) = shaSched bs i.toNat ++ [nx] := ⟨_, rfl⟩
        have hvx : v = u nx := by
          rw [hv, hnx, List.getD_eq_getElem?_getD, List.getElem?_append_right (by omega), slen, Nat.sub_self]; rfl
        rw [hnx, hvx]
        simp
      rw [← e]
      exact r5
    have old : ∀ j : Nat, j < i.toNat → cellH h4 ((⟨h2.size, 0, none⟩ : Addr).add (j * 1)) = some (.int .u32 (u ((shaSched bs i.toNat).getD j 0))) := by
      intro j hj
      rw [add_mk, Nat.zero_add, Nat.mul_one, q3.cells, List.getElem?_append_left (by simp [slen]; omega), List.getElem?_map, List.getElem?_eq_getElem (by omega), List.getD_eq_getElem?_getD, List.getElem?_eq_getElem (by omega)]
      rfl
    refine withJ.inl ?_
    refine cnd_dec (fun h16 => ?_) (fun h16 => ?_)
    · have w0 : w64 (4 * i) = 4 * i := w64_id (by omega) (by omega)
      have w1 : w64 (4 * i + 1) = 4 * i + 1 := w64_id (by omega) (by omega)
      have w2 : w64 (4 * i + 2) = 4 * i + 2 := w64_id (by omega) (by omega)
      have w3 : w64 (4 * i + 3) = 4 * i + 3 := w64_id (by omega) (by omega)
      simp only [w0, w1, w2, w3]
      refine hb4.at (by omega) (by show 4 * i < ((64 : Nat) : Int); omega) ?_
      intro b0 e0
      refine hb4.at (by omega) (by show 4 * i + 1 < ((64 : Nat) : Int); omega) ?_
      intro b1 e1
      refine hb4.at (by omega) (by show 4 * i + 2 < ((64 : Nat) : Int); omega) ?_
      intro b2 e2
      refine hb4.at (by omega) (by show 4 * i + 3 < ((64 : Nat) : Int); omega) ?_
      intro b3 e3
      refine inB_of q1 hi (lay ?_ (fun h5 hh => hh))
      rw [u_byte, u_byte, u_byte, u_byte, u_shl _ (by omega) (by omega), u_shl _ (by omega) (by omega), u_shl _ (by omega) (by omega), u_or, u_or, u_or]
      congr 1
      have e : (shaSched bs (i.toNat + 1)).getD i.toNat 0 = be4 bs i.toNat := by
        show (shaSched bs i.toNat ++ [_]).getD i.toNat 0 = _
        rw [List.getD_eq_getElem?_getD, List.getElem?_append_right (by omega), slen, Nat.sub_self]
        show (if i.toNat < 16 then _ else _) = _
        rw [if_pos (by omega)]
      rw [e]
      unfold be4
      rw [getD_of (x := b0) (by rw [← e0]; congr 1; omega), getD_of (x := b1) (by rw [← e1]; congr 1; omega), getD_of (x := b2) (by rw [← e2]; congr 1; omega), getD_of (x := b3) (by rw [← e3]; congr 1; omega)]
      rfl
    · have w15 : w64 (i - 15) = i - 15 := w64_id (by omega) (by omega)
      have w2 : w64 (i - 2) = i - 2 := w64_id (by omega) (by omega)
      have w16 : w64 (i - 16) = i - 16 := w64_id (by omega) (by omega)
      have w7 : w64 (i - 7) = i - 7 := w64_id (by omega) (by omega)
      simp only [w15, w2, w16, w7]
      have l15 := old (i - 15).toNat (by omega)
      have l2 := old (i - 2).toNat (by omega)
      have l16 := old (i - 16).toNat (by omega)
      have l7 := old (i - 7).toNat (by omega)
      refine inB_of (by omega) (by show i - 15 < ((64 : Nat) : Int); omega) (ldI_at l15 (inB_of (by omega) (by show i - 2 < ((64 : Nat) : Int); omega) (ldI_at l2 (inB_of (by omega) (by show i - 16 < ((64 : Nat) : Int); omega) (ldI_at l16 (inB_of (by omega) (by show i - 7 < ((64 : Nat) : Int); omega) (ldI_at l7 ?_)))))))
      refine turn_spec (n := 7) (by omega) (by omega) ⟨ldI_at l7 rfl, ldI_at l16 rfl, ?_⟩
      refine turn_spec (n := 18) (by omega) (by omega) ⟨ldI_at l7 rfl, ldI_at l16 rfl, ?_⟩
      refine turn_spec (n := 17) (by omega) (by omega) ⟨ldI_at l7 rfl, ldI_at l16 rfl, ?_⟩
      refine turn_spec (n := 19) (by omega) (by omega) ⟨ldI_at l7 rfl, ldI_at l16 rfl, ?_⟩
      refine inB_of q1 hi (lay ?_ (fun h5 hh => hh))
      rw [u_shr _ (by omega) (by omega), u_shr _ (by omega) (by omega)]
      simp only [u_xor, u_add]
      congr 1
      have e : (shaSched bs (i.toNat + 1)).getD i.toNat 0 = (shaSched bs i.toNat).getD (i.toNat - 16) 0 + sg0 ((shaSched bs i.toNat).getD (i.toNat - 15) 0) + (shaSched bs i.toNat).getD (i.toNat - 7) 0 + sg1 ((shaSched bs i.toNat).getD (i.toNat - 2) 0) := by
        show (shaSched bs i.toNat ++ [_]).getD i.toNat 0 = _
        rw [List.getD_eq_getElem?_getD, List.getElem?_append_right (by omega), slen, Nat.sub_self]
        show (if i.toNat < 16 then _ else _) = _
        rw [if_neg (by omega)]
      rw [e, show i.toNat - 16 = (i - 16).toNat by omega, show i.toNat - 15 = (i - 15).toNat by omega, show i.toNat - 7 = (i - 7).toNat by omega, show i.toNat - 2 = (i - 2).toNat by omega]
      rfl
  · have hi64 : i = 64 := by
      have : ¬ i < 64 := hi
      omega
    subst hi64
    obtain ⟨ws, hws⟩ : ∃ ws, ws = shaSched bs 64 := ⟨_, rfl⟩
    have hwl : ws.length = 64 := by rw [hws, shaSched_length]
    replace q3 : Row h4 h2.size (ws.map fun w => .int .u32 (u w)) := by
      rw [hws]
      simpa using q3
    have r14 : Row h4 h.size (c8 x) := q4.row r13 (fun e => by
      have : h.size = h2.size := e
      omega)
    refine ld8 r14 ?_
    refine newB_row ?_
    intro h5 s5 r5 k5
    refine st8 r5 rfl ?_
    intro h6 s6 r6 k6
    have k46 : Keep (fun _ => False) h4 h6 := k5.trans k6 (fun y hy e => by
      have e' : y = h4.size := e
      omega)
    have z4 := q4.size
    have ws6 := k46.row q3 (fun h => h)
    have ro6 : Row h6 ka (rootL.map fun w => .int .u32 (u w)) := k46.row (q4.row (k03.row hs (fun h => h)) (fun e => by
      have e' : ka = h2.size := e
      omega)) (fun h => h)
    have r16 := k46.row r14 (fun h => h)
    have r26 := k46.row (q4.row r23 (fun e => by
      have e' : h1.size = h2.size := e
      omega)) (fun h => h)
    refine LoopT.intro (fun i h' => 0 ≤ i ∧ i ≤ 64 ∧ Row h' h4.size (c8 (shaR ws x i.toNat)) ∧ Keep (· = h4.size) h6 h') (fun i _ => (64 - i).toNat) ⟨by omega, by omega, r6, .refl _ _⟩ ?_
    rintro i h7 ⟨p1, p2, p3, p4⟩
    have ws7 := p4.row ws6 (fun e => by
      have e' : h2.size = h4.size := e
      omega)
    have ro7 := p4.row ro6 (fun e => by
      have e' : ka = h4.size := e
      omega)
    obtain ⟨z, hz⟩ : ∃ z, z = shaR ws x i.toNat := ⟨_, rfl⟩
    rw [← hz] at p3
    refine cnd_dec (fun hi => ?_) (fun hi => ?_)
    · replace hi : i < 64 := hi
      have hw : w64 (i + 1) = i + 1 := w64_id (by omega) (by omega)
      have hn1 : (i + 1).toNat = i.toNat + 1 := by omega
      have lk : cellH h7 ((⟨ka, 0, none⟩ : Addr).add (i.toNat * 1)) = some (.int .u32 (u (rootL.getD i.toNat 0))) := by
        have hrl : rootL.length = 64 := rfl
        rw [add_mk, Nat.zero_add, Nat.mul_one, ro7.cells, List.getElem?_map, List.getElem?_eq_getElem (by omega), List.getD_eq_getElem?_getD, List.getElem?_eq_getElem (by omega)]
        rfl
      have lw : cellH h7 ((⟨h2.size, 0, none⟩ : Addr).add (i.toNat * 1)) = some (.int .u32 (u (ws.getD i.toNat 0))) := by
        rw [add_mk, Nat.zero_add, Nat.mul_one, ws7.cells, List.getElem?_map, List.getElem?_eq_getElem (by omega), List.getD_eq_getElem?_getD, List.getElem?_eq_getElem (by omega)]
        rfl
      refine inB_of (by decide) (by decide) (ldI_row (o := 0) p3 rfl (inB_of (by decide) (by decide) (ldI_row (o := 4) p3 rfl (inB_of (by decide) (by decide) (ldI_row (o := 7) p3 rfl (inB_of (by decide) (by decide) (ldI_row (o := 5) p3 rfl (inB_of (by decide) (by decide) (ldI_row (o := 6) p3 rfl ?_)))))))))
      show nn (some ⟨ka, 0, none⟩) _
      refine nn_some (inB_of p1 hi (ldI_at lk (inB_of p1 hi (ldI_at lw ?_))))
      refine turn_spec (n := 6) (by omega) (by omega) ⟨ldI_at lw rfl, ldI_at lk rfl, ldI_row (o := 6) p3 rfl rfl, ldI_row (o := 5) p3 rfl rfl, ldI_row (o := 7) p3 rfl rfl, ?_⟩
      refine turn_spec (n := 11) (by omega) (by omega) ⟨ldI_at lw rfl, ldI_at lk rfl, ldI_row (o := 6) p3 rfl rfl, ldI_row (o := 5) p3 rfl rfl, ldI_row (o := 7) p3 rfl rfl, ?_⟩
      refine turn_spec (n := 25) (by omega) (by omega) ⟨ldI_at lw rfl, ldI_at lk rfl, ldI_row (o := 6) p3 rfl rfl, ldI_row (o := 5) p3 rfl rfl, ldI_row (o := 7) p3 rfl rfl, ?_⟩
      refine inB_of (by decide) (by decide) (ldI_row (o := 1) p3 rfl (inB_of (by decide) (by decide) (ldI_row (o := 2) p3 rfl (inB_of (by decide) (by decide) (ldI_row (o := 1) p3 rfl (inB_of (by decide) (by decide) (ldI_row (o := 2) p3 rfl ?_)))))))
      refine turn_spec (n := 2) (by omega) (by omega) ⟨ldI_row (o := 2) p3 rfl rfl, ldI_row (o := 1) p3 rfl rfl, ldI_row (o := 2) p3 rfl rfl, ldI_row (o := 1) p3 rfl rfl, ?_⟩
      refine turn_spec (n := 13) (by omega) (by omega) ⟨ldI_row (o := 2) p3 rfl rfl, ldI_row (o := 1) p3 rfl rfl, ldI_row (o := 2) p3 rfl rfl, ldI_row (o := 1) p3 rfl rfl, ?_⟩
      refine turn_spec (n := 22) (by omega) (by omega) ⟨ldI_row (o := 2) p3 rfl rfl, ldI_row (o := 1) p3 rfl rfl, ldI_row (o := 2) p3 rfl rfl, ldI_row (o := 1) p3 rfl rfl, ?_⟩
      refine inB_of (by decide) (by decide) (ldI_row (o := 0) p3 rfl (inB_of (by decide) (by decide) (ldI_row (o := 1) p3 rfl (inB_of (by decide) (by decide) (ldI_row (o := 2) p3 rfl (inB_of (by decide) (by decide) (ldI_row (o := 3) p3 rfl (inB_of (by decide) (by decide) (ldI_row (o := 4) p3 rfl (inB_of (by decide) (by decide) (ldI_row (o := 5) p3 rfl (inB_of (by decide) (by decide) (ldI_row (o := 6) p3 rfl ?_)))))))))))))
      simp only [u_not, u_and, u_xor, u_add]
      refine st8 p3 rfl ?_
      intro h8 s8 r8 k8
      rw [hw, hn1]
      refine ⟨⟨by omega, by omega, ?_, p4.trans' k8⟩, by omega⟩
      rw [shaR_succ, ← hz]
      exact r8
    · have hi64 : i = 64 := by
        have : ¬ i < 64 := hi
        omega
      subst hi64
      have r17 : Row h7 h.size (c8 x) := p4.row r16 (fun e => by
        have e' : h.size = h4.size := e
        omega)
      have r27 := p4.row r26 (fun e => by
        have e' : h1.size = h4.size := e
        omega)
      refine LoopT.intro (fun i h' => 0 ≤ i ∧ i ≤ 8 ∧ Row h' h.size ((List.range 8).map fun j => .int .u32 (u (if j < i.toNat then (l8 x).getD j 0 + (l8 z).getD j 0 else (l8 x).getD j 0))) ∧ Keep (· = h.size) h7 h') (fun i _ => (8 - i).toNat) ⟨by omega, by omega, r17, .refl _ _⟩ ?_
      rintro i h8 ⟨v1, v2, v3, v4⟩
      refine cnd_dec (fun hi8 => ?_) (fun hi8 => ?_)
      · replace hi8 : i < 8 := hi8
        have pz : Row h8 h4.size (c8 z) := v4.row p3 (fun e => by
          have e' : h4.size = h.size := e
          omega)
        have g1 : cellH h8 ((⟨h.size, 0, none⟩ : Addr).add (i.toNat * 1)) = some (.int .u32 (u ((l8 x).getD i.toNat 0))) := by
          rw [add_mk, Nat.zero_add, Nat.mul_one, v3.cells, List.getElem?_map, List.getElem?_range (by omega)]
          simp only [Option.map_some]
          rw [if_neg (by omega)]
        have g2 : cellH h8 ((⟨h4.size, 0, none⟩ : Addr).add (i.toNat * 1)) = some (.int .u32 (u ((l8 z).getD i.toNat 0))) := by
          have e : c8 z = (l8 z).map fun w => .int .u32 (u w) := rfl
          have hl : (l8 z).length = 8 := rfl
          rw [add_mk, Nat.zero_add, Nat.mul_one, pz.cells, e, List.getElem?_map, List.getElem?_eq_getElem (by omega), List.getD_eq_getElem?_getD, List.getElem?_eq_getElem (by omega)]
          rfl
        refine inB_of v1 hi8 (ldI_at g1 (inB_of v1 hi8 (ldI_at g2 (inB_of v1 hi8 ?_))))
        rw [u_add, add_mk, Nat.zero_add, Nat.mul_one]
        refine stC_row v3 (by simp; omega) rfl ?_
        intro h9 s9 r9 k9
        rw [w64_id (x := i + 1) (by omega) (by omega)]
        refine ⟨⟨by omega, by omega, ?_, v4.trans' k9⟩, by omega⟩
        rw [show (i + 1).toNat = i.toNat + 1 by omega]
        have el : ((List.range 8).map fun j => Value.int .u32 (u (if j < i.toNat then (l8 x).getD j 0 + (l8 z).getD j 0 else (l8 x).getD j 0))).set i.toNat (.int .u32 (u ((l8 x).getD i.toNat 0 + (l8 z).getD i.toNat 0))) = (List.range 8).map fun j => Value.int .u32 (u (if j < i.toNat + 1 then (l8 x).getD j 0 + (l8 z).getD j 0 else (l8 x).getD j 0)) := by
          apply List.ext_getElem?
          intro j
          rw [List.getElem?_set, List.length_map, List.length_range, List.getElem?_map, List.getElem?_map]
          by_cases hj : j < 8
          · rw [List.getElem?_range hj]
            simp only [Option.map_some]
            by_cases hij : i.toNat = j
            · rw [if_pos hij, if_pos (by omega), if_pos (by omega), ← hij]
            · rw [if_neg hij]
              by_cases h6 : j < i.toNat
              · rw [if_pos h6, if_pos (by omega)]
              · rw [if_neg h6, if_neg (by omega)]
          · rw [if_neg (by omega), List.getElem?_eq_none (by simp; omega)]
            simp
        rw [← el]
        exact r9
      · have hi8' : i = 8 := by
          have : ¬ i < 8 := hi8
          omega
        subst hi8'
        have r18 : Row h8 h.size (c8 (add8 x z)) := v3
        have r28 := v4.row r27 (fun e => by
          have e' : h1.size = h.size := e
          omega)
        refine ld8 r18 ?_
        refine st8 r28 rfl ?_
        intro h9 s9 r9 k9
        have r9' : Row h9 h1.size (c8 (add8 x z)) := r9
        refine ld8 r9' ?_
        have ez : add8 x z = shaBlk x bs := by unfold shaBlk; rw [hz, hws]; rfl
        rw [ez]
        have zz := k46.size
        have zz2 := p4.size
        refine hk h9 ?_
        have k04 : Keep (fun _ => False) h h4 := k03.trans q4 (fun y hy e => by
          have e' : y = h2.size := e
          omega)
        have k08 : Keep (fun _ => False) h h8 := ((k04.trans' k46).trans p4 (fun y hy e => by
          have e' : y = h4.size := e
          omega)).trans v4 (fun y hy e => by
          have e' : y = h.size := e
          omega)
        exact k08.trans k9 (fun y hy e => by
          have e' : y = h1.size := e
          omega)

end Hash
namespace Hash

def sha0 : W8 := (1779033703#32, 3144134277#32, 1013904242#32, 2773480762#32, 1359893119#32, 2600822924#32, 528734635#32, 1541459225#32)
def be4L (x : W) : List UInt8 := [lowb (x >>> 24), lowb (x >>> 16), lowb (x >>> 8), lowb x]
def shaSt (bs : List UInt8) : W8 := sumSt shaBlk sha0 true bs
def sha256F (bs : List UInt8) : List UInt8 := (l8 (shaSt bs)).flatMap be4L
theorem sha256F_length (bs : List UInt8) : (sha256F bs).length = 32 := by
  simp [sha256F, l8, be4L]

set_option maxRecDepth 10000 in
theorem shaWords_spec {h : Heap} {R : Value → Heap → Prop} (hk : ∀ h', Keep (fun _ => False) h h' → R (.agg (rootL.map fun w => Value.int .u32 (u w)).toArray) h') : CallT Tryd.prog hash_shaWords_no [] h [.sc .raw] R := by
  apply hash_shaWords_call
  unfold hash_shaWords
  refine newB_row ?_
  intro h1 s1 r1 k1
  refine ⟨rfl, ?_⟩
  refine stRow_row (new := rootL.map fun w => .int .u32 (u w)) r1 (by simp [rootL]) (ws_vals _) ?_
  intro h2 s2 r2 k2
  rw [putL_all (by simp [rootL])] at r2
  refine ldRow_row r2 (by simp [rootL]) ?_
  rw [List.drop_zero, List.take_of_length_le (by simp [rootL])]
  exact hk h2 (k1.trans k2 (fun y hy e => by
    have : y = h.size := e
    omega))

theorem sha_loop {C : Sl → Bool} {Kc : Sl → Heap → Prop} {p ka : Nat} {h : Heap} {s : Sl} {bs : List UInt8} {x : W8} (hb : Rb h s.a s.len bs) (hcap : s.len ≤ s.cap) (hrow : Row h p (c8 x)) (hs : Row h ka (rootL.map fun w => .int .u32 (u w)))
    (hfar : 0 < s.len → ∀ b, blk s.a b → b ≠ p) (hka : ka ≠ p) (hC : ∀ s' : Sl, s'.len ≤ s.len → s'.len % 64 = s.len % 64 → (C s' = true ↔ 64 ≤ s'.len))
    (hk : ∀ s' h', Row h' p (c8 (blocksN shaBlk (bs.length / 64) x bs)) → Keep (· = p) h h' → Kc s' h') :
    LoopT (σ := Sl) (fun X19 s18 h20 => cnd (C s18) (
      ldI .u32 ⟨p, 0, none⟩ h20 fun n0 =>
      ldI .u32 ((⟨p, 0, none⟩ : Addr).add 1) h20 fun n1 =>
      ldI .u32 ((⟨p, 0, none⟩ : Addr).add 2) h20 fun n2 =>
      ldI .u32 ((⟨p, 0, none⟩ : Addr).add 3) h20 fun n3 =>
      ldI .u32 ((⟨p, 0, none⟩ : Addr).add 4) h20 fun n4 =>
      ldI .u32 ((⟨p, 0, none⟩ : Addr).add 5) h20 fun n5 =>
      ldI .u32 ((⟨p, 0, none⟩ : Addr).add 6) h20 fun n6 =>
      ldI .u32 ((⟨p, 0, none⟩ : Addr).add 7) h20 fun n7 =>
      lsl 1 s18.a s18.cap 0 64 (s18.cap : Int) fun o25 l25 c25 =>
      CallT Tryd.prog hash_shaBlock_no [.agg #[.int .u32 n0, .int .u32 n1, .int .u32 n2, .int .u32 n3, .int .u32 n4, .int .u32 n5, .int .u32 n6, .int .u32 n7], .slice o25 l25 c25, .pointer (some ⟨ka, 0, none⟩)] h20 [.agg [.int .u32, .int .u32, .int .u32, .int .u32, .int .u32, .int .u32, .int .u32, .int .u32]] fun (r26 : (Int × Int × Int × Int × Int × Int × Int × Int)) h27 =>
      stC ⟨p, 0, none⟩ (.int .u32 r26.1) h27 fun h28 =>
      stC ((⟨p, 0, none⟩ : Addr).add 1) (.int .u32 r26.2.1) h28 fun h29 =>
      stC ((⟨p, 0, none⟩ : Addr).add 2) (.int .u32 r26.2.2.1) h29 fun h30 =>
      stC ((⟨p, 0, none⟩ : Addr).add 3) (.int .u32 r26.2.2.2.1) h30 fun h31 =>
      stC ((⟨p, 0, none⟩ : Addr).add 4) (.int .u32 r26.2.2.2.2.1) h31 fun h32 =>
      stC ((⟨p, 0, none⟩ : Addr).add 5) (.int .u32 r26.2.2.2.2.2.1) h32 fun h33 =>
      stC ((⟨p, 0, none⟩ : Addr).add 6) (.int .u32 r26.2.2.2.2.2.2.1) h33 fun h34 =>
      stC ((⟨p, 0, none⟩ : Addr).add 7) (.int .u32 r26.2.2.2.2.2.2.2) h34 fun h35 =>
      lsl 1 s18.a s18.cap 64 (s18.len : Int) (s18.cap : Int) fun o32 l32 c32 =>
      X19 (⟨o32, l32, c32⟩ : Sl) h35) (Kc s18 h20)) s h := by
  have hlen := hb.len
  refine LoopT.intro (fun t h' => ∃ k, 64 * k ≤ bs.length ∧ t.len = bs.length - 64 * k ∧ t.len ≤ t.cap ∧ Rb h' t.a t.len (bs.drop (64 * k)) ∧ Row h' p (c8 (blocksN shaBlk k x bs)) ∧ Keep (· = p) h h' ∧ (0 < t.len → ∀ b, blk t.a b → b ≠ p) ∧ Row h' ka (rootL.map fun w => .int .u32 (u w))) (fun t _ => t.len)
    ⟨0, by omega, by omega, hcap, by simpa using hb, hrow, .refl _ _, hfar, hs⟩ ?_
  rintro t h1 ⟨k, q1, q2, q3, q4, q5, q6, q7, q8⟩
  have hCt := hC t (by omega) (by omega)
  refine cnd_of (fun hc => ?_) (fun hc => ?_)
  · have h64 := hCt.1 hc
    refine ld8 q5 ?_
    refine q4.sub (by omega) (by omega) (by omega) (by omega) (by omega) ?_
    intro a1 w1 w2
    have w1' : Rb h1 a1 64 ((bs.drop (64 * k)).take 64) := w1
    refine shaBlock_spec (x := blocksN shaBlk k x bs) w1' q8 ?_
    intro h2 k2
    refine st8 (k2.row q5 (fun h => h)) rfl ?_
    intro h6 s6 r6 k36
    have k16 : Keep (· = p) h1 h6 := (k2.mono (fun _ _ h => h.elim)).trans' k36
    have q4' : Rb h6 t.a t.len (bs.drop (64 * k)) := q4.keep k16 (fun hl b hb' e => q7 hl b hb' e)
    refine q4'.sub (by omega) (by omega) (by omega) (by omega) (by omega) ?_
    intro a2 v1 v2
    have el : ((t.len : Int) - 64).toNat = t.len - 64 := by omega
    rw [el] at v1 ⊢
    rw [show (64 : Int).toNat = 64 from rfl, List.drop_drop, show 64 * k + 64 = 64 * (k + 1) by omega, List.take_of_length_le (by rw [List.length_drop]; omega)] at v1
    refine ⟨⟨k + 1, by omega, by show t.len - 64 = _; omega, by show t.len - 64 ≤ ((t.cap : Int) - 64).toNat; omega, v1, ?_, q6.trans' k16, ?_, ?_⟩, by show t.len - 64 < t.len; omega⟩
    · rw [blocksN_succ]
      exact r6
    · intro hl b hb'
      exact q7 (by omega) b (v2 b hb')
    · exact k16.row q8 hka
  · have h64 : ¬ 64 ≤ t.len := fun e => by rw [hCt.2 e] at hc; cases hc
    have hkk : k = bs.length / 64 := by omega
    subst hkk
    exact hk t h1 q5 q6

theorem sha256_spec {h : Heap} {a : Option Addr} {l c : Nat} {bs : List UInt8} (hb : Rb h a l bs) (hc : l ≤ c) (hl : l ≤ 140737488352000) {R : Sl → Heap → Prop}
    (hk : ∀ s h', Bl h' s.a s.len s.cap (sha256F bs) → s.len ≤ s.cap → (∀ b, blk s.a b → h.size ≤ b) → Keep (fun _ => False) h h' → R s h') :
    CallT Tryd.prog hash_SHA256_no [.slice a l c] h [.sc .sl] R := by
  have hcall := hash_SHA256_call (b_0 := ⟨a, l, c⟩) (R := R) (h := h)
  apply hcall
  unfold hash_SHA256
  have hlen := hb.len
  refine newB_row ?_
  intro h1 s1 r1 k1
  refine st8 r1 rfl ?_
  intro h5 s5 r5 k5
  have k05 : Keep (fun _ => False) h h5 := k1.trans k5 (fun y hy e => by
    have : y = h.size := e
    omega)
  have r5' : Row h5 h.size (c8 sha0) := r5
  refine shaWords_spec ?_
  intro h6 k6
  refine newB_row ?_
  intro h6' s6 r6 k6'
  refine ⟨by simp [rootL], ?_⟩
  refine stRow_row (new := rootL.map fun w => .int .u32 (u w)) r6 (by simp [rootL]) (ws_vals _) ?_
  intro h7 s7 ro7 k7
  rw [putL_all (by simp [rootL])] at ro7
  have z6 := k6.size
  have hp := r5'.lt
  have k57 : Keep (fun _ => False) h5 h7 := (k6.trans' k6').trans k7 (fun y hy e => by
    have e' : y = h6.size := e
    omega)
  have k07 := k05.trans' k57
  have r7 := k57.row r5' (fun h => h)
  have z5 := k05.size
  refine filled_spec (hb.keep k07 (fun _ _ _ h => h)) hc hl ?_
  intro t h8 bt1 bt2 bt3 kt
  have hb8 := (hb.keep k07 (fun _ _ _ h => h)).keep kt (fun _ _ _ h => h)
  have r8 := kt.row r7 (fun h => h)
  have ro8 := kt.row ro7 (fun h => h)
  obtain ⟨ft1, ft2, ft3⟩ := fillL_length bs true
  have htl := bt1.len
  refine sha_loop (s := ⟨a, l, c⟩) hb8 hc r8 ro8 (fun h0 b hb' e => by have := hb.lt h0 hb'; omega) (by omega) (fun s' _ _ => by simp only [decide_eq_true_eq]; omega) ?_
  intro _ h9 r9 k9
  have k79 : Keep (· = h.size) h7 h9 := (kt.mono (fun _ _ h => h.elim)).trans' k9
  have bt9 : Bl h9 t.a t.len t.cap _ := SlR.keep bt1 k9 (fun b hb' e => by
    have e' : b = h.size := e
    have := bt3 b hb'
    have := r7.lt
    omega)
  have ro9 := k79.row ro7 (fun e => by
    have e' : h6.size = h.size := e
    omega)
  refine sha_loop (s := t) bt9.rb bt2 r9 ro9 (fun h0 b hb' e => by have := bt3 b hb'; have := r7.lt; omega) (by omega) (fun s' e1 e2 => by
    have : t.len % 64 = 0 := by omega
    simp only [decide_eq_true_eq]
    omega) ?_
  intro _ h10 r10 k10
  refine mkSl_row (by decide) (by decide) (by decide) (by decide) ?_
  intro h11 s11 r11 k11
  have r10' := k11.row r10 (fun h => h)
  refine ld8 r10' ?_
  have k0_10 : Keep (fun y => h.size ≤ y) h h10 := ((k07.mono (fun _ _ h => h.elim)).trans k79 (fun y _ e => by
    have e' : y = h.size := e
    show h.size ≤ y
    omega)).trans k10 (fun y _ e => by
    have e' : y = h.size := e
    show h.size ≤ y
    omega)
  have k0_11 : Keep (fun y => h.size ≤ y) h h11 := k0_10.trans k11 (fun _ _ h => h.elim)
  have z10 := k0_10.size
  have e0 : Bl h11 (some ⟨h10.size, 0, none⟩) 0 32 [] := .inr ⟨h10.size, 0, _, rfl, r11, by simp, by simp [zerosL_one], by simp, by simp⟩
  obtain ⟨S, hS⟩ : ∃ S, S = shaSt bs := ⟨_, rfl⟩
  have hS' : S = blocksN shaBlk ((fillL bs true).length / 64) (blocksN shaBlk (bs.length / 64) sha0 bs) (fillL bs true) := hS
  rw [← hS']
  have hl8 : (l8 S).length = 8 := rfl
  refine LoopT.intro (fun (t : Sl × Int) h' => 0 ≤ t.2 ∧ t.2 ≤ 8 ∧ t.1.len = 4 * t.2.toNat ∧ Bl h' t.1.a t.1.len t.1.cap (((l8 S).take t.2.toNat).flatMap be4L) ∧ (∀ b, blk t.1.a b → h.size ≤ b) ∧ Keep (fun y => h.size ≤ y) h h') (fun t _ => (8 - t.2).toNat)
    ⟨by simp, by simp, by simp, e0, fun b hb' => by rw [blk_some] at hb'; simp only at hb'; omega, k0_11⟩ ?_
  rintro ⟨o, i⟩ h12 ⟨p1, p2, p3, p4, p5, p6⟩
  replace p1 : 0 ≤ i := p1
  replace p2 : i ≤ 8 := p2
  replace p3 : o.len = 4 * i.toNat := p3
  replace p4 : Bl h12 o.a o.len o.cap (((l8 S).take i.toNat).flatMap be4L) := p4
  replace p5 : ∀ b, blk o.a b → h.size ≤ b := p5
  refine cnd_dec (fun hi => ?_) (fun hi => ?_)
  · replace hi : i < 8 := hi
    have hi8 : i.toNat < (l8 S).length := by omega
    obtain ⟨w, hw⟩ : ∃ w, w = (l8 S)[i.toNat] := ⟨_, rfl⟩
    refine inB_of p1 (by show i < ((8 : Nat) : Int); omega) ⟨u w, p1, ?_, ?_⟩
    · show ((l8 S).map fun w => Value.int .u32 (u w))[i.toNat]? = some (.int .u32 (u w))
      rw [List.getElem?_map, List.getElem?_eq_getElem hi8, hw]
      rfl
    · refine newB_row ?_
      intro h13 s13 r13 k13
      refine ldRow_row r13 (by simp) ?_
      have p4' : Bl h13 o.a o.len o.cap _ := SlR.keep p4 k13 (fun _ _ h => h)
      refine p4'.push (new := be4L w) (by omega) rfl ?_ ?_
      · simp only [be4L, List.map_cons, List.map_nil, u_shr w (n := 8) (by decide) (by decide), u_shr w (n := 16) (by decide) (by decide), u_shr w (n := 24) (by decide) (by decide), u_low]
        rfl
      · intro a' c' h14 w1 w2 w3
        show (0 ≤ w64 (i + 1) ∧ w64 (i + 1) ≤ 8 ∧ o.len + 4 = 4 * (w64 (i + 1)).toNat ∧ Bl h14 a' (o.len + 4) c' (((l8 S).take (w64 (i + 1)).toNat).flatMap be4L) ∧ (∀ b, blk a' b → h.size ≤ b) ∧ Keep (fun y => h.size ≤ y) h h14) ∧ (8 - w64 (i + 1)).toNat < (8 - i).toNat
        rw [w64_id (x := i + 1) (by omega) (by omega), show (i + 1).toNat = i.toNat + 1 by omega, List.take_add_one, List.getElem?_eq_getElem hi8, List.flatMap_append, ← hw]
        have := p6.size
        refine ⟨⟨by omega, by omega, by omega, by simpa using w1, fun b hb' => ?_, (p6.trans k13 (fun _ _ h => h.elim)).trans w2 (fun y _ hy => p5 y hy)⟩, by omega⟩
        rcases w3 b hb' with hh | hh
        · exact p5 b hh
        · omega
  · have hi4 : i = 8 := by
      have : ¬ i < 8 := hi
      omega
    subst hi4
    refine hk o h12 ?_ (SlR.le p4) p5 ⟨p6.size, fun b hb' _ => p6.same b hb' (by omega)⟩
    have e : sha256F bs = ((l8 S).take (8 : Int).toNat).flatMap be4L := by
      unfold sha256F
      rw [← hS]
      rfl
    rw [e]
    exact p4

end Hash
namespace Hash

/-- a stream at block p -/
structure St (h : Heap) (p : Nat) (ty : TypeId) (mu : Nat → Prop) (bs : List UInt8) : Prop where
  ex : ∃ a c, Row h p [.iface ty (.agg #[]), .slice a bs.length c] ∧ Bl h a bs.length c bs ∧ ¬ blk a p ∧ mu p ∧ ∀ b, blk a b → mu b
  lt : ∀ b, mu b → b < h.size

theorem St.keep {S mu : Nat → Prop} {h h' : Heap} {p : Nat} {ty : TypeId} {bs : List UInt8} (hs : St h p ty mu bs) (hk : Keep S h h') (hm : ∀ b, mu b → ¬ S b) : St h' p ty mu bs := by
  obtain ⟨⟨a, c, r, b, n, m1, m2⟩, lt⟩ := hs
  exact ⟨⟨a, c, hk.row r (hm _ m1), SlR.keep b hk (fun x hx => hm _ (m2 x hx)), n, m1, m2⟩, fun x hx => Nat.lt_of_lt_of_le (lt x hx) hk.size⟩

/-! ### digits -/
def digits : List UInt8 := [48, 49, 50, 51, 52, 53, 54, 55, 56, 57, 97, 98, 99, 100, 101, 102]
def hexB (b : UInt8) : List UInt8 := [digits.getD (b.toNat / 16) 0, digits.getD (b.toNat % 16) 0]
def hexL (bs : List UInt8) : List UInt8 := bs.flatMap hexB

theorem hex_spec {h : Heap} {a : Option Addr} {l c : Nat} {bs : List UInt8} (hb : Rb h a l bs) (hl : l ≤ 100000000) {R : ByteArray → Heap → Prop} (hk : ∀ h', Keep (fun _ => False) h h' → R (ofL (hexL bs)) h') :
    CallT Tryd.prog enc_Hex_no [.slice a l c] h [.sc .str] R := by
  have hcall := enc_Hex_call (b_0 := ⟨a, l, c⟩) (R := R) (h := h)
  apply hcall
  simp only [enc_Hex]
  have hlen := hb.len
  have hw2 : w64 (2 * (l : Int)) = 2 * l := w64_id (by omega) (by omega)
  rw [hw2]
  refine mkSl_row (by omega) (by omega) (by omega) (by omega) ?_
  intro h1 s1 r1 k1
  have e0 : Bl h1 (some ⟨h.size, 0, none⟩) 0 (2 * (l : Int)).toNat [] := .inr ⟨h.size, 0, _, rfl, r1, by simp, by simp [zerosL_one], by simp, by simp⟩
  refine LoopT.intro (fun (t : Sl × Int) h' => 0 ≤ t.2 ∧ t.2 ≤ l ∧ t.1.len = 2 * t.2.toNat ∧ Bl h' t.1.a t.1.len t.1.cap ((bs.take t.2.toNat).flatMap hexB) ∧ (∀ b, blk t.1.a b → h.size ≤ b) ∧ Keep (fun y => h.size ≤ y) h h') (fun t _ => (l - t.2).toNat)
    ⟨by simp, by simp, by simp, e0, fun b hb' => by rw [blk_some] at hb'; simp only at hb'; omega, k1.mono (fun _ _ h => h.elim)⟩ ?_
  rintro ⟨o, i⟩ h2 ⟨p1, p2, p3, p4, p5, p6⟩
  replace p1 : 0 ≤ i := p1
  replace p2 : i ≤ l := p2
  replace p3 : o.len = 2 * i.toNat := p3
  replace p4 : Bl h2 o.a o.len o.cap ((bs.take i.toNat).flatMap hexB) := p4
  replace p5 : ∀ b, blk o.a b → h.size ≤ b := p5
  refine cnd_dec (fun hi => ?_) (fun hi => ?_)
  · replace hi : i < l := hi
    have hb2 : Rb h2 a l bs := hb.keep p6 (fun h0 b hb' hge => by have := hb.lt h0 hb'; have hge' : h.size ≤ b := hge; omega)
    refine hb2.at p1 hi ?_
    intro b hbb
    have hbl := b.toNat_lt
    have e1 : shrI .u8 (b.toNat : Int) 4 = ((b.toNat / 16 : Nat) : Int) := by
      rw [show (4 : Int) = ((4 : Nat) : Int) from rfl, shrI_nat (by decide), Nat.shiftRight_eq_div_pow]
    have e2 : andI .u8 (b.toNat : Int) 15 = ((b.toNat % 16 : Nat) : Int) := by
      unfold andI
      rw [BitVec.toNat_and]
      simp only [IntKind.bits]
      rw [ofInt_nat (by omega), show (15 : Int) = ((15 : Nat) : Int) from rfl, ofInt_nat (by decide)]
      have := Nat.and_two_pow_sub_one_eq_mod b.toNat 4
      rw [show (2 : Nat) ^ 4 - 1 = 15 from rfl, show (2 : Nat) ^ 4 = 16 from rfl] at this
      rw [this, wrap_u8]
      omega
    have dg : ∀ n : Nat, n < 16 → ∀ {K : UInt8 → Prop}, K (digits.getD n 0) → sidx (⟨#[48, 49, 50, 51, 52, 53, 54, 55, 56, 57, 97, 98, 99, 100, 101, 102]⟩ : ByteArray) (n : Int) K := by
      intro n hn K hK
      refine ⟨_, by omega, ?_, hK⟩
      rw [Int.toNat_natCast]
      show digits[n]? = some _
      have hd : n < digits.length := by simpa [digits] using hn
      rw [List.getD_eq_getElem?_getD, List.getElem?_eq_getElem hd]
      rfl
    show sidx _ (shrI .u8 (b.toNat : Int) 4) fun u8 => sidx _ (andI .u8 (b.toNat : Int) 15) _
    rw [e1, e2]
    refine dg _ (by omega) (dg _ (by omega) ?_)
    refine newB_row ?_
    intro h3 s3 r3 k3
    refine ldRow_row r3 (by simp) ?_
    have p4' : Bl h3 o.a o.len o.cap _ := SlR.keep p4 k3 (fun _ _ h => h)
    refine p4'.push (new := hexB b) (by show o.len + 2 ≤ _; omega) rfl rfl ?_
    intro a' c' h4 w1 w2 w3
    show (0 ≤ w64 (i + 1) ∧ w64 (i + 1) ≤ l ∧ o.len + 2 = 2 * (w64 (i + 1)).toNat ∧ Bl h4 a' (o.len + 2) c' ((bs.take (w64 (i + 1)).toNat).flatMap hexB) ∧ (∀ b, blk a' b → h.size ≤ b) ∧ Keep (fun y => h.size ≤ y) h h4) ∧ (l - w64 (i + 1)).toNat < (l - i).toNat
    rw [w64_id (x := i + 1) (by omega) (by omega), show (i + 1).toNat = i.toNat + 1 by omega, List.take_add_one, hbb, List.flatMap_append]
    have := p6.size
    refine ⟨⟨by omega, by omega, by omega, by simpa using w1, fun b hb' => ?_, (p6.trans k3 (fun _ _ h => h.elim)).trans w2 (fun y _ hy => p5 y hy)⟩, by omega⟩
    rcases w3 b hb' with hh | hh
    · exact p5 b hh
    · omega
  · have hil : i = l := by
      have : ¬ i < (l : Int) := hi
      omega
    subst hil
    refine p4.rb.str ?_
    rw [Int.toNat_natCast, List.take_of_length_le (by omega)]
    exact hk h2 ⟨p6.size, fun b hb' _ => p6.same b hb' (by omega)⟩

theorem md5_nil : hexL (md5F []) = [100, 52, 49, 100, 56, 99, 100, 57, 56, 102, 48, 48, 98, 50, 48, 52, 101, 57, 56, 48, 48, 57, 57, 56, 101, 99, 102, 56, 52, 50, 55, 101] := by decide +kernel
theorem sha_abc : hexL (sha256F [97, 98, 99]) = [98, 97, 55, 56, 49, 54, 98, 102, 56, 102, 48, 49, 99, 102, 101, 97, 52, 49, 52, 49, 52, 48, 100, 101, 53, 100, 97, 101, 50, 50, 50, 51, 98, 48, 48, 51, 54, 49, 97, 51, 57, 54, 49, 55, 55, 97, 57, 99, 98, 52, 49, 48, 102, 102, 54, 49, 102, 50, 48, 48, 49, 53, 97, 100] := by decide +kernel
theorem crc_nine : crcF [49, 50, 51, 52, 53, 54, 55, 56, 57] = 3808858755#32 := by decide +kernel

end Hash
namespace Hash

def xb (b : UInt8) (k : Nat) : UInt8 := UInt8.ofNat (b.toNat ^^^ k)
theorem xb_val (b : UInt8) {k : Nat} (hk : k < 256) : Value.int .u8 (xorI .u8 (b.toNat : Int) (k : Int)) = byteV (xb b k) := by
  unfold byteV xb xorI
  have hb := b.toNat_lt
  rw [BitVec.toNat_xor]
  simp only [IntKind.bits]
  rw [ofInt_nat (by omega), ofInt_nat (by omega), wrap_u8]
  have h3 : b.toNat ^^^ k < 2 ^ 8 := Nat.xor_lt_two_pow (by omega) (by omega)
  rw [UInt8.toNat_ofNat']
  congr 1
/-- a key, filled and turned -/
def keyPad (kb : List UInt8) (k : Nat) : List UInt8 := (List.range 64).map fun i => xb (kb.getD i 0) k
def keyB (key : List UInt8) : List UInt8 := if 64 < key.length then sha256F key else key
def hmacF (key b : List UInt8) : List UInt8 := sha256F (keyPad (keyB key) 92 ++ sha256F (keyPad (keyB key) 54 ++ b))
theorem keyPad_length (kb : List UInt8) (k : Nat) : (keyPad kb k).length = 64 := by simp [keyPad]
theorem keyB_le (key : List UInt8) : (keyB key).length ≤ 64 := by
  unfold keyB
  split
  · rw [sha256F_length]; omega
  · omega

/-- a key's pad, some of it turned -/
def part (kb : List UInt8) (k i : Nat) : List UInt8 := (List.range 64).map fun j => if j < i then xb (kb.getD j 0) k else kb.getD j 0
theorem part_zero {kb : List UInt8} (h : kb.length ≤ 64) (k : Nat) : part kb k 0 = kb ++ List.replicate (64 - kb.length) 0 := by
  apply List.ext_getElem?
  intro j
  unfold part
  rw [List.getElem?_map]
  by_cases hj : j < 64
  · rw [List.getElem?_range hj]
    simp only [Option.map_some]
    rw [if_neg (by omega)]
    by_cases hk : j < kb.length
    · rw [List.getElem?_append_left hk, List.getElem?_eq_getElem hk, List.getD_eq_getElem?_getD, List.getElem?_eq_getElem hk]; rfl
    · rw [List.getElem?_append_right (by omega), List.getElem?_replicate, if_pos (by omega), List.getD_eq_getElem?_getD, List.getElem?_eq_none (by omega)]; rfl
  · rw [List.getElem?_eq_none (by simp; omega), List.getElem?_eq_none (by simp; omega)]; rfl
theorem part_get (kb : List UInt8) (k : Nat) {i : Nat} (hi : i < 64) : (part kb k i)[i]? = some (kb.getD i 0) := by
  unfold part
  rw [List.getElem?_map, List.getElem?_range hi]
  simp
theorem part_succ (kb : List UInt8) (k : Nat) {i : Nat} (hi : i < 64) : (part kb k i).set i (xb (kb.getD i 0) k) = part kb k (i + 1) := by
  apply List.ext_getElem?
  intro j
  unfold part
  rw [List.getElem?_set, List.length_map, List.length_range, List.getElem?_map, List.getElem?_map]
  by_cases hj : j < 64
  · rw [List.getElem?_range hj]
    simp only [Option.map_some]
    by_cases hij : i = j
    · rw [if_pos hij, if_pos hi, if_pos (by omega), hij]
    · rw [if_neg hij]
      by_cases h6 : j < i
      · rw [if_pos h6, if_pos (by omega)]
      · rw [if_neg h6, if_neg (by omega)]
  · rw [if_neg (by omega), List.getElem?_eq_none (by simp; omega)]
    simp
theorem part_all (kb : List UInt8) (k : Nat) : part kb k 64 = keyPad kb k := by
  unfold part keyPad
  apply List.map_congr_left
  intro j hj
  rw [List.mem_range] at hj
  rw [if_pos hj]

theorem hmac_spec {h : Heap} {a b : Option Addr} {l c m d : Nat} {key bs : List UInt8} (hkey : Rb h a l key) (hc : l ≤ c) (hl : l ≤ 140737488352000) (hb : Rb h b m bs) (hm : m ≤ 140737488351500) {R : Sl → Heap → Prop}
    (hk : ∀ s h', Bl h' s.a s.len s.cap (hmacF key bs) → s.len ≤ s.cap → (∀ b, blk s.a b → h.size ≤ b) → Keep (fun _ => False) h h' → R s h') :
    CallT Tryd.prog hash_HMAC_no [.slice a l c, .slice b m d] h [.sc .sl] R := by
  have hcall := hash_HMAC_call (key_0 := ⟨a, l, c⟩) (b_1 := ⟨b, m, d⟩) (R := R) (h := h)
  apply hcall
  unfold hash_HMAC
  have hlen := hkey.len
  have hblen := hb.len
  refine withJ.intro (fun (s : Sl) h' => Rb h' s.a s.len (keyB key) ∧ Keep (fun _ => False) h h') ?_ ?_
  rotate_left
  · intro J hJ
    refine cnd_dec (fun h64 => ?_) (fun h64 => ?_)
    · refine sha256_spec hkey hc hl ?_
      intro s h' w1 w2 w3 w4
      refine hJ _ _ ⟨?_, w4⟩
      unfold keyB
      rw [if_pos (by simp only at h64; omega)]
      exact w1.rb
    · refine hJ _ _ ⟨?_, .refl _ _⟩
      unfold keyB
      rw [if_neg (by simp only at h64; omega)]
      exact hkey
  rintro s h1 ⟨hk1, k1⟩
  have kle := keyB_le key
  have klen := hk1.len
  obtain ⟨kb, hkb⟩ : ∃ kb, kb = keyB key := ⟨_, rfl⟩
  rw [← hkb] at hk1 kle klen
  have hb1 := hb.keep k1 (fun _ _ _ h => h)
  have w64m : w64 (64 + (m : Int)) = 64 + m := w64_id (by omega) (by omega)
  have nou : (List.replicate 64 (0 : UInt8)).map byteV = List.replicate 64 (.int .u8 0) := by simp [byteV]
  refine withJ.intro (fun (t : Sl × Sl) h' => (∃ bi bo, t.1.a = some ⟨bi, 0, none⟩ ∧ t.2.a = some ⟨bo, 0, none⟩ ∧ bi ≠ bo ∧ h1.size ≤ bi ∧ h1.size ≤ bo) ∧ t.1.len = 64 ∧ t.2.len = 64 ∧ Bl h' t.1.a 64 t.1.cap (List.replicate 64 0) ∧ Bl h' t.2.a 64 t.2.cap (List.replicate 64 0) ∧ Keep (fun _ => False) h1 h') ?_ ?_
  rotate_left
  · intro J hJ
    have mk : ∀ {c : Int} {K : Addr → Heap → Prop} {hh : Heap}, 64 ≤ c → c ≤ 281474976710656 → (∀ h', h'.size = hh.size + 1 → Bl h' (some ⟨hh.size, 0, none⟩) 64 c.toNat (List.replicate 64 0) → Keep (fun _ => False) hh h' → K ⟨hh.size, 0, none⟩ h') → mkSl [.int .u8 0] 5 1 64 c hh K := by
      intro c K hh e1 e2 e3
      refine mkSl_row (by omega) e1 e2 (by omega) ?_
      intro h' s' r' k'
      refine e3 h' s' (.inr ⟨hh.size, 0, _, rfl, r', by omega, by simp [zerosL_one], by simp, ?_⟩) k'
      rw [nou, zerosL_one, List.drop_zero, List.take_replicate]
      congr 1
      omega
    have two : mkSl [.int .u8 0] 5 1 64 96 h1 fun a40 h41 => mkSl [.int .u8 0] 5 1 64 (w64 (64 + (m : Int))) h41 fun a42 h43 => J ((⟨(some a42), (64 : Int).toNat, (w64 (64 + (m : Int))).toNat⟩ : Sl), (⟨(some a40), (64 : Int).toNat, (96 : Int).toNat⟩ : Sl)) h43 := by
      rw [w64m]
      refine mk (by omega) (by omega) ?_
      intro h2 s2 b2 k2
      refine mk (by omega) (by omega) ?_
      intro h3 s3 b3 k3
      exact hJ _ _ ⟨⟨h2.size, h1.size, rfl, rfl, by omega, by omega, Nat.le_refl _⟩, rfl, rfl, b3, SlR.keep b2 k3 (fun _ _ h => h), k2.trans' k3⟩
    refine ⟨?_, two⟩
    rw [w64m]
    refine mk (by omega) (by omega) ?_
    intro h2 s2 b2 k2
    refine ⟨?_, ?_⟩
    · refine mk (by omega) (by omega) ?_
      intro h3 s3 b3 k3
      exact hJ _ _ ⟨⟨h1.size, h2.size, rfl, rfl, by omega, Nat.le_refl _, by omega⟩, rfl, rfl, SlR.keep b2 k3 (fun _ _ h => h), b3, k2.trans' k3⟩
    · refine mk (by omega) (by omega) ?_
      intro h3 s3 b3 k3
      exact hJ _ _ ⟨⟨h1.size, h2.size, rfl, rfl, by omega, Nat.le_refl _, by omega⟩, rfl, rfl, SlR.keep b2 k3 (fun _ _ h => h), b3, k2.trans' k3⟩
  rintro ⟨si, so⟩ h2 ⟨⟨bi, bo, ei, eo, hne, gi, go⟩, li, lo, bli, blo, k2⟩
  obtain ⟨ai, li', ci⟩ := si
  obtain ⟨ao, lo', co⟩ := so
  simp only at ei eo li lo bli blo
  subst ei eo li lo
  have hk2 := hk1.keep k2 (fun _ _ _ h => h)
  have emin : Nat.min s.len 64 = s.len := by
    have : min s.len 64 = s.len := by omega
    exact this
  show rdCells s.a (Nat.min s.len 64 * 1) h2 fun cs8 => _
  rw [emin]
  refine hk2.rd ?_
  have one8 : ∀ v ∈ kb.map byteV, v.oneCell' = true := fun v hv => by obtain ⟨x, _, rfl⟩ := List.mem_map.1 hv; rfl
  have over : ∀ {hh : Heap} {bb cc : Nat} {K : Heap → Prop}, Bl hh (some ⟨bb, 0, none⟩) 64 cc (List.replicate 64 0) → (∀ h', Bl h' (some ⟨bb, 0, none⟩) 64 cc (part kb 0 0) → Keep (· = bb) hh h' → h'.size = hh.size → K h') → wrRow (kb.map byteV) (some ⟨bb, 0, none⟩) hh K := by
    intro hh bb cc K e1 e2
    refine SlR.over e1 (by simp; omega) one8 ?_
    intro h' w1 w2 w3
    refine e2 h' ?_ w3 w1
    rw [part_zero kle]
    unfold Bl
    rw [List.map_append, List.map_replicate]
    rw [List.length_map, List.map_replicate, List.drop_replicate] at w2
    exact w2
  refine over bli ?_
  intro h3 bi3 k3 s3
  have hk3 : Rb h3 s.a s.len kb := hk2.keep k3 (fun hl' y hy e => by
    have := hk1.lt hl' hy
    have e' : y = bi := e
    omega)
  refine hk3.rd ?_
  have blo3 : Bl h3 (some ⟨bo, 0, none⟩) 64 co (List.replicate 64 0) := SlR.keep blo k3 (fun y hy e => by
    rw [blk_some] at hy
    have e' : y = bi := e
    exact hne (by simp only at hy; omega))
  refine over blo3 ?_
  intro h4 bo4 k4 s4
  have bi4 : Bl h4 (some ⟨bi, 0, none⟩) 64 ci (part kb 0 0) := SlR.keep bi3 k4 (fun y hy e => by
    rw [blk_some] at hy
    have e' : y = bo := e
    exact hne (by simp only at hy; omega))
  have pz : ∀ k, part kb k 0 = part kb 0 0 := fun k => by rw [part_zero kle, part_zero kle]
  have k24 : Keep (fun y => h1.size ≤ y) h1 h4 := ((k2.mono (fun _ _ h => h.elim)).trans k3 (fun y _ e => by
    have e' : y = bi := e
    show h1.size ≤ y
    omega)).trans k4 (fun y _ e => by
    have e' : y = bo := e
    show h1.size ≤ y
    omega)
  refine LoopT.intro (fun i h' => 0 ≤ i ∧ i ≤ 64 ∧ Bl h' (some ⟨bi, 0, none⟩) 64 ci (part kb 54 i.toNat) ∧ Bl h' (some ⟨bo, 0, none⟩) 64 co (part kb 92 i.toNat) ∧ Keep (fun y => h1.size ≤ y) h1 h') (fun i _ => (64 - i).toNat) ⟨by omega, by omega, by rw [show (0 : Int).toNat = 0 from rfl, pz]; exact bi4, by rw [show (0 : Int).toNat = 0 from rfl, pz]; exact bo4, k24⟩ ?_
  rintro i h5 ⟨p1, p2, p3, p4, p5⟩
  refine cnd_dec (fun hi => ?_) (fun hi => ?_)
  · have hw : w64 (i + 1) = i + 1 := w64_id (by omega) (by omega)
    refine p3.rb.at p1 hi ?_
    intro x hx
    rw [part_get kb 54 (by omega)] at hx
    injection hx with hx
    subst hx
    refine idx_some p1 hi ?_
    rw [show (54 : Int) = ((54 : Nat) : Int) from rfl, xb_val _ (by decide)]
    refine SlR.set (i := i.toNat * 1) p3 (by omega) rfl ?_
    intro h6 s6 w6 k6
    rw [Nat.mul_one] at w6
    have p4' : Bl h6 (some ⟨bo, 0, none⟩) 64 co (part kb 92 i.toNat) := SlR.keep p4 k6 (fun y hy e => by
      rw [blk_some] at hy
      have e' : y = bi := e
      exact hne (by simp only at hy; omega))
    refine p4'.rb.at p1 hi ?_
    intro x hx
    rw [part_get kb 92 (by omega)] at hx
    injection hx with hx
    subst hx
    refine idx_some p1 hi ?_
    rw [show (92 : Int) = ((92 : Nat) : Int) from rfl, xb_val _ (by decide)]
    refine SlR.set (i := i.toNat * 1) p4' (by omega) rfl ?_
    intro h7 s7 w7 k7
    rw [Nat.mul_one] at w7
    rw [hw]
    refine ⟨⟨by omega, by omega, ?_, ?_, (p5.trans k6 (fun y _ e => by
      have e' : y = bi := e
      show h1.size ≤ y
      omega)).trans k7 (fun y _ e => by
      have e' : y = bo := e
      show h1.size ≤ y
      omega)⟩, by omega⟩
    · rw [show (i + 1).toNat = i.toNat + 1 by omega, ← part_succ kb 54 (by omega)]
      unfold Bl
      rw [List.map_set]
      exact SlR.keep w6 k7 (fun y hy e => by
        rw [blk_some] at hy
        have e' : y = bo := e
        exact hne (by simp only at hy; omega))
    · rw [show (i + 1).toNat = i.toNat + 1 by omega, ← part_succ kb 92 (by omega)]
      unfold Bl
      rw [List.map_set]
      exact w7
  · have hi64 : i = 64 := by
      have : ¬ i < (64 : Int) := hi
      omega
    subst hi64
    rw [show (64 : Int).toNat = 64 from rfl, part_all] at p3 p4
    have hb5 : Rb h5 b m bs := hb1.keep p5 (fun hl' y hy hge => by have := hb1.lt hl' hy; have hge' : h1.size ≤ y := hge; omega)
    refine hb5.rd ?_
    refine p3.push (new := bs) (by show 64 + m ≤ _; omega) hblen rfl ?_
    intro a6 c6 h6 q1 q2 q3
    have z5 := p5.size
    have new6 : ∀ y, blk a6 y → h1.size ≤ y ∧ y ≠ bo := fun y hy => by
      rcases q3 y hy with hh | hh
      · rw [blk_some] at hh; simp only at hh; exact ⟨by omega, by omega⟩
      · have := SlR.blk_lt p4 (b := bo) (blk_some.2 rfl)
        exact ⟨by omega, by omega⟩
    have bo6 : Bl h6 (some ⟨bo, 0, none⟩) 64 co _ := SlR.keep p4 q2 (fun y hy e => by
      rw [blk_some] at hy e
      exact hne (by simp only at hy e; omega))
    refine sha256_spec q1.rb (SlR.le q1) (by show 64 + m ≤ _; omega) ?_
    intro s7 h7 w1 w2 w3 w4
    refine w1.rb.rd ?_
    have l7 := w1.len
    rw [sha256F_length] at l7
    have bo7 : Bl h7 (some ⟨bo, 0, none⟩) 64 co _ := SlR.keep bo6 w4 (fun _ _ h => h)
    refine bo7.push (new := sha256F (keyPad kb 54 ++ bs)) (by show 64 + s7.len ≤ _; omega) (by rw [sha256F_length]; exact l7) rfl ?_
    intro a8 c8 h8 v1 v2 v3
    refine sha256_spec v1.rb (SlR.le v1) (by show 64 + s7.len ≤ _; omega) ?_
    intro s9 h9 t1 t2 t3 t4
    have z1 := k1.size
    have z7 := w4.size
    have z6 := q2.size
    have k08 : Keep (fun y => h1.size ≤ y) h1 h8 := ((p5.trans q2 (fun y _ hy => by rw [blk_some] at hy; simp only at hy; show h1.size ≤ y; omega)).trans w4 (fun _ _ h => h.elim)).trans v2 (fun y _ hy => by rw [blk_some] at hy; simp only at hy; show h1.size ≤ y; omega)
    have z8 := k08.size
    refine hk s9 h9 ?_ t2 (fun y hy => by have := t3 y hy; omega) ?_
    · unfold hmacF
      rw [← hkb]
      exact t1
    · have kk := (k1.mono (T := fun y => h1.size ≤ y) (fun _ _ h => h.elim)).trans' (k08.trans t4 (fun _ _ h => h.elim))
      exact ⟨kk.size, fun y hy _ => kk.same y hy (by omega)⟩

/-! ### the law -/
theorem hmacF_length (key b : List UInt8) : (hmacF key b).length = 32 := sha256F_length _
theorem hmac_key {key : List UInt8} (h : 64 < key.length) (b : List UInt8) : hmacF key b = hmacF (sha256F key) b := by
  have e1 : keyB key = sha256F key := by unfold keyB; rw [if_pos h]
  have e2 : keyB (sha256F key) = sha256F key := by unfold keyB; rw [if_neg (by rw [sha256F_length]; omega)]
  unfold hmacF
  rw [e1, e2]
theorem hmac_noughts {key : List UInt8} {n : Nat} (h : key.length + n ≤ 64) (b : List UInt8) : hmacF key b = hmacF (key ++ List.replicate n 0) b := by
  have e1 : keyB key = key := by unfold keyB; rw [if_neg (by omega)]
  have e2 : keyB (key ++ List.replicate n 0) = key ++ List.replicate n 0 := by unfold keyB; rw [if_neg (by simp; omega)]
  have e3 : ∀ k, keyPad (key ++ List.replicate n 0) k = keyPad key k := by
    intro k
    unfold keyPad
    apply List.map_congr_left
    intro j _
    congr 1
    rw [List.getD_eq_getElem?_getD, List.getD_eq_getElem?_getD]
    by_cases hj : j < key.length
    · rw [List.getElem?_append_left hj]
    · rw [List.getElem?_append_right (by omega), List.getElem?_replicate, List.getElem?_eq_none (by omega)]
      split <;> rfl
  unfold hmacF
  rw [e1, e2, e3, e3]

end Hash
namespace Ref2
open Hash

/-! ### CRC -/
/-! ### words -/
theorem left_spec {h : Heap} {x : W} {n : Nat} (hn : n ≤ 32) {R : Int → Heap → Prop} (hk : R (u (rotl x n)) h) : CallT Tryd.prog ref2_left_no [.int .u32 (u x), .int .i64 (n : Int)] h [.sc (.int .u32)] R := by
  apply ref2_left_call
  simp only [ref2_left]
  have e : w64 (32 - (n : Int)) = 32 - n := w64_id (by omega) (by omega)
  rw [e, u_shl _ (by omega) (by omega), u_shr _ (by omega) (by omega), u_or]
  refine geZ_of (by omega) (geZ_of (by omega) ?_)
  rw [Int.toNat_natCast, show (32 - (n : Int)).toNat = 32 - n by omega]
  exact hk

theorem or_add {x y : W} {k : Nat} (hx : x.toNat % 2 ^ k = 0) (hy : y.toNat < 2 ^ k) : x + y = x ||| y := by
  apply BitVec.eq_of_toNat_eq
  rw [BitVec.toNat_or, BitVec.toNat_add]
  obtain ⟨q, hq⟩ : ∃ q, x.toNat = q <<< k := ⟨x.toNat / 2 ^ k, by
    rw [Nat.shiftLeft_eq]
    have := Nat.div_add_mod x.toNat (2 ^ k)
    rw [hx, Nat.add_zero, Nat.mul_comm] at this
    exact this.symm⟩
  have e := Nat.shiftLeft_add_eq_or_of_lt hy q
  rw [← hq] at e
  have hlt : x.toNat ||| y.toNat < 2 ^ 32 := Nat.or_lt_two_pow x.isLt y.isLt
  rw [e, Nat.mod_eq_of_lt hlt]
theorem or_add' {x y : W} {k : Nat} (hy : y.toNat % 2 ^ k = 0) (hx : x.toNat < 2 ^ k) : x + y = x ||| y := by
  rw [BitVec.add_comm, or_add hy hx, BitVec.or_comm]

theorem ub_toNat (b : UInt8) : (ub b).toNat = b.toNat := by
  unfold ub
  have := b.toNat_lt
  rw [BitVec.toNat_ofNat]
  omega
theorem ub_shl (b : UInt8) {k : Nat} (hk : k ≤ 24) : (ub b <<< k).toNat = b.toNat * 2 ^ k := by
  rw [BitVec.toNat_shiftLeft, ub_toNat, Nat.shiftLeft_eq]
  have h1 := b.toNat_lt
  have h2 : 2 ^ k ≤ 2 ^ 24 := Nat.pow_le_pow_right (by decide) hk
  have h3 : b.toNat * 2 ^ k ≤ 255 * 2 ^ 24 := Nat.mul_le_mul (by omega) h2
  exact Nat.mod_eq_of_lt (by omega)

/-- the four bytes of a word, the lowest first, added up -/
theorem le_sum (b0 b1 b2 b3 : UInt8) : ((ub b0 + ub b1 <<< 8) + ub b2 <<< 16) + ub b3 <<< 24 = ((ub b0 ||| ub b1 <<< 8) ||| ub b2 <<< 16) ||| ub b3 <<< 24 := by
  have h0 := b0.toNat_lt
  have h1 := b1.toNat_lt
  have h2 := b2.toNat_lt
  have s1 := ub_shl b1 (k := 8) (by decide)
  have s2 := ub_shl b2 (k := 16) (by decide)
  have s3 := ub_shl b3 (k := 24) (by decide)
  have s0 := ub_toNat b0
  have t1 : (ub b0 + ub b1 <<< 8).toNat = b0.toNat + b1.toNat * 2 ^ 8 := by rw [BitVec.toNat_add, s0, s1]; omega
  have t2 : ((ub b0 + ub b1 <<< 8) + ub b2 <<< 16).toNat = b0.toNat + b1.toNat * 2 ^ 8 + b2.toNat * 2 ^ 16 := by rw [BitVec.toNat_add, t1, s2]; omega
  rw [or_add' (x := (ub b0 + ub b1 <<< 8) + ub b2 <<< 16) (k := 24) (by rw [s3]; omega) (by rw [t2]; omega),
    or_add' (x := ub b0 + ub b1 <<< 8) (k := 16) (by rw [s2]; omega) (by rw [t1]; omega), or_add' (x := ub b0) (k := 8) (by rw [s1]; omega) (by rw [s0]; omega)]
theorem be_sum (b0 b1 b2 b3 : UInt8) : ((ub b0 <<< 24 + ub b1 <<< 16) + ub b2 <<< 8) + ub b3 = ((ub b0 <<< 24 ||| ub b1 <<< 16) ||| ub b2 <<< 8) ||| ub b3 := by
  have h0 := b0.toNat_lt
  have h1 := b1.toNat_lt
  have h2 := b2.toNat_lt
  have h3 := b3.toNat_lt
  have s0 := ub_shl b0 (k := 24) (by decide)
  have s1 := ub_shl b1 (k := 16) (by decide)
  have s2 := ub_shl b2 (k := 8) (by decide)
  have s3 := ub_toNat b3
  have t1 : (ub b0 <<< 24 + ub b1 <<< 16).toNat = b0.toNat * 2 ^ 24 + b1.toNat * 2 ^ 16 := by rw [BitVec.toNat_add, s0, s1]; omega
  have t2 : ((ub b0 <<< 24 + ub b1 <<< 16) + ub b2 <<< 8).toNat = b0.toNat * 2 ^ 24 + b1.toNat * 2 ^ 16 + b2.toNat * 2 ^ 8 := by rw [BitVec.toNat_add, t1, s2]; omega
  rw [or_add (x := (ub b0 <<< 24 + ub b1 <<< 16) + ub b2 <<< 8) (k := 8) (by rw [t2]; omega) (by rw [s3]; omega),
    or_add (x := ub b0 <<< 24 + ub b1 <<< 16) (k := 16) (by rw [t1]; omega) (by rw [s2]; omega), or_add (x := ub b0 <<< 24) (k := 24) (by rw [s0]; omega) (by rw [s1]; omega)]

/-! ### padding -/
def padL (bs : List UInt8) (high : Bool) : List UInt8 := bs ++ tailL bs.length high
theorem padL_length (bs : List UInt8) (high : Bool) : (padL bs high).length % 64 = 0 ∧ (padL bs high).length ≤ bs.length + 100 := by
  unfold padL
  rw [List.length_append, tailL_length]
  unfold zc
  omega
theorem sum_pad {α : Type} (f : α → List UInt8 → α) (x : α) (high : Bool) (bs : List UInt8) : blocksN f ((padL bs high).length / 64) x (padL bs high) = sumSt f x high bs := by
  unfold sumSt
  have e : padL bs high = bs.take (64 * (bs.length / 64)) ++ fillL bs high := by
    unfold padL fillL
    rw [← List.append_assoc]
    congr 1
    rw [Nat.mul_comm 64]
    exact (List.take_append_drop _ _).symm
  have el : (bs.take (64 * (bs.length / 64))).length = 64 * (bs.length / 64) := by rw [List.length_take]; omega
  obtain ⟨f1, f2, f3⟩ := fillL_length bs high
  have en : (padL bs high).length / 64 = bs.length / 64 + (fillL bs high).length / 64 := by
    rw [e, List.length_append, el]; omega
  rw [en, e, blocksN_append f _ _ x _ _ el, blocksN_take]

theorem padded_spec {h : Heap} {a : Option Addr} {l c : Nat} {bs : List UInt8} {high : Bool} (hb : Rb h a l bs) (hl : l ≤ 140737488352000) {R : Sl → Heap → Prop}
    (hk : ∀ s h', Bl h' s.a s.len s.cap (padL bs high) → s.len ≤ s.cap → (∀ b, blk s.a b → h.size ≤ b) → Keep (fun _ => False) h h' → R s h') :
    CallT Tryd.prog ref2_padded_no [.slice a l c, .bool high] h [.sc .sl] R := by
  have hcall := ref2_padded_call (b_0 := ⟨a, l, c⟩) (high_1 := high) (R := R) (h := h)
  apply hcall
  simp only [ref2_padded]
  have hlen := hb.len
  refine hb.rd ?_
  have e0 : Bl h none 0 0 [] := SlR.nil _ _
  refine e0.push (new := bs) (by omega) hlen rfl ?_
  intro a3 c3 h3 q1 q2 q3
  rw [List.nil_append] at q1
  have nob : ∀ b, ¬ blk none b := fun b hb => by obtain ⟨x, hx, _⟩ := hb; cases hx
  have k3 : Keep (fun _ => False) h h3 := q2.mono (fun y _ hy => nob y hy)
  refine newB_row ?_
  intro h4 s4 r4 k4
  refine ldRow_row r4 (by simp) ?_
  have q1' : Bl h4 a3 _ c3 _ := SlR.keep q1 k4 (fun _ _ h => h)
  refine q1'.push (new := [128]) (by omega) rfl rfl ?_
  intro a5 c5 h5 w1 w2 w3
  have z3 := q2.size
  have new3 : ∀ b, blk a3 b → h.size ≤ b := fun b hb' => by
    rcases q3 b hb' with hh | hh
    · exact absurd hh (nob b)
    · exact hh
  have new5 : ∀ b, blk a5 b → h.size ≤ b := fun b hb' => by
    rcases w3 b hb' with hh | hh
    · exact new3 b hh
    · omega
  have k5 : Keep (fun y => h.size ≤ y) h h5 := ((k3.mono (fun _ _ h => h.elim)).trans k4 (fun _ _ h => h.elim)).trans w2 (fun y _ hb' => new3 y hb')
  refine pad_loops (n := l) (h0 := h) (by omega) w1 new5 k5 (by simp only; omega) (by simp only; omega) ?_
  intro s h' v1 v2 v3 v4
  refine hk s h' ?_ v2 v3 ⟨v4.size, fun b hb' _ => v4.same b hb' (by omega)⟩
  unfold padL tailL
  rw [← hlen]
  simpa using v1

set_option maxRecDepth 10000 in
theorem roots_spec {h : Heap} {R : Sl → Heap → Prop} (hk : ∀ h', Ws h' (some ⟨h.size, 0, none⟩) 64 rootL → Keep (fun _ => False) h h' → h'.size = h.size + 1 → R ⟨some ⟨h.size, 0, none⟩, 64, 64⟩ h') : CallT Tryd.prog ref2_roots_no [] h [.sc .sl] R := by
  apply ref2_roots_call
  unfold ref2_roots
  refine newB_row (cs := rootL.map fun w => .int .u32 (u w)) ?_
  intro h1 s1 r1 k1
  refine hk h1 ⟨by simp [rootL], fun i v hv => ⟨_, rfl, rfl, ?_⟩⟩ k1 s1
  rw [add_mk, Nat.zero_add, r1.cells]
  exact hv

end Ref2
namespace Ref2
open Hash

def turnL : List Nat := [7, 12, 17, 22, 5, 9, 14, 20, 4, 11, 16, 23, 6, 10, 15, 21]
theorem turnL_get (n : Nat) (hn : n < 64) : turnL[n / 16 * 4 + n % 4]? = some (mdT n) := by
  have h : ∀ k : Fin 64, turnL[k.val / 16 * 4 + k.val % 4]? = some (mdT k.val) := by decide
  exact h ⟨n, hn⟩

theorem blk_getD (M : List UInt8) (k i : Nat) (hi : i < 64) : ((M.drop (64 * k)).take 64).getD i 0 = M.getD (64 * k + i) 0 := by
  rw [List.getD_eq_getElem?_getD, List.getD_eq_getElem?_getD, List.getElem?_take, if_pos hi, List.getElem?_drop]

end Ref2
namespace Ref2
open Hash

/-- words that are held -/
def Wl (h : Heap) (a : Option Addr) (l c : Nat) (ws : List W) : Prop := SlR h 1 a l c (ws.map fun w => .int .u32 (u w))

theorem wpush {e : TypeId} {h0 h : Heap} {s : Sl} {ws : List W} {w : W} {v : Int} {K : Option Addr → Nat → Heap → Prop} (hs : Wl h s.a s.len s.cap ws) (hnew : ∀ b, blk s.a b → h0.size ≤ b) (hk0 : Keep (fun y => h0.size ≤ y) h0 h) (hl : s.len ≤ 1000000) (hv : v = u w)
    (hk : ∀ a c h', Wl h' a (s.len + 1) c (ws ++ [w]) → (∀ b, blk a b → h0.size ≤ b) → Keep (fun y => h0.size ≤ y) h0 h' → K a c h') :
    newB [.int .u32 v] e h fun a12 h13 => ldRow (1 * 1) a12 h13 fun cs17 => app [.int .u32 0] e 1 4 s.a s.len s.cap cs17 1 h13 fun o14 c15 h16 => K o14 c15 h16 := by
  refine newB_row ?_
  intro h2 s2 r2 k2
  refine ldRow_row r2 (by simp) ?_
  have hs2 : Wl h2 s.a s.len s.cap ws := SlR.keep hs k2 (fun _ _ h => h)
  refine SlR.app hs2 rfl (by simp) (by simp [Value.oneCell']) (by omega) ?_
  intro a' c' h3 q1 q2 q3
  have z := hk0.size
  refine hk a' c' h3 ?_ (fun b hb => ?_) ((hk0.trans k2 (fun _ _ h => h.elim)).trans q2 (fun y _ hy => hnew y hy))
  · unfold Wl
    rw [List.map_append]
    subst hv
    exact q1
  · rcases q3 with ⟨rfl, _⟩ | ⟨rfl, _⟩
    · exact hnew b hb
    · rw [blk_some] at hb
      simp only at hb
      omega

theorem schedule_spec {h : Heap} {a : Option Addr} {c : Nat} {bs : List UInt8} (hb : Rb h a 64 bs) {R : Sl → Heap → Prop} (hk : ∀ s h', s.len = 64 → Wl h' s.a s.len s.cap (shaSched bs 64) → Keep (fun _ => False) h h' → R s h') :
    CallT Tryd.prog ref2_schedule_no [.slice a 64 c] h [.sc .sl] R := by
  have hcall := ref2_schedule_call (x_0 := ⟨a, 64, c⟩) (R := R) (h := h)
  apply hcall
  unfold ref2_schedule
  have hlen := hb.len
  refine LoopT.intro (fun (t : Sl × Int) h' => 0 ≤ t.2 ∧ t.2 ≤ 16 ∧ t.1.len = t.2.toNat ∧ Wl h' t.1.a t.1.len t.1.cap (shaSched bs t.2.toNat) ∧ (∀ b, blk t.1.a b → h.size ≤ b) ∧ Keep (fun y => h.size ≤ y) h h') (fun t _ => (16 - t.2).toNat)
    ⟨by simp, by simp, by simp, SlR.nil _ _, (fun b hb' => by obtain ⟨x, hx, _⟩ := hb'; cases hx), .refl _ _⟩ ?_
  rintro ⟨s, i⟩ h1 ⟨p1, p2, p3, p4, p5, p6⟩
  replace p1 : 0 ≤ i := p1
  replace p2 : i ≤ 16 := p2
  replace p3 : s.len = i.toNat := p3
  replace p4 : Wl h1 s.a s.len s.cap (shaSched bs i.toNat) := p4
  replace p5 : ∀ b, blk s.a b → h.size ≤ b := p5
  refine cnd_dec (fun hi => ?_) (fun hi => ?_)
  · replace hi : i < 16 := hi
    have hw : w64 (i + 1) = i + 1 := w64_id (by omega) (by omega)
    have w0 : w64 (4 * i) = 4 * i := w64_id (by omega) (by omega)
    have w1 : w64 (4 * i + 1) = 4 * i + 1 := w64_id (by omega) (by omega)
    have w2 : w64 (4 * i + 2) = 4 * i + 2 := w64_id (by omega) (by omega)
    have w3 : w64 (4 * i + 3) = 4 * i + 3 := w64_id (by omega) (by omega)
    simp only [w0, w1, w2, w3]
    have hb1 : Rb h1 a 64 bs := hb.keep p6 (fun hl b hb' hge => by have := hb.lt hl hb'; have hge' : h.size ≤ b := hge; omega)
    refine hb1.at (by omega) (by show 4 * i < ((64 : Nat) : Int); omega) ?_
    intro b0 e0
    refine hb1.at (by omega) (by show 4 * i + 1 < ((64 : Nat) : Int); omega) ?_
    intro b1 e1
    refine hb1.at (by omega) (by show 4 * i + 2 < ((64 : Nat) : Int); omega) ?_
    intro b2 e2
    refine hb1.at (by omega) (by show 4 * i + 3 < ((64 : Nat) : Int); omega) ?_
    intro b3 e3
    have slen := shaSched_length bs i.toNat
    refine wpush (w := be4 bs i.toNat) p4 p5 p6 (by omega) ?_ ?_
    · rw [u_byte, u_byte, u_byte, u_byte, u_shl _ (by omega) (by omega), u_shl _ (by omega) (by omega), u_shl _ (by omega) (by omega), u_add, u_add, u_add]
      show u (((ub b0 <<< 24 + ub b1 <<< 16) + ub b2 <<< 8) + ub b3) = _
      rw [be_sum]
      unfold be4
      rw [getD_of (x := b0) (by rw [← e0]; congr 1; omega), getD_of (x := b1) (by rw [← e1]; congr 1; omega), getD_of (x := b2) (by rw [← e2]; congr 1; omega), getD_of (x := b3) (by rw [← e3]; congr 1; omega)]
    · intro a' c' h2 v1 v2 v3
      show (0 ≤ w64 (i + 1) ∧ w64 (i + 1) ≤ 16 ∧ s.len + 1 = (w64 (i + 1)).toNat ∧ Wl h2 a' (s.len + 1) c' (shaSched bs (w64 (i + 1)).toNat) ∧ (∀ b, blk a' b → h.size ≤ b) ∧ Keep (fun y => h.size ≤ y) h h2) ∧ (16 - w64 (i + 1)).toNat < (16 - i).toNat
      rw [hw, show (i + 1).toNat = i.toNat + 1 by omega]
      refine ⟨⟨by omega, by omega, by omega, ?_, v2, v3⟩, by omega⟩
      show Wl h2 a' (s.len + 1) c' (shaSched bs i.toNat ++ [if i.toNat < 16 then _ else _])
      rw [if_pos (by omega)]
      exact v1
  · have hi16 : i = 16 := by
      have : ¬ i < 16 := hi
      omega
    subst hi16
    refine LoopT.intro (fun (t : Sl × Int) h' => 16 ≤ t.2 ∧ t.2 ≤ 64 ∧ t.1.len = t.2.toNat ∧ Wl h' t.1.a t.1.len t.1.cap (shaSched bs t.2.toNat) ∧ (∀ b, blk t.1.a b → h.size ≤ b) ∧ Keep (fun y => h.size ≤ y) h h') (fun t _ => (64 - t.2).toNat)
      ⟨by simp, by simp, p3, p4, p5, p6⟩ ?_
    rintro ⟨s, i⟩ h1 ⟨p1, p2, p3, p4, p5, p6⟩
    replace p1 : 16 ≤ i := p1
    replace p2 : i ≤ 64 := p2
    replace p3 : s.len = i.toNat := p3
    replace p4 : Wl h1 s.a s.len s.cap (shaSched bs i.toNat) := p4
    replace p5 : ∀ b, blk s.a b → h.size ≤ b := p5
    refine cnd_dec (fun hi => ?_) (fun hi => ?_)
    · replace hi : i < 64 := hi
      have hw : w64 (i + 1) = i + 1 := w64_id (by omega) (by omega)
      have w15 : w64 (i - 15) = i - 15 := w64_id (by omega) (by omega)
      have w2 : w64 (i - 2) = i - 2 := w64_id (by omega) (by omega)
      have w16 : w64 (i - 16) = i - 16 := w64_id (by omega) (by omega)
      have w7 : w64 (i - 7) = i - 7 := w64_id (by omega) (by omega)
      simp only [w15, w2, w16, w7]
      have slen := shaSched_length bs i.toNat
      have old : ∀ j : Int, 0 ≤ j → j < i → ∀ {K : Addr → Prop}, (∀ x : Addr, cellH h1 (x.add (j.toNat * 1)) = some (.int .u32 (u ((shaSched bs i.toNat).getD j.toNat 0))) → K x) → idx s.a s.len j K := by
        intro j j0 j1 K hK
        refine SlR.idx p4 j0 (by omega) fun x hx hsp => hK x ?_
        unfold Wl at p4
        rw [hx] at p4
        rw [Nat.mul_one, SlR.cell p4 (by omega), List.getElem?_map, List.getElem?_eq_getElem (by omega), List.getD_eq_getElem?_getD, List.getElem?_eq_getElem (by omega)]
        rfl
      refine old _ (by omega) (by omega) fun x1 l1 => ldI_at l1 ?_
      refine old _ (by omega) (by omega) fun x2 l2 => ldI_at l2 ?_
      refine old _ (by omega) (by omega) fun x3 l3 => ldI_at l3 ?_
      refine left_spec (n := 25) (by omega) ⟨ldI_at l3 rfl, ldI_at l2 rfl, ?_⟩
      refine left_spec (n := 14) (by omega) ⟨ldI_at l3 rfl, ?_⟩
      refine old _ (by omega) (by omega) fun x4 l4 => ldI_at l4 ?_
      refine old _ (by omega) (by omega) fun x5 l5 => ldI_at l5 ?_
      refine old _ (by omega) (by omega) fun x6 l6 => ldI_at l6 ?_
      refine left_spec (n := 15) (by omega) ⟨ldI_at l6 rfl, ldI_at l5 rfl, ?_⟩
      refine left_spec (n := 13) (by omega) ⟨ldI_at l6 rfl, ?_⟩
      refine old _ (by omega) (by omega) fun x7 l7 => ldI_at l7 ?_
      refine old _ (by omega) (by omega) fun x8 l8 => ldI_at l8 ?_
      refine wpush (w := (shaSched bs i.toNat).getD (i.toNat - 16) 0 + sg0 ((shaSched bs i.toNat).getD (i.toNat - 15) 0) + (shaSched bs i.toNat).getD (i.toNat - 7) 0 + sg1 ((shaSched bs i.toNat).getD (i.toNat - 2) 0)) p4 p5 p6 (by omega) ?_ ?_
      · rw [u_shr _ (by omega) (by omega), u_shr _ (by omega) (by omega)]
        simp only [u_xor, u_add]
        rw [show i.toNat - 16 = (i - 16).toNat by omega, show i.toNat - 15 = (i - 15).toNat by omega, show i.toNat - 7 = (i - 7).toNat by omega, show i.toNat - 2 = (i - 2).toNat by omega]
        rfl
      · intro a' c' h2 v1 v2 v3
        show (16 ≤ w64 (i + 1) ∧ w64 (i + 1) ≤ 64 ∧ s.len + 1 = (w64 (i + 1)).toNat ∧ Wl h2 a' (s.len + 1) c' (shaSched bs (w64 (i + 1)).toNat) ∧ (∀ b, blk a' b → h.size ≤ b) ∧ Keep (fun y => h.size ≤ y) h h2) ∧ (64 - w64 (i + 1)).toNat < (64 - i).toNat
        rw [hw, show (i + 1).toNat = i.toNat + 1 by omega]
        refine ⟨⟨by omega, by omega, by omega, ?_, v2, v3⟩, by omega⟩
        show Wl h2 a' (s.len + 1) c' (shaSched bs i.toNat ++ [if i.toNat < 16 then _ else _])
        rw [if_neg (by omega)]
        exact v1
    · have hi64 : i = 64 := by
        have : ¬ i < 64 := hi
        omega
      subst hi64
      exact hk s h1 p3 p4 ⟨p6.size, fun b hb' _ => p6.same b hb' (by omega)⟩

theorem sha256_spec {h : Heap} {a : Option Addr} {l c : Nat} {bs : List UInt8} (hb : Rb h a l bs) (hl : l ≤ 140737488352000) {R : Sl → Heap → Prop}
    (hk : ∀ s h', Bl h' s.a s.len s.cap (sha256F bs) → Keep (fun _ => False) h h' → R s h') :
    CallT Tryd.prog ref2_SHA256_no [.slice a l c] h [.sc .sl] R := by
  have hcall := ref2_SHA256_call (x_0 := ⟨a, l, c⟩) (R := R) (h := h)
  apply hcall
  unfold ref2_SHA256
  have hlen := hb.len
  refine newB_row ?_
  intro h1 s1 r1 k1
  have r1' : Row h1 h.size (c8 sha0) := r1
  refine roots_spec ?_
  intro h2 ws2 k2 s2
  have k02 : Keep (fun _ => False) h h2 := k1.trans' k2
  refine padded_spec (hb.keep k02 (fun _ _ _ h => h)) hl ?_
  intro t h4 bt bc bn k4
  obtain ⟨M, hM⟩ : ∃ M, M = padL bs true := ⟨_, rfl⟩
  rw [← hM] at bt
  obtain ⟨f1, f2⟩ := padL_length bs true
  rw [← hM] at f1 f2
  have tl := bt.len
  have r4 : Row h4 h.size (c8 sha0) := k4.row (k2.row r1' (fun h => h)) (fun h => h)
  have ws4 : Ws h4 (some ⟨h1.size, 0, none⟩) 64 rootL := Rv.keep ws2 k4 (fun _ _ _ h => h)
  have k04 := k02.trans' k4
  have hsz := r4.lt
  refine LoopT.intro (fun at_ h' => ∃ k : Nat, at_ = ((64 * k : Nat) : Int) ∧ 64 * k ≤ t.len ∧ Row h' h.size (c8 (blocksN shaBlk k sha0 M)) ∧ Keep (fun y => y = h.size ∨ h4.size ≤ y) h4 h') (fun at_ _ => (t.len - at_).toNat) ⟨0, rfl, by omega, r4, .refl _ _⟩ ?_
  rintro at_ h5 ⟨k, rfl, q2, q3, q4⟩
  have ws5 : Ws h5 (some ⟨h1.size, 0, none⟩) 64 rootL := Rv.keep ws4 q4 (fun _ y hy e => by
    rw [blk_some] at hy
    simp only at hy
    have := k4.size
    rcases e with e | e <;> omega)
  have bt5 : Bl h5 t.a t.len t.cap M := SlR.keep bt q4 (fun y hy e => by
    have := bn y hy
    have := SlR.blk_lt bt hy
    rcases e with e | e <;> omega)
  have z4 := q4.size
  refine cnd_dec (fun hin => ?_) (fun hin => ?_)
  · have hkl : 64 * k + 64 ≤ t.len := by omega
    have wn : w64 (((64 * k : Nat) : Int) + 64) = ((64 * (k + 1) : Nat) : Int) := by rw [w64_id (by omega) (by omega)]; omega
    simp only [wn]
    refine bt5.rb.sub (by omega) (by omega) (by omega) (by omega) (by omega) ?_
    intro a6 b6 _
    obtain ⟨blk_, hblk⟩ : ∃ b, b = (M.drop (64 * k)).take 64 := ⟨_, rfl⟩
    have e64 : (((64 * (k + 1) : Nat) : Int) - ((64 * k : Nat) : Int)).toNat = 64 := by omega
    rw [e64, Int.toNat_natCast, ← hblk] at b6
    rw [e64]
    refine schedule_spec b6 ?_
    intro ss h6 sl6 w6 k6
    have q3' := k6.row q3 (fun h => h)
    obtain ⟨x, hx⟩ : ∃ x, x = blocksN shaBlk k sha0 M := ⟨_, rfl⟩
    rw [← hx] at q3'
    refine idx_some (by decide) (of_decide_eq_true rfl) (ldI_row (o := 0) q3' rfl (idx_some (by decide) (of_decide_eq_true rfl) (ldI_row (o := 1) q3' rfl (idx_some (by decide) (of_decide_eq_true rfl) (ldI_row (o := 2) q3' rfl (idx_some (by decide) (of_decide_eq_true rfl) (ldI_row (o := 3) q3' rfl (idx_some (by decide) (of_decide_eq_true rfl) (ldI_row (o := 4) q3' rfl (idx_some (by decide) (of_decide_eq_true rfl) (ldI_row (o := 5) q3' rfl (idx_some (by decide) (of_decide_eq_true rfl) (ldI_row (o := 6) q3' rfl (idx_some (by decide) (of_decide_eq_true rfl) (ldI_row (o := 7) q3' rfl ?_)))))))))))))))
    refine newB_row ?_
    intro h7 s7 r7 k7
    have r7' : Row h7 h6.size (c8 x) := r7
    have z6 := k6.size
    have k57 := k6.trans' k7
    have q3'' : Row h7 h.size (c8 x) := k7.row q3' (fun h => h)
    have w7 : Wl h7 ss.a ss.len ss.cap (shaSched blk_ 64) := SlR.keep w6 k7 (fun _ _ h => h)
    have ro7 : Ws h7 (some ⟨h1.size, 0, none⟩) 64 rootL := Rv.keep ws5 k57 (fun _ _ _ h => h)
    obtain ⟨ws, hws⟩ : ∃ ws, ws = shaSched blk_ 64 := ⟨_, rfl⟩
    rw [← hws] at w7
    refine LoopT.intro (fun (t : Sl × Int) h' => 0 ≤ t.2 ∧ t.2 ≤ 64 ∧ (∃ b, t.1.a = some ⟨b, 0, none⟩ ∧ h6.size ≤ b ∧ t.1.len = 8 ∧ Row h' b (c8 (shaR ws x t.2.toNat))) ∧ Keep (fun _ => False) h7 h') (fun t _ => (64 - t.2).toNat) ⟨by simp, by simp, ⟨h6.size, rfl, Nat.le_refl _, rfl, r7'⟩, .refl _ _⟩ ?_
    rintro ⟨⟨va, vl, vc⟩, i⟩ h8 ⟨p1, p2, ⟨b, p3, p4, p5, p6⟩, p7⟩
    replace p1 : 0 ≤ i := p1
    replace p2 : i ≤ 64 := p2
    replace p3 : va = some ⟨b, 0, none⟩ := p3
    replace p5 : vl = 8 := p5
    replace p6 : Row h8 b (c8 (shaR ws x i.toNat)) := p6
    subst p3 p5
    obtain ⟨z, hz⟩ : ∃ z, z = shaR ws x i.toNat := ⟨_, rfl⟩
    rw [← hz] at p6
    have w8 : Ws h8 ss.a ss.len ws := Rv.keep (SlR.rv w7) p7 (fun _ _ _ h => h)
    have ro8 : Ws h8 (some ⟨h1.size, 0, none⟩) 64 rootL := Rv.keep ro7 p7 (fun _ _ _ h => h)
    refine cnd_dec (fun hi => ?_) (fun hi => ?_)
    · replace hi : i < 64 := hi
      have hw : w64 (i + 1) = i + 1 := w64_id (by omega) (by omega)
      have hn1 : (i + 1).toNat = i.toNat + 1 := by omega
      refine idx_some (by decide) (of_decide_eq_true rfl) (ldI_row (o := 4) p6 rfl (idx_some (by decide) (of_decide_eq_true rfl) (ldI_row (o := 4) p6 rfl (idx_some (by decide) (of_decide_eq_true rfl) (ldI_row (o := 4) p6 rfl ?_)))))
      refine left_spec (n := 26) (by omega) ⟨ldI_row (o := 4) p6 rfl rfl, ldI_row (o := 4) p6 rfl rfl, ?_⟩
      refine left_spec (n := 21) (by omega) ⟨ldI_row (o := 4) p6 rfl rfl, ?_⟩
      refine left_spec (n := 7) (by omega) ?_
      refine idx_some (by decide) (of_decide_eq_true rfl) (ldI_row (o := 4) p6 rfl (idx_some (by decide) (of_decide_eq_true rfl) (ldI_row (o := 5) p6 rfl (idx_some (by decide) (of_decide_eq_true rfl) (ldI_row (o := 4) p6 rfl (idx_some (by decide) (of_decide_eq_true rfl) (ldI_row (o := 6) p6 rfl (idx_some (by decide) (of_decide_eq_true rfl) (ldI_row (o := 7) p6 rfl ?_)))))))))
      refine ro8.at p1 hi (w8.at p1 (by rw [sl6]; exact hi) ?_)
      refine idx_some (by decide) (of_decide_eq_true rfl) (ldI_row (o := 0) p6 rfl (idx_some (by decide) (of_decide_eq_true rfl) (ldI_row (o := 0) p6 rfl (idx_some (by decide) (of_decide_eq_true rfl) (ldI_row (o := 0) p6 rfl ?_)))))
      refine left_spec (n := 30) (by omega) ⟨ldI_row (o := 0) p6 rfl rfl, ldI_row (o := 0) p6 rfl rfl, ?_⟩
      refine left_spec (n := 19) (by omega) ⟨ldI_row (o := 0) p6 rfl rfl, ?_⟩
      refine left_spec (n := 10) (by omega) ?_
      refine idx_some (by decide) (of_decide_eq_true rfl) (ldI_row (o := 0) p6 rfl (idx_some (by decide) (of_decide_eq_true rfl) (ldI_row (o := 1) p6 rfl (idx_some (by decide) (of_decide_eq_true rfl) (ldI_row (o := 0) p6 rfl (idx_some (by decide) (of_decide_eq_true rfl) (ldI_row (o := 2) p6 rfl (idx_some (by decide) (of_decide_eq_true rfl) (ldI_row (o := 1) p6 rfl (idx_some (by decide) (of_decide_eq_true rfl) (ldI_row (o := 2) p6 rfl (idx_some (by decide) (of_decide_eq_true rfl) (ldI_row (o := 0) p6 rfl (idx_some (by decide) (of_decide_eq_true rfl) (ldI_row (o := 1) p6 rfl (idx_some (by decide) (of_decide_eq_true rfl) (ldI_row (o := 2) p6 rfl (idx_some (by decide) (of_decide_eq_true rfl) (ldI_row (o := 3) p6 rfl (idx_some (by decide) (of_decide_eq_true rfl) (ldI_row (o := 4) p6 rfl (idx_some (by decide) (of_decide_eq_true rfl) (ldI_row (o := 5) p6 rfl (idx_some (by decide) (of_decide_eq_true rfl) (ldI_row (o := 6) p6 rfl ?_)))))))))))))))))))))))))
      simp only [u_not, u_and, u_xor, u_add]
      refine newB_row ?_
      intro h9 s9 r9 k9
      show (0 ≤ w64 (i + 1) ∧ w64 (i + 1) ≤ 64 ∧ (∃ b, some (⟨h8.size, 0, none⟩ : Addr) = some ⟨b, 0, none⟩ ∧ h6.size ≤ b ∧ True ∧ Row h9 b (c8 (shaR ws x (w64 (i + 1)).toNat))) ∧ Keep (fun _ => False) h7 h9) ∧ (64 - w64 (i + 1)).toNat < (64 - i).toNat
      rw [hw, hn1]
      have := p7.size
      refine ⟨⟨by omega, by omega, ⟨h8.size, rfl, by omega, trivial, ?_⟩, p7.trans' k9⟩, by omega⟩
      rw [shaR_succ, ← hz]
      exact r9
    · have hi64 : i = 64 := by
        have : ¬ i < 64 := hi
        omega
      subst hi64
      have q38 : Row h8 h.size (c8 x) := p7.row q3'' (fun h => h)
      refine LoopT.intro (fun i h' => 0 ≤ i ∧ i ≤ 8 ∧ Row h' h.size ((List.range 8).map fun j => .int .u32 (u (if j < i.toNat then (l8 x).getD j 0 + (l8 z).getD j 0 else (l8 x).getD j 0))) ∧ Keep (· = h.size) h8 h') (fun i _ => (8 - i).toNat) ⟨by omega, by omega, q38, .refl _ _⟩ ?_
      rintro i h9 ⟨v1, v2, v3, v4⟩
      refine cnd_dec (fun hi8 => ?_) (fun hi8 => ?_)
      · replace hi8 : i < 8 := hi8
        have pz : Row h9 b (c8 z) := v4.row p6 (fun e => by
          have e' : b = h.size := e
          omega)
        have g1 : cellH h9 ((⟨h.size, 0, none⟩ : Addr).add (i.toNat * 1)) = some (.int .u32 (u ((l8 x).getD i.toNat 0))) := by
          rw [add_mk, Nat.zero_add, Nat.mul_one, v3.cells, List.getElem?_map, List.getElem?_range (by omega)]
          simp only [Option.map_some]
          rw [if_neg (by omega)]
        have g2 : cellH h9 ((⟨b, 0, none⟩ : Addr).add (i.toNat * 1)) = some (.int .u32 (u ((l8 z).getD i.toNat 0))) := by
          have e : c8 z = (l8 z).map fun w => .int .u32 (u w) := rfl
          have hl : (l8 z).length = 8 := rfl
          rw [add_mk, Nat.zero_add, Nat.mul_one, pz.cells, e, List.getElem?_map, List.getElem?_eq_getElem (by omega), List.getD_eq_getElem?_getD, List.getElem?_eq_getElem (by omega)]
          rfl
        refine idx_some v1 hi8 (ldI_at g1 (idx_some v1 hi8 (ldI_at g2 (idx_some v1 hi8 ?_))))
        rw [u_add, add_mk, Nat.zero_add, Nat.mul_one]
        refine stC_row v3 (by simp; omega) rfl ?_
        intro h10 s10 r10 k10
        rw [w64_id (x := i + 1) (by omega) (by omega)]
        refine ⟨⟨by omega, by omega, ?_, v4.trans' k10⟩, by omega⟩
        rw [show (i + 1).toNat = i.toNat + 1 by omega]
        have el : ((List.range 8).map fun j => Value.int .u32 (u (if j < i.toNat then (l8 x).getD j 0 + (l8 z).getD j 0 else (l8 x).getD j 0))).set i.toNat (.int .u32 (u ((l8 x).getD i.toNat 0 + (l8 z).getD i.toNat 0))) = (List.range 8).map fun j => Value.int .u32 (u (if j < i.toNat + 1 then (l8 x).getD j 0 + (l8 z).getD j 0 else (l8 x).getD j 0)) := by
          apply List.ext_getElem?
          intro j
          rw [List.getElem?_set, List.length_map, List.length_range, List.getElem?_map, List.getElem?_map]
          by_cases hj : j < 8
          · rw [List.getElem?_range hj]
            simp only [Option.map_some]
            by_cases hij : i.toNat = j
            · rw [if_pos hij, if_pos (by omega), if_pos (by omega), ← hij]
            · rw [if_neg hij]
              by_cases h6 : j < i.toNat
              · rw [if_pos h6, if_pos (by omega)]
              · rw [if_neg h6, if_neg (by omega)]
          · rw [if_neg (by omega), List.getElem?_eq_none (by simp; omega)]
            simp
        rw [← el]
        exact r10
      · have hi8' : i = 8 := by
          have : ¬ i < 8 := hi8
          omega
        subst hi8'
        have r18 : Row h9 h.size (c8 (add8 x z)) := v3
        refine ⟨⟨k + 1, rfl, by omega, ?_, ?_⟩, by omega⟩
        · rw [blocksN_succ, ← hx, ← hblk]
          have ez : add8 x z = shaBlk x blk_ := by unfold shaBlk; rw [hz, hws]; rfl
          rw [← ez]
          exact r18
        · exact q4.trans (((k57.trans' p7).mono (T := fun y => y = h.size ∨ h4.size ≤ y) (fun _ _ h => h.elim)).trans v4 (fun y _ e => .inl e)) (fun _ _ h => h)
  · have hkk : k = M.length / 64 := by omega
    subst hkk
    obtain ⟨S, hS⟩ : ∃ S, S = shaSt bs := ⟨_, rfl⟩
    rw [hM, sum_pad] at q3
    have q3' : Row h5 h.size (c8 S) := by rw [hS]; exact q3
    have hl8 : (l8 S).length = 8 := rfl
    refine LoopT.intro (fun (t : Sl × Int) h' => 0 ≤ t.2 ∧ t.2 ≤ 8 ∧ t.1.len = 4 * t.2.toNat ∧ Bl h' t.1.a t.1.len t.1.cap (((l8 S).take t.2.toNat).flatMap be4L) ∧ (∀ b, blk t.1.a b → h5.size ≤ b) ∧ Keep (fun y => h5.size ≤ y) h5 h') (fun t _ => (8 - t.2).toNat)
      ⟨by simp, by simp, by simp, SlR.nil _ _, (fun b hb' => by obtain ⟨x, hx, _⟩ := hb'; cases hx), .refl _ _⟩ ?_
    rintro ⟨o, i⟩ h12 ⟨p1, p2, p3, p4, p5, p6⟩
    replace p1 : 0 ≤ i := p1
    replace p2 : i ≤ 8 := p2
    replace p3 : o.len = 4 * i.toNat := p3
    replace p4 : Bl h12 o.a o.len o.cap (((l8 S).take i.toNat).flatMap be4L) := p4
    replace p5 : ∀ b, blk o.a b → h5.size ≤ b := p5
    refine cnd_dec (fun hi => ?_) (fun hi => ?_)
    · replace hi : i < 8 := hi
      have hi8 : i.toNat < (l8 S).length := by omega
      obtain ⟨w, hw⟩ : ∃ w, w = (l8 S)[i.toNat] := ⟨_, rfl⟩
      have r12 : Row h12 h.size (c8 S) := p6.row q3' (fun e => by
        have e' : h5.size ≤ h.size := e
        have := q3'.lt
        omega)
      have rd : cellH h12 ((⟨h.size, 0, none⟩ : Addr).add (i.toNat * 1)) = some (.int .u32 (u w)) := by
        have e : c8 S = (l8 S).map fun w => .int .u32 (u w) := rfl
        rw [add_mk, Nat.zero_add, Nat.mul_one, r12.cells, e, List.getElem?_map, List.getElem?_eq_getElem hi8, hw]
        rfl
      refine idx_some p1 hi (ldI_at rd (idx_some p1 hi (ldI_at rd (idx_some p1 hi (ldI_at rd (idx_some p1 hi (ldI_at rd ?_)))))))
      refine newB_row ?_
      intro h13 s13 r13 k13
      refine ldRow_row r13 (by simp) ?_
      have p4' : Bl h13 o.a o.len o.cap _ := SlR.keep p4 k13 (fun _ _ h => h)
      refine p4'.push (new := be4L w) (by show o.len + 4 ≤ _; omega) rfl ?_ ?_
      · simp only [be4L, List.map_cons, List.map_nil, u_shr w (n := 8) (by decide) (by decide), u_shr w (n := 16) (by decide) (by decide), u_shr w (n := 24) (by decide) (by decide), u_low]
        rfl
      · intro a' c' h14 w1 w2 w3
        show (0 ≤ w64 (i + 1) ∧ w64 (i + 1) ≤ 8 ∧ o.len + 4 = 4 * (w64 (i + 1)).toNat ∧ Bl h14 a' (o.len + 4) c' (((l8 S).take (w64 (i + 1)).toNat).flatMap be4L) ∧ (∀ b, blk a' b → h5.size ≤ b) ∧ Keep (fun y => h5.size ≤ y) h5 h14) ∧ (8 - w64 (i + 1)).toNat < (8 - i).toNat
        rw [w64_id (x := i + 1) (by omega) (by omega), show (i + 1).toNat = i.toNat + 1 by omega, List.take_add_one, List.getElem?_eq_getElem hi8, List.flatMap_append, ← hw]
        have := p6.size
        refine ⟨⟨by omega, by omega, by omega, by simpa using w1, fun b hb' => ?_, (p6.trans k13 (fun _ _ h => h.elim)).trans w2 (fun y _ hy => p5 y hy)⟩, by omega⟩
        rcases w3 b hb' with hh | hh
        · exact p5 b hh
        · omega
    · have hi4 : i = 8 := by
        have : ¬ i < 8 := hi
        omega
      subst hi4
      have kk := (k04.mono (T := fun y => h.size ≤ y) (fun _ _ h => h.elim)).trans' ((q4.mono (T := fun y => h.size ≤ y) (fun y _ e => by
        have := k04.size
        show h.size ≤ y
        rcases e with e | e <;> omega)).trans p6 (fun y _ hy => by
        have hy' : h5.size ≤ y := hy
        have := k04.size
        show h.size ≤ y
        omega))
      refine hk o h12 ?_ ⟨kk.size, fun b hb' _ => kk.same b hb' (by omega)⟩
      have e : sha256F bs = ((l8 S).take (8 : Int).toNat).flatMap be4L := by
        unfold sha256F
        rw [← hS]
        rfl
      rw [e]
      exact p4

end Ref2
namespace Ref2
open Hash

theorem hmac_spec {h : Heap} {a b : Option Addr} {l c m d : Nat} {key bs : List UInt8} (hkey : Rb h a l key) (hl : l ≤ 140737488352000) (hb : Rb h b m bs) (hm : m ≤ 140737488351500) {R : Sl → Heap → Prop}
    (hk : ∀ s h', Bl h' s.a s.len s.cap (hmacF key bs) → Keep (fun _ => False) h h' → R s h') :
    CallT Tryd.prog ref2_HMAC_no [.slice a l c, .slice b m d] h [.sc .sl] R := by
  have hcall := ref2_HMAC_call (key_0 := ⟨a, l, c⟩) (b_1 := ⟨b, m, d⟩) (R := R) (h := h)
  apply hcall
  unfold ref2_HMAC
  have hlen := hkey.len
  have hblen := hb.len
  refine withJ.intro (fun (s : Sl) h' => Rb h' s.a s.len (keyB key) ∧ Keep (fun _ => False) h h') ?_ ?_
  rotate_left
  · intro J hJ
    refine cnd_dec (fun h64 => ?_) (fun h64 => ?_)
    · refine sha256_spec hkey hl ?_
      intro s h' w1 w4
      refine hJ _ _ ⟨?_, w4⟩
      unfold keyB
      rw [if_pos (by simp only at h64; omega)]
      exact w1.rb
    · refine hJ _ _ ⟨?_, .refl _ _⟩
      unfold keyB
      rw [if_neg (by simp only at h64; omega)]
      exact hkey
  rintro s h1 ⟨hk1, k1⟩
  have kle := keyB_le key
  have klen := hk1.len
  obtain ⟨kb, hkb⟩ : ∃ kb, kb = keyB key := ⟨_, rfl⟩
  rw [← hkb] at hk1 kle klen
  have hb1 := hb.keep k1 (fun _ _ _ h => h)
  have nob : ∀ b, ¬ blk none b := fun b hb => by obtain ⟨x, hx, _⟩ := hb; cases hx
  let pt : Nat → Nat → List UInt8 := fun k i => (List.range i).map fun j => xb (kb.getD j 0) k
  have pts : ∀ k i, pt k (i + 1) = pt k i ++ [xb (kb.getD i 0) k] := fun k i => by
    show (List.range (i + 1)).map _ = _
    rw [List.range_succ, List.map_append]
    rfl
  refine LoopT.intro (fun (t : Sl × Sl × Int) h' => 0 ≤ t.2.2 ∧ t.2.2 ≤ 64 ∧ t.1.len = t.2.2.toNat ∧ t.2.1.len = t.2.2.toNat ∧ Bl h' t.1.a t.1.len t.1.cap (pt 54 t.2.2.toNat) ∧ Bl h' t.2.1.a t.2.1.len t.2.1.cap (pt 92 t.2.2.toNat) ∧ (∀ b, blk t.1.a b → h1.size ≤ b ∧ ¬ blk t.2.1.a b) ∧ (∀ b, blk t.2.1.a b → h1.size ≤ b) ∧ Keep (fun y => h1.size ≤ y) h1 h') (fun t _ => (64 - t.2.2).toNat)
    ⟨by simp, by simp, by simp, by simp, SlR.nil _ _, SlR.nil _ _, (fun b hb' => absurd hb' (nob b)), (fun b hb' => absurd hb' (nob b)), .refl _ _⟩ ?_
  rintro ⟨si, so, i⟩ h2 ⟨p1, p2, p3, p4, p5, p6, p7, p8, p9⟩
  replace p1 : 0 ≤ i := p1
  replace p2 : i ≤ 64 := p2
  replace p3 : si.len = i.toNat := p3
  replace p4 : so.len = i.toNat := p4
  replace p5 : Bl h2 si.a si.len si.cap (pt 54 i.toNat) := p5
  replace p6 : Bl h2 so.a so.len so.cap (pt 92 i.toNat) := p6
  replace p7 : ∀ b, blk si.a b → h1.size ≤ b ∧ ¬ blk so.a b := p7
  replace p8 : ∀ b, blk so.a b → h1.size ≤ b := p8
  have z9 := p9.size
  refine cnd_dec (fun hi => ?_) (fun hi => ?_)
  · replace hi : i < 64 := hi
    have hw : w64 (i + 1) = i + 1 := w64_id (by omega) (by omega)
    refine withJ.inl ?_
    refine withJ.intro (fun (x : Int) h' => h' = h2 ∧ x = ((kb.getD i.toNat 0).toNat : Int)) ?_ ?_
    · rintro x h' ⟨rfl, hx⟩
      subst hx
      rw [show (54 : Int) = ((54 : Nat) : Int) from rfl, xb_val _ (by decide), show (92 : Int) = ((92 : Nat) : Int) from rfl, xb_val _ (by decide)]
      refine newB_row ?_
      intro h3 s3 r3 k3
      refine ldRow_row r3 (by simp) ?_
      have p5' : Bl h3 si.a si.len si.cap _ := SlR.keep p5 k3 (fun _ _ h => h)
      have p6' : Bl h3 so.a so.len so.cap _ := SlR.keep p6 k3 (fun _ _ h => h)
      refine p5'.push (new := [xb (kb.getD i.toNat 0) 54]) (by show si.len + 1 ≤ _; omega) rfl rfl ?_
      intro a4 c4 h4 w1 w2 w3
      have n4 : ∀ b, blk a4 b → h1.size ≤ b ∧ ¬ blk so.a b := fun b hb' => by
        rcases w3 b hb' with hh | hh
        · exact p7 b hh
        · exact ⟨by omega, fun h' => by have := SlR.blk_lt p6' h'; omega⟩
      have p6'' : Bl h4 so.a so.len so.cap _ := SlR.keep p6' w2 (fun b hb' hh => (p7 b hh).2 hb')
      refine newB_row ?_
      intro h5 s5 r5 k5
      refine ldRow_row r5 (by simp) ?_
      have p63 : Bl h5 so.a so.len so.cap _ := SlR.keep p6'' k5 (fun _ _ h => h)
      refine p63.push (new := [xb (kb.getD i.toNat 0) 92]) (by show so.len + 1 ≤ _; omega) rfl rfl ?_
      intro a6 c6 h6 v1 v2 v3
      have w15 : Bl h5 a4 _ c4 _ := SlR.keep w1 k5 (fun _ _ h => h)
      have w16 : Bl h6 a4 _ c4 _ := SlR.keep w15 v2 (fun b hb' hh => (n4 b hb').2 hh)
      show (0 ≤ w64 (i + 1) ∧ w64 (i + 1) ≤ 64 ∧ si.len + 1 = (w64 (i + 1)).toNat ∧ so.len + 1 = (w64 (i + 1)).toNat ∧ Bl h6 a4 (si.len + 1) c4 (pt 54 (w64 (i + 1)).toNat) ∧ Bl h6 a6 (so.len + 1) c6 (pt 92 (w64 (i + 1)).toNat) ∧ (∀ b, blk a4 b → h1.size ≤ b ∧ ¬ blk a6 b) ∧ (∀ b, blk a6 b → h1.size ≤ b) ∧ Keep (fun y => h1.size ≤ y) h1 h6) ∧ (64 - w64 (i + 1)).toNat < (64 - i).toNat
      have z4 := w2.size
      have n6 : ∀ b, blk a6 b → h1.size ≤ b := fun b hb' => by
        rcases v3 b hb' with hh | hh
        · exact p8 b hh
        · omega
      rw [hw, show (i + 1).toNat = i.toNat + 1 by omega, pts, pts]
      refine ⟨⟨by omega, by omega, by omega, by omega, w16, v1, fun b hb' => ⟨(n4 b hb').1, fun hh => ?_⟩, n6, ?_⟩, by omega⟩
      · rcases v3 b hh with h' | h'
        · exact (n4 b hb').2 h'
        · have := SlR.blk_lt w15 hb'; omega
      · exact (((p9.trans k3 (fun _ _ h => h.elim)).trans w2 (fun y _ hy => (p7 y hy).1)).trans k5 (fun _ _ h => h.elim)).trans v2 (fun y _ hy => p8 y hy)
    · intro J hJ
      refine cnd_dec (fun hik => ?_) (fun hik => ?_)
      · have hk2 : Rb h2 s.a s.len kb := hk1.keep p9 (fun h0 y hy hge => by have := hk1.lt h0 hy; have hge' : h1.size ≤ y := hge; omega)
        refine hk2.at p1 hik ?_
        intro b hb'
        exact hJ _ _ ⟨rfl, by rw [getD_of hb']⟩
      · refine hJ _ _ ⟨rfl, ?_⟩
        have : kb.length ≤ i.toNat := by
          have : ¬ i < (s.len : Int) := hik
          omega
        rw [List.getD_eq_getElem?_getD, List.getElem?_eq_none this]
        rfl
  · have hi64 : i = 64 := by
      have : ¬ i < (64 : Int) := hi
      omega
    subst hi64
    have e54 : pt 54 (64 : Int).toNat = keyPad kb 54 := rfl
    have e92 : pt 92 (64 : Int).toNat = keyPad kb 92 := rfl
    rw [e54] at p5
    rw [e92] at p6
    have hb2 : Rb h2 b m bs := hb1.keep p9 (fun hl' y hy hge => by have := hb1.lt hl' hy; have hge' : h1.size ≤ y := hge; omega)
    refine hb2.rd ?_
    refine p5.push (new := bs) (by show si.len + m ≤ _; omega) hblen rfl ?_
    intro a6 c6 h6 q1 q2 q3
    have so6 : Bl h6 so.a so.len so.cap _ := SlR.keep p6 q2 (fun y hy hh => (p7 y hh).2 hy)
    refine sha256_spec q1.rb (by show si.len + m ≤ _; omega) ?_
    intro s7 h7 w1 w4
    refine w1.rb.rd ?_
    have l7 := w1.len
    rw [sha256F_length] at l7
    have so7 : Bl h7 so.a so.len so.cap _ := SlR.keep so6 w4 (fun _ _ h => h)
    refine so7.push (new := sha256F (keyPad kb 54 ++ bs)) (by show so.len + s7.len ≤ _; omega) (by rw [sha256F_length]; exact l7) rfl ?_
    intro a8 c8 h8 v1 v2 v3
    refine sha256_spec v1.rb (by show so.len + s7.len ≤ _; omega) ?_
    intro s9 h9 t1 t4
    have z1 := k1.size
    have k08 : Keep (fun y => h1.size ≤ y) h1 h8 := ((p9.trans q2 (fun y _ hy => (p7 y hy).1)).trans w4 (fun _ _ h => h.elim)).trans v2 (fun y _ hy => p8 y hy)
    refine hk s9 h9 ?_ ?_
    · unfold hmacF
      rw [← hkb]
      exact t1
    · have kk := (k1.mono (T := fun y => h1.size ≤ y) (fun _ _ h => h.elim)).trans' (k08.trans t4 (fun _ _ h => h.elim))
      exact ⟨kk.size, fun y hy _ => kk.same y hy (by omega)⟩

end Ref2
end Go.Proofs.YtncffbocmpmejaaDoor
