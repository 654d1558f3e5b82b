/- HttpLimits: the heap's side. -/
import Derived.Test.YtjpmjhnjdnbopaaPLim
import Derived.Test.YtjpmjhnjdnbopaaPPrint
namespace Go.Proofs.Ytjpmjhnjdnbopaa
open Go D
set_option linter.unusedVariables false
set_option linter.unusedSimpArgs false

section
variable {h0 h : Heap} {s : Sl} {bs : List UInt8}
/-- bytes laid behind bytes; what was there is read as it was -/
theorem Own.appB {S : Nat → Prop} {new : List UInt8} {vs : List Value} {m : Nat} {K : Option Addr → Nat → Heap → Prop} (ho : Own h0 h 1 s (bs.map byteV)) (hn : Keep S h0 h) (hv : vs = new.map byteV) (hm : m = new.length) (hb : s.len + m ≤ 100000000000000)
    (hk : ∀ a' c' h', Own h0 h' 1 ⟨a', s.len + m, c'⟩ ((bs ++ new).map byteV) → Keep S h0 h' → Keep (blk s.a) h h' → (∀ b, blk a' b → blk s.a b ∨ h.size ≤ b) → Rb h' s.a s.len bs → K a' c' h') : D.app [.int .u8 0] 5 1 1 s.a s.len s.cap vs m h K := by
  subst hv hm
  refine SlR.app ho.sl rfl (by simp) (fun v hv => by obtain ⟨x, _, rfl⟩ := List.mem_map.1 hv; rfl) (by omega) ?_
  intro a' c' h2 q1 q2 q3
  rw [← List.map_append] at q1
  have hz0 := hn.size
  have hlen := ho.len
  have w : ∀ b, blk a' b → blk s.a b ∨ h.size ≤ b := fun b hb' => by
    rcases q3 with ⟨rfl, _⟩ | ⟨rfl, _⟩
    · exact .inl hb'
    · rw [blk_some] at hb'
      exact .inr (by simp only at hb'; omega)
  refine hk a' c' h2 ⟨q1, fun b hb' => ?_⟩ (hn.trans q2 (fun x hx e => by have := ho.fresh x e; omega)) q2 w ?_
  · rcases w b hb' with hh | hh
    · exact ho.fresh b hh
    · omega
  · rcases q3 with ⟨rfl, _⟩ | ⟨_, _, k⟩
    · have r : Rv h2 s.a (s.len + new.length) ((bs ++ new).map byteV) := SlR.rv q1
      refine ⟨by omega, fun i v hv => ?_⟩
      have hi := (List.getElem?_eq_some_iff.1 hv).1
      refine r.2 i v ?_
      rw [List.map_append, List.getElem?_append_left hi]
      exact hv
    · exact Rv.keep ho.rv k (fun _ _ _ h => h)
/-- bytes out of a block of their own -/
theorem Own.pushB {S : Nat → Prop} {new : List UInt8} {vs : List Value} {t : TypeId} {m N : Nat} {K : Option Addr → Nat → Heap → Prop} (ho : Own h0 h 1 s (bs.map byteV)) (hn : Keep S h0 h) (hv : vs = new.map byteV) (hm : m = new.length) (hN : N = m) (hb : s.len + m ≤ 100000000000000)
    (hk : ∀ a' c' h', Own h0 h' 1 ⟨a', s.len + m, c'⟩ ((bs ++ new).map byteV) → Keep S h0 h' → Keep (blk s.a) h h' → (∀ b, blk a' b → blk s.a b ∨ h.size ≤ b) → Rb h' s.a s.len bs → K a' c' h') :
    newB vs t h fun a9 h10 => ldRow N a9 h10 fun cs14 => D.app [.int .u8 0] 5 1 1 s.a s.len s.cap cs14 m h10 K := by
  subst hN
  refine newB_row ?_
  intro h2 s2 r2 k2
  refine ldRow_row (o := 0) r2 (by rw [hv, List.length_map]; omega) ?_
  rw [List.drop_zero, List.take_of_length_le (by rw [hv, List.length_map]; omega)]
  refine (ho.nw k2).appB (hn.trans k2 (fun _ _ h => h.elim)) hv hm hb ?_
  intro a' c' h3 q1 q2 q3 q4 q5
  refine hk a' c' h3 q1 q2 ?_ (fun b hb' => ?_) q5
  · refine ⟨by have := q3.size; omega, fun b hb' hn' => ?_⟩
    rw [q3.same b (by omega) hn', k2.same b hb' (fun h => h)]
  · rcases q4 b hb' with hh | hh
    · exact .inl hh
    · exact .inr (by omega)
end


theorem tdiv_nat (n m : Nat) : ((n : Nat) : Int).tdiv ((m : Nat) : Int) = ((n / m : Nat) : Int) := (Int.ofNat_tdiv n m).symm
theorem tmod_nat (n m : Nat) : ((n : Nat) : Int).tmod ((m : Nat) : Int) = ((n % m : Nat) : Int) := (Int.ofNat_tmod n m).symm

/-- the last part: one row is read -/
def faultC (R : Bool → Heap → Prop) (a36 : Addr) (h46 : Heap) (f : Int) : Prop :=
  withJ (σ := Bool) (fun s47 h49 =>
  R s47 h49) (fun J48 =>
  ldI .i64 (a36.add 6) h46 fun n50 =>
  cnd (n50 == f) (
  CallT Try.prog law16_awake_no [] h46 [.sc (.bool)] fun (r51 : Bool) h52 =>
  J48 r51 h52) (
  J48 false h46))
def finL (x_1 x_2 : Int) (l7 : Nat) (L : Int) (o : Option Addr) (l c : Nat) (R : Bool → Heap → Prop) (h33 : Heap) : Prop :=
  CallT Try.prog http_Parse_no [.slice o l c] h33 [.agg [.int .i64, .int .i64, .str, .str, .sl, .sl, .int .i64, .bool, .bool]] fun (r34 : (Int × Int × ByteArray × ByteArray × Sl × Sl × Int × Bool × Bool)) h35 =>
  lay9 29 r34 (fun a36 h46 =>
  cnd (decide ((w64 ((l7 : Int) + 9)) > 8192)) (
  faultC R a36 h46 338) (
  cnd (decide ((w64 ((maxI x_1 1) + 1)) > 100)) (
  faultC R a36 h46 339) (
  cnd (decide (x_2 > 1048576)) (
  faultC R a36 h46 324) (
  cnd (decide (x_2 > 0)) (
  withJ (σ := Bool) (fun s65 h67 =>
  R s65 h67) (fun J66 =>
  ldI .i64 a36 h46 fun n68 =>
  cnd (n68 == 1) (
  CallT Try.prog law16_awake_no [] h46 [.sc (.bool)] fun (r69 : Bool) h70 =>
  J66 r69 h70) (
  J66 false h46))) (
  withJ (σ := Bool) (fun s71 h73 =>
  R s71 h73) (fun J72 =>
  ldI .i64 a36 h46 fun n74 =>
  cnd (n74 == 2) (
  ldI .i64 (a36.add 1) h46 fun n75 =>
  cnd (n75 == L) (
  CallT Try.prog law16_awake_no [] h46 [.sc (.bool)] fun (r76 : Bool) h77 =>
  J72 r76 h77) (
  J72 false h46)) (
  J72 false h46))))))) h35

theorem faultC_spec {h0 h : Heap} {b : Nat} {f : Int} {R : Bool → Heap → Prop} (hg : MaxG h0) (hn : Nw h0 h) (r : Row h b (row9 (stBad f))) (hR : ∀ h', Nw h0 h' → R true h') : faultC R ⟨b, 0, none⟩ h f := by
  unfold faultC
  refine withJ.intro (fun (q : Bool) h' => q = true ∧ Nw h0 h') (by rintro q h' ⟨rfl, k⟩; exact hR h' k) ?_
  intro J hJ
  refine ldI_row (o := 0 + 6) r rfl (cnd_t (beq_self_eq_true f) ?_)
  exact awake_spec (hg.nw hn) (fun h2 k2 => hJ _ _ ⟨rfl, hn.trans' k2⟩)

theorem finL_spec {h0 h : Heap} {x_1 x_2 L : Int} {l7 nx m size l c : Nat} {o : Option Addr} {R : Bool → Heap → Prop} (hg : MaxG h0) (hn : Nw h0 h) (hs : Own h0 h 1 ⟨o, l, c⟩ ((limT nx m size).map byteV)) (hL : L = (l : Int)) (h7 : l7 = nx + 5) (hx : nx ≤ 9000) (hm : maxI x_1 1 = ((m + 1 : Nat) : Int)) (hm2 : m ≤ 110) (h2 : x_2 = (size : Int)) (hz : size ≤ 2097152) (hR : ∀ h', Nw h0 h' → R true h') : finL x_1 x_2 l7 L o l c R h := by
  unfold finL
  have sl := hs.len
  rw [List.length_map, Nat.mul_one] at sl
  replace sl : (limT nx m size).length = l := sl
  have tl := limT_len nx m size
  have dl := decD_len 6 size (by omega)
  refine parse_all (x0 := ⟨o, l, c⟩) hs.rv (by show l ≤ _; omega) (hg.nw hn) ?_
  intro x h35 st k35
  refine lay9_spec (t := 29) ?_
  intro h46 r46 k46
  have N := (hn.trans' k35).trans' k46
  rw [w64_id (by omega) (by omega), hm, w64_id (by omega) (by omega)]
  simp only [add_mk]
  refine cnd_dec (fun c1 => ?_) (fun c1 => ?_)
  · rw [st.bad (lim_long (m := m) (size := size) (nx := nx) (by omega)) (by decide)] at r46
    exact faultC_spec hg N r46 hR
  obtain ⟨q1, q2, q3, q4⟩ := lim_req (nx := nx) (m := m) (size := size) (by omega) (by omega) (by omega)
  refine cnd_dec (fun c2 => ?_) (fun c2 => ?_)
  · rw [st.bad (q1 (by omega)) (by decide)] at r46
    exact faultC_spec hg N r46 hR
  refine cnd_dec (fun c3 => ?_) (fun c3 => ?_)
  · rw [st.bad (q2 (by omega) (by omega)) (by decide)] at r46
    exact faultC_spec hg N r46 hR
  refine cnd_dec (fun c4 => ?_) (fun c4 => ?_)
  · rw [st.more (q3 (by omega) (by omega) (by omega))] at r46
    refine withJ.intro (fun (q : Bool) h' => q = true ∧ Nw h0 h') (by rintro q h' ⟨rfl, k⟩; exact hR h' k) ?_
    intro J hJ
    refine ldI_row (o := 0) r46 rfl (cnd_t rfl ?_)
    exact awake_spec (hg.nw N) (fun h2 k2 => hJ _ _ ⟨rfl, N.trans' k2⟩)
  · obtain ⟨rq, e⟩ := q4 (by omega) (by omega)
    obtain ⟨a, b, rfl, _⟩ := st.ok e
    refine withJ.intro (fun (q : Bool) h' => q = true ∧ Nw h0 h') (by rintro q h' ⟨rfl, k⟩; exact hR h' k) ?_
    intro J hJ
    refine ldI_row (o := 0) r46 rfl (cnd_t rfl ?_)
    refine ldI_row (o := 0 + 1) r46 rfl (cnd_t ?_ ?_)
    · rw [hL, sl]
      exact beq_self_eq_true _
    exact awake_spec (hg.nw N) (fun h2 k2 => hJ _ _ ⟨rfl, N.trans' k2⟩)

theorem digV (n : Nat) : Value.int .u8 (IntKind.u8.wrap (48 + IntKind.u8.wrap ((n % 10 : Nat) : Int))) = byteV (UInt8.ofNat (48 + n % 10)) := by
  have : (UInt8.ofNat (48 + n % 10)).toNat = 48 + n % 10 := dig_toNat (Nat.mod_lt _ (by omega))
  unfold byteV
  rw [this, wrap_u8, wrap_u8]
  congr 1
  omega
theorem front_snoc (n : Nat) : front (n + 1) = front n ++ [120] := by
  unfold front rep
  rw [List.replicate_succ']
  simp
theorem front_len (n : Nat) : (front n).length = n + 5 := by unfold front rep; simp

def midT (nx m : Nat) : List UInt8 := lineX nx ++ 13 :: 10 :: (hostX ++ 13 :: 10 :: abs_ m)
theorem midT_snoc (nx m : Nat) : midT nx (m + 1) = midT nx m ++ abX := by unfold midT; rw [abs_snoc]; simp
theorem midT_lim (nx m size : Nat) : limT nx m size = midT nx m ++ ((clX ++ decD size) ++ [13, 10, 13, 10]) := by unfold limT midT; simp
theorem midT_0 (nx : Nat) : midT nx 0 = front nx ++ bl (⟨#[32, 72, 84, 84, 80, 47, 49, 46, 49, 13, 10, 104, 111, 115, 116, 58, 32, 97, 13, 10]⟩ : ByteArray) := by
  unfold midT lineX hostX abs_
  rw [List.append_assoc]
  rfl

set_option maxRecDepth 4000 in
theorem httpLimits_spec {h : Heap} {x_0 x_1 x_2 : Int} (hg : MaxG h) {R : Bool → Heap → Prop} (hR : ∀ h', Nw h h' → R true h') : CallT Try.prog 5 [.int .i64 x_0, .int .i64 x_1, .int .i64 x_2] h [.sc .bool] R := by
  apply law16_HttpLimits_call
  unfold law16_HttpLimits
  refine withJ.intro (fun (_ : Unit) h' => h' = h ∧ 1 ≤ x_0 ∧ x_0 ≤ 9000 ∧ 0 ≤ x_1 ∧ x_1 ≤ 110 ∧ 0 ≤ x_2 ∧ x_2 ≤ 2097152) ?_ ?_
  · rintro _ h' ⟨e1, p0, p1, p2, p3, p4, p5⟩
    have e1' := e1.symm
    subst e1'
    refine lit_row ?_
    intro h3 s3 r3 k3
    have own0 : Own h h3 1 ⟨some ⟨h.size, 0, none⟩, 5, 5⟩ ((front 0).map byteV) := ⟨.inr ⟨h.size, 0, _, rfl, r3, Nat.le_refl _, by simp, by simp [front, rep], rfl⟩, fun b hb => by rw [blk_some] at hb; simp only at hb; omega⟩
    refine LoopT.intro (fun (t : Sl) h' => 5 ≤ t.len ∧ t.len ≤ 9000 ∧ Own h h' 1 t ((front (t.len - 5)).map byteV) ∧ Nw h h') (fun t _ => 9000 - t.len) ⟨Nat.le_refl _, by show 5 ≤ _; omega, own0, k3⟩ ?_
    rintro s7 h9 ⟨q1, q2, w1, N9⟩
    rw [w64_id (by omega) (by omega)]
    refine cnd_dec (fun c1 => ?_) (fun c1 => ?_)
    · refine w1.pushB (new := [120]) N9 rfl rfl rfl (by omega) ?_
      intro o12 c13 h14 v1 n14 _ _ _
      refine ⟨⟨by show 5 ≤ s7.len + 1; omega, by show s7.len + 1 ≤ _; omega, ?_, n14⟩, by show 9000 - (s7.len + 1) < _; omega⟩
      show Own h h14 1 ⟨o12, s7.len + 1, c13⟩ ((front (s7.len + 1 - 5)).map byteV)
      rw [show s7.len + 1 - 5 = (s7.len - 5) + 1 by omega, front_snoc]
      exact v1
    · have e20 : (⟨#[32, 72, 84, 84, 80, 47, 49, 46, 49, 13, 10, 104, 111, 115, 116, 58, 32, 97, 13, 10]⟩ : ByteArray).size = 20 := rfl
      refine w1.appB (new := bl (⟨#[32, 72, 84, 84, 80, 47, 49, 46, 49, 13, 10, 104, 111, 115, 116, 58, 32, 97, 13, 10]⟩ : ByteArray)) N9 (bytesV_bl _) rfl (by rw [e20]; omega) ?_
      intro o16 c17 h18 v1 n18 _ _ _
      rw [← midT_0] at v1
      obtain ⟨nx, hnx⟩ : ∃ nx, s7.len = nx + 5 := ⟨s7.len - 5, by omega⟩
      rw [show s7.len - 5 = nx by omega] at v1
      refine LoopT.intro (fun (t : Sl × Int) h' => 1 ≤ t.2 ∧ t.2 ≤ maxI x_1 1 ∧ Own h h' 1 t.1 ((midT nx (t.2 - 1).toNat).map byteV) ∧ Nw h h') (fun t _ => (200 - t.2).toNat) ⟨Int.le_refl _, by show (1 : Int) ≤ maxI x_1 1; unfold maxI; split <;> omega, v1, n18⟩ ?_
      rintro ⟨s, i⟩ h21 ⟨q3, q4, w2, N21⟩
      replace q3 : 1 ≤ i := q3
      replace q4 : i ≤ maxI x_1 1 := q4
      replace w2 : Own h h21 1 s ((midT nx (i - 1).toNat).map byteV) := w2
      have hmx : maxI x_1 1 ≤ 110 := by unfold maxI; split <;> omega
      have sl := w2.len
      rw [List.length_map, Nat.mul_one] at sl
      have ml : (midT nx (i - 1).toNat).length = nx + 16 + 9 + 6 * (i - 1).toNat := by
        unfold midT
        simp only [List.length_append, List.length_cons, lineX_len, abs_len]
        show nx + 14 + (7 + (6 * (i - 1).toNat + 1 + 1) + 1 + 1) = _
        omega
      refine cnd_dec (fun c2 => ?_) (fun c2 => ?_)
      · replace c2 : i < x_1 := c2
        have e6 : (⟨#[97, 58, 32, 98, 13, 10]⟩ : ByteArray).size = 6 := rfl
        refine w2.appB (new := abX) N21 (bytesV_bl _) rfl (by rw [e6]; omega) ?_
        intro o22 c23 h24 v2 n24 _ _ _
        rw [w64_id (by show _ ≤ i + 1; omega) (by show i + 1 ≤ _; omega)]
        refine ⟨⟨by show 1 ≤ i + 1; omega, by show i + 1 ≤ maxI x_1 1; unfold maxI; split <;> omega, ?_, n24⟩, by show (200 - (i + 1)).toNat < (200 - i).toNat; omega⟩
        show Own h h24 1 ⟨o22, s.len + _, c23⟩ ((midT nx (i + 1 - 1).toNat).map byteV)
        rw [show (i + 1 - 1).toNat = (i - 1).toNat + 1 by omega, midT_snoc]
        exact v2
      · replace c2 : ¬ i < x_1 := c2
        have hi : maxI x_1 1 = (((i - 1).toNat + 1 : Nat) : Int) := by unfold maxI at q4 ⊢; split at q4 <;> split <;> omega
        have hm2 : (i - 1).toNat ≤ 110 := by omega
        generalize (i - 1).toNat = m at w2 sl ml hi hm2
        obtain ⟨size, rfl⟩ : ∃ n : Nat, x_2 = (n : Int) := ⟨x_2.toNat, by omega⟩
        refine LoopT.intro (fun (t : Int × ByteArray) h' => 0 ≤ t.1 ∧ t.1 ≤ 2097152 ∧ decD size = decD t.1.toNat ++ bl t.2 ∧ Nw h21 h') (fun t _ => t.1.toNat) ⟨by show (0 : Int) ≤ (size : Int); omega, p5, by show decD size = decD (size : Int).toNat ++ []; rw [Int.toNat_natCast, List.append_nil], Keep.refl _ _⟩ ?_
        rintro ⟨n, d⟩ h27 ⟨q5, q6, q7, N27⟩
        replace q5 : 0 ≤ n := q5
        replace q6 : n ≤ 2097152 := q6
        replace q7 : decD size = decD n.toNat ++ bl d := q7
        obtain ⟨n, rfl⟩ : ∃ k : Nat, n = (k : Int) := ⟨n.toNat, by omega⟩
        rw [Int.toNat_natCast] at q7
        have dl := decD_len 6 size (by omega)
        have dn := decD_len 6 n (by omega)
        rw [q7, List.length_append, bl_len] at dl
        have t10 : ((n : Nat) : Int).tdiv 10 = ((n / 10 : Nat) : Int) := tdiv_nat n 10
        have m10 : ((n : Nat) : Int).tmod 10 = ((n % 10 : Nat) : Int) := tmod_nat n 10
        simp only [t10, m10, digV]
        refine newB_row ?_
        intro h29 s29 r29 k29
        refine Rb.str (bs := [UInt8.ofNat (48 + n % 10)]) (row_rb r29 rfl) ?_
        have N29 : Nw h21 h29 := N27.trans' k29
        generalize e30 : (⟨[UInt8.ofNat (48 + n % 10)].toArray⟩ : ByteArray) = s30
        have z30 : s30.size = 1 := by rw [← e30]; rfl
        have b30 : bl s30 = [UInt8.ofNat (48 + n % 10)] := by rw [← e30]; rfl
        have es : bl (s30 ++ d) = UInt8.ofNat (48 + n % 10) :: bl d := by rw [bl_app, b30]; rfl
        refine ⟨by rw [z30]; omega, ?_⟩
        rw [w64_id (by omega) (by omega)]
        refine cnd_of (fun c3 => ?_) (fun c3 => ?_)
        · have hn10 : n < 10 := by have := eq_of_beq c3; omega
          have hz : decD size = bl (s30 ++ d) := by rw [es, q7, decD_small hn10, Nat.mod_eq_of_lt hn10]; rfl
          generalize s30 ++ d = dd at hz es ⊢
          have dz : dd.size ≤ 8 := by rw [← bl_len, es, List.length_cons, bl_len]; omega
          have e16 : (⟨#[99, 111, 110, 116, 101, 110, 116, 45, 108, 101, 110, 103, 116, 104, 58, 32]⟩ : ByteArray).size = 16 := rfl
          have e4 : (⟨#[13, 10, 13, 10]⟩ : ByteArray).size = 4 := rfl
          have esz : (((⟨#[99, 111, 110, 116, 101, 110, 116, 45, 108, 101, 110, 103, 116, 104, 58, 32]⟩ : ByteArray) ++ dd) ++ (⟨#[13, 10, 13, 10]⟩ : ByteArray)).size = 16 + dd.size + 4 := by rw [← bl_len, bl_app, bl_app, List.length_append, List.length_append]; rfl
          refine ⟨by rw [e16]; omega, by rw [e4, ← bl_len, bl_app, List.length_append, bl_len, bl_len, e16]; omega, ?_⟩
          have w3 := w2.nw N29
          refine w3.appB (new := (clX ++ decD size) ++ [13, 10, 13, 10]) (N21.trans' N29) (by rw [bytesV_bl, bl_app, bl_app, hz]; rfl) (by rw [esz, hz]; simp only [List.length_append, bl_len]; rfl) (by rw [esz]; omega) ?_
          intro o31 c32 h33 v3 n33 _ _ _
          rw [← midT_lim] at v3
          exact finL_spec hg n33 v3 (by push_cast; rfl) hnx (by omega) hi hm2 rfl (by omega) hR
        · have hn10 : ¬ n < 10 := fun hh => by rw [show n / 10 = 0 by omega] at c3; simp at c3
          refine ⟨⟨by show (0 : Int) ≤ ((n / 10 : Nat) : Int); omega, by show ((n / 10 : Nat) : Int) ≤ _; omega, ?_, N29⟩, by show (((n / 10 : Nat) : Int)).toNat < ((n : Int)).toNat; omega⟩
          show decD size = decD (((n / 10 : Nat) : Int)).toNat ++ bl (s30 ++ d)
          rw [es, Int.toNat_natCast, q7, decD_big hn10]
          simp
  · intro J2 hJ2
    refine withJ.intro (fun (q : Bool) h' => h' = h ∧ (q = false → 1 ≤ x_0 ∧ x_0 ≤ 9000 ∧ 0 ≤ x_1 ∧ x_1 ≤ 110 ∧ 0 ≤ x_2 ∧ x_2 ≤ 2097152)) ?_ ?_
    · rintro q h' ⟨e1, hq⟩
      have e1' := e1.symm
      subst e1'
      exact cnd_of (fun _ => awake_spec hg hR) (fun e => hJ2 _ _ ⟨rfl, hq e⟩)
    · intro J hJ
      have out : J true h := hJ _ _ ⟨rfl, fun e => by cases e⟩
      refine cnd_dec (fun _ => out) (fun c0 => ?_)
      refine cnd_dec (fun _ => out) (fun c1 => ?_)
      refine cnd_dec (fun _ => out) (fun c2 => ?_)
      refine cnd_dec (fun _ => out) (fun c3 => ?_)
      refine cnd_dec (fun _ => out) (fun c4 => ?_)
      exact hJ _ _ ⟨rfl, fun e => by have := of_decide_eq_false e; omega⟩
end Go.Proofs.Ytjpmjhnjdnbopaa
