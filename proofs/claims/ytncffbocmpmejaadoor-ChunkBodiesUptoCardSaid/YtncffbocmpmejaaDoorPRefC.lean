/- The document's words for chunks: digits, sums, signatures, Encode. -/
import Derived.Test.YtncffbocmpmejaaDoorPChunkE
import Derived.Test.YtncffbocmpmejaaDoorGRefC
namespace Go.Proofs.YtncffbocmpmejaaDoor
open Go D
set_option linter.unusedVariables false
set_option linter.unusedSimpArgs false
namespace Chunk
open Hash (hexL hmacF sha256F hexB)

theorem basz (x y : ByteArray) : (x ++ y).size = x.size + y.size := by
  rw [← bl_len, bl_app, List.length_append, bl_len, bl_len]
theorem ofL_app (a b : List UInt8) : ofL a ++ ofL b = ofL (a ++ b) := by
  apply bl_inj
  rw [bl_app, bl_ofL, bl_ofL, bl_ofL]

theorem nib_get {n : Nat} (h : n < 16) : ((bl hexT).drop n).take 1 = [nib n] := by
  have : ∀ n : Fin 16, ((bl hexT).drop n.val).take 1 = [nib n.val] := by decide
  exact this ⟨n, h⟩
theorem ssl_nib {n : Nat} (h : n < 16) {K : ByteArray → Prop} (hk : K (ofL [nib n])) : ssl (⟨#[48, 49, 50, 51, 52, 53, 54, 55, 56, 57, 97, 98, 99, 100, 101, 102]⟩ : ByteArray) (n : Int) (w64 ((n : Int) + 1)) K := by
  rw [w64_id (by omega) (by omega)]
  refine ssl_bl (by omega) (by omega) (by show (n : Int) + 1 ≤ ((16 : Nat) : Int); omega) ?_
  have e : ((bl hexT).drop (n : Int).toNat).take (((n : Int) + 1).toNat - (n : Int).toNat) = [nib n] := by
    rw [show ((n : Int) + 1).toNat - (n : Int).toNat = 1 by omega, Int.toNat_natCast]
    exact nib_get h
  show K (ofL (((bl hexT).drop (n : Int).toNat).take (((n : Int) + 1).toNat - (n : Int).toNat)))
  rw [e]
  exact hk

theorem digit1_spec {h : Heap} {n : Nat} (hn : n < 16) {R : ByteArray → Heap → Prop} (hk : R (ofL [nib n]) h) : CallT Tryd.prog ref1_digit_no [.int .i64 (n : Int)] h [.sc .str] R := by
  apply ref1_digit_call
  unfold ref1_digit
  exact ssl_nib hn hk

theorem hex1_spec {h : Heap} {a : Option Addr} {l c : Nat} {bs : List UInt8} (hb : Rb h a l bs) (hl : l ≤ 1000000) {R : ByteArray → Heap → Prop} (hk : R (ofL (hexL bs)) h) : CallT Tryd.prog ref1_Hex_no [.slice a l c] h [.sc .str] R := by
  have hcall := ref1_Hex_call (b_0 := ⟨a, l, c⟩) (R := R) (h := h)
  apply hcall
  unfold ref1_Hex
  have hlen := hb.len
  refine LoopT.intro (fun (t : ByteArray × Int) h' => h' = h ∧ 0 ≤ t.2 ∧ t.2 ≤ l ∧ t.1 = ofL (hexL (bs.take t.2.toNat))) (fun t _ => (l - t.2).toNat) ⟨rfl, by simp, by simp, rfl⟩ ?_
  rintro ⟨s, i⟩ h' ⟨rfl, p1, p2, p3⟩
  replace p1 : 0 ≤ i := p1
  replace p2 : i ≤ l := p2
  replace p3 : s = ofL (hexL (bs.take i.toNat)) := p3
  refine cnd_dec (fun hi => ?_) (fun hi => ?_)
  · replace hi : i < (l : Int) := hi
    have hil : i.toNat < bs.length := by omega
    have hget : (bs.map byteV)[i.toNat]? = some (byteV bs[i.toNat]) := by rw [List.getElem?_map, List.getElem?_eq_getElem hil]; rfl
    have hg2 : bs[i.toNat]? = some bs[i.toNat] := List.getElem?_eq_getElem hil
    generalize bs[i.toNat] = b at hget hg2
    have hbl := b.toNat_lt
    refine Rv.at hb p1 hi hget fun x hx => ldI_at hx ?_
    refine Rv.at hb p1 hi hget fun y hy => ldI_at hy ?_
    have e1 : w64 ((w64 (b.toNat : Int)).tdiv 16) = ((b.toNat / 16 : Nat) : Int) := by
      rw [w64_id (x := (b.toNat : Int)) (by omega) (by omega), Int.tdiv_eq_ediv_of_nonneg (by omega), w64_id (by omega) (by omega)]
      omega
    have e2 : (w64 (b.toNat : Int)).tmod 16 = ((b.toNat % 16 : Nat) : Int) := by
      rw [w64_id (x := (b.toNat : Int)) (by omega) (by omega), Int.tmod_eq_emod_of_nonneg (by omega)]
      omega
    rw [e1, e2]
    have hs : s.size ≤ 2 * 1000000 := by
      rw [p3, ofL_size, hex_len, List.length_take]; omega
    refine digit1_spec (by omega) ?_
    refine ⟨ldI_at hy rfl, by rw [ofL_size]; simp; omega, ?_⟩
    refine digit1_spec (by omega) ?_
    refine ⟨by rw [basz, ofL_size, ofL_size]; simp; omega, ?_⟩
    show (h' = h' ∧ 0 ≤ w64 (i + 1) ∧ w64 (i + 1) ≤ l ∧ s ++ ofL [nib (b.toNat / 16)] ++ ofL [nib (b.toNat % 16)] = ofL (hexL (bs.take (w64 (i + 1)).toNat))) ∧ (l - w64 (i + 1)).toNat < (l - i).toNat
    rw [w64_id (x := i + 1) (by omega) (by omega), show (i + 1).toNat = i.toNat + 1 by omega, List.take_add_one, hg2, p3, ofL_app, ofL_app]
    refine ⟨⟨rfl, by omega, by omega, ?_⟩, by omega⟩
    congr 1
    unfold hexL
    rw [List.flatMap_append]
    simp [hexB, nib]
  · have hil : i = l := by
      have : ¬ i < (l : Int) := hi
      omega
    subst hil
    rw [Int.toNat_natCast, List.take_of_length_le (by omega)] at p3
    subst p3
    exact hk

theorem sum18_spec {h : Heap} {s : ByteArray} (hs : s.size ≤ 1000000000) {R : ByteArray → Heap → Prop} (hk : ∀ h', Keep (fun _ => False) h h' → R (ofL (hexL (sha256F (bl s)))) h') : CallT Tryd.prog ref18_Sum_no [.string s] h [.sc .str] R := by
  apply ref18_Sum_call
  unfold ref18_Sum
  refine s2b_row (by omega) ?_
  intro c h1 b1 k1 _
  refine Ref2.sha256_spec (rb_s2b b1) (by omega) ?_
  intro t h2 b2 k2
  have l2 := b2.len
  rw [sha_len] at l2
  refine hex1_spec b2.rb (by omega) ?_
  exact hk h2 (k1.trans' k2)

theorem sign19_spec {h : Heap} {w : Wh} {ka da : Option Addr} {kl kc dl dc : Nat} {last : ByteArray} {data : List UInt8} (hkey : Rb h ka kl w.key) (hkc : kl ≤ kc) (hd : Rb h da dl data) (hdl : dl ≤ 1000000000)
    (hsz : w.n + last.size ≤ 1000000000) {R : ByteArray → Heap → Prop} (hk : ∀ h', Keep (fun _ => False) h h' → R (ofL (signF w (bl last) data)) h') :
    CallT Tryd.prog ref19_Sign_no [.agg #[.string w.id, .string w.date, .string w.scope, .string w.sig, .slice ka kl kc, .string w.pay], .string last, .slice da dl dc] h [.sc .str] R := by
  have hcall := ref19_Sign_call (w_0 := (w.id, w.date, w.scope, w.sig, ⟨ka, kl, kc⟩, w.pay)) (last_1 := last) (data_2 := ⟨da, dl, dc⟩) (R := R) (h := h)
  apply hcall
  unfold Wh.n at hsz
  have hkl := hkey.len
  have hdln := hd.len
  unfold ref19_Sign
  refine newB_row ?_
  intro h1 s1 r1 k1
  simp only [add_mk]
  have c25 : (⟨#[65, 87, 83, 52, 45, 72, 77, 65, 67, 45, 83, 72, 65, 50, 53, 54, 45, 80, 65, 89, 76, 79, 65, 68, 10]⟩ : ByteArray).size = 25 := rfl
  have c1 : (⟨#[10]⟩ : ByteArray).size = 1 := rfl
  have cs : ∀ x : List UInt8, (ofL (hexL (sha256F x))).size = 64 := fun x => by rw [ofL_size, hex_len, sha_len]
  refine ldS_row (o := 0 + 1) r1 rfl ⟨by simp only [basz, c25, c1]; omega, by simp only [basz, c25, c1]; omega, ?_⟩
  refine ldS_row (o := 0 + 2) r1 rfl ⟨by simp only [basz, c25, c1]; omega, by simp only [basz, c25, c1]; omega, by simp only [basz, c25, c1]; omega, by simp only [basz, c25, c1]; omega, ?_⟩
  refine Rb.str (bs := data) (hd.keep0 k1) ?_
  refine sum18_spec (by show 0 ≤ 1000000000; omega) ?_
  intro h2 k2
  have r2 := k2.row r1 (fun h => h)
  refine ⟨Rb.str (bs := data) (hd.keep0 (k1.trans' k2)) rfl, ldS_row (o := 0 + 2) r2 rfl rfl, ldS_row (o := 0 + 1) r2 rfl rfl, by simp only [basz, c25, c1, cs]; omega, by simp only [basz, c25, c1, cs]; omega, ?_⟩
  refine sum18_spec (by show data.length ≤ _; omega) ?_
  intro h3 k3
  have r3 := k3.row r2 (fun h => h)
  refine ⟨ldS_row (o := 0 + 2) r3 rfl rfl, ldS_row (o := 0 + 1) r3 rfl rfl, by simp only [basz, c25, c1, cs]; omega, ?_⟩
  refine ldL_row (o := 0 + 4) r3 rfl ?_
  have e0 : bl (⟨#[]⟩ : ByteArray) = [] := rfl
  have ed : bl (⟨data.toArray⟩ : ByteArray) = data := bl_ofL data
  rw [e0, ed]
  refine s2b_row (by simp only [basz, c25, c1, cs]; omega) ?_
  intro cap h4 b4 k4 _
  have K4 := ((k1.trans' k2).trans' k3).trans' k4
  have rb4 := rb_s2b b4
  have eS : bl ((((((((((⟨#[65, 87, 83, 52, 45, 72, 77, 65, 67, 45, 83, 72, 65, 50, 53, 54, 45, 80, 65, 89, 76, 79, 65, 68, 10]⟩ : ByteArray) ++ w.date) ++ (⟨#[10]⟩ : ByteArray)) ++ w.scope) ++ (⟨#[10]⟩ : ByteArray)) ++ last) ++ (⟨#[10]⟩ : ByteArray)) ++ ofL (hexL (sha256F []))) ++ (⟨#[10]⟩ : ByteArray)) ++ ofL (hexL (sha256F data))) = joinL [10] (texts w last data) := by
    simp only [bl_app, texts, joinL, joinT, List.append_assoc, List.append_nil, bl_ofL]
    rfl
  rw [eS] at rb4
  refine Ref2.hmac_spec (hkey.keep0 K4) (by omega) rb4 (by simp only [basz, c25, c1, cs]; omega) ?_
  intro t h5 b5 k5
  have l5 := b5.len
  have e5 : (hmacF w.key (joinL [10] (texts w last data))).length = 32 := by unfold hmacF; rw [sha_len]
  rw [e5] at l5
  refine hex1_spec b5.rb (by omega) ?_
  have := hk h5 (K4.trans' k5)
  unfold signF at this
  rw [ofL_bl] at this
  exact this

theorem hex19_spec {h : Heap} {n : Nat} (hn : n ≤ 1000000000) {R : ByteArray → Heap → Prop} (hk : R (ofL (numL n)) h) : CallT Tryd.prog ref19_hex_no [.int .i64 (n : Int)] h [.sc .str] R := by
  apply ref19_hex_call
  unfold ref19_hex
  refine LoopT.intro (fun (t : Int × ByteArray) h' => h' = h ∧ ∃ m : Nat, t.1 = (m : Int) ∧ m ≤ n ∧ numL m ++ bl t.2 = numL n) (fun t _ => t.1.toNat) ⟨rfl, n, rfl, Nat.le_refl _, by show numL n ++ [] = _; simp⟩ ?_
  rintro ⟨x, s⟩ h' ⟨rfl, m, e, hm, p⟩
  replace e : x = (m : Int) := e
  replace p : numL m ++ bl s = numL n := p
  subst e
  have hsl : s.size ≤ 8 := by
    have := numL_len8 (n := n) (by omega)
    have h2 := congrArg List.length p
    rw [List.length_append, bl_len] at h2
    omega
  refine cnd_dec (fun hi => ?_) (fun hi => ?_)
  · replace hi : (m : Int) > 15 := hi
    have e2 : ((m : Int)).tmod 16 = ((m % 16 : Nat) : Int) := by
      rw [Int.tmod_eq_emod_of_nonneg (by omega)]; omega
    have e3 : w64 (((m : Int)).tdiv 16) = ((m / 16 : Nat) : Int) := by
      rw [Int.tdiv_eq_ediv_of_nonneg (by omega), w64_id (by omega) (by omega)]; omega
    show ssl _ ((m : Int).tmod 16) (w64 ((m : Int).tmod 16 + 1)) _
    rw [e2, e3]
    refine ssl_nib (by omega) ⟨by rw [ofL_size]; simp; omega, ?_⟩
    refine ⟨⟨rfl, m / 16, rfl, by omega, ?_⟩, by show ((m / 16 : Nat) : Int).toNat < (m : Int).toNat; omega⟩
    show numL (m / 16) ++ bl (ofL [nib (m % 16)] ++ s) = _
    rw [bl_app, bl_ofL, ← List.append_assoc, ← numL_big (by omega)]
    exact p
  · have hi' : m < 16 := by
      have : ¬ (m : Int) > 15 := hi
      omega
    refine ssl_nib hi' ⟨by rw [ofL_size]; simp; omega, ?_⟩
    rw [← p, numL_small hi', ← ofL_app, ofL_bl] at hk
    exact hk
end Chunk
end Go.Proofs.YtncffbocmpmejaaDoor
