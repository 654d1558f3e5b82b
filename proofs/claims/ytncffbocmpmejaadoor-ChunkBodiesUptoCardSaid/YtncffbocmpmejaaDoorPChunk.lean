/- chunk.Sign, digits, eat, piece: what they come to. -/
import Derived.Test.YtncffbocmpmejaaDoorPStrC
import Derived.Test.YtncffbocmpmejaaDoorPHashC
import Derived.Test.YtncffbocmpmejaaDoorGChunk
namespace Go.Proofs.YtncffbocmpmejaaDoor
open Go D
set_option linter.unusedVariables false
set_option linter.unusedSimpArgs false
namespace Chunk
open Hash (hexL hmacF sha256F hexB)

/-- who signs -/
structure Wh where
  id : ByteArray
  date : ByteArray
  scope : ByteArray
  sig : ByteArray
  key : List UInt8
  pay : ByteArray
def Wh.n (w : Wh) : Nat := w.date.size + w.scope.size + w.sig.size + w.key.length
def algT : ByteArray := ⟨#[65, 87, 83, 52, 45, 72, 77, 65, 67, 45, 83, 72, 65, 50, 53, 54, 45, 80, 65, 89, 76, 79, 65, 68]⟩
def markT : ByteArray := ⟨#[59, 99, 104, 117, 110, 107, 45, 115, 105, 103, 110, 97, 116, 117, 114, 101, 61]⟩
def markL : List UInt8 := [59, 99, 104, 117, 110, 107, 45, 115, 105, 103, 110, 97, 116, 117, 114, 101, 61]
def crT : ByteArray := ⟨#[13, 10]⟩
def crL : List UInt8 := [13, 10]
def texts (w : Wh) (last : ByteArray) (data : List UInt8) : List ByteArray := [algT, w.date, w.scope, last, ofL (hexL (sha256F [])), ofL (hexL (sha256F data))]
def signF (w : Wh) (last : List UInt8) (data : List UInt8) : List UInt8 := hexL (hmacF w.key (joinL [10] (texts w (ofL last) data)))

theorem sha_len (bs : List UInt8) : (sha256F bs).length = 32 := by
  simp only [sha256F, List.length_flatMap, Hash.l8]
  rfl
theorem hex_len : ∀ bs : List UInt8, (hexL bs).length = 2 * bs.length
  | [] => rfl
  | b :: r => by
    have : hexL (b :: r) = hexB b ++ hexL r := rfl
    rw [this, List.length_append, hex_len r]
    simp [hexB]; omega
theorem sign_len (w : Wh) (last data : List UInt8) : (signF w last data).length = 64 := by
  unfold signF
  rw [hex_len]
  unfold hmacF
  rw [sha_len]

theorem rb_nil (h : Heap) : Rb h none 0 [] := ⟨rfl, fun i v hv => by simp at hv⟩
theorem rb_s2b {h : Heap} {a : Option Addr} {l c : Nat} {s : ByteArray} (hb : Bs h a l c s) : Rb h a l (bl s) := hb.rb

theorem sign_spec {h : Heap} {w : Wh} {ka da : Option Addr} {kl kc dl dc : Nat} {last : ByteArray} {data : List UInt8} (hkey : Rb h ka kl w.key) (hkc : kl ≤ kc) (hd : Rb h da dl data) (hdc : dl ≤ dc) (hdl : dl ≤ 1000000000)
    (hsz : w.n + last.size ≤ 1000000000) {R : ByteArray → Heap → Prop} (hk : ∀ h', Keep (fun _ => False) h h' → R (ofL (signF w (bl last) data)) h') :
    CallT Tryd.prog chunk_Sign_no [.agg #[.string w.id, .string w.date, .string w.scope, .string w.sig, .slice ka kl kc, .string w.pay], .string last, .slice da dl dc] h [.sc .str] R := by
  have hcall := chunk_Sign_call (w_0 := (w.id, w.date, w.scope, w.sig, ⟨ka, kl, kc⟩, w.pay)) (last_1 := last) (data_2 := ⟨da, dl, dc⟩) (R := R) (h := h)
  apply hcall
  unfold Wh.n at hsz
  have hkl := hkey.len
  unfold chunk_Sign
  refine newB_row ?_
  intro h1 s1 r1 k1
  simp only [add_mk]
  refine ldS_row (o := 0 + 1) r1 rfl (ldS_row (o := 0 + 2) r1 rfl ?_)
  refine Hash.sha256_spec (rb_nil h1) (by omega) (by omega) ?_
  intro t1 h2 b2 c2 n2 k2
  have r2 := k2.row r1 (fun h => h)
  refine ⟨ldS_row (o := 0 + 2) r2 rfl rfl, ldS_row (o := 0 + 1) r2 rfl rfl, ?_⟩
  have l2 := b2.len
  rw [sha_len] at l2
  refine Hash.hex_spec b2.rb (by omega) ?_
  intro h3 k3
  have r3 := k3.row r2 (fun h => h)
  refine ⟨ldS_row (o := 0 + 2) r3 rfl rfl, ldS_row (o := 0 + 1) r3 rfl rfl, ?_⟩
  have K3 := (k1.trans' k2).trans' k3
  refine Hash.sha256_spec (hd.keep0 K3) hdc (by show dl ≤ _; omega) ?_
  intro t2 h4 b4 c4 n4 k4
  have r4 := k4.row r3 (fun h => h)
  refine ⟨ldS_row (o := 0 + 2) r4 rfl rfl, ldS_row (o := 0 + 1) r4 rfl rfl, ?_⟩
  have l4 := b4.len
  rw [sha_len] at l4
  refine Hash.hex_spec b4.rb (by omega) ?_
  intro h5 k5
  have r5 := k5.row r4 (fun h => h)
  refine ⟨ldS_row (o := 0 + 2) r5 rfl rfl, ldS_row (o := 0 + 1) r5 rfl rfl, ?_⟩
  refine newB_row ?_
  intro h6 s6 r6 k6
  have rv : Rv h6 (some ⟨h5.size, 0, none⟩) 6 ((texts w last data).map Value.string) := by
    refine SlR.rv (c := 6) (.inr ⟨h5.size, 0, _, rfl, r6, by omega, by simp, by simp [texts], ?_⟩)
    rfl
  have ht : tot (texts w last data) = 24 + (w.date.size + (w.scope.size + (last.size + (64 + (64 + 0))))) := by
    simp only [texts, tot, ofL_size, hex_len, sha_len]
    rfl
  have hcall2 := join_spec (x0 := ⟨some ⟨h5.size, 0, none⟩, 6, 6⟩) (ss := texts w last data) (sep := (⟨#[10]⟩ : ByteArray)) rv (by show 6 ≤ 6; omega) (by simp [texts]) (by show 1 ≤ _; omega) (by omega) (R := fun r23 h24 =>
    ldL ⟨h.size, 0 + 4, none⟩ h24 fun o25 l25 c25 =>
    s2b r23 5 h24 fun a26 c27 h28 =>
    CallT Tryd.prog hash_HMAC_no [.slice o25 l25 c25, .slice (some a26) r23.size c27] h28 [.sc (.sl)] fun (r29 : Sl) h30 =>
    CallT Tryd.prog enc_Hex_no [.slice r29.a r29.len r29.cap] h30 [.sc (.str)] fun (r31 : ByteArray) h32 =>
    R r31 h32)
  apply hcall2
  intro h7 k7
  have r7 := k7.row (k6.row r5 (fun h => h)) (fun h => h)
  refine ldL_row (o := 0 + 4) r7 rfl ?_
  have jl : (joinL (bl ⟨#[10]⟩) (texts w last data)).length ≤ 1000001000 := by
    have e : texts w last data = algT :: [w.date, w.scope, last, ofL (hexL (sha256F [])), ofL (hexL (sha256F data))] := rfl
    rw [e] at ht ⊢
    simp only [joinL, List.length_append, joinT_len]
    simp only [tot] at ht ⊢
    simp only [bl_len, List.length_cons, List.length_nil] at ht ⊢
    have : (⟨#[10]⟩ : ByteArray).size = 1 := rfl
    omega
  refine s2b_row (by rw [ofL_size]; omega) ?_
  intro cap h8 b8 k8 s8
  have K8 : Keep (fun _ => False) h h8 := ((((K3.trans' k4).trans' k5).trans' k6).trans' k7).trans' k8
  have rb8 := rb_s2b b8
  rw [bl_ofL] at rb8
  refine Hash.hmac_spec (hkey.keep0 K8) hkc (by omega) rb8 (by rw [ofL_size]; omega) ?_
  intro t3 h9 b9 c9 n9 k9
  have l9 := b9.len
  have e9 : (hmacF w.key (joinL (bl ⟨#[10]⟩) (texts w last data))).length = 32 := by unfold hmacF; rw [sha_len]
  rw [e9] at l9
  refine Hash.hex_spec b9.rb (by omega) ?_
  intro h10 k10
  have := hk h10 ((K8.trans' k9).trans' k10)
  unfold signF at this
  rw [ofL_bl] at this
  exact this

/-! ### digits, eat -/
def runN : Nat → List UInt8 → Nat
  | 0, _ => 0
  | _ + 1, [] => 0
  | k + 1, b :: r => if dg b then 1 + runN k r else 0
def eatF (s b : List UInt8) : List UInt8 × Int := if pre s b then (s.drop b.length, 0) else if pre b s then ([], 307) else ([], 308)
def valN (s : List UInt8) : Nat := s.foldl (fun a b => a * 16 + hv b) 0

theorem runN_le (k : Nat) (s : List UInt8) : runN k s ≤ k ∧ runN k s ≤ s.length := by
  induction k generalizing s with
  | zero => simp [runN]
  | succ k ih =>
    cases s with
    | nil => simp [runN]
    | cons b r =>
      unfold runN
      have := ih r
      split
      · simp; omega
      · simp
theorem runN_dg : ∀ {k : Nat} {s : List UInt8} {i : Nat} {b : UInt8}, i < runN k s → s[i]? = some b → dg b = true
  | 0, s, i, b, h, _ => by simp [runN] at h
  | k + 1, [], i, b, h, _ => by simp [runN] at h
  | k + 1, c :: r, 0, b, h, e => by
    unfold runN at h
    simp only [List.getElem?_cons_zero, Option.some.injEq] at e
    subst e
    split at h
    · assumption
    · omega
  | k + 1, c :: r, i + 1, b, h, e => by
    unfold runN at h
    simp only [List.getElem?_cons_succ] at e
    split at h
    · exact runN_dg (k := k) (s := r) (i := i) (by omega) e
    · omega

theorem digits_spec {h : Heap} {s : ByteArray} {m : Nat} (hm : m ≤ 1000) {R : Int → Heap → Prop} (hk : R ((runN m (bl s) : Nat) : Int) h) : CallT Tryd.prog chunk_digits_no [.string s, .int .i64 (m : Int)] h [.sc (.int .i64)] R := by
  apply chunk_digits_call
  unfold chunk_digits
  refine LoopT.intro (fun (n : Int) h' => h' = h ∧ 0 ≤ n ∧ n ≤ m ∧ runN m (bl s) = n.toNat + runN (m - n.toNat) ((bl s).drop n.toNat)) (fun n _ => (m - n).toNat) ⟨rfl, by omega, by omega, by simp⟩ ?_
  rintro n h' ⟨rfl, p1, p2, p3⟩
  refine withJ.intro (fun _ h2 => h2 = h' ∧ n < m ∧ runN m (bl s) = (n + 1).toNat + runN (m - (n + 1).toNat) ((bl s).drop (n + 1).toNat)) ?_ ?_
  · rintro _ h2 ⟨rfl, q1, q2⟩
    rw [w64_id (x := n + 1) (by omega) (by omega)]
    exact ⟨⟨rfl, by omega, by omega, q2⟩, by omega⟩
  · intro J hJ
    refine cnd_dec (fun h1 => ?_) (fun h1 => ?_)
    · refine cnd_dec (fun h2 => ?_) (fun h2 => ?_)
      · have hi : n.toNat < (bl s).length := by rw [bl_len]; omega
        refine ⟨(bl s)[n.toNat], p1, List.getElem?_eq_getElem hi, ?_⟩
        refine indexByte_spec ?_
        rw [show (⟨#[48, 49, 50, 51, 52, 53, 54, 55, 56, 57, 97, 98, 99, 100, 101, 102]⟩ : ByteArray) = hexT from rfl, ix_dg]
        have e1 : m - n.toNat = (m - (n + 1).toNat) + 1 := by omega
        rw [e1, List.drop_eq_getElem_cons hi] at p3
        simp only [runN] at p3
        cases hd : dg (bl s)[n.toNat] with
        | true =>
          rw [hd, if_pos rfl] at p3
          rw [if_pos rfl]
          refine cnd_pos (by omega) (hJ _ _ ⟨rfl, h2, ?_⟩)
          rw [p3, show (n + 1).toNat = n.toNat + 1 by omega]
          omega
        | false =>
          rw [hd] at p3
          rw [if_neg (by simp)]
          simp only [Bool.false_eq_true, if_false] at p3
          refine cnd_neg (by omega) ?_
          rw [p3] at hk
          have : ((n.toNat + 0 : Nat) : Int) = n := by omega
          rw [this] at hk
          exact hk
      · have e1 : m - n.toNat = 0 := by omega
        rw [e1] at p3
        simp only [runN] at p3
        rw [p3] at hk
        have : ((n.toNat + 0 : Nat) : Int) = n := by omega
        rw [this] at hk
        exact hk
    · have e1 : (bl s).drop n.toNat = [] := List.drop_eq_nil_of_le (by rw [bl_len]; omega)
      rw [e1] at p3
      have e2 : runN (m - n.toNat) [] = 0 := by cases m - n.toNat <;> rfl
      rw [e2] at p3
      rw [p3] at hk
      have : ((n.toNat + 0 : Nat) : Int) = n := by omega
      rw [this] at hk
      exact hk

theorem eat_spec {h : Heap} {s b : ByteArray} {R : ByteArray × Int → Heap → Prop} (hk : R (ofL (eatF (bl s) (bl b)).1, (eatF (bl s) (bl b)).2) h) : CallT Tryd.prog chunk_eat_no [.string s, .string b] h [.sc .str, .sc (.int .i64)] R := by
  apply chunk_eat_call
  unfold chunk_eat
  unfold eatF at hk
  refine cutPrefix_spec (fun e => ?_) (fun e => ?_)
  · rw [if_pos e] at hk
    exact cnd_t rfl hk
  · rw [if_neg (by rw [e]; simp)] at hk
    refine cnd_f rfl ?_
    refine hasPrefix_spec ?_
    cases e2 : pre (bl b) (bl s) with
    | true =>
      rw [if_pos e2] at hk
      exact cnd_t rfl hk
    | false =>
      rw [if_neg (by rw [e2]; simp)] at hk
      exact cnd_f rfl hk

/-! ### a piece -/
abbrev Pc := List UInt8 × List UInt8 × List UInt8 × Int
def errP (e : Int) : Pc := ([], [], [], e)
def pz2 (sum data : List UInt8) (size : Nat) (g : List UInt8 × Int) : Pc :=
  if (if g.2 = 0 ∧ size = 0 ∧ g.1 ≠ [] then 308 else g.2) ≠ 0 then errP (if g.2 = 0 ∧ size = 0 ∧ g.1 ≠ [] then 308 else g.2) else (sum, data, g.1, 0)
def pz (sum rest : List UInt8) (size : Nat) : Pc :=
  if (eatF rest crL).2 ≠ 0 then errP (eatF rest crL).2 else if (eatF rest crL).1.length < size then errP 307 else
  pz2 sum ((eatF rest crL).1.take size) size (eatF ((eatF rest crL).1.drop size) crL)
def py (rest : List UInt8) (size : Nat) : Pc := if runN 64 rest < 64 ∧ runN 64 rest < rest.length then errP 308 else if runN 64 rest < 64 then errP 307 else pz (rest.take 64) (rest.drop 64) size
def pieceF (s : List UInt8) : Pc := if runN 8 s = 0 ∧ s ≠ [] then errP 308 else
  if (eatF (s.drop (runN 8 s)) markL).2 ≠ 0 then errP (eatF (s.drop (runN 8 s)) markL).2 else py (eatF (s.drop (runN 8 s)) markL).1 (valN (s.take (runN 8 s)))
def outP (p : Pc) : ByteArray × ByteArray × ByteArray × Int := (ofL p.1, ofL p.2.1, ofL p.2.2.1, p.2.2.2)
theorem outP_err (e : Int) : outP (errP e) = ((⟨#[]⟩ : ByteArray), (⟨#[]⟩ : ByteArray), (⟨#[]⟩ : ByteArray), e) := rfl

theorem or_shift {x d : Nat} (hx : x < 2 ^ 32) (hd : d < 16) : orI .i64 (shlI .i64 (x : Int) 4) (d : Int) = ((x * 16 + d : Nat) : Int) := by
  have e : shlI .i64 (x : Int) 4 = ((x * 16 : Nat) : Int) := by
    unfold shlI
    have : (2 : Int) ^ min (4 : Int).toNat IntKind.i64.bits = 16 := by decide
    rw [this]
    have e2 : (2 : Nat) ^ 32 = 4294967296 := by decide
    rw [show IntKind.i64.wrap ((x : Int) * 16) = w64 ((x : Int) * 16) from rfl, w64_id (by omega) (by omega)]
    omega
  rw [e]
  unfold orI
  rw [BitVec.toNat_or]
  simp only [IntKind.bits]
  have e2 : (2 : Nat) ^ 32 = 4294967296 := by decide
  have e3 : (2 : Nat) ^ 64 = 18446744073709551616 := by decide
  rw [ofInt_nat (by omega), ofInt_nat (by omega)]
  have key : x * 16 ||| d = x * 16 + d := by
    have := Nat.shiftLeft_add_eq_or_of_lt (i := 4) (b := d) (by omega) x
    rw [Nat.shiftLeft_eq] at this
    exact this.symm
  rw [key]
  exact w64_id (by omega) (by omega)

theorem valN_snoc (s : List UInt8) (b : UInt8) : valN (s ++ [b]) = valN s * 16 + hv b := by simp [valN]
theorem valN_lt {s : List UInt8} (hs : ∀ (i : Nat) (b : UInt8), s[i]? = some b → dg b = true) : ∀ n, n ≤ s.length → valN (s.take n) < 16 ^ n
  | 0, _ => by simp [valN]
  | n + 1, h => by
    have ih := valN_lt hs n (by omega)
    rw [List.take_add_one, List.getElem?_eq_getElem (by omega)]
    simp only [Option.toList_some]
    rw [valN_snoc, Nat.pow_succ]
    have := hv_lt (hs n _ (List.getElem?_eq_getElem (show n < s.length by omega)))
    omega
end Chunk
end Go.Proofs.YtncffbocmpmejaaDoor
