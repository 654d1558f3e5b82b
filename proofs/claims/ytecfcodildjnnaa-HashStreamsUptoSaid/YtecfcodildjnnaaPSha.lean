/- hash.SHA256: a block. -/
import Derived.Test.YtecfcodildjnnaaPMd5B
namespace Go.Proofs.Ytecfcodildjnnaa
open Go D
set_option linter.unusedVariables false
set_option linter.unusedSimpArgs false
namespace Hash

def rootL : List W := [1116352408#32, 1899447441#32, 3049323471#32, 3921009573#32, 961987163#32, 1508970993#32, 2453635748#32, 2870763221#32, 3624381080#32, 310598401#32, 607225278#32, 1426881987#32, 1925078388#32, 2162078206#32, 2614888103#32, 3248222580#32, 3835390401#32, 4022224774#32, 264347078#32, 604807628#32, 770255983#32, 1249150122#32, 1555081692#32, 1996064986#32, 2554220882#32, 2821834349#32, 2952996808#32, 3210313671#32, 3336571891#32, 3584528711#32, 113926993#32, 338241895#32, 666307205#32, 773529912#32, 1294757372#32, 1396182291#32, 1695183700#32, 1986661051#32, 2177026350#32, 2456956037#32, 2730485921#32, 2820302411#32, 3259730800#32, 3345764771#32, 3516065817#32, 3600352804#32, 4094571909#32, 275423344#32, 430227734#32, 506948616#32, 659060556#32, 883997877#32, 958139571#32, 1322822218#32, 1537002063#32, 1747873779#32, 1955562222#32, 2024104815#32, 2227730452#32, 2361852424#32, 2428436474#32, 2756734187#32, 3204031479#32, 3329325298#32]
abbrev W8 := W × W × W × W × W × W × W × W
def l8 (x : W8) : List W := [x.1, x.2.1, x.2.2.1, x.2.2.2.1, x.2.2.2.2.1, x.2.2.2.2.2.1, x.2.2.2.2.2.2.1, x.2.2.2.2.2.2.2]
def u8 (x : W8) : Int × Int × Int × Int × Int × Int × Int × Int := (u x.1, u x.2.1, u x.2.2.1, u x.2.2.2.1, u x.2.2.2.2.1, u x.2.2.2.2.2.1, u x.2.2.2.2.2.2.1, u x.2.2.2.2.2.2.2)
def c8 (x : W8) : List Value := [.int .u32 (u x.1), .int .u32 (u x.2.1), .int .u32 (u x.2.2.1), .int .u32 (u x.2.2.2.1), .int .u32 (u x.2.2.2.2.1), .int .u32 (u x.2.2.2.2.2.1), .int .u32 (u x.2.2.2.2.2.2.1), .int .u32 (u x.2.2.2.2.2.2.2)]

def rotr (x : W) (n : Nat) : W := rotl x (32 - n)
def be4 (bs : List UInt8) (i : Nat) : W := ((ub (bs.getD (4 * i) 0) <<< 24 ||| ub (bs.getD (4 * i + 1) 0) <<< 16) ||| ub (bs.getD (4 * i + 2) 0) <<< 8) ||| ub (bs.getD (4 * i + 3) 0)
def sg0 (x : W) : W := rotr x 7 ^^^ rotr x 18 ^^^ x >>> 3
def sg1 (x : W) : W := rotr x 17 ^^^ rotr x 19 ^^^ x >>> 10
def shaSched (bs : List UInt8) : Nat → List W
  | 0 => []
  | n + 1 => shaSched bs n ++ [if n < 16 then be4 bs n else (shaSched bs n).getD (n - 16) 0 + sg0 ((shaSched bs n).getD (n - 15) 0) + (shaSched bs n).getD (n - 7) 0 + sg1 ((shaSched bs n).getD (n - 2) 0)]
theorem shaSched_length (bs : List UInt8) : ∀ n, (shaSched bs n).length = n
  | 0 => rfl
  | n + 1 => by
    show (shaSched bs n ++ [_]).length = n + 1
    rw [List.length_append, shaSched_length bs n]; rfl
theorem shaSched_get (bs : List UInt8) {j : Nat} : ∀ {n m : Nat}, j < n → n ≤ m → (shaSched bs m).getD j 0 = (shaSched bs n).getD j 0 := by
  intro n m hj hnm
  induction m with
  | zero => omega
  | succ m ih =>
    by_cases e : n = m + 1
    · rw [e]
    · rw [← ih (by omega)]
      show (shaSched bs m ++ [_]).getD j 0 = _
      rw [List.getD_eq_getElem?_getD, List.getElem?_append_left (by rw [shaSched_length]; omega), ← List.getD_eq_getElem?_getD]

/-- one round, out of the word of the schedule -/
def shaStep (ws : List W) (x : W8) (i : Nat) : W8 :=
  let t := x.2.2.2.2.2.2.2 + (rotr x.2.2.2.2.1 6 ^^^ rotr x.2.2.2.2.1 11 ^^^ rotr x.2.2.2.2.1 25) + ((x.2.2.2.2.1 &&& x.2.2.2.2.2.1) ^^^ (~~~x.2.2.2.2.1 &&& x.2.2.2.2.2.2.1)) + rootL.getD i 0 + ws.getD i 0
  let v := (rotr x.1 2 ^^^ rotr x.1 13 ^^^ rotr x.1 22) + ((x.1 &&& x.2.1) ^^^ (x.1 &&& x.2.2.1) ^^^ (x.2.1 &&& x.2.2.1))
  (t + v, x.1, x.2.1, x.2.2.1, x.2.2.2.1 + t, x.2.2.2.2.1, x.2.2.2.2.2.1, x.2.2.2.2.2.2.1)
def shaR (ws : List W) (x : W8) (n : Nat) : W8 := (List.range n).foldl (shaStep ws) x
theorem shaR_succ (ws : List W) (x : W8) (n : Nat) : shaR ws x (n + 1) = shaStep ws (shaR ws x n) n := by unfold shaR; rw [List.range_succ, List.foldl_append]; rfl
def add8 (x y : W8) : W8 := (x.1 + y.1, x.2.1 + y.2.1, x.2.2.1 + y.2.2.1, x.2.2.2.1 + y.2.2.2.1, x.2.2.2.2.1 + y.2.2.2.2.1, x.2.2.2.2.2.1 + y.2.2.2.2.2.1, x.2.2.2.2.2.2.1 + y.2.2.2.2.2.2.1, x.2.2.2.2.2.2.2 + y.2.2.2.2.2.2.2)
def shaBlk (x : W8) (bs : List UInt8) : W8 := add8 x (shaR (shaSched bs 64) x 64)

theorem ld8 {h : Heap} {p : Nat} {x : W8} {K : Int → Int → Int → Int → Int → Int → Int → Int → Prop} (hr : Row h p (c8 x)) (hk : K (u x.1) (u x.2.1) (u x.2.2.1) (u x.2.2.2.1) (u x.2.2.2.2.1) (u x.2.2.2.2.2.1) (u x.2.2.2.2.2.2.1) (u x.2.2.2.2.2.2.2)) :
    ldI .u32 ⟨p, 0, none⟩ h fun n0 =>
    ldI .u32 ((⟨p, 0, none⟩ : Addr).add 1) h fun n1 =>
    ldI .u32 ((⟨p, 0, none⟩ : Addr).add 2) h fun n2 =>
    ldI .u32 ((⟨p, 0, none⟩ : Addr).add 3) h fun n3 =>
    ldI .u32 ((⟨p, 0, none⟩ : Addr).add 4) h fun n4 =>
    ldI .u32 ((⟨p, 0, none⟩ : Addr).add 5) h fun n5 =>
    ldI .u32 ((⟨p, 0, none⟩ : Addr).add 6) h fun n6 =>
    ldI .u32 ((⟨p, 0, none⟩ : Addr).add 7) h fun n7 =>
    K n0 n1 n2 n3 n4 n5 n6 n7 :=
  ldI_row (o := 0) hr rfl (ldI_row (o := 1) hr rfl (ldI_row (o := 2) hr rfl (ldI_row (o := 3) hr rfl (ldI_row (o := 4) hr rfl (ldI_row (o := 5) hr rfl (ldI_row (o := 6) hr rfl (ldI_row (o := 7) hr rfl hk)))))))

theorem st8 {h : Heap} {p : Nat} {cs : List Value} {v0 v1 v2 v3 v4 v5 v6 v7 : Int} {K : Heap → Prop} (hr : Row h p cs) (hl : cs.length = 8)
    (hk : ∀ h', h'.size = h.size → Row h' p [.int .u32 v0, .int .u32 v1, .int .u32 v2, .int .u32 v3, .int .u32 v4, .int .u32 v5, .int .u32 v6, .int .u32 v7] → Keep (· = p) h h' → K h') :
    stC ⟨p, 0, none⟩ (.int .u32 v0) h fun h1 =>
    stC ((⟨p, 0, none⟩ : Addr).add 1) (.int .u32 v1) h1 fun h2 =>
    stC ((⟨p, 0, none⟩ : Addr).add 2) (.int .u32 v2) h2 fun h3 =>
    stC ((⟨p, 0, none⟩ : Addr).add 3) (.int .u32 v3) h3 fun h4 =>
    stC ((⟨p, 0, none⟩ : Addr).add 4) (.int .u32 v4) h4 fun h5 =>
    stC ((⟨p, 0, none⟩ : Addr).add 5) (.int .u32 v5) h5 fun h6 =>
    stC ((⟨p, 0, none⟩ : Addr).add 6) (.int .u32 v6) h6 fun h7 =>
    stC ((⟨p, 0, none⟩ : Addr).add 7) (.int .u32 v7) h7 fun h8 =>
    K h8 := by
  obtain ⟨a0, a1, a2, a3, a4, a5, a6, a7, rfl⟩ : ∃ a0 a1 a2 a3 a4 a5 a6 a7, cs = [a0, a1, a2, a3, a4, a5, a6, a7] := by
    match cs, hl with
    | [a0, a1, a2, a3, a4, a5, a6, a7], _ => exact ⟨_, _, _, _, _, _, _, _, rfl⟩
  refine stC_row (o := 0) hr (by simp) rfl ?_
  intro h1 s1 r1 k1
  refine stC_row (o := 1) r1 (by simp) rfl ?_
  intro h2 s2 r2 k2
  refine stC_row (o := 2) r2 (by simp) rfl ?_
  intro h3 s3 r3 k3
  refine stC_row (o := 3) r3 (by simp) rfl ?_
  intro h4 s4 r4 k4
  refine stC_row (o := 4) r4 (by simp) rfl ?_
  intro h5 s5 r5 k5
  refine stC_row (o := 5) r5 (by simp) rfl ?_
  intro h6 s6 r6 k6
  refine stC_row (o := 6) r6 (by simp) rfl ?_
  intro h7 s7 r7 k7
  refine stC_row (o := 7) r7 (by simp) rfl ?_
  intro h8 s8 r8 k8
  exact hk h8 (by omega) r8 (((((((k1.trans' k2).trans' k3).trans' k4).trans' k5).trans' k6).trans' k7).trans' k8)

theorem turn_spec {h : Heap} {x : W} {n : Nat} (h0 : 0 < n) (h1 : n < 32) {R : Int → Heap → Prop} (hk : R (u (rotr x n)) h) : CallT Try.prog hash_shaBlock_1_no [.int .u32 (u x), .int .i64 (n : Int)] h [.sc (.int .u32)] R := by
  apply hash_shaBlock_1_call
  simp only [hash_shaBlock_1]
  refine rotl_spec ?_
  have e : (w64 (0 - (n : Int)) % 32).toNat = 32 - n := by rw [w64_id (by omega) (by omega)]; omega
  rw [e]
  exact hk

theorem shaBlock_spec {h : Heap} {x : W8} {a : Option Addr} {c : Nat} {bs : List UInt8} (hb : Rb h a 64 bs) {ka : Nat} (hs : Row h ka (rootL.map fun w => .int .u32 (u w))) {R : (Int × Int × Int × Int × Int × Int × Int × Int) → Heap → Prop}
    (hk : ∀ h', Keep (fun _ => False) h h' → R (u8 (shaBlk x bs)) h') :
    CallT Try.prog hash_shaBlock_no [.agg #[.int .u32 (u x.1), .int .u32 (u x.2.1), .int .u32 (u x.2.2.1), .int .u32 (u x.2.2.2.1), .int .u32 (u x.2.2.2.2.1), .int .u32 (u x.2.2.2.2.2.1), .int .u32 (u x.2.2.2.2.2.2.1), .int .u32 (u x.2.2.2.2.2.2.2)], .slice a 64 c, .pointer (some ⟨ka, 0, none⟩)] h [.agg [.int .u32, .int .u32, .int .u32, .int .u32, .int .u32, .int .u32, .int .u32, .int .u32]] R := by
  have hcall := hash_shaBlock_call (x_0 := u8 x) (x_1 := ⟨a, 64, c⟩) (x_2 := some ⟨ka, 0, none⟩) (R := R) (h := h)
  apply hcall
  unfold hash_shaBlock
  have hlen := hb.len
  have hka := hs.lt
  refine newB_row ?_
  intro h1 s1 r1 k1
  refine newB_row ?_
  intro h2 s2 r2 k2
  refine newB_row ?_
  intro h3 s3 r3 k3
  have k03 : Keep (fun _ => False) h h3 := (k1.trans' k2).trans' k3
  have r13 : Row h3 h.size (c8 x) := k3.row (k2.row r1 (fun h => h)) (fun h => h)
  have r23 := k3.row r2 (fun h => h)
  refine LoopT.intro (fun i h' => 0 ≤ i ∧ i ≤ 64 ∧ Row h' h2.size ((shaSched bs i.toNat).map (fun w => Value.int .u32 (u w)) ++ List.replicate (64 - i.toNat) (Value.int .u32 0)) ∧ Keep (· = h2.size) h3 h') (fun i _ => (64 - i).toNat) ⟨by omega, by omega, r3, .refl _ _⟩ ?_
  rintro i h4 ⟨q1, q2, q3, q4⟩
  have hb4 : Rb h4 a 64 bs := (hb.keep k03 (fun _ _ _ h => h)).keep q4 (fun hl b hb' e => by
    have := hb.lt hl hb'
    have e' : b = h2.size := e
    omega)
  refine cnd_dec (fun hi => ?_) (fun hi => ?_)
  · replace hi : i < 64 := hi
    have hw : w64 (i + 1) = i + 1 := w64_id (by omega) (by omega)
    have hn1 : (i + 1).toNat = i.toNat + 1 := by omega
    have slen := shaSched_length bs i.toNat
    -- the next word is laid
    have lay : ∀ {v : Int} {K : Heap → Prop}, v = u ((shaSched bs (i.toNat + 1)).getD i.toNat 0) → (∀ h5, (0 ≤ w64 (i + 1) ∧ w64 (i + 1) ≤ 64 ∧ Row h5 h2.size ((shaSched bs (w64 (i + 1)).toNat).map (fun w => Value.int .u32 (u w)) ++ List.replicate (64 - (w64 (i + 1)).toNat) (Value.int .u32 0)) ∧ Keep (· = h2.size) h3 h5) ∧ (64 - w64 (i + 1)).toNat < (64 - i).toNat → K h5) →
        stC ((⟨h2.size, 0, none⟩ : Addr).add (i.toNat * 1)) (.int .u32 v) h4 K := by
      intro v K hv hK
      rw [add_mk, Nat.zero_add, Nat.mul_one]
      refine stC_row q3 (by simp [slen]; omega) rfl ?_
      intro h5 s5 r5 k5
      refine hK h5 ?_
      rw [hw, hn1]
      refine ⟨⟨by omega, by omega, ?_, q4.trans' k5⟩, by omega⟩
      have e : ((shaSched bs i.toNat).map (fun w => Value.int .u32 (u w)) ++ List.replicate (64 - i.toNat) (Value.int .u32 0)).set i.toNat (.int .u32 v) = (shaSched bs (i.toNat + 1)).map (fun w => Value.int .u32 (u w)) ++ List.replicate (64 - (i.toNat + 1)) (Value.int .u32 0) := by
        have e1 : List.replicate (64 - i.toNat) (Value.int .u32 0) = .int .u32 0 :: List.replicate (64 - (i.toNat + 1)) (.int .u32 0) := by
          rw [show 64 - i.toNat = (64 - (i.toNat + 1)) + 1 by omega, List.replicate_succ]
        rw [e1, List.set_append_right _ _ (by simp [slen])]
        have e2 : i.toNat - ((shaSched bs i.toNat).map (fun w => Value.int .u32 (u w))).length = 0 := by simp [slen]
        rw [e2]
        obtain ⟨nx, hnx⟩ : ∃ nx, shaSched bs (i.toNat + 1) = shaSched bs i.toNat ++ [nx] := ⟨_, rfl⟩
        have hvx : v = u nx := by
          rw [hv, hnx, List.getD_eq_getElem?_getD, List.getElem?_append_right (by omega), slen, Nat.sub_self]; rfl
        rw [hnx, hvx]
        simp
      rw [← e]
      exact r5
    have old : ∀ j : Nat, j < i.toNat → cellH h4 ((⟨h2.size, 0, none⟩ : Addr).add (j * 1)) = some (.int .u32 (u ((shaSched bs i.toNat).getD j 0))) := by
      intro j hj
      rw [add_mk, Nat.zero_add, Nat.mul_one, q3.cells, List.getElem?_append_left (by simp [slen]; omega), List.getElem?_map, List.getElem?_eq_getElem (by omega), List.getD_eq_getElem?_getD, List.getElem?_eq_getElem (by omega)]
      rfl
    refine withJ.inl ?_
    refine cnd_dec (fun h16 => ?_) (fun h16 => ?_)
    · have w0 : w64 (4 * i) = 4 * i := w64_id (by omega) (by omega)
      have w1 : w64 (4 * i + 1) = 4 * i + 1 := w64_id (by omega) (by omega)
      have w2 : w64 (4 * i + 2) = 4 * i + 2 := w64_id (by omega) (by omega)
      have w3 : w64 (4 * i + 3) = 4 * i + 3 := w64_id (by omega) (by omega)
      simp only [w0, w1, w2, w3]
      refine hb4.at (by omega) (by show 4 * i < ((64 : Nat) : Int); omega) ?_
      intro b0 e0
      refine hb4.at (by omega) (by show 4 * i + 1 < ((64 : Nat) : Int); omega) ?_
      intro b1 e1
      refine hb4.at (by omega) (by show 4 * i + 2 < ((64 : Nat) : Int); omega) ?_
      intro b2 e2
      refine hb4.at (by omega) (by show 4 * i + 3 < ((64 : Nat) : Int); omega) ?_
      intro b3 e3
      refine inB_of q1 hi (lay ?_ (fun h5 hh => hh))
      rw [u_byte, u_byte, u_byte, u_byte, u_shl _ (by omega) (by omega), u_shl _ (by omega) (by omega), u_shl _ (by omega) (by omega), u_or, u_or, u_or]
      congr 1
      have e : (shaSched bs (i.toNat + 1)).getD i.toNat 0 = be4 bs i.toNat := by
        show (shaSched bs i.toNat ++ [_]).getD i.toNat 0 = _
        rw [List.getD_eq_getElem?_getD, List.getElem?_append_right (by omega), slen, Nat.sub_self]
        show (if i.toNat < 16 then _ else _) = _
        rw [if_pos (by omega)]
      rw [e]
      unfold be4
      rw [getD_of (x := b0) (by rw [← e0]; congr 1; omega), getD_of (x := b1) (by rw [← e1]; congr 1; omega), getD_of (x := b2) (by rw [← e2]; congr 1; omega), getD_of (x := b3) (by rw [← e3]; congr 1; omega)]
      rfl
    · have w15 : w64 (i - 15) = i - 15 := w64_id (by omega) (by omega)
      have w2 : w64 (i - 2) = i - 2 := w64_id (by omega) (by omega)
      have w16 : w64 (i - 16) = i - 16 := w64_id (by omega) (by omega)
      have w7 : w64 (i - 7) = i - 7 := w64_id (by omega) (by omega)
      simp only [w15, w2, w16, w7]
      have l15 := old (i - 15).toNat (by omega)
      have l2 := old (i - 2).toNat (by omega)
      have l16 := old (i - 16).toNat (by omega)
      have l7 := old (i - 7).toNat (by omega)
      refine inB_of (by omega) (by show i - 15 < ((64 : Nat) : Int); omega) (ldI_at l15 (inB_of (by omega) (by show i - 2 < ((64 : Nat) : Int); omega) (ldI_at l2 (inB_of (by omega) (by show i - 16 < ((64 : Nat) : Int); omega) (ldI_at l16 (inB_of (by omega) (by show i - 7 < ((64 : Nat) : Int); omega) (ldI_at l7 ?_)))))))
      refine turn_spec (n := 7) (by omega) (by omega) ⟨ldI_at l7 rfl, ldI_at l16 rfl, ?_⟩
      refine turn_spec (n := 18) (by omega) (by omega) ⟨ldI_at l7 rfl, ldI_at l16 rfl, ?_⟩
      refine turn_spec (n := 17) (by omega) (by omega) ⟨ldI_at l7 rfl, ldI_at l16 rfl, ?_⟩
      refine turn_spec (n := 19) (by omega) (by omega) ⟨ldI_at l7 rfl, ldI_at l16 rfl, ?_⟩
      refine inB_of q1 hi (lay ?_ (fun h5 hh => hh))
      rw [u_shr _ (by omega) (by omega), u_shr _ (by omega) (by omega)]
      simp only [u_xor, u_add]
      congr 1
      have e : (shaSched bs (i.toNat + 1)).getD i.toNat 0 = (shaSched bs i.toNat).getD (i.toNat - 16) 0 + sg0 ((shaSched bs i.toNat).getD (i.toNat - 15) 0) + (shaSched bs i.toNat).getD (i.toNat - 7) 0 + sg1 ((shaSched bs i.toNat).getD (i.toNat - 2) 0) := by
        show (shaSched bs i.toNat ++ [_]).getD i.toNat 0 = _
        rw [List.getD_eq_getElem?_getD, List.getElem?_append_right (by omega), slen, Nat.sub_self]
        show (if i.toNat < 16 then _ else _) = _
        rw [if_neg (by omega)]
      rw [e, show i.toNat - 16 = (i - 16).toNat by omega, show i.toNat - 15 = (i - 15).toNat by omega, show i.toNat - 7 = (i - 7).toNat by omega, show i.toNat - 2 = (i - 2).toNat by omega]
      rfl
  · have hi64 : i = 64 := by
      have : ¬ i < 64 := hi
      omega
    subst hi64
    obtain ⟨ws, hws⟩ : ∃ ws, ws = shaSched bs 64 := ⟨_, rfl⟩
    have hwl : ws.length = 64 := by rw [hws, shaSched_length]
    replace q3 : Row h4 h2.size (ws.map fun w => .int .u32 (u w)) := by
      rw [hws]
      simpa using q3
    have r14 : Row h4 h.size (c8 x) := q4.row r13 (fun e => by
      have : h.size = h2.size := e
      omega)
    refine ld8 r14 ?_
    refine newB_row ?_
    intro h5 s5 r5 k5
    refine st8 r5 rfl ?_
    intro h6 s6 r6 k6
    have k46 : Keep (fun _ => False) h4 h6 := k5.trans k6 (fun y hy e => by
      have e' : y = h4.size := e
      omega)
    have z4 := q4.size
    have ws6 := k46.row q3 (fun h => h)
    have ro6 : Row h6 ka (rootL.map fun w => .int .u32 (u w)) := k46.row (q4.row (k03.row hs (fun h => h)) (fun e => by
      have e' : ka = h2.size := e
      omega)) (fun h => h)
    have r16 := k46.row r14 (fun h => h)
    have r26 := k46.row (q4.row r23 (fun e => by
      have e' : h1.size = h2.size := e
      omega)) (fun h => h)
    refine LoopT.intro (fun i h' => 0 ≤ i ∧ i ≤ 64 ∧ Row h' h4.size (c8 (shaR ws x i.toNat)) ∧ Keep (· = h4.size) h6 h') (fun i _ => (64 - i).toNat) ⟨by omega, by omega, r6, .refl _ _⟩ ?_
    rintro i h7 ⟨p1, p2, p3, p4⟩
    have ws7 := p4.row ws6 (fun e => by
      have e' : h2.size = h4.size := e
      omega)
    have ro7 := p4.row ro6 (fun e => by
      have e' : ka = h4.size := e
      omega)
    obtain ⟨z, hz⟩ : ∃ z, z = shaR ws x i.toNat := ⟨_, rfl⟩
    rw [← hz] at p3
    refine cnd_dec (fun hi => ?_) (fun hi => ?_)
    · replace hi : i < 64 := hi
      have hw : w64 (i + 1) = i + 1 := w64_id (by omega) (by omega)
      have hn1 : (i + 1).toNat = i.toNat + 1 := by omega
      have lk : cellH h7 ((⟨ka, 0, none⟩ : Addr).add (i.toNat * 1)) = some (.int .u32 (u (rootL.getD i.toNat 0))) := by
        have hrl : rootL.length = 64 := rfl
        rw [add_mk, Nat.zero_add, Nat.mul_one, ro7.cells, List.getElem?_map, List.getElem?_eq_getElem (by omega), List.getD_eq_getElem?_getD, List.getElem?_eq_getElem (by omega)]
        rfl
      have lw : cellH h7 ((⟨h2.size, 0, none⟩ : Addr).add (i.toNat * 1)) = some (.int .u32 (u (ws.getD i.toNat 0))) := by
        rw [add_mk, Nat.zero_add, Nat.mul_one, ws7.cells, List.getElem?_map, List.getElem?_eq_getElem (by omega), List.getD_eq_getElem?_getD, List.getElem?_eq_getElem (by omega)]
        rfl
      refine inB_of (by decide) (by decide) (ldI_row (o := 0) p3 rfl (inB_of (by decide) (by decide) (ldI_row (o := 4) p3 rfl (inB_of (by decide) (by decide) (ldI_row (o := 7) p3 rfl (inB_of (by decide) (by decide) (ldI_row (o := 5) p3 rfl (inB_of (by decide) (by decide) (ldI_row (o := 6) p3 rfl ?_)))))))))
      show nn (some ⟨ka, 0, none⟩) _
      refine nn_some (inB_of p1 hi (ldI_at lk (inB_of p1 hi (ldI_at lw ?_))))
      refine turn_spec (n := 6) (by omega) (by omega) ⟨ldI_at lw rfl, ldI_at lk rfl, ldI_row (o := 6) p3 rfl rfl, ldI_row (o := 5) p3 rfl rfl, ldI_row (o := 7) p3 rfl rfl, ?_⟩
      refine turn_spec (n := 11) (by omega) (by omega) ⟨ldI_at lw rfl, ldI_at lk rfl, ldI_row (o := 6) p3 rfl rfl, ldI_row (o := 5) p3 rfl rfl, ldI_row (o := 7) p3 rfl rfl, ?_⟩
      refine turn_spec (n := 25) (by omega) (by omega) ⟨ldI_at lw rfl, ldI_at lk rfl, ldI_row (o := 6) p3 rfl rfl, ldI_row (o := 5) p3 rfl rfl, ldI_row (o := 7) p3 rfl rfl, ?_⟩
      refine inB_of (by decide) (by decide) (ldI_row (o := 1) p3 rfl (inB_of (by decide) (by decide) (ldI_row (o := 2) p3 rfl (inB_of (by decide) (by decide) (ldI_row (o := 1) p3 rfl (inB_of (by decide) (by decide) (ldI_row (o := 2) p3 rfl ?_)))))))
      refine turn_spec (n := 2) (by omega) (by omega) ⟨ldI_row (o := 2) p3 rfl rfl, ldI_row (o := 1) p3 rfl rfl, ldI_row (o := 2) p3 rfl rfl, ldI_row (o := 1) p3 rfl rfl, ?_⟩
      refine turn_spec (n := 13) (by omega) (by omega) ⟨ldI_row (o := 2) p3 rfl rfl, ldI_row (o := 1) p3 rfl rfl, ldI_row (o := 2) p3 rfl rfl, ldI_row (o := 1) p3 rfl rfl, ?_⟩
      refine turn_spec (n := 22) (by omega) (by omega) ⟨ldI_row (o := 2) p3 rfl rfl, ldI_row (o := 1) p3 rfl rfl, ldI_row (o := 2) p3 rfl rfl, ldI_row (o := 1) p3 rfl rfl, ?_⟩
      refine inB_of (by decide) (by decide) (ldI_row (o := 0) p3 rfl (inB_of (by decide) (by decide) (ldI_row (o := 1) p3 rfl (inB_of (by decide) (by decide) (ldI_row (o := 2) p3 rfl (inB_of (by decide) (by decide) (ldI_row (o := 3) p3 rfl (inB_of (by decide) (by decide) (ldI_row (o := 4) p3 rfl (inB_of (by decide) (by decide) (ldI_row (o := 5) p3 rfl (inB_of (by decide) (by decide) (ldI_row (o := 6) p3 rfl ?_)))))))))))))
      simp only [u_not, u_and, u_xor, u_add]
      refine st8 p3 rfl ?_
      intro h8 s8 r8 k8
      rw [hw, hn1]
      refine ⟨⟨by omega, by omega, ?_, p4.trans' k8⟩, by omega⟩
      rw [shaR_succ, ← hz]
      exact r8
    · have hi64 : i = 64 := by
        have : ¬ i < 64 := hi
        omega
      subst hi64
      have r17 : Row h7 h.size (c8 x) := p4.row r16 (fun e => by
        have e' : h.size = h4.size := e
        omega)
      have r27 := p4.row r26 (fun e => by
        have e' : h1.size = h4.size := e
        omega)
      refine LoopT.intro (fun i h' => 0 ≤ i ∧ i ≤ 8 ∧ Row h' h.size ((List.range 8).map fun j => .int .u32 (u (if j < i.toNat then (l8 x).getD j 0 + (l8 z).getD j 0 else (l8 x).getD j 0))) ∧ Keep (· = h.size) h7 h') (fun i _ => (8 - i).toNat) ⟨by omega, by omega, r17, .refl _ _⟩ ?_
      rintro i h8 ⟨v1, v2, v3, v4⟩
      refine cnd_dec (fun hi8 => ?_) (fun hi8 => ?_)
      · replace hi8 : i < 8 := hi8
        have pz : Row h8 h4.size (c8 z) := v4.row p3 (fun e => by
          have e' : h4.size = h.size := e
          omega)
        have g1 : cellH h8 ((⟨h.size, 0, none⟩ : Addr).add (i.toNat * 1)) = some (.int .u32 (u ((l8 x).getD i.toNat 0))) := by
          rw [add_mk, Nat.zero_add, Nat.mul_one, v3.cells, List.getElem?_map, List.getElem?_range (by omega)]
          simp only [Option.map_some]
          rw [if_neg (by omega)]
        have g2 : cellH h8 ((⟨h4.size, 0, none⟩ : Addr).add (i.toNat * 1)) = some (.int .u32 (u ((l8 z).getD i.toNat 0))) := by
          have e : c8 z = (l8 z).map fun w => .int .u32 (u w) := rfl
          have hl : (l8 z).length = 8 := rfl
          rw [add_mk, Nat.zero_add, Nat.mul_one, pz.cells, e, List.getElem?_map, List.getElem?_eq_getElem (by omega), List.getD_eq_getElem?_getD, List.getElem?_eq_getElem (by omega)]
          rfl
        refine inB_of v1 hi8 (ldI_at g1 (inB_of v1 hi8 (ldI_at g2 (inB_of v1 hi8 ?_))))
        rw [u_add, add_mk, Nat.zero_add, Nat.mul_one]
        refine stC_row v3 (by simp; omega) rfl ?_
        intro h9 s9 r9 k9
        rw [w64_id (x := i + 1) (by omega) (by omega)]
        refine ⟨⟨by omega, by omega, ?_, v4.trans' k9⟩, by omega⟩
        rw [show (i + 1).toNat = i.toNat + 1 by omega]
        have el : ((List.range 8).map fun j => Value.int .u32 (u (if j < i.toNat then (l8 x).getD j 0 + (l8 z).getD j 0 else (l8 x).getD j 0))).set i.toNat (.int .u32 (u ((l8 x).getD i.toNat 0 + (l8 z).getD i.toNat 0))) = (List.range 8).map fun j => Value.int .u32 (u (if j < i.toNat + 1 then (l8 x).getD j 0 + (l8 z).getD j 0 else (l8 x).getD j 0)) := by
          apply List.ext_getElem?
          intro j
          rw [List.getElem?_set, List.length_map, List.length_range, List.getElem?_map, List.getElem?_map]
          by_cases hj : j < 8
          · rw [List.getElem?_range hj]
            simp only [Option.map_some]
            by_cases hij : i.toNat = j
            · rw [if_pos hij, if_pos (by omega), if_pos (by omega), ← hij]
            · rw [if_neg hij]
              by_cases h6 : j < i.toNat
              · rw [if_pos h6, if_pos (by omega)]
              · rw [if_neg h6, if_neg (by omega)]
          · rw [if_neg (by omega), List.getElem?_eq_none (by simp; omega)]
            simp
        rw [← el]
        exact r9
      · have hi8' : i = 8 := by
          have : ¬ i < 8 := hi8
          omega
        subst hi8'
        have r18 : Row h8 h.size (c8 (add8 x z)) := v3
        have r28 := v4.row r27 (fun e => by
          have e' : h1.size = h.size := e
          omega)
        refine ld8 r18 ?_
        refine st8 r28 rfl ?_
        intro h9 s9 r9 k9
        have r9' : Row h9 h1.size (c8 (add8 x z)) := r9
        refine ld8 r9' ?_
        have ez : add8 x z = shaBlk x bs := by unfold shaBlk; rw [hz, hws]; rfl
        rw [ez]
        have zz := k46.size
        have zz2 := p4.size
        refine hk h9 ?_
        have k04 : Keep (fun _ => False) h h4 := k03.trans q4 (fun y hy e => by
          have e' : y = h2.size := e
          omega)
        have k08 : Keep (fun _ => False) h h8 := ((k04.trans' k46).trans p4 (fun y hy e => by
          have e' : y = h4.size := e
          omega)).trans v4 (fun y hy e => by
          have e' : y = h.size := e
          omega)
        exact k08.trans k9 (fun y hy e => by
          have e' : y = h1.size := e
          omega)

end Hash
end Go.Proofs.Ytecfcodildjnnaa
