/- hash.HMAC: what it computes. -/
import Derived.Test.YtecfcodildjnnaaPStream
namespace Go.Proofs.Ytecfcodildjnnaa
open Go D
set_option linter.unusedVariables false
set_option linter.unusedSimpArgs false
namespace Hash

def xb (b : UInt8) (k : Nat) : UInt8 := UInt8.ofNat (b.toNat ^^^ k)
theorem xb_val (b : UInt8) {k : Nat} (hk : k < 256) : Value.int .u8 (xorI .u8 (b.toNat : Int) (k : Int)) = byteV (xb b k) := by
  unfold byteV xb xorI
  have hb := b.toNat_lt
  rw [BitVec.toNat_xor]
  simp only [IntKind.bits]
  rw [ofInt_nat (by omega), ofInt_nat (by omega), wrap_u8]
  have h3 : b.toNat ^^^ k < 2 ^ 8 := Nat.xor_lt_two_pow (by omega) (by omega)
  rw [UInt8.toNat_ofNat']
  congr 1
/-- a key, filled and turned -/
def keyPad (kb : List UInt8) (k : Nat) : List UInt8 := (List.range 64).map fun i => xb (kb.getD i 0) k
def keyB (key : List UInt8) : List UInt8 := if 64 < key.length then sha256F key else key
def hmacF (key b : List UInt8) : List UInt8 := sha256F (keyPad (keyB key) 92 ++ sha256F (keyPad (keyB key) 54 ++ b))
theorem keyPad_length (kb : List UInt8) (k : Nat) : (keyPad kb k).length = 64 := by simp [keyPad]
theorem keyB_le (key : List UInt8) : (keyB key).length ≤ 64 := by
  unfold keyB
  split
  · rw [sha256F_length]; omega
  · omega

/-- a key's pad, some of it turned -/
def part (kb : List UInt8) (k i : Nat) : List UInt8 := (List.range 64).map fun j => if j < i then xb (kb.getD j 0) k else kb.getD j 0
theorem part_zero {kb : List UInt8} (h : kb.length ≤ 64) (k : Nat) : part kb k 0 = kb ++ List.replicate (64 - kb.length) 0 := by
  apply List.ext_getElem?
  intro j
  unfold part
  rw [List.getElem?_map]
  by_cases hj : j < 64
  · rw [List.getElem?_range hj]
    simp only [Option.map_some]
    rw [if_neg (by omega)]
    by_cases hk : j < kb.length
    · rw [List.getElem?_append_left hk, List.getElem?_eq_getElem hk, List.getD_eq_getElem?_getD, List.getElem?_eq_getElem hk]; rfl
    · rw [List.getElem?_append_right (by omega), List.getElem?_replicate, if_pos (by omega), List.getD_eq_getElem?_getD, List.getElem?_eq_none (by omega)]; rfl
  · rw [List.getElem?_eq_none (by simp; omega), List.getElem?_eq_none (by simp; omega)]; rfl
theorem part_get (kb : List UInt8) (k : Nat) {i : Nat} (hi : i < 64) : (part kb k i)[i]? = some (kb.getD i 0) := by
  unfold part
  rw [List.getElem?_map, List.getElem?_range hi]
  simp
theorem part_succ (kb : List UInt8) (k : Nat) {i : Nat} (hi : i < 64) : (part kb k i).set i (xb (kb.getD i 0) k) = part kb k (i + 1) := by
  apply List.ext_getElem?
  intro j
  unfold part
  rw [List.getElem?_set, List.length_map, List.length_range, List.getElem?_map, List.getElem?_map]
  by_cases hj : j < 64
  · rw [List.getElem?_range hj]
    simp only [Option.map_some]
    by_cases hij : i = j
    · rw [if_pos hij, if_pos hi, if_pos (by omega), hij]
    · rw [if_neg hij]
      by_cases h6 : j < i
      · rw [if_pos h6, if_pos (by omega)]
      · rw [if_neg h6, if_neg (by omega)]
  · rw [if_neg (by omega), List.getElem?_eq_none (by simp; omega)]
    simp
theorem part_all (kb : List UInt8) (k : Nat) : part kb k 64 = keyPad kb k := by
  unfold part keyPad
  apply List.map_congr_left
  intro j hj
  rw [List.mem_range] at hj
  rw [if_pos hj]

theorem hmac_spec {h : Heap} {a b : Option Addr} {l c m d : Nat} {key bs : List UInt8} (hkey : Rb h a l key) (hc : l ≤ c) (hl : l ≤ 140737488352000) (hb : Rb h b m bs) (hm : m ≤ 140737488351500) {R : Sl → Heap → Prop}
    (hk : ∀ s h', Bl h' s.a s.len s.cap (hmacF key bs) → s.len ≤ s.cap → (∀ b, blk s.a b → h.size ≤ b) → Keep (fun _ => False) h h' → R s h') :
    CallT Try.prog hash_HMAC_no [.slice a l c, .slice b m d] h [.sc .sl] R := by
  have hcall := hash_HMAC_call (key_0 := ⟨a, l, c⟩) (b_1 := ⟨b, m, d⟩) (R := R) (h := h)
  apply hcall
  unfold hash_HMAC
  have hlen := hkey.len
  have hblen := hb.len
  refine withJ.intro (fun (s : Sl) h' => Rb h' s.a s.len (keyB key) ∧ Keep (fun _ => False) h h') ?_ ?_
  rotate_left
  · intro J hJ
    refine cnd_dec (fun h64 => ?_) (fun h64 => ?_)
    · refine sha256_spec hkey hc hl ?_
      intro s h' w1 w2 w3 w4
      refine hJ _ _ ⟨?_, w4⟩
      unfold keyB
      rw [if_pos (by simp only at h64; omega)]
      exact w1.rb
    · refine hJ _ _ ⟨?_, .refl _ _⟩
      unfold keyB
      rw [if_neg (by simp only at h64; omega)]
      exact hkey
  rintro s h1 ⟨hk1, k1⟩
  have kle := keyB_le key
  have klen := hk1.len
  obtain ⟨kb, hkb⟩ : ∃ kb, kb = keyB key := ⟨_, rfl⟩
  rw [← hkb] at hk1 kle klen
  have hb1 := hb.keep k1 (fun _ _ _ h => h)
  have w64m : w64 (64 + (m : Int)) = 64 + m := w64_id (by omega) (by omega)
  have nou : (List.replicate 64 (0 : UInt8)).map byteV = List.replicate 64 (.int .u8 0) := by simp [byteV]
  refine withJ.intro (fun (t : Sl × Sl) h' => (∃ bi bo, t.1.a = some ⟨bi, 0, none⟩ ∧ t.2.a = some ⟨bo, 0, none⟩ ∧ bi ≠ bo ∧ h1.size ≤ bi ∧ h1.size ≤ bo) ∧ t.1.len = 64 ∧ t.2.len = 64 ∧ Bl h' t.1.a 64 t.1.cap (List.replicate 64 0) ∧ Bl h' t.2.a 64 t.2.cap (List.replicate 64 0) ∧ Keep (fun _ => False) h1 h') ?_ ?_
  rotate_left
  · intro J hJ
    have mk : ∀ {c : Int} {K : Addr → Heap → Prop} {hh : Heap}, 64 ≤ c → c ≤ 281474976710656 → (∀ h', h'.size = hh.size + 1 → Bl h' (some ⟨hh.size, 0, none⟩) 64 c.toNat (List.replicate 64 0) → Keep (fun _ => False) hh h' → K ⟨hh.size, 0, none⟩ h') → mkSl [.int .u8 0] 5 1 64 c hh K := by
      intro c K hh e1 e2 e3
      refine mkSl_row (by omega) e1 e2 (by omega) ?_
      intro h' s' r' k'
      refine e3 h' s' (.inr ⟨hh.size, 0, _, rfl, r', by omega, by simp [zerosL_one], by simp, ?_⟩) k'
      rw [nou, zerosL_one, List.drop_zero, List.take_replicate]
      congr 1
      omega
    have two : mkSl [.int .u8 0] 5 1 64 96 h1 fun a40 h41 => mkSl [.int .u8 0] 5 1 64 (w64 (64 + (m : Int))) h41 fun a42 h43 => J ((⟨(some a42), (64 : Int).toNat, (w64 (64 + (m : Int))).toNat⟩ : Sl), (⟨(some a40), (64 : Int).toNat, (96 : Int).toNat⟩ : Sl)) h43 := by
      rw [w64m]
      refine mk (by omega) (by omega) ?_
      intro h2 s2 b2 k2
      refine mk (by omega) (by omega) ?_
      intro h3 s3 b3 k3
      exact hJ _ _ ⟨⟨h2.size, h1.size, rfl, rfl, by omega, by omega, Nat.le_refl _⟩, rfl, rfl, b3, SlR.keep b2 k3 (fun _ _ h => h), k2.trans' k3⟩
    refine ⟨?_, two⟩
    rw [w64m]
    refine mk (by omega) (by omega) ?_
    intro h2 s2 b2 k2
    refine ⟨?_, ?_⟩
    · refine mk (by omega) (by omega) ?_
      intro h3 s3 b3 k3
      exact hJ _ _ ⟨⟨h1.size, h2.size, rfl, rfl, by omega, Nat.le_refl _, by omega⟩, rfl, rfl, SlR.keep b2 k3 (fun _ _ h => h), b3, k2.trans' k3⟩
    · refine mk (by omega) (by omega) ?_
      intro h3 s3 b3 k3
      exact hJ _ _ ⟨⟨h1.size, h2.size, rfl, rfl, by omega, Nat.le_refl _, by omega⟩, rfl, rfl, SlR.keep b2 k3 (fun _ _ h => h), b3, k2.trans' k3⟩
  rintro ⟨si, so⟩ h2 ⟨⟨bi, bo, ei, eo, hne, gi, go⟩, li, lo, bli, blo, k2⟩
  obtain ⟨ai, li', ci⟩ := si
  obtain ⟨ao, lo', co⟩ := so
  simp only at ei eo li lo bli blo
  subst ei eo li lo
  have hk2 := hk1.keep k2 (fun _ _ _ h => h)
  have emin : Nat.min s.len 64 = s.len := by
    have : min s.len 64 = s.len := by omega
    exact this
  show rdCells s.a (Nat.min s.len 64 * 1) h2 fun cs8 => _
  rw [emin]
  refine hk2.rd ?_
  have one8 : ∀ v ∈ kb.map byteV, v.oneCell' = true := fun v hv => by obtain ⟨x, _, rfl⟩ := List.mem_map.1 hv; rfl
  have over : ∀ {hh : Heap} {bb cc : Nat} {K : Heap → Prop}, Bl hh (some ⟨bb, 0, none⟩) 64 cc (List.replicate 64 0) → (∀ h', Bl h' (some ⟨bb, 0, none⟩) 64 cc (part kb 0 0) → Keep (· = bb) hh h' → h'.size = hh.size → K h') → wrRow (kb.map byteV) (some ⟨bb, 0, none⟩) hh K := by
    intro hh bb cc K e1 e2
    refine SlR.over e1 (by simp; omega) one8 ?_
    intro h' w1 w2 w3
    refine e2 h' ?_ w3 w1
    rw [part_zero kle]
    unfold Bl
    rw [List.map_append, List.map_replicate]
    rw [List.length_map, List.map_replicate, List.drop_replicate] at w2
    exact w2
  refine over bli ?_
  intro h3 bi3 k3 s3
  have hk3 : Rb h3 s.a s.len kb := hk2.keep k3 (fun hl' y hy e => by
    have := hk1.lt hl' hy
    have e' : y = bi := e
    omega)
  refine hk3.rd ?_
  have blo3 : Bl h3 (some ⟨bo, 0, none⟩) 64 co (List.replicate 64 0) := SlR.keep blo k3 (fun y hy e => by
    rw [blk_some] at hy
    have e' : y = bi := e
    exact hne (by simp only at hy; omega))
  refine over blo3 ?_
  intro h4 bo4 k4 s4
  have bi4 : Bl h4 (some ⟨bi, 0, none⟩) 64 ci (part kb 0 0) := SlR.keep bi3 k4 (fun y hy e => by
    rw [blk_some] at hy
    have e' : y = bo := e
    exact hne (by simp only at hy; omega))
  have pz : ∀ k, part kb k 0 = part kb 0 0 := fun k => by rw [part_zero kle, part_zero kle]
  have k24 : Keep (fun y => h1.size ≤ y) h1 h4 := ((k2.mono (fun _ _ h => h.elim)).trans k3 (fun y _ e => by
    have e' : y = bi := e
    show h1.size ≤ y
    omega)).trans k4 (fun y _ e => by
    have e' : y = bo := e
    show h1.size ≤ y
    omega)
  refine LoopT.intro (fun i h' => 0 ≤ i ∧ i ≤ 64 ∧ Bl h' (some ⟨bi, 0, none⟩) 64 ci (part kb 54 i.toNat) ∧ Bl h' (some ⟨bo, 0, none⟩) 64 co (part kb 92 i.toNat) ∧ Keep (fun y => h1.size ≤ y) h1 h') (fun i _ => (64 - i).toNat) ⟨by omega, by omega, by rw [show (0 : Int).toNat = 0 from rfl, pz]; exact bi4, by rw [show (0 : Int).toNat = 0 from rfl, pz]; exact bo4, k24⟩ ?_
  rintro i h5 ⟨p1, p2, p3, p4, p5⟩
  refine cnd_dec (fun hi => ?_) (fun hi => ?_)
  · have hw : w64 (i + 1) = i + 1 := w64_id (by omega) (by omega)
    refine p3.rb.at p1 hi ?_
    intro x hx
    rw [part_get kb 54 (by omega)] at hx
    injection hx with hx
    subst hx
    refine idx_some p1 hi ?_
    rw [show (54 : Int) = ((54 : Nat) : Int) from rfl, xb_val _ (by decide)]
    refine SlR.set (i := i.toNat * 1) p3 (by omega) rfl ?_
    intro h6 s6 w6 k6
    rw [Nat.mul_one] at w6
    have p4' : Bl h6 (some ⟨bo, 0, none⟩) 64 co (part kb 92 i.toNat) := SlR.keep p4 k6 (fun y hy e => by
      rw [blk_some] at hy
      have e' : y = bi := e
      exact hne (by simp only at hy; omega))
    refine p4'.rb.at p1 hi ?_
    intro x hx
    rw [part_get kb 92 (by omega)] at hx
    injection hx with hx
    subst hx
    refine idx_some p1 hi ?_
    rw [show (92 : Int) = ((92 : Nat) : Int) from rfl, xb_val _ (by decide)]
    refine SlR.set (i := i.toNat * 1) p4' (by omega) rfl ?_
    intro h7 s7 w7 k7
    rw [Nat.mul_one] at w7
    rw [hw]
    refine ⟨⟨by omega, by omega, ?_, ?_, (p5.trans k6 (fun y _ e => by
      have e' : y = bi := e
      show h1.size ≤ y
      omega)).trans k7 (fun y _ e => by
      have e' : y = bo := e
      show h1.size ≤ y
      omega)⟩, by omega⟩
    · rw [show (i + 1).toNat = i.toNat + 1 by omega, ← part_succ kb 54 (by omega)]
      unfold Bl
      rw [List.map_set]
      exact SlR.keep w6 k7 (fun y hy e => by
        rw [blk_some] at hy
        have e' : y = bo := e
        exact hne (by simp only at hy; omega))
    · rw [show (i + 1).toNat = i.toNat + 1 by omega, ← part_succ kb 92 (by omega)]
      unfold Bl
      rw [List.map_set]
      exact w7
  · have hi64 : i = 64 := by
      have : ¬ i < (64 : Int) := hi
      omega
    subst hi64
    rw [show (64 : Int).toNat = 64 from rfl, part_all] at p3 p4
    have hb5 : Rb h5 b m bs := hb1.keep p5 (fun hl' y hy hge => by have := hb1.lt hl' hy; have hge' : h1.size ≤ y := hge; omega)
    refine hb5.rd ?_
    refine p3.push (new := bs) (by show 64 + m ≤ _; omega) hblen rfl ?_
    intro a6 c6 h6 q1 q2 q3
    have z5 := p5.size
    have new6 : ∀ y, blk a6 y → h1.size ≤ y ∧ y ≠ bo := fun y hy => by
      rcases q3 y hy with hh | hh
      · rw [blk_some] at hh; simp only at hh; exact ⟨by omega, by omega⟩
      · have := SlR.blk_lt p4 (b := bo) (blk_some.2 rfl)
        exact ⟨by omega, by omega⟩
    have bo6 : Bl h6 (some ⟨bo, 0, none⟩) 64 co _ := SlR.keep p4 q2 (fun y hy e => by
      rw [blk_some] at hy e
      exact hne (by simp only at hy e; omega))
    refine sha256_spec q1.rb (SlR.le q1) (by show 64 + m ≤ _; omega) ?_
    intro s7 h7 w1 w2 w3 w4
    refine w1.rb.rd ?_
    have l7 := w1.len
    rw [sha256F_length] at l7
    have bo7 : Bl h7 (some ⟨bo, 0, none⟩) 64 co _ := SlR.keep bo6 w4 (fun _ _ h => h)
    refine bo7.push (new := sha256F (keyPad kb 54 ++ bs)) (by show 64 + s7.len ≤ _; omega) (by rw [sha256F_length]; exact l7) rfl ?_
    intro a8 c8 h8 v1 v2 v3
    refine sha256_spec v1.rb (SlR.le v1) (by show 64 + s7.len ≤ _; omega) ?_
    intro s9 h9 t1 t2 t3 t4
    have z1 := k1.size
    have z7 := w4.size
    have z6 := q2.size
    have k08 : Keep (fun y => h1.size ≤ y) h1 h8 := ((p5.trans q2 (fun y _ hy => by rw [blk_some] at hy; simp only at hy; show h1.size ≤ y; omega)).trans w4 (fun _ _ h => h.elim)).trans v2 (fun y _ hy => by rw [blk_some] at hy; simp only at hy; show h1.size ≤ y; omega)
    have z8 := k08.size
    refine hk s9 h9 ?_ t2 (fun y hy => by have := t3 y hy; omega) ?_
    · unfold hmacF
      rw [← hkb]
      exact t1
    · have kk := (k1.mono (T := fun y => h1.size ≤ y) (fun _ _ h => h.elim)).trans' (k08.trans t4 (fun _ _ h => h.elim))
      exact ⟨kk.size, fun y hy _ => kk.same y hy (by omega)⟩

/-! ### the law -/
theorem hmacF_length (key b : List UInt8) : (hmacF key b).length = 32 := sha256F_length _
theorem hmac_key {key : List UInt8} (h : 64 < key.length) (b : List UInt8) : hmacF key b = hmacF (sha256F key) b := by
  have e1 : keyB key = sha256F key := by unfold keyB; rw [if_pos h]
  have e2 : keyB (sha256F key) = sha256F key := by unfold keyB; rw [if_neg (by rw [sha256F_length]; omega)]
  unfold hmacF
  rw [e1, e2]
theorem hmac_noughts {key : List UInt8} {n : Nat} (h : key.length + n ≤ 64) (b : List UInt8) : hmacF key b = hmacF (key ++ List.replicate n 0) b := by
  have e1 : keyB key = key := by unfold keyB; rw [if_neg (by omega)]
  have e2 : keyB (key ++ List.replicate n 0) = key ++ List.replicate n 0 := by unfold keyB; rw [if_neg (by simp; omega)]
  have e3 : ∀ k, keyPad (key ++ List.replicate n 0) k = keyPad key k := by
    intro k
    unfold keyPad
    apply List.map_congr_left
    intro j _
    congr 1
    rw [List.getD_eq_getElem?_getD, List.getD_eq_getElem?_getD]
    by_cases hj : j < key.length
    · rw [List.getElem?_append_left hj]
    · rw [List.getElem?_append_right (by omega), List.getElem?_replicate, List.getElem?_eq_none (by omega)]
      split <;> rfl
  unfold hmacF
  rw [e1, e2, e3, e3]

theorem hashKeys_spec {h : Heap} {x0 x1 : Sl} {key bs : List UInt8} (hkey : Rb h x0.a x0.len key) (hc : x0.len ≤ x0.cap) (hb : Rb h x1.a x1.len bs) (hbc : x1.len ≤ x1.cap) (hm : x1.len ≤ 140737488351500) {n : Int} {R : Bool → Heap → Prop} (hR : ∀ h', Keep (fun _ => False) h h' → R true h') :
    CallT Try.prog law2_HashKeys_no [.slice x0.a x0.len x0.cap, .slice x1.a x1.len x1.cap, .int .i64 n] h [.sc .bool] R := by
  apply law2_HashKeys_call
  simp only [law2_HashKeys, cnd_and]
  have hlen := hkey.len
  refine cnd_dec (fun _ => awake_spec hR) (fun h2000 => ?_)
  refine cnd_dec (fun h64 => ?_) (fun h64 => ?_)
  · refine withJ.inl ?_
    refine hmac_spec hkey hc (by omega) hb hm ?_
    intro s1 h1 b1 c1 n1 k1
    refine b1.rb.str ?_
    refine sha256_spec (hkey.keep k1 (fun _ _ _ h => h)) hc (by omega) ?_
    intro s2 h2 b2 c2 n2 k2
    have b12 := b1.rb.keep k2 (fun _ _ _ h => h)
    refine ⟨Rb.str b12 rfl, ?_⟩
    have l2 := b2.len
    rw [sha256F_length] at l2
    refine hmac_spec b2.rb c2 (by omega) ((hb.keep k1 (fun _ _ _ h => h)).keep k2 (fun _ _ _ h => h)) hm ?_
    intro s3 h3 b3 c3 n3 k3
    refine ⟨Rb.str (Rv.keep b12 k3 (fun _ _ _ h => h)) rfl, ?_⟩
    refine b3.rb.str ?_
    refine cnd_t ?_ (awake_spec fun h' hk' => hR h' (((k1.trans' k2).trans' k3).trans' hk'))
    rw [← hmac_key (by omega) bs]
    exact seq_self _
  · refine newB_row ?_
    intro h1 s1 r1 k1
    refine (hkey.keep k1 (fun _ _ _ h => h)).rd ?_
    have e0 : Bl h1 (some ⟨h.size, 0, none⟩) 0 0 [] := .inr ⟨h.size, 0, _, rfl, r1, by simp, by simp, by simp, by simp⟩
    refine e0.push (new := key) (by omega) hlen rfl ?_
    intro a2 c2 h2 q1 q2 q3
    rw [List.nil_append] at q1
    have new2 : ∀ b, blk a2 b → h.size ≤ b := fun b hb' => by
      rcases q3 b hb' with hh | hh
      · rw [blk_some] at hh; simp only at hh; omega
      · omega
    have k2 : Keep (fun y => h.size ≤ y) h h2 := (k1.mono (fun _ _ h => h.elim)).trans q2 (fun y _ hb' => by rw [blk_some] at hb'; simp only at hb'; omega)
    refine LoopT.intro (fun (t : Sl × Int) h' => 0 ≤ t.2 ∧ t.2 ≤ 64 ∧ (∃ j : Nat, t.2 = j ∧ t.1.len = x0.len + j ∧ t.1.len ≤ 64 ∧ Bl h' t.1.a t.1.len t.1.cap (key ++ List.replicate j 0)) ∧ (∀ b, blk t.1.a b → h.size ≤ b) ∧ Keep (fun y => h.size ≤ y) h h') (fun t _ => (64 - t.2).toNat)
      ⟨by simp, by simp, ⟨0, rfl, by simp, by simp; omega, by simpa using q1⟩, new2, k2⟩ ?_
    rintro ⟨s, i⟩ h3 ⟨p1, p2, ⟨j, p3, p4, p5, p6⟩, p7, p8⟩
    replace p1 : 0 ≤ i := p1
    replace p2 : i ≤ 64 := p2
    replace p3 : i = j := p3
    replace p4 : s.len = x0.len + j := p4
    replace p5 : s.len ≤ 64 := p5
    replace p6 : Bl h3 s.a s.len s.cap (key ++ List.replicate j 0) := p6
    replace p7 : ∀ b, blk s.a b → h.size ≤ b := p7
    refine withJ.inl ?_
    refine cnd_of (fun hin => ?_) (fun hout => ?_)
    · simp only [Bool.and_eq_true, decide_eq_true_eq] at hin
      have hin2 : (s.len : Int) < 64 := hin.2
      refine newB_row ?_
      intro h4 s4 r4 k4
      refine ldRow_row r4 (by simp) ?_
      have p6' : Bl h4 s.a s.len s.cap _ := SlR.keep p6 k4 (fun _ _ h => h)
      refine p6'.push (new := [0]) (by show s.len + 1 ≤ _; omega) rfl rfl ?_
      intro a5 c5 h5 w1 w2 w3
      have hw : w64 (i + 1) = i + 1 := w64_id (by omega) (by omega)
      have z := p8.size
      show (0 ≤ w64 (i + 1) ∧ w64 (i + 1) ≤ 64 ∧ (∃ j : Nat, w64 (i + 1) = j ∧ s.len + 1 = x0.len + j ∧ s.len + 1 ≤ 64 ∧ Bl h5 a5 (s.len + 1) c5 (key ++ List.replicate j 0)) ∧ (∀ b, blk a5 b → h.size ≤ b) ∧ Keep (fun y => h.size ≤ y) h h5) ∧ (64 - w64 (i + 1)).toNat < (64 - i).toNat
      rw [hw]
      refine ⟨⟨by omega, by omega, ⟨j + 1, by omega, by omega, by omega, ?_⟩, fun b hb' => ?_, (p8.trans k4 (fun _ _ h => h.elim)).trans w2 (fun y _ hy => p7 y hy)⟩, by omega⟩
      · rw [List.replicate_succ', ← List.append_assoc]
        exact w1
      · rcases w3 b hb' with hh | hh
        · exact p7 b hh
        · omega
    · refine withJ.inl ?_
      have hkey3 : Rb h3 x0.a x0.len key := hkey.keep p8 (fun h0 b hb' hge => by have := hkey.lt h0 hb'; have hge' : h.size ≤ b := hge; omega)
      have hb3 : Rb h3 x1.a x1.len bs := hb.keep p8 (fun h0 b hb' hge => by have := hb.lt h0 hb'; have hge' : h.size ≤ b := hge; omega)
      refine hmac_spec hkey3 hc (by omega) hb3 hm ?_
      intro s4 h4 b4 c4 n4 k4
      refine b4.rb.str ?_
      have hb4 := hb3.keep k4 (fun _ _ _ h => h)
      have p6s : Rb h4 s.a s.len (key ++ List.replicate j 0) := Rv.keep p6.rb k4 (fun _ _ _ h => h)
      refine hmac_spec p6s (SlR.le p6) (by show s.len ≤ _; omega) hb4 hm ?_
      intro s5 h5 b5 c5 n5 k5
      refine ⟨Rb.str (Rv.keep b4.rb k5 (fun _ _ _ h => h)) rfl, ?_⟩
      refine b5.rb.str ?_
      refine cnd_t (by rw [← hmac_noughts (by omega) bs]; exact seq_self _) ?_
      have hb5 := Rv.keep hb4 k5 (fun _ _ _ h => h)
      refine hmac_spec (Rv.keep (Rv.keep hkey3 k4 (fun _ _ _ h => h)) k5 (fun _ _ _ h => h)) hc (by omega) hb5 hm ?_
      intro s6 h6 b6 c6 n6 k6
      have l6 := b6.len
      rw [hmacF_length] at l6
      refine cnd_t (by rw [l6]; rfl) ?_
      refine md5_spec (Rv.keep hb5 k6 (fun _ _ _ h => h)) hbc (by omega) ?_
      intro s7 h7 b7 n7 k7
      have l7 := b7.len
      have l7' : s7.len = 16 := by rw [l7]; simp [md5F, le4]
      refine cnd_t (by rw [l7']; rfl) ?_
      refine awake_spec fun h' hk' => hR h' ?_
      have kk := p8.trans ((((k4.trans' k5).trans' k6).trans' k7).trans' hk') (fun _ _ h => h.elim)
      exact ⟨kk.size, fun b hb' _ => kk.same b hb' (by omega)⟩

end Hash
end Go.Proofs.Ytecfcodildjnnaa
