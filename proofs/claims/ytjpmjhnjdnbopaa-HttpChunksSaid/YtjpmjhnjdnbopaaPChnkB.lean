/- HttpChunks: the heap's side. -/
import Derived.Test.YtjpmjhnjdnbopaaPChnk
namespace Go.Proofs.Ytjpmjhnjdnbopaa
open Go D
set_option linter.unusedVariables false
set_option linter.unusedSimpArgs false

/-- slices of bytes that came in -/
def BlsAt (h : Heap) (a : Option Addr) (l : Nat) : Prop := ∀ i : Nat, i < l → ∃ x a' l' c', a = some x ∧ cellH h (x.add (i * 1)) = some (.slice a' l' c') ∧ Rb h a' l' (bytesAt h a' l')
theorem bls_of {h : Heap} {a : Option Addr} {l c n : Nat} (hs : InSl 1 (InSl 1 (InInt .u8)) h n [.slice a l c]) : BlsAt h a l := by
  rcases hs with h1 | ⟨x, l', c', h1, h2, h3, h4, h5⟩
  · injection h1 with h1
    injection h1 with h1 h2 h3
    subst h2
    intro i hi
    omega
  · injection h1 with h1
    injection h1 with e1 e2 e3
    subst e1 e2 e3
    intro i hi
    obtain ⟨r, b, g1, gb, g2, g3⟩ := h5 i (by omega)
    have hg := g2 0 (by omega)
    rw [add_zero] at hg
    obtain ⟨a', l', c', hr⟩ : ∃ a' l' c', r = [.slice a' l' c'] := by
      rcases g3 with e | ⟨y, l', c', e, _⟩
      · exact ⟨none, 0, 0, e⟩
      · exact ⟨_, _, _, e⟩
    subst hr
    obtain ⟨k1, k2, k3⟩ := bytes_of g3
    exact ⟨x, a', l', c', rfl, hg, k1⟩
def blOf (h : Heap) (a : Option Addr) (i : Nat) : List UInt8 := match a with
  | none => []
  | some x => match cellH h (x.add (i * 1)) with
    | some (.slice a' l' _) => bytesAt h a' l'
    | _ => []
def blsOf (h : Heap) (a : Option Addr) (n : Nat) : List (List UInt8) := (List.range n).map (blOf h a)

section
variable {h0 h : Heap} {s : Sl} {bs : List UInt8}
/-- bytes laid behind bytes; what was there is read as it was -/
theorem Own.appB {S : Nat → Prop} {new : List UInt8} {vs : List Value} {m : Nat} {K : Option Addr → Nat → Heap → Prop} (ho : Own h0 h 1 s (bs.map byteV)) (hn : Keep S h0 h) (hv : vs = new.map byteV) (hm : m = new.length) (hb : s.len + m ≤ 100000000000000)
    (hk : ∀ a' c' h', Own h0 h' 1 ⟨a', s.len + m, c'⟩ ((bs ++ new).map byteV) → Keep S h0 h' → Keep (blk s.a) h h' → (∀ b, blk a' b → blk s.a b ∨ h.size ≤ b) → Rb h' s.a s.len bs → K a' c' h') : D.app [.int .u8 0] 5 1 1 s.a s.len s.cap vs m h K := by
  subst hv hm
  refine SlR.app ho.sl rfl (by simp) (fun v hv => by obtain ⟨x, _, rfl⟩ := List.mem_map.1 hv; rfl) (by omega) ?_
  intro a' c' h2 q1 q2 q3
  rw [← List.map_append] at q1
  have hz0 := hn.size
  have hlen := ho.len
  have w : ∀ b, blk a' b → blk s.a b ∨ h.size ≤ b := fun b hb' => by
    rcases q3 with ⟨rfl, _⟩ | ⟨rfl, _⟩
    · exact .inl hb'
    · rw [blk_some] at hb'
      exact .inr (by simp only at hb'; omega)
  refine hk a' c' h2 ⟨q1, fun b hb' => ?_⟩ (hn.trans q2 (fun x hx e => by have := ho.fresh x e; omega)) q2 w ?_
  · rcases w b hb' with hh | hh
    · exact ho.fresh b hh
    · omega
  · rcases q3 with ⟨rfl, _⟩ | ⟨_, _, k⟩
    · have r : Rv h2 s.a (s.len + new.length) ((bs ++ new).map byteV) := SlR.rv q1
      refine ⟨by omega, fun i v hv => ?_⟩
      have hi := (List.getElem?_eq_some_iff.1 hv).1
      refine r.2 i v ?_
      rw [List.map_append, List.getElem?_append_left hi]
      exact hv
    · exact Rv.keep ho.rv k (fun _ _ _ h => h)
/-- bytes out of a block of their own -/
theorem Own.pushB {S : Nat → Prop} {new : List UInt8} {vs : List Value} {t : TypeId} {m N : Nat} {K : Option Addr → Nat → Heap → Prop} (ho : Own h0 h 1 s (bs.map byteV)) (hn : Keep S h0 h) (hv : vs = new.map byteV) (hm : m = new.length) (hN : N = m) (hb : s.len + m ≤ 100000000000000)
    (hk : ∀ a' c' h', Own h0 h' 1 ⟨a', s.len + m, c'⟩ ((bs ++ new).map byteV) → Keep S h0 h' → Keep (blk s.a) h h' → (∀ b, blk a' b → blk s.a b ∨ h.size ≤ b) → Rb h' s.a s.len bs → K a' c' h') :
    newB vs t h fun a9 h10 => ldRow N a9 h10 fun cs14 => D.app [.int .u8 0] 5 1 1 s.a s.len s.cap cs14 m h10 K := by
  subst hN
  refine newB_row ?_
  intro h2 s2 r2 k2
  refine ldRow_row (o := 0) r2 (by rw [hv, List.length_map]; omega) ?_
  rw [List.drop_zero, List.take_of_length_le (by rw [hv, List.length_map]; omega)]
  refine (ho.nw k2).appB (hn.trans k2 (fun _ _ h => h.elim)) hv hm hb ?_
  intro a' c' h3 q1 q2 q3 q4 q5
  refine hk a' c' h3 q1 q2 ?_ (fun b hb' => ?_) q5
  · refine ⟨by have := q3.size; omega, fun b hb' hn' => ?_⟩
    rw [q3.same b (by omega) hn', k2.same b hb' (fun h => h)]
  · rcases q4 b hb' with hh | hh
    · exact .inl hh
    · exact .inr (by omega)
end

/-- the last part -/
def endC (x_2 : Bool) (R : Bool → Heap → Prop) (s all : Sl) (h9 : Heap) : Prop :=
  app [.int .u8 0] 5 1 1 s.a s.len s.cap (bytesV (⟨#[48, 13, 10]⟩ : ByteArray)) ((⟨#[48, 13, 10]⟩ : ByteArray).size) h9 fun o60 c61 h62 =>
  withJ (σ := Sl) (fun s63 h65 =>
  newB [.int .u8 13, .int .u8 10] 5 h65 fun a66 h67 =>
  ldRow (2 * 1) a66 h67 fun cs71 =>
  app [.int .u8 0] 5 1 1 s63.a s63.len s63.cap cs71 2 h67 fun o68 c69 h70 =>
  CallT Try.prog http_Parse_no [.slice o68 (s63.len + 2) c69] h70 [.agg [.int .i64, .int .i64, .str, .str, .sl, .sl, .int .i64, .bool, .bool]] fun (r72 : (Int × Int × ByteArray × ByteArray × Sl × Sl × Int × Bool × Bool)) h73 =>
  lay9 29 r72 (fun a74 h84 =>
  CallT Try.prog http_Parse_no [.slice s63.a s63.len s63.cap] h84 [.agg [.int .i64, .int .i64, .str, .str, .sl, .sl, .int .i64, .bool, .bool]] fun (r85 : (Int × Int × ByteArray × ByteArray × Sl × Sl × Int × Bool × Bool)) h86 =>
  lay9 29 r85 (fun a87 h97 =>
  withJ (σ := Bool) (fun s98 h100 =>
  R s98 h100) (fun J99 =>
  ldI .i64 a74 h97 fun n101 =>
  cnd (n101 == 2) (
  ldI .i64 (a74.add 1) h97 fun n102 =>
  cnd (n102 == (w64 ((s63.len : Int) + 2))) (
  ldL ((a74.add 2).add 3) h97 fun o103 l103 c103 =>
  b2s o103 l103 h97 fun s104 =>
  b2s all.a all.len h97 fun s105 =>
  cnd (seq s104 s105) (
  ldL ((a74.add 2).add 2) h97 fun o106 l106 c106 =>
  cnd ((l106 : Int) == 2) (
  ldI .i64 a87 h97 fun n107 =>
  cnd (n107 == 1) (
  CallT Try.prog law16_awake_no [] h97 [.sc (.bool)] fun (r108 : Bool) h109 =>
  J99 r108 h109) (
  J99 false h97)) (
  J99 false h97)) (
  J99 false h97)) (
  J99 false h97)) (
  J99 false h97))) h86) h73) (fun J64 =>
  cnd x_2 (
  app [.int .u8 0] 5 1 1 o60 (s.len + ((⟨#[48, 13, 10]⟩ : ByteArray).size)) c61 (bytesV (⟨#[120, 45, 115, 117, 109, 58, 32, 49, 13, 10]⟩ : ByteArray)) ((⟨#[120, 45, 115, 117, 109, 58, 32, 49, 13, 10]⟩ : ByteArray).size) h62 fun o110 c111 h112 =>
  J64 (⟨o110, ((s.len + ((⟨#[48, 13, 10]⟩ : ByteArray).size)) + ((⟨#[120, 45, 115, 117, 109, 58, 32, 49, 13, 10]⟩ : ByteArray).size)), c111⟩ : Sl) h112) (
  J64 (⟨o60, (s.len + ((⟨#[48, 13, 10]⟩ : ByteArray).size)), c61⟩ : Sl) h62))

theorem endC_spec {h0 h : Heap} {s all : Sl} {up tr : Bool} {l : List (List UInt8)} (hg : MaxG h0) (hn : Nw h0 h) (hs : Own h0 h 1 s ((headC ++ encC up 0 l).map byteV)) (ha : Own h0 h 1 all ((allC l).map byteV)) (hd : ∀ b, blk s.a b → ¬ blk all.a b) (hl : lenC l ≤ 10000) (hsl : s.len ≤ 100000) {R : Bool → Heap → Prop} (hR : ∀ h', Nw h0 h' → R true h') : endC tr R s all h := by
  unfold endC
  have slen := hs.len
  rw [List.length_map] at slen
  have e3 : (⟨#[48, 13, 10]⟩ : ByteArray).size = 3 := rfl
  have e10 : (⟨#[120, 45, 115, 117, 109, 58, 32, 49, 13, 10]⟩ : ByteArray).size = 10 := rfl
  refine hs.appB (new := zeroL) hn (bytesV_bl _) rfl (by rw [e3]; omega) ?_
  intro o60 c61 h62 w62 n62 k62 f62 _
  refine withJ.intro (fun (s63 : Sl) h65 => Own h0 h65 1 s63 ((textC up tr l).map byteV) ∧ Nw h0 h65 ∧ Own h0 h65 1 all ((allC l).map byteV) ∧ s63.len ≤ 100100 ∧ (∀ b, blk s63.a b → ¬ blk all.a b)) ?_ ?_
  · rintro s63 h65 ⟨w63, n65, a65, l63, d63⟩
    refine w63.pushB (new := [13, 10]) n65 rfl rfl rfl (by omega) ?_
    intro o68 c69 h70 w70 n70 k70 f70 old70
    have a70 : Own h0 h70 1 all ((allC l).map byteV) := a65.keep k70 (fun b hb hb2 => d63 b hb2 hb)
    refine parse_all (x0 := ⟨o68, s63.len + 2, c69⟩) w70.rv (by show s63.len + 2 ≤ _; omega) (hg.nw n70) ?_
    intro x h73 st1 k73
    refine lay9_spec (t := 29) ?_
    intro h84 r84 k84
    have k70_84 := k73.trans' k84
    refine parse_all (x0 := s63) (Rv.keep0 old70 k70_84) (by omega) (hg.nw (n70.trans' k70_84)) ?_
    intro y h86 st2 k86
    refine lay9_spec (t := 29) ?_
    intro h97 r97 k97
    have k84_97 := k86.trans' k97
    have N97 := (n70.trans' k70_84).trans' k84_97
    have R84 := k84_97.row r84 (fun h => h)
    obtain ⟨a, b, rfl, sm, o1, o2, _⟩ := st1.ok (textC_ok up tr l (by omega))
    rw [st2.more (textC_more up tr l (by omega))] at r97
    simp only [add_mk]
    unfold row9 at R84 r97
    have tl := w63.len
    rw [List.length_map, Nat.mul_one] at tl
    refine withJ.intro (fun (q : Bool) h' => q = true ∧ Nw h0 h') (by rintro q h' ⟨rfl, k⟩; exact hR h' k) ?_
    intro J hJ
    refine ldI_row (o := 0) R84 rfl (cnd_t rfl ?_)
    refine ldI_row (o := 0 + 1) R84 rfl (cnd_t ?_ ?_)
    · rw [w64_id (by omega) (by omega)]
      show (((((textC up tr l).length + 2 : Nat)) : Int) == (s63.len : Int) + 2) = true
      rw [tl]
      simp
    refine ldL_row (o := 0 + 2 + 3) R84 rfl ?_
    refine Rb.str (bs := allC l) ((o2.nw (k84.trans' k84_97)).rv) ?_
    have a97 : Rb h97 all.a all.len (allC l) := ((a70.nw k70_84).nw k84_97).rv
    refine Rb.str a97 ?_
    refine cnd_t (seq_self _) ?_
    refine ldL_row (o := 0 + 2 + 2) R84 rfl (cnd_t ?_ ?_)
    · have h1 := (SlR.hds o1.sl).1
      show ((a.len : Int) == 2) = true
      have h2 : a.len = 2 := h1
      rw [h2]; rfl
    refine ldI_row (o := 0) r97 rfl (cnd_t rfl ?_)
    exact awake_spec (hg.nw N97) (fun h2 k2 => hJ _ _ ⟨rfl, N97.trans' k2⟩)
  · intro J hJ
    have a62 : Own h0 h62 1 all ((allC l).map byteV) := ha.keep k62 (fun b hb hb2 => hd b hb2 hb)
    have d62 : ∀ b, blk o60 b → ¬ blk all.a b := fun b hb hb2 => by
      rcases f62 b hb with hh | hh
      · exact hd b hh hb2
      · have := ha.lt hb2; omega
    have hlen3 : s.len + (⟨#[48, 13, 10]⟩ : ByteArray).size = s.len + 3 := by rw [e3]
    cases tr with
    | false =>
      refine cnd_f rfl (hJ _ _ ⟨?_, n62, a62, by show s.len + _ ≤ _; rw [e3]; omega, d62⟩)
      have e : textC up false l = headC ++ encC up 0 l ++ zeroL := by unfold textC trL; simp
      rw [e]
      exact w62
    | true =>
      refine cnd_t rfl ?_
      refine w62.appB (new := trL true) n62 (bytesV_bl _) rfl (by show s.len + _ + _ ≤ _; rw [e3, e10]; omega) ?_
      intro o110 c111 h112 w112 n112 k112 f112 _
      refine hJ _ _ ⟨w112, n112, a62.keep k112 (fun b hb hb2 => d62 b hb2 hb), by show s.len + _ + _ ≤ _; rw [e3, e10]; omega, fun b hb hb2 => ?_⟩
      rcases f112 b hb with hh | hh
      · exact d62 b hh hb2
      · have := a62.lt hb2; omega

theorem tdiv_nat (n m : Nat) : ((n : Nat) : Int).tdiv ((m : Nat) : Int) = ((n / m : Nat) : Int) := (Int.ofNat_tdiv n m).symm
theorem tmod_nat (n m : Nat) : ((n : Nat) : Int).tmod ((m : Nat) : Int) = ((n % m : Nat) : Int) := (Int.ofNat_tmod n m).symm
theorem lenC_le : ∀ l : List (List UInt8), lenC l ≤ 300 * l.length
  | [] => by simp [lenC]
  | c :: r => by
    have := lenC_le r
    unfold lenC
    split
    · rename_i h
      unfold okC at h
      simp only [Bool.and_eq_true, decide_eq_true_eq] at h
      simp; omega
    · simp; omega
theorem lenC_snoc : ∀ (l : List (List UInt8)) (c : List UInt8), lenC (l ++ [c]) = lenC l + (if okC c then c.length else 0)
  | [], c => by simp [lenC]
  | d :: r, c => by
    show lenC (d :: (r ++ [c])) = _
    unfold lenC
    rw [lenC_snoc r c]; omega
theorem encC_len (up : Bool) : ∀ (l : List (List UInt8)) (i : Nat), (encC up i l).length ≤ 311 * l.length
  | [], i => by simp [encC]
  | c :: r, i => by
    have := encC_len up r (i + 1)
    unfold encC
    rw [List.length_append, List.length_cons]
    split
    · rename_i h
      unfold okC at h
      simp only [Bool.and_eq_true, decide_eq_true_eq] at h
      have : (chunkL up (decide (i % 2 = 1)) c).length ≤ 311 := by
        unfold chunkL hexL3 extL
        split <;> simp <;> omega
      omega
    · simp; omega

theorem httpChunks_spec {h : Heap} {x0 : Sl} {up tr : Bool} (hg : MaxG h) (hx : BlsAt h x0.a x0.len) {R : Bool → Heap → Prop} (hR : ∀ h', Nw h h' → R true h') :
    CallT Try.prog 4 [.slice x0.a x0.len x0.cap, .bool up, .bool tr] h [.sc .bool] R := by
  have hcall := law16_HttpChunks_call (x_0 := x0) (x_1 := up) (x_2 := tr) (R := R) (h := h)
  apply hcall
  unfold law16_HttpChunks
  refine lit_row ?_
  intro h3 s3 r3 k3
  have own0 : Own h h3 1 ⟨some ⟨h.size, 0, none⟩, 58, 58⟩ (headC.map byteV) := ⟨.inr ⟨h.size, 0, _, rfl, r3, Nat.le_refl _, by simp, by simp [headC], rfl⟩, fun b hb => by rw [blk_some] at hb; simp only at hb; omega⟩
  refine withJ.intro (fun (d : ByteArray) h' => h' = h3 ∧ d = digT up) ?_ ?_
  · rintro d h' ⟨e1, rfl⟩
    have e1' := e1.symm
    subst e1'
    refine LoopT.intro (fun (t : Sl × Sl × Int) h' => 0 ≤ t.2.2 ∧ t.2.2 ≤ 20 ∧ Own h h' 1 t.1 ((headC ++ encC up 0 (blsOf h x0.a t.2.2.toNat)).map byteV) ∧ Own h h' 1 t.2.1 ((allC (blsOf h x0.a t.2.2.toNat)).map byteV) ∧ (∀ b, blk t.1.a b → ¬ blk t.2.1.a b) ∧ Nw h h') (fun t _ => (20 - t.2.2).toNat) ⟨by simp, by simp, by simpa [blsOf, encC] using own0, Own.nil _ _ _, fun b hb hb2 => (by obtain ⟨x, e, _⟩ := hb2; cases e), k3⟩ ?_
    rintro ⟨s, al, i⟩ h9 ⟨p1, p2, w1, w2, d12, N9⟩
    replace p1 : 0 ≤ i := p1
    replace p2 : i ≤ 20 := p2
    replace w1 : Own h h9 1 s ((headC ++ encC up 0 (blsOf h x0.a i.toNat)).map byteV) := w1
    replace w2 : Own h h9 1 al ((allC (blsOf h x0.a i.toNat)).map byteV) := w2
    replace d12 : ∀ b, blk s.a b → ¬ blk al.a b := d12
    have hLl : (blsOf h x0.a i.toNat).length = i.toNat := by unfold blsOf; simp
    have hlc := lenC_le (blsOf h x0.a i.toNat)
    have hel := encC_len up (blsOf h x0.a i.toNat) 0
    rw [hLl] at hlc hel
    have sl := w1.len
    rw [List.length_map, List.length_append, Nat.mul_one, show headC.length = 58 from rfl] at sl
    have all_ := w2.len
    rw [List.length_map, allC_len, Nat.mul_one] at all_
    have fin : endC tr R s al h9 := endC_spec hg N9 w1 w2 d12 (by omega) (by omega) hR
    refine withJ.intro (fun (y : Int × Bool) h' => h' = h9 ∧ i < x0.len ∧ i < 20) ?_ ?_
    · rintro y h' ⟨e1, c1, c2⟩
      have e1' := e1.symm
      subst e1'
      obtain ⟨x, a', l', c', e0, ec, rb⟩ := hx i.toNat (by omega)
      have hbl : blOf h x0.a i.toNat = bytesAt h a' l' := by
        unfold blOf
        rw [e0]
        simp only [ec]
      have hsn : blsOf h x0.a (i.toNat + 1) = blsOf h x0.a i.toNat ++ [bytesAt h a' l'] := by
        unfold blsOf
        rw [List.range_succ, List.map_append, List.map_cons, List.map_nil, hbl]
      have cl := rb.len
      generalize bytesAt h a' l' = c at rb hsn cl
      refine withJ.intro (fun (y : Sl × Sl) h' => Own h h' 1 y.1 ((headC ++ encC up 0 (blsOf h x0.a (i.toNat + 1))).map byteV) ∧ Own h h' 1 y.2 ((allC (blsOf h x0.a (i.toNat + 1))).map byteV) ∧ (∀ b, blk y.1.a b → ¬ blk y.2.a b) ∧ Nw h h') ?_ ?_
      · rintro ⟨s', al'⟩ h' ⟨q1, q2, q3, q4⟩
        show (0 ≤ w64 (i + 1) ∧ w64 (i + 1) ≤ 20 ∧ Own h h' 1 s' ((headC ++ encC up 0 (blsOf h x0.a (w64 (i + 1)).toNat)).map byteV) ∧ Own h h' 1 al' ((allC (blsOf h x0.a (w64 (i + 1)).toNat)).map byteV) ∧ (∀ b, blk s'.a b → ¬ blk al'.a b) ∧ Nw h h') ∧ (20 - w64 (i + 1)).toNat < (20 - i).toNat
        rw [w64_id (by omega) (by omega), show (i + 1).toNat = i.toNat + 1 by omega]
        exact ⟨⟨by omega, by omega, q1, q2, q3, q4⟩, by omega⟩
      · intro J14 hJ14
        rw [hsn, encC_snoc, allC_snoc, hLl, Nat.zero_add] at hJ14
        have cellK : ∀ {h'}, Nw h h' → cellH h' (x.add (i.toNat * 1)) = some (.slice a' l' c') := fun k => k.cell ec (fun h => h)
        refine ⟨x, e0, p1, c1, ?_⟩
        refine ldL_at (cellK N9) ?_
        have skip : okC c = false → J14 (s, al) h9 := fun hc => hJ14 _ _ ⟨by rw [hc]; simpa using w1, by rw [hc]; simpa using w2, d12, N9⟩
        refine withJ.intro (fun (y : Int × Bool) h' => h' = h9 ∧ okC c = true) ?_ ?_
        · rintro y h' ⟨e1, hc⟩
          have e1' := e1.symm
          subst e1'
          rw [hc] at hJ14
          simp only [if_true] at hJ14
          have hc2 := hc
          unfold okC at hc2
          simp only [Bool.and_eq_true, decide_eq_true_eq] at hc2
          have t256 := tdiv_nat l' 256
          have t16 := tdiv_nat l' 16
          have m16 := tmod_nat l' 16
          have mm := tmod_nat (l' / 16) 16
          replace t256 : ((l' : Nat) : Int).tdiv 256 = ((l' / 256 : Nat) : Int) := t256
          replace t16 : ((l' : Nat) : Int).tdiv 16 = ((l' / 16 : Nat) : Int) := t16
          replace m16 : ((l' : Nat) : Int).tmod 16 = ((l' % 16 : Nat) : Int) := m16
          replace mm : ((l' / 16 : Nat) : Int).tmod 16 = ((l' / 16 % 16 : Nat) : Int) := mm
          rw [t256, t16, w64_id (by omega) (by omega), w64_id (by omega) (by omega), mm, m16]
          refine sidx_at (dgt_get up (n := l' / 256) (by omega)) ?_
          refine sidx_at (dgt_get up (n := l' / 16 % 16) (by omega)) ?_
          refine sidx_at (dgt_get up (n := l' % 16) (by omega)) ?_
          have slen : s.len ≤ 10000 := by omega
          refine w1.pushB (new := hexL3 up c.length) N9 (by rw [← cl]; rfl) rfl rfl (by omega) ?_
          intro o26 c27 h28 v1 n28 k28 f28 _
          have al28 : Own h h28 1 al _ := w2.keep k28 (fun b hb hb2 => d12 b hb2 hb)
          have d28 : ∀ b, blk o26 b → ¬ blk al.a b := fun b hb hb2 => by
            rcases f28 b hb with hh | hh
            · exact d12 b hh hb2
            · have := w2.lt hb2; omega
          have e4 : (⟨#[59, 120, 61, 121]⟩ : ByteArray).size = 4 := rfl
          refine withJ.intro (fun (s30 : Sl) h32 => Own h h32 1 s30 ((headC ++ encC up 0 (blsOf h x0.a i.toNat) ++ hexL3 up c.length ++ extL (decide (i.toNat % 2 = 1))).map byteV) ∧ Nw h h32 ∧ Own h h32 1 al ((allC (blsOf h x0.a i.toNat)).map byteV) ∧ (∀ b, blk s30.a b → ¬ blk al.a b) ∧ s30.len ≤ 10100) ?_ ?_
          · rintro s30 h32 ⟨v2, n32, al32, d32, l30⟩
            refine v2.pushB (new := [13, 10]) n32 rfl rfl rfl (by omega) ?_
            intro o35 c36 h37 v3 n37 k37 f37 _
            refine ⟨x, e0, p1, c1, ?_⟩
            refine ldL_at (cellK n37) ?_
            refine Rv.rd (Rv.keep0 rb n37) ?_
            refine v3.appB (new := c) n37 rfl cl (by show s30.len + 2 + l' ≤ _; omega) ?_
            intro o41 c42 h43 v4 n43 k43 f43 _
            refine v4.pushB (new := [13, 10]) n43 rfl rfl rfl (by show s30.len + 2 + l' + 2 ≤ _; omega) ?_
            intro o47 c48 h49 v5 n49 k49 f49 _
            have al49 : Own h h49 1 al _ := ((al32.keep k37 (fun b hb hb2 => d32 b hb2 hb)).keep k43 (fun b hb hb2 => by
              rcases f37 b hb2 with hh | hh
              · exact d32 b hh hb
              · have := al32.lt hb; omega)).keep k49 (fun b hb hb2 => by
              rcases f43 b hb2 with hh | hh
              · rcases f37 b hh with h2 | h2
                · exact d32 b h2 hb
                · have := al32.lt hb; omega
              · have := al32.lt hb; have := k37.size; omega)
            have d49 : ∀ b, blk o47 b → ¬ blk al.a b := fun b hb hb2 => by
              have hlt := al32.lt hb2
              have z1 := k37.size
              have z2 := k43.size
              rcases f49 b hb with hh | hh
              · rcases f43 b hh with h2 | h2
                · rcases f37 b h2 with h3 | h3
                  · exact d32 b h3 hb2
                  · omega
                · omega
              · omega
            refine ⟨x, e0, p1, c1, ?_⟩
            refine ldL_at (cellK n49) ?_
            refine Rv.rd (Rv.keep0 rb n49) ?_
            refine al49.appB (new := c) n49 rfl cl (by omega) ?_
            intro o53 c54 h55 v6 n55 k55 f55 _
            refine hJ14 _ _ ⟨?_, ?_, fun b hb hb2 => ?_, n55⟩
            · have : headC ++ (encC up 0 (blsOf h x0.a i.toNat) ++ chunkL up (decide (i.toNat % 2 = 1)) c) = headC ++ encC up 0 (blsOf h x0.a i.toNat) ++ hexL3 up c.length ++ extL (decide (i.toNat % 2 = 1)) ++ [13, 10] ++ c ++ [13, 10] := by unfold chunkL; simp
              rw [this]
              exact v5.keep k55 (fun b hb hb2 => d49 b hb hb2)
            · exact v6
            · rcases f55 b hb2 with hh | hh
              · exact d49 b hb hh
              · have := v5.lt hb; omega
          · intro J31 hJ31
            have hm2 : (i.tmod 2 == 1) = decide (i.toNat % 2 = 1) := by
              obtain ⟨n, rfl⟩ : ∃ n : Nat, i = (n : Int) := ⟨i.toNat, by omega⟩
              have := tmod_nat n 2
              replace this : ((n : Nat) : Int).tmod 2 = ((n % 2 : Nat) : Int) := this
              rw [this, Bool.eq_iff_iff, beq_iff_eq, decide_eq_true_eq, Int.toNat_natCast]
              omega
            show cnd (i.tmod 2 == 1) _ _
            rw [hm2]
            refine cnd_of (fun e => ?_) (fun e => ?_)
            · rw [e] at hJ31
              refine v1.appB (new := [59, 120, 61, 121]) n28 (bytesV_bl _) rfl (by show s.len + 3 + _ ≤ _; rw [e4]; omega) ?_
              intro o57 c58 h59 v2 n59 k59 f59 _
              refine hJ31 _ _ ⟨v2, n59, al28.keep k59 (fun b hb hb2 => d28 b hb2 hb), fun b hb hb2 => ?_, by show s.len + 3 + _ ≤ _; rw [e4]; omega⟩
              rcases f59 b hb with hh | hh
              · exact d28 b hh hb2
              · have := al28.lt hb2; omega
            · rw [e] at hJ31
              refine hJ31 _ _ ⟨?_, n28, al28, d28, by show s.len + 3 ≤ _; omega⟩
              show Own h h28 1 _ ((_ ++ []).map byteV)
              rw [List.append_nil]
              exact v1
        · intro J19 hJ19
          refine cnd_of (fun e => skip ?_) (fun e => ?_)
          · have : l' = 0 := by have := eq_of_beq e; omega
            unfold okC
            rw [decide_eq_false (show ¬ 1 ≤ c.length by omega)]; rfl
          · have h0 : l' ≠ 0 := fun e2 => by subst e2; simp at e
            refine cnd_dec (fun e2 => skip ?_) (fun e2 => hJ19 _ _ ⟨rfl, ?_⟩)
            · unfold okC
              rw [decide_eq_false (show ¬ c.length ≤ 300 by omega)]; simp
            · unfold okC
              rw [decide_eq_true (show 1 ≤ c.length by omega), decide_eq_true (show c.length ≤ 300 by omega)]; rfl
    · intro J11 hJ11
      refine cnd_dec (fun c1 => ?_) (fun _ => fin)
      exact cnd_dec (fun c2 => hJ11 _ _ ⟨rfl, c1, c2⟩) (fun _ => fin)
  · intro J hJ
    exact cnd_of (fun e => hJ _ _ ⟨rfl, by subst e; rfl⟩) (fun e => hJ _ _ ⟨rfl, by subst e; rfl⟩)
end Go.Proofs.Ytjpmjhnjdnbopaa
