/- The program's reader: sizes of chunks, bodies in chunks. -/
import Derived.Test.YtjpmjhnjdnbopaaPParseA
namespace Go.Proofs.Ytjpmjhnjdnbopaa
open Go D
set_option linter.unusedVariables false
set_option linter.unusedSimpArgs false

def hexD : ByteArray := ⟨#[48, 49, 50, 51, 52, 53, 54, 55, 56, 57, 97, 98, 99, 100, 101, 102]⟩
set_option maxRecDepth 100000 in
theorem hx_all : ∀ n : Fin 256, (if ixB hexD (orI .u8 (((UInt8.ofNat n.val).toNat : Nat) : Int) 32) < 0 ∨ (UInt8.ofNat n.val).toNat < 48 then none else some (ixB hexD (orI .u8 (((UInt8.ofNat n.val).toNat : Nat) : Int) 32)).toNat) = hvx (UInt8.ofNat n.val) := by decide +kernel
theorem hx_is (b : UInt8) : (if ixB hexD (orI .u8 ((b.toNat : Nat) : Int) 32) < 0 ∨ b.toNat < 48 then none else some (ixB hexD (orI .u8 ((b.toNat : Nat) : Int) 32)).toNat) = hvx b := by
  have := hx_all ⟨b.toNat, b.toNat_lt⟩
  simpa using this
theorem hvx_lt {b : UInt8} {d : Nat} (h : hvx b = some d) : d < 16 := by
  unfold hvx at h
  split at h
  · injection h with h; omega
  · split at h
    · injection h with h; omega
    · split at h
      · injection h with h; omega
      · cases h
theorem or_shift {x d : Nat} (hx : x < 2 ^ 32) (hd : d < 16) : orI .i64 (shlI .i64 (x : Int) 4) (d : Int) = ((16 * x + d : Nat) : Int) := by
  have e : shlI .i64 (x : Int) 4 = ((x * 16 : Nat) : Int) := by
    unfold shlI
    have : (2 : Int) ^ min (4 : Int).toNat IntKind.i64.bits = 16 := by decide
    rw [this]
    have e2 : (2 : Nat) ^ 32 = 4294967296 := by decide
    rw [show IntKind.i64.wrap ((x : Int) * 16) = w64 ((x : Int) * 16) from rfl, w64_id (by omega) (by omega)]
    omega
  rw [e]
  unfold orI
  rw [BitVec.toNat_or]
  simp only [IntKind.bits]
  have e2 : (2 : Nat) ^ 32 = 4294967296 := by decide
  have e3 : (2 : Nat) ^ 64 = 18446744073709551616 := by decide
  rw [ofInt_nat (by omega), ofInt_nat (by omega)]
  have key : x * 16 ||| d = x * 16 + d := by
    have := Nat.shiftLeft_add_eq_or_of_lt (i := 4) (b := d) (by omega) x
    rw [Nat.shiftLeft_eq] at this
    exact this.symm
  rw [key, Nat.mul_comm x 16]
  exact w64_id (by omega) (by omega)
theorem cutAt_f {c : UInt8} : ∀ {s : List UInt8}, (cutAt c s).2.2 = false → (cutAt c s).2.1 = []
  | [], _ => rfl
  | a :: r, h => by
    unfold cutAt at h ⊢
    split at h
    · cases h
    · rename_i h1
      rw [if_neg h1]
      exact cutAt_f h

theorem size_spec {h : Heap} {s : ByteArray} (hs : s.size ≤ 1000000000) {R : Int × Bool → Heap → Prop} (hsome : ∀ m : Nat, sizeF (bl s) = some m → m < 4294967296 → R ((m : Int), true) h) (hnone : sizeF (bl s) = none → R (0, false) h) : CallT Try.prog http_size_no [.string s] h [.sc (.int .i64), .sc .bool] R := by
  apply http_size_call
  unfold http_size
  refine cut_spec (c := 59) rfl hs ?_
  have cl := cutAt_len 59 (bl s)
  have cf := @cutAt_f 59 (bl s)
  have hdf : sizeF (bl s) = if decide ((cutAt 59 (bl s)).1.length < 1) || (decide (8 < (cutAt 59 (bl s)).1.length) || !valueL (cutAt 59 (bl s)).2.1) then none else hexF 0 (cutAt 59 (bl s)).1 := rfl
  have hl := bl_len s
  generalize cutAt 59 (bl s) = cv at *
  obtain ⟨a, b, c⟩ := cv
  simp only at cl cf hdf ⊢
  have sa := ofL_size a
  have sb := ofL_size b
  refine withJ.intro (fun _ h' => h' = h ∧ a.length ≤ 8 ∧ sizeF (bl s) = hexF 0 a) ?_ ?_
  · rintro _ h' ⟨rfl, ha, e⟩
    rw [e] at hsome hnone
    refine LoopT.intro (fun (t : Int × Int) h2 => h2 = h' ∧ 0 ≤ t.2 ∧ t.2 ≤ a.length ∧ ∃ acc : Nat, t.1 = (acc : Int) ∧ acc < 16 ^ t.2.toNat ∧ hexF acc (a.drop t.2.toNat) = hexF 0 a) (fun t _ => (a.length - t.2).toNat) ⟨rfl, by simp, by simp, 0, rfl, by simp, by simp⟩ ?_
    rintro ⟨n, i⟩ h2 ⟨rfl, p1, p2, acc, p3, p4, p5⟩
    replace p1 : 0 ≤ i := p1
    replace p2 : i ≤ a.length := p2
    replace p3 : n = (acc : Int) := p3
    replace p4 : acc < 16 ^ i.toNat := p4
    replace p5 : hexF acc (a.drop i.toNat) = hexF 0 a := p5
    subst p3
    have v1 : 16 ^ i.toNat ≤ 16 ^ 8 := Nat.pow_le_pow_right (by omega) (by omega)
    have v2 : (16 : Nat) ^ 8 = 4294967296 := by decide
    show cnd (decide (i < ((ofL a).size : Int))) _ _
    rw [sa]
    refine cnd_dec (fun hi => ?_) (fun hi => ?_)
    · have hil : i.toNat < a.length := by omega
      have hg : a[i.toNat]? = some a[i.toNat] := List.getElem?_eq_getElem hil
      rw [List.drop_eq_getElem_cons hil] at p5
      generalize a[i.toNat] = x at hg p5
      have hga : (bl (ofL a))[i.toNat]? = some x := by rw [bl_ofL]; exact hg
      have hx := hx_is x
      have p5' : (match hvx x with | some d => hexF (16 * acc + d) (a.drop (i.toNat + 1)) | none => none) = hexF 0 a := p5
      refine withJ.intro (fun (m : Int) h3 => h3 = h2 ∧ ∃ d, hvx x = some d ∧ m = ((16 * acc + d : Nat) : Int)) ?_ ?_
      · rintro m h3 ⟨rfl, d, hd, rfl⟩
        rw [hd] at p5'
        have hdl := hvx_lt hd
        show (h3 = h3 ∧ 0 ≤ w64 (i + 1) ∧ w64 (i + 1) ≤ a.length ∧ ∃ a' : Nat, ((16 * acc + d : Nat) : Int) = (a' : Int) ∧ a' < 16 ^ (w64 (i + 1)).toNat ∧ hexF a' (a.drop (w64 (i + 1)).toNat) = hexF 0 a) ∧ (a.length - w64 (i + 1)).toNat < (a.length - i).toNat
        rw [w64_id (x := i + 1) (by omega) (by omega), show (i + 1).toNat = i.toNat + 1 by omega]
        exact ⟨⟨rfl, by omega, by omega, _, rfl, by rw [Nat.pow_succ]; omega, p5'⟩, by omega⟩
      · intro J hJ
        refine sidx_i p1 hga ?_
        refine indexByteH_spec ?_
        rw [show (⟨#[48, 49, 50, 51, 52, 53, 54, 55, 56, 57, 97, 98, 99, 100, 101, 102]⟩ : ByteArray) = hexD from rfl]
        generalize ixB hexD (orI .u8 ((x.toNat : Nat) : Int) 32) = r13 at hx
        refine withJ.intro (fun _ h3 => h3 = h2 ∧ ¬ (r13 < 0 ∨ x.toNat < 48)) ?_ ?_
        · rintro _ h3 ⟨rfl, hb⟩
          rw [if_neg hb] at hx
          have hdl := hvx_lt hx.symm
          refine hJ _ _ ⟨rfl, _, hx.symm, ?_⟩
          have v3 : 16 ^ i.toNat ≤ 16 ^ 7 := Nat.pow_le_pow_right (by omega) (by omega)
          have v4 : (16 : Nat) ^ 7 = 268435456 := by decide
          have := or_shift (x := acc) (d := r13.toNat) (by have e2 : (2 : Nat) ^ 32 = 4294967296 := by decide
                                                           omega) hdl
          rw [show ((r13.toNat : Nat) : Int) = r13 by omega] at this
          exact this
        · intro J2 hJ2
          refine withJ.intro (fun (q : Bool) h3 => h3 = h2 ∧ q = decide (r13 < 0 ∨ x.toNat < 48)) ?_ ?_
          · rintro q h3 ⟨rfl, rfl⟩
            refine cnd_dec (fun hb => ?_) (fun hb => hJ2 _ _ ⟨rfl, hb⟩)
            rw [if_pos hb] at hx
            rw [← hx] at p5'
            exact hnone p5'.symm
          · intro J3 hJ3
            refine cnd_dec (fun h1 => hJ3 _ _ ⟨rfl, (decide_eq_true (by omega)).symm⟩) (fun h1 => ?_)
            refine sidx_i p1 hga (hJ3 _ _ ⟨rfl, ?_⟩)
            rw [Bool.eq_iff_iff, decide_eq_true_eq, decide_eq_true_eq]
            omega
    · rw [List.drop_eq_nil_of_le (by omega)] at p5
      exact hsome acc p5.symm (by omega)
  · intro J hJ
    refine withJ.intro (fun (q : Bool) h' => h' = h ∧ q = (decide (a.length < 1) || (decide (8 < a.length) || !valueL b))) ?_ ?_
    · rintro q h' ⟨rfl, hq⟩
      rw [← hq] at hdf
      refine cnd_of (fun e => ?_) (fun e => ?_)
      · rw [e, if_pos rfl] at hdf
        exact hnone hdf
      · rw [e, if_neg (by simp)] at hdf
        rw [e] at hq
        refine hJ _ _ ⟨rfl, ?_, hdf⟩
        have : decide (8 < a.length) = false := by
          cases hh : decide (8 < a.length) with
          | false => rfl
          | true => rw [hh] at hq; simp at hq
        have := of_decide_eq_false this
        omega
    · intro J2 hJ2
      rw [sa]
      refine cnd_dec (fun h1 => hJ2 _ _ ⟨rfl, ?_⟩) (fun h1 => ?_)
      · rw [decide_eq_true (show a.length < 1 by omega)]; rfl
      · refine cnd_dec (fun h2 => hJ2 _ _ ⟨rfl, ?_⟩) (fun h2 => ?_)
        · rw [decide_eq_false (show ¬ a.length < 1 by omega), decide_eq_true (show 8 < a.length by omega)]; rfl
        · rw [decide_eq_false (show ¬ 8 < a.length by omega)] at hJ2
          refine cnd_of (fun h3 => ?_) (fun h3 => ?_)
          · refine value_spec (by omega) (hJ2 _ _ ⟨rfl, ?_⟩)
            rw [bl_ofL, decide_eq_false (show ¬ a.length < 1 by omega)]
            rfl
          · refine hJ2 _ _ ⟨rfl, ?_⟩
            rw [cf h3, decide_eq_false (show ¬ a.length < 1 by omega)]
            rfl

/-! ### bodies in chunks -/
def addB (off : Nat) : Except Int (List UInt8 × Nat) → Except Int (List UInt8 × Nat)
  | .ok (b, c) => .ok (b, off + c)
  | .error e => .error e
theorem addB_add (x y : Nat) (r : Except Int (List UInt8 × Nat)) : addB x (match r with | .ok (b, c) => .ok (b, y + c) | .error e => .error e) = addB (x + y) r := by
  cases r with
  | ok v => obtain ⟨b, c⟩ := v; simp [addB]; omega
  | error e => rfl
theorem piecesF_line {rest body : List UInt8} {hd k : Nat} {e : Int} (h : lineF 256 308 rest = .error e) : piecesF rest body hd k = .error e := by
  rw [piecesF, h]
theorem piecesF_size {rest body l : List UInt8} {hd k n : Nat} (h : lineF 256 308 rest = .ok (l, n)) (h2 : sizeF l = none) : piecesF rest body hd k = .error 308 := by
  rw [piecesF, h]; simp only [h2]
theorem piecesF_big {rest body l : List UInt8} {hd k n m : Nat} (h : lineF 256 308 rest = .ok (l, n)) (h2 : sizeF l = some m) (h3 : 1048576 < body.length + m) : piecesF rest body hd k = .error 324 := by
  rw [piecesF, h]; simp only [h2]; rw [if_pos h3]
theorem piecesF_last {rest body l : List UInt8} {hd k n : Nat} (h : lineF 256 308 rest = .ok (l, n)) (h2 : sizeF l = some 0) (h3 : ¬ 1048576 < body.length) : piecesF rest body hd k = match headersF k (rest.drop n) hd with
        | .error e => .error e
        | .ok (_, c, _) => .ok (body, n + c) := by
  rw [piecesF, h]; simp only [h2]; rw [if_neg (by omega), if_pos trivial]
  rfl
theorem piecesF_end {rest body l : List UInt8} {hd k n m : Nat} (h : lineF 256 308 rest = .ok (l, n)) (h2 : sizeF l = some m) (h3 : ¬ 1048576 < body.length + m) (h4 : m ≠ 0) (h5 : badEnd (rest.drop n) m = true) : piecesF rest body hd k = .error 308 := by
  rw [piecesF, h]; simp only [h2]; rw [if_neg h3, if_neg h4, if_pos h5]
theorem piecesF_more {rest body l : List UInt8} {hd k n m : Nat} (h : lineF 256 308 rest = .ok (l, n)) (h2 : sizeF l = some m) (h3 : ¬ 1048576 < body.length + m) (h4 : m ≠ 0) (h5 : badEnd (rest.drop n) m = false) (h6 : rest.length < n + m + 2) : piecesF rest body hd k = .error 0 := by
  rw [piecesF, h]; simp only [h2]; rw [if_neg h3, if_neg h4, if_neg (by simp [h5]), dif_pos h6]
theorem piecesF_step {rest body l : List UInt8} {hd k n m : Nat} (h : lineF 256 308 rest = .ok (l, n)) (h2 : sizeF l = some m) (h3 : ¬ 1048576 < body.length + m) (h4 : m ≠ 0) (h5 : badEnd (rest.drop n) m = false) (h6 : ¬ rest.length < n + m + 2) :
    piecesF rest body hd k = match piecesF (rest.drop (n + m + 2)) (body ++ (rest.drop n).take m) hd k with
        | .ok (b, c) => .ok (b, n + m + 2 + c)
        | .error e => .error e := by
  rw [piecesF, h]; simp only [h2]; rw [if_neg h3, if_neg h4, if_neg (by simp [h5]), dif_neg h6]
  rfl

structure PcI (h : Heap) (p : Nat) (s : ByteArray) (at0 lines chunks0 : Nat) (o : Sl) (b : List UInt8) (at_ chunks : Nat) (h' : Heap) : Prop where
  own : Own h h' 1 o (b.map byteV)
  row : Row h' p (rdRow s at_ lines chunks 0)
  a1 : at0 ≤ at_
  a2 : at_ ≤ s.size
  c1 : at_ - chunks = at0 - chunks0
  c2 : chunks ≤ at_
  l2 : b.length ≤ 1048576
  kp : Keep (· = p) h h'
  eq : addB (at_ - at0) (piecesF ((bl s).drop at_) b (at0 - chunks0) (100 - lines)) = piecesF ((bl s).drop at0) [] (at0 - chunks0) (100 - lines)

theorem pieces_spec {h : Heap} {p : Nat} {s : ByteArray} {at0 lines chunks0 : Nat} (r : Row h p (rdRow s at0 lines chunks0 0)) (hg : MaxG h) (hp : p ≠ 0) (hs : s.size ≤ 1000000000) (hat : at0 ≤ s.size) (hch : chunks0 ≤ at0) (hln : lines ≤ 100) {R : Sl × Bool → Heap → Prop}
    (hok : ∀ o b n h', piecesF ((bl s).drop at0) [] (at0 - chunks0) (100 - lines) = .ok (b, n) → Own h h' 1 o (b.map byteV) → (∃ l c : Nat, Row h' p (rdRow s (at0 + n) l c 0)) → Keep (· = p) h h' → R (o, true) h')
    (hno : ∀ o f h', piecesF ((bl s).drop at0) [] (at0 - chunks0) (100 - lines) = .error f → Stop h' p s f → Keep (· = p) h h' → R (o, false) h') :
    CallT Try.prog http_reader_pieces_no [.pointer (some ⟨p, 0, none⟩)] h [.sc .sl, .sc .bool] R := by
  apply http_reader_pieces_call
  simp only [http_reader_pieces, nn_eq, add_mk]
  have hl := bl_len s
  have hplt := r.lt
  refine LoopT.intro (fun (o : Sl) h' => ∃ b at_ chunks, PcI h p s at0 lines chunks0 o b at_ chunks h') (fun o _ => 1048577 - o.len) ⟨[], at0, chunks0, Own.nil _ _ _, r, Nat.le_refl _, hat, rfl, hch, by simp, .refl _ _, ?_⟩ ?_
  · rw [Nat.sub_self]
    cases piecesF ((bl s).drop at0) [] (at0 - chunks0) (100 - lines) with
    | ok x => obtain ⟨b, n⟩ := x; simp [addB]
    | error e => rfl
  rintro o h2 ⟨b, at_, chunks, own, row, a1, a2, c1, c2, l2, kp, eq⟩
  have row' := row
  unfold rdRow at row'
  refine ldI_row (o := 0 + 1) row' rfl ?_
  have olen := own.len
  rw [List.length_map, Nat.mul_one] at olen
  have hrl : ((bl s).drop at_).length = s.size - at_ := by rw [List.length_drop]; omega
  have hdrop : ∀ i, ((bl s).drop at_).drop i = (bl s).drop (at_ + i) := fun i => by rw [List.drop_drop]
  have ownK : ∀ {h3}, Keep (· = p) h2 h3 → Own h h3 1 o (b.map byteV) := fun k => own.keep k (fun x hx e => by have := own.fresh x hx; have e' : x = p := e; omega)
  have flt : ∀ (f : Int) o' h3, piecesF ((bl s).drop at_) b (at0 - chunks0) (100 - lines) = .error f → Stop h3 p s f → Keep (· = p) h2 h3 → R (o', false) h3 := fun f o' h3 e st k => by
    rw [e] at eq
    exact hno o' f h3 eq.symm st (kp.trans' k)
  refine line_spec (bound := 256) row (hg.kp hp kp) hp hs a2 (by omega) ?_ ?_
  rotate_left
  · intro f h3 e st k3
    exact cnd_t rfl (flt f _ h3 (piecesF_line e) st k3)
  intro l n h3 eL r3 k3
  refine cnd_f rfl ?_
  obtain ⟨i, hi1, hi2, hi3, hi4, hi5, hi6⟩ := lineF_ok eL
  have ll : l.length ≤ 256 := by rw [hi2, List.length_take]; omega
  have sl := ofL_size l
  have r3' := r3
  unfold rdRow at r3'
  have st3 : ∀ (f : Int), piecesF ((bl s).drop at_) b (at0 - chunks0) (100 - lines) = .error f → ∀ o', stC ⟨p, 0 + 4, none⟩ (.int .i64 f) h3 fun h11 => R (o', false) h11 := fun f e o' => by
    refine stC_row r3' (by simp) rfl ?_
    intro h4 s4 r4 k4
    exact flt f o' h4 e ⟨_, _, _, r4⟩ (k3.trans' k4)
  refine size_spec (s := ofL l) (by omega) ?_ ?_
  rotate_left
  · intro e
    rw [bl_ofL] at e
    exact cnd_t rfl (st3 308 (piecesF_size eL e) _)
  intro m em hm
  rw [bl_ofL] at em
  refine cnd_f rfl ?_
  rw [w64_id (x := 1048576 - (o.len : Int)) (by omega) (by omega)]
  refine cnd_dec (fun hb => ?_) (fun hb => ?_)
  · exact st3 324 (piecesF_big eL em (by omega)) _
  have hbig : ¬ 1048576 < b.length + m := by omega
  have stepC : ∀ (x : Nat), w64 ((chunks : Int) + w64 (((at_ + x : Nat) : Int) - (at_ : Int))) = ((chunks + x : Nat) : Int) → True := fun _ _ => trivial
  refine cnd_of (fun h0 => ?_) (fun h0 => ?_)
  · have hm0 : m = 0 := by have := eq_of_beq h0; omega
    subst hm0
    have e0 := piecesF_last (hd := at0 - chunks0) (k := 100 - lines) eL em (by omega)
    refine ldI_row (o := 0 + 3) r3' rfl (ldI_row (o := 0 + 1) r3' rfl ?_)
    refine stC_row r3' (by simp) rfl ?_
    intro h4 s4 r4 k4
    have r4' : Row h4 p (rdRow s (at_ + n) lines (chunks + n) 0) := by
      have e1 : w64 ((chunks : Int) + w64 (((at_ + n : Nat) : Int) - (at_ : Int))) = ((chunks + n : Nat) : Int) := by
        rw [w64_id (x := ((at_ + n : Nat) : Int) - (at_ : Int)) (by omega) (by omega), w64_id (by omega) (by omega)]; omega
      rw [e1] at r4
      exact r4
    have K4 := k3.trans' k4
    have eh : headersF (100 - lines) ((bl s).drop (at_ + n)) (at_ + n - (chunks + n)) = headersF (100 - lines) (((bl s).drop at_).drop n) (at0 - chunks0) := by
      rw [hdrop, show at_ + n - (chunks + n) = at0 - chunks0 by omega]
    refine headers_spec r4' ((hg.kp hp kp).kp hp K4) hp hs (by omega) (by omega) hln ?_ ?_
    · intro o' l' n' k' h5 e5 ow5 r5 k5
      rw [eh] at e5
      rw [e5] at e0
      rw [e0] at eq
      refine hok o b (at_ - at0 + (n + n')) h5 eq.symm (ownK (K4.trans' k5)) ⟨100 - k', chunks + n, ?_⟩ (kp.trans' (K4.trans' k5))
      have : at0 + (at_ - at0 + (n + n')) = at_ + n + n' := by omega
      rw [this]
      exact r5
    · intro f h5 e5 st k5
      rw [eh] at e5
      rw [e5] at e0
      exact flt f _ h5 e0 st (K4.trans' k5)
  · have hm0 : m ≠ 0 := fun e => by subst e; simp at h0
    refine ldS_row (o := 0) r3' rfl (ldI_row (o := 0 + 1) r3' rfl ?_)
    refine rest_ssl (by omega) ?_
    rw [← hdrop]
    have hr2 : (((bl s).drop at_).drop n).length = s.size - (at_ + n) := by rw [List.length_drop, hrl]; omega
    have e308 := fun (h5 : badEnd (((bl s).drop at_).drop n) m = true) => piecesF_end (hd := at0 - chunks0) (k := 100 - lines) eL em hbig hm0 h5
    have emore := fun (h5 : badEnd (((bl s).drop at_).drop n) m = false) (h6 : ((bl s).drop at_).length < n + m + 2) => piecesF_more (hd := at0 - chunks0) (k := 100 - lines) eL em hbig hm0 h5 h6
    have estep := fun (h5 : badEnd (((bl s).drop at_).drop n) m = false) (h6 : ¬ ((bl s).drop at_).length < n + m + 2) => piecesF_step (hd := at0 - chunks0) (k := 100 - lines) eL em hbig hm0 h5 h6
    have hdrop2 := hdrop (n + m + 2)
    generalize hrest : ((bl s).drop at_).drop n = rest at *
    have sr := ofL_size rest
    refine withJ.intro (fun (o' : Sl) h' => o' = o ∧ h' = h3 ∧ badEnd rest m = false) ?_ ?_
    · rintro o' h' ⟨rfl, rfl, hbe⟩
      rw [sr, w64_id (x := (m : Int) + 2) (by omega) (by omega)]
      refine cnd_dec (fun hlt => ?_) (fun hge => ?_)
      · exact flt 0 _ h' (emore hbe (by omega)) ⟨_, _, _, r3⟩ k3
      · have es := estep hbe (by omega)
        refine pre_ssl (by omega) ?_
        have st := ofL_size (rest.take m)
        rw [List.length_take, Nat.min_eq_left (by omega)] at st
        rw [st]
        have own3 := ownK k3
        refine own3.app (new := bytesV (ofL (rest.take m))) (m := m) (kp.trans' k3) rfl (by rw [bytesV_length, st, Nat.mul_one]) (bytesV_one _) (by omega) ?_
        intro a' c' h4 q1 q2 q3 q4
        rw [ofL_bytes, ← List.map_append] at q1
        have r4 : Row h4 p (rdRow s (at_ + n) lines chunks 0) := q3.row r3 (fun hb => by have := own3.fresh p hb; omega)
        unfold rdRow at r4
        refine ldI_row (o := 0 + 1) r4 rfl ?_
        rw [w64_id (by omega) (by omega)]
        refine stC_row r4 (by simp) rfl ?_
        intro h5 s5 r5 k5
        refine ldI_row (o := 0 + 3) r5 rfl (ldI_row (o := 0 + 1) r5 rfl ?_)
        refine stC_row r5 (by simp) rfl ?_
        intro h6 s6 r6 k6
        have K56 := k5.trans' k6
        show (∃ b at_ chunks, PcI h p s at0 lines chunks0 ⟨a', o'.len + m, c'⟩ b at_ chunks h6) ∧ 1048577 - (o'.len + m) < 1048577 - o'.len
        refine ⟨⟨b ++ rest.take m, at_ + (n + m + 2), chunks + (n + m + 2), ?_, ?_, by omega, by omega, by omega, by omega, by rw [List.length_append, List.length_take]; omega, q2.trans' K56, ?_⟩, by omega⟩
        · exact q1.keep K56 (fun x hx e => by have := q1.fresh x hx; have e' : x = p := e; omega)
        · have e1 : (((at_ + n : Nat) : Int) + ((m : Int) + 2)) = ((at_ + (n + m + 2) : Nat) : Int) := by omega
          have e2 : w64 ((chunks : Int) + w64 ((((at_ + n : Nat) : Int) + ((m : Int) + 2)) - (at_ : Int))) = ((chunks + (n + m + 2) : Nat) : Int) := by
            rw [w64_id (x := (((at_ + n : Nat) : Int) + ((m : Int) + 2)) - (at_ : Int)) (by omega) (by omega), w64_id (by omega) (by omega)]; omega
          unfold rdRow
          rw [← e1, ← e2]
          exact r6
        · rw [← eq, es, addB_add, hdrop2, show at_ + (n + m + 2) - at0 = at_ - at0 + (n + m + 2) by omega]
    · intro J hJ
      refine withJ.intro (fun (q : Bool) h' => h' = h3 ∧ q = badEnd rest m) ?_ ?_
      · rintro q h' ⟨rfl, hq⟩
        refine cnd_of (fun e => st3 308 (e308 (by rw [← hq, e])) _) (fun e => hJ _ _ ⟨rfl, rfl, by rw [← hq, e]⟩)
      · intro J2 hJ2
        rw [sr, w64_id (x := (m : Int) + 1) (by omega) (by omega)]
        have second : ∀ (x : Bool), (x = false → badEnd rest m = (decide (m + 1 < rest.length) && !decide (rest[m + 1]? = some 10))) → x = false →
            cnd (decide ((rest.length : Int) > (m : Int) + 1)) (sidx (ofL rest) ((m : Int) + 1) fun u50 => J2 ((u50.toNat : Int) != 10) h3) (J2 false h3) := by
          intro x hx hx2
          have hb := hx hx2
          refine cnd_dec (fun h1 => ?_) (fun h1 => hJ2 _ _ ⟨rfl, ?_⟩)
          · have hlt : m + 1 < rest.length := by omega
            refine sidx_i (b := rest[m + 1]) (by omega) (by rw [bl_ofL, show ((m : Int) + 1).toNat = m + 1 by omega]; exact List.getElem?_eq_getElem hlt) (hJ2 _ _ ⟨rfl, ?_⟩)
            rw [hb, decide_eq_true hlt, List.getElem?_eq_getElem hlt]
            have := beq_c rest[m + 1] 10 (by decide)
            rw [bne, show ((rest[m + 1].toNat : Int) == 10) = (rest[m + 1] == 10) from this]
            rw [Bool.eq_iff_iff]; simp
          · rw [hb, decide_eq_false (show ¬ m + 1 < rest.length by omega)]; rfl
        refine cnd_dec (fun h1 => ?_) (fun h1 => second false (fun _ => ?_) rfl)
        · have hlt : m < rest.length := by omega
          have hg : rest[m]? = some rest[m] := List.getElem?_eq_getElem hlt
          refine sidx_at (i := m) (b := rest[m]) (by rw [bl_ofL]; exact hg) ?_
          have hbq := beq_c rest[m] 13 (by decide)
          rw [bne, show ((rest[m].toNat : Int) == 13) = (rest[m] == 13) from hbq]
          refine cnd_of (fun e => hJ2 _ _ ⟨rfl, ?_⟩) (fun e => second false (fun _ => ?_) rfl)
          · unfold badEnd
            rw [decide_eq_true hlt, hg]
            have : rest[m] ≠ 13 := by simpa using e
            simp [this]
          · unfold badEnd
            have : rest[m] = 13 := by simpa using e
            rw [hg, this]
            simp
        · unfold badEnd
          rw [decide_eq_false (show ¬ m < rest.length by omega)]
          rfl
end Go.Proofs.Ytjpmjhnjdnbopaa
