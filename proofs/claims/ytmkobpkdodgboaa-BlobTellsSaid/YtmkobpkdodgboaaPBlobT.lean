/- BlobTells. -/
import Derived.Test.YtmkobpkdodgboaaPBlobR
import Derived.Test.YtmkobpkdodgboaaPBurst
namespace Go.Proofs.Ytmkobpkdodgboaa
open Go D
set_option linter.unusedVariables false
set_option linter.unusedSimpArgs false

namespace Blob
open Disk Enc Hash Snap Alloc

theorem crcBit_inj {x y : W} (h : crcBit x = crcBit y) : x = y := by
  have e : crcBit (x ^^^ y) = 0#32 := by rw [crcBit_xor, h, BitVec.xor_self]
  have := crcBit_inj0 e
  exact BitVec.xor_eq_zero_iff.1 this
theorem iter8_inj : ∀ (n : Nat) {x y : W}, iter8 crcBit n x = iter8 crcBit n y → x = y := by
  intro n x y h
  rw [iter8_itT, iter8_itT] at h
  have e : itT n (x ^^^ y) = 0#32 := by rw [itT_xor, h, BitVec.xor_self]
  exact BitVec.xor_eq_zero_iff.1 (itT_inj0 n e)
theorem crcByte_injc {c d : W} {b : UInt8} (h : crcByte c b = crcByte d b) : c = d := by
  have := iter8_inj 8 h
  have e := congrArg (· ^^^ ub b) this
  simpa [BitVec.xor_assoc] using e
theorem crcByte_injb {c : W} {a b : UInt8} (h : crcByte c a = crcByte c b) : a = b := by
  have := iter8_inj 8 h
  have e := congrArg (c ^^^ ·) this
  simp only [← BitVec.xor_assoc, BitVec.xor_self, BitVec.zero_xor] at e
  have e2 := congrArg BitVec.toNat e
  unfold ub at e2
  rw [BitVec.toNat_ofNat, BitVec.toNat_ofNat] at e2
  have ha := a.toNat_lt
  have hb := b.toNat_lt
  exact UInt8.toNat_inj.1 (by omega)
theorem crcFold_inj : ∀ (ds : List UInt8) {c d : W}, ds.foldl crcByte c = ds.foldl crcByte d → c = d
  | [], _, _, h => h
  | x :: ds, _, _, h => crcByte_injc (crcFold_inj ds h)
/-- one byte that is changed changes the sum -/
theorem crcF_set {ds : List UInt8} {k : Nat} (hk : k < ds.length) {y : UInt8} (h : crcF (ds.set k y) = crcF ds) : y = ds[k] := by
  have e1 : ds = ds.take k ++ ds[k] :: ds.drop (k + 1) := by rw [List.getElem_cons_drop, List.take_append_drop]
  have e2 : ds.set k y = ds.take k ++ y :: ds.drop (k + 1) := List.set_eq_take_append_cons_drop .. |>.trans (by rw [if_pos hk])
  unfold crcF at h
  have h' := congrArg (fun x : W => ~~~x) h
  simp only [BitVec.not_not] at h'
  rw [e2] at h'
  conv at h' => rhs; rw [e1]
  rw [List.foldl_append, List.foldl_append, List.foldl_cons, List.foldl_cons] at h'
  exact crcByte_injb (crcFold_inj _ h')


theorem be4W_inj {x y : W} (h : be4W x = be4W y) : x = y := by
  unfold be4W at h
  simp only [List.cons.injEq, and_true] at h
  obtain ⟨h1, h2, h3, h4⟩ := h
  have val : ∀ (z : W) (k : Nat), (lowb (z >>> k)).toNat = z.toNat / 2 ^ k % 256 := fun z k => by
    unfold lowb
    rw [UInt8.toNat_ofNat', BitVec.toNat_ushiftRight, Nat.shiftRight_eq_div_pow]
  have val0 : ∀ (z : W), (lowb z).toNat = z.toNat % 256 := fun z => by
    unfold lowb
    rw [UInt8.toNat_ofNat']
  have e1 := congrArg UInt8.toNat h1
  have e2 := congrArg UInt8.toNat h2
  have e3 := congrArg UInt8.toNat h3
  have e4 := congrArg UInt8.toNat h4
  rw [val, val] at e1 e2 e3
  rw [val0, val0] at e4
  have hx := x.isLt
  have hy := y.isLt
  apply BitVec.eq_of_toNat_eq
  omega

/-- a sector of which one byte was changed is not one -/
theorem sect_bad {ds : List UInt8} (hl : ds.length ≤ 252) {k : Nat} (hk : k < 256) {y : UInt8} (hy : (sectL ds)[k]? ≠ some y) : sectL (((sectL ds).set k y).drop 4) ≠ (sectL ds).set k y := by
  have hlen := sectL_length hl
  have pl := padL_length hl
  have hset : ((sectL ds).set k y)[k]? = some y := by rw [List.getElem?_set_self (by omega)]
  intro h
  by_cases h4 : k < 4
  · have e : ((sectL ds).set k y).drop 4 = (sectL ds).drop 4 := by rw [List.drop_set_of_lt h4]
    rw [e, sectL_ok hl] at h
    rw [← h] at hset
    exact hy hset
  · have e : ((sectL ds).set k y).drop 4 = (padL ds).set (k - 4) y := by
      rw [List.drop_set, if_neg h4, sectL_drop]
    have ht : ((sectL ds).set k y).take 4 = be4W (crcF (padL ds)) := by
      rw [List.take_set_of_le (by omega)]
      unfold sectL
      exact List.take_left' rfl
    rw [e] at h
    have h2 := congrArg (List.take 4) h
    rw [ht] at h2
    have h3 : (sectL ((padL ds).set (k - 4) y)).take 4 = be4W (crcF (padL ((padL ds).set (k - 4) y))) := by
      unfold sectL
      exact List.take_left' rfl
    rw [h3] at h2
    have h5 := be4W_inj h2
    have e6 : padL ((padL ds).set (k - 4) y) = (padL ds).set (k - 4) y := by
      show (padL ds).set (k - 4) y ++ List.replicate (252 - ((padL ds).set (k - 4) y).length) 0 = _
      rw [List.length_set, pl]
      simp
    rw [e6] at h5
    have h7 := crcF_set (by rw [pl]; omega) h5
    apply hy
    have e8 : (sectL ds)[k]? = (padL ds)[k - 4]? := by
      have := sectL_drop ds
      rw [← this, List.getElem?_drop]
      congr 1
      omega
    rw [e8, List.getElem?_eq_getElem (by rw [pl]; omega), h7]

theorem readF_bad {m : M} {P : Int} {off n : Nat} : ∀ (d u : Nat) (acc : List UInt8) (v : Nat), u ≤ v → v < u + d → sectL ((readAt m (P + (v : Int))).data.toList.drop 4) ≠ (readAt m (P + (v : Int))).data.toList → readF m P off n d u acc = none
  | 0, u, acc, v, h1, h2, _ => by omega
  | d + 1, u, acc, v, h1, h2, h3 => by
    unfold readF
    by_cases hu : u = v
    · subst hu
      rw [if_neg h3]
    · split
      · exact readF_bad d (u + 1) _ v (by omega) (by omega) h3
      · rfl

/-- a sector is read -/
theorem BSt.dread {h0 h : Heap} {p q s w : Nat} {m : M} {fr : Int} {bits : List Bool} {Q : Nat → Prop} (t : BSt h0 h p q s w m fr bits Q) {i : Int} (h1 : 0 ≤ i) (h2 : i < m.l.length) (hl : m.l.length ≤ 4096) {R : Sl × Int → Heap → Prop}
    (hk : ∀ b h', h.size ≤ b → Bs h' (some ⟨b, 0, none⟩) 256 256 (readAt m i) → BSt h0 h' p q s w m fr bits (fun x => Q x ∨ x = b) → Keep (fun _ => False) h h' → R (⟨some ⟨b, 0, none⟩, 256, 256⟩, 0) h') :
    CallT Try.prog disk_Dev_Read_no [.pointer (some ⟨p, 0, none⟩), .int .i64 i] h [.sc .sl, .sc (.int .i64)] R := by
  have t0 := t
  obtain ⟨mu, im, rp, o, a', g1, g2, k, ⟨g7, g9, g10, g11, g12⟩, g8⟩ := t
  have rd0 : readErr m i = 0 := by unfold readErr; rw [if_neg (by omega), if_neg (by omega)]
  refine Disk.read_spec rp (by omega) (by unfold InI; omega) (fun e => absurd rd0 e) (fun _ b h' b1 b2 bs r' k' => ?_)
  refine hk b h' b1 bs (t0.own k' (fun _ hh => hh.elim) (fun x hx => ?_)) k'
  rcases hx with hx | hx
  · have := (g8 x hx).2
    have := k'.size
    exact ⟨.inl hx, by omega⟩
  · exact ⟨.inr (by omega), by omega⟩
/-- a sector is written, and waits -/
theorem BSt.dwrite {h0 h : Heap} {p q s w : Nat} {m : M} {fr : Int} {bits : List Bool} {Q : Nat → Prop} (t : BSt h0 h p q s w m fr bits Q) (hc : m.c = []) {i : Int} (h1 : 0 ≤ i) (h2 : i < m.l.length) (hl : m.l.length ≤ 4096) {a : Option Addr} {l c : Nat} {z : ByteArray} (hb : Bs h a l c z) (hz : z.size = 256) (hfar : ∀ b, blk a b → Q b) {R : Int → Heap → Prop}
    (hk : ∀ h', BSt h0 h' p q s w { m with c := [(i, z)] } fr bits Q → Keep (fun b => h0.size ≤ b ∧ ¬ Q b) h h' → R 0 h') :
    CallT Try.prog disk_Dev_Write_no [.pointer (some ⟨p, 0, none⟩), .int .i64 i, .slice a l c] h [.sc (.int .i64)] R := by
  obtain ⟨mu, im, rp, o, a', g1, ⟨g2, g3, g4, g5, g6⟩, k, ⟨g7, g9, g10, g11, g12⟩, g8⟩ := t
  have e := write_alive g7 h1 h2 hz
  rw [hc, List.nil_append] at e
  refine Disk.write_spec rp (by unfold InI; omega) hb (by omega) (by omega) (fun b hb' hm => (g1 b (.inl hm)).2.1 (hfar b hb')) ?_
  intro mu' im' h' r' k' gr
  rw [e] at r' ⊢
  have z1 := k'.size
  have z0 := k.size
  have lq := o.lt
  have la := a'.lt
  refine hk h' ⟨mu', im', r', k'.row o (fun hm => (g1 q (.inl hm)).2.2.1 rfl), a'.keep k' (fun hm => (g1 s (.inl hm)).2.2.2.1 rfl) (fun hm => (g1 w (.inl hm)).2.2.2.2 rfl), fun b hb' => ?_, ⟨g2, g3, g4, g5, g6⟩, k.trans k' (fun y _ hy => (g1 y (.inl hy)).1), ⟨g7, by show 1 ≤ 10; omega, fun x hx => ?_, g11, g12⟩, fun b hb' => ⟨(g8 b hb').1, by have := (g8 b hb').2; omega⟩⟩ (k'.mono (fun y _ hy => ⟨(g1 y (.inl hy)).1, (g1 y (.inl hy)).2.1⟩))
  · have far : (mu b ∨ im b) ∨ h.size ≤ b := by
      rcases hb' with hb' | hb'
      · rcases gr.1 b hb' with hh | hh
        · exact .inl (.inl hh)
        · exact .inr hh
      · rcases gr.2 b hb' with hh | hh
        · exact .inl (.inr hh)
        · exact .inr hh
    rcases far with hh | hh
    · exact g1 b hh
    · exact ⟨by omega, fun hq => by have := (g8 b hq).2; omega, by omega, by omega, by omega⟩
  · have hx' : x = (i, z) := by simpa using hx
    rw [hx']
    exact h1

def xbT (b : UInt8) (k : Nat) : UInt8 := UInt8.ofNat (b.toNat ^^^ k)
theorem xbT_val (b : UInt8) {k : Nat} (hk : k < 256) : Value.int .u8 (xorI .u8 (b.toNat : Int) (k : Int)) = byteV (xbT b k) := by
  unfold byteV xbT xorI
  have hb := b.toNat_lt
  rw [BitVec.toNat_xor]
  simp only [IntKind.bits]
  rw [ofInt_nat (by omega), ofInt_nat (by omega), wrap_u8]
  have h3 : b.toNat ^^^ k < 2 ^ 8 := Nat.xor_lt_two_pow (by omega) (by omega)
  rw [UInt8.toNat_ofNat']
  congr 1
theorem xbT_ne {b : UInt8} {k : Nat} (hk : k < 256) (h0 : k ≠ 0) : xbT b k ≠ b := fun h => by
  have e := congrArg UInt8.toNat h
  unfold xbT at e
  have hb := b.toNat_lt
  have h3 : b.toNat ^^^ k < 2 ^ 8 := Nat.xor_lt_two_pow (by omega) (by omega)
  rw [UInt8.toNat_ofNat', Nat.mod_eq_of_lt h3] at e
  have e2 := congrArg (b.toNat ^^^ ·) e
  simp only [← Nat.xor_assoc, Nat.xor_self, Nat.zero_xor] at e2
  exact h0 e2

set_option maxRecDepth 100000 in
theorem blobTells_spec {h : Heap} {x0 : Sl} {at_ x2 : Int} (hb : Rb h x0.a x0.len (bytesAt h x0.a x0.len)) (hcap : x0.len ≤ x0.cap) (hat : InI at_) (hx : 0 ≤ x2 ∧ x2 ≤ 255) {R : Bool → Heap → Prop} (hR : ∀ h', Keep (fun _ => False) h h' → R true h') :
    CallT Try.prog law11_BlobTells_no [.slice x0.a x0.len x0.cap, .int .i64 at_, .int .u8 x2] h [.sc .bool] R := by
  apply law11_BlobTells_call
  simp only [law11_BlobTells]
  refine withJ.inl (withJ.inl ?_)
  have aw : CallT Try.prog law11_awake_no [] h [.sc .bool] fun (r57 : Bool) h58 => R r57 h58 := awake_spec fun h2 k2 => hR h2 k2
  refine cnd_of (fun _ => cnd_t rfl aw) (fun hl0 => ?_)
  refine cnd_of (fun _ => cnd_t rfl aw) (fun hl1 => ?_)
  have hl0' : 0 < x0.len := by
    have : ¬ (x0.len : Int) = 0 := by simpa using hl0
    omega
  have hl1' : x0.len ≤ 3000 := by
    have : ¬ ((x0.len : Int) > 3000) := by simpa using hl1
    omega
  refine cnd_of (fun _ => aw) (fun hx0 => ?_)
  have hx0' : ¬ x2 = 0 := by simpa using hx0
  refine BSt.new (sz := 20) (fr := 2) (n := 16) (by decide) (by decide) (by decide) ?_
  intro p q s w h1 t
  refine withJ.inl (withJ.inl ?_)
  refine cnd_f rfl (cnd_f rfl ?_)
  obtain ⟨ds, hds⟩ : ∃ ds, ds = bytesAt h x0.a x0.len := ⟨_, rfl⟩
  rw [← hds] at hb
  have hdl := hb.len
  obtain ⟨L, hL⟩ : ∃ L, L = x0.len := ⟨_, rfl⟩
  have hn : nsec x0.len = (x0.len + 251) / 252 := rfl
  obtain ⟨N, hN⟩ : ∃ N, N = nsec x0.len := ⟨_, rfl⟩
  have hb1 : Rb h1 x0.a x0.len ds := Rv.keep hb t.kp (fun hl b hb' hh => by
    have := Rv.lt hb hl hb'
    have hh' : h.size ≤ b := hh
    omega)
  refine t.writeW (by decide) hb1 hcap (by omega) (fun hl b hb' => .inl (Rv.lt hb hl hb')) (fun hfull => absurd hfull (by omega)) (fun hok h3 m3 ml mc mr t3 k3 => ?_)
  rw [← hN] at mr t3
  have er : refOf 0 x0.len = (0, (x0.len : Int)) := by unfold refOf; rw [if_neg (by omega)]; rfl
  rw [er]
  refine newB_row ?_
  intro h4 s4 o4 k4
  rw [add_mk]
  refine stC_row o4 (by simp) rfl ?_
  intro h5 s5 o5 k5
  refine stC_row o5 (by simp) rfl ?_
  intro h6 s6 o6 k6
  have o6' : Row h6 h3.size [.int .i64 0, .int .i64 (x0.len : Int)] := o6
  have k36 : Keep (fun _ => False) h3 h6 := k4.trans (k5.trans' k6) (fun y hy hh => by
    have hh' : y = h3.size := hh
    omega)
  have t6 := t3.own (Q' := (· = h3.size)) k36 (fun _ hh _ => hh.elim) (fun b hb => by
    have hb' : b = h3.size := hb
    have := o6'.lt
    omega)
  refine sectors_spec (by unfold InI; omega) ?_
  rw [nsecI_nat, ← hN]
  have eE : w64 (256 * (N : Int)) = ((256 * N : Nat) : Int) := by rw [w64_id (by omega) (by omega)]; omega
  refine withJ.inl (withJ.inl ?_)
  rw [eE]
  refine cnd_f rfl (cnd_neg (by omega) ?_)
  obtain ⟨E, hE⟩ : ∃ E : Nat, E = 256 * N := ⟨_, rfl⟩
  rw [← hE]
  refine ⟨by omega, by omega, ?_⟩
  obtain ⟨P, hP, hPE⟩ : ∃ P : Nat, (w64 (at_.tmod E + E)).tmod E = P ∧ P < E := by
    have e1 : -(E : Int) < at_.tmod E := by
      have := Int.lt_tmod_of_pos at_ (show (0 : Int) < E by omega)
      omega
    have e2 : at_.tmod E < E := Int.tmod_lt_of_pos _ (by omega)
    rw [w64_id (by omega) (by omega), Int.tmod_eq_emod_of_nonneg (by omega)]
    have e3 := Int.emod_nonneg (at_.tmod E + E) (show (E : Int) ≠ 0 by omega)
    have e4 := Int.emod_lt_of_pos (at_.tmod E + E) (show (0 : Int) < E by omega)
    exact ⟨((at_.tmod E + E) % E).toNat, by omega, by omega⟩
  rw [hP]
  obtain ⟨v, hv⟩ : ∃ v : Nat, v = P / 256 := ⟨_, rfl⟩
  obtain ⟨k, hk⟩ : ∃ k : Nat, k = P % 256 := ⟨_, rfl⟩
  have e1 : w64 ((P : Int).tdiv 256) = (v : Int) := by rw [Int.tdiv_eq_ediv_of_nonneg (by omega), w64_id (by omega) (by omega)]; omega
  have e2 : (P : Int).tmod 256 = (k : Int) := by rw [Int.tmod_eq_emod_of_nonneg (by omega)]; omega
  rw [e1, e2]
  refine ldI_row (o := 0) o6' rfl ?_
  have e3 : w64 (w64 (2 + 0) + (v : Int)) = 2 + v := by rw [w64_id (x := 2 + 0) (by omega) (by omega), w64_id (by omega) (by omega)]; omega
  rw [e3]
  have ml' : m3.l.length = 20 := by rw [ml]; simp
  have hsec : readAt m3 (2 + (v : Int)) = ofL (sectL (partD ds v)) := by
    rw [mr _ (by omega) (by simp; omega), if_pos (by omega)]
    congr 3
    omega
  refine t6.dread (by omega) (by omega) (by omega) ?_
  intro b h7 hbn bs7 t7 k7
  rw [hsec] at bs7
  have bl7 : Bl h7 (some ⟨b, 0, none⟩) 256 256 (sectL (partD ds v)) := by unfold Bl; rw [← ofL_bytes]; exact bs7
  have hpl := partD_length ds v
  have hsl := sectL_length hpl
  refine withJ.inl (withJ.inl ?_)
  refine cnd_f rfl (cnd_f rfl ?_)
  refine bl7.rb.at (i := (k : Int)) (by omega) (by show (k : Int) < ((256 : Nat) : Int); omega) ?_
  intro c hc
  rw [show ((k : Int)).toNat = k by omega] at hc ⊢
  refine idx_some (by omega) (by show (k : Int) < ((256 : Nat) : Int); omega) ?_
  obtain ⟨y2, rfl⟩ : ∃ y2 : Nat, x2 = (y2 : Int) := ⟨x2.toNat, by omega⟩
  rw [xbT_val c (by omega)]
  refine SlR.set (i := k * 1) bl7 (by omega) rfl ?_
  intro h8 s8 w8 k8
  rw [Nat.mul_one] at w8
  have bl8 : Bl h8 (some ⟨b, 0, none⟩) 256 256 ((sectL (partD ds v)).set k (xbT c y2)) := by
    unfold Bl
    rw [List.map_set]
    exact w8
  have t8 := t7.own (Q' := fun x => x = h3.size ∨ x = b) k8 (fun x hx _ => .inr hx) (fun x hx => by
    refine ⟨.inl hx, ?_⟩
    rcases hx with hx | hx
    · have := o6'.lt
      have := k7.size
      have := k8.size
      omega
    · subst hx
      exact SlR.blk_lt bl8 (blk_some.2 rfl))
  have hbne : b ≠ h3.size := fun e => by
    have := o6'.lt
    omega
  have o7 := k7.row o6' (fun h => h)
  have o8 := k8.row o7 (fun hh => by
    have hh' : h3.size = b := hh
    exact hbne hh'.symm)
  refine ldI_row (o := 0) o8 rfl ?_
  rw [e3]
  refine t8.dwrite (mc rfl) (by omega) (by omega) (by omega) bl8.bs (by rw [ofL_size, List.length_set, hsl]) (fun x hx => .inr (by rw [blk_some] at hx; exact hx.symm)) ?_
  intro h9 t9 k9
  refine cnd_f rfl ?_
  have o9 := k9.row o8 (fun hh => hh.2 (.inl rfl))
  refine ldI_row (o := 0) o9 rfl (ldI_row (o := 0 + 1) o9 rfl (ldI_row (o := 0 + 1) o9 rfl ?_))
  have e0 : 0 + N = N := Nat.zero_add N
  rw [e0] at t9
  have hbad : readF { m3 with c := [(2 + (v : Int), ofL ((sectL (partD ds v)).set k (xbT c y2)))] } (2 + 0) 0 x0.len (cntN 0 x0.len) (0 / 252) [] = none := by
    have ec : cntN 0 x0.len = N := by
      unfold cntN
      omega
    rw [ec]
    have er : readAt { m3 with c := [(2 + (v : Int), ofL ((sectL (partD ds v)).set k (xbT c y2)))] } (2 + 0 + (v : Int)) = ofL ((sectL (partD ds v)).set k (xbT c y2)) := by
      rw [readAt_lk, lk_one, if_pos (by show 2 + (v : Int) = 2 + 0 + (v : Int); omega)]
    refine readF_bad N (0 / 252) [] v (by omega) (by omega) ?_
    rw [er, data_ofL]
    refine sect_bad hpl (by omega) ?_
    rw [hc]
    intro e
    injection e with e
    exact xbT_ne (by omega) (by omega) e.symm
  refine t9.readAs (st := 0) (size := x0.len) (off := 0) (n := x0.len) t9.rows.1 t9.rows.2.1 rfl (.inl ⟨by show (0 : Int) < (x0.len : Int); omega, Int.le_refl 0, by
    show AllOf _ 0 (nsecI (x0.len : Int)) true
    rw [nsecI_nat, ← hN]
    exact win_taken (by omega) (by omega) (by omega) (by omega)⟩) (by omega) (by omega) (fun _ _ h10 k10 => ?_) (fun out hout => ?_)
  · refine withJ.inl ?_
    refine cnd_t rfl ?_
    exact awake_spec fun h11 k11 => hR h11 ((t9.out.trans' k10).trans' k11)
  · rw [if_neg (by omega), show ((2 : Nat) : Int) + 0 = 2 + 0 from rfl, hbad] at hout
    cases hout

end Blob
end Go.Proofs.Ytmkobpkdodgboaa
