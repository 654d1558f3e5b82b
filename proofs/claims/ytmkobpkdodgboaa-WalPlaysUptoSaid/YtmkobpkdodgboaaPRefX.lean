/- Contracts of the document's answer for layer 6: read, Open, Append. -/
import Derived.Test.YtmkobpkdodgboaaPRefW
namespace Go.Proofs.Ytmkobpkdodgboaa
open Go D
set_option linter.unusedVariables false
set_option linter.unusedSimpArgs false
namespace RefW
open Disk Enc Hash Snap Wal

theorem frameL_drop (e x : Nat) (pl : List UInt8) : (frameL e x pl).drop 24 = pl := by
  have e2 : frameL e x pl = (four pl.length ++ be4W (crcF (bodyL e x pl)) ++ (p64 e ++ p64 x)) ++ pl := by simp [frameL, bodyL]
  have l2 : (four pl.length ++ be4W (crcF (bodyL e x pl)) ++ (p64 e ++ p64 x)).length = 24 := by
    rw [List.length_append, List.length_append, four_length, List.length_append, p64_length, p64_length]; rfl
  rw [e2, List.drop_left' l2]
theorem frameF_take (e x : Nat) (pl : List UInt8) : (frameF e x pl).take 24 = (frameL e x pl).take 24 := by
  unfold frameF
  rw [List.take_append_of_le_length (by rw [frameL_length]; omega)]
/-- the whole frame, or its first 24 bytes -/
theorem cmp_eq {e x N : Nat} {pl r : List UInt8} (hp : pl = (r.drop 24).take N) (hr : 24 + N ≤ r.length) : decide (frameL e x pl = r.take (24 + N)) = decide ((frameF e x pl).take 24 = r.take 24) := by
  rw [Bool.eq_iff_iff, decide_eq_true_eq, decide_eq_true_eq, frameF_take]
  have h1 : frameL e x pl = (frameL e x pl).take 24 ++ pl := by
    conv => lhs; rw [← List.take_append_drop 24 (frameL e x pl)]
    rw [frameL_drop]
  have h2 : r.take (24 + N) = r.take 24 ++ pl := by rw [List.take_add, hp]
  constructor
  · intro h
    rw [h, List.take_take]
    congr 1
    omega
  · intro h
    rw [h1, h2, h]

theorem read_spec {mu : Nat → Prop} {h : Heap} {p q : Nat} {m : M} {L : Lg} (hr : Ref5.Rep h p mu m) (hc : m.c.length ≤ 1000000) (hz : ∀ i, (readAt m i).size = 256) (ho : Row h q (LRow p L)) (g0 : 0 ≤ L.fr) (g1 : 0 ≤ L.pos) (g2 : L.fr + L.n ≤ m.l.length) (hlt : L.pos < L.n) (he : L.ep < 18446744073709551616) (hx : L.nx < 18446744073709551616) {R : Sl × Int × Int → Heap → Prop}
    (hdead : m.st = 2 → ∀ h', Keep (fun _ => False) h h' → R (⟨none, 0, 0⟩, 0, 50) h')
    (hno : readM m L = none → m.st ≠ 2 → ∀ h', Keep (fun _ => False) h h' → R (⟨none, 0, 0⟩, 0, 0) h')
    (hyes : ∀ rs k, readM m L = some (rs, k) → m.st ≠ 2 → 1 ≤ k → L.pos + (k : Int) ≤ L.n → ∀ s h', Ts h' s.a s.len rs → (∀ b, blk s.a b → h.size ≤ b) → Keep (fun _ => False) h h' → R (s, (k : Int), 0) h') :
    CallT Try.prog ref6_Log_read_no [.pointer (some ⟨q, 0, none⟩)] h [.sc .sl, .sc (.int .i64), .sc (.int .i64)] R := by
  apply ref6_Log_read_call
  simp only [ref6_Log_read, nn_eq]
  rw [add_mk, add_mk, add_mk, add_mk, add_mk]
  have hle := hr.le
  refine ldP_row (o := 0) ho rfl (ldI_row (o := 0 + 1) ho rfl (ldI_row (o := 0 + 5) ho rfl ?_))
  obtain ⟨P, hP⟩ : ∃ P, P = L.fr + L.pos := ⟨_, rfl⟩
  have ew : w64 (L.fr + L.pos) = P := by rw [w64_id (by omega) (by omega)]; exact hP.symm
  rw [ew]
  by_cases hst : m.st = 2
  · have e : readErr m P = 50 := by unfold readErr; rw [if_pos hst]
    refine Ref5.read_spec hr hc (i := P) (fun _ => ?_) (fun e' => by rw [e] at e'; cases e')
    rw [e]
    exact cnd_t rfl (hdead hst h (.refl _ _))
  have rd0 : ∀ i : Int, 0 ≤ i → i < m.l.length → readErr m i = 0 := fun i a b => by unfold readErr; rw [if_neg hst, if_neg (by omega)]
  refine Ref5.read_spec hr hc (i := P) (fun e' => absurd (rd0 P (by omega) (by omega)) e') (fun _ => ?_)
  refine cnd_f rfl ?_
  dsimp only
  refine s2b_row (by rw [hz]; decide) ?_
  intro c1 h1 bs1 k1 s1
  rw [hz] at bs1 ⊢
  have hbl : Bl h1 (some ⟨h.size, 0, none⟩) 256 c1 (readAt m P).data.toList := bs1
  refine num_at hbl.rb (by omega) (fun b0 b1 b2 b3 eb => ?_)
  rw [num_add, ← eb]
  have eM : g64 ((readAt m P).data.toList.take 4) = many m L := by unfold many; rw [hP]
  rw [eM]
  obtain ⟨N, hN⟩ : ∃ N, N = many m L := ⟨_, rfl⟩
  have hN32 : N < 4294967296 := by
    rw [hN, ← eM]
    have hg := g64_lt ((readAt m P).data.toList.take 4)
    rw [List.length_take] at hg
    exact Nat.lt_of_lt_of_le hg (Nat.le_trans (Nat.pow_le_pow_right (by decide) (Nat.mul_le_mul (Nat.le_refl 8) (Nat.min_le_left 4 _))) (by decide))
  rw [← hN]
  have e24 : w64 (24 + (N : Int)) = 24 + (N : Int) := w64_id (by omega) (by omega)
  rw [e24]
  refine sectors_spec (by omega) ?_
  have ho1 := k1.row ho (fun h => h)
  refine ldI_row (o := 0 + 2) ho1 rfl (ldI_row (o := 0 + 5) ho1 rfl ?_)
  have e1 : w64 (L.n - L.pos) = L.n - L.pos := w64_id (by omega) (by omega)
  rw [e1]
  have hn : ¬ L.n ≤ L.pos := by omega
  refine cnd_dec (fun hov => ?_) (fun hov => ?_)
  · refine hno ?_ hst h1 k1
    unfold readM
    rw [if_neg hn, if_pos (by rw [← hN]; unfold secs at hov; omega)]
  replace hov : ¬ (secs N : Int) > L.n - L.pos := hov
  have hov' : ¬ (L.n - L.pos) * 256 - 24 < (N : Int) := by unfold secs at hov; omega
  have hsle := secs_le N
  have hsp := secs_pos N
  have rl := rdC_length hz P
  refine LoopT.intro (fun (t : Sl × Int) h' => 1 ≤ t.2 ∧ t.2 ≤ secs N ∧ t.1.len = 256 * t.2.toNat ∧ Bl h' t.1.a t.1.len t.1.cap (rdC m P t.2.toNat) ∧ (∀ y, blk t.1.a y → h.size ≤ y) ∧ Keep (fun _ => False) h h') (fun t _ => ((secs N : Nat) - t.2).toNat)
    ⟨by simp, by simp only; omega, by simp, ?_, fun y hy => ?_, k1⟩ ?_
  · show Bl h1 (some ⟨h.size, 0, none⟩) 256 c1 ([] ++ (readAt m (P + ((0 : Nat) : Int))).data.toList)
    rw [List.nil_append, show P + ((0 : Nat) : Int) = P by omega]
    exact hbl
  · rw [blk_some] at hy
    simp only at hy
    omega
  rintro ⟨s, i⟩ h2 ⟨p1, p2, p3, p4, p5, p6⟩
  replace p1 : 1 ≤ i := p1
  replace p2 : i ≤ secs N := p2
  replace p3 : s.len = 256 * i.toNat := p3
  replace p4 : Bl h2 s.a s.len s.cap (rdC m P i.toNat) := p4
  replace p5 : ∀ y, blk s.a y → h.size ≤ y := p5
  have ho2 := p6.row ho (fun h => h)
  have r2 := hr.keep p6 (fun _ _ h => h)
  have z6 := p6.size
  refine cnd_dec (fun hi => ?_) (fun hi => ?_)
  · replace hi : i < secs N := hi
    refine ldP_row (o := 0) ho2 rfl (ldI_row (o := 0 + 1) ho2 rfl (ldI_row (o := 0 + 5) ho2 rfl ?_))
    rw [ew]
    have ewi : w64 (P + i) = P + (i.toNat : Int) := by rw [w64_id (by omega) (by omega)]; omega
    show CallT Try.prog ref5_Dev_Read_no [.pointer (some ⟨p, 0, none⟩), .int .i64 (w64 (P + i))] h2 _ _
    rw [ewi]
    refine Ref5.read_spec r2 hc (i := P + (i.toNat : Int)) (fun e' => absurd (rd0 _ (by omega) (by omega)) e') (fun _ => ?_)
    refine cnd_f rfl ?_
    dsimp only
    refine p4.push (new := (readAt m (P + (i.toNat : Int))).data.toList) (by rw [hz]; omega) rfl (bytesV_eq _) ?_
    intro a4 c4 h4 v1 v2 v3
    have hw : w64 (i + 1) = i + 1 := w64_id (by omega) (by omega)
    rw [hz] at v1 ⊢
    rw [hw, show (i + 1).toNat = i.toNat + 1 by omega]
    refine ⟨⟨by omega, by omega, by omega, v1, fun y hy => ?_, p6.trans v2 (fun y hy hb => by have := p5 y hb; omega)⟩, by omega⟩
    rcases v3 y hy with hh | hh
    · exact p5 y hh
    · omega
  · replace hi : ¬ i < secs N := hi
    have hii : i.toNat = secs N := by omega
    rw [hii] at p3 p4
    have hcap := SlR.le p4
    refine p4.rb.sub (by omega) (by omega) (by omega) (by show 24 + (N : Int) ≤ (s.cap : Int); omega) (by omega) ?_
    intro a5 w5 wb5
    rw [show (24 + (N : Int) - 0).toNat = 24 + N by omega] at w5 ⊢
    rw [show ((s.cap : Int) - 0).toNat = s.cap by omega]
    have w5' : Rb h2 a5 (24 + N) ((rdC m P (secs N)).take (24 + N)) := w5
    refine ldI_row (o := 0 + 3) ho2 rfl (ldI_row (o := 0 + 4) ho2 rfl ?_)
    have hpay : (((rdC m P (secs N)).take (24 + N)).drop (24 : Int).toNat).take (((24 + N : Nat) : Int) - 24).toNat = payL m L := by
      unfold payL
      rw [← hN, ← hP, show (((24 + N : Nat) : Int) - 24).toNat = N by omega, show (24 : Int).toNat = 24 from rfl, List.drop_take, List.take_take]
      congr 1
      omega
    refine Rb.sub w5' (cap := s.cap) (lo := 24) (hi := ((24 + N : Nat) : Int)) (mx := ((s.cap : Nat) : Int)) (by omega) (by omega) (by omega) (by omega) (by omega) ?_
    intro a6 w6 wb6
    rw [hpay] at w6
    rw [show (((24 + N : Nat) : Int) - 24).toNat = N by omega] at w6 ⊢
    refine w5'.str ?_
    refine frame_spec he hx w6 (by unfold secs at hov; omega) ?_
    intro s7 h7 sl7 b7 n7 k7
    refine ⟨(show Rb h7 a5 (24 + N) _ from Rv.keep w5' k7 (fun _ _ _ h => h)).str rfl, ?_⟩
    refine b7.rb.str ?_
    rw [seq_ofL, cmp_eq (N := N) (by unfold payL; rw [← hN, ← hP]) (by rw [rl]; omega)]
    have eR : readM m L = if (frameF L.ep L.nx (payL m L)).take 24 = (rdC m P (secs N)).take 24 then (unpackL (payL m L)).map (fun rs => (rs, secs N)) else none := by
      unfold readM
      rw [if_neg hn, ← hN, ← hP, if_neg hov']
    have k07 := p6.trans' k7
    refine cnd_of (fun hne => ?_) (fun heq => ?_)
    · have hne' : ¬ (frameF L.ep L.nx (payL m L)).take 24 = (rdC m P (secs N)).take 24 := by simpa using hne
      exact hno (by rw [eR, if_neg hne']) hst h7 k07
    have heq' : (frameF L.ep L.nx (payL m L)).take 24 = (rdC m P (secs N)).take 24 := by simpa using heq
    rw [if_pos heq'] at eR
    have w57 : Rb h7 a5 (24 + N) _ := Rv.keep w5' k7 (fun _ _ _ h => h)
    refine Rb.sub w57 (cap := s.cap) (lo := 24) (hi := ((24 + N : Nat) : Int)) (mx := ((s.cap : Nat) : Int)) (by omega) (by omega) (by omega) (by omega) (by omega) ?_
    intro a8 w8 _
    rw [hpay] at w8
    rw [show (((24 + N : Nat) : Int) - 24).toNat = N by omega] at w8 ⊢
    rw [show ((s.cap : Int) - 24).toNat = s.cap - 24 by omega]
    refine RefW.unpack_spec w8 (by omega) (by unfold secs at hov; omega) (fun hu h8 k8 => ?_) (fun rs hu s8 h8 t8 n8 k8 => ?_)
    · exact cnd_t rfl (hno (by rw [eR, hu]; rfl) hst h8 (k07.trans' k8))
    · refine cnd_f rfl ?_
      have z07 := k07.size
      exact hyes rs (secs N) (by rw [eR, hu]; rfl) hst hsp (by omega) s8 h8 t8 (fun b hb => by have := n8 b hb; omega) (k07.trans' k8)

theorem open_spec {mu : Nat → Prop} {h : Heap} {p : Nat} {m : M} (hr : Ref5.Rep h p mu m) (hc : m.c.length ≤ 1000000) (hz : ∀ i, (readAt m i).size = 256) {fr n : Int} (hf : InI fr) (hn : InI n) {e : Nat} (he : e < 18446744073709551616) {R : (Option Addr) × Sl × Int → Heap → Prop}
    (hbad : ¬ okR m.l.length fr n → R (none, ⟨none, 0, 0⟩, 1) h)
    (hdead : okR m.l.length fr n → m.st = 2 → ∀ h', Keep (fun _ => False) h h' → R (none, ⟨none, 0, 0⟩, 50) h')
    (hk : okR m.l.length fr n → m.st ≠ 2 → ∀ q s h', h.size ≤ q → Row h' q (LRow p (openM m fr n e).1) → Fs h' (fun b => q < b) s.a s.len (openM m fr n e).2 → Keep (fun _ => False) h h' → R (some ⟨q, 0, none⟩, s, 0) h') :
    CallT Try.prog ref6_Open_no [.pointer (some ⟨p, 0, none⟩), .int .i64 fr, .int .i64 n, .int .u64 (e : Int)] h [.sc .ptr, .sc .sl, .sc (.int .i64)] R := by
  apply ref6_Open_call
  simp only [ref6_Open]
  have hle := hr.le
  refine fits_spec hr hf hn ?_
  unfold InI at hf hn
  by_cases hok : okR m.l.length fr n
  rotate_left
  · exact cnd_t (by simp [hok]) (hbad hok)
  refine cnd_f (by simp [hok]) ?_
  replace hdead := hdead hok
  replace hk := hk hok
  obtain ⟨g1, g2, g3, g4⟩ := hok
  refine newB_row ?_
  intro h5 s5 o5 k5
  obtain ⟨q, hq⟩ : ∃ q, q = h.size := ⟨_, rfl⟩
  rw [← hq] at o5 ⊢
  refine withJ.inl ?_
  refine LoopT.intro (fun (s : Sl) h' => ∃ (L : Lg) (fs : List (List ByteArray)) (f : Nat) (vs : List Value), openM m fr n e = openF m f L fs ∧ n - L.pos < f ∧ 0 ≤ L.pos ∧ L.pos ≤ n ∧ L.fr = fr ∧ L.n = n ∧ L.ep = e ∧ (L.nx : Int) ≤ L.pos ∧ Row h' q (LRow p L) ∧ SlR h' 1 s.a s.len s.cap vs ∧ (s.len : Int) ≤ L.pos ∧ (∀ b, blk s.a b → q < b) ∧ FsB h' (fun b => q < b ∧ ¬ blk s.a b) vs fs ∧ Keep (fun _ => False) h h' ∧ q < h'.size ∧ (m.st = 2 → L.pos = 0))
    (fun s h' => match cellH h' ⟨q, 5, none⟩ with | some (.int _ z) => (n - z).toNat | _ => 0)
    ⟨lg0 fr n e, [], n.toNat + 1, [], rfl, by show n - 0 < _; omega, by show (0 : Int) ≤ 0; omega, by show (0 : Int) ≤ n; omega, rfl, rfl, rfl, by show ((0 : Nat) : Int) ≤ 0; omega, o5, SlR.nil _ _, by show ((0 : Nat) : Int) ≤ 0; omega, fun b hb => absurd hb (Ref5.nob b), FsB.nil _ _, k5, by omega, fun _ => rfl⟩ ?_
  rintro s h6 ⟨L, fs, f, vs, f1, f2, f3, f4, f5, f6, f7e, f7, o6, sl6, f8, f9, fb6, k6, z6, hst0⟩
  have r6 := hr.keep k6 (fun _ _ h => h)
  have hsz := sl6.len
  -- no frame more
  have fin : readM m L = none → m.st ≠ 2 → ∀ h7, Keep (fun _ => False) h6 h7 → R (some ⟨q, 0, none⟩, s, 0) h7 := fun hno hst h7 k7 => by
    have efin : openM m fr n e = (L, fs) := by
      rw [f1]
      cases f with
      | zero => rfl
      | succ f => unfold openF; rw [hno]
    have := hk hst q s h7 (by omega)
    rw [efin] at this
    exact this (k7.row o6 (fun h => h)) ⟨vs, Rv.keep (SlR.rv sl6) k7 (fun _ _ _ h => h), fun _ b hb => f9 b hb, (fb6.keep k7 (fun _ _ _ h => h)).mono (fun b _ hb => hb.1)⟩ (k6.trans' k7)
  rw [add_mk]
  refine ldI_row (o := 0 + 5) o6 rfl ?_
  refine cnd_dec (fun hlt => ?_) (fun hge => ?_)
  rotate_left
  · have hge' : n ≤ L.pos := by
      have : ¬ L.pos < n := hge
      omega
    have hst : m.st ≠ 2 := fun hd => by have := hst0 hd; omega
    exact fin (by unfold readM; rw [if_pos (by omega)]) hst h6 (.refl _ _)
  replace hlt : L.pos < n := hlt
  refine read_spec r6 hc hz o6 (by omega) f3 (by omega) (by omega) (by omega) (by omega) (fun hd h7 k7 => ?_) (fun hno hst h7 k7 => ?_) (fun rs k hsome hst hk1 hk2 s7 h7 t7 n7 k7 => ?_)
  · exact cnd_t rfl (hdead hd h7 (k6.trans' k7))
  · exact cnd_f rfl (cnd_t rfl (fin hno hst h7 k7))
  · refine cnd_f rfl (cnd_f (by simp; omega) ?_)
    refine newB_row ?_
    intro h8 s8 o8 k8
    refine ldRow_row o8 (by simp) ?_
    have k78 := k7.trans' k8
    have z78 := k78.size
    refine (sl6.keep k78 (fun _ _ h => h)).app rfl (by simp) (fun v hv => by simp at hv; subst hv; rfl) (by omega) ?_
    intro a9 c9 h9 v1 v2 v3
    have k69 : Keep (blk s.a) h6 h9 := (k78.mono (fun _ _ h => h.elim)).trans v2 (fun _ _ h => h)
    have o9 := k69.row o6 (fun hb => by have := f9 q hb; omega)
    have ho5 : cellH h6 ⟨q, 5, none⟩ = some (.int .i64 L.pos) := by rw [o6.cells]; rfl
    refine ldI_row (o := 0 + 5) o9 rfl ?_
    have ew : w64 (L.pos + (k : Int)) = L.pos + k := w64_id (by omega) (by omega)
    show stC ⟨q, 0 + 5, none⟩ (.int .i64 (w64 (L.pos + (k : Int)))) h9 _
    rw [ew]
    refine stC_row (o := 0 + 5) o9 (by rw [LRow_len]; omega) rfl ?_
    intro h10 s10 o10 k10
    rw [add_mk]
    refine ldI_row (n := (L.nx : Int)) (o := 0 + 4) o10 rfl ?_
    have ex : IntKind.u64.wrap ((L.nx : Int) + 1) = ((L.nx + 1 : Nat) : Int) := by rw [wrap_u64_id (by omega) (by omega)]; rfl
    show stC ⟨q, 0 + 4, none⟩ (.int .u64 (IntKind.u64.wrap ((L.nx : Int) + 1))) h10 _
    rw [ex]
    refine stC_row (o := 0 + 4) o10 (by rw [List.length_set, LRow_len]; omega) rfl ?_
    intro h11 s11 o11 k11
    have o11' : Row h11 q (LRow p { L with pos := L.pos + k, nx := L.nx + 1 }) := o11
    have k911 : Keep (· = q) h9 h11 := k10.trans' k11
    have hpos : cellH h11 ⟨q, 5, none⟩ = some (.int .i64 (L.pos + k)) := by rw [o11'.cells]; rfl
    have fa9 : ∀ b, blk a9 b → q < b := fun b hb => by
      rcases v3 with ⟨rfl, _⟩ | ⟨rfl, _⟩
      · exact f9 b hb
      · rw [blk_some] at hb
        simp only at hb
        omega
    refine ⟨⟨{ L with pos := L.pos + k, nx := L.nx + 1 }, fs ++ [rs], f - 1, vs ++ [.slice s7.a s7.len s7.cap], ?_, ?_, ?_, ?_, f5, f6, f7e, ?_, o11', v1.keep k911 (fun b hb hh => ?_), ?_, fa9, ?_, ?_, ?_, fun hd => absurd hd hst⟩, ?_⟩
    · rw [f1]
      cases f with
      | zero => omega
      | succ f =>
        show openF m (f + 1) L fs = openF m f _ _
        conv => lhs; unfold openF
        rw [hsome]
    · show n - (L.pos + k) < ((f - 1 : Nat) : Int)
      omega
    · show 0 ≤ L.pos + k
      omega
    · show L.pos + k ≤ n
      omega
    · show ((L.nx + 1 : Nat) : Int) ≤ L.pos + k
      omega
    · have := fa9 b hb
      have hh' : b = q := hh
      omega
    · show ((s.len + 1 : Nat) : Int) ≤ L.pos + k
      omega
    · have hz7 := k7.size
      have new9 : ∀ b, b < h7.size → ¬ blk s.a b → ¬ blk a9 b := fun b hb hn hh => by
        rcases v3 with ⟨rfl, _⟩ | ⟨rfl, _⟩
        · exact hn hh
        · rw [blk_some] at hh
          simp only at hh
          omega
      have t9 : TsV h9 (fun b => q < b ∧ ¬ blk a9 b) (.slice s7.a s7.len s7.cap) rs := ⟨s7.a, s7.len, s7.cap, rfl, Rv.keep (Ts.keep0 t7 k8) v2 (fun hl b hb hh => by
        have := n7 b hb
        have h2 := sl6.blk_lt hh
        omega), fun hl b hb => by
        have g1 := n7 b hb
        have g2 := Rv.lt t7 hl hb
        exact ⟨by omega, new9 b g2 (fun hh => by have := sl6.blk_lt hh; omega)⟩⟩
      have f9' : FsB h9 (fun b => q < b ∧ ¬ blk a9 b) vs fs := (((fb6.mono (C := fun b => q < b ∧ ¬ blk s.a b ∧ ¬ blk a9 b) (fun b hb hq => ⟨hq.1, hq.2, new9 b (by omega) hq.2⟩)).keep k78 (fun _ _ _ h => h)).keep v2 (fun b _ hb hh => hb.2.1 hh)).mono (fun b _ hb => ⟨hb.1, hb.2.2⟩)
      exact (f9'.snoc t9).keep k911 (fun b _ hb hh => by
        have hh' : b = q := hh
        have hb' : q < b := hb.1
        omega)
    · refine (k6.trans k69 (fun y hy hb => by have := f9 y hb; omega)).trans k911 (fun y hy hb => by
        have hb' : y = q := hb
        omega)
    · have := k69.size
      have := k911.size
      omega
    · show (match cellH h11 ⟨q, 5, none⟩ with | some (.int _ z) => (n - z).toNat | _ => 0) < (match cellH h6 ⟨q, 5, none⟩ with | some (.int _ z) => (n - z).toNat | _ => 0)
      rw [hpos, ho5]
      show (n - (L.pos + k)).toNat < (n - L.pos).toNat
      omega

theorem frame_chunk {e x : Nat} {pl : List UInt8} {i : Nat} (hi : i < secs pl.length) : ofL (secL (frameL e x pl) i) = chunk (frameF e x pl) i := by
  unfold chunk
  congr 1
  have hl := frameL_length e x pl
  have hs : secs pl.length = (pl.length + 279) / 256 := rfl
  unfold secL frameF
  rw [List.drop_append, List.take_append, List.drop_replicate, List.take_replicate]
  congr 2
  simp only [List.length_take, List.length_drop]
  omega
theorem part_nil : ofL (secL [] 0) = noughts 256 := by decide +kernel

def t4 (q : Nat) (r3 : Int) (R : Int → Heap → Prop) (s : Int) (h : Heap) : Prop :=
  cnd (s != 0) (stC ⟨q, 0 + 6, none⟩ (.bool true) h fun h47 => R s h47) (
  ldI .i64 ⟨q, 0 + 5, none⟩ h fun n49 => stC ⟨q, 0 + 5, none⟩ (.int .i64 (w64 (n49 + r3))) h fun h51 => ldI .u64 ⟨q, 0 + 4, none⟩ h51 fun n53 => stC ⟨q, 0 + 4, none⟩ (.int .u64 (IntKind.u64.wrap (n53 + 1))) h51 fun h55 => R 0 h55)
def t3 (q : Nat) (r3 : Int) (R : Int → Heap → Prop) (s : Int) (h : Heap) : Prop :=
  cnd (s == 0) (ldP ⟨q, 0, none⟩ h fun p57 => CallT Try.prog ref5_Dev_Flush_no [.pointer p57] h [.sc (.int .i64)] fun (r58 : Int) h59 => t4 q r3 R r58 h59) (t4 q r3 R s h)
def t2 (q : Nat) (r15 : Sl) (n18 n20 r3 : Int) (R : Int → Heap → Prop) (s : Int) (h : Heap) : Prop :=
  cnd (s == 0) (ldP ⟨q, 0, none⟩ h fun p61 => CallT Try.prog ref6_Part_no [.slice r15.a r15.len r15.cap, .int .i64 0] h [.sc (.str)] fun (r62 : ByteArray) h63 => (ldP ⟨q, 0, none⟩ h63 fun p64 => (.pointer p64 : Value) = .pointer p61) ∧
    CallT Try.prog ref5_Dev_Write_no [.pointer p61, .int .i64 (w64 (n18 + n20)), .string r62] h63 [.sc (.int .i64)] fun (r65 : Int) h66 => t3 q r3 R r65 h66) (t3 q r3 R s h)
def t1 (q : Nat) (r15 : Sl) (n18 n20 r3 : Int) (R : Int → Heap → Prop) (s : Int) (h : Heap) : Prop :=
  cnd (s == 0) (ldP ⟨q, 0, none⟩ h fun p57 => CallT Try.prog ref5_Dev_Flush_no [.pointer p57] h [.sc (.int .i64)] fun (r58 : Int) h59 => t2 q r15 n18 n20 r3 R r58 h59) (t2 q r15 n18 n20 r3 R s h)
def t0 (q : Nat) (r15 : Sl) (n18 n20 r3 : Int) (R : Int → Heap → Prop) (e : Int) (h23 : Heap) : Prop :=
  withJ (σ := Bool) (fun s71 h73 => cnd s71 (ldP ⟨q, 0, none⟩ h73 fun p75 => CallT Try.prog ref6_Part_no [.slice none 0 0, .int .i64 0] h73 [.sc (.str)] fun (r76 : ByteArray) h77 => (ldP ⟨q, 0, none⟩ h77 fun p78 => (.pointer p78 : Value) = .pointer p75) ∧
    CallT Try.prog ref5_Dev_Write_no [.pointer p75, .int .i64 (w64 ((w64 (n18 + n20)) + r3)), .string r76] h77 [.sc (.int .i64)] fun (r79 : Int) h80 => t1 q r15 n18 n20 r3 R r79 h80) (t1 q r15 n18 n20 r3 R e h73)) (fun J72 =>
  cnd (e == 0) (ldI .i64 ⟨q, 0 + 5, none⟩ h23 fun n82 => ldI .i64 ⟨q, 0 + 2, none⟩ h23 fun n84 => J72 (decide ((w64 (n82 + r3)) < n84)) h23) (J72 false h23))

theorem append_spec {mu : Nat → Prop} {h : Heap} {p q : Nat} {m : M} {L : Lg} (hr : Ref5.Rep h p mu m) (hc : m.c.length ≤ 800000) (ho : Row h q (LRow p L)) (hq : ¬ mu q) (g0 : 0 ≤ L.fr) (g1 : 0 ≤ L.pos) (g3 : L.fr ≤ 100000 ∧ L.pos ≤ 100000) (g4 : -100000 ≤ L.n ∧ L.n ≤ 10000) (g5 : L.nx ≤ 1000000) (g6 : L.ep < 18446744073709551616)
    {a : Option Addr} {l c : Nat} {rs : List ByteArray} (ht : Ts h a l rs) (hb : (packL rs).length ≤ 10000000000000) (hl : l ≤ 1000000000000) {R : Int → Heap → Prop}
    (hk : ∀ mu' h', Ref5.Rep h' p mu' (appM m L rs).2.1 → Row h' q (LRow p (appM m L rs).2.2) → Keep (fun b => mu b ∨ b = q) h h' → (∀ b, mu' b → mu b ∨ h.size ≤ b) → R (appM m L rs).1 h') :
    CallT Try.prog ref6_Log_Append_no [.pointer (some ⟨q, 0, none⟩), .slice a l c] h [.sc (.int .i64)] R := by
  have hcall := ref6_Log_Append_call (x_0 := some ⟨q, 0, none⟩) (x_1 := ⟨a, l, c⟩) (R := R) (h := h)
  apply hcall
  simp only [ref6_Log_Append, nn_eq, add_mk]
  have hlen := ht.len
  unfold appM at hk
  refine ldB_row (o := 0 + 6) ho rfl ?_
  cases hd : L.dead
  rotate_left
  · rw [hd] at hk
    exact cnd_t rfl (hk mu h hr ho (.refl _ _) (fun _ h => .inl h))
  rw [hd] at hk
  simp only [Bool.false_eq_true, if_false] at hk
  refine cnd_f rfl ?_
  refine need_spec ht hb hl ?_
  intro h1 k1
  have ho1 := k1.row ho (fun h => h)
  refine room_spec ho1 (by omega) ?_
  obtain ⟨k, hkk⟩ : ∃ k, k = secs (packL rs).length := ⟨_, rfl⟩
  rw [← hkk] at hk ⊢
  refine cnd_dec (fun hfull => ?_) (fun hfull => ?_)
  · replace hfull : (k : Int) > L.n - L.pos := hfull
    rw [if_pos (by omega)] at hk
    exact hk mu h1 (hr.keep k1 (fun _ _ h => h)) ho1 (k1.mono (fun _ _ h => h.elim)) (fun _ h => .inl h)
  replace hfull : ¬ (k : Int) > L.n - L.pos := hfull
  rw [if_neg (by omega)] at hk
  have hkp := secs_pos (packL rs).length
  have hpk : (packL rs).length ≤ 256 * k := by have := secs_le (packL rs).length; omega
  refine ldI_row (o := 0 + 3) ho1 rfl (ldI_row (o := 0 + 4) ho1 rfl ?_)
  refine pack_spec (ht.keep0 k1) hb hl ?_
  intro s1 h2 b1 n1 k2
  have k02 := k1.trans' k2
  have ho2 := k02.row ho (fun h => h)
  refine ⟨ldI_row (o := 0 + 4) ho2 rfl rfl, ldI_row (o := 0 + 3) ho2 rfl rfl, ?_⟩
  have hs1 := b1.len
  refine frame_spec g6 (by omega) b1.rb (by omega) ?_
  intro s2 h3 sl2 b2 n2 k3
  rw [hs1] at sl2
  have k03 := k02.trans' k3
  have ho3 := k03.row ho (fun h => h)
  have r3 := hr.keep k03 (fun _ _ h => h)
  have z02 := k02.size
  have z3 := k3.size
  have hql := ho.lt
  refine ldI_row (o := 0 + 1) ho3 rfl (ldI_row (o := 0 + 5) ho3 rfl ?_)
  obtain ⟨P, hP⟩ : ∃ P, P = L.fr + L.pos := ⟨_, rfl⟩
  have ew : w64 (L.fr + L.pos) = P := by rw [w64_id (by omega) (by omega)]; exact hP.symm
  rw [← hP] at hk
  obtain ⟨F, hF⟩ : ∃ F, F = frameF L.ep L.nx (packL rs) := ⟨_, rfl⟩
  obtain ⟨F0, hF0⟩ : ∃ F0, F0 = frameL L.ep L.nx (packL rs) := ⟨_, rfl⟩
  rw [← hF] at hk
  rw [← hF0] at b2
  have part : ∀ i, i < k → ofL (secL F0 i) = chunk F i := fun i hi => by rw [hF0, hF]; exact frame_chunk (by rw [← hkk]; exact hi)
  have aeq : aws L F k = fws P F k ++ (if L.pos + (k : Int) < L.n then [(P + (k : Int), noughts 256)] else []) := by unfold aws; rw [← hP]
  obtain ⟨C, hC⟩ : ∃ C, C = commitM m (aws L F k) (P, chunk F 0) := ⟨_, rfl⟩
  rw [← hC] at hk
  have b3r : ∀ {hX : Heap}, Keep mu h3 hX → Rb hX s2.a s2.len F0 := fun kX => Rv.keep b2.rb kX (fun _ b hb' hm => by
    have := n2 b hb'
    have := hr.lt b hm
    omega)
  have comp : ∀ {mu1 mu2 : Nat → Prop} {hA : Heap}, h3.size ≤ hA.size → (∀ b, mu1 b → mu b ∨ h3.size ≤ b) → (∀ b, mu2 b → mu1 b ∨ hA.size ≤ b) → (∀ b, mu2 b → mu b ∨ h3.size ≤ b) := fun hz s1 s2 b hb' => by
    rcases s2 b hb' with hh | hh
    · exact s1 b hh
    · right; omega
  have keep1 : ∀ {mu1 : Nat → Prop} {hA hB : Heap}, Keep mu h3 hA → (∀ b, mu1 b → mu b ∨ h3.size ≤ b) → Keep mu1 hA hB → Keep mu h3 hB := fun kA gA kB => kA.trans kB (fun y hy hm => by
    rcases gA y hm with hh | hh
    · exact hh
    · omega)
  have f4 : ∀ s m1 mu1 h4, C = (s, m1) → Ref5.Rep h4 p mu1 m1 → Keep mu h3 h4 → (∀ b, mu1 b → mu b ∨ h3.size ≤ b) → t4 q k R s h4 := by
    intro s m1 mu1 h4 hCs r4 k4 sub
    have ho4 := k4.row ho3 hq
    have nq : ¬ mu1 q := fun hm => by
      rcases sub q hm with hh | hh
      · exact hq hh
      · omega
    have k04 : Keep (fun b => mu b ∨ b = q) h h4 := (k03.mono (T := fun b => mu b ∨ b = q) (fun _ _ h => h.elim)).trans k4 (fun y _ hy => .inl hy)
    have sub0 : ∀ b, mu1 b → mu b ∨ h.size ≤ b := fun b hb' => by
      rcases sub b hb' with hh | hh
      · exact .inl hh
      · right; omega
    rw [hCs] at hk
    unfold t4
    refine cnd_of (fun hne => ?_) (fun heq => ?_)
    · have hne' : s ≠ 0 := by simpa using hne
      simp only [if_pos hne'] at hk
      refine stC_row (o := 0 + 6) ho4 (by rw [LRow_len]; omega) rfl ?_
      intro h5 s5 o5 k5
      exact hk mu1 h5 (r4.keep k5 (fun b hb' e => nq (by have e' : b = q := e; rw [← e']; exact hb'))) o5 (k04.trans k5 (fun y _ hy => .inr hy)) sub0
    · have heq' : s = 0 := by simpa using heq
      subst heq'
      simp only [ne_eq, not_true_eq_false, if_false] at hk
      refine ldI_row (o := 0 + 5) ho4 rfl ?_
      have e1 : w64 (L.pos + (k : Int)) = L.pos + k := w64_id (by omega) (by omega)
      rw [e1]
      refine stC_row (o := 0 + 5) ho4 (by rw [LRow_len]; omega) rfl ?_
      intro h5 s5 o5 k5
      refine ldI_row (n := (L.nx : Int)) (o := 0 + 4) o5 rfl ?_
      have ex : IntKind.u64.wrap ((L.nx : Int) + 1) = ((L.nx + 1 : Nat) : Int) := by rw [wrap_u64_id (by omega) (by omega)]; rfl
      rw [ex]
      refine stC_row (o := 0 + 4) o5 (by rw [List.length_set, LRow_len]; omega) rfl ?_
      intro h6 s6 o6 k6
      have k46 := k5.trans' k6
      have o6' : Row h6 q (LRow p ⟨L.fr, L.n, L.ep, L.nx + 1, L.pos + (k : Int), L.dead⟩) := o6
      rw [hd] at o6'
      exact hk mu1 h6 (r4.keep k46 (fun b hb' e => nq (by have e' : b = q := e; rw [← e']; exact hb'))) o6' (k04.trans k46 (fun y _ hy => .inr hy)) sub0
  have f3 : ∀ s m1 mu1 h4, (s ≠ 0 → C = (s, m1)) → (s = 0 → C = flush m1) → m1.c.length ≤ 1000000 → Ref5.Rep h4 p mu1 m1 → Keep mu h3 h4 → (∀ b, mu1 b → mu b ∨ h3.size ≤ b) → t3 q k R s h4 := by
    intro s m1 mu1 h4 c1 c2 hl1 r4 k4 sub
    have ho4 := k4.row ho3 hq
    unfold t3
    refine cnd_of (fun heq => ?_) (fun hne => ?_)
    · have heq' : s = 0 := by simpa using heq
      refine ldP_row (o := 0) ho4 rfl ?_
      refine Ref5.flush_spec r4 hl1 ?_
      intro h5 r5 k5
      exact f4 _ _ mu1 h5 (c2 heq') r5 (keep1 k4 sub k5) sub
    · have hne' : s ≠ 0 := by simpa using hne
      exact f4 s m1 mu1 h4 (c1 hne') r4 k4 sub
  have f2 : ∀ s m1 mu1 h4, (s ≠ 0 → C = (s, m1)) → (s = 0 → C = if (write m1 P (chunk F 0)).1 ≠ 0 then write m1 P (chunk F 0) else flush (write m1 P (chunk F 0)).2) → m1.c.length ≤ 999990 → Ref5.Rep h4 p mu1 m1 → Keep mu h3 h4 → (∀ b, mu1 b → mu b ∨ h3.size ≤ b) → t2 q s2 L.fr L.pos k R s h4 := by
    intro s m1 mu1 h4 c1 c2 hl1 r4 k4 sub
    have ho4 := k4.row ho3 hq
    unfold t2
    refine cnd_of (fun heq => ?_) (fun hne => ?_)
    · have heq' : s = 0 := by simpa using heq
      refine ldP_row (o := 0) ho4 rfl ?_
      refine Ref7.part_spec (b3r k4) (i := 0) (by omega) (by omega) ?_
      intro h5 k5
      refine ⟨ldP_row (o := 0) (k5.row ho4 (fun h => h)) rfl rfl, ?_⟩
      rw [show (0 : Int).toNat = 0 from rfl, part 0 (by omega), ew]
      refine Ref5.write_spec (r4.keep k5 (fun _ _ h => h)) (by unfold InI; omega) (by omega) ?_
      intro mu6 h6 r6 k6 sub6
      have z5 := k5.size
      have z4 := k4.size
      have wl := write_len m1 P (chunk F 0)
      have c2' := c2 heq'
      refine f3 _ _ mu6 h6 (fun hne => by rw [c2', if_pos hne]) (fun he => by rw [c2', if_neg (Classical.not_not.2 he)]) (by omega) r6 (keep1 (k4.trans k5 (fun _ _ h => h.elim)) sub k6) (comp (by omega) sub sub6)
    · have hne' : s ≠ 0 := by simpa using hne
      exact f3 s m1 mu1 h4 c1 (fun he => absurd he hne') (by omega) r4 k4 sub
  have f1 : ∀ s m1 mu1 h4, (s ≠ 0 → C = (s, m1)) → (s = 0 → C = if (flush m1).1 ≠ 0 then flush m1 else if (write (flush m1).2 P (chunk F 0)).1 ≠ 0 then write (flush m1).2 P (chunk F 0) else flush (write (flush m1).2 P (chunk F 0)).2) → m1.c.length ≤ 999980 → Ref5.Rep h4 p mu1 m1 → Keep mu h3 h4 → (∀ b, mu1 b → mu b ∨ h3.size ≤ b) → t1 q s2 L.fr L.pos k R s h4 := by
    intro s m1 mu1 h4 c1 c2 hl1 r4 k4 sub
    have ho4 := k4.row ho3 hq
    unfold t1
    refine cnd_of (fun heq => ?_) (fun hne => ?_)
    · have heq' : s = 0 := by simpa using heq
      refine ldP_row (o := 0) ho4 rfl ?_
      refine Ref5.flush_spec r4 (by omega) ?_
      intro h5 r5 k5
      have fl := flush_len m1
      have c2' := c2 heq'
      exact f2 _ _ mu1 h5 (fun hne => by rw [c2', if_pos hne]) (fun he => by rw [c2', if_neg (Classical.not_not.2 he)]) (by omega) r5 (keep1 k4 sub k5) sub
    · have hne' : s ≠ 0 := by simpa using hne
      exact f2 s m1 mu1 h4 c1 (fun he => absurd he hne') (by omega) r4 k4 sub
  have f0 : ∀ (i : Nat) mu1 h4, 1 ≤ i → i ≤ k → ((wrs (fws P F i) m).1 = 0 → i = k) → Ref5.Rep h4 p mu1 (wrs (fws P F i) m).2 → Keep mu h3 h4 → (∀ b, mu1 b → mu b ∨ h3.size ≤ b) → t0 q s2 L.fr L.pos k R (wrs (fws P F i) m).1 h4 := by
    intro i mu1 h4 i1 i2 hi r4 k4 sub
    have ho4 := k4.row ho3 hq
    have wl := wrs_len (fws P F i) m
    have fl : (fws P F i).length = i - 1 := by simp [fws]
    unfold t0
    refine withJ.inl ?_
    refine cnd_of (fun heq => ?_) (fun hne => ?_)
    · have heq' : (wrs (fws P F i) m).1 = 0 := by simpa using heq
      have hik := hi heq'
      subst hik
      refine ldI_row (o := 0 + 5) ho4 rfl (ldI_row (o := 0 + 2) ho4 rfl ?_)
      have e1 : w64 (L.pos + (i : Int)) = L.pos + i := w64_id (by omega) (by omega)
      rw [e1]
      refine cnd_dec (fun hlt => ?_) (fun hge => ?_)
      · have a1 : aws L F i = fws P F i ++ [(P + (i : Int), noughts 256)] := by rw [aeq, if_pos hlt]
        have hnext : wrs (aws L F i) m = write (wrs (fws P F i) m).2 (P + (i : Int)) (noughts 256) := by rw [a1, wrs_snoc _ _ _ heq']
        refine ldP_row (o := 0) ho4 rfl ?_
        refine Ref7.part_spec (st := []) (l := 0) ⟨rfl, fun i v hv => by simp at hv⟩ (i := 0) (by omega) (by omega) ?_
        intro h5 k5
        refine ⟨ldP_row (o := 0) (k5.row ho4 (fun h => h)) rfl rfl, ?_⟩
        have e2 : w64 (w64 (L.fr + L.pos) + (i : Int)) = P + i := by rw [ew, w64_id (by omega) (by omega)]
        rw [show (0 : Int).toNat = 0 from rfl, part_nil, e2]
        refine Ref5.write_spec (r4.keep k5 (fun _ _ h => h)) (by unfold InI; omega) (by omega) ?_
        intro mu6 h6 r6 k6 sub6
        have z5 := k5.size
        have z4 := k4.size
        rw [← hnext] at r6 ⊢
        have wl2 := wrs_len (aws L F i) m
        have al : (aws L F i).length = i := by rw [a1, List.length_append, fl, List.length_singleton]; omega
        refine f1 _ _ mu6 h6 (fun hne => ?_) (fun he => ?_) (by omega) r6 (keep1 (k4.trans k5 (fun _ _ h => h.elim)) sub k6) (comp (by omega) sub sub6)
        · rw [hC]; unfold commitM; rw [if_pos hne]
        · rw [hC]; unfold commitM; rw [if_neg (Classical.not_not.2 he)]
      · have a1 : aws L F i = fws P F i := by rw [aeq, if_neg hge, List.append_nil]
        refine f1 _ _ mu1 h4 (fun hne => ?_) (fun he => ?_) (by omega) r4 k4 sub
        · rw [hC]; unfold commitM; rw [a1, if_pos hne]
        · rw [hC]; unfold commitM; rw [a1, if_neg (Classical.not_not.2 he)]
    · have hne' : (wrs (fws P F i) m).1 ≠ 0 := by simpa using hne
      refine cnd_f rfl ?_
      refine f1 _ _ mu1 h4 (fun _ => ?_) (fun he => absurd he hne') (by omega) r4 k4 sub
      have e1 : wrs (aws L F k) m = wrs (fws P F i) m := by
        rw [aeq, show k = i + (k - i) by omega, fws_split P F _ _ (by omega), List.append_assoc, wrs_stop hne']
      rw [hC]; unfold commitM; rw [e1, if_pos hne']
  refine LoopT.intro (fun (t : Int × Int) h' => 1 ≤ t.2 ∧ t.2 ≤ k ∧ t.1 = (wrs (fws P F t.2.toNat) m).1 ∧ ∃ mu', Ref5.Rep h' p mu' (wrs (fws P F t.2.toNat) m).2 ∧ Keep mu h3 h' ∧ (∀ b, mu' b → mu b ∨ h3.size ≤ b)) (fun t _ => ((k : Int) - t.2).toNat)
    ⟨by show (1 : Int) ≤ 1; omega, by show (1 : Int) ≤ k; omega, rfl, mu, r3, .refl _ _, fun _ h => .inl h⟩ ?_
  rintro ⟨e, i⟩ h4 ⟨q1, q2, q3, mu1, r4, k4, sub⟩
  replace q1 : 1 ≤ i := q1
  replace q2 : i ≤ k := q2
  replace q3 : e = (wrs (fws P F i.toNat) m).1 := q3
  replace r4 : Ref5.Rep h4 p mu1 (wrs (fws P F i.toNat) m).2 := r4
  subst q3
  have wl := wrs_len (fws P F i.toNat) m
  have fl : (fws P F i.toNat).length = i.toNat - 1 := by simp [fws]
  refine withJ.inl ?_
  refine cnd_dec (fun hi => ?_) (fun hi => ?_)
  · replace hi : i < k := hi
    refine cnd_of (fun heq => ?_) (fun hne => ?_)
    · have heq' : (wrs (fws P F i.toNat) m).1 = 0 := by simpa using heq
      have ho4 := k4.row ho3 hq
      refine ldP_row (o := 0) ho4 rfl ?_
      refine Ref7.part_spec (b3r k4) (i := i) (by omega) (by omega) ?_
      intro h5 k5
      refine ⟨ldP_row (o := 0) (k5.row ho4 (fun h => h)) rfl rfl, ?_⟩
      have ew2 : w64 (w64 (L.fr + L.pos) + i) = P + (i.toNat : Int) := by rw [ew, w64_id (by omega) (by omega)]; omega
      show CallT Try.prog ref5_Dev_Write_no [.pointer (some ⟨p, 0, none⟩), .int .i64 (w64 (w64 (L.fr + L.pos) + i)), .string (ofL (secL F0 i.toNat))] h5 _ _
      rw [part i.toNat (by omega), ew2]
      refine Ref5.write_spec (r4.keep k5 (fun _ _ h => h)) (by unfold InI; omega) (by omega) ?_
      intro mu6 h6 r6 k6 sub6
      have z5 := k5.size
      have z4 := k4.size
      have hnext : wrs (fws P F (i.toNat + 1)) m = write (wrs (fws P F i.toNat) m).2 (P + (i.toNat : Int)) (chunk F i.toNat) := by
        rw [fws_succ P F i.toNat (by omega), wrs_snoc _ _ _ heq']
      have hw : w64 (i + 1) = i + 1 := w64_id (by omega) (by omega)
      show (1 ≤ w64 (i + 1) ∧ w64 (i + 1) ≤ k ∧ (write (wrs (fws P F i.toNat) m).2 (P + (i.toNat : Int)) (chunk F i.toNat)).1 = (wrs (fws P F (w64 (i + 1)).toNat) m).1 ∧ ∃ mu', Ref5.Rep h6 p mu' (wrs (fws P F (w64 (i + 1)).toNat) m).2 ∧ Keep mu h3 h6 ∧ (∀ b, mu' b → mu b ∨ h3.size ≤ b)) ∧ ((k : Int) - w64 (i + 1)).toNat < ((k : Int) - i).toNat
      rw [hw, show (i + 1).toNat = i.toNat + 1 by omega, hnext]
      exact ⟨⟨by omega, by omega, rfl, mu6, r6, keep1 (k4.trans k5 (fun _ _ h => h.elim)) sub k6, comp (by omega) sub sub6⟩, by omega⟩
    · have hne' : (wrs (fws P F i.toNat) m).1 ≠ 0 := by simpa using hne
      exact f0 i.toNat mu1 h4 (by omega) (by omega) (fun he => absurd he hne') r4 k4 sub
  · replace hi : ¬ i < k := hi
    exact f0 i.toNat mu1 h4 (by omega) (by omega) (fun _ => by omega) r4 k4 sub

end RefW
end Go.Proofs.Ytmkobpkdodgboaa
