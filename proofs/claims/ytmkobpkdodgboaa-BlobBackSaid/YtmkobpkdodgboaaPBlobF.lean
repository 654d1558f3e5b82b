/- What is read back; a store: Read, Drop, Free, new; layer 11's awake; BlobSectors. -/
import Derived.Test.YtmkobpkdodgboaaPBlobE
import Derived.Test.YtmkobpkdodgboaaGLawB
namespace Go.Proofs.Ytmkobpkdodgboaa
open Go D
set_option linter.unusedVariables false
set_option linter.unusedSimpArgs false
namespace Blob
open Disk Enc Hash Snap Alloc

theorem sectL_drop (ds : List UInt8) : (sectL ds).drop 4 = padL ds := by
  unfold sectL
  exact List.drop_left' rfl
theorem padL_padL {ds : List UInt8} (h : ds.length ≤ 252) : padL (padL ds) = padL ds := by
  have e := padL_length h
  show padL ds ++ List.replicate (252 - (padL ds).length) 0 = padL ds
  rw [e]
  simp
theorem sectL_ok {ds : List UInt8} (h : ds.length ≤ 252) : sectL ((sectL ds).drop 4) = sectL ds := by
  rw [sectL_drop]
  conv => lhs; unfold sectL
  rw [padL_padL h]
  rfl

theorem part_sub {ds : List UInt8} {u lo hi : Nat} (h1 : hi ≤ 252) (h2 : 252 * u + hi ≤ ds.length) : ((sectL (partD ds u)).drop (4 + lo)).take (hi - lo) = (ds.drop (252 * u + lo)).take (hi - lo) := by
  rw [← List.drop_drop, sectL_drop]
  unfold padL partD
  by_cases h : lo ≤ hi
  · rw [List.drop_append_of_le_length (by rw [List.length_take, List.length_drop]; omega), List.take_append_of_le_length (by rw [List.length_drop, List.length_take, List.length_drop]; omega), List.drop_take, List.drop_drop, List.take_take]
    congr 1
    omega
  · rw [show hi - lo = 0 by omega]
    simp

theorem readF_good {m : M} {P : Int} {off n : Nat} {ds : List UInt8} (hn : off + n ≤ ds.length) : ∀ (d u : Nat), (∀ v, u ≤ v → v < u + d → readAt m (P + (v : Int)) = ofL (sectL (partD ds v))) → off < 252 * (u + 1) → (∀ v, u ≤ v → v < u + d → 252 * v < off + n) → 252 * (u - 1) ≤ off + n →
    ∀ acc, acc = (ds.drop off).take (min (252 * u) (off + n) - off) → readF m P off n d u acc = some ((ds.drop off).take (min (252 * (u + d)) (off + n) - off))
  | 0, u, _, _, _, _, acc, ha => by rw [ha]; rfl
  | d + 1, u, hg, hu, hv, hw, acc, ha => by
    have e := hg u (by omega) (by omega)
    have hl := partD_length ds u
    have ed : (readAt m (P + (u : Int))).data.toList = sectL (partD ds u) := by rw [e, data_ofL]
    unfold readF
    rw [ed, if_pos (sectL_ok hl)]
    have h0 := hv u (by omega) (by omega)
    have := readF_good hn d (u + 1) (fun v h1 h2 => hg v (by omega) (by omega)) (by omega) (fun v h1 h2 => hv v (by omega) (by omega)) (by omega) (acc ++ ((sectL (partD ds u)).drop (4 + (off - 252 * u))).take (min (off + n - 252 * u) 252 - (off - 252 * u))) (by
      rw [part_sub (by omega) (by omega), ha]
      by_cases hc : 252 * u ≤ off
      · rw [show min (252 * u) (off + n) - off = 0 by omega, List.take_zero, List.nil_append, show 252 * u + (off - 252 * u) = off by omega]
        congr 1
        omega
      · rw [show 252 * u + (off - 252 * u) = off + (252 * u - off) by omega, ← List.drop_drop, show min (252 * u) (off + n) - off = 252 * u - off by omega, ← List.take_add]
        congr 1
        omega)
    rw [this, show u + 1 + d = u + (d + 1) by omega]

theorem readF_all {m : M} {P : Int} {off n : Nat} {ds : List UInt8} (h0 : 0 < n) (hn : off + n ≤ ds.length) (hg : ∀ v, v < nsec ds.length → readAt m (P + (v : Int)) = ofL (sectL (partD ds v))) : readF m P off n (cntN off n) (off / 252) [] = some ((ds.drop off).take n) := by
  have en : nsec ds.length = (ds.length + 251) / 252 := rfl
  have ec : cntN off n = (off + n - 1) / 252 - off / 252 + 1 := rfl
  rw [readF_good hn (cntN off n) (off / 252) (fun v h1 h2 => hg v (by omega)) (by omega) (fun v h1 h2 => by omega) (by omega) [] (by rw [show min (252 * (off / 252)) (off + n) - off = 0 by omega, List.take_zero])]
  congr 2
  omega

/-! ### the store's other calls -/
theorem BSt.readAs {h0 h : Heap} {p q s w : Nat} {m : M} {fr : Int} {bits : List Bool} {Q : Nat → Prop} (t : BSt h0 h p q s w m fr bits Q) {q' s' w' : Nat} {bits' : List Bool} (ho : Row h q' (BRow p s' fr)) (ha : Alloc.Rep h s' w' bits') (hl : bits'.length = bits.length)
    {st : Int} {size off n : Nat} (hh : Held bits' (st, (size : Int))) (h1 : off ≤ size) (h2 : n ≤ size - off) {R : Sl × Int → Heap → Prop}
    (hno : 0 < n → readF m (fr + st) off n (cntN off n) (off / 252) [] = none → ∀ h', Keep (fun _ => False) h h' → R (⟨none, 0, 0⟩, 62) h')
    (hyes : ∀ out, (if n = 0 then some [] else readF m (fr + st) off n (cntN off n) (off / 252) []) = some out → ∀ sl h', Bl h' sl.a sl.len sl.cap out → (∀ b, blk sl.a b → h.size ≤ b) → Keep (fun _ => False) h h' → R (sl, 0) h') :
    CallT Try.prog blob_Blobs_Read_no [.pointer (some ⟨q', 0, none⟩), .agg #[.int .i64 st, .int .i64 (size : Int)], .int .i64 (off : Int), .int .i64 (n : Int)] h [.sc .sl, .sc (.int .i64)] R := by
  obtain ⟨mu, im, r, o, a', g1, ⟨g2, g3, g4, g5, g6⟩, k, ⟨g7, g9, g10, g11, g12⟩, g8⟩ := t
  have hz : ∀ i, (readAt m i).size = 256 := by
    obtain ⟨z1, z2⟩ := Rep.secs r
    exact fun i => readAt_size z1 z2 i
  exact read_spec r g7 (by omega) hz ho ha g11 (by rw [hl]; exact g12) hh h1 h2 hno hyes

theorem BSt.rows {h0 h : Heap} {p q s w : Nat} {m : M} {fr : Int} {bits : List Bool} {Q : Nat → Prop} (t : BSt h0 h p q s w m fr bits Q) : Row h q (BRow p s fr) ∧ Alloc.Rep h s w bits ∧ q ≠ s ∧ q ≠ w := by
  obtain ⟨mu, im, r, o, a', g1, ⟨g2, g3, g4, g5, g6⟩, _⟩ := t
  exact ⟨o, a', g5, g6⟩

theorem BSt.free {h0 h : Heap} {p q s w : Nat} {m : M} {fr : Int} {bits : List Bool} {Q : Nat → Prop} (t : BSt h0 h p q s w m fr bits Q) {R : Int → Heap → Prop} (hk : R (freeOf bits) h) :
    CallT Try.prog blob_Blobs_Free_no [.pointer (some ⟨q, 0, none⟩)] h [.sc (.int .i64)] R := free_spec t.rows.1 t.rows.2.1 hk

theorem BSt.drop {h0 h : Heap} {p q s w : Nat} {m : M} {fr : Int} {bits : List Bool} {Q : Nat → Prop} (t : BSt h0 h p q s w m fr bits Q) {r : Int × Int} (hr : InI r.1 ∧ InI r.2) {R : Int → Heap → Prop}
    (hyes : 0 < r.2 → AllOf bits r.1 (nsecI r.2) true → ∀ h', BSt h0 h' p q s w m fr (flip bits r.1.toNat (nsecI r.2).toNat) Q → Keep (fun b => h0.size ≤ b ∧ ¬ Q b) h h' → R 0 h')
    (hz : r.2 = 0 → r.1 = 0 → ∀ h', Keep (fun _ => False) h h' → R 0 h') (hno : ¬ Held bits r → ∀ h', Keep (fun _ => False) h h' → R 1 h') :
    CallT Try.prog blob_Blobs_Drop_no [.pointer (some ⟨q, 0, none⟩), .agg #[.int .i64 r.1, .int .i64 r.2]] h [.sc (.int .i64)] R := by
  obtain ⟨mu, im, rp, o, a', g1, ⟨g2, g3, g4, g5, g6⟩, k, ⟨g7, g9, g10, g11, g12⟩, g8⟩ := t
  refine drop_spec o a' ⟨g5, g6⟩ hr (fun h1 h2 h' r' k' => ?_) hz hno
  have z := k'.size
  refine hyes h1 h2 h' ⟨mu, im, rp.keep k' (fun b hb hh => ?_) (fun b hb hh => ?_), k'.row o (fun hh => by omega), r', g1, ⟨g2, g3, g4, g5, g6⟩, k.trans k' (fun y _ hh => ?_), ⟨g7, g9, g10, g11, by rw [flip_length]; exact g12⟩, fun b hb => ⟨(g8 b hb).1, by have := (g8 b hb).2; omega⟩⟩ (k'.mono (fun y _ hh => ?_))
  · have := g1 b (.inl hb); omega
  · have := g1 b (.inr hb); omega
  · show h0.size ≤ y
    rcases hh with hh | hh <;> omega
  · rcases hh with hh | hh
    · subst hh; exact g3
    · subst hh; exact g4

/-- a new device with an empty store on it -/
theorem BSt.new {h : Heap} {sz fr n : Nat} (h1 : 1 ≤ sz) (h2 : sz ≤ 4096) (h3 : fr + n ≤ sz) {K : (Option Addr) × Int → (Option Addr) × Int → Heap → Prop}
    (hk : ∀ p q s w h', BSt h h' p q s w ⟨List.replicate sz (noughts 256), [], 0, 0⟩ fr (win 0 0 n) (fun _ => False) → K (some ⟨p, 0, none⟩, 0) (some ⟨q, 0, none⟩, 0) h') :
    CallT Try.prog disk_New_no [.int .i64 (sz : Int)] h [.sc .ptr, .sc (.int .i64)] fun (r1 : (Option Addr) × Int) h2 =>
    CallT Try.prog blob_Open_no [.pointer r1.1, .int .i64 (fr : Int), .int .i64 (n : Int), .slice none 0 0] h2 [.sc .ptr, .sc (.int .i64)] fun (r3 : (Option Addr) × Int) h4 => K r1 r3 h4 := by
  refine Disk.new_spec (by unfold InI; omega) (fun hb => by omega) ?_
  intro _ _ p mu im h1' hnew hr hk1
  have z1 := hk1.size
  have e0 : ((sz : Int)).toNat = sz := by omega
  rw [e0] at hr
  refine open_spec (rs := []) (bits := win 0 0 n) hr ⟨by omega, by omega, by omega, by simp; omega⟩ (SlR.nil _ _) rfl (by omega) (fun r hr => by cases hr) (by rw [win_none, show ((n : Int)).toNat = n by omega]; rfl) ?_
  intro q s w h2' ⟨q1, q2, q3⟩ q4 q5 o a k2
  refine hk p q s w h2' ⟨mu, im, hr.keep k2 (fun _ _ h => h) (fun _ _ h => h), o, a, fun b hb => ⟨hnew b hb, fun h => h, ?_⟩, ⟨⟨by omega, fun h => h⟩, ⟨by omega, fun h => h⟩, ⟨by omega, fun h => h⟩, q4, q5⟩, (hk1.trans' k2).mono (fun _ _ h => h.elim), ⟨rfl, by simp, fun x hx => (by cases hx), by omega, by rw [win_length]; simp; omega⟩, fun b hb => hb.elim⟩
  have := hr.lt b hb
  omega

theorem awake_spec {h : Heap} {R : Bool → Heap → Prop} (hk : ∀ h', Keep (fun _ => False) h h' → R true h') : CallT Try.prog law11_awake_no [] h [.sc .bool] R := by
  apply law11_awake_call
  simp only [law11_awake]
  refine BSt.new (sz := 16) (fr := 4) (n := 8) (by decide) (by decide) (by decide) ?_
  intro p q s w h1 t
  refine withJ.inl (withJ.inl ?_)
  refine cnd_f rfl (cnd_f rfl ?_)
  refine mkBytes (by decide) (by decide) ?_
  intro h2 s2 b2 k2
  have t2 := t.own (Q' := (· = h1.size)) k2 (fun _ hh _ => hh.elim) (fun b hb => by
    have hb' : b = h1.size := hb
    omega)
  obtain ⟨ds, hds⟩ : ∃ ds, ds = (noughts 300).data.toList := ⟨_, rfl⟩
  have b2' : Rb h2 (some ⟨h1.size, 0, none⟩) 300 ds := by rw [hds]; exact b2.rb
  have dl : ds.length = 300 := by rw [hds]; exact noughts_size 300
  refine t2.write (l := 300) b2' (Nat.le_refl _) (by decide) (fun _ b hb => by
    rw [blk_some] at hb
    exact .inr hb.symm) (fun hb => by cases hb) (fun _ hno => absurd (win_first (u := 0) (k := 2) (n := 8) (by decide) (by decide)).1 (hno 0)) ?_
  intro _ st hf h3 t3 k3
  have e := hf.eq (win_first (u := 0) (k := nsec 300) (n := 8) (by decide) (by decide))
  have e0 : st = 0 := e
  subst e0
  have ef : Alloc.flip (win 0 0 8) (0 : Int).toNat (nsec 300) = win 0 2 8 := win_more (d := 0) (u := 0) (by decide)
  rw [ef] at t3
  refine newB_row ?_
  intro h4 s4 o4 k4
  rw [add_mk]
  refine stC_row o4 (by simp) rfl ?_
  intro h5 s5 o5 k5
  refine stC_row o5 (by simp) rfl ?_
  intro h6 s6 o6 k6
  have o6' : Row h6 h3.size [.int .i64 0, .int .i64 300] := o6
  refine ldI_row (o := 0) o6' rfl (ldI_row (o := 0 + 1) o6' rfl ?_)
  have k36 : Keep (fun _ => False) h3 h6 := k4.trans (k5.trans' k6) (fun y hy hh => by
    have hh' : y = h3.size := hh
    omega)
  have t6 := t3.keep k36
  obtain ⟨m0, hm0⟩ : ∃ m0 : M, m0 = ⟨List.replicate 16 (noughts 256), [], 0, 0⟩ := ⟨_, rfl⟩
  rw [← hm0] at t6
  have l0 : m0.l.length = 16 := by rw [hm0]; simp
  obtain ⟨_, _, _, pf⟩ := put_facts (m := m0) (P := 4 + 0) (ds := ds) (by rw [hm0]) (by rw [hm0]; intro x hx; cases hx) (by decide) (by rw [l0, dl]; decide)
  rw [dl] at pf
  have hg : ∀ v, v < nsec ds.length → readAt (putM m0 (4 + 0) ds) (4 + 0 + (v : Int)) = ofL (sectL (partD ds v)) := fun v hv => by
    rw [dl] at hv
    have e2 : nsec 300 = 2 := rfl
    rw [e2] at hv pf
    rw [pf _ (by omega) (by rw [l0]; omega), if_pos (by omega), show (4 + 0 + (v : Int) - (4 + 0)).toNat = v by omega]
  refine t6.readAs (st := 0) (size := 300) (off := 250) (n := 10) t6.rows.1 t6.rows.2.1 rfl (.inl ⟨by decide, by decide, win_taken (by decide) (by decide) (by decide) (by decide)⟩) (by decide) (by decide) (fun _ hno => ?_) ?_
  · have := readF_all (m := putM m0 (4 + 0) ds) (P := 4 + 0) (off := 250) (n := 10) (ds := ds) (by decide) (by rw [dl]; decide) hg
    rw [show ((4 : Nat) : Int) + 0 = 4 + 0 from rfl, this] at hno
    cases hno
  intro out hout sl h7 b7 n7 k7
  have hlen : out.length = 10 := by
    have := readF_all (m := putM m0 (4 + 0) ds) (P := 4 + 0) (off := 250) (n := 10) (ds := ds) (by decide) (by rw [dl]; decide) hg
    rw [if_neg (by decide), show ((4 : Nat) : Int) + 0 = 4 + 0 from rfl, this] at hout
    injection hout with hout
    rw [← hout, List.length_take, List.length_drop, dl]
    decide
  have hsl := b7.len
  refine withJ.inl ?_
  refine cnd_t rfl (cnd_t rfl ?_)
  have o7 := k7.row o6' (fun h => h)
  refine ldI_row (o := 0) o7 rfl (ldI_row (o := 0 + 1) o7 rfl ?_)
  refine cnd_t rfl ?_
  refine cnd_t (by simp; omega) ?_
  have t7 := t6.keep k7
  refine t7.free ?_
  rw [freeOf_win 2 (by decide)]
  refine cnd_t rfl ?_
  refine sectors_spec (by unfold InI; omega) ?_
  exact hk h7 t7.out

theorem blobSectors_spec {h : Heap} {n : Int} (hn : InI n) {R : Bool → Heap → Prop} (hR : ∀ h', Keep (fun _ => False) h h' → R true h') : CallT Try.prog law11_BlobSectors_no [.int .i64 n] h [.sc .bool] R := by
  apply law11_BlobSectors_call
  simp only [law11_BlobSectors]
  refine withJ.inl ?_
  refine sectors_spec hn ?_
  apply ref11_Sectors_call
  simp only [ref11_Sectors]
  have fin : ∀ r6 : Int, r6 = nsecI n → cnd (nsecI n == r6) (CallT Try.prog law11_awake_no [] h [.sc (.bool)] fun (r8 : Bool) h9 => R r8 h9) (R false h) := fun r6 e => by
    refine cnd_t (by rw [e]; simp) ?_
    exact awake_spec fun h' k' => hR h' k'
  unfold InI at hn
  refine cnd_dec (fun h1 => fin _ ?_) (fun h1 => fin _ ?_)
  · unfold nsecI; rw [if_pos (by omega)]
  · have e1 : w64 (n - 1) = n - 1 := w64_id (by omega) (by omega)
    have e2 : w64 ((n - 1).tdiv 252) = (n - 1) / 252 := by rw [Int.tdiv_eq_ediv_of_nonneg (by omega), w64_id (by omega) (by omega)]
    rw [e1, e2, w64_id (by omega) (by omega)]
    unfold nsecI; rw [if_neg (by omega)]

end Blob
end Go.Proofs.Ytmkobpkdodgboaa
