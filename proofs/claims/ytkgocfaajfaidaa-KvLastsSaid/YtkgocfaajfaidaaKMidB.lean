/- PSnap PSnapB PSnapC PSnapP PStates PSnapT PSnapW joined, for seat work that lacks some functions; written by wip/tool/cut.py. -/
import Derived.Test.YtkgocfaajfaidaaKMidA
namespace Go.Proofs.Ytkgocfaajfaidaa
open Go D
set_option linter.unusedVariables false
set_option linter.unusedSimpArgs false
namespace Snap
open Disk Enc Hash

def fitsM (n b : Int) : Bool := decide (1 ≤ n) && (decide (0 ≤ b) && decide (b / 256 + min (b % 256) 1 ≤ n - 1))

theorem fits_spec {h : Heap} {n b : Int} (hn : InI n) (hb : InI b) {R : Bool → Heap → Prop} (hk : R (fitsM n b) h) : CallT Try.prog snap_Fits_no [.int .i64 n, .int .i64 b] h [.sc .bool] R := by
  apply snap_Fits_call
  simp only [snap_Fits]
  unfold InI at hn hb
  unfold fitsM at hk
  refine withJ.inl ?_
  refine cnd_dec (fun h1 => ?_) (fun h1 => ?_)
  · have e1 : decide (1 ≤ n) = true := by simpa using h1
    rw [e1, Bool.true_and] at hk
    refine cnd_dec (fun h2 => ?_) (fun h2 => ?_)
    · have e2 : decide (0 ≤ b) = true := by simpa using h2
      rw [e2, Bool.true_and] at hk
      have e3 : w64 (b.tdiv 256) = b / 256 := by rw [Int.tdiv_eq_ediv_of_nonneg h2, w64_id (by omega) (by omega)]
      have e4 : minI (b.tmod 256) 1 = min (b % 256) 1 := by
        rw [Int.tmod_eq_emod_of_nonneg h2]
        unfold minI
        split <;> omega
      rw [e3, e4, w64_id (x := b / 256 + min (b % 256) 1) (by omega) (by omega), w64_id (x := n - 1) (by omega) (by omega)]
      exact hk
    · have e2 : decide (0 ≤ b) = false := by simp; omega
      rw [e2, Bool.false_and] at hk
      exact hk
  · have e1 : decide (1 ≤ n) = false := by simp; omega
    rw [e1, Bool.false_and] at hk
    exact hk

/-- may the two slots lie there? -/
def okAt (l : Nat) (fr n : Int) : Prop := 1 ≤ n ∧ 0 ≤ fr ∧ fr ≤ l ∧ n ≤ (l - fr) / 2
instance (l : Nat) (fr n : Int) : Decidable (okAt l fr n) := by unfold okAt; infer_instance

theorem check_spec {mu im : Nat → Prop} {h : Heap} {p : Nat} {m : M} (hr : Rep h p mu im m) {fr n : Int} (hf : InI fr) (hn : InI n) {R : Int → Heap → Prop} (hyes : okAt m.l.length fr n → R 0 h) (hno : ¬ okAt m.l.length fr n → R 1 h) :
    CallT Try.prog snap_check_no [.pointer (some ⟨p, 0, none⟩), .int .i64 fr, .int .i64 n] h [.sc (.int .i64)] R := by
  apply snap_check_call
  simp only [snap_check]
  unfold InI at hf hn
  have hle := hr.le
  refine withJ.inl (withJ.inl ?_)
  refine cnd_f rfl ?_
  refine cnd_dec (fun h1 => cnd_t rfl (hno (fun ha => by have := ha.1; omega))) (fun h1 => ?_)
  refine cnd_dec (fun h2 => cnd_t rfl (hno (fun ha => by have := ha.2.1; omega))) (fun h2 => ?_)
  refine size_spec hr ?_
  refine cnd_dec (fun h3 => cnd_t rfl (hno (fun ha => by have := ha.2.2.1; omega))) (fun h3 => ?_)
  refine size_spec hr ?_
  have e1 : w64 ((m.l.length : Int) - fr) = m.l.length - fr := w64_id (by omega) (by omega)
  have e2 : w64 (((m.l.length : Int) - fr).tdiv 2) = (m.l.length - fr) / 2 := by rw [Int.tdiv_eq_ediv_of_nonneg (by omega), w64_id (by omega) (by omega)]
  rw [e1, e2]
  refine cnd_dec (fun h4 => hno (fun ha => by have := ha.2.2.2; omega)) (fun h4 => hyes ⟨by omega, by omega, by omega, by omega⟩)

/-! ### a slot's head -/
def mid (e l : Nat) : List UInt8 := p64 e ++ p64 l
def headL (e : Nat) (st : List UInt8) : List UInt8 := [83, 78, 65, 80] ++ (be4W (crcF (mid e st.length ++ st)) ++ mid e st.length)
theorem mid_length (e l : Nat) : (mid e l).length = 16 := by simp [mid, p64_length]
theorem headL_length (e : Nat) (st : List UInt8) : (headL e st).length = 24 := by simp [headL, be4W, mid_length]

theorem head_spec {h : Heap} {a : Option Addr} {l c e : Nat} {st : List UInt8} (hb : Rb h a l st) (hl : l ≤ 100000000) {R : Sl → Heap → Prop}
    (hk : ∀ s h', s.len = 256 → Bl h' s.a s.len s.cap (headL e st ++ List.replicate 232 0) → (∀ b, blk s.a b → h.size ≤ b) → Keep (fun _ => False) h h' → R s h') :
    CallT Try.prog snap_head_no [.int .u64 (e : Int), .slice a l c] h [.sc .sl] R := by
  have hcall := snap_head_call (epoch_0 := (e : Int)) (state_1 := ⟨a, l, c⟩) (R := R) (h := h)
  apply hcall
  simp only [snap_head]
  have hlen := hb.len
  refine put64_spec ?_
  intro h1 b1 k1 s1
  have el : IntKind.u64.wrap (l : Int) = l := wrap_u64_id (by omega) (by omega)
  rw [el]
  refine put64_spec ?_
  intro h2 b2 k2 s2
  refine b2.rb.rd ?_
  have b1' : Bl h2 (some ⟨h.size, 0, none⟩) 8 8 (p64 e) := SlR.keep b1 k2 (fun _ _ h => h)
  refine b1'.push (new := p64 l) (by show 8 + 8 ≤ _; omega) (by rw [p64_length]) rfl ?_
  intro a3 c3 h3 w1 w2 w3
  have n3 : ∀ b, blk a3 b → h.size ≤ b := fun b hb' => by
    rcases w3 b hb' with hh | hh
    · rw [blk_some] at hh; simp only at hh; omega
    · omega
  have k03 : Keep (fun y => h.size ≤ y) h h3 := ((k1.trans' k2).mono (T := fun y => h.size ≤ y) (fun _ _ h => h.elim)).trans w2 (fun y _ hy => by rw [blk_some] at hy; simp only at hy; show h.size ≤ y; omega)
  have z3 := k03.size
  have w1m : Bl h3 a3 16 c3 (mid e l) := w1
  obtain ⟨x3, hx3, hsp3⟩ : ∃ x, a3 = some x ∧ x.spot = none := by
    obtain ⟨x, hx, hs, _⟩ := (w1m.rb).2 0 _ (List.getElem?_eq_getElem (by simp [mid_length]))
    exact ⟨x, hx, hs⟩
  have hc3 := SlR.le w1m
  refine ⟨by omega, by omega, by omega, by omega, ?_⟩
  have e16 : (if (16 : Int) = 0 then a3 else a3.map (·.add ((0 : Int).toNat * 1))) = a3 := by
    rw [if_neg (by decide), hx3]
    show some (x3.add 0) = some x3
    rw [add_zero]
  rw [e16]
  show rdCells a (l * 1) h3 fun cs13 => app _ 5 1 1 a3 16 16 cs13 l h3 _
  have hb3 : Rb h3 a l st := hb.keep k03 (fun h0 b hb' hge => by have := hb.lt h0 hb'; have hge' : h.size ≤ b := hge; omega)
  refine hb3.rd ?_
  have w16 : Bl h3 a3 16 16 (mid e l) := by
    rcases w1m with ⟨rfl, _⟩ | ⟨b, o, cs, e1, e2, e3, e4, e5, e6⟩
    · cases hx3
    · exact .inr ⟨b, o, cs, e1, e2, Nat.le_refl _, by omega, e5, e6⟩
  refine w16.push2 (new := st) (by omega) hlen rfl ?_
  intro a4 c4 h4 v1 v2 v3 v4
  have n4 : ∀ b, blk a4 b → h.size ≤ b := fun b hb' => by
    rcases v3 b hb' with hh | hh
    · exact n3 b hh
    · omega
  have k04 : Keep (fun y => h.size ≤ y) h h4 := k03.trans v2 (fun y _ hy => n3 y hy)
  refine crc_spec v1.rb (by omega) ?_
  have hml : st.length = l := hlen.symm
  rw [← hml]
  refine lit_row ?_
  intro h5 s5 r5 k5
  rw [be4W_cells]
  refine newB_row ?_
  intro h6 s6 r6 k6
  refine ldRow_row r6 (by simp [be4W]) ?_
  rw [List.drop_zero, List.take_of_length_le (by simp [be4W])]
  have z4 := k04.size
  have b5 : Bl h6 (some ⟨h4.size, 0, none⟩) 4 4 [83, 78, 65, 80] := SlR.keep (S := fun _ => False) (h := h5) (.inr ⟨h4.size, 0, _, rfl, r5, by simp, by simp, by simp, by simp; exact ⟨rfl, rfl, rfl, rfl⟩⟩) k6 (fun _ _ h => h)
  refine b5.push (new := be4W _) (by omega) rfl rfl ?_
  intro a7 c7 h7 t1 t2 t3
  have n7 : ∀ b, blk a7 b → h.size ≤ b ∧ ¬ blk a3 b := fun b hb' => by
    have : h4.size ≤ b := by
      rcases t3 b hb' with hh | hh
      · rw [blk_some] at hh; simp only at hh; omega
      · omega
    refine ⟨by omega, fun hh => ?_⟩
    have h1 := SlR.blk_lt w1m hh
    have h2 := v2.size
    omega
  have hmid7 : Rb h7 a3 16 (mid e l) := ((v4.keep k5 (fun _ _ _ h => h)).keep k6 (fun _ _ _ h => h)).keep t2 (fun _ b hb' hh => by
    rw [blk_some] at hh
    have h1 := SlR.blk_lt w1m hb'
    have h2 := v2.size
    simp only at hh
    omega)
  refine hmid7.rd ?_
  refine t1.push (new := mid e l) (by show (4 + 4) + (8 + 8) ≤ _; omega) (by rw [mid_length]; rfl) rfl ?_
  intro a8 c8 h8 q1 q2 q3
  refine ⟨by omega, by omega, ?_⟩
  have zr : zerosL [.int .u8 0] (232 : Int).toNat = (List.replicate 232 (0 : UInt8)).map byteV := by
    rw [zerosL_one, List.map_replicate]; rfl
  rw [zr]
  refine q1.push (new := List.replicate 232 0) (by show ((4 + 4) + (8 + 8)) + 232 ≤ _; omega) (by rw [List.length_replicate]; rfl) rfl ?_
  intro a9 c9 h9 y1 y2 y3
  have z7 := t2.size
  have z8 := q2.size
  have n8 : ∀ b, blk a8 b → h.size ≤ b := fun b hb' => by
    rcases q3 b hb' with hh | hh
    · exact (n7 b hh).1
    · omega
  refine hk _ h9 rfl ?_ (fun b hb' => ?_) ?_
  · unfold headL
    rw [hml]
    have e : ([83, 78, 65, 80] ++ be4W (crcF (mid e l ++ st)) ++ mid e l ++ List.replicate 232 (0 : UInt8)) = ([83, 78, 65, 80] ++ (be4W (crcF (mid e l ++ st)) ++ mid e l) ++ List.replicate 232 0) := by simp
    rw [← e]
    rw [hml] at y1
    exact y1
  · rcases y3 b hb' with hh | hh
    · exact n8 b hh
    · omega
  · have kk : Keep (fun y => h.size ≤ y) h h9 := ((((k04.trans k5 (fun _ _ h => h.elim)).trans k6 (fun _ _ h => h.elim)).trans t2 (fun y _ hy => by rw [blk_some] at hy; simp only at hy; show h.size ≤ y; omega)).trans q2 (fun y _ hy => (n7 y hy).1)).trans y2 (fun y _ hy => n8 y hy)
    exact ⟨kk.size, fun b hb' _ => kk.same b hb' (by omega)⟩

/-! ### Save -/
def wr (at_ : Int) (st : List UInt8) : Nat → M → Int × M
  | 0, m => (0, m)
  | i + 1, m => if (wr at_ st i m).1 ≠ 0 then wr at_ st i m else write (wr at_ st i m).2 (at_ + 1 + i) (ofL (secL st i))
theorem wr_stop {at_ : Int} {st : List UInt8} {m : M} {i : Nat} (h : (wr at_ st i m).1 ≠ 0) : ∀ j, i ≤ j → wr at_ st j m = wr at_ st i m
  | 0, hj => by
    have : i = 0 := by omega
    subst this; rfl
  | j + 1, hj => by
    by_cases e : i = j + 1
    · rw [e]
    · have ih := wr_stop h j (by omega)
      show (if (wr at_ st j m).1 ≠ 0 then wr at_ st j m else _) = _
      rw [ih, if_pos h]
theorem wr_len (at_ : Int) (st : List UInt8) (m : M) : ∀ i, (wr at_ st i m).2.l.length = m.l.length ∧ (wr at_ st i m).2.c.length ≤ m.c.length + i
  | 0 => ⟨rfl, Nat.le_refl _⟩
  | i + 1 => by
    obtain ⟨h1, h2⟩ := wr_len at_ st m i
    show (if _ then _ else _ : Int × M).2.l.length = _ ∧ (if _ then _ else _ : Int × M).2.c.length ≤ _
    split
    · exact ⟨h1, by omega⟩
    · have := write_len (wr at_ st i m).2 (at_ + 1 + i) (ofL (secL st i))
      exact ⟨by omega, by omega⟩
def parts (l : Nat) : Nat := (l + 255) / 256
def headS (e : Nat) (st : List UInt8) : ByteArray := ofL (headL e st ++ List.replicate 232 0)
def saveAt (m : M) (at_ : Int) (e : Nat) (st : List UInt8) : Int × M :=
  let r := wr at_ st (parts st.length) m
  if r.1 ≠ 0 then r else
  let f := flush r.2
  if f.1 ≠ 0 then f else
  let w := write f.2 at_ (headS e st)
  if w.1 ≠ 0 then w else flush w.2
def saveM (m : M) (fr n : Int) (e : Nat) (st : List UInt8) : Int × M :=
  if ¬ okAt m.l.length fr n then (1, m) else if fitsM n st.length = false then (60, m) else saveAt m (fr + ((e % 2 : Nat) : Int) * n) e st

theorem save_spec {mu im : Nat → Prop} {h : Heap} {p : Nat} {m : M} (hr : Rep h p mu im m) (hc : m.c.length ≤ 900000) {fr n : Int} (hf : InI fr) (hn : InI n) {e : Nat} (he : e < 18446744073709551616) {a : Option Addr} {l c : Nat} {st : List UInt8} (hb : Rb h a l st) (hcap : l ≤ c) (hli : (l : Int) ≤ 9223372036854775807)
    (hfar : 0 < l → ∀ b, blk a b → ¬ mu b) {R : Int → Heap → Prop}
    (hk : ∀ mu' im' h', Rep h' p mu' im' (saveM m fr n e st).2 → Keep mu h h' → Grew h mu im mu' im' → R (saveM m fr n e st).1 h') :
    CallT Try.prog snap_Save_no [.pointer (some ⟨p, 0, none⟩), .int .i64 fr, .int .i64 n, .int .u64 (e : Int), .slice a l c] h [.sc (.int .i64)] R := by
  have hcall := snap_Save_call (x_0 := some ⟨p, 0, none⟩) (x_1 := fr) (x_2 := n) (x_3 := (e : Int)) (x_4 := ⟨a, l, c⟩) (R := R) (h := h)
  apply hcall
  simp only [snap_Save]
  have hlen := hb.len
  subst hlen
  have hle := hr.le
  unfold saveM at hk
  refine check_spec hr hf hn (fun hok => ?_) (fun hno => ?_)
  rotate_left
  · rw [if_pos hno] at hk
    exact cnd_t rfl (hk mu im h hr (.refl _ _) (.same _ _ _))
  rw [if_neg (by simpa using hok)] at hk
  refine cnd_f rfl ?_
  refine fits_spec hn ⟨by omega, by omega⟩ ?_
  by_cases hfit : fitsM n (st.length : Int) = false
  · rw [if_pos hfit] at hk
    exact cnd_t (by rw [hfit]; rfl) (hk mu im h hr (.refl _ _) (.same _ _ _))
  rw [if_neg hfit] at hk
  refine cnd_f (by simpa using hfit) ?_
  have hfit' : 1 ≤ n ∧ (st.length : Int) / 256 + min ((st.length : Int) % 256) 1 ≤ n - 1 := by
    have : fitsM n (st.length : Int) = true := by simpa using hfit
    unfold fitsM at this
    simp only [Bool.and_eq_true, decide_eq_true_eq] at this
    exact ⟨this.1, this.2.2⟩
  obtain ⟨o1, o2, o3, o4⟩ := hok
  have hpl : ((parts st.length : Nat) : Int) ≤ n - 1 := by unfold parts; omega
  obtain ⟨at_, hat⟩ : ∃ at_, at_ = fr + ((e % 2 : Nat) : Int) * n := ⟨_, rfl⟩
  rw [← hat] at hk
  have he2 : ((e % 2 : Nat) : Int) = 0 ∨ ((e % 2 : Nat) : Int) = 1 := by omega
  have hat2 : fr ≤ at_ ∧ at_ ≤ fr + n := by
    rcases he2 with h0 | h0 <;> rw [h0] at hat <;> omega
  have eat : w64 (fr + w64 (w64 ((e : Int).tmod 2) * n)) = at_ := by
    have e1 : w64 ((e : Int).tmod 2) = ((e % 2 : Nat) : Int) := by rw [Int.tmod_eq_emod_of_nonneg (by omega), w64_id (by omega) (by omega)]; omega
    rw [e1]
    have e2 : ((e % 2 : Nat) : Int) * n = at_ - fr := by omega
    rw [e2, w64_id (x := at_ - fr) (by omega) (by omega), w64_id (by omega) (by omega)]
    omega
  simp only [eat]
  unfold saveAt at hk
  refine LoopT.intro (fun i h' => 0 ≤ i ∧ i ≤ parts st.length ∧ (wr at_ st i.toNat m).1 = 0 ∧ ∃ mu' im', Rep h' p mu' im' (wr at_ st i.toNat m).2 ∧ Keep mu h h' ∧ Grew h mu im mu' im') (fun i _ => ((parts st.length : Nat) - i).toNat) ⟨by omega, by omega, rfl, mu, im, hr, .refl _ _, .same _ _ _⟩ ?_
  rintro i h1 ⟨q1, q2, q3, mu1, im1, r1, k1, g1⟩
  have hb1 : Rb h1 a st.length st := hb.keep k1 hfar
  have wl := wr_len at_ st m i.toNat
  have z1 := k1.size
  have hw256 : w64 (i * 256) = i * 256 := w64_id (by omega) (by omega)
  rw [hw256]
  refine cnd_dec (fun hi => ?_) (fun hi => ?_)
  · have hi' : 256 * i.toNat < st.length := by omega
    have hip : i < parts st.length := by unfold parts; omega
    refine mkBytes (by decide) (by decide) ?_
    intro h2 s2 b2 k2
    have hb2 : Rb h2 a st.length st := hb1.keep k2 (fun _ _ _ h => h)
    refine hb2.sub (by omega) (by omega) (by omega) (by omega) (by omega) ?_
    intro a3 hb3 hblk3
    rw [show ((st.length : Int) - i * 256).toNat = st.length - 256 * i.toNat by omega, show (i * 256).toNat = 256 * i.toNat by omega, List.take_of_length_le (by rw [List.length_drop]; omega)] at hb3
    rw [show ((st.length : Int) - i * 256).toNat = st.length - 256 * i.toNat by omega]
    -- the first 256 of them
    have hmin : Nat.min (st.length - 256 * i.toNat) ((256 : Int).toNat) = ((st.drop (256 * i.toNat)).take 256).length := by
      rw [List.length_take, List.length_drop]
      show min (st.length - 256 * i.toNat) 256 = _
      omega
    rw [hmin]
    have hb4 : Rb h2 a3 ((st.drop (256 * i.toNat)).take 256).length ((st.drop (256 * i.toNat)).take 256) := by
      refine ⟨by simp, fun j v hv => hb3.2 j v ?_⟩
      rw [List.map_take, List.getElem?_take] at hv
      split at hv
      · exact hv
      · cases hv
    refine hb4.rd ?_
    refine SlR.over b2 (by rw [List.length_map, List.length_take]; show _ ≤ 256 * 1; omega) (fun v hv => by obtain ⟨x, _, rfl⟩ := List.mem_map.1 hv; rfl) ?_
    intro h3 s3 w3 k3
    have bs3 : Bs h3 (some ⟨h1.size, 0, none⟩) 256 256 (ofL (secL st i.toNat)) := by
      unfold Bs
      rw [ofL_bytes]
      unfold secL
      rw [List.map_append, List.map_replicate]
      rw [bytesV_noughts, List.length_map, List.drop_replicate] at w3
      exact w3
    have k13 : Keep (fun _ => False) h1 h3 := k2.trans k3 (fun y hy e => by
      have e' : y = h1.size := e
      omega)
    have r3 := r1.keep k13 (fun _ _ h => h) (fun _ _ h => h)
    have eidx : w64 (w64 (at_ + 1) + i) = at_ + 1 + i.toNat := by
      rw [w64_id (x := at_ + 1) (by omega) (by omega), w64_id (by omega) (by omega)]
      omega
    rw [eidx]
    have hsz : (ofL (secL st i.toNat)).size = 256 := by
      show (secL st i.toNat).toArray.size = 256
      simp [secL_length]
    refine write_spec r3 (i := at_ + 1 + i.toNat) (by unfold InI; omega) bs3 (by omega) (by omega) (fun b hb' hm => ?_) ?_
    · rw [blk_some] at hb'
      have := r1.lt b (.inl hm)
      simp only at hb'
      omega
    · intro mu4 im4 h4 r4 k4 g4
      have ew : wr at_ st (i.toNat + 1) m = write (wr at_ st i.toNat m).2 (at_ + 1 + i.toNat) (ofL (secL st i.toNat)) := by
        show (if (wr at_ st i.toNat m).1 ≠ 0 then wr at_ st i.toNat m else _) = _
        rw [if_neg (by omega)]
      rw [← ew] at r4 ⊢
      have k04 : Keep mu h h4 := (k1.trans k13 (fun _ _ h => h.elim)).trans k4 (fun y hy hm => by
        rcases g1.1 y hm with hh | hh
        · exact hh
        · omega)
      have z3 := k13.size
      have g04 : Grew h mu im mu4 im4 := ⟨fun b hb' => by
          rcases g4.1 b hb' with hh | hh
          · exact g1.1 b hh
          · exact .inr (by omega), fun b hb' => by
          rcases g4.2 b hb' with hh | hh
          · exact g1.2 b hh
          · exact .inr (by omega)⟩
      by_cases hz : (wr at_ st (i.toNat + 1) m).1 ≠ 0
      · refine cnd_t (by simpa using hz) ?_
        have est := wr_stop hz (parts st.length) (by omega)
        rw [est, if_pos hz] at hk
        exact hk mu4 im4 h4 r4 k04 g04
      · refine cnd_f (by simpa using hz) ?_
        rw [w64_id (x := i + 1) (by omega) (by omega)]
        have e1 : (i + 1).toNat = i.toNat + 1 := by omega
        refine ⟨⟨by omega, by omega, by rw [e1]; omega, mu4, im4, by rw [e1]; exact r4, k04, g04⟩, by omega⟩
  · have hip : i.toNat = parts st.length := by
      unfold parts at q2 ⊢
      omega
    rw [hip] at q3 r1 wl
    rw [if_neg (by omega)] at hk
    obtain ⟨m1, hm1⟩ : ∃ m1, m1 = (wr at_ st (parts st.length) m).2 := ⟨_, rfl⟩
    rw [← hm1] at r1 hk wl
    refine flush_spec r1 (by omega) ?_
    intro h2 r2 k2
    have fl := flush_len m1
    have k02 : Keep mu h h2 := k1.trans k2 (fun y hy hm => by
      rcases g1.1 y hm with hh | hh
      · exact hh
      · omega)
    by_cases hz : (flush m1).1 ≠ 0
    · rw [if_pos hz] at hk
      exact cnd_t (by simpa using hz) (hk mu1 im1 h2 r2 k02 g1)
    rw [if_neg hz] at hk
    refine cnd_f (by simpa using hz) ?_
    have hb2 : Rb h2 a st.length st := hb1.keep k2 (fun h0 b hb' hm => by
      rcases g1.1 b hm with hh | hh
      · exact hfar h0 b hb' hh
      · have := hb.lt h0 hb'
        omega)
    refine head_spec hb2 (by omega) ?_
    intro s h3 sl3 b3 n3 k3
    have r3 := r2.keep k3 (fun _ _ h => h) (fun _ _ h => h)
    have bs3 : Bs h3 s.a s.len s.cap (headS e st) := Bl.bs b3
    have hsz : (headS e st).size = 256 := by
      have := bs3.len
      omega
    obtain ⟨m2, hm2⟩ : ∃ m2, m2 = (flush m1).2 := ⟨_, rfl⟩
    rw [← hm2] at r3 hk fl
    have hlt2 : ∀ b, mu1 b → b < h2.size := fun b hb' => r2.lt b (.inl hb')
    refine write_spec r3 (i := at_) (by unfold InI; omega) bs3 (by omega) (by omega) (fun b hb' hm => by have := n3 b hb'; have := hlt2 b hm; omega) ?_
    intro mu4 im4 h4 r4 k4 g4
    have z2 := k2.size
    have z3 := k3.size
    have k04 : Keep mu h h4 := (k02.trans k3 (fun _ _ h => h.elim)).trans k4 (fun y hy hm => by
      rcases g1.1 y hm with hh | hh
      · exact hh
      · omega)
    have g04 : Grew h mu im mu4 im4 := ⟨fun b hb' => by
        rcases g4.1 b hb' with hh | hh
        · exact g1.1 b hh
        · exact .inr (by omega), fun b hb' => by
        rcases g4.2 b hb' with hh | hh
        · exact g1.2 b hh
        · exact .inr (by omega)⟩
    have wl2 := write_len m2 at_ (headS e st)
    by_cases hz2 : (write m2 at_ (headS e st)).1 ≠ 0
    · rw [if_pos hz2] at hk
      exact cnd_t (by simpa using hz2) (hk mu4 im4 h4 r4 k04 g04)
    rw [if_neg hz2] at hk
    refine cnd_f (by simpa using hz2) ?_
    refine flush_spec r4 (by omega) ?_
    intro h5 r5 k5
    exact hk mu4 im4 h5 r5 (k04.trans k5 (fun y hy hm => by
      rcases g04.1 y hm with hh | hh
      · exact hh
      · omega)) g04

end Snap
namespace Snap
open Disk Enc Hash

/-- the sectors from one on, put together -/
def rdN (m : M) (at_ : Int) : Nat → List UInt8
  | 0 => []
  | i + 1 => rdN m at_ i ++ (readAt m (at_ + 1 + i)).data.toList
def hdr (m : M) (at_ : Int) : List UInt8 := (readAt m at_).data.toList
def hE (m : M) (at_ : Int) : Nat := g64 (((hdr m at_).drop 8).take 8)
def hN (m : M) (at_ : Int) : Nat := g64 (((hdr m at_).drop 16).take 8)
def hBad (m : M) (at_ n : Int) (odd : Nat) : Bool := !decide ((hdr m at_).take 4 = [83, 78, 65, 80]) || (decide (hE m at_ % 2 ≠ odd) || decide ((n - 1) * 256 < (hN m at_ : Int)))
def hSt (m : M) (at_ : Int) : List UInt8 := (rdN m at_ (parts (hN m at_))).take (hN m at_)
/-- a slot: its state, its epoch, whether it is whole -/
def slotM (m : M) (at_ n : Int) (odd : Nat) : List UInt8 × Nat × Bool :=
  if hBad m at_ n odd then ([], 0, false) else (hSt m at_, hE m at_, decide (headL (hE m at_) (hSt m at_) = (hdr m at_).take 24))

theorem rdN_length {m : M} {at_ : Int} (hs : ∀ i : Int, at_ < i → (readAt m i).data.toList.length = 256) : ∀ k, (rdN m at_ k).length = 256 * k
  | 0 => rfl
  | k + 1 => by
    show (rdN m at_ k ++ _).length = _
    rw [List.length_append, rdN_length hs k, hs _ (by omega)]
    omega

theorem slot_spec {mu im : Nat → Prop} {h : Heap} {p : Nat} {m : M} (hr : Disk.Rep h p mu im m) (hc : m.c.length ≤ 1000000) {at_ n : Int} (h0 : 0 ≤ at_) (h1 : 1 ≤ n) (h2 : at_ + n ≤ m.l.length) {odd : Nat} (hodd : odd < 2) {R : Sl × Int × Bool × Int → Heap → Prop}
    (hdead : m.st = 2 → R (⟨none, 0, 0⟩, 0, false, 50) h)
    (hk : m.st ≠ 2 → ∀ s h', Rb h' s.a s.len (slotM m at_ n odd).1 → s.len ≤ s.cap → Keep (fun _ => False) h h' → R (s, ((slotM m at_ n odd).2.1 : Int), (slotM m at_ n odd).2.2, 0) h') :
    CallT Try.prog snap_slot_no [.pointer (some ⟨p, 0, none⟩), .int .i64 at_, .int .i64 n, .int .u64 (odd : Int)] h [.sc .sl, .sc (.int .u64), .sc .bool, .sc (.int .i64)] R := by
  apply snap_slot_call
  simp only [snap_slot]
  have hle := hr.le
  obtain ⟨z1, z2⟩ := Rep.secs hr
  by_cases hst : m.st = 2
  · have e : readErr m at_ = 50 := by unfold readErr; rw [if_pos hst]
    refine read_spec hr hc (i := at_) (by unfold InI; omega) (fun _ => ?_) (fun e' => by rw [e] at e'; cases e')
    rw [e]
    exact cnd_t rfl (hdead hst)
  have hk := hk hst
  have rd0 : ∀ i : Int, 0 ≤ i → i < m.l.length → readErr m i = 0 := fun i a b => by unfold readErr; rw [if_neg hst, if_neg (by omega)]
  refine read_spec hr hc (i := at_) (by unfold InI; omega) (fun e' => absurd (rd0 at_ h0 (by omega)) e') ?_
  intro _ b h3 hb1 hb2 bs3 r3 k3
  refine cnd_f rfl ?_
  have hd : Rb h3 (some ⟨b, 0, none⟩) 256 (hdr m at_) := bs3.rb
  have hdl : (hdr m at_).length = 256 := by have := hd.len; omega
  refine hd.sub (cap := 256) (mx := ((256 : Nat) : Int)) (by omega) (by omega) (by omega) (by omega) (by omega) ?_
  intro a4 w4 _
  refine get64_spec (bs := ((hdr m at_).drop 8).take 8) w4 ?_
  refine hd.sub (cap := 256) (mx := ((256 : Nat) : Int)) (by omega) (by omega) (by omega) (by omega) (by omega) ?_
  intro a5 w5 _
  refine get64_spec (bs := ((hdr m at_).drop 16).take 8) w5 ?_
  refine withJ.inl (withJ.inl ?_)
  refine hd.sub (cap := 256) (mx := ((256 : Nat) : Int)) (by omega) (by omega) (by omega) (by omega) (by omega) ?_
  intro a6 w6 _
  have w6' : Rb h3 a6 4 ((hdr m at_).take 4) := w6
  refine Rb.str w6' ?_
  obtain ⟨E, hE'⟩ : ∃ E, E = hE m at_ := ⟨_, rfl⟩
  obtain ⟨N, hN'⟩ : ∃ N, N = hN m at_ := ⟨_, rfl⟩
  have eE : g64 (((hdr m at_).drop 8).take 8) = E := hE'.symm
  have eN : g64 (((hdr m at_).drop 16).take 8) = N := hN'.symm
  simp only [eE, eN]
  have bad : ∀ {X : Prop}, hBad m at_ n odd = true → (R (⟨none, 0, 0⟩, 0, false, 0) h3 → X) → X := by
    intro X hb hx
    refine hx ?_
    have := hk ⟨none, 0, 0⟩ h3
    unfold slotM at this
    rw [if_pos hb] at this
    exact this (SlR.nil h3 1).rv (Nat.le_refl _) k3
  have e4 : seq (⟨((hdr m at_).take 4).toArray⟩ : ByteArray) (⟨#[83, 78, 65, 80]⟩ : ByteArray) = decide ((hdr m at_).take 4 = [83, 78, 65, 80]) := seq_ofL _ [83, 78, 65, 80]
  rw [e4]
  have hE64 := g64_lt (((hdr m at_).drop 8).take 8)
  have hN64 := g64_lt (((hdr m at_).drop 16).take 8)
  rw [eE, List.length_take, List.length_drop, hdl] at hE64
  rw [eN, List.length_take, List.length_drop, hdl] at hN64
  refine cnd_of (fun hb => ?_) (fun hb => ?_)
  · refine bad ?_ (fun hx => cnd_t rfl hx)
    unfold hBad
    rw [hb, Bool.true_or]
  have em : ((E : Int).tmod 2 != (odd : Int)) = decide (E % 2 ≠ odd) := by
    rw [Int.tmod_eq_emod_of_nonneg (by omega), Bool.eq_iff_iff]
    simp only [bne_iff_ne, ne_eq, decide_eq_true_eq]
    omega
  rw [em]
  refine cnd_of (fun hb2' => ?_) (fun hb2' => ?_)
  · refine bad ?_ (fun hx => cnd_t rfl hx)
    unfold hBad
    rw [← hE', hb2', Bool.true_or, Bool.or_true]
  have ew : IntKind.u64.wrap (w64 (w64 (n - 1) * 256)) = (n - 1) * 256 := by
    rw [w64_id (x := n - 1) (by omega) (by omega), w64_id (by omega) (by omega), wrap_u64_id (by omega) (by omega)]
  rw [ew]
  refine cnd_of (fun hb3 => ?_) (fun hb3 => ?_)
  · refine bad ?_ (fun hx => hx)
    unfold hBad
    have : decide ((n - 1) * 256 < (hN m at_ : Int)) = true := by
      rw [← hN']
      simpa using hb3
    rw [this, Bool.or_true, Bool.or_true]
  have hNn : (N : Int) ≤ (n - 1) * 256 := by simpa using hb3
  have good : hBad m at_ n odd = false := by
    unfold hBad
    have e3 : decide ((n - 1) * 256 < (hN m at_ : Int)) = false := by rw [← hN']; simp; omega
    rw [hb, ← hE', hb2', e3]
    rfl
  have szs : ∀ i : Int, (readAt m i).data.toList.length = 256 := fun i => readAt_size z1 z2 i
  have rl := rdN_length (m := m) (at_ := at_) (fun i _ => szs i)
  have hpn : ((parts N : Nat) : Int) ≤ n - 1 := by unfold parts; omega
  refine LoopT.intro (fun (t : Sl × Int) h' => 1 ≤ t.2 ∧ t.2 ≤ parts N + 1 ∧ t.1.len = 256 * (t.2 - 1).toNat ∧ Bl h' t.1.a t.1.len t.1.cap (rdN m at_ (t.2 - 1).toNat) ∧ (∀ y, blk t.1.a y → h3.size ≤ y) ∧ Keep (fun y => h3.size ≤ y) h3 h') (fun t _ => ((parts N + 1 : Nat) - t.2).toNat)
    ⟨by simp, by simp; omega, by simp, SlR.nil _ _, (fun b hb' => by obtain ⟨x, hx, _⟩ := hb'; cases hx), .refl _ _⟩ ?_
  rintro ⟨s, i⟩ h5 ⟨p1, p2, p3, p4, p5, p6⟩
  replace p1 : 1 ≤ i := p1
  replace p2 : i ≤ parts N + 1 := p2
  replace p3 : s.len = 256 * (i - 1).toNat := p3
  replace p4 : Bl h5 s.a s.len s.cap (rdN m at_ (i - 1).toNat) := p4
  replace p5 : ∀ y, blk s.a y → h3.size ≤ y := p5
  have r5 : Disk.Rep h5 p mu im m := r3.keep p6 (fun b hb' hge => by have := r3.lt b (.inl hb'); have hge' : h3.size ≤ b := hge; omega) (fun b hb' hge => by have := r3.lt b (.inr hb'); have hge' : h3.size ≤ b := hge; omega)
  have hd5 : Rb h5 (some ⟨b, 0, none⟩) 256 (hdr m at_) := hd.keep p6 (fun _ y hy hge => by
    rw [blk_some] at hy
    have hge' : h3.size ≤ y := hge
    simp only at hy
    omega)
  have esl : IntKind.u64.wrap (s.len : Int) = s.len := wrap_u64_id (by omega) (by omega)
  rw [esl]
  have z5 := p6.size
  refine cnd_dec (fun hi => ?_) (fun hi => ?_)
  · replace hi : (s.len : Int) < N := hi
    have hip : i ≤ parts N := by unfold parts; omega
    have eat : w64 (at_ + i) = at_ + 1 + ((i - 1).toNat : Int) := by rw [w64_id (by omega) (by omega)]; omega
    rw [eat]
    refine read_spec r5 hc (i := at_ + 1 + ((i - 1).toNat : Int)) (by unfold InI; omega) (fun e' => absurd (rd0 _ (by omega) (by omega)) e') ?_
    intro _ b6 h6 hb61 hb62 bs6 r6 k6
    refine cnd_f rfl ?_
    have hbl6 : Rb h6 (some ⟨b6, 0, none⟩) 256 (readAt m (at_ + 1 + ((i - 1).toNat : Int))).data.toList := bs6.rb
    refine hbl6.rd ?_
    have p4' : Bl h6 s.a s.len s.cap _ := SlR.keep p4 k6 (fun _ _ h => h)
    refine p4'.push (new := (readAt m (at_ + 1 + ((i - 1).toNat : Int))).data.toList) (by show s.len + 256 ≤ _; omega) (szs _).symm rfl ?_
    intro a7 c7 h7 v1 v2 v3
    have z6 := k6.size
    show (1 ≤ w64 (i + 1) ∧ w64 (i + 1) ≤ parts N + 1 ∧ s.len + 256 = 256 * (w64 (i + 1) - 1).toNat ∧ Bl h7 a7 (s.len + 256) c7 (rdN m at_ (w64 (i + 1) - 1).toNat) ∧ (∀ y, blk a7 y → h3.size ≤ y) ∧ Keep (fun y => h3.size ≤ y) h3 h7) ∧ ((parts N + 1 : Nat) - w64 (i + 1)).toNat < ((parts N + 1 : Nat) - i).toNat
    rw [w64_id (x := i + 1) (by omega) (by omega)]
    have e1 : (i + 1 - 1).toNat = (i - 1).toNat + 1 := by omega
    refine ⟨⟨by omega, by omega, by omega, by rw [e1]; exact v1, fun y hy => ?_, (p6.trans k6 (fun _ _ h => h.elim)).trans v2 (fun y _ hy => p5 y hy)⟩, by omega⟩
    rcases v3 y hy with hh | hh
    · exact p5 y hh
    · omega
  · replace hi : ¬ (s.len : Int) < N := hi
    have hip : (i - 1).toNat = parts N := by
      unfold parts at p2 ⊢
      omega
    rw [hip] at p4 p3
    have hcap := SlR.le p4
    refine p4.rb.sub (by omega) (by omega) (by show (N : Int) ≤ s.len; omega) (by omega) (by show (N : Int) ≤ s.cap; omega) ?_
    intro a8 w8 wb8
    rw [show ((N : Int) - 0).toNat = N by omega] at w8 ⊢
    have w8' : Rb h5 a8 N (hSt m at_) := by
      unfold hSt
      rw [← hN']
      exact w8
    refine hd5.sub (cap := 256) (mx := ((256 : Nat) : Int)) (by omega) (by omega) (by omega) (by omega) (by omega) ?_
    intro a9 w9 wb9
    have w9' : Rb h5 a9 24 ((hdr m at_).take 24) := w9
    refine Rb.str w9' ?_
    have hstl := w8'.len
    refine head_spec (e := E) w8' (by omega) ?_
    intro s10 h10 sl10 b10 n10 k10
    refine ⟨Rb.str (Rv.keep w9' k10 (fun _ _ _ h => h)) rfl, ?_⟩
    have hc10 := SlR.le b10
    refine b10.rb.sub (by omega) (by omega) (by rw [sl10]; omega) (by omega) (by omega) ?_
    intro a11 w11 _
    have w11' : Rb h10 a11 24 (headL E (hSt m at_)) := by
      have e : ((headL E (hSt m at_) ++ List.replicate 232 (0 : UInt8)).drop (0 : Int).toNat).take ((24 : Int) - 0).toNat = headL E (hSt m at_) := by
        show ((headL E (hSt m at_) ++ List.replicate 232 (0 : UInt8)).drop 0).take 24 = _
        rw [List.drop_zero, List.take_left' (headL_length _ _)]
      rw [← e]
      exact w11
    refine Rb.str w11' ?_
    rw [seq_ofL]
    have := hk ⟨a8, N, N⟩ h10
    unfold slotM at this
    rw [if_neg (by simp [good])] at this
    rw [hE']
    refine this (Rv.keep w8' k10 (fun _ _ _ h => h)) (Nat.le_refl _) ?_
    have kk := (k3.mono (T := fun y => h3.size ≤ y) (fun _ _ h => h.elim)).trans (p6.trans k10 (fun _ _ h => h.elim)) (fun _ _ h => h)
    have z3 := k3.size
    exact ⟨kk.size, fun y hy _ => kk.same y hy (by omega)⟩

/-! ### Load -/
/-- the better of what is there and a slot -/
def better (best : List UInt8 × Nat × Bool) (s : List UInt8 × Nat × Bool) : List UInt8 × Nat × Bool :=
  if s.2.2 && (!best.2.2 || decide (best.2.1 < s.2.1)) then (s.1, s.2.1, true) else best
def bestM (m : M) (fr n : Int) : List UInt8 × Nat × Bool := better (better ([], 0, false) (slotM m fr n 0)) (slotM m (fr + n) n 1)
def loadM (m : M) (fr n : Int) : List UInt8 × Nat × Int :=
  if ¬ okAt m.l.length fr n then ([], 0, 1) else if m.st = 2 then ([], 0, 50) else if (bestM m fr n).2.2 then ((bestM m fr n).1, (bestM m fr n).2.1, 0) else ([], 0, 61)

theorem load_spec {mu im : Nat → Prop} {h : Heap} {p : Nat} {m : M} (hr : Disk.Rep h p mu im m) (hc : m.c.length ≤ 1000000) {fr n : Int} (hf : InI fr) (hn : InI n) {R : Sl × Int × Int → Heap → Prop}
    (hk : ∀ s h', Rb h' s.a s.len (loadM m fr n).1 → s.len ≤ s.cap → Disk.Rep h' p mu im m → Keep (fun _ => False) h h' → R (s, ((loadM m fr n).2.1 : Int), (loadM m fr n).2.2) h') :
    CallT Try.prog snap_Load_no [.pointer (some ⟨p, 0, none⟩), .int .i64 fr, .int .i64 n] h [.sc .sl, .sc (.int .u64), .sc (.int .i64)] R := by
  apply snap_Load_call
  simp only [snap_Load]
  have hle := hr.le
  unfold loadM at hk
  refine check_spec hr hf hn (fun hok => ?_) (fun hno => ?_)
  rotate_left
  · rw [if_pos hno] at hk
    exact cnd_t rfl (hk ⟨none, 0, 0⟩ h (SlR.nil h 1).rv (Nat.le_refl _) hr (.refl _ _))
  rw [if_neg (by simpa using hok)] at hk
  refine cnd_f rfl ?_
  obtain ⟨o1, o2, o3, o4⟩ := hok
  have o5 : fr + 2 * n ≤ m.l.length := by omega
  let acc : Nat → List UInt8 × Nat × Bool := fun k => if k = 0 then ([], 0, false) else if k = 1 then better ([], 0, false) (slotM m fr n 0) else bestM m fr n
  refine LoopT.intro (fun (t : Sl × Int × Bool × Int) h' => 0 ≤ t.2.2.2 ∧ t.2.2.2 ≤ 2 ∧ (0 < t.2.2.2 → m.st ≠ 2) ∧ t.2.1 = ((acc t.2.2.2.toNat).2.1 : Int) ∧ t.2.2.1 = (acc t.2.2.2.toNat).2.2 ∧ (Rb h' t.1.a t.1.len (acc t.2.2.2.toNat).1 ∧ t.1.len ≤ t.1.cap) ∧ Keep (fun _ => False) h h') (fun t _ => (2 - t.2.2.2).toNat)
    ⟨by simp, by simp, by simp, rfl, rfl, ⟨(SlR.nil h 1).rv, Nat.le_refl _⟩, .refl _ _⟩ ?_
  rintro ⟨s, top, has, k⟩ h1 ⟨p1, p2, p3, p4, p5, ⟨p6, pc⟩, p7⟩
  replace p1 : 0 ≤ k := p1
  replace p2 : k ≤ 2 := p2
  replace p3 : 0 < k → m.st ≠ 2 := p3
  replace p4 : top = ((acc k.toNat).2.1 : Int) := p4
  replace p5 : has = (acc k.toNat).2.2 := p5
  replace p6 : Rb h1 s.a s.len (acc k.toNat).1 := p6
  replace pc : s.len ≤ s.cap := pc
  subst p4 p5
  have r1 := hr.keep p7 (fun _ _ h => h) (fun _ _ h => h)
  refine cnd_dec (fun hk2 => ?_) (fun hk2 => ?_)
  · replace hk2 : k < 2 := hk2
    refine withJ.inl ?_
    have hkn : k = 0 ∨ k = 1 := by omega
    have ekn : w64 (k * n) = k * n := by rcases hkn with e | e <;> subst e <;> rw [w64_id (by omega) (by omega)]
    have efr : w64 (fr + w64 (k * n)) = fr + k * n := by
      rw [ekn]
      rcases hkn with e | e <;> subst e <;> rw [w64_id (by omega) (by omega)]
    have eu : IntKind.u64.wrap k = ((k.toNat : Nat) : Int) := by rw [wrap_u64_id (by omega) (by omega)]; omega
    show CallT Try.prog snap_slot_no [.pointer (some ⟨p, 0, none⟩), .int .i64 (w64 (fr + w64 (k * n))), .int .i64 n, .int .u64 (IntKind.u64.wrap k)] h1 _ _
    rw [efr, eu]
    refine slot_spec r1 hc (at_ := fr + k * n) (by rcases hkn with e | e <;> subst e <;> omega) o1 (by rcases hkn with e | e <;> subst e <;> omega) (by omega) (fun hst => ?_) (fun hst s2 h2 w1 wc k2 => ?_)
    · rw [if_pos hst] at hk
      exact cnd_t rfl (hk ⟨none, 0, 0⟩ h1 (SlR.nil h1 1).rv (Nat.le_refl _) r1 p7)
    · refine cnd_f rfl ?_
      obtain ⟨S, hS⟩ : ∃ S, S = slotM m (fr + k * n) n k.toNat := ⟨_, rfl⟩
      rw [← hS] at w1 ⊢
      have hw : w64 (k + 1) = k + 1 := w64_id (by omega) (by omega)
      have hacc : acc (k + 1).toNat = better (acc k.toNat) S := by
        rcases hkn with e | e
        · subst e
          rw [hS]
          show better ([], 0, false) (slotM m fr n 0) = better ([], 0, false) (slotM m (fr + 0 * n) n 0)
          rw [Int.zero_mul, Int.add_zero]
        · subst e
          rw [hS]
          show bestM m fr n = better (better ([], 0, false) (slotM m fr n 0)) (slotM m (fr + 1 * n) n 1)
          rw [Int.one_mul]
          rfl
      have p62 := Rv.keep p6 k2 (fun _ _ _ h => h)
      -- both ways out
      have out : ∀ (s3 : Sl) (e3 : Int) (b3 : Bool), Rb h2 s3.a s3.len (better (acc k.toNat) S).1 → s3.len ≤ s3.cap → e3 = ((better (acc k.toNat) S).2.1 : Int) → b3 = (better (acc k.toNat) S).2.2 → (0 ≤ w64 (k + 1) ∧ w64 (k + 1) ≤ 2 ∧ (0 < w64 (k + 1) → m.st ≠ 2) ∧ e3 = ((acc (w64 (k + 1)).toNat).2.1 : Int) ∧ b3 = (acc (w64 (k + 1)).toNat).2.2 ∧ (Rb h2 s3.a s3.len (acc (w64 (k + 1)).toNat).1 ∧ s3.len ≤ s3.cap) ∧ Keep (fun _ => False) h h2) ∧ (2 - w64 (k + 1)).toNat < (2 - k).toNat := by
        intro s3 e3 b3 u1 uc u2 u3
        rw [hw, hacc]
        exact ⟨⟨by omega, by omega, fun _ => hst, u2, u3, ⟨u1, uc⟩, p7.trans' k2⟩, by omega⟩
      have take : (S.2.2 && (!(acc k.toNat).2.2 || decide ((acc k.toNat).2.1 < S.2.1))) = true → _ := fun hc' => out s2 (S.2.1 : Int) true (by unfold better; rw [if_pos hc']; exact w1) wc (by unfold better; rw [if_pos hc']) (by unfold better; rw [if_pos hc'])
      have stay : (S.2.2 && (!(acc k.toNat).2.2 || decide ((acc k.toNat).2.1 < S.2.1))) = false → _ := fun hc' => out s ((acc k.toNat).2.1 : Int) (acc k.toNat).2.2 (by unfold better; rw [if_neg (by simp [hc'])]; exact p62) pc (by unfold better; rw [if_neg (by simp [hc'])]) (by unfold better; rw [if_neg (by simp [hc'])])
      refine withJ.inl ?_
      refine cnd_of (fun c1 => ?_) (fun c1 => ?_)
      · refine cnd_of (fun c2 => ?_) (fun c2 => ?_)
        · refine cnd_t rfl (take ?_)
          replace c1 : S.2.2 = true := c1
          replace c2 : (!(acc k.toNat).2.2) = true := c2
          rw [c1, c2]; rfl
        · replace c1 : S.2.2 = true := c1
          replace c2 : (!(acc k.toNat).2.2) = false := c2
          show cnd (decide ((S.2.1 : Int) > ((acc k.toNat).2.1 : Int))) _ _
          refine cnd_dec (fun c3 => take ?_) (fun c3 => stay ?_)
          · rw [c1, c2]
            simp; omega
          · rw [c1, c2]
            simp; omega
      · refine cnd_f rfl (stay ?_)
        replace c1 : S.2.2 = false := c1
        rw [c1]; rfl
  · have hk2' : k = 2 := by
      have : ¬ k < 2 := hk2
      omega
    subst hk2'
    rw [if_neg (p3 (by omega))] at hk
    show cnd (!(bestM m fr n).2.2) _ _
    cases hb : (bestM m fr n).2.2
    · rw [hb] at hk
      exact cnd_t rfl (hk ⟨none, 0, 0⟩ h1 (SlR.nil h1 1).rv (Nat.le_refl _) r1 p7)
    · rw [hb] at hk
      exact cnd_f rfl (hk s h1 p6 pc r1 p7)

end Snap
namespace Snap
open Disk Enc Hash

def m8 : M := ⟨List.replicate (8 : Int).toNat (noughts 256), [], 0, 0⟩
theorem aw1 : loadM m8 0 4 = ([], 0, 61) := by decide +kernel
theorem aw2 : (saveM m8 0 4 1 [97, 98, 99]).1 = 0 := by decide +kernel
theorem aw3 : loadM (saveM m8 0 4 1 [97, 98, 99]).2 0 4 = ([97, 98, 99], 1, 0) := by decide +kernel
theorem aw4 : (saveM m8 0 4 1 [97, 98, 99]).2.c.length = 0 := by decide +kernel

end Snap
namespace Enc
end Enc
namespace Snap
open Disk Enc Hash

/-- the writes of a state's sectors -/
def dat (at_ : Int) (st : List UInt8) (n : Nat) : List (Int × ByteArray) := (List.range n).map fun (j : Nat) => (at_ + 1 + (j : Int), ofL (secL st j))
theorem dat_succ (at_ : Int) (st : List UInt8) (n : Nat) : dat at_ st (n + 1) = dat at_ st n ++ [(at_ + 1 + (n : Int), ofL (secL st n))] := by
  unfold dat
  rw [List.range_succ, List.map_append]
  rfl
theorem dat_mem {at_ : Int} {st : List UInt8} {n : Nat} {x : Int × ByteArray} (h : x ∈ dat at_ st n) : ∃ j, j < n ∧ x = (at_ + 1 + (j : Int), ofL (secL st j)) := by
  unfold dat at h
  obtain ⟨j, hj, rfl⟩ := List.mem_map.1 h
  exact ⟨j, by simpa using hj, rfl⟩
theorem lk_dat (at_ : Int) (st : List UInt8) (i : Int) (z : ByteArray) : ∀ n : Nat, lk (dat at_ st n) i z = if at_ < i ∧ i < at_ + 1 + n then ofL (secL st (i - at_ - 1).toNat) else z
  | 0 => by
    rw [if_neg (by omega)]; rfl
  | n + 1 => by
    rw [dat_succ, lk_append, lk_one, lk_dat at_ st i z n]
    by_cases e : at_ + 1 + (n : Int) = i
    · rw [if_pos e, if_pos (by omega)]
      have : (i - at_ - 1).toNat = n := by omega
      rw [this]
    · rw [if_neg e]
      by_cases e2 : at_ < i ∧ i < at_ + 1 + n
      · rw [if_pos e2, if_pos (by omega)]
      · rw [if_neg e2, if_neg (by omega)]

theorem wr_c (at_ : Int) (st : List UInt8) (m : M) : ∀ i : Nat, (wr at_ st i m).2.l = m.l ∧ ((wr at_ st i m).1 = 0 → (wr at_ st i m).2.c = m.c ++ dat at_ st i) ∧ ∃ j, j ≤ i ∧ (wr at_ st i m).2.c = m.c ++ dat at_ st j
  | 0 => ⟨rfl, fun _ => (by simp [dat, wr]), 0, Nat.le_refl _, by simp [dat, wr]⟩
  | i + 1 => by
    obtain ⟨h1, h2, j, h3, h4⟩ := wr_c at_ st m i
    by_cases e : (wr at_ st i m).1 = 0
    · have ew : wr at_ st (i + 1) m = write (wr at_ st i m).2 (at_ + 1 + i) (ofL (secL st i)) := by
        show (if _ then _ else _) = _
        rw [if_neg (by simpa using e)]
      rw [ew]
      obtain ⟨w1, w2, w3⟩ := write_c (wr at_ st i m).2 (at_ + 1 + i) (ofL (secL st i))
      have hc := h2 e
      refine ⟨by rw [w1, h1], fun h => by rw [w2 h, hc, dat_succ, List.append_assoc], ?_⟩
      by_cases ez : (write (wr at_ st i m).2 (at_ + 1 + i) (ofL (secL st i))).1 = 0
      · exact ⟨i + 1, Nat.le_refl _, by rw [w2 ez, hc, dat_succ, List.append_assoc]⟩
      · exact ⟨i, by omega, by rw [w3 ez, hc]⟩
    · have ew : wr at_ st (i + 1) m = wr at_ st i m := by
        show (if _ then _ else _) = _
        rw [if_pos e]
      rw [ew]
      exact ⟨h1, fun h => absurd h e, j, by omega, h4⟩

/-- what is seen once all is written -/
def newS (at_ : Int) (e : Nat) (st : List UInt8) (i : Int) (z : ByteArray) : ByteArray := if i = at_ then headS e st else if at_ < i ∧ i < at_ + 1 + (parts st.length : Int) then ofL (secL st (i - at_ - 1).toNat) else z

theorem dat_pos {at_ : Int} (h : 0 ≤ at_) {st : List UInt8} {n : Nat} : ∀ x ∈ dat at_ st n, 0 ≤ x.1 := fun x hx => by
  obtain ⟨j, _, rfl⟩ := dat_mem hx
  show 0 ≤ at_ + 1 + (j : Int)
  omega

theorem saveAt_eq (m : M) (at_ : Int) (e : Nat) (st : List UInt8) : saveAt m at_ e st = (if (wr at_ st (parts st.length) m).1 ≠ 0 then wr at_ st (parts st.length) m else
  if (flush (wr at_ st (parts st.length) m).2).1 ≠ 0 then flush (wr at_ st (parts st.length) m).2 else
  if (write (flush (wr at_ st (parts st.length) m).2).2 at_ (headS e st)).1 ≠ 0 then write (flush (wr at_ st (parts st.length) m).2).2 at_ (headS e st) else flush (write (flush (wr at_ st (parts st.length) m).2).2 at_ (headS e st)).2) := rfl

theorem save_plain {m : M} (hc : m.c = []) {at_ : Int} (h0 : 0 ≤ at_) (e : Nat) (st : List UInt8) (h1 : at_ + parts st.length < m.l.length) :
    (saveAt m at_ e st).2.l.length = m.l.length ∧ ((saveAt m at_ e st).1 = 0 → (saveAt m at_ e st).2.c = [] ∧ ∀ i : Int, 0 ≤ i → i < m.l.length → readAt (saveAt m at_ e st).2 i = newS at_ e st i (readAt m i)) ∧
    ((saveAt m at_ e st).1 ≠ 0 → ∀ ks, (∀ i : Int, 0 ≤ i → i < m.l.length → (i < at_ ∨ at_ + parts st.length < i) → readAt (crash (saveAt m at_ e st).2 ks) i = readAt m i) ∧
      (readAt (crash (saveAt m at_ e st).2 ks) at_ = readAt m at_ ∨ ∀ i : Int, at_ ≤ i → i ≤ at_ + parts st.length → readAt (crash (saveAt m at_ e st).2 ks) i = newS at_ e st i (readAt m i))) := by
  have hrd : ∀ i, readAt m i = sec m.l i := fun i => by rw [readAt_lk, hc]; rfl
  obtain ⟨w1, w2, j, w3, w4⟩ := wr_c at_ st m (parts st.length)
  rw [hc, List.nil_append] at w4
  -- a device of which only some sectors were written
  have part : ∀ m' : M, m'.l = m.l → m'.c = dat at_ st j → ∀ ks, (∀ i : Int, 0 ≤ i → i < m.l.length → (i < at_ ∨ at_ + parts st.length < i) → readAt (crash m' ks) i = readAt m i) ∧
      (readAt (crash m' ks) at_ = readAt m at_ ∨ ∀ i : Int, at_ ≤ i → i ≤ at_ + parts st.length → readAt (crash m' ks) i = newS at_ e st i (readAt m i)) := by
    intro m' e1 e2 ks
    have key : ∀ i : Int, 0 ≤ i → i < m.l.length → (i ≤ at_ ∨ at_ + parts st.length < i) → readAt (crash m' ks) i = readAt m i := fun i g0 g1 g2 => by
      rcases crash_poss (m := m') ks g0 (by rw [e1]; exact g1) (by rw [e2]; exact dat_pos h0) with h | ⟨x, hx, h2, h3⟩
      · rw [h, e1, hrd]
      · rw [e2] at hx
        obtain ⟨k, hk, rfl⟩ := dat_mem hx
        replace h2 : at_ + 1 + (k : Int) = i := h2
        omega
    exact ⟨fun i g0 g1 g2 => key i g0 g1 (by omega), .inl (key at_ h0 (by omega) (by omega))⟩
  by_cases e1 : (wr at_ st (parts st.length) m).1 = 0
  rotate_left
  · rw [show saveAt m at_ e st = wr at_ st (parts st.length) m by rw [saveAt_eq, if_pos e1]]
    exact ⟨by rw [w1], fun h => absurd h e1, fun _ ks => part _ w1 w4 ks⟩
  have hc1 := w2 e1
  rw [hc, List.nil_append] at hc1
  obtain ⟨r, hr⟩ : ∃ r, r = (wr at_ st (parts st.length) m).2 := ⟨_, rfl⟩
  rw [← hr] at w1 w4 hc1
  have hl1 : r.l.length = m.l.length := by rw [w1]
  have rpos : ∀ x ∈ r.c, 0 ≤ x.1 := by rw [hc1]; exact dat_pos h0
  have rrd : ∀ i, readAt r i = if at_ < i ∧ i < at_ + 1 + (parts st.length : Int) then ofL (secL st (i - at_ - 1).toNat) else readAt m i := fun i => by
    rw [readAt_lk, hc1, lk_dat, w1, hrd]
  by_cases e2 : (flush r).1 = 0
  rotate_left
  · rw [show saveAt m at_ e st = flush r by rw [saveAt_eq, if_neg (Classical.not_not.2 e1), ← hr, if_pos e2]]
    obtain ⟨f1, f2⟩ := (flush_c r).2 e2
    exact ⟨by rw [f1, hl1], fun h => absurd h e2, fun _ ks => part _ (by rw [f1, w1]) (by rw [f2, w4]) ks⟩
  obtain ⟨f1, f2⟩ := (flush_c r).1 e2
  obtain ⟨f, hf⟩ : ∃ f, f = (flush r).2 := ⟨_, rfl⟩
  rw [← hf] at f1 f2
  have hl2 : f.l.length = m.l.length := by rw [f1, lays_length, hl1]
  have frd : ∀ i : Int, 0 ≤ i → i < m.l.length → sec f.l i = if at_ < i ∧ i < at_ + 1 + (parts st.length : Int) then ofL (secL st (i - at_ - 1).toNat) else readAt m i := fun i g0 g1 => by
    rw [hf, flush_view e2 g0 (by rw [hl1]; exact g1) rpos, rrd]
  obtain ⟨v1, v2, v3⟩ := write_c f at_ (headS e st)
  -- a device of which all is flushed but the head
  have late : ∀ m' : M, m'.l = f.l → (m'.c = [] ∨ m'.c = [(at_, headS e st)]) → ∀ ks, (∀ i : Int, 0 ≤ i → i < m.l.length → (i < at_ ∨ at_ + parts st.length < i) → readAt (crash m' ks) i = readAt m i) ∧
      (readAt (crash m' ks) at_ = readAt m at_ ∨ ∀ i : Int, at_ ≤ i → i ≤ at_ + parts st.length → readAt (crash m' ks) i = newS at_ e st i (readAt m i)) := by
    intro m' g1 g2 ks
    have pos : ∀ x ∈ m'.c, 0 ≤ x.1 := by
      rcases g2 with g | g <;> rw [g] <;> intro x hx
      · cases hx
      · simp only [List.mem_singleton] at hx
        subst hx
        exact h0
    have key : ∀ i : Int, 0 ≤ i → i < m.l.length → i ≠ at_ → readAt (crash m' ks) i = sec f.l i := fun i q0 q1 q2 => by
      rcases crash_poss (m := m') ks q0 (by rw [g1, hl2]; exact q1) pos with h | ⟨x, hx, h2, h3⟩
      · rw [h, g1]
      · rcases g2 with g | g <;> rw [g] at hx
        · cases hx
        · simp only [List.mem_singleton] at hx
          subst hx
          exact absurd h2 (fun e => q2 e.symm)
    refine ⟨fun i q0 q1 q2 => by rw [key i q0 q1 (by omega), frd i q0 q1, if_neg (by omega)], ?_⟩
    have hat : readAt (crash m' ks) at_ = readAt m at_ ∨ readAt (crash m' ks) at_ = headS e st := by
      rcases crash_poss (m := m') ks h0 (by rw [g1, hl2]; omega) pos with h | ⟨x, hx, h2, h3⟩
      · left
        rw [h, g1, frd at_ h0 (by omega), if_neg (by omega)]
      · right
        rcases g2 with g | g <;> rw [g] at hx
        · cases hx
        · simp only [List.mem_singleton] at hx
          subst hx
          exact h3.symm
    rcases hat with h | h
    · exact .inl h
    · refine .inr (fun i q1 q2 => ?_)
      unfold newS
      by_cases ei : i = at_
      · rw [if_pos ei, ei, h]
      · rw [if_neg ei, key i (by omega) (by omega) ei, frd i (by omega) (by omega)]
  by_cases e3 : (write f at_ (headS e st)).1 = 0
  rotate_left
  · rw [show saveAt m at_ e st = write f at_ (headS e st) by rw [saveAt_eq, if_neg (Classical.not_not.2 e1), ← hr, if_neg (Classical.not_not.2 e2), ← hf, if_pos e3]]
    exact ⟨by rw [v1, hl2], fun h => absurd h e3, fun _ ks => late _ v1 (.inl (by rw [v3 e3, f2])) ks⟩
  have hc3 := v2 e3
  rw [f2, List.nil_append] at hc3
  obtain ⟨g, hg⟩ : ∃ g, g = (write f at_ (headS e st)).2 := ⟨_, rfl⟩
  rw [← hg] at v1 hc3
  rw [show saveAt m at_ e st = flush g by rw [saveAt_eq, if_neg (Classical.not_not.2 e1), ← hr, if_neg (Classical.not_not.2 e2), ← hf, if_neg (Classical.not_not.2 e3), ← hg]]
  by_cases e4 : (flush g).1 = 0
  rotate_left
  · obtain ⟨q1, q2⟩ := (flush_c g).2 e4
    exact ⟨by rw [q1, v1, hl2], fun h => absurd h e4, fun _ ks => late _ (by rw [q1, v1]) (.inr (by rw [q2, hc3])) ks⟩
  obtain ⟨q1, q2⟩ := (flush_c g).1 e4
  refine ⟨by rw [q1, lays_length, v1, hl2], fun _ => ⟨q2, fun i p0 p1 => ?_⟩, fun h => absurd e4 h⟩
  rw [readAt_lk, q2]
  show sec (flush g).2.l i = _
  rw [flush_view e4 p0 (by rw [v1, hl2]; exact p1) (by rw [hc3]; intro x hx; simp only [List.mem_singleton] at hx; subst hx; exact h0), readAt_lk, hc3, lk_one, v1, frd i p0 p1]
  unfold newS
  by_cases ei : at_ = i
  · rw [if_pos ei, if_pos ei.symm]
  · rw [if_neg ei, if_neg (show ¬ i = at_ from fun h => ei h.symm)]
    try omega

/-! ### a slot -/
theorem slot_congr {m m' : M} {at_ n : Int} (h : ∀ i, at_ ≤ i → i < at_ + n → readAt m' i = readAt m i) (hn : 1 ≤ n) (odd : Nat) : slotM m' at_ n odd = slotM m at_ n odd := by
  have h0 : hdr m' at_ = hdr m at_ := by unfold hdr; rw [h at_ (by omega) (by omega)]
  have hE' : hE m' at_ = hE m at_ := by unfold hE; rw [h0]
  have hN' : hN m' at_ = hN m at_ := by unfold hN; rw [h0]
  have hB : hBad m' at_ n odd = hBad m at_ n odd := by unfold hBad; rw [h0, hE', hN']
  unfold slotM
  rw [hB]
  by_cases hb : hBad m at_ n odd = true
  · rw [if_pos hb, if_pos hb]
  · rw [if_neg hb, if_neg hb]
    have hle : ¬ ((n - 1) * 256 < (hN m at_ : Int)) := by
      unfold hBad at hb
      simp only [Bool.or_eq_true, decide_eq_true_eq, not_or] at hb
      exact hb.2.2
    have hR : ∀ k, k ≤ parts (hN m at_) → rdN m' at_ k = rdN m at_ k := by
      intro k
      induction k with
      | zero => intro _; rfl
      | succ k ih =>
        intro hk
        show rdN m' at_ k ++ _ = rdN m at_ k ++ _
        have hkn : (k : Int) + 1 ≤ n - 1 := by unfold parts at hk; omega
        rw [ih (by omega), h _ (by omega) (by omega)]
    have hS : hSt m' at_ = hSt m at_ := by unfold hSt; rw [hN', hR _ (Nat.le_refl _)]
    rw [hE', hS, h0]

/-- whose head it is -/
theorem slot_head {m m' : M} {at_ n : Int} (h : readAt m' at_ = readAt m at_) (odd : Nat) : ((slotM m' at_ n odd).2.2 = true → hBad m at_ n odd = false ∧ (slotM m' at_ n odd).2.1 = hE m at_) := by
  have h0 : hdr m' at_ = hdr m at_ := by unfold hdr; rw [h]
  have hE' : hE m' at_ = hE m at_ := by unfold hE; rw [h0]
  have hN' : hN m' at_ = hN m at_ := by unfold hN; rw [h0]
  have hB : hBad m' at_ n odd = hBad m at_ n odd := by unfold hBad; rw [h0, hE', hN']
  unfold slotM
  rw [hB]
  cases hb : hBad m at_ n odd
  · intro _
    rw [if_neg (by simp)]
    exact ⟨rfl, hE'⟩
  · rw [if_pos rfl]
    intro h
    cases h

theorem secL_join (st : List UInt8) : ∀ k, 256 * k ≤ st.length + 255 → ∃ z, (List.range k).flatMap (secL st) = st.take (256 * k) ++ z ∧ (256 * k ≤ st.length → z = [])
  | 0, _ => ⟨[], by simp, fun _ => rfl⟩
  | k + 1, h => by
    obtain ⟨z, h1, h2⟩ := secL_join st k (by omega)
    have hz := h2 (by omega)
    subst hz
    rw [List.append_nil] at h1
    refine ⟨List.replicate (256 - ((st.drop (256 * k)).take 256).length) 0, ?_, fun hk => ?_⟩
    · rw [List.range_succ, List.flatMap_append, h1, List.flatMap_singleton]
      unfold secL
      rw [← List.append_assoc, show 256 * (k + 1) = 256 * k + 256 by omega, List.take_add]
    · have : ((st.drop (256 * k)).take 256).length = 256 := by rw [List.length_take, List.length_drop]; omega
      rw [this]; rfl

theorem slot_whole {m : M} {at_ n : Int} {e : Nat} {st : List UInt8} {odd : Nat} (he : e < 18446744073709551616) (ho : e % 2 = odd) (hl : st.length ≤ (n - 1) * 256) (hlb : st.length < 18446744073709551616)
    (h : ∀ i : Int, at_ ≤ i → i ≤ at_ + parts st.length → ∃ z, readAt m i = newS at_ e st i z) : slotM m at_ n odd = (st, e, true) := by
  have h0 : hdr m at_ = headL e st ++ List.replicate 232 0 := by
    obtain ⟨z, hz⟩ := h at_ (by omega) (by omega)
    unfold hdr
    rw [hz]
    unfold newS headS
    rw [if_pos rfl, data_ofL]
  have hmid : ∀ r, (headL e st ++ r).drop 8 = mid e st.length ++ r := fun r => by simp [headL, be4W]
  have hE' : hE m at_ = e := by
    unfold hE
    rw [h0, hmid]
    unfold mid
    rw [List.append_assoc, List.take_left' (p64_length _), g64_p64 he]
  have hN' : hN m at_ = st.length := by
    unfold hN
    have : (headL e st ++ List.replicate 232 (0 : UInt8)).drop 16 = p64 st.length ++ List.replicate 232 0 := by
      rw [show (16 : Nat) = 8 + 8 by rfl, ← List.drop_drop, hmid]
      unfold mid
      rw [List.append_assoc, List.drop_left' (p64_length _)]
    rw [h0, this, List.take_left' (p64_length _), g64_p64 hlb]
  have hB : hBad m at_ n odd = false := by
    unfold hBad
    rw [hE', hN', h0]
    have : (headL e st ++ List.replicate 232 (0 : UInt8)).take 4 = [83, 78, 65, 80] := by simp [headL]
    rw [this]
    simp only [decide_true, Bool.not_true, Bool.false_or, Bool.or_eq_false_iff, decide_eq_false_iff_not]
    exact ⟨by simpa using ho, by omega⟩
  have hR : ∀ k, k ≤ parts st.length → rdN m at_ k = (List.range k).flatMap (secL st) := by
    intro k
    induction k with
    | zero => intro _; rfl
    | succ k ih =>
      intro hk
      rw [List.range_succ, List.flatMap_append, List.flatMap_singleton, ← ih (by omega)]
      show rdN m at_ k ++ _ = _
      obtain ⟨z, hz⟩ := h (at_ + 1 + k) (by omega) (by omega)
      rw [hz]
      unfold newS
      rw [if_neg (by omega), if_pos (by omega), data_ofL]
      have : (at_ + 1 + (k : Int) - at_ - 1).toNat = k := by omega
      rw [this]
  have hS : hSt m at_ = st := by
    unfold hSt
    rw [hN', hR _ (Nat.le_refl _)]
    obtain ⟨z, h1, h2⟩ := secL_join st (parts st.length) (by unfold parts; omega)
    rw [h1, List.take_of_length_le (l := st) (by unfold parts; omega), List.take_left' rfl]
  unfold slotM
  rw [hB, hE', hS, h0, List.take_left' (headL_length e st)]
  simp

/-- no slot where noughts are -/
theorem slot_blank {m : M} {at_ n : Int} (h : readAt m at_ = noughts 256) (odd : Nat) : hBad m at_ n odd = true := by
  have h0 : (hdr m at_).take 4 = [0, 0, 0, 0] := by unfold hdr; rw [h]; rfl
  unfold hBad
  rw [h0]
  rfl

/-! ### what is loaded -/
theorem load_newest {m : M} {fr n : Int} (hok : okAt m.l.length fr n) (hst : m.st ≠ 2) {E : Nat} {st : List UInt8} (h1 : slotM m (fr + ((E % 2 : Nat) : Int) * n) n (E % 2) = (st, E, true))
    (h2 : (slotM m (fr + (((E + 1) % 2 : Nat) : Int) * n) n ((E + 1) % 2)).2.2 = true → (slotM m (fr + (((E + 1) % 2 : Nat) : Int) * n) n ((E + 1) % 2)).2.1 < E) : loadM m fr n = (st, E, 0) := by
  have hb : bestM m fr n = (st, E, true) := by
    unfold bestM
    rcases Nat.mod_two_eq_zero_or_one E with e | e
    · have e' : (E + 1) % 2 = 1 := by omega
      rw [e] at h1
      rw [e'] at h2
      have q1 : fr + ((0 : Nat) : Int) * n = fr := by omega
      have q2 : fr + ((1 : Nat) : Int) * n = fr + n := by omega
      rw [q1] at h1
      rw [q2] at h2
      rw [h1]
      show better (st, E, true) _ = _
      unfold better
      rw [if_neg]
      simp only [Bool.and_eq_true, Bool.not_true, Bool.false_or, decide_eq_true_eq]
      rintro ⟨g1, g2⟩
      have := h2 g1
      omega
    · have e' : (E + 1) % 2 = 0 := by omega
      rw [e] at h1
      rw [e'] at h2
      have q1 : fr + ((0 : Nat) : Int) * n = fr := by omega
      have q2 : fr + ((1 : Nat) : Int) * n = fr + n := by omega
      rw [q2] at h1
      rw [q1] at h2
      rw [h1]
      show (if (true && (!(better ([], 0, false) (slotM m fr n 0)).2.2 || decide ((better ([], 0, false) (slotM m fr n 0)).2.1 < E))) = true then (st, E, true) else _) = _
      rw [if_pos]
      unfold better
      cases hs : (slotM m fr n 0).2.2
      · simp
      · have := h2 hs
        simp [this]
  unfold loadM
  rw [if_neg (Classical.not_not.2 hok), if_neg hst, hb]
  rfl

theorem load_none {m : M} {fr n : Int} (hok : okAt m.l.length fr n) (hst : m.st ≠ 2) (h1 : (slotM m fr n 0).2.2 = false) (h2 : (slotM m (fr + n) n 1).2.2 = false) : loadM m fr n = ([], 0, 61) := by
  have e1 : better ([], 0, false) (slotM m fr n 0) = ([], 0, false) := by unfold better; rw [h1]; rfl
  have hb : bestM m fr n = ([], 0, false) := by
    unfold bestM
    rw [e1]
    unfold better
    rw [h2]
    rfl
  unfold loadM
  rw [if_neg (Classical.not_not.2 hok), if_neg hst, hb]
  rfl

end Snap
def stateOf (h : Heap) (a : Option Addr) (i : Nat) : List UInt8 := match a with
  | none => []
  | some x => match cellH h (x.add (i * 1)) with
    | some (.slice a' l' _) => bytesAt h a' l'
    | _ => []
def StatesAt (h : Heap) (a : Option Addr) (l : Nat) : Prop := ∀ i : Nat, i < l → ∃ x a' l' c', a = some x ∧ cellH h (x.add (i * 1)) = some (.slice a' l' c') ∧ Rb h a' l' (stateOf h a i) ∧ l' ≤ c' ∧ (c' : Int) ≤ 9223372036854775807

theorem states_of {h : Heap} {a : Option Addr} {l c n : Nat} (hs : InSl 1 (InSl 1 (InInt .u8)) h n [.slice a l c]) : StatesAt h a l := by
  rcases hs with h1 | ⟨x, l', c', h1, h2, h3, h4, h5⟩
  · injection h1 with h1
    injection h1 with h1 h2 h3
    subst h2
    intro i hi
    omega
  · injection h1 with h1
    injection h1 with e1 e2 e3
    subst e1 e2 e3
    intro i hi
    obtain ⟨r, b, g1, _, g2, g3⟩ := h5 i (by omega)
    have hg := g2 0 (by omega)
    rw [add_zero] at hg
    obtain ⟨a', l', c', hr⟩ : ∃ a' l' c', r = [.slice a' l' c'] := by
      rcases g3 with e | ⟨y, l', c', e, _⟩
      · exact ⟨none, 0, 0, e⟩
      · exact ⟨_, _, _, e⟩
    have hcap : c' ≤ maxLen := by
      rcases g3 with e | ⟨y, l'', c'', e, _, e2, _⟩
      · rw [hr] at e
        injection e with e
        injection e with e1 e2 e3
        subst e3
        exact Nat.zero_le _
      · rw [hr] at e
        injection e with e
        injection e with e1 e2' e3
        subst e3
        exact e2
    subst hr
    obtain ⟨b1, b2, _⟩ := bytes_of g3
    replace hg : cellH h (x.add (i * 1)) = some (.slice a' l' c') := hg
    have e : stateOf h (some x) i = bytesAt h a' l' := by
      unfold stateOf
      simp only [hg]
    exact ⟨x, a', l', c', rfl, hg, by rw [e]; exact b1, b2, by unfold maxLen at hcap; omega⟩

/-- one of them, later -/
theorem StatesAt.get {h h' : Heap} {a : Option Addr} {l : Nat} (hs : StatesAt h a l) (hk : Keep (fun y => h.size ≤ y) h h') {i : Int} (h0 : 0 ≤ i) (h1 : i < l) {K : Option Addr → Nat → Nat → Prop}
    (hK : ∀ a' l' c', Rb h' a' l' (stateOf h a i.toNat) → l' ≤ c' → (c' : Int) ≤ 9223372036854775807 → (∀ b, 0 < l' → blk a' b → b < h.size) → K a' l' c') : idx a l i fun x => ldL (x.add (i.toNat * 1)) h' K := by
  obtain ⟨x, a', l', c', e1, e2, e3, e4, e5⟩ := hs i.toNat (by omega)
  rw [e1]
  have far : ∀ b, 0 < l' → blk a' b → b < h.size := fun b hl hb => e3.lt hl hb
  have hx : x.block < h.size := by
    have := cell_lt e2
    rwa [add_block] at this
  refine idx_some h0 h1 (ldL_at (hk.cell e2 (fun hh => ?_)) (hK a' l' c' (by exact e3.keep hk (fun hl b hb hh => by have := far b hl hb; have hh' : h.size ≤ b := hh; omega)) e4 e5 far))
  have hh' : h.size ≤ (x.add (i.toNat * 1)).block := hh
  rw [add_block] at hh'
  omega
namespace Snap
open Disk Enc Hash

theorem wr_alive {m : M} (h0 : m.st = 0) {at_ : Int} (ha : 0 ≤ at_) (st : List UInt8) : ∀ i : Nat, at_ + i < m.l.length → (wr at_ st i m).1 = 0 ∧ (wr at_ st i m).2.st = 0
  | 0, _ => ⟨rfl, h0⟩
  | i + 1, hi => by
    obtain ⟨h1, h2⟩ := wr_alive h0 ha st i (by omega)
    have hl := (wr_len at_ st m i).1
    have ew : wr at_ st (i + 1) m = write (wr at_ st i m).2 (at_ + 1 + i) (ofL (secL st i)) := by
      show (if _ then _ else _) = _
      rw [if_neg (by simpa using h1)]
    rw [ew, write_alive h2 (by omega) (by omega) (by rw [ofL_size, secL_length])]
    exact ⟨rfl, h2⟩
theorem save_alive {m : M} (h0 : m.st = 0) {at_ : Int} (ha : 0 ≤ at_) (e : Nat) (st : List UInt8) (hi : at_ + parts st.length < m.l.length) : (saveAt m at_ e st).1 = 0 ∧ (saveAt m at_ e st).2.st = 0 := by
  obtain ⟨h1, h2⟩ := wr_alive h0 ha st (parts st.length) hi
  have hl := (wr_len at_ st m (parts st.length)).1
  rw [saveAt_eq, if_neg (Classical.not_not.2 h1), flush_alive0 h2, if_neg (by simp)]
  have hw := write_alive (m := { (wr at_ st (parts st.length) m).2 with l := lays (wr at_ st (parts st.length) m).2.l (wr at_ st (parts st.length) m).2.c, c := [] }) (i := at_) (s := headS e st) h2 ha (by show at_ < (lays _ _).length; rw [lays_length]; omega) (by unfold headS; rw [ofL_size, List.length_append, headL_length, List.length_replicate])
  simp only [hw]
  rw [if_neg (by simp)]
  have fl : ∀ q : M, q.st = 0 → (flush q).1 = 0 ∧ (flush q).2.st = 0 := fun q hq => by
    rw [flush_alive0 hq]
    exact ⟨rfl, hq⟩
  exact fl _ h2

/-- the slot that is not to be written next tells less -/
def Less (m : M) (fr n : Int) (E : Nat) : Prop := (slotM m (fr + (((E + 1) % 2 : Nat) : Int) * n) n ((E + 1) % 2)).2.2 = true → (slotM m (fr + (((E + 1) % 2 : Nat) : Int) * n) n ((E + 1) % 2)).2.1 < E

theorem fits_parts {n : Int} {l : Nat} (h : fitsM n l = true) : 1 ≤ n ∧ (parts l : Int) ≤ n - 1 ∧ (l : Int) ≤ (n - 1) * 256 := by
  unfold fitsM at h
  simp only [Bool.and_eq_true, decide_eq_true_eq] at h
  unfold parts
  omega

theorem save_whole {m : M} (hc : m.c = []) {fr n : Int} (hok : okAt m.l.length fr n) {E : Nat} (hE : E < 18446744073709551615) {st : List UInt8} (hf : fitsM n st.length = true) (hn : n ≤ 4096) (hs : (saveM m fr n E st).1 = 0) :
    (saveM m fr n E st).2.c = [] ∧ (saveM m fr n E st).2.l.length = m.l.length ∧ slotM (saveM m fr n E st).2 (fr + ((E % 2 : Nat) : Int) * n) n (E % 2) = (st, E, true) ∧
    slotM (saveM m fr n E st).2 (fr + (((E + 1) % 2 : Nat) : Int) * n) n ((E + 1) % 2) = slotM m (fr + (((E + 1) % 2 : Nat) : Int) * n) n ((E + 1) % 2) ∧
    readAt (saveM m fr n E st).2 (fr + (((E + 1) % 2 : Nat) : Int) * n) = readAt m (fr + (((E + 1) % 2 : Nat) : Int) * n) := by
  have es : saveM m fr n E st = saveAt m (fr + ((E % 2 : Nat) : Int) * n) E st := by
    unfold saveM
    rw [if_neg (Classical.not_not.2 hok), if_neg (by simp [hf])]
  rw [es] at hs ⊢
  obtain ⟨o1, o2, o3, o4⟩ := hok
  obtain ⟨f1, f2, f3⟩ := fits_parts hf
  have q : fr + ((E % 2 : Nat) : Int) * n = fr ∧ fr + (((E + 1) % 2 : Nat) : Int) * n = fr + n ∨ fr + ((E % 2 : Nat) : Int) * n = fr + n ∧ fr + (((E + 1) % 2 : Nat) : Int) * n = fr := by
    rcases Nat.mod_two_eq_zero_or_one E with e | e
    · have e' : (E + 1) % 2 = 1 := by omega
      rw [e, e']
      left
      constructor <;> omega
    · have e' : (E + 1) % 2 = 0 := by omega
      rw [e, e']
      right
      constructor <;> omega
  obtain ⟨at_, ha⟩ : ∃ at_, at_ = fr + ((E % 2 : Nat) : Int) * n := ⟨_, rfl⟩
  obtain ⟨bt, hb⟩ : ∃ bt, bt = fr + (((E + 1) % 2 : Nat) : Int) * n := ⟨_, rfl⟩
  rw [← ha, ← hb] at q
  rw [← ha] at hs
  rw [← ha, ← hb]
  obtain ⟨p1, p2, _⟩ := save_plain hc (at_ := at_) (by omega) E st (by omega)
  obtain ⟨p3, p4⟩ := p2 hs
  have far : ∀ i, bt ≤ i → i < bt + n → readAt (saveAt m at_ E st).2 i = readAt m i := fun i h1 h2 => by
    rw [p4 i (by omega) (by omega)]
    unfold newS
    rw [if_neg (by omega), if_neg (by omega)]
  exact ⟨p3, p1, slot_whole (by omega) rfl (by omega) (by omega) (fun i h1 h2 => ⟨_, p4 i (by omega) (by omega)⟩), slot_congr far o1 _, far bt (by omega) (by omega)⟩

theorem blank_less {m : M} {fr n : Int} (h : ∀ i, readAt m i = noughts 256) (E : Nat) : Less m fr n E := by
  unfold Less slotM
  rw [slot_blank (h _), if_pos rfl]
  intro h
  cases h
end Snap
namespace Snap
open Disk Enc Hash

/-- the slot that is to be written next has an older head, or none -/
def Old (m : M) (fr n : Int) (E : Nat) : Prop := hBad m (fr + ((E % 2 : Nat) : Int) * n) n (E % 2) = false → hE m (fr + ((E % 2 : Nat) : Int) * n) + 1 < E
/-- what is there before state E is saved: the state before, in the other slot -/
def Turn (S : Nat → List UInt8) (m : M) (fr n : Int) (E : Nat) : Prop := Old m fr n E ∧
  (0 < E → slotM m (fr + (((E + 1) % 2 : Nat) : Int) * n) n ((E + 1) % 2) = (S (E - 1), E - 1, true)) ∧ (E = 0 → hBad m (fr + n) n 1 = true)

theorem slot_bad {m : M} {at_ n : Int} {odd : Nat} (h : hBad m at_ n odd = true) : slotM m at_ n odd = ([], 0, false) := by
  unfold slotM
  rw [if_pos h]
theorem hE_of {m : M} {at_ n : Int} {odd e : Nat} {st : List UInt8} (h : slotM m at_ n odd = (st, e, true)) : hE m at_ = e := by
  unfold slotM at h
  split at h
  · injection h with _ h
    injection h with _ h
    cases h
  · injection h with _ h
    injection h with h _

/-- where the two slots lie -/
theorem places (fr n : Int) (E : Nat) : fr + ((E % 2 : Nat) : Int) * n = fr ∧ fr + (((E + 1) % 2 : Nat) : Int) * n = fr + n ∧ E % 2 = 0 ∧ (E + 1) % 2 = 1 ∨ fr + ((E % 2 : Nat) : Int) * n = fr + n ∧ fr + (((E + 1) % 2 : Nat) : Int) * n = fr ∧ E % 2 = 1 ∧ (E + 1) % 2 = 0 := by
  rcases Nat.mod_two_eq_zero_or_one E with e | e
  · have e' : (E + 1) % 2 = 1 := by omega
    rw [e, e']
    left
    refine ⟨?_, ?_, rfl, rfl⟩ <;> omega
  · have e' : (E + 1) % 2 = 0 := by omega
    rw [e, e']
    right
    refine ⟨?_, ?_, rfl, rfl⟩ <;> omega

/-- what is loaded between two saves -/
theorem turn_load {S : Nat → List UInt8} {m : M} {fr n : Int} {E : Nat} (ht : Turn S m fr n E) (hok : okAt m.l.length fr n) (hst : m.st ≠ 2) :
    loadM m fr n = if E = 0 then ([], 0, 61) else (S (E - 1), E - 1, 0) := by
  obtain ⟨h1, h2, h3⟩ := ht
  by_cases e : E = 0
  · rw [if_pos e]
    subst e
    refine load_none hok hst ?_ (by rw [slot_bad (h3 rfl)])
    have q : fr + ((0 % 2 : Nat) : Int) * n = fr := by simp
    unfold Old at h1
    rw [q] at h1
    cases hb : hBad m fr n 0
    · exact absurd (h1 hb) (by omega)
    · rw [slot_bad hb]
  · rw [if_neg e]
    have e1 : (E - 1) % 2 = (E + 1) % 2 := by omega
    have e2 : (E - 1 + 1) % 2 = E % 2 := by omega
    refine load_newest hok hst (by rw [e1]; exact h2 (by omega)) ?_
    rw [e2]
    intro hw
    obtain ⟨w1, w2⟩ := slot_head (m := m) (m' := m) rfl _ hw
    have := h1 w1
    rw [w2]
    omega

theorem hBad_congr {m m' : M} {at_ n : Int} {odd : Nat} (h : readAt m' at_ = readAt m at_) : hBad m' at_ n odd = hBad m at_ n odd ∧ hE m' at_ = hE m at_ := by
  have h0 : hdr m' at_ = hdr m at_ := by unfold hdr; rw [h]
  have hE' : hE m' at_ = hE m at_ := by unfold hE; rw [h0]
  have hN' : hN m' at_ = hN m at_ := by unfold hN; rw [h0]
  exact ⟨by unfold hBad; rw [h0, hE', hN'], hE'⟩

theorem turn_save {S : Nat → List UInt8} {m : M} {fr n : Int} {E : Nat} (ht : Turn S m fr n E) (hc : m.c = []) (hok : okAt m.l.length fr n) (hE : E < 18446744073709551615) (hf : fitsM n (S E).length = true) (hn : n ≤ 4096) (hs : (saveM m fr n E (S E)).1 = 0) :
    Turn S (saveM m fr n E (S E)).2 fr n (E + 1) ∧ (saveM m fr n E (S E)).2.c = [] ∧ (saveM m fr n E (S E)).2.l.length = m.l.length := by
  obtain ⟨h1, h2, h3⟩ := ht
  obtain ⟨w1, w2, w3, w4, w5⟩ := save_whole hc hok hE hf hn hs
  have e2 : (E + 1 + 1) % 2 = E % 2 := by omega
  refine ⟨⟨fun hb => ?_, fun _ => by rw [e2, Nat.add_sub_cancel]; exact w3, fun h => by omega⟩, w1, w2⟩
  obtain ⟨m', hm'⟩ : ∃ m', m' = (saveM m fr n E (S E)).2 := ⟨_, rfl⟩
  rw [← hm'] at w5 hb ⊢
  obtain ⟨c1, c2⟩ := hBad_congr (n := n) (odd := (E + 1) % 2) w5
  rw [c1] at hb
  rw [c2]
  by_cases e : E = 0
  · subst e
    have q : fr + (((0 + 1) % 2 : Nat) : Int) * n = fr + n := by simp
    rw [q] at hb
    have := h3 rfl
    rw [show (0 + 1) % 2 = 1 by rfl, this] at hb
    cases hb
  · rw [hE_of (h2 (by omega))]
    omega

theorem turn_crash {S : Nat → List UInt8} {m : M} {fr n : Int} {E : Nat} (ht : Turn S m fr n E) (hc : m.c = []) (hok : okAt m.l.length fr n) (hE : E < 18446744073709551615) (hf : fitsM n (S E).length = true) (hn : n ≤ 4096) (hs : (saveM m fr n E (S E)).1 ≠ 0) (ks : List Bool) :
    loadM (crash (saveM m fr n E (S E)).2 ks) fr n = (S E, E, 0) ∨ loadM (crash (saveM m fr n E (S E)).2 ks) fr n = if E = 0 then ([], 0, 61) else (S (E - 1), E - 1, 0) := by
  obtain ⟨h1, h2, h3⟩ := ht
  have es : saveM m fr n E (S E) = saveAt m (fr + ((E % 2 : Nat) : Int) * n) E (S E) := by
    unfold saveM
    rw [if_neg (Classical.not_not.2 hok), if_neg (by simp [hf])]
  rw [es] at hs ⊢
  have hok' := hok
  obtain ⟨o1, o2, o3, o4⟩ := hok
  obtain ⟨f1, f2, f3⟩ := fits_parts hf
  have q := places fr n E
  unfold Old at h1
  obtain ⟨at_, ha⟩ : ∃ at_, at_ = fr + ((E % 2 : Nat) : Int) * n := ⟨_, rfl⟩
  obtain ⟨bt, hb⟩ : ∃ bt, bt = fr + (((E + 1) % 2 : Nat) : Int) * n := ⟨_, rfl⟩
  rw [← ha, ← hb] at q
  rw [← ha] at hs h1
  rw [← hb] at h2
  rw [← ha]
  obtain ⟨p1, _, p2⟩ := save_plain hc (at_ := at_) (by omega) E (S E) (by omega)
  obtain ⟨p3, p4⟩ := p2 hs ks
  obtain ⟨m', hm'⟩ : ∃ m', m' = crash (saveAt m at_ E (S E)).2 ks := ⟨_, rfl⟩
  have hl : m'.l.length = m.l.length := by rw [hm', (crash_len _ _).1, p1]
  have hst : m'.st ≠ 2 := by rw [hm']; show (0 : Int) ≠ 2; decide
  rw [← hm'] at p3 p4 ⊢
  have far : ∀ i, bt ≤ i → i < bt + n → readAt m' i = readAt m i := fun i g1 g2 => p3 i (by omega) (by omega) (by omega)
  have hother := slot_congr (m := m) (m' := m') far o1 ((E + 1) % 2)
  have hbb := (hBad_congr (m := m) (m' := m') (n := n) (odd := (E + 1) % 2) (far bt (by omega) (by omega))).1
  rcases p4 with p4 | p4
  · right
    have hhead := slot_head (n := n) p4 (E % 2)
    by_cases e : E = 0
    · rw [if_pos e]
      have w1 : (slotM m' at_ n (E % 2)).2.2 = false := by
        cases hw : (slotM m' at_ n (E % 2)).2.2
        · rfl
        · have := h1 (hhead hw).1
          omega
      have w2 : (slotM m' bt n ((E + 1) % 2)).2.2 = false := by
        subst e
        have hbt : bt = fr + n := by omega
        rw [slot_bad]
        rw [hbb, hbt]
        exact h3 rfl
      subst e
      have hbt : bt = fr + n := by omega
      have hat : at_ = fr := by omega
      rw [hat] at w1
      rw [hbt] at w2
      exact load_none (by rw [hl]; exact hok') hst w1 w2
    · rw [if_neg e]
      have e1 : (E - 1) % 2 = (E + 1) % 2 := by omega
      have e2 : (E - 1 + 1) % 2 = E % 2 := by omega
      refine load_newest (by rw [hl]; exact hok') hst (by rw [e1, ← hb, hother]; exact h2 (by omega)) ?_
      rw [e2, ← ha]
      intro hw
      obtain ⟨w1, w2⟩ := hhead hw
      have := h1 w1
      rw [w2]
      omega
  · left
    refine load_newest (by rw [hl]; exact hok') hst (by rw [← ha]; exact slot_whole (by omega) rfl (by omega) (by omega) (fun i g1 g2 => ⟨_, p4 i g1 g2⟩)) ?_
    rw [← hb, hother]
    by_cases e : E = 0
    · subst e
      have hbt : bt = fr + n := by omega
      rw [slot_bad (by rw [hbt]; exact h3 rfl)]
      intro hh
      cases hh
    · rw [h2 (by omega)]
      intro _
      show E - 1 < E
      omega

theorem turn_congr {S : Nat → List UInt8} {m m' : M} {fr n : Int} {E : Nat} (h : ∀ i, readAt m' i = readAt m i) (hn : 1 ≤ n) (ht : Turn S m fr n E) : Turn S m' fr n E := by
  obtain ⟨h1, h2, h3⟩ := ht
  refine ⟨?_, ?_, ?_⟩
  · unfold Old at h1 ⊢
    rw [(hBad_congr (h _)).1, (hBad_congr (n := n) (odd := 0) (h (fr + ((E % 2 : Nat) : Int) * n))).2]
    exact h1
  · rw [slot_congr (fun i _ _ => h i) hn]
    exact h2
  · rw [(hBad_congr (h _)).1]
    exact h3

theorem save_len (m : M) (fr n : Int) (e : Nat) (st : List UInt8) : (saveM m fr n e st).2.c.length ≤ m.c.length + parts st.length + 3 := by
  unfold saveM
  split
  · show m.c.length ≤ _
    omega
  · split
    · show m.c.length ≤ _
      omega
    · rw [saveAt_eq]
      have h1 := (wr_len (fr + ((e % 2 : Nat) : Int) * n) st m (parts st.length)).2
      split
      · omega
      · have h2 := (flush_len (wr (fr + ((e % 2 : Nat) : Int) * n) st (parts st.length) m).2).2
        split
        · omega
        · have h3 := (write_len (flush (wr (fr + ((e % 2 : Nat) : Int) * n) st (parts st.length) m).2).2 (fr + ((e % 2 : Nat) : Int) * n) (headS e st)).2
          split
          · omega
          · have h4 := (flush_len (write (flush (wr (fr + ((e % 2 : Nat) : Int) * n) st (parts st.length) m).2).2 (fr + ((e % 2 : Nat) : Int) * n) (headS e st)).2).2
            omega

/-- what a load tells behind the loop -/
def Told (S : Nat → List UInt8) (len : Nat) (last : Int) (r : List UInt8 × Nat × Int) : Prop :=
  (last < 0 ∧ r = ([], 0, 61)) ∨ ∃ k : Nat, last ≤ k ∧ (k : Int) ≤ last + 1 ∧ k < len ∧ r = (S k, k, 0)

end Snap
end Go.Proofs.Ytkgocfaajfaidaa
