/- Contracts of package snap: Fits, head, Save. -/
import Derived.Test.YtmkobpkdodgboaaPEnc
import Derived.Test.YtmkobpkdodgboaaPDiskL
import Derived.Test.YtmkobpkdodgboaaGSnap
namespace Go.Proofs.Ytmkobpkdodgboaa
open Go D
set_option linter.unusedVariables false
set_option linter.unusedSimpArgs false
namespace Snap
open Disk Enc Hash

def fitsM (n b : Int) : Bool := decide (1 ≤ n) && (decide (0 ≤ b) && decide (b / 256 + min (b % 256) 1 ≤ n - 1))

theorem fits_spec {h : Heap} {n b : Int} (hn : InI n) (hb : InI b) {R : Bool → Heap → Prop} (hk : R (fitsM n b) h) : CallT Try.prog snap_Fits_no [.int .i64 n, .int .i64 b] h [.sc .bool] R := by
  apply snap_Fits_call
  simp only [snap_Fits]
  unfold InI at hn hb
  unfold fitsM at hk
  refine withJ.inl ?_
  refine cnd_dec (fun h1 => ?_) (fun h1 => ?_)
  · have e1 : decide (1 ≤ n) = true := by simpa using h1
    rw [e1, Bool.true_and] at hk
    refine cnd_dec (fun h2 => ?_) (fun h2 => ?_)
    · have e2 : decide (0 ≤ b) = true := by simpa using h2
      rw [e2, Bool.true_and] at hk
      have e3 : w64 (b.tdiv 256) = b / 256 := by rw [Int.tdiv_eq_ediv_of_nonneg h2, w64_id (by omega) (by omega)]
      have e4 : minI (b.tmod 256) 1 = min (b % 256) 1 := by
        rw [Int.tmod_eq_emod_of_nonneg h2]
        unfold minI
        split <;> omega
      rw [e3, e4, w64_id (x := b / 256 + min (b % 256) 1) (by omega) (by omega), w64_id (x := n - 1) (by omega) (by omega)]
      exact hk
    · have e2 : decide (0 ≤ b) = false := by simp; omega
      rw [e2, Bool.false_and] at hk
      exact hk
  · have e1 : decide (1 ≤ n) = false := by simp; omega
    rw [e1, Bool.false_and] at hk
    exact hk

/-- may the two slots lie there? -/
def okAt (l : Nat) (fr n : Int) : Prop := 1 ≤ n ∧ 0 ≤ fr ∧ fr ≤ l ∧ n ≤ (l - fr) / 2
instance (l : Nat) (fr n : Int) : Decidable (okAt l fr n) := by unfold okAt; infer_instance

theorem check_spec {mu im : Nat → Prop} {h : Heap} {p : Nat} {m : M} (hr : Rep h p mu im m) {fr n : Int} (hf : InI fr) (hn : InI n) {R : Int → Heap → Prop} (hyes : okAt m.l.length fr n → R 0 h) (hno : ¬ okAt m.l.length fr n → R 1 h) :
    CallT Try.prog snap_check_no [.pointer (some ⟨p, 0, none⟩), .int .i64 fr, .int .i64 n] h [.sc (.int .i64)] R := by
  apply snap_check_call
  simp only [snap_check]
  unfold InI at hf hn
  have hle := hr.le
  refine withJ.inl (withJ.inl ?_)
  refine cnd_f rfl ?_
  refine cnd_dec (fun h1 => cnd_t rfl (hno (fun ha => by have := ha.1; omega))) (fun h1 => ?_)
  refine cnd_dec (fun h2 => cnd_t rfl (hno (fun ha => by have := ha.2.1; omega))) (fun h2 => ?_)
  refine size_spec hr ?_
  refine cnd_dec (fun h3 => cnd_t rfl (hno (fun ha => by have := ha.2.2.1; omega))) (fun h3 => ?_)
  refine size_spec hr ?_
  have e1 : w64 ((m.l.length : Int) - fr) = m.l.length - fr := w64_id (by omega) (by omega)
  have e2 : w64 (((m.l.length : Int) - fr).tdiv 2) = (m.l.length - fr) / 2 := by rw [Int.tdiv_eq_ediv_of_nonneg (by omega), w64_id (by omega) (by omega)]
  rw [e1, e2]
  refine cnd_dec (fun h4 => hno (fun ha => by have := ha.2.2.2; omega)) (fun h4 => hyes ⟨by omega, by omega, by omega, by omega⟩)

/-! ### a slot's head -/
def be4W (x : W) : List UInt8 := [lowb (x >>> 24), lowb (x >>> 16), lowb (x >>> 8), lowb x]
def mid (e l : Nat) : List UInt8 := p64 e ++ p64 l
def headL (e : Nat) (st : List UInt8) : List UInt8 := [83, 78, 65, 80] ++ (be4W (crcF (mid e st.length ++ st)) ++ mid e st.length)
theorem mid_length (e l : Nat) : (mid e l).length = 16 := by simp [mid, p64_length]
theorem headL_length (e : Nat) (st : List UInt8) : (headL e st).length = 24 := by simp [headL, be4W, mid_length]

theorem be4W_cells (x : W) : [Value.int .u8 (IntKind.u8.wrap (shrI .u32 (u x) 24)), .int .u8 (IntKind.u8.wrap (shrI .u32 (u x) 16)), .int .u8 (IntKind.u8.wrap (shrI .u32 (u x) 8)), .int .u8 (IntKind.u8.wrap (u x))] = (be4W x).map byteV := by
  simp only [be4W, List.map_cons, List.map_nil, u_shr x (n := 24) (by decide) (by decide), u_shr x (n := 16) (by decide) (by decide), u_shr x (n := 8) (by decide) (by decide), u_low]
  rfl

theorem head_spec {h : Heap} {a : Option Addr} {l c e : Nat} {st : List UInt8} (hb : Rb h a l st) (hl : l ≤ 100000000) {R : Sl → Heap → Prop}
    (hk : ∀ s h', s.len = 256 → Bl h' s.a s.len s.cap (headL e st ++ List.replicate 232 0) → (∀ b, blk s.a b → h.size ≤ b) → Keep (fun _ => False) h h' → R s h') :
    CallT Try.prog snap_head_no [.int .u64 (e : Int), .slice a l c] h [.sc .sl] R := by
  have hcall := snap_head_call (epoch_0 := (e : Int)) (state_1 := ⟨a, l, c⟩) (R := R) (h := h)
  apply hcall
  simp only [snap_head]
  have hlen := hb.len
  refine put64_spec ?_
  intro h1 b1 k1 s1
  have el : IntKind.u64.wrap (l : Int) = l := wrap_u64_id (by omega) (by omega)
  rw [el]
  refine put64_spec ?_
  intro h2 b2 k2 s2
  refine b2.rb.rd ?_
  have b1' : Bl h2 (some ⟨h.size, 0, none⟩) 8 8 (p64 e) := SlR.keep b1 k2 (fun _ _ h => h)
  refine b1'.push (new := p64 l) (by show 8 + 8 ≤ _; omega) (by rw [p64_length]) rfl ?_
  intro a3 c3 h3 w1 w2 w3
  have n3 : ∀ b, blk a3 b → h.size ≤ b := fun b hb' => by
    rcases w3 b hb' with hh | hh
    · rw [blk_some] at hh; simp only at hh; omega
    · omega
  have k03 : Keep (fun y => h.size ≤ y) h h3 := ((k1.trans' k2).mono (T := fun y => h.size ≤ y) (fun _ _ h => h.elim)).trans w2 (fun y _ hy => by rw [blk_some] at hy; simp only at hy; show h.size ≤ y; omega)
  have z3 := k03.size
  have w1m : Bl h3 a3 16 c3 (mid e l) := w1
  obtain ⟨x3, hx3, hsp3⟩ : ∃ x, a3 = some x ∧ x.spot = none := by
    obtain ⟨x, hx, hs, _⟩ := (w1m.rb).2 0 _ (List.getElem?_eq_getElem (by simp [mid_length]))
    exact ⟨x, hx, hs⟩
  have hc3 := SlR.le w1m
  refine ⟨by omega, by omega, by omega, by omega, ?_⟩
  have e16 : (if (16 : Int) = 0 then a3 else a3.map (·.add ((0 : Int).toNat * 1))) = a3 := by
    rw [if_neg (by decide), hx3]
    show some (x3.add 0) = some x3
    rw [add_zero]
  rw [e16]
  show rdCells a (l * 1) h3 fun cs13 => app _ 5 1 1 a3 16 16 cs13 l h3 _
  have hb3 : Rb h3 a l st := hb.keep k03 (fun h0 b hb' hge => by have := hb.lt h0 hb'; have hge' : h.size ≤ b := hge; omega)
  refine hb3.rd ?_
  have w16 : Bl h3 a3 16 16 (mid e l) := by
    rcases w1m with ⟨rfl, _⟩ | ⟨b, o, cs, e1, e2, e3, e4, e5, e6⟩
    · cases hx3
    · exact .inr ⟨b, o, cs, e1, e2, Nat.le_refl _, by omega, e5, e6⟩
  refine w16.push2 (new := st) (by omega) hlen rfl ?_
  intro a4 c4 h4 v1 v2 v3 v4
  have n4 : ∀ b, blk a4 b → h.size ≤ b := fun b hb' => by
    rcases v3 b hb' with hh | hh
    · exact n3 b hh
    · omega
  have k04 : Keep (fun y => h.size ≤ y) h h4 := k03.trans v2 (fun y _ hy => n3 y hy)
  refine crc_spec v1.rb (by omega) ?_
  have hml : st.length = l := hlen.symm
  rw [← hml]
  refine lit_row ?_
  intro h5 s5 r5 k5
  rw [be4W_cells]
  refine newB_row ?_
  intro h6 s6 r6 k6
  refine ldRow_row r6 (by simp [be4W]) ?_
  rw [List.drop_zero, List.take_of_length_le (by simp [be4W])]
  have z4 := k04.size
  have b5 : Bl h6 (some ⟨h4.size, 0, none⟩) 4 4 [83, 78, 65, 80] := SlR.keep (S := fun _ => False) (h := h5) (.inr ⟨h4.size, 0, _, rfl, r5, by simp, by simp, by simp, by simp; exact ⟨rfl, rfl, rfl, rfl⟩⟩) k6 (fun _ _ h => h)
  refine b5.push (new := be4W _) (by omega) rfl rfl ?_
  intro a7 c7 h7 t1 t2 t3
  have n7 : ∀ b, blk a7 b → h.size ≤ b ∧ ¬ blk a3 b := fun b hb' => by
    have : h4.size ≤ b := by
      rcases t3 b hb' with hh | hh
      · rw [blk_some] at hh; simp only at hh; omega
      · omega
    refine ⟨by omega, fun hh => ?_⟩
    have h1 := SlR.blk_lt w1m hh
    have h2 := v2.size
    omega
  have hmid7 : Rb h7 a3 16 (mid e l) := ((v4.keep k5 (fun _ _ _ h => h)).keep k6 (fun _ _ _ h => h)).keep t2 (fun _ b hb' hh => by
    rw [blk_some] at hh
    have h1 := SlR.blk_lt w1m hb'
    have h2 := v2.size
    simp only at hh
    omega)
  refine hmid7.rd ?_
  refine t1.push (new := mid e l) (by show (4 + 4) + (8 + 8) ≤ _; omega) (by rw [mid_length]; rfl) rfl ?_
  intro a8 c8 h8 q1 q2 q3
  refine ⟨by omega, by omega, ?_⟩
  have zr : zerosL [.int .u8 0] (232 : Int).toNat = (List.replicate 232 (0 : UInt8)).map byteV := by
    rw [zerosL_one, List.map_replicate]; rfl
  rw [zr]
  refine q1.push (new := List.replicate 232 0) (by show ((4 + 4) + (8 + 8)) + 232 ≤ _; omega) (by rw [List.length_replicate]; rfl) rfl ?_
  intro a9 c9 h9 y1 y2 y3
  have z7 := t2.size
  have z8 := q2.size
  have n8 : ∀ b, blk a8 b → h.size ≤ b := fun b hb' => by
    rcases q3 b hb' with hh | hh
    · exact (n7 b hh).1
    · omega
  refine hk _ h9 rfl ?_ (fun b hb' => ?_) ?_
  · unfold headL
    rw [hml]
    have e : ([83, 78, 65, 80] ++ be4W (crcF (mid e l ++ st)) ++ mid e l ++ List.replicate 232 (0 : UInt8)) = ([83, 78, 65, 80] ++ (be4W (crcF (mid e l ++ st)) ++ mid e l) ++ List.replicate 232 0) := by simp
    rw [← e]
    rw [hml] at y1
    exact y1
  · rcases y3 b hb' with hh | hh
    · exact n8 b hh
    · omega
  · have kk : Keep (fun y => h.size ≤ y) h h9 := ((((k04.trans k5 (fun _ _ h => h.elim)).trans k6 (fun _ _ h => h.elim)).trans t2 (fun y _ hy => by rw [blk_some] at hy; simp only at hy; show h.size ≤ y; omega)).trans q2 (fun y _ hy => (n7 y hy).1)).trans y2 (fun y _ hy => n8 y hy)
    exact ⟨kk.size, fun b hb' _ => kk.same b hb' (by omega)⟩

/-! ### Save -/
def secL (st : List UInt8) (i : Nat) : List UInt8 := (st.drop (256 * i)).take 256 ++ List.replicate (256 - ((st.drop (256 * i)).take 256).length) 0
theorem secL_length (st : List UInt8) (i : Nat) : (secL st i).length = 256 := by simp [secL]; omega
def wr (at_ : Int) (st : List UInt8) : Nat → M → Int × M
  | 0, m => (0, m)
  | i + 1, m => if (wr at_ st i m).1 ≠ 0 then wr at_ st i m else write (wr at_ st i m).2 (at_ + 1 + i) (ofL (secL st i))
theorem wr_stop {at_ : Int} {st : List UInt8} {m : M} {i : Nat} (h : (wr at_ st i m).1 ≠ 0) : ∀ j, i ≤ j → wr at_ st j m = wr at_ st i m
  | 0, hj => by
    have : i = 0 := by omega
    subst this; rfl
  | j + 1, hj => by
    by_cases e : i = j + 1
    · rw [e]
    · have ih := wr_stop h j (by omega)
      show (if (wr at_ st j m).1 ≠ 0 then wr at_ st j m else _) = _
      rw [ih, if_pos h]
theorem wr_len (at_ : Int) (st : List UInt8) (m : M) : ∀ i, (wr at_ st i m).2.l.length = m.l.length ∧ (wr at_ st i m).2.c.length ≤ m.c.length + i
  | 0 => ⟨rfl, Nat.le_refl _⟩
  | i + 1 => by
    obtain ⟨h1, h2⟩ := wr_len at_ st m i
    show (if _ then _ else _ : Int × M).2.l.length = _ ∧ (if _ then _ else _ : Int × M).2.c.length ≤ _
    split
    · exact ⟨h1, by omega⟩
    · have := write_len (wr at_ st i m).2 (at_ + 1 + i) (ofL (secL st i))
      exact ⟨by omega, by omega⟩
def parts (l : Nat) : Nat := (l + 255) / 256
def headS (e : Nat) (st : List UInt8) : ByteArray := ofL (headL e st ++ List.replicate 232 0)
def saveAt (m : M) (at_ : Int) (e : Nat) (st : List UInt8) : Int × M :=
  let r := wr at_ st (parts st.length) m
  if r.1 ≠ 0 then r else
  let f := flush r.2
  if f.1 ≠ 0 then f else
  let w := write f.2 at_ (headS e st)
  if w.1 ≠ 0 then w else flush w.2
def saveM (m : M) (fr n : Int) (e : Nat) (st : List UInt8) : Int × M :=
  if ¬ okAt m.l.length fr n then (1, m) else if fitsM n st.length = false then (60, m) else saveAt m (fr + ((e % 2 : Nat) : Int) * n) e st

theorem save_spec {mu im : Nat → Prop} {h : Heap} {p : Nat} {m : M} (hr : Rep h p mu im m) (hc : m.c.length ≤ 900000) {fr n : Int} (hf : InI fr) (hn : InI n) {e : Nat} (he : e < 18446744073709551616) {a : Option Addr} {l c : Nat} {st : List UInt8} (hb : Rb h a l st) (hcap : l ≤ c) (hli : (l : Int) ≤ 9223372036854775807)
    (hfar : 0 < l → ∀ b, blk a b → ¬ mu b) {R : Int → Heap → Prop}
    (hk : ∀ mu' im' h', Rep h' p mu' im' (saveM m fr n e st).2 → Keep mu h h' → Grew h mu im mu' im' → R (saveM m fr n e st).1 h') :
    CallT Try.prog snap_Save_no [.pointer (some ⟨p, 0, none⟩), .int .i64 fr, .int .i64 n, .int .u64 (e : Int), .slice a l c] h [.sc (.int .i64)] R := by
  have hcall := snap_Save_call (x_0 := some ⟨p, 0, none⟩) (x_1 := fr) (x_2 := n) (x_3 := (e : Int)) (x_4 := ⟨a, l, c⟩) (R := R) (h := h)
  apply hcall
  simp only [snap_Save]
  have hlen := hb.len
  subst hlen
  have hle := hr.le
  unfold saveM at hk
  refine check_spec hr hf hn (fun hok => ?_) (fun hno => ?_)
  rotate_left
  · rw [if_pos hno] at hk
    exact cnd_t rfl (hk mu im h hr (.refl _ _) (.same _ _ _))
  rw [if_neg (by simpa using hok)] at hk
  refine cnd_f rfl ?_
  refine fits_spec hn ⟨by omega, by omega⟩ ?_
  by_cases hfit : fitsM n (st.length : Int) = false
  · rw [if_pos hfit] at hk
    exact cnd_t (by rw [hfit]; rfl) (hk mu im h hr (.refl _ _) (.same _ _ _))
  rw [if_neg hfit] at hk
  refine cnd_f (by simpa using hfit) ?_
  have hfit' : 1 ≤ n ∧ (st.length : Int) / 256 + min ((st.length : Int) % 256) 1 ≤ n - 1 := by
    have : fitsM n (st.length : Int) = true := by simpa using hfit
    unfold fitsM at this
    simp only [Bool.and_eq_true, decide_eq_true_eq] at this
    exact ⟨this.1, this.2.2⟩
  obtain ⟨o1, o2, o3, o4⟩ := hok
  have hpl : ((parts st.length : Nat) : Int) ≤ n - 1 := by unfold parts; omega
  obtain ⟨at_, hat⟩ : ∃ at_, at_ = fr + ((e % 2 : Nat) : Int) * n := ⟨_, rfl⟩
  rw [← hat] at hk
  have he2 : ((e % 2 : Nat) : Int) = 0 ∨ ((e % 2 : Nat) : Int) = 1 := by omega
  have hat2 : fr ≤ at_ ∧ at_ ≤ fr + n := by
    rcases he2 with h0 | h0 <;> rw [h0] at hat <;> omega
  have eat : w64 (fr + w64 (w64 ((e : Int).tmod 2) * n)) = at_ := by
    have e1 : w64 ((e : Int).tmod 2) = ((e % 2 : Nat) : Int) := by rw [Int.tmod_eq_emod_of_nonneg (by omega), w64_id (by omega) (by omega)]; omega
    rw [e1]
    have e2 : ((e % 2 : Nat) : Int) * n = at_ - fr := by omega
    rw [e2, w64_id (x := at_ - fr) (by omega) (by omega), w64_id (by omega) (by omega)]
    omega
  simp only [eat]
  unfold saveAt at hk
  refine LoopT.intro (fun i h' => 0 ≤ i ∧ i ≤ parts st.length ∧ (wr at_ st i.toNat m).1 = 0 ∧ ∃ mu' im', Rep h' p mu' im' (wr at_ st i.toNat m).2 ∧ Keep mu h h' ∧ Grew h mu im mu' im') (fun i _ => ((parts st.length : Nat) - i).toNat) ⟨by omega, by omega, rfl, mu, im, hr, .refl _ _, .same _ _ _⟩ ?_
  rintro i h1 ⟨q1, q2, q3, mu1, im1, r1, k1, g1⟩
  have hb1 : Rb h1 a st.length st := hb.keep k1 hfar
  have wl := wr_len at_ st m i.toNat
  have z1 := k1.size
  have hw256 : w64 (i * 256) = i * 256 := w64_id (by omega) (by omega)
  rw [hw256]
  refine cnd_dec (fun hi => ?_) (fun hi => ?_)
  · have hi' : 256 * i.toNat < st.length := by omega
    have hip : i < parts st.length := by unfold parts; omega
    refine mkBytes (by decide) (by decide) ?_
    intro h2 s2 b2 k2
    have hb2 : Rb h2 a st.length st := hb1.keep k2 (fun _ _ _ h => h)
    refine hb2.sub (by omega) (by omega) (by omega) (by omega) (by omega) ?_
    intro a3 hb3 hblk3
    rw [show ((st.length : Int) - i * 256).toNat = st.length - 256 * i.toNat by omega, show (i * 256).toNat = 256 * i.toNat by omega, List.take_of_length_le (by rw [List.length_drop]; omega)] at hb3
    rw [show ((st.length : Int) - i * 256).toNat = st.length - 256 * i.toNat by omega]
    -- the first 256 of them
    have hmin : Nat.min (st.length - 256 * i.toNat) ((256 : Int).toNat) = ((st.drop (256 * i.toNat)).take 256).length := by
      rw [List.length_take, List.length_drop]
      show min (st.length - 256 * i.toNat) 256 = _
      omega
    rw [hmin]
    have hb4 : Rb h2 a3 ((st.drop (256 * i.toNat)).take 256).length ((st.drop (256 * i.toNat)).take 256) := by
      refine ⟨by simp, fun j v hv => hb3.2 j v ?_⟩
      rw [List.map_take, List.getElem?_take] at hv
      split at hv
      · exact hv
      · cases hv
    refine hb4.rd ?_
    refine SlR.over b2 (by rw [List.length_map, List.length_take]; show _ ≤ 256 * 1; omega) (fun v hv => by obtain ⟨x, _, rfl⟩ := List.mem_map.1 hv; rfl) ?_
    intro h3 s3 w3 k3
    have bs3 : Bs h3 (some ⟨h1.size, 0, none⟩) 256 256 (ofL (secL st i.toNat)) := by
      unfold Bs
      rw [ofL_bytes]
      unfold secL
      rw [List.map_append, List.map_replicate]
      rw [bytesV_noughts, List.length_map, List.drop_replicate] at w3
      exact w3
    have k13 : Keep (fun _ => False) h1 h3 := k2.trans k3 (fun y hy e => by
      have e' : y = h1.size := e
      omega)
    have r3 := r1.keep k13 (fun _ _ h => h) (fun _ _ h => h)
    have eidx : w64 (w64 (at_ + 1) + i) = at_ + 1 + i.toNat := by
      rw [w64_id (x := at_ + 1) (by omega) (by omega), w64_id (by omega) (by omega)]
      omega
    rw [eidx]
    have hsz : (ofL (secL st i.toNat)).size = 256 := by
      show (secL st i.toNat).toArray.size = 256
      simp [secL_length]
    refine write_spec r3 (i := at_ + 1 + i.toNat) (by unfold InI; omega) bs3 (by omega) (by omega) (fun b hb' hm => ?_) ?_
    · rw [blk_some] at hb'
      have := r1.lt b (.inl hm)
      simp only at hb'
      omega
    · intro mu4 im4 h4 r4 k4 g4
      have ew : wr at_ st (i.toNat + 1) m = write (wr at_ st i.toNat m).2 (at_ + 1 + i.toNat) (ofL (secL st i.toNat)) := by
        show (if (wr at_ st i.toNat m).1 ≠ 0 then wr at_ st i.toNat m else _) = _
        rw [if_neg (by omega)]
      rw [← ew] at r4 ⊢
      have k04 : Keep mu h h4 := (k1.trans k13 (fun _ _ h => h.elim)).trans k4 (fun y hy hm => by
        rcases g1.1 y hm with hh | hh
        · exact hh
        · omega)
      have z3 := k13.size
      have g04 : Grew h mu im mu4 im4 := ⟨fun b hb' => by
          rcases g4.1 b hb' with hh | hh
          · exact g1.1 b hh
          · exact .inr (by omega), fun b hb' => by
          rcases g4.2 b hb' with hh | hh
          · exact g1.2 b hh
          · exact .inr (by omega)⟩
      by_cases hz : (wr at_ st (i.toNat + 1) m).1 ≠ 0
      · refine cnd_t (by simpa using hz) ?_
        have est := wr_stop hz (parts st.length) (by omega)
        rw [est, if_pos hz] at hk
        exact hk mu4 im4 h4 r4 k04 g04
      · refine cnd_f (by simpa using hz) ?_
        rw [w64_id (x := i + 1) (by omega) (by omega)]
        have e1 : (i + 1).toNat = i.toNat + 1 := by omega
        refine ⟨⟨by omega, by omega, by rw [e1]; omega, mu4, im4, by rw [e1]; exact r4, k04, g04⟩, by omega⟩
  · have hip : i.toNat = parts st.length := by
      unfold parts at q2 ⊢
      omega
    rw [hip] at q3 r1 wl
    rw [if_neg (by omega)] at hk
    obtain ⟨m1, hm1⟩ : ∃ m1, m1 = (wr at_ st (parts st.length) m).2 := ⟨_, rfl⟩
    rw [← hm1] at r1 hk wl
    refine flush_spec r1 (by omega) ?_
    intro h2 r2 k2
    have fl := flush_len m1
    have k02 : Keep mu h h2 := k1.trans k2 (fun y hy hm => by
      rcases g1.1 y hm with hh | hh
      · exact hh
      · omega)
    by_cases hz : (flush m1).1 ≠ 0
    · rw [if_pos hz] at hk
      exact cnd_t (by simpa using hz) (hk mu1 im1 h2 r2 k02 g1)
    rw [if_neg hz] at hk
    refine cnd_f (by simpa using hz) ?_
    have hb2 : Rb h2 a st.length st := hb1.keep k2 (fun h0 b hb' hm => by
      rcases g1.1 b hm with hh | hh
      · exact hfar h0 b hb' hh
      · have := hb.lt h0 hb'
        omega)
    refine head_spec hb2 (by omega) ?_
    intro s h3 sl3 b3 n3 k3
    have r3 := r2.keep k3 (fun _ _ h => h) (fun _ _ h => h)
    have bs3 : Bs h3 s.a s.len s.cap (headS e st) := Bl.bs b3
    have hsz : (headS e st).size = 256 := by
      have := bs3.len
      omega
    obtain ⟨m2, hm2⟩ : ∃ m2, m2 = (flush m1).2 := ⟨_, rfl⟩
    rw [← hm2] at r3 hk fl
    have hlt2 : ∀ b, mu1 b → b < h2.size := fun b hb' => r2.lt b (.inl hb')
    refine write_spec r3 (i := at_) (by unfold InI; omega) bs3 (by omega) (by omega) (fun b hb' hm => by have := n3 b hb'; have := hlt2 b hm; omega) ?_
    intro mu4 im4 h4 r4 k4 g4
    have z2 := k2.size
    have z3 := k3.size
    have k04 : Keep mu h h4 := (k02.trans k3 (fun _ _ h => h.elim)).trans k4 (fun y hy hm => by
      rcases g1.1 y hm with hh | hh
      · exact hh
      · omega)
    have g04 : Grew h mu im mu4 im4 := ⟨fun b hb' => by
        rcases g4.1 b hb' with hh | hh
        · exact g1.1 b hh
        · exact .inr (by omega), fun b hb' => by
        rcases g4.2 b hb' with hh | hh
        · exact g1.2 b hh
        · exact .inr (by omega)⟩
    have wl2 := write_len m2 at_ (headS e st)
    by_cases hz2 : (write m2 at_ (headS e st)).1 ≠ 0
    · rw [if_pos hz2] at hk
      exact cnd_t (by simpa using hz2) (hk mu4 im4 h4 r4 k04 g04)
    rw [if_neg hz2] at hk
    refine cnd_f (by simpa using hz2) ?_
    refine flush_spec r4 (by omega) ?_
    intro h5 r5 k5
    exact hk mu4 im4 h5 r5 (k04.trans k5 (fun y hy hm => by
      rcases g04.1 y hm with hh | hh
      · exact hh
      · omega)) g04

end Snap
end Go.Proofs.Ytmkobpkdodgboaa
