/- Contracts of package snap: Load; layer 7's awake. -/
import Derived.Test.YtmkobpkdodgboaaPSnap
import Derived.Test.YtmkobpkdodgboaaGLaw
namespace Go.Proofs.Ytmkobpkdodgboaa
open Go D
set_option linter.unusedVariables false
set_option linter.unusedSimpArgs false
namespace Snap
open Disk Enc Hash

/-- the sectors from one on, put together -/
def rdN (m : M) (at_ : Int) : Nat → List UInt8
  | 0 => []
  | i + 1 => rdN m at_ i ++ (readAt m (at_ + 1 + i)).data.toList
def hdr (m : M) (at_ : Int) : List UInt8 := (readAt m at_).data.toList
def hE (m : M) (at_ : Int) : Nat := g64 (((hdr m at_).drop 8).take 8)
def hN (m : M) (at_ : Int) : Nat := g64 (((hdr m at_).drop 16).take 8)
def hBad (m : M) (at_ n : Int) (odd : Nat) : Bool := !decide ((hdr m at_).take 4 = [83, 78, 65, 80]) || (decide (hE m at_ % 2 ≠ odd) || decide ((n - 1) * 256 < (hN m at_ : Int)))
def hSt (m : M) (at_ : Int) : List UInt8 := (rdN m at_ (parts (hN m at_))).take (hN m at_)
/-- a slot: its state, its epoch, whether it is whole -/
def slotM (m : M) (at_ n : Int) (odd : Nat) : List UInt8 × Nat × Bool :=
  if hBad m at_ n odd then ([], 0, false) else (hSt m at_, hE m at_, decide (headL (hE m at_) (hSt m at_) = (hdr m at_).take 24))

theorem rdN_length {m : M} {at_ : Int} (hs : ∀ i : Int, at_ < i → (readAt m i).data.toList.length = 256) : ∀ k, (rdN m at_ k).length = 256 * k
  | 0 => rfl
  | k + 1 => by
    show (rdN m at_ k ++ _).length = _
    rw [List.length_append, rdN_length hs k, hs _ (by omega)]
    omega

theorem ofL_inj {a b : List UInt8} (h : ofL a = ofL b) : a = b := by
  unfold ofL at h
  injection h with h
  simpa using h

theorem seq_ofL (a b : List UInt8) : seq (⟨a.toArray⟩ : ByteArray) ⟨b.toArray⟩ = decide (a = b) := by
  by_cases h : a = b
  · subst h
    rw [seq_self]; simp
  · rw [seq_false (s := ⟨a.toArray⟩) (t := ⟨b.toArray⟩) (fun e => h (ofL_inj e))]
    simp [h]

/-- a device's sectors have 256 bytes -/
theorem Rep.secs {mu im : Nat → Prop} {h : Heap} {p : Nat} {m : M} (hr : Disk.Rep h p mu im m) : (∀ s ∈ m.l, s.size = 256) ∧ (∀ x ∈ m.c, x.2.size = 256) := by
  obtain ⟨⟨ql, lcap, secs, ca, cc, cv, e1, e2, row, sl1, sl2, g1, g2, _⟩, _⟩ := hr
  constructor
  · intro s hs
    rw [e1] at hs
    obtain ⟨x, hx, rfl⟩ := List.mem_map.1 hs
    exact (g1 x hx).1
  · intro x hx
    rw [e2] at hx
    obtain ⟨y, hy, rfl⟩ := List.mem_map.1 hx
    exact (g2 y hy).2.2.1.1

theorem readAt_size {m : M} (h1 : ∀ s ∈ m.l, s.size = 256) (h2 : ∀ x ∈ m.c, x.2.size = 256) (i : Int) : (readAt m i).size = 256 := by
  have key : ∀ (c : List (Int × ByteArray)) (z : ByteArray), z.size = 256 → (∀ x ∈ c, x.2.size = 256) → (c.foldl (fun s x => if x.1 = i then x.2 else s) z).size = 256 := by
    intro c
    induction c with
    | nil => intro z hz _; exact hz
    | cons x c ih =>
      intro z hz hx
      refine ih _ ?_ (fun y hy => hx y (List.mem_cons_of_mem _ hy))
      show (if x.1 = i then x.2 else z).size = 256
      split
      · exact hx x (List.mem_cons_self ..)
      · exact hz
  refine key _ _ ?_ h2
  rw [List.getD_eq_getElem?_getD]
  cases hg : m.l[i.toNat]? with
  | none => exact noughts_size 256
  | some s => exact h1 s (List.mem_of_getElem? hg)

theorem slot_spec {mu im : Nat → Prop} {h : Heap} {p : Nat} {m : M} (hr : Disk.Rep h p mu im m) (hc : m.c.length ≤ 1000000) {at_ n : Int} (h0 : 0 ≤ at_) (h1 : 1 ≤ n) (h2 : at_ + n ≤ m.l.length) {odd : Nat} (hodd : odd < 2) {R : Sl × Int × Bool × Int → Heap → Prop}
    (hdead : m.st = 2 → R (⟨none, 0, 0⟩, 0, false, 50) h)
    (hk : m.st ≠ 2 → ∀ s h', Rb h' s.a s.len (slotM m at_ n odd).1 → Keep (fun _ => False) h h' → R (s, ((slotM m at_ n odd).2.1 : Int), (slotM m at_ n odd).2.2, 0) h') :
    CallT Try.prog snap_slot_no [.pointer (some ⟨p, 0, none⟩), .int .i64 at_, .int .i64 n, .int .u64 (odd : Int)] h [.sc .sl, .sc (.int .u64), .sc .bool, .sc (.int .i64)] R := by
  apply snap_slot_call
  simp only [snap_slot]
  have hle := hr.le
  obtain ⟨z1, z2⟩ := Rep.secs hr
  by_cases hst : m.st = 2
  · have e : readErr m at_ = 50 := by unfold readErr; rw [if_pos hst]
    refine read_spec hr hc (i := at_) (by unfold InI; omega) (fun _ => ?_) (fun e' => by rw [e] at e'; cases e')
    rw [e]
    exact cnd_t rfl (hdead hst)
  have hk := hk hst
  have rd0 : ∀ i : Int, 0 ≤ i → i < m.l.length → readErr m i = 0 := fun i a b => by unfold readErr; rw [if_neg hst, if_neg (by omega)]
  refine read_spec hr hc (i := at_) (by unfold InI; omega) (fun e' => absurd (rd0 at_ h0 (by omega)) e') ?_
  intro _ b h3 hb1 hb2 bs3 r3 k3
  refine cnd_f rfl ?_
  have hd : Rb h3 (some ⟨b, 0, none⟩) 256 (hdr m at_) := bs3.rb
  have hdl : (hdr m at_).length = 256 := by have := hd.len; omega
  refine hd.sub (cap := 256) (mx := ((256 : Nat) : Int)) (by omega) (by omega) (by omega) (by omega) (by omega) ?_
  intro a4 w4 _
  refine get64_spec (bs := ((hdr m at_).drop 8).take 8) w4 ?_
  refine hd.sub (cap := 256) (mx := ((256 : Nat) : Int)) (by omega) (by omega) (by omega) (by omega) (by omega) ?_
  intro a5 w5 _
  refine get64_spec (bs := ((hdr m at_).drop 16).take 8) w5 ?_
  refine withJ.inl (withJ.inl ?_)
  refine hd.sub (cap := 256) (mx := ((256 : Nat) : Int)) (by omega) (by omega) (by omega) (by omega) (by omega) ?_
  intro a6 w6 _
  have w6' : Rb h3 a6 4 ((hdr m at_).take 4) := w6
  refine Rb.str w6' ?_
  obtain ⟨E, hE'⟩ : ∃ E, E = hE m at_ := ⟨_, rfl⟩
  obtain ⟨N, hN'⟩ : ∃ N, N = hN m at_ := ⟨_, rfl⟩
  have eE : g64 (((hdr m at_).drop 8).take 8) = E := hE'.symm
  have eN : g64 (((hdr m at_).drop 16).take 8) = N := hN'.symm
  simp only [eE, eN]
  have bad : ∀ {X : Prop}, hBad m at_ n odd = true → (R (⟨none, 0, 0⟩, 0, false, 0) h3 → X) → X := by
    intro X hb hx
    refine hx ?_
    have := hk ⟨none, 0, 0⟩ h3
    unfold slotM at this
    rw [if_pos hb] at this
    exact this (SlR.nil h3 1).rv k3
  have e4 : seq (⟨((hdr m at_).take 4).toArray⟩ : ByteArray) (⟨#[83, 78, 65, 80]⟩ : ByteArray) = decide ((hdr m at_).take 4 = [83, 78, 65, 80]) := seq_ofL _ [83, 78, 65, 80]
  rw [e4]
  have hE64 := g64_lt (((hdr m at_).drop 8).take 8)
  have hN64 := g64_lt (((hdr m at_).drop 16).take 8)
  rw [eE, List.length_take, List.length_drop, hdl] at hE64
  rw [eN, List.length_take, List.length_drop, hdl] at hN64
  refine cnd_of (fun hb => ?_) (fun hb => ?_)
  · refine bad ?_ (fun hx => cnd_t rfl hx)
    unfold hBad
    rw [hb, Bool.true_or]
  have em : ((E : Int).tmod 2 != (odd : Int)) = decide (E % 2 ≠ odd) := by
    rw [Int.tmod_eq_emod_of_nonneg (by omega), Bool.eq_iff_iff]
    simp only [bne_iff_ne, ne_eq, decide_eq_true_eq]
    omega
  rw [em]
  refine cnd_of (fun hb2' => ?_) (fun hb2' => ?_)
  · refine bad ?_ (fun hx => cnd_t rfl hx)
    unfold hBad
    rw [← hE', hb2', Bool.true_or, Bool.or_true]
  have ew : IntKind.u64.wrap (w64 (w64 (n - 1) * 256)) = (n - 1) * 256 := by
    rw [w64_id (x := n - 1) (by omega) (by omega), w64_id (by omega) (by omega), wrap_u64_id (by omega) (by omega)]
  rw [ew]
  refine cnd_of (fun hb3 => ?_) (fun hb3 => ?_)
  · refine bad ?_ (fun hx => hx)
    unfold hBad
    have : decide ((n - 1) * 256 < (hN m at_ : Int)) = true := by
      rw [← hN']
      simpa using hb3
    rw [this, Bool.or_true, Bool.or_true]
  have hNn : (N : Int) ≤ (n - 1) * 256 := by simpa using hb3
  have good : hBad m at_ n odd = false := by
    unfold hBad
    have e3 : decide ((n - 1) * 256 < (hN m at_ : Int)) = false := by rw [← hN']; simp; omega
    rw [hb, ← hE', hb2', e3]
    rfl
  have szs : ∀ i : Int, (readAt m i).data.toList.length = 256 := fun i => readAt_size z1 z2 i
  have rl := rdN_length (m := m) (at_ := at_) (fun i _ => szs i)
  have hpn : ((parts N : Nat) : Int) ≤ n - 1 := by unfold parts; omega
  refine LoopT.intro (fun (t : Sl × Int) h' => 1 ≤ t.2 ∧ t.2 ≤ parts N + 1 ∧ t.1.len = 256 * (t.2 - 1).toNat ∧ Bl h' t.1.a t.1.len t.1.cap (rdN m at_ (t.2 - 1).toNat) ∧ (∀ y, blk t.1.a y → h3.size ≤ y) ∧ Keep (fun y => h3.size ≤ y) h3 h') (fun t _ => ((parts N + 1 : Nat) - t.2).toNat)
    ⟨by simp, by simp; omega, by simp, SlR.nil _ _, (fun b hb' => by obtain ⟨x, hx, _⟩ := hb'; cases hx), .refl _ _⟩ ?_
  rintro ⟨s, i⟩ h5 ⟨p1, p2, p3, p4, p5, p6⟩
  replace p1 : 1 ≤ i := p1
  replace p2 : i ≤ parts N + 1 := p2
  replace p3 : s.len = 256 * (i - 1).toNat := p3
  replace p4 : Bl h5 s.a s.len s.cap (rdN m at_ (i - 1).toNat) := p4
  replace p5 : ∀ y, blk s.a y → h3.size ≤ y := p5
  have r5 : Disk.Rep h5 p mu im m := r3.keep p6 (fun b hb' hge => by have := r3.lt b (.inl hb'); have hge' : h3.size ≤ b := hge; omega) (fun b hb' hge => by have := r3.lt b (.inr hb'); have hge' : h3.size ≤ b := hge; omega)
  have hd5 : Rb h5 (some ⟨b, 0, none⟩) 256 (hdr m at_) := hd.keep p6 (fun _ y hy hge => by
    rw [blk_some] at hy
    have hge' : h3.size ≤ y := hge
    simp only at hy
    omega)
  have esl : IntKind.u64.wrap (s.len : Int) = s.len := wrap_u64_id (by omega) (by omega)
  rw [esl]
  have z5 := p6.size
  refine cnd_dec (fun hi => ?_) (fun hi => ?_)
  · replace hi : (s.len : Int) < N := hi
    have hip : i ≤ parts N := by unfold parts; omega
    have eat : w64 (at_ + i) = at_ + 1 + ((i - 1).toNat : Int) := by rw [w64_id (by omega) (by omega)]; omega
    rw [eat]
    refine read_spec r5 hc (i := at_ + 1 + ((i - 1).toNat : Int)) (by unfold InI; omega) (fun e' => absurd (rd0 _ (by omega) (by omega)) e') ?_
    intro _ b6 h6 hb61 hb62 bs6 r6 k6
    refine cnd_f rfl ?_
    have hbl6 : Rb h6 (some ⟨b6, 0, none⟩) 256 (readAt m (at_ + 1 + ((i - 1).toNat : Int))).data.toList := bs6.rb
    refine hbl6.rd ?_
    have p4' : Bl h6 s.a s.len s.cap _ := SlR.keep p4 k6 (fun _ _ h => h)
    refine p4'.push (new := (readAt m (at_ + 1 + ((i - 1).toNat : Int))).data.toList) (by show s.len + 256 ≤ _; omega) (szs _).symm rfl ?_
    intro a7 c7 h7 v1 v2 v3
    have z6 := k6.size
    show (1 ≤ w64 (i + 1) ∧ w64 (i + 1) ≤ parts N + 1 ∧ s.len + 256 = 256 * (w64 (i + 1) - 1).toNat ∧ Bl h7 a7 (s.len + 256) c7 (rdN m at_ (w64 (i + 1) - 1).toNat) ∧ (∀ y, blk a7 y → h3.size ≤ y) ∧ Keep (fun y => h3.size ≤ y) h3 h7) ∧ ((parts N + 1 : Nat) - w64 (i + 1)).toNat < ((parts N + 1 : Nat) - i).toNat
    rw [w64_id (x := i + 1) (by omega) (by omega)]
    have e1 : (i + 1 - 1).toNat = (i - 1).toNat + 1 := by omega
    refine ⟨⟨by omega, by omega, by omega, by rw [e1]; exact v1, fun y hy => ?_, (p6.trans k6 (fun _ _ h => h.elim)).trans v2 (fun y _ hy => p5 y hy)⟩, by omega⟩
    rcases v3 y hy with hh | hh
    · exact p5 y hh
    · omega
  · replace hi : ¬ (s.len : Int) < N := hi
    have hip : (i - 1).toNat = parts N := by
      unfold parts at p2 ⊢
      omega
    rw [hip] at p4 p3
    have hcap := SlR.le p4
    refine p4.rb.sub (by omega) (by omega) (by show (N : Int) ≤ s.len; omega) (by omega) (by show (N : Int) ≤ s.cap; omega) ?_
    intro a8 w8 wb8
    rw [show ((N : Int) - 0).toNat = N by omega] at w8 ⊢
    have w8' : Rb h5 a8 N (hSt m at_) := by
      unfold hSt
      rw [← hN']
      exact w8
    refine hd5.sub (cap := 256) (mx := ((256 : Nat) : Int)) (by omega) (by omega) (by omega) (by omega) (by omega) ?_
    intro a9 w9 wb9
    have w9' : Rb h5 a9 24 ((hdr m at_).take 24) := w9
    refine Rb.str w9' ?_
    have hstl := w8'.len
    refine head_spec (e := E) w8' (by omega) ?_
    intro s10 h10 sl10 b10 n10 k10
    refine ⟨Rb.str (Rv.keep w9' k10 (fun _ _ _ h => h)) rfl, ?_⟩
    have hc10 := SlR.le b10
    refine b10.rb.sub (by omega) (by omega) (by rw [sl10]; omega) (by omega) (by omega) ?_
    intro a11 w11 _
    have w11' : Rb h10 a11 24 (headL E (hSt m at_)) := by
      have e : ((headL E (hSt m at_) ++ List.replicate 232 (0 : UInt8)).drop (0 : Int).toNat).take ((24 : Int) - 0).toNat = headL E (hSt m at_) := by
        show ((headL E (hSt m at_) ++ List.replicate 232 (0 : UInt8)).drop 0).take 24 = _
        rw [List.drop_zero, List.take_left' (headL_length _ _)]
      rw [← e]
      exact w11
    refine Rb.str w11' ?_
    rw [seq_ofL]
    have := hk ⟨a8, N, N⟩ h10
    unfold slotM at this
    rw [if_neg (by simp [good])] at this
    rw [hE']
    refine this (Rv.keep w8' k10 (fun _ _ _ h => h)) ?_
    have kk := (k3.mono (T := fun y => h3.size ≤ y) (fun _ _ h => h.elim)).trans (p6.trans k10 (fun _ _ h => h.elim)) (fun _ _ h => h)
    have z3 := k3.size
    exact ⟨kk.size, fun y hy _ => kk.same y hy (by omega)⟩

/-! ### Load -/
/-- the better of what is there and a slot -/
def better (best : List UInt8 × Nat × Bool) (s : List UInt8 × Nat × Bool) : List UInt8 × Nat × Bool :=
  if s.2.2 && (!best.2.2 || decide (best.2.1 < s.2.1)) then (s.1, s.2.1, true) else best
def bestM (m : M) (fr n : Int) : List UInt8 × Nat × Bool := better (better ([], 0, false) (slotM m fr n 0)) (slotM m (fr + n) n 1)
def loadM (m : M) (fr n : Int) : List UInt8 × Nat × Int :=
  if ¬ okAt m.l.length fr n then ([], 0, 1) else if m.st = 2 then ([], 0, 50) else if (bestM m fr n).2.2 then ((bestM m fr n).1, (bestM m fr n).2.1, 0) else ([], 0, 61)

theorem load_spec {mu im : Nat → Prop} {h : Heap} {p : Nat} {m : M} (hr : Disk.Rep h p mu im m) (hc : m.c.length ≤ 1000000) {fr n : Int} (hf : InI fr) (hn : InI n) {R : Sl × Int × Int → Heap → Prop}
    (hk : ∀ s h', Rb h' s.a s.len (loadM m fr n).1 → Disk.Rep h' p mu im m → Keep (fun _ => False) h h' → R (s, ((loadM m fr n).2.1 : Int), (loadM m fr n).2.2) h') :
    CallT Try.prog snap_Load_no [.pointer (some ⟨p, 0, none⟩), .int .i64 fr, .int .i64 n] h [.sc .sl, .sc (.int .u64), .sc (.int .i64)] R := by
  apply snap_Load_call
  simp only [snap_Load]
  have hle := hr.le
  unfold loadM at hk
  refine check_spec hr hf hn (fun hok => ?_) (fun hno => ?_)
  rotate_left
  · rw [if_pos hno] at hk
    exact cnd_t rfl (hk ⟨none, 0, 0⟩ h (SlR.nil h 1).rv hr (.refl _ _))
  rw [if_neg (by simpa using hok)] at hk
  refine cnd_f rfl ?_
  obtain ⟨o1, o2, o3, o4⟩ := hok
  have o5 : fr + 2 * n ≤ m.l.length := by omega
  let acc : Nat → List UInt8 × Nat × Bool := fun k => if k = 0 then ([], 0, false) else if k = 1 then better ([], 0, false) (slotM m fr n 0) else bestM m fr n
  refine LoopT.intro (fun (t : Sl × Int × Bool × Int) h' => 0 ≤ t.2.2.2 ∧ t.2.2.2 ≤ 2 ∧ (0 < t.2.2.2 → m.st ≠ 2) ∧ t.2.1 = ((acc t.2.2.2.toNat).2.1 : Int) ∧ t.2.2.1 = (acc t.2.2.2.toNat).2.2 ∧ Rb h' t.1.a t.1.len (acc t.2.2.2.toNat).1 ∧ Keep (fun _ => False) h h') (fun t _ => (2 - t.2.2.2).toNat)
    ⟨by simp, by simp, by simp, rfl, rfl, (SlR.nil h 1).rv, .refl _ _⟩ ?_
  rintro ⟨s, top, has, k⟩ h1 ⟨p1, p2, p3, p4, p5, p6, p7⟩
  replace p1 : 0 ≤ k := p1
  replace p2 : k ≤ 2 := p2
  replace p3 : 0 < k → m.st ≠ 2 := p3
  replace p4 : top = ((acc k.toNat).2.1 : Int) := p4
  replace p5 : has = (acc k.toNat).2.2 := p5
  replace p6 : Rb h1 s.a s.len (acc k.toNat).1 := p6
  subst p4 p5
  have r1 := hr.keep p7 (fun _ _ h => h) (fun _ _ h => h)
  refine cnd_dec (fun hk2 => ?_) (fun hk2 => ?_)
  · replace hk2 : k < 2 := hk2
    refine withJ.inl ?_
    have hkn : k = 0 ∨ k = 1 := by omega
    have ekn : w64 (k * n) = k * n := by rcases hkn with e | e <;> subst e <;> rw [w64_id (by omega) (by omega)]
    have efr : w64 (fr + w64 (k * n)) = fr + k * n := by
      rw [ekn]
      rcases hkn with e | e <;> subst e <;> rw [w64_id (by omega) (by omega)]
    have eu : IntKind.u64.wrap k = ((k.toNat : Nat) : Int) := by rw [wrap_u64_id (by omega) (by omega)]; omega
    show CallT Try.prog snap_slot_no [.pointer (some ⟨p, 0, none⟩), .int .i64 (w64 (fr + w64 (k * n))), .int .i64 n, .int .u64 (IntKind.u64.wrap k)] h1 _ _
    rw [efr, eu]
    refine slot_spec r1 hc (at_ := fr + k * n) (by rcases hkn with e | e <;> subst e <;> omega) o1 (by rcases hkn with e | e <;> subst e <;> omega) (by omega) (fun hst => ?_) (fun hst s2 h2 w1 k2 => ?_)
    · rw [if_pos hst] at hk
      exact cnd_t rfl (hk ⟨none, 0, 0⟩ h1 (SlR.nil h1 1).rv r1 p7)
    · refine cnd_f rfl ?_
      obtain ⟨S, hS⟩ : ∃ S, S = slotM m (fr + k * n) n k.toNat := ⟨_, rfl⟩
      rw [← hS] at w1 ⊢
      have hw : w64 (k + 1) = k + 1 := w64_id (by omega) (by omega)
      have hacc : acc (k + 1).toNat = better (acc k.toNat) S := by
        rcases hkn with e | e
        · subst e
          rw [hS]
          show better ([], 0, false) (slotM m fr n 0) = better ([], 0, false) (slotM m (fr + 0 * n) n 0)
          rw [Int.zero_mul, Int.add_zero]
        · subst e
          rw [hS]
          show bestM m fr n = better (better ([], 0, false) (slotM m fr n 0)) (slotM m (fr + 1 * n) n 1)
          rw [Int.one_mul]
          rfl
      have p62 := Rv.keep p6 k2 (fun _ _ _ h => h)
      -- both ways out
      have out : ∀ (s3 : Sl) (e3 : Int) (b3 : Bool), Rb h2 s3.a s3.len (better (acc k.toNat) S).1 → e3 = ((better (acc k.toNat) S).2.1 : Int) → b3 = (better (acc k.toNat) S).2.2 → (0 ≤ w64 (k + 1) ∧ w64 (k + 1) ≤ 2 ∧ (0 < w64 (k + 1) → m.st ≠ 2) ∧ e3 = ((acc (w64 (k + 1)).toNat).2.1 : Int) ∧ b3 = (acc (w64 (k + 1)).toNat).2.2 ∧ Rb h2 s3.a s3.len (acc (w64 (k + 1)).toNat).1 ∧ Keep (fun _ => False) h h2) ∧ (2 - w64 (k + 1)).toNat < (2 - k).toNat := by
        intro s3 e3 b3 u1 u2 u3
        rw [hw, hacc]
        exact ⟨⟨by omega, by omega, fun _ => hst, u2, u3, u1, p7.trans' k2⟩, by omega⟩
      have take : (S.2.2 && (!(acc k.toNat).2.2 || decide ((acc k.toNat).2.1 < S.2.1))) = true → _ := fun hc' => out s2 (S.2.1 : Int) true (by unfold better; rw [if_pos hc']; exact w1) (by unfold better; rw [if_pos hc']) (by unfold better; rw [if_pos hc'])
      have stay : (S.2.2 && (!(acc k.toNat).2.2 || decide ((acc k.toNat).2.1 < S.2.1))) = false → _ := fun hc' => out s ((acc k.toNat).2.1 : Int) (acc k.toNat).2.2 (by unfold better; rw [if_neg (by simp [hc'])]; exact p62) (by unfold better; rw [if_neg (by simp [hc'])]) (by unfold better; rw [if_neg (by simp [hc'])])
      refine withJ.inl ?_
      refine cnd_of (fun c1 => ?_) (fun c1 => ?_)
      · refine cnd_of (fun c2 => ?_) (fun c2 => ?_)
        · refine cnd_t rfl (take ?_)
          replace c1 : S.2.2 = true := c1
          replace c2 : (!(acc k.toNat).2.2) = true := c2
          rw [c1, c2]; rfl
        · replace c1 : S.2.2 = true := c1
          replace c2 : (!(acc k.toNat).2.2) = false := c2
          show cnd (decide ((S.2.1 : Int) > ((acc k.toNat).2.1 : Int))) _ _
          refine cnd_dec (fun c3 => take ?_) (fun c3 => stay ?_)
          · rw [c1, c2]
            simp; omega
          · rw [c1, c2]
            simp; omega
      · refine cnd_f rfl (stay ?_)
        replace c1 : S.2.2 = false := c1
        rw [c1]; rfl
  · have hk2' : k = 2 := by
      have : ¬ k < 2 := hk2
      omega
    subst hk2'
    rw [if_neg (p3 (by omega))] at hk
    show cnd (!(bestM m fr n).2.2) _ _
    cases hb : (bestM m fr n).2.2
    · rw [hb] at hk
      exact cnd_t rfl (hk ⟨none, 0, 0⟩ h1 (SlR.nil h1 1).rv r1 p7)
    · rw [hb] at hk
      exact cnd_f rfl (hk s h1 p6 r1 p7)

end Snap
end Go.Proofs.Ytmkobpkdodgboaa
