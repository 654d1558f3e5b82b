/- Strings: growing a builder, joining, prefixes, what stands at the front. -/
import Derived.Test.YtncffbocmpmejaaDoorPStr
namespace Go.Proofs.YtncffbocmpmejaaDoor
open Go D
set_option linter.unusedVariables false
set_option linter.unusedSimpArgs false

theorem rd_none {n : Nat} {h : Heap} {K : List Value → Prop} (hk : K []) : rdCells none n h K := hk
theorem wr_nil {o : Option Addr} {h : Heap} {K : Heap → Prop} (hk : K h) : wrRow [] o h K := by
  cases o with
  | none => exact hk
  | some a => exact ⟨by simp, by simp, hk⟩

section
variable {h : Heap} {p lo : Nat} {bs : List UInt8}

theorem builder_new {h h' : Heap} (r : Row h' h.size [.pointer none, .slice none 0 0]) (t : Ty h' h.size 65) : Bd 65 5 h' h.size (h.size + 1) [] :=
  ⟨⟨none, none, 0, 0, r, SlR.nil _ _, .inl rfl, fun x hx => by cases hx⟩, t, by omega⟩

/-- growing an empty builder -/
theorem grow_spec (hr : Row h p [.pointer none, .slice none 0 0]) (ty : Ty h p 65) (lt : p < lo) (hlo : lo ≤ h.size) {n : Int} (h0 : 0 ≤ n) (h1 : n ≤ 140737488354000) {R : Unit → Heap → Prop} (hk : ∀ h', Bd 65 5 h' p lo [] → Keep (bdS p lo) h h' → R () h') :
    CallT Tryd.prog strings_Builder_Grow_no [.pointer (some ⟨p, 0, none⟩), .int .i64 n] h [] R := by
  apply strings_Builder_Grow_call
  simp only [strings_Builder_Grow, nn_eq, add_mk]
  apply strings_Builder_copyCheck_call
  simp only [strings_Builder_copyCheck, nn_eq]
  refine ldP_row (o := 0) hr rfl (cnd_t rfl ?_)
  obtain ⟨t, lo', hi', w1, w2⟩ := hr
  have ety : t = 65 := by
    obtain ⟨cs, f, e⟩ := ty
    rw [w1] at e
    injection e with e
    injection e
  subst ety
  refine ⟨⟨_, _, _, w1, by simp⟩, ⟨_, _, _, w1, by kernel_rfl⟩, ?_⟩
  refine stC_ty (stC_row ⟨65, lo', hi', w1, w2⟩ (by simp) rfl ?_)
  intro h2 s2 r2 k2 t2
  replace r2 : Row h2 p [.pointer (some ⟨p, 0, none⟩), .slice none 0 0] := r2
  refine withJ.inl ?_
  refine cnd_neg (by omega) ?_
  refine ldL_row (o := 0 + 1) r2 rfl ?_
  refine ldL_row (o := 0 + 1) r2 rfl ?_
  have k2' : Keep (bdS p lo) h h2 := k2.mono (fun y _ hy => .inl hy)
  refine cnd_dec (fun hn => ?_) (fun hn => hk h2 ⟨⟨_, none, 0, 0, r2, SlR.nil _ _, .inr rfl, fun x hx => by cases hx⟩, t2 _ _ ty, lt⟩ k2')
  rw [w64_id (by omega) (by omega)] at hn
  have hn : 0 < n := by omega
  apply strings_Builder_grow_call
  simp only [strings_Builder_grow, nn_eq, add_mk]
  refine ldL_row (o := 0 + 1) r2 rfl ?_
  refine ldL_row (o := 0 + 1) r2 rfl ?_
  rw [w64_id (x := 2 * ((0 : Nat) : Int)) (by omega) (by omega), w64_id (by omega) (by omega)]
  refine ⟨by omega, by omega, ?_⟩
  intro cs c1 c2
  have kp := keep_push h2 (.cells cs.toArray 5)
  have rp := row_push h2 cs 5
  have tp := Ty.new h2 cs.toArray 5
  have k3 : ∀ b e, Ty h2 b e → Ty (h2.push (.cells cs.toArray 5)) b e := fun b e t => t.push _
  have s3 : (h2.push (Obj.cells cs.toArray 5)).size = h2.size + 1 := by simp
  generalize h2.push (Obj.cells cs.toArray 5) = h3 at kp rp tp k3 s3 ⊢
  have r3 := kp.row r2 (fun h => h)
  refine ⟨ldL_row (o := 0 + 1) r3 rfl rfl, ?_⟩
  refine ⟨by omega, by omega, by omega, by omega, ?_⟩
  rw [if_neg (by omega)]
  refine ldL_row (o := 0 + 1) r3 rfl ?_
  refine rd_none (wr_nil ?_)
  show stC _ _ h3 _
  have pl : p < h2.size := r2.lt
  refine stC_ty (stC_row r3 (by simp) rfl ?_)
  intro h4 s4 r4 k4 t4
  have hb : Bl h3 (some ⟨h2.size, 0, none⟩) 0 cs.length [] := .inr ⟨h2.size, 0, cs, rfl, rp, by omega, by omega, by simp, by simp⟩
  refine hk h4 ⟨⟨_, some ⟨h2.size, 0, none⟩, 0, cs.length, ?_, SlR.keep hb k4 (fun y hy => ?_), .inr rfl, fun x hx => ?_⟩, t4 _ _ (k3 _ _ (t2 _ _ ty)), lt⟩ ((k2'.trans kp (fun _ _ h => h.elim)).trans k4 (fun y _ hy => .inl hy))
  · have e : (Value.slice (Option.map (fun x : Addr => x.add ((0 : Int).toNat * 1)) (some ⟨h2.size, 0, none⟩)) (((0 : Nat) : Int) - 0).toNat ((cs.length : Int) - 0).toNat) = .slice (some ⟨h2.size, 0, none⟩) 0 cs.length := by
      simp [add_mk]
    rw [e] at r4
    exact r4
  · rw [blk_some] at hy
    simp only at hy
    intro e
    have e' : y = p := e
    omega
  · injection hx with hx
    refine ⟨by omega, h2.size, hx.symm, by omega, t4 _ _ tp⟩
end

/-! ### joining -/
def tot : List ByteArray → Nat
  | [] => 0
  | s :: r => s.size + tot r
def joinT (sep : List UInt8) : List ByteArray → List UInt8
  | [] => []
  | s :: r => sep ++ (bl s ++ joinT sep r)
def joinL (sep : List UInt8) : List ByteArray → List UInt8
  | [] => []
  | s :: r => bl s ++ joinT sep r
theorem tot_app : ∀ a b : List ByteArray, tot (a ++ b) = tot a + tot b
  | [], b => by simp [tot]
  | s :: r, b => by simp [tot, tot_app r b]; omega
theorem joinT_app (sep : List UInt8) : ∀ a b : List ByteArray, joinT sep (a ++ b) = joinT sep a ++ joinT sep b
  | [], b => rfl
  | s :: r, b => by simp [joinT, joinT_app sep r b]
theorem joinT_len (sep : List UInt8) : ∀ a : List ByteArray, (joinT sep a).length = tot a + sep.length * a.length
  | [] => by simp [joinT, tot]
  | s :: r => by
    simp only [joinT, List.length_append, joinT_len sep r, tot, bl_len, List.length_cons, Nat.mul_add]
    omega
theorem tot_take {l : List ByteArray} {i : Nat} {s : ByteArray} (hs : l[i]? = some s) : tot (l.take (i + 1)) = tot (l.take i) + s.size := by
  rw [List.take_add_one, hs, tot_app]; simp [tot]
theorem tot_take_le (l : List ByteArray) (i : Nat) : tot (l.take i) ≤ tot l := by
  conv => rhs; rw [← List.take_append_drop i l, tot_app]
  omega
theorem joinT_take {sep : List UInt8} {l : List ByteArray} {i : Nat} {s : ByteArray} (hs : l[i]? = some s) : joinT sep (l.take (i + 1)) = joinT sep (l.take i) ++ (sep ++ bl s) := by
  rw [List.take_add_one, hs, joinT_app]; simp [joinT]

theorem Rv.atS {h : Heap} {a : Option Addr} {l : Nat} {ss : List ByteArray} (hs : Rv h a l (ss.map Value.string)) {i : Int} (h0 : 0 ≤ i) (h1 : i < l) {K : ByteArray → Prop} (hk : ∀ s, ss[i.toNat]? = some s → K s) : idx a l i fun x => ldS (x.add (i.toNat * 1)) h K := by
  have hl := hs.1
  rw [List.length_map] at hl
  have hi : i.toNat < ss.length := by omega
  exact Rv.at hs h0 h1 (v := .string ss[i.toNat]) (by rw [List.getElem?_map, List.getElem?_eq_getElem hi]; rfl) fun x hx => ldS_at hx (hk _ (List.getElem?_eq_getElem hi))

theorem join_spec {h : Heap} {x0 : Sl} {ss : List ByteArray} {sep : ByteArray} (hs : Rv h x0.a x0.len (ss.map Value.string)) (hc : x0.len ≤ x0.cap) (hn : ss.length ≤ 1000000) (hp : sep.size ≤ 1000000) (ht : tot ss ≤ 100000000000000) {R : ByteArray → Heap → Prop} (hk : ∀ h', Keep (fun _ => False) h h' → R (ofL (joinL (bl sep) ss)) h') :
    CallT Tryd.prog strings_Join_no [.slice x0.a x0.len x0.cap, .string sep] h [.sc .str] R := by
  apply strings_Join_call
  unfold strings_Join
  have hl := hs.1
  rw [List.length_map] at hl
  refine cnd_of (fun e => ?_) (fun e0 => cnd_of (fun e => ?_) (fun e1 => ?_))
  · have e : x0.len = 0 := by simpa using e
    have : ss = [] := List.length_eq_zero_iff.1 (by omega)
    subst this
    exact hk h (.refl _ _)
  · have e : x0.len = 1 := by have := eq_of_beq e; omega
    refine Rv.atS hs (by omega) (by omega) ?_
    intro s e2
    have : ss = [s] := by
      match ss, hl, e2 with
      | [y], _, e2 => simpa using e2
      | [], hl, _ => simp at hl; omega
      | _ :: _ :: _, hl, _ => simp at hl; omega
    subst this
    have := hk h (.refl _ _)
    simp only [joinL, joinT, List.append_nil, ofL_bl] at this
    exact this
  · have e0 : x0.len ≠ 0 := by simpa using e0
    have e1 : x0.len ≠ 1 := fun e => by rw [e] at e1; simp at e1
    obtain ⟨s0, rest, hss⟩ : ∃ s r, ss = s :: r := by
      cases ss with
      | nil => simp at hl; omega
      | cons s r => exact ⟨s, r, rfl⟩
    have hmul : sep.size * rest.length ≤ 1000000 * 1000000 := Nat.mul_le_mul hp (by rw [hss] at hn; simp at hn; omega)
    have hlr : x0.len = rest.length + 1 := by rw [hl, hss]; rfl
    refine withJ.intro (fun (s : Int) h' => s = ((sep.size * rest.length : Nat) : Int) ∧ h' = h) ?_ ?_
    · rintro s h' ⟨rfl, rfl⟩
      refine LoopT.intro (fun (t : Int × Int) h2 => h2 = h' ∧ 0 ≤ t.2 ∧ t.2 ≤ x0.len ∧ t.1 = ((sep.size * rest.length + tot (ss.take t.2.toNat) : Nat) : Int)) (fun t _ => (x0.len - t.2).toNat) ⟨rfl, by simp, by simp, by simp [tot]⟩ ?_
      rintro ⟨acc, i⟩ h2 ⟨rfl, p1, p2, p3⟩
      replace p1 : 0 ≤ i := p1
      replace p2 : i ≤ x0.len := p2
      replace p3 : acc = ((sep.size * rest.length + tot (ss.take i.toNat) : Nat) : Int) := p3
      refine cnd_dec (fun hi => ?_) (fun hi => ?_)
      · replace hi : i < (x0.len : Int) := hi
        refine withJ.inl ?_
        refine Rv.atS hs p1 hi ?_
        intro s hsi
        refine withJ.inl ?_
        have q1 := tot_take hsi
        have q2 := tot_take_le ss (i.toNat + 1)
        subst p3
        generalize hM : sep.size * rest.length = M at *
        rw [w64_id (x := 9223372036854775807 - _) (by omega) (by omega)]
        refine cnd_neg (by omega) ?_
        show (h2 = h2 ∧ 0 ≤ w64 (i + 1) ∧ w64 (i + 1) ≤ x0.len ∧ w64 (_ + (s.size : Int)) = ((M + tot (ss.take (w64 (i + 1)).toNat) : Nat) : Int)) ∧ (x0.len - w64 (i + 1)).toNat < (x0.len - i).toNat
        rw [w64_id (x := i + 1) (by omega) (by omega), w64_id (by omega) (by omega), show (i + 1).toNat = i.toNat + 1 by omega, q1]
        exact ⟨⟨rfl, by omega, by omega, by omega⟩, by omega⟩
      · have hil : i = x0.len := by
          have : ¬ i < (x0.len : Int) := hi
          omega
        subst hil
        refine newB_ty (newB_row ?_)
        rintro h3 s3 r3 k3 ⟨t3, t3'⟩
        rw [Int.toNat_natCast, List.take_of_length_le (by omega)] at p3
        subst p3
        have hjl : sep.size * rest.length + tot ss = (joinL (bl sep) ss).length := by
          rw [hss]
          simp only [joinL, tot, List.length_append, joinT_len, bl_len]
          omega
        have q3 := tot_take_le ss (0 + 1)
        generalize hM : sep.size * rest.length = M at *
        refine grow_spec r3 t3' (lo := h2.size + 1) (by omega) (by omega) (by omega) (by omega) ?_
        intro h4 b4 k4
        have K4 : Keep (fun y => h2.size ≤ y) h2 h4 := (k3.mono (fun _ _ h => h.elim)).trans k4 (fun y _ hy => by rcases hy with e | e <;> omega)
        have sz3 : h2.size + 1 ≤ h4.size := by have := k4.size; omega
        have rvk : ∀ {h'}, Keep (fun y => h2.size ≤ y) h2 h' → Rv h' x0.a x0.len (ss.map Value.string) := fun k => hs.keep k (fun hp b hb' hge => by have := hs.lt hp hb'; have hge' : h2.size ≤ b := hge; omega)
        refine Rv.atS (rvk K4) (by omega) (by omega) ?_
        intro s0' es0
        have es0 : s0' = s0 := by rw [hss] at es0; simpa using es0.symm
        subst es0
        have hs0 : s0'.size ≤ tot ss := by rw [hss]; simp [tot]
        refine writeS_spec b4 (by omega) (by simp; omega) ?_
        intro x5 h5 b5 k5
        have K5 : Keep (fun y => h2.size ≤ y) h2 h5 := K4.trans k5 (fun y _ hy => by rcases hy with e | e <;> omega)
        have sz5 : h2.size + 1 ≤ h5.size := by have := k5.size; omega
        refine Rv.sub (rvk K5) (by omega) (by omega) (by omega) (by omega) (by omega) ?_
        intro a' ra rab
        have ev : ((ss.map Value.string).drop (1 : Int).toNat).take ((x0.len : Int) - 1).toNat = rest.map Value.string := by
          rw [hss]
          simp only [List.map_cons, show (1 : Int).toNat = 1 from rfl, List.drop_succ_cons, List.drop_zero]
          exact List.take_of_length_le (by rw [List.length_map]; omega)
        rw [ev] at ra
        have el : ((x0.len : Int) - 1).toNat = rest.length := by omega
        rw [el] at ra ⊢
        have rak : ∀ {h'}, Keep (fun y => h2.size ≤ y) h5 h' → Rv h' a' rest.length (rest.map Value.string) := fun k => ra.keep k (fun hp b hb' hge => by
          have h1 := rab b hb'
          have := hs.lt (by omega) h1; have hge' : h2.size ≤ b := hge; omega)
        refine LoopT.intro (fun (i : Int) h6 => 0 ≤ i ∧ i ≤ rest.length ∧ Bd 65 5 h6 h2.size (h2.size + 1) (bl s0' ++ joinT (bl sep) (rest.take i.toNat)) ∧ Keep (fun y => h2.size ≤ y) h5 h6) (fun i _ => (rest.length - i).toNat) ⟨by omega, by omega, by simpa [joinT] using b5, .refl _ _⟩ ?_
        rintro i h6 ⟨p1, p2, p3, p4⟩
        have jlen : ∀ {i : Nat}, (joinT (bl sep) (rest.take i)).length ≤ (joinL (bl sep) ss).length := fun {i} => by
          rw [hss]
          simp only [joinL]
          conv => rhs; rw [← List.take_append_drop i rest, joinT_app]
          simp only [List.length_append]
          omega
        have jl2 : ∀ {i : Nat}, (bl s0' ++ joinT (bl sep) (rest.take i)).length ≤ (joinL (bl sep) ss).length := fun {i} => by
          rw [hss]
          simp only [joinL]
          conv => rhs; rw [← List.take_append_drop i rest, joinT_app]
          simp only [List.length_append]
          omega
        refine cnd_dec (fun hi => ?_) (fun hi => ?_)
        · refine Rv.atS (rak p4) p1 hi ?_
          intro s hsi
          have j0 := @jl2 i.toNat
          have j1 := @jl2 (i.toNat + 1)
          rw [joinT_take hsi] at j1
          simp only [List.length_append, bl_len] at j0 j1
          have sz6 := p4.size
          refine writeS_spec p3 (by omega) (by simp only [List.length_append, bl_len]; omega) ?_
          intro x7 h7 b7 k7
          have sz7 := k7.size
          refine writeS_spec b7 (by omega) (by simp only [List.length_append, bl_len]; omega) ?_
          intro x8 h8 b8 k8
          show (0 ≤ w64 (i + 1) ∧ w64 (i + 1) ≤ rest.length ∧ Bd 65 5 h8 h2.size (h2.size + 1) (bl s0' ++ joinT (bl sep) (rest.take (w64 (i + 1)).toNat)) ∧ Keep (fun y => h2.size ≤ y) h5 h8) ∧ (rest.length - w64 (i + 1)).toNat < (rest.length - i).toNat
          rw [w64_id (x := i + 1) (by omega) (by omega), show (i + 1).toNat = i.toNat + 1 by omega, joinT_take hsi]
          refine ⟨⟨by omega, by omega, by simpa using b8, (p4.trans k7 (fun y _ hy => ?_)).trans k8 (fun y _ hy => ?_)⟩, by omega⟩
          · rcases hy with e | e <;> omega
          · rcases hy with e | e <;> omega
        · have hil : i = rest.length := by
            have : ¬ i < (rest.length : Int) := hi
            omega
          subst hil
          rw [Int.toNat_natCast, List.take_of_length_le (by omega)] at p3
          have e : bl s0' ++ joinT (bl sep) rest = joinL (bl sep) ss := by rw [hss]; rfl
          rw [e] at p3
          refine string_spec p3 (by omega) ?_
          intro h7 k7
          refine hk h7 ⟨?_, fun b hb _ => ?_⟩
          · have := K5.size; have := p4.size; have := k7.size; omega
          · have w1 := K5.size
            have w2 := p4.size
            rw [k7.same b (by omega) (fun hy => by rcases hy with e | e <;> omega), p4.same b (by omega) (by show ¬ h2.size ≤ b; omega), K5.same b hb (by show ¬ h2.size ≤ b; omega)]
    · intro J hJ
      refine cnd_dec (fun hi => ?_) (fun hi => ?_)
      · refine withJ.inl ?_
        have w1 : w64 ((x0.len : Int) - 1) = (rest.length : Int) := by rw [w64_id (by omega) (by omega)]; omega
        rw [w1]
        have hr : 0 < rest.length := by omega
        have w2 : w64 ((9223372036854775807 : Int).tdiv (rest.length : Int)) = (((9223372036854775807 / rest.length : Nat)) : Int) := by
          have e : (9223372036854775807 : Int).tdiv (rest.length : Int) = ((9223372036854775807 / rest.length : Nat) : Int) := by
            rw [Int.tdiv_eq_ediv_of_nonneg (by omega)]; rfl
          rw [e]
          have := Nat.div_le_self 9223372036854775807 rest.length
          generalize 9223372036854775807 / rest.length = q at *
          exact w64_id (by omega) (by omega)
        rw [w2]
        refine ⟨by omega, ?_⟩
        have key : sep.size < 9223372036854775807 / rest.length := by
          rw [Nat.lt_div_iff_mul_lt hr]
          have : sep.size * rest.length ≤ 1000000000000 := hmul
          omega
        refine cnd_neg (by omega) (hJ _ _ ⟨?_, rfl⟩)
        have e : (sep.size : Int) * (rest.length : Int) = ((sep.size * rest.length : Nat) : Int) := by simp
        rw [e]
        generalize sep.size * rest.length = M at *
        rw [w64_id (x := (M : Int)) (by omega) (by omega), w64_id (by omega) (by omega)]
        omega
      · refine hJ _ _ ⟨?_, rfl⟩
        have : sep.size = 0 := by omega
        rw [this]; simp
end Go.Proofs.YtncffbocmpmejaaDoor
