/- A request as bytes: the program's Print and the document's; what is printed and read again takes all its bytes. -/
import Derived.Test.YtjpmjhnjdnbopaaPReqs
import Derived.Test.YtjpmjhnjdnbopaaPMono
import Derived.Test.YtjpmjhnjdnbopaaPLent
namespace Go.Proofs.Ytjpmjhnjdnbopaa
open Go D
set_option linter.unusedVariables false
set_option linter.unusedSimpArgs false

def verL : List UInt8 := [32, 72, 84, 84, 80, 47, 49, 46, 49, 13, 10]
def hdLine (p : HP) : List UInt8 := bl p.1 ++ [58, 32] ++ bl p.2 ++ [13, 10]
def hdLines (hs : List HP) : List UInt8 := hs.flatMap hdLine
def frontL (m t : ByteArray) : List UInt8 := bl m ++ [32] ++ bl t ++ verL
def printF (m t : ByteArray) (hs : List HP) (body : List UInt8) : List UInt8 := frontL m t ++ hdLines hs ++ [13, 10] ++ body

theorem hdLine_len (p : HP) : (hdLine p).length = p.1.size + p.2.size + 4 := by
  unfold hdLine
  simp [bl_len]; omega
theorem hdLines_len : ∀ hs : List HP, (hdLines hs).length ≤ 2 * hdTot hs
  | [] => by simp [hdLines]
  | p :: r => by
    have e1 : hdLines (p :: r) = hdLine p ++ hdLines r := rfl
    have e2 : hdTot (p :: r) = p.1.size + p.2.size + 3 + hdTot r := rfl
    rw [e1, e2, List.length_append, hdLine_len]
    have := hdLines_len r
    omega
theorem hdTot_len : ∀ l : List HP, l.length ≤ hdTot l
  | [] => by simp
  | p :: r => by
    have ih := hdTot_len r
    have e2 : hdTot (p :: r) = p.1.size + p.2.size + 3 + hdTot r := rfl
    rw [e2, List.length_cons]; omega
theorem hdLines_take {hs : List HP} {i : Nat} {p : HP} (h : hs[i]? = some p) : hdLines (hs.take (i + 1)) = hdLines (hs.take i) ++ hdLine p := by
  unfold hdLines
  rw [List.take_add_one, h]; simp
theorem take_len_le : ∀ (hs : List HP) (i : Nat), (hdLines (hs.take i)).length ≤ (hdLines hs).length := fun hs i => by
  have h := congrArg (fun l => (hdLines l).length) (List.take_append_drop i hs)
  have e : hdLines (hs.take i ++ hs.drop i) = hdLines (hs.take i) ++ hdLines (hs.drop i) := by unfold hdLines; rw [List.flatMap_append]
  simp only [e, List.length_append] at h
  omega

section
variable {h : Heap} {n : Nat} {m t : ByteArray} {hl bo : Sl} {hs : List HP} {body : List UInt8}

theorem Rb.nwK {a : Option Addr} {l : Nat} {bs : List UInt8} {h' : Heap} (hb : Rb h a l bs) (hk : Nw h h') : Rb h' a l bs := Rv.keep0 hb hk

theorem print_spec (ha : ReqA h n m t hl bo hs body) (hn : n ≤ 1048576) {R : Sl → Heap → Prop} (hk : ∀ o h', Own h h' 1 o ((printF m t hs body).map byteV) → Nw h h' → R o h') :
    CallT Try.prog http_Print_no [.agg #[.string m, .string t, .slice hl.a hl.len hl.cap, .slice bo.a bo.len bo.cap]] h [.sc .sl] R := by
  have hcall := http_Print_call (r_0 := (m, t, hl, bo)) (R := R) (h := h)
  apply hcall
  unfold http_Print
  have htot := ha.tot
  have hhl := hdLines_len hs
  have hln := ha.hd.1
  have hblen := ha.rb.len
  have hl0 := hdTot_len hs
  refine newB_row ?_
  intro h1 s1 r1 k1
  refine newB_ty (newB_row ?_)
  rintro h2 s2 r2 k2 ⟨ty1, ty2⟩
  simp only [add_mk]
  have K2 := k1.trans' k2
  have r1' : Row h2 h.size [.string m, .string t, .slice hl.a hl.len hl.cap, .slice bo.a bo.len bo.cap] := k2.row r1 (fun h => h)
  have bd0 : Bd bdT 5 h2 h1.size (h1.size + 1) [] := ⟨⟨none, none, 0, 0, r2, SlR.nil _ _, .inl rfl, fun x hx => by cases hx⟩, ty2, by omega⟩
  refine ldS_row (o := 0) r1' rfl ?_
  have e32 : (⟨#[32]⟩ : ByteArray).size = 1 := rfl
  have e11 : (⟨#[32, 72, 84, 84, 80, 47, 49, 46, 49, 13, 10]⟩ : ByteArray).size = 11 := rfl
  have sz : ∀ a b : ByteArray, (a ++ b).size = a.size + b.size := fun a b => by rw [← bl_len, bl_app, List.length_append, bl_len, bl_len]
  refine ⟨by show ((m.size + _ : Nat) : Int) ≤ _; rw [e32]; omega, ?_⟩
  refine ldS_row (o := 0 + 1) r1' rfl ?_
  show ((((m ++ (⟨#[32]⟩ : ByteArray)).size + t.size : Nat) : Int) ≤ 9223372036854775807) ∧ _
  rw [sz, sz, e32, e11]
  refine ⟨by omega, by rw [sz, e32]; omega, ?_⟩
  have hfl : (frontL m t).length = m.size + t.size + 12 := by unfold frontL verL; simp [bl_len]; omega
  have hfr : bl (((m ++ (⟨#[32]⟩ : ByteArray)) ++ t) ++ (⟨#[32, 72, 84, 84, 80, 47, 49, 46, 49, 13, 10]⟩ : ByteArray)) = frontL m t := by
    rw [bl_app, bl_app, bl_app]; rfl
  refine writeS_spec bd0 (by omega) (by rw [sz, sz, sz, e32, e11]; simp; omega) ?_
  intro x3 h3 bd3 k3
  rw [hfr, List.nil_append] at bd3
  have r3 := k3.row r1' (by rintro (h | h) <;> omega)
  refine ldL_row (o := 0 + 2) r3 rfl ?_
  have oldK : ∀ {h' : Heap}, Keep (bdS h1.size (h1.size + 1)) h2 h' → Nw h h' := fun k => K2.trans k (fun x hx e => by rcases e with e | e <;> omega)
  refine LoopT.intro (fun (i : Int) h' => 0 ≤ i ∧ i ≤ hl.len ∧ Bd bdT 5 h' h1.size (h1.size + 1) (frontL m t ++ hdLines (hs.take i.toNat)) ∧ Keep (bdS h1.size (h1.size + 1)) h2 h') (fun i _ => (hl.len - i).toNat) ⟨by omega, by omega, by simpa [hdLines] using bd3, k3⟩ ?_
  rintro i h4 ⟨p1, p2, bd4, k4⟩
  have htl := take_len_le hs i.toNat
  have z4 := k4.size
  have K4 := oldK k4
  have r4 := k4.row r1' (by rintro (h | h) <;> omega)
  refine cnd_dec (fun hi => ?_) (fun hi => ?_)
  · have hi' : i < (hl.len : Int) := hi
    have hil : i.toNat < hs.length := by omega
    have hg : hs[i.toNat]? = some hs[i.toNat] := List.getElem?_eq_getElem hil
    generalize hs[i.toNat] = p at hg
    have hpl : (hdLine p).length ≤ (hdLines hs).length := by
      have h2 := take_len_le hs (i.toNat + 1)
      rw [hdLines_take hg, List.length_append] at h2
      omega
    rw [hdLine_len] at hpl
    obtain ⟨x, e1, e2, e3⟩ := (ha.hd.keep0 K4).2 _ _ hg
    refine ⟨x, e1, p1, hi', ?_⟩
    refine ldS_at e2 (ldS_at e3 ?_)
    refine newB_row ?_
    intro h5 s5 r5 k5
    rw [add_mk]
    refine stC_row r5 (by simp) rfl ?_
    intro h6 s6 r6 k6
    refine stC_row r6 (by simp) rfl ?_
    intro h7 s7 r7 k7
    have K47 : Nw h4 h7 := Nw.st (Nw.st k5 k6 (Nat.le_refl _)) k7 (Nat.le_refl _)
    have bd7 := bd4.keep K47 (fun h => h) (fun _ _ _ h => h)
    have z7 := K47.size
    refine ldS_row (o := 0) r7 rfl ?_
    have e2' : (⟨#[58, 32]⟩ : ByteArray).size = 2 := rfl
    have e13 : (⟨#[13, 10]⟩ : ByteArray).size = 2 := rfl
    refine ⟨by rw [e2']; omega, ?_⟩
    refine ldS_row (o := 0 + 1) r7 rfl ?_
    refine ⟨by rw [sz, e2']; omega, by rw [sz, sz, e2', e13]; omega, ?_⟩
    have hpb : bl (((p.1 ++ (⟨#[58, 32]⟩ : ByteArray)) ++ p.2) ++ (⟨#[13, 10]⟩ : ByteArray)) = hdLine p := by
      rw [bl_app, bl_app, bl_app]; rfl
    refine writeS_spec bd7 (by omega) (by rw [sz, sz, sz, e2', e13, List.length_append]; omega) ?_
    intro x8 h8 bd8 k8
    rw [hpb] at bd8
    rw [w64_id (by omega) (by omega)]
    refine ⟨⟨by omega, by omega, ?_, (k4.trans K47 (fun _ _ h => h.elim)).trans' k8⟩, by omega⟩
    rw [show (i + 1).toNat = i.toNat + 1 by omega, hdLines_take hg, ← List.append_assoc]
    exact bd8
  · rw [List.take_of_length_le (by omega)] at bd4
    have e13 : (⟨#[13, 10]⟩ : ByteArray).size = 2 := rfl
    refine writeS_spec bd4 (by omega) (by rw [e13, List.length_append]; omega) ?_
    intro x5 h5 bd5 k5
    have k5' := k4.trans' k5
    have r5 := k5'.row r1' (by rintro (h | h) <;> omega)
    have z5 := k5'.size
    refine ldL_row (o := 0 + 3) r5 rfl ?_
    have hb5 : Rb h5 bo.a bo.len body := Rb.nwK ha.rb (oldK k5')
    have e13b : bl (⟨#[13, 10]⟩ : ByteArray) = [13, 10] := rfl
    rw [e13b] at bd5
    refine write_spec bd5 (by omega) hb5 (fun b hbb h0 e => by have := Rv.lt ha.rb h0 hbb; rcases e with e | e <;> omega) (by simp only [List.length_append, List.length_cons, List.length_nil]; omega) ?_
    intro x6 h6 bd6 k6
    have hp : frontL m t ++ hdLines hs ++ [13, 10] ++ body = printF m t hs body := rfl
    rw [hp] at bd6
    have hpl : (printF m t hs body).length ≤ 4 * n + 14 := by
      unfold printF
      simp only [List.length_append, List.length_cons, List.length_nil]
      omega
    refine string_spec bd6 (by omega) ?_
    intro h7 k7
    have sp := ofL_size (printF m t hs body)
    refine s2b_row (by omega) ?_
    intro cap h8 b8 k8 z8
    have K7 : Nw h h7 := oldK ((k5'.trans' k6).trans' k7)
    refine hk _ h8 ⟨?_, fun b hb => ?_⟩ (K7.trans' k8)
    · have := b8
      unfold Bs at this
      rw [ofL_bytes] at this
      exact this
    · rw [blk_some] at hb
      have := K7.size
      simp only at hb
      omega

theorem print16_spec (ha : ReqA h n m t hl bo hs body) (hn : n ≤ 1048576) {R : Sl → Heap → Prop} (hk : ∀ o h', Own h h' 1 o ((printF m t hs body).map byteV) → Nw h h' → R o h') :
    CallT Try.prog ref16_Print_no [.agg #[.string m, .string t, .slice hl.a hl.len hl.cap, .slice bo.a bo.len bo.cap]] h [.sc .sl] R := by
  have hcall := ref16_Print_call (r_0 := (m, t, hl, bo)) (R := R) (h := h)
  apply hcall
  unfold ref16_Print
  have htot := ha.tot
  have hhl := hdLines_len hs
  have hln := ha.hd.1
  have hblen := ha.rb.len
  refine newB_row ?_
  intro h1 s1 r1 k1
  simp only [add_mk]
  replace r1 : Row h1 h.size [.string m, .string t, .slice hl.a hl.len hl.cap, .slice bo.a bo.len bo.cap] := r1
  refine ldS_row (o := 0) r1 rfl ?_
  have e32 : (⟨#[32]⟩ : ByteArray).size = 1 := rfl
  have e2' : (⟨#[58, 32]⟩ : ByteArray).size = 2 := rfl
  have e13 : (⟨#[13, 10]⟩ : ByteArray).size = 2 := rfl
  have e11 : (⟨#[32, 72, 84, 84, 80, 47, 49, 46, 49, 13, 10]⟩ : ByteArray).size = 11 := rfl
  have sz : ∀ a b : ByteArray, (a ++ b).size = a.size + b.size := fun a b => by rw [← bl_len, bl_app, List.length_append, bl_len, bl_len]
  refine ⟨by show ((m.size + _ : Nat) : Int) ≤ _; rw [e32]; omega, ?_⟩
  refine ldS_row (o := 0 + 1) r1 rfl ?_
  show ((((m ++ (⟨#[32]⟩ : ByteArray)).size + t.size : Nat) : Int) ≤ 9223372036854775807) ∧ _
  rw [sz, sz, e32, e11]
  refine ⟨by omega, by rw [sz, e32]; omega, ?_⟩
  have hfl : (frontL m t).length = m.size + t.size + 12 := by unfold frontL verL; simp [bl_len]; omega
  have hfr : bl (((m ++ (⟨#[32]⟩ : ByteArray)) ++ t) ++ (⟨#[32, 72, 84, 84, 80, 47, 49, 46, 49, 13, 10]⟩ : ByteArray)) = frontL m t := by
    rw [bl_app, bl_app, bl_app]; rfl
  refine LoopT.intro (fun (s : ByteArray × Int) h' => h' = h1 ∧ 0 ≤ s.2 ∧ s.2 ≤ hl.len ∧ bl s.1 = frontL m t ++ hdLines (hs.take s.2.toNat)) (fun s _ => (hl.len - s.2).toNat) ⟨rfl, by simp, by simp, by rw [hfr]; simp [hdLines]⟩ ?_
  rintro ⟨s, i⟩ h4 ⟨rfl, p1, p2, p3⟩
  replace p1 : 0 ≤ i := p1
  replace p2 : i ≤ hl.len := p2
  replace p3 : bl s = frontL m t ++ hdLines (hs.take i.toNat) := p3
  have htl := take_len_le hs i.toNat
  have hl0 := hdTot_len hs
  have sq2 : (((s, i) : ByteArray × Int).fst ++ (⟨#[13, 10]⟩ : ByteArray)).size = (s ++ (⟨#[13, 10]⟩ : ByteArray)).size := rfl
  have sq : ((s, i) : ByteArray × Int).fst.size = s.size := rfl
  have ssz : s.size = (frontL m t).length + (hdLines (hs.take i.toNat)).length := by rw [← bl_len, p3, List.length_append]
  refine ldL_row (o := 0 + 2) r1 rfl ?_
  refine cnd_dec (fun hi => ?_) (fun hi => ?_)
  · have hi' : i < (hl.len : Int) := hi
    have hil : i.toNat < hs.length := by omega
    have hg : hs[i.toNat]? = some hs[i.toNat] := List.getElem?_eq_getElem hil
    generalize hs[i.toNat] = p at hg
    have hpl : (hdLine p).length ≤ (hdLines hs).length := by
      have h2 := take_len_le hs (i.toNat + 1)
      rw [hdLines_take hg, List.length_append] at h2
      omega
    rw [hdLine_len] at hpl
    obtain ⟨x, e1, e2, e3⟩ := (ha.hd.keep0 k1).2 _ _ hg
    refine ldL_row (o := 0 + 2) r1 rfl ?_
    refine ⟨x, e1, p1, hi', ?_⟩
    refine ldS_at e2 ?_
    refine ⟨by omega, by rw [sz, e2']; omega, ?_⟩
    refine ldL_row (o := 0 + 2) r1 rfl ?_
    refine ⟨x, e1, p1, hi', ?_⟩
    refine ldS_at e3 ?_
    refine ⟨by rw [sz, sz, e2']; omega, by rw [sz, sz, sz, e2', e13]; omega, ?_⟩
    show (h4 = h4 ∧ 0 ≤ w64 (i + 1) ∧ w64 (i + 1) ≤ hl.len ∧ bl ((((s ++ p.1) ++ (⟨#[58, 32]⟩ : ByteArray)) ++ p.2) ++ (⟨#[13, 10]⟩ : ByteArray)) = frontL m t ++ hdLines (hs.take (w64 (i + 1)).toNat)) ∧ (hl.len - w64 (i + 1)).toNat < (hl.len - i).toNat
    rw [w64_id (by omega) (by omega)]
    refine ⟨⟨rfl, by omega, by omega, ?_⟩, by omega⟩
    rw [show (i + 1).toNat = i.toNat + 1 by omega, hdLines_take hg, ← List.append_assoc, ← p3, bl_app, bl_app, bl_app, bl_app]
    unfold hdLine
    simp only [List.append_assoc]
    rfl
  · have hi' : ¬ i < (hl.len : Int) := hi
    rw [List.take_of_length_le (by omega)] at p3
    have ssz2 := ssz
    refine ⟨by rw [e13]; omega, ?_⟩
    have hs2 : (s ++ (⟨#[13, 10]⟩ : ByteArray)).size = s.size + 2 := by rw [sz, e13]
    refine s2b_row (by omega) ?_
    intro cap h5 b5 k5 z5
    have r5 := k5.row r1 (fun h => h)
    refine ldL_row (o := 0 + 3) r5 rfl ?_
    have K5 := k1.trans' k5
    refine Rv.rd (Rb.nwK ha.rb K5) ?_
    have own5 : Own h h5 1 ⟨some ⟨h4.size, 0, none⟩, (s ++ (⟨#[13, 10]⟩ : ByteArray)).size, cap⟩ ((bl (s ++ (⟨#[13, 10]⟩ : ByteArray))).map byteV) := ⟨b5, fun b hb => by rw [blk_some] at hb; simp only at hb; omega⟩
    refine own5.app (new := body.map byteV) (m := bo.len) K5 rfl (by rw [List.length_map]; omega) (fun v hv => by obtain ⟨x, _, rfl⟩ := List.mem_map.1 hv; rfl) (by show (2 * ((s ++ (⟨#[13, 10]⟩ : ByteArray)).size + bo.len) + 1024) * 1 ≤ _; omega) ?_
    intro a' c' h6 q1 q2 _ _
    refine hk _ h6 ?_ q2
    rw [← List.map_append, bl_app, p3] at q1
    exact q1
end
end Go.Proofs.Ytjpmjhnjdnbopaa
