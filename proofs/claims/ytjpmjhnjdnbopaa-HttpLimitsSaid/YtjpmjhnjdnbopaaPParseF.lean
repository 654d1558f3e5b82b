/- http.Parse: what it comes to. -/
import Derived.Test.YtjpmjhnjdnbopaaPParseE
namespace Go.Proofs.Ytjpmjhnjdnbopaa
open Go D
set_option linter.unusedVariables false
set_option linter.unusedSimpArgs false

abbrev ST := Int × Int × ByteArray × ByteArray × Sl × Sl × Int × Bool × Bool
def get9 (a : Nat) (R : ST → Heap → Prop) (h : Heap) : Prop :=
  ldI .i64 ⟨a, 0, none⟩ h fun n0 =>
  ldI .i64 ⟨a, 0 + 1, none⟩ h fun n1 =>
  ldS ⟨a, 0 + 2, none⟩ h fun s2 =>
  ldS ⟨a, 0 + 3, none⟩ h fun s3 =>
  ldL ⟨a, 0 + 4, none⟩ h fun o4 l4 c4 =>
  ldL ⟨a, 0 + 5, none⟩ h fun o5 l5 c5 =>
  ldI .i64 ⟨a, 0 + 6, none⟩ h fun n6 =>
  ldB ⟨a, 0 + 7, none⟩ h fun b7 =>
  ldB ⟨a, 0 + 8, none⟩ h fun b8 =>
  R (n0, n1, s2, s3, (⟨o4, l4, c4⟩ : Sl), (⟨o5, l5, c5⟩ : Sl), n6, b7, b8) h
def set9 (a : Nat) (x : ST) (K : Heap → Prop) (h : Heap) : Prop :=
  stC ⟨a, 0, none⟩ (.int .i64 x.1) h fun h1 =>
  stC ⟨a, 0 + 1, none⟩ (.int .i64 x.2.1) h1 fun h2 =>
  stC ⟨a, 0 + 2, none⟩ (.string x.2.2.1) h2 fun h3 =>
  stC ⟨a, 0 + 3, none⟩ (.string x.2.2.2.1) h3 fun h4 =>
  stC ⟨a, 0 + 4, none⟩ (.slice x.2.2.2.2.1.a x.2.2.2.2.1.len x.2.2.2.2.1.cap) h4 fun h5 =>
  stC ⟨a, 0 + 5, none⟩ (.slice x.2.2.2.2.2.1.a x.2.2.2.2.2.1.len x.2.2.2.2.2.1.cap) h5 fun h6 =>
  stC ⟨a, 0 + 6, none⟩ (.int .i64 x.2.2.2.2.2.2.1) h6 fun h7 =>
  stC ⟨a, 0 + 7, none⟩ (.bool x.2.2.2.2.2.2.2.1) h7 fun h8 =>
  stC ⟨a, 0 + 8, none⟩ (.bool x.2.2.2.2.2.2.2.2) h8 K
def row9 (x : ST) : List Value := [.int .i64 x.1, .int .i64 x.2.1, .string x.2.2.1, .string x.2.2.2.1, .slice x.2.2.2.2.1.a x.2.2.2.2.1.len x.2.2.2.2.1.cap, .slice x.2.2.2.2.2.1.a x.2.2.2.2.2.1.len x.2.2.2.2.2.1.cap, .int .i64 x.2.2.2.2.2.2.1, .bool x.2.2.2.2.2.2.2.1, .bool x.2.2.2.2.2.2.2.2]

theorem get9_spec {h : Heap} {a : Nat} {x : ST} {R : ST → Heap → Prop} (r : Row h a (row9 x)) (hk : R x h) : get9 a R h := by
  obtain ⟨x0, x1, x2, x3, ⟨a4, l4, c4⟩, ⟨a5, l5, c5⟩, x6, x7, x8⟩ := x
  unfold get9
  unfold row9 at r
  exact ldI_row (o := 0) r rfl (ldI_row (o := 0 + 1) r rfl (ldS_row (o := 0 + 2) r rfl (ldS_row (o := 0 + 3) r rfl (ldL_row (o := 0 + 4) r rfl (ldL_row (o := 0 + 5) r rfl (ldI_row (o := 0 + 6) r rfl (ldB_row (o := 0 + 7) r rfl (ldB_row (o := 0 + 8) r rfl hk))))))))
theorem set9_spec {h : Heap} {a : Nat} {x y : ST} {K : Heap → Prop} (r : Row h a (row9 y)) (hk : ∀ h', Row h' a (row9 x) → Keep (· = a) h h' → K h') : set9 a x K h := by
  unfold set9
  unfold row9 at r
  refine stC_row r (by simp) rfl ?_
  intro h1 s1 r1 k1
  refine stC_row r1 (by simp) rfl ?_
  intro h2 s2 r2 k2
  refine stC_row r2 (by simp) rfl ?_
  intro h3 s3 r3 k3
  refine stC_row r3 (by simp) rfl ?_
  intro h4 s4 r4 k4
  refine stC_row r4 (by simp) rfl ?_
  intro h5 s5 r5 k5
  refine stC_row r5 (by simp) rfl ?_
  intro h6 s6 r6 k6
  refine stC_row r6 (by simp) rfl ?_
  intro h7 s7 r7 k7
  refine stC_row r7 (by simp) rfl ?_
  intro h8 s8 r8 k8
  refine stC_row r8 (by simp) rfl ?_
  intro h9 s9 r9 k9
  exact hk h9 r9 ((((((((k1.trans' k2).trans' k3).trans' k4).trans' k5).trans' k6).trans' k7).trans' k8).trans' k9)

theorem ret9_spec {h : Heap} {a : Nat} {x y : ST} {R : ST → Heap → Prop} (r : Row h a (row9 y)) (hk : ∀ h', Keep (· = a) h h' → R x h') : set9 a x (fun h' => get9 a R h') h :=
  set9_spec r (fun h' r' k' => get9_spec r' (hk h' k'))

/-! ### what the connection header says -/
def clsP (p : List UInt8) : Bool := decide (lowerL (trimL p) = bl closeT)
def clsV (v : ByteArray) : Bool := (splitL 44 (bl v)).any clsP
def closesF (hs : List HP) : Bool := (allF connT hs).any clsV
def contF (hs : List HP) (body : List UInt8) : Bool := !decide (allF expectT hs = []) && !decide (body = [])

theorem splitL_num (c : UInt8) (s : List UInt8) : (splitL c s).length ≤ s.length + 1 := by
  have key : ∀ (s cur : List UInt8), (splitA c cur s).length ≤ s.length + 1 := by
    intro s
    induction s with
    | nil => intro cur; simp [splitA]
    | cons y r ih =>
      intro cur
      unfold splitA
      split
      · simp; exact ih []
      · have := ih (cur ++ [y]); simp; omega
  exact key s []
theorem any_take {α : Type} {f : α → Bool} {l : List α} {i : Nat} {x : α} (h : l[i]? = some x) : (l.take (i + 1)).any f = ((l.take i).any f || f x) := by
  rw [List.take_add_one, h]; simp

/-- the loop over the parts of one connection header: b7 is the cell that is set -/
theorem inner_spec {h : Heap} {q : Nat} {x : ST} {r81 : Sl} {ps : List (List UInt8)} (hrow : Row h q (row9 x)) (hq : Rv h r81.a r81.len (strsV ps)) (hne : ∀ b, blk r81.a b → b ≠ q) (hps : ∀ p ∈ ps, p.length ≤ 1000000000) (hn : ps.length ≤ 1000000001) {K : Heap → Prop}
    (hk : ∀ h', Row h' q (row9 (x.1, x.2.1, x.2.2.1, x.2.2.2.1, x.2.2.2.2.1, x.2.2.2.2.2.1, x.2.2.2.2.2.2.1, x.2.2.2.2.2.2.2.1 || ps.any clsP, x.2.2.2.2.2.2.2.2)) → Keep (· = q) h h' → K h') :
  LoopT (σ := Int) (fun X84 s83 h85 =>
  cnd (decide (s83 < (r81.len : Int))) (
  withJ (σ := Unit) (fun s86 h88 =>
  X84 (w64 (s83 + 1)) h88) (fun J87 =>
  idx r81.a r81.len s83 fun a89 =>
  ldS (a89.add (s83.toNat * 1)) h85 fun s90 =>
  ldB ⟨q, 0 + 7, none⟩ h85 fun b91 =>
  cnd b91 (
  stC ⟨q, 0 + 7, none⟩ (.bool true) h85 fun h92 =>
  J87 () h92) (
  CallT Try.prog chars_Trim_no [.string s90] h85 [.sc (.str)] fun (r93 : ByteArray) h94 =>
  CallT Try.prog chars_Lower_no [.string r93] h94 [.sc (.str)] fun (r95 : ByteArray) h96 =>
  stC ⟨q, 0 + 7, none⟩ (.bool (seq r95 (⟨#[99, 108, 111, 115, 101]⟩ : ByteArray))) h96 fun h97 =>
  J87 () h97))) (
  K h85)) 0 h := by
  obtain ⟨x0, x1, x2, x3, x4, x5, x6, x7, x8⟩ := x
  have hlen := hq.1
  have hsl : (strsV ps).length = ps.length := List.length_map _
  rw [hsl] at hlen
  refine LoopT.intro (fun (i : Int) h' => 0 ≤ i ∧ i ≤ r81.len ∧ Row h' q (row9 (x0, x1, x2, x3, x4, x5, x6, x7 || (ps.take i.toNat).any clsP, x8)) ∧ Keep (· = q) h h') (fun i _ => (r81.len - i).toNat) ⟨by omega, by omega, by simpa using hrow, .refl _ _⟩ ?_
  rintro i h2 ⟨p1, p2, r2, k2⟩
  refine cnd_dec (fun hi => ?_) (fun hi => ?_)
  · have hil : i.toNat < ps.length := by omega
    have hg : ps[i.toNat]? = some ps[i.toNat] := List.getElem?_eq_getElem hil
    generalize ps[i.toNat] = p at hg
    have hpl := hps p (List.mem_of_getElem? hg)
    have sp := ofL_size p
    refine withJ.intro (fun _ h' => Row h' q (row9 (x0, x1, x2, x3, x4, x5, x6, x7 || (ps.take (i.toNat + 1)).any clsP, x8)) ∧ Keep (· = q) h h') ?_ ?_
    · rintro _ h' ⟨r', k'⟩
      rw [w64_id (x := i + 1) (by omega) (by omega)]
      refine ⟨⟨by omega, by omega, ?_, k'⟩, by omega⟩
      rw [show (i + 1).toNat = i.toNat + 1 by omega]
      exact r'
    · intro J hJ
      rw [any_take hg] at hJ
      refine strsAt (hq.keep k2 (fun _ b hb => hne b hb)) p1 hg ?_
      have r2' := r2
      unfold row9 at r2'
      refine ldB_row (o := 0 + 7) r2' rfl ?_
      refine cnd_of (fun e => ?_) (fun e => ?_)
      · replace e : (x7 || (ps.take i.toNat).any clsP) = true := e
        refine stC_row r2' (by simp) rfl ?_
        intro h3 s3 r3 k3
        refine hJ _ _ ⟨?_, k2.trans' k3⟩
        rw [← Bool.or_assoc, e]
        exact r3
      · replace e : (x7 || (ps.take i.toNat).any clsP) = false := e
        refine trim_spec (by omega) ?_
        rw [bl_ofL]
        have tl := trimL_len p
        have stl := ofL_size (trimL p)
        refine lower_spec (by omega) ?_
        intro h3 k3
        rw [bl_ofL]
        have r3 := k3.row r2' (fun h => h)
        refine stC_row r3 (by simp) rfl ?_
        intro h4 s4 r4 k4
        refine hJ _ _ ⟨?_, (keepP k2 k3).trans' k4⟩
        rw [← Bool.or_assoc, e, Bool.false_or]
        have e2 : seq (ofL (lowerL (trimL p))) (⟨#[99, 108, 111, 115, 101]⟩ : ByteArray) = clsP p := by
          rw [seq_bl, bl_ofL]
          rfl
        rw [e2] at r4
        exact r4
  · rw [List.take_of_length_le (by omega)] at r2
    exact hk h2 r2 k2

def stOk (rq : Rq) (n : Nat) (a b : Sl) : ST := (2, (n : Int), ofL rq.m, ofL rq.t, a, b, 0, closesF rq.hs, contF rq.hs rq.body)
def stBad (f : Int) : ST := (3, 0, ⟨#[]⟩, ⟨#[]⟩, ⟨none, 0, 0⟩, ⟨none, 0, 0⟩, f, true, false)
def stMore : ST := (1, 0, ⟨#[]⟩, ⟨#[]⟩, ⟨none, 0, 0⟩, ⟨none, 0, 0⟩, 0, false, false)

theorem parse_spec {h : Heap} {x0 : Sl} {bs : List UInt8} (hb : Rb h x0.a x0.len bs) (hbl : x0.len ≤ 1000000000) (hg : MaxG h) {R : ST → Heap → Prop}
    (hok : ∀ rq n a b h', requestF bs = .ok (rq, n) → Small rq.hs → Own h h' 2 a (hdV rq.hs) → Own h h' 1 b (rq.body.map byteV) → (∀ x, blk a.a x → ¬ blk b.a x) → Nw h h' → R (stOk rq n a b) h')
    (hbad : ∀ f h', requestF bs = .error f → f ≠ 0 → Nw h h' → R (stBad f) h')
    (hmore : ∀ h', requestF bs = .error 0 → Nw h h' → R stMore h') :
    CallT Try.prog http_Parse_no [.slice x0.a x0.len x0.cap] h [.agg [.int .i64, .int .i64, .str, .str, .sl, .sl, .int .i64, .bool, .bool]] R := by
  apply http_Parse_call
  unfold http_Parse
  have hlen := hb.len
  refine newB_row ?_
  intro h1 s1 r1 k1
  refine Rb.str (hb.keep0 k1) ?_
  rw [show (⟨bs.toArray⟩ : ByteArray) = ofL bs from rfl]
  have sb := ofL_size bs
  have blb := bl_ofL bs
  refine newB_row ?_
  intro h2 s2 r2 k2
  simp only [add_mk]
  have K2 : Nw h h2 := k1.trans' k2
  have g0 : 0 < h.size := by
    obtain ⟨m, hm⟩ := hg
    exact cell_lt hm
  have r1' : Row h2 h.size (row9 (0, 0, ⟨#[]⟩, ⟨#[]⟩, ⟨none, 0, 0⟩, ⟨none, 0, 0⟩, 0, false, false)) := k2.row r1 (fun h => h)
  replace r2 : Row h2 h1.size (rdRow (ofL bs) 0 0 0 0) := r2
  refine request_spec r2 (hg.nw K2) (by omega) (by omega) ?_ ?_
  rotate_left
  · intro q f h3 e st k3
    rw [blb] at e
    obtain ⟨ra, rb, rc, rp⟩ := st
    refine newB_row ?_
    intro h4 s4 r4 k4
    simp only [add_mk]
    refine stC_row r4 (by simp) rfl ?_
    intro h5 s5 r5 k5
    refine stC_row r5 (by simp) rfl ?_
    intro h6 s6 r6 k6
    refine stC_row r6 (by simp) rfl ?_
    intro h7 s7 r7 k7
    refine stC_row r7 (by simp) rfl ?_
    intro h8 s8 r8 k8
    have K48 : Keep (· = h3.size) h4 h8 := ((k5.trans' k6).trans' k7).trans' k8
    have K38 : Nw h3 h8 := Nw.st k4 K48 (Nat.le_refl _)
    have rp8 := K38.row rp (fun h => h)
    have z2 := k3.size
    have r18 := K38.row (k3.row r1' (by omega)) (fun h => h)
    have K8 : Nw h h8 := (K2.trans k3 (fun x hx e => by have e' : x = h1.size := e; omega)).trans' K38
    unfold rdRow at rp8
    refine ldI_row (o := 0 + 4) rp8 rfl ?_
    refine cnd_of (fun hf => ?_) (fun hf => ?_)
    · have hf' : f ≠ 0 := by simpa using hf
      refine ldI_row (o := 0 + 4) rp8 rfl ?_
      exact ret9_spec (x := stBad f) r18 (fun h9 k9 => hbad f h9 e hf' (K8.st k9 (Nat.le_refl _)))
    · have hf' : f = 0 := by simpa using hf
      subst hf'
      refine cnd_t rfl ?_
      exact ret9_spec (x := stMore) r18 (fun h9 k9 => hmore h9 e (K8.st k9 (Nat.le_refl _)))
  · intro rq n a b h3 e hsm own1 own2 dis rp k3
    rw [blb] at e
    obtain ⟨rl, rc, rp⟩ := rp
    have own1' := own1
    have own2' := own2
    replace own1 : Own h h3 2 a (hdV rq.hs) := own1.up K2.size
    replace own2 : Own h h3 1 b (rq.body.map byteV) := own2.up K2.size
    refine newB_row ?_
    intro h4 s4 r4 k4
    simp only [add_mk]
    refine stC_row r4 (by simp) rfl ?_
    intro h5 s5 r5 k5
    refine stC_row r5 (by simp) rfl ?_
    intro h6 s6 r6 k6
    refine stC_row r6 (by simp) rfl ?_
    intro h7 s7 r7 k7
    refine stC_row r7 (by simp) rfl ?_
    intro h8 s8 r8 k8
    replace r8 : Row h8 h3.size (qRow (ofL rq.m) (ofL rq.t) a b) := r8
    have K48 : Keep (· = h3.size) h4 h8 := ((k5.trans' k6).trans' k7).trans' k8
    have K38 : Nw h3 h8 := Nw.st k4 K48 (Nat.le_refl _)
    have rp8 := K38.row rp (fun h => h)
    have z2 := k3.size
    have r18 := K38.row (k3.row r1' (by omega)) (fun h => h)
    have K8 : Nw h h8 := (K2.trans k3 (fun x hx e => by have e' : x = h1.size := e; omega)).trans' K38
    unfold rdRow at rp8
    refine ldI_row (o := 0 + 4) rp8 rfl ?_
    refine cnd_f rfl (cnd_f rfl ?_)
    have r8' := r8
    unfold qRow at r8'
    refine ldI_row (o := 0 + 1) rp8 rfl (ldS_row (o := 0) r8' rfl (ldS_row (o := 0 + 1) r8' rfl (ldL_row (o := 0 + 2) r8' rfl (ldL_row (o := 0 + 3) r8' rfl ?_))))
    refine newB_row ?_
    intro h9 s9 r9 k9
    simp only [add_mk]
    have q9 := k9.row r8 (fun h => h)
    have rp9 := k9.row rp8 (fun h => h)
    have q9' := q9
    unfold qRow at q9'
    refine ⟨ldS_row (o := 0) q9' rfl (ldS_row (o := 0 + 1) q9' rfl (ldL_row (o := 0 + 2) q9' rfl (ldL_row (o := 0 + 3) q9' rfl rfl))), ldI_row (o := 0 + 1) rp9 rfl rfl, ?_⟩
    refine set9_spec (x := (2, (n : Int), ofL rq.m, ofL rq.t, a, b, 0, false, false)) (y := (0, 0, ⟨#[]⟩, ⟨#[]⟩, ⟨none, 0, 0⟩, ⟨none, 0, 0⟩, 0, false, false)) r9 ?_
    intro h10 r10 k10
    have K910 : Nw h8 h10 := Nw.st k9 k10 (Nat.le_refl _)
    have q10 := K910.row r8 (fun h => h)
    unfold qRow at q10
    refine ldL_row (o := 0 + 2) q10 rfl ?_
    have K10 : Nw h3 h10 := K38.trans' K910
    have ow1 := own1.nw K10
    have ow2 := own2.nw K10
    have hd1 : HdsAt h10 a.a a.len rq.hs := SlR.hds ow1.sl
    have al : a.len ≤ 10000000 := by have := hd1.1; have := hsm.1; omega
    refine all_spec hd1 al ?_
    intro r74 h11 v11 k11
    have vl := v11.rv.1
    rw [List.length_map] at vl
    have hvs : ∀ v ∈ allF connT rq.hs, v.size ≤ 1000000000 := fun v hv => hsm.val hv
    replace v11 : Own h10 h11 1 r74 ((allF connT rq.hs).map Value.string) := v11
    replace vl : r74.len = (allF connT rq.hs).length := vl
    have hcf : closesF rq.hs = (allF connT rq.hs).any clsV := rfl
    have hvn : (allF connT rq.hs).length ≤ 1000 := by have := allF_len connT rq.hs; have := hsm.1; omega
    generalize allF connT rq.hs = vs at *
    have r11 := k11.row r10 (fun h => h)
    have z8 := r10.lt
    have z11 := k11.size
    refine LoopT.intro (fun (i : Int) h' => 0 ≤ i ∧ i ≤ r74.len ∧ Row h' h8.size (row9 (2, (n : Int), ofL rq.m, ofL rq.t, a, b, 0, (vs.take i.toNat).any clsV, false)) ∧ Keep (· = h8.size) h11 h') (fun i _ => (r74.len - i).toNat) ⟨by omega, by omega, by simpa using r11, .refl _ _⟩ ?_
    rintro i h12 ⟨p1, p2, r12, k12⟩
    have v12 : Own h10 h12 1 r74 (vs.map Value.string) := v11.keep k12 (fun b hb e => by have := v11.fresh b hb; have e' : b = h8.size := e; omega)
    refine cnd_dec (fun hi => ?_) (fun hi => ?_)
    · have hil : i.toNat < vs.length := by omega
      have hgv : vs[i.toNat]? = some vs[i.toNat] := List.getElem?_eq_getElem hil
      generalize vs[i.toNat] = v at hgv
      have hv := hvs v (List.mem_of_getElem? hgv)
      refine v12.rv.at p1 hi (v := .string v) (by rw [List.getElem?_map, hgv]; rfl) ?_
      intro x hx
      refine ldS_at hx ?_
      refine split_spec (c := 44) hv ?_
      intro o13 h13 own13 k13
      have r13 := k13.row r12 (fun h => h)
      have z12 := r12.lt
      refine inner_spec (K := fun h' => (0 ≤ w64 (i + 1) ∧ w64 (i + 1) ≤ r74.len ∧ Row h' h8.size (row9 (2, (n : Int), ofL rq.m, ofL rq.t, a, b, 0, (vs.take (w64 (i + 1)).toNat).any clsV, false)) ∧ Keep (· = h8.size) h11 h') ∧ (r74.len - w64 (i + 1)).toNat < (r74.len - i).toNat) r13 own13.rv (fun b hb => by have := own13.fresh b hb; omega) (fun p hp => by have := splitL_len hp; rw [bl_len] at this; omega) ?_ ?_
      · have := splitL_num 44 (bl v)
        rw [bl_len] at this
        omega
      · intro h14 r14 k14
        rw [w64_id (x := i + 1) (by omega) (by omega), show (i + 1).toNat = i.toNat + 1 by omega]
        refine ⟨⟨by omega, by omega, ?_, (keepP k12 k13).trans' k14⟩, by omega⟩
        rw [any_take hgv]
        exact r14
    · rw [List.take_of_length_le (by omega), ← hcf] at r12
      have z9 := k9.size
      have z10 := k10.size
      have K12' : Nw h8 h12 := Nw.st (K910.trans' k11) k12 (Nat.le_refl _)
      have q12 : Row h12 h3.size (qRow (ofL rq.m) (ofL rq.t) a b) := K12'.row r8 (fun h => h)
      unfold qRow at q12
      refine ldL_row (o := 0 + 2) q12 rfl ?_
      refine get_spec (SlR.hds ((own1.nw K38).nw K12').sl) al ?_
      intro h15 k15
      have r15 := k15.row r12 (fun h => h)
      have q15 := k15.row q12 (fun h => h)
      have K15 : Nw h8 h15 := K12'.trans' k15
      have r1x := K15.row r18 (fun h => h)
      have z3 := k3.size
      have hcont : ∀ h16, Row h16 h8.size (row9 (2, (n : Int), ofL rq.m, ofL rq.t, a, b, 0, closesF rq.hs, contF rq.hs rq.body)) → Keep (· = h8.size) h15 h16 → get9 h8.size (fun x h16 => set9 h.size x (fun h' => get9 h.size R h') h16) h16 := by
        intro h16 r16 k16
        refine get9_spec r16 ?_
        have K16 : Nw h8 h16 := K15.st k16 (Nat.le_refl _)
        have z8' := K8.size
        refine ret9_spec (K16.row r18 (fun h => h)) ?_
        intro h17 k17
        have w1 : Own h h8 2 a (hdV rq.hs) := (own1.nw K38)
        have w2 : Own h h8 1 b (rq.body.map byteV) := (own2.nw K38)
        have own1' : Own h2 h3 2 a (hdV rq.hs) := own1'
        have own2' : Own h2 h3 1 b (rq.body.map byteV) := own2'
        exact hok rq n a b h17 e hsm ((w1.nw K16).keep k17 (fun x hx e => by have := own1'.fresh x hx; have e' : x = h.size := e; omega)) ((w2.nw K16).keep k17 (fun x hx e => by have := own2'.fresh x hx; have e' : x = h.size := e; omega)) dis (Nw.st (K8.trans' K16) k17 (Nat.le_refl _))
      refine withJ.intro (fun _ h16 => Row h16 h8.size (row9 (2, (n : Int), ofL rq.m, ofL rq.t, a, b, 0, closesF rq.hs, contF rq.hs rq.body)) ∧ Keep (· = h8.size) h15 h16) (fun _ h16 hh => hcont h16 hh.1 hh.2) ?_
      intro J hJ
      have bl' : b.len = rq.body.length := by have := own2.len; rw [List.length_map] at this; omega
      have r15' := r15
      unfold row9 at r15'
      rw [show (⟨#[101, 120, 112, 101, 99, 116]⟩ : ByteArray) = expectT from rfl]
      unfold contF at hJ
      match hx : allF expectT rq.hs with
      | [] =>
        rw [hx] at hJ
        refine cnd_f rfl ?_
        refine stC_row r15' (by simp) rfl ?_
        intro h16 s16 r16 k16
        exact hJ _ _ ⟨r16, k16⟩
      | v :: r =>
        rw [hx] at hJ
        refine cnd_t rfl ?_
        refine ldL_row (o := 0 + 3) q15 rfl ?_
        refine stC_row r15' (by simp) rfl ?_
        intro h16 s16 r16 k16
        refine hJ _ _ ⟨?_, k16⟩
        have e2 : decide ((b.len : Int) > 0) = (!decide (v :: r = []) && !decide (rq.body = [])) := by
          rw [bl', Bool.eq_iff_iff]
          cases rq.body <;> simp
        rw [e2] at r16
        exact r16
end Go.Proofs.Ytjpmjhnjdnbopaa
