/- Targets cut into path and pairs, headers found: the program's and the document's. HttpQueries. -/
import Derived.Test.YtjpmjhnjdnbopaaPStep
namespace Go.Proofs.Ytjpmjhnjdnbopaa
open Go D
set_option linter.unusedVariables false
set_option linter.unusedSimpArgs false

def qpair (p : List UInt8) : List HP := if p = [] then [] else [(ofL (cutAt 61 p).1, ofL (cutAt 61 p).2.1)]
def qpairs (l : List (List UInt8)) : List HP := l.flatMap qpair
def queryF (t : List UInt8) : List UInt8 × List HP := ((cutAt 63 t).1, qpairs (splitL 38 (cutAt 63 t).2.1))
theorem qpairs_take {l : List (List UInt8)} {i : Nat} {p : List UInt8} (h : l[i]? = some p) : qpairs (l.take (i + 1)) = qpairs (l.take i) ++ qpair p := by
  unfold qpairs
  rw [List.take_add_one, h]
  simp
theorem qpairs_len : ∀ l : List (List UInt8), (qpairs l).length ≤ l.length
  | [] => by simp [qpairs]
  | p :: r => by
    have := qpairs_len r
    unfold qpairs at this ⊢
    rw [List.flatMap_cons, List.length_append]
    have hq : (qpair p).length ≤ 1 := by
      unfold qpair
      split <;> simp
    rw [List.length_cons]
    omega

theorem query_spec {h : Heap} {s : ByteArray} (hs : s.size ≤ 100000000) {R : ByteArray × Sl → Heap → Prop} (hk : ∀ o h', Own h h' 2 o (hdV (queryF (bl s)).2) → Nw h h' → (queryF (bl s)).2.length ≤ s.size + 1 → R (ofL (queryF (bl s)).1, o) h') :
    CallT Try.prog http_Query_no [.string s] h [.sc .str, .sc .sl] R := by
  apply http_Query_call
  unfold http_Query
  refine cut_spec (c := 63) rfl (by omega) ?_
  have hl := bl_len s
  have cl := cutAt_len 63 (bl s)
  unfold queryF at hk
  generalize cutAt 63 (bl s) = cv at *
  obtain ⟨a, q, c⟩ := cv
  simp only at cl hk ⊢
  have sq := ofL_size q
  refine split_spec (c := 38) (by omega) ?_
  rw [bl_ofL]
  intro o h2 own k2
  have hsn := splitL_num 38 q
  have olen := own.len
  have slen : (strsV (splitL 38 q)).length = (splitL 38 q).length := List.length_map _
  rw [slen, Nat.mul_one] at olen
  have hmem : ∀ p ∈ splitL 38 q, p.length ≤ q.length := fun p hp => splitL_len hp
  generalize splitL 38 q = ps at *
  refine LoopT.intro (fun (t : Sl × Int) h' => 0 ≤ t.2 ∧ t.2 ≤ o.len ∧ Own h h' 2 t.1 (hdV (qpairs (ps.take t.2.toNat))) ∧ Nw h h' ∧ Own h h' 1 o (strsV ps) ∧ (∀ b, blk t.1.a b → ¬ blk o.a b)) (fun t _ => (o.len - t.2).toNat) ⟨by simp, by simp, Own.nil _ _ _, k2, own, fun b hb => by obtain ⟨x, e, _⟩ := hb; cases e⟩ ?_
  rintro ⟨l, i⟩ h3 ⟨p1, p2, p3, p4, p5, p6⟩
  replace p1 : 0 ≤ i := p1
  replace p2 : i ≤ o.len := p2
  replace p3 : Own h h3 2 l (hdV (qpairs (ps.take i.toNat))) := p3
  have ll := p3.len
  rw [hdV_len] at ll
  have ql := qpairs_len (ps.take i.toNat)
  rw [List.length_take] at ql
  refine cnd_dec (fun hi => ?_) (fun hi => ?_)
  · replace hi : i < (o.len : Int) := hi
    have hil : i.toNat < ps.length := by omega
    have hg : ps[i.toNat]? = some ps[i.toNat] := List.getElem?_eq_getElem hil
    generalize ps[i.toNat] = p at hg
    have hpl := hmem p (List.mem_of_getElem? hg)
    have sp := ofL_size p
    refine withJ.intro (fun (l' : Sl) h' => Own h h' 2 l' (hdV (qpairs (ps.take (i.toNat + 1)))) ∧ Nw h h' ∧ Own h h' 1 o (strsV ps) ∧ (∀ b, blk l'.a b → ¬ blk o.a b)) ?_ ?_
    · rintro l' h' ⟨q1, q2, q3, q4⟩
      show (0 ≤ w64 (i + 1) ∧ w64 (i + 1) ≤ o.len ∧ Own h h' 2 l' (hdV (qpairs (ps.take (w64 (i + 1)).toNat))) ∧ Nw h h' ∧ Own h h' 1 o (strsV ps) ∧ (∀ b, blk l'.a b → ¬ blk o.a b)) ∧ (o.len - w64 (i + 1)).toNat < (o.len - i).toNat
      rw [w64_id (x := i + 1) (by omega) (by omega), show (i + 1).toNat = i.toNat + 1 by omega]
      exact ⟨⟨by omega, by omega, q1, q2, q3, q4⟩, by omega⟩
    · intro J hJ
      rw [qpairs_take hg] at hJ
      refine strsAt p5.rv p1 hg ?_
      rw [seq_nilB, bl_ofL]
      unfold qpair at hJ
      refine cnd_of (fun e => ?_) (fun e => ?_)
      · have hp : p ≠ [] := by simpa using e
        rw [if_neg hp, hdV_snoc] at hJ
        refine cut_spec (c := 61) rfl (by omega) ?_
        rw [bl_ofL]
        refine p3.push p4 rfl rfl rfl (fun x hx => by simp at hx; rcases hx with rfl | rfl <;> rfl) (by omega) ?_
        intro a' c' h4 q1 q2 q3 q4
        refine hJ _ _ ⟨q1, q2, p5.keep q3 (fun b hb hb2 => p6 b hb2 hb), fun b hb hb2 => ?_⟩
        rcases q4 b hb with hh | hh
        · exact p6 b hh hb2
        · have := p5.lt hb2; omega
      · have hp : p = [] := by simpa using e
        rw [if_pos hp, List.append_nil] at hJ
        exact hJ _ _ ⟨p3, p4, p5, p6⟩
  · have hil : ps.take i.toNat = ps := List.take_of_length_le (by have : ¬ i < (o.len : Int) := hi; omega)
    rw [hil] at p3
    have hf := Own.cut (K := fun x y z => R (ofL a, ⟨x, y, z⟩) h3) p3 (fun a2 q3 _ => hk _ _ q3 p4 (by
      have := qpairs_len ps
      show (qpairs ps).length ≤ _
      omega))
    exact hf

theorem query16_spec {h : Heap} {s : ByteArray} (hs : s.size ≤ 100000000) {R : ByteArray × Sl → Heap → Prop} (hk : ∀ o h', Own h h' 2 o (hdV (queryF (bl s)).2) → Nw h h' → R (ofL (queryF (bl s)).1, o) h') :
    CallT Try.prog ref16_Query_no [.string s] h [.sc .str, .sc .sl] R := by
  apply ref16_Query_call
  unfold ref16_Query
  refine cut3_spec (c := 63) (by omega) ?_
  have hl := bl_len s
  have cl := cutAt_len 63 (bl s)
  unfold queryF at hk
  generalize cutAt 63 (bl s) = cv at *
  obtain ⟨a, q, c⟩ := cv
  simp only at cl hk ⊢
  have sq := ofL_size q
  refine split3_spec (c := 38) (by omega) ?_
  rw [bl_ofL]
  intro o h2 own k2
  have hsn := splitL_num 38 q
  have olen := own.len
  have slen : (strsV (splitL 38 q)).length = (splitL 38 q).length := List.length_map _
  rw [slen, Nat.mul_one] at olen
  have hmem : ∀ p ∈ splitL 38 q, p.length ≤ q.length := fun p hp => splitL_len hp
  generalize splitL 38 q = ps at *
  refine LoopT.intro (fun (t : Sl × Int) h' => 0 ≤ t.2 ∧ t.2 ≤ o.len ∧ Own h h' 2 t.1 (hdV (qpairs (ps.take t.2.toNat))) ∧ Nw h h' ∧ Own h h' 1 o (strsV ps) ∧ (∀ b, blk t.1.a b → ¬ blk o.a b)) (fun t _ => (o.len - t.2).toNat) ⟨by simp, by simp, Own.nil _ _ _, k2, own, fun b hb => by obtain ⟨x, e, _⟩ := hb; cases e⟩ ?_
  rintro ⟨l, i⟩ h3 ⟨p1, p2, p3, p4, p5, p6⟩
  replace p1 : 0 ≤ i := p1
  replace p2 : i ≤ o.len := p2
  replace p3 : Own h h3 2 l (hdV (qpairs (ps.take i.toNat))) := p3
  have ll := p3.len
  rw [hdV_len] at ll
  have ql := qpairs_len (ps.take i.toNat)
  rw [List.length_take] at ql
  refine cnd_dec (fun hi => ?_) (fun hi => ?_)
  · replace hi : i < (o.len : Int) := hi
    have hil : i.toNat < ps.length := by omega
    have hg : ps[i.toNat]? = some ps[i.toNat] := List.getElem?_eq_getElem hil
    generalize ps[i.toNat] = p at hg
    have hpl := hmem p (List.mem_of_getElem? hg)
    have sp := ofL_size p
    refine withJ.intro (fun (l' : Sl) h' => Own h h' 2 l' (hdV (qpairs (ps.take (i.toNat + 1)))) ∧ Nw h h' ∧ Own h h' 1 o (strsV ps) ∧ (∀ b, blk l'.a b → ¬ blk o.a b)) ?_ ?_
    · rintro l' h' ⟨q1, q2, q3, q4⟩
      show (0 ≤ w64 (i + 1) ∧ w64 (i + 1) ≤ o.len ∧ Own h h' 2 l' (hdV (qpairs (ps.take (w64 (i + 1)).toNat))) ∧ Nw h h' ∧ Own h h' 1 o (strsV ps) ∧ (∀ b, blk l'.a b → ¬ blk o.a b)) ∧ (o.len - w64 (i + 1)).toNat < (o.len - i).toNat
      rw [w64_id (x := i + 1) (by omega) (by omega), show (i + 1).toNat = i.toNat + 1 by omega]
      exact ⟨⟨by omega, by omega, q1, q2, q3, q4⟩, by omega⟩
    · intro J hJ
      rw [qpairs_take hg] at hJ
      refine strsAt p5.rv p1 hg ?_
      rw [seq_nilB, bl_ofL]
      unfold qpair at hJ
      refine cnd_of (fun e => ?_) (fun e => ?_)
      · have hp : p ≠ [] := by simpa using e
        rw [if_neg hp, hdV_snoc] at hJ
        refine strsAt p5.rv p1 hg ?_
        refine cut3_spec (c := 61) (by omega) ?_
        rw [bl_ofL]
        refine p3.push p4 rfl rfl rfl (fun x hx => by simp at hx; rcases hx with rfl | rfl <;> rfl) (by omega) ?_
        intro a' c' h4 q1 q2 q3 q4
        refine hJ _ _ ⟨q1, q2, p5.keep q3 (fun b hb hb2 => p6 b hb2 hb), fun b hb hb2 => ?_⟩
        rcases q4 b hb with hh | hh
        · exact p6 b hh hb2
        · have := p5.lt hb2; omega
      · have hp : p = [] := by simpa using e
        rw [if_pos hp, List.append_nil] at hJ
        exact hJ _ _ ⟨p3, p4, p5, p6⟩
  · have hil : ps.take i.toNat = ps := List.take_of_length_le (by have : ¬ i < (o.len : Int) := hi; omega)
    rw [hil] at p3
    exact hk _ _ p3 p4

theorem get16_spec {h : Heap} {x0 : Sl} {name : ByteArray} {hs : List HP} (hh : HdsAt h x0.a x0.len hs) (hl : x0.len ≤ 10000000) {R : ByteArray × Bool → Heap → Prop} (hk : ∀ h', Nw h h' → R (getR (allF name hs)) h') :
    CallT Try.prog ref16_Get_no [.slice x0.a x0.len x0.cap, .string name] h [.sc .str, .sc .bool] R := by
  have hcall := ref16_Get_call (l_0 := x0) (name_1 := name) (R := R) (h := h)
  apply hcall
  unfold ref16_Get
  refine all16_spec hh hl ?_
  intro o h2 own k2
  have hlen := own.len
  rw [List.length_map, Nat.mul_one] at hlen
  have hk' := hk h2 k2
  match hx : allF name hs with
  | [] =>
    rw [hx] at hlen hk'
    refine cnd_t (by rw [← hlen]; rfl) ?_
    exact hk'
  | v :: r =>
    rw [hx] at hlen hk' own
    refine cnd_f (by rw [← hlen]; simp; omega) ?_
    exact rvS own.rv (v := v) rfl hk'

theorem hdsAt2 {h : Heap} {a : Option Addr} {l : Nat} {hs : List HP} (hh : HdsAt h a l hs) {i : Int} {p : HP} (h0 : 0 ≤ i) (hp : hs[i.toNat]? = some p) {K : ByteArray → ByteArray → Prop} (hk : K p.1 p.2) :
    idx a l i fun x => ldS (x.add (i.toNat * 2)) h fun s => ldS ((x.add (i.toNat * 2)).add 1) h fun t => K s t := by
  obtain ⟨x, e1, e2, e3⟩ := hh.2 _ _ hp
  have := hh.1
  have hi := (List.getElem?_eq_some_iff.1 hp).1
  exact ⟨x, e1, h0, by omega, ldS_at e2 (ldS_at e3 hk)⟩
theorem rvSat {h : Heap} {a : Option Addr} {l : Nat} {ss : List ByteArray} (hs : Rv h a l (ss.map Value.string)) {i : Int} {v : ByteArray} (h0 : 0 ≤ i) (hv : ss[i.toNat]? = some v) {K : ByteArray → Prop} (hk : K v) : idx a l i fun x => ldS (x.add (i.toNat * 1)) h K := by
  have hl := hs.1
  have hi := (List.getElem?_eq_some_iff.1 hv).1
  rw [List.length_map] at hl
  exact hs.at h0 (by omega) (v := .string v) (by rw [List.getElem?_map, hv]; rfl) (fun y hy => ldS_at hy hk)

theorem httpQueries_spec {h : Heap} {t name : ByteArray} {x1 : Sl} {hs : List HP} (hg : MaxG h) (ht : t.size ≤ 10000000) (hh : HdsAt h x1.a x1.len hs) (hl : x1.len ≤ 10000000) {R : Bool → Heap → Prop} (hR : ∀ h', Nw h h' → R true h') :
    CallT Try.prog 9 [.string t, .slice x1.a x1.len x1.cap, .string name] h [.sc .bool] R := by
  have hcall := law16_HttpQueries_call (x_0 := t) (x_1 := x1) (x_2 := name) (R := R) (h := h)
  apply hcall
  unfold law16_HttpQueries
  refine query_spec (by omega) ?_
  intro o1 h2 w1 k2 hq
  refine query16_spec (by omega) ?_
  intro o2 h4 w2 k4
  have K4 := k2.trans' k4
  refine get_spec (hh.keep0 K4) hl ?_
  intro h6 k6
  refine get16_spec (hh.keep0 (K4.trans' k6)) hl ?_
  intro h8 k8
  have K8 := (K4.trans' k6).trans' k8
  refine all_spec (hh.keep0 K8) hl ?_
  intro o3 h10 w3 k10
  refine all16_spec (hh.keep0 (K8.trans' k10)) hl ?_
  intro o4 h12 w4 k12
  have K12 := (K8.trans' k10).trans' k12
  have kk := ((k6.trans' k8).trans' k10).trans' k12
  have W1 := SlR.hds ((w1.nw k4).nw kk).sl
  have W2 := SlR.hds (w2.nw kk).sl
  have W3 := (w3.nw k12).rv
  have W4 := w4.rv
  have n1 := W1.1
  have n2 := W2.1
  have n3 := W3.1
  have n4 := W4.1
  rw [List.length_map] at n3 n4
  have hal := allF_len name hs
  have hhl := hh.1
  have hqn := hq
  refine withJ.intro (fun _ h' => h' = h12) ?_ ?_
  · rintro _ h' rfl
    refine LoopT.intro (fun (i : Int) h2 => h2 = h' ∧ 0 ≤ i ∧ i ≤ o1.len) (fun i _ => (o1.len - i).toNat) ⟨rfl, by omega, by omega⟩ ?_
    rintro i h2 ⟨rfl, p1, p2⟩
    refine cnd_dec (fun hi => ?_) (fun hi => ?_)
    · have hi' : i < (o1.len : Int) := hi
      have hil : i.toNat < (queryF (bl t)).2.length := by omega
      have hgq : (queryF (bl t)).2[i.toNat]? = some (queryF (bl t)).2[i.toNat] := List.getElem?_eq_getElem hil
      generalize (queryF (bl t)).2[i.toNat] = p at hgq
      refine hdsAt2 W1 p1 hgq ?_
      refine hdsAt2 W2 p1 hgq ?_
      rw [seq_self, seq_self]
      refine cnd_f rfl ?_
      rw [w64_id (by omega) (by omega)]
      exact ⟨⟨rfl, by omega, by omega⟩, by omega⟩
    · refine LoopT.intro (fun (i : Int) h3 => h3 = h2 ∧ 0 ≤ i ∧ i ≤ o3.len) (fun i _ => (o3.len - i).toNat) ⟨rfl, by omega, by omega⟩ ?_
      rintro j h3 ⟨rfl, p3, p4⟩
      refine cnd_dec (fun hj => ?_) (fun hj => ?_)
      · have hjl : j.toNat < (allF name hs).length := by omega
        have hgj : (allF name hs)[j.toNat]? = some (allF name hs)[j.toNat] := List.getElem?_eq_getElem hjl
        generalize (allF name hs)[j.toNat] = v at hgj
        refine rvSat W3 p3 hgj ?_
        refine rvSat W4 p3 hgj ?_
        rw [seq_self]
        refine cnd_f rfl ?_
        rw [w64_id (by omega) (by omega)]
        exact ⟨⟨rfl, by omega, by omega⟩, by omega⟩
      · exact awake_spec (hg.nw K12) (fun h2 k2 => hR h2 (K12.trans' k2))
  · intro J hJ
    refine withJ.intro (fun (q : Bool) h' => h' = h12 ∧ q = false) ?_ ?_
    · rintro q h' ⟨rfl, rfl⟩
      exact cnd_f rfl (hJ _ _ rfl)
    · intro J2 hJ2
      refine cnd_f (by simp [seq_self]) ?_
      refine cnd_f (by show ((o1.len : Int) != (o2.len : Int)) = false; rw [n1, n2]; simp) ?_
      refine cnd_f (by simp [seq_self]) ?_
      refine cnd_f (by simp) ?_
      exact hJ2 _ _ ⟨rfl, by rw [n3, n4]; simp⟩
end Go.Proofs.Ytjpmjhnjdnbopaa
