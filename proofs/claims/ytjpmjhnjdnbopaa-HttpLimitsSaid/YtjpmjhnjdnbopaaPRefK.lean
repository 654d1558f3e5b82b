/- The document's reader: the request line, what is wrong with a head, what is left. -/
import Derived.Test.YtjpmjhnjdnbopaaPRefJ
namespace Go.Proofs.Ytjpmjhnjdnbopaa
open Go D
set_option linter.unusedVariables false
set_option linter.unusedSimpArgs false

def clF (hs : List HP) (te : List ByteArray) : List ByteArray → Int × Int
  | [] => expF hs te 0
  | x :: r => if (intF (bl x)).2 = false ∨ r ≠ [] then (0, 308) else if 1048576 < (intF (bl x)).1 then (0, 324) else expF hs te (intF (bl x)).1
theorem fitF_eq (hs : List HP) (te cl : List ByteArray) : fitF hs te cl = if (allF hostT hs).length ≠ 1 ∨ (te ≠ [] ∧ cl ≠ []) ∨ 1 < te.length then (0, 308) else if te.length = 1 ∧ te.head?.map lowS ≠ some chunkedT then (0, 335) else clF hs te cl := by
  unfold fitF
  cases cl <;> rfl

theorem fit16_spec {h : Heap} {x0 : Sl} {hs : List HP} (hh : HdsAt h x0.a x0.len hs) (hsm : Small hs) {R : Int × Int → Heap → Prop} (hk : ∀ h', Nw h h' → R (checkF hs) h') :
    CallT Try.prog ref16_fit_no [.slice x0.a x0.len x0.cap] h [.sc (.int .i64), .sc (.int .i64)] R := by
  apply ref16_fit_call
  unfold ref16_fit
  have hlen := hh.1
  have hl : x0.len ≤ 10000000 := by have := hsm.1; omega
  refine all16_spec hh hl ?_
  intro r1 h2 v1 k2
  replace v1 := v1.rv
  refine all16_spec (hh.keep0 k2) hl ?_
  intro r3 h4 v3 k4
  replace v3 := v3.rv
  have K4 := k2.trans' k4
  have v1' := v1.keep0 k4
  have n1 := v1.1
  have n3 := v3.1
  rw [List.length_map] at n1 n3
  have hdf : checkF hs = fitF hs (allF teT hs) (allF clT hs) := rfl
  have hvt : ∀ v ∈ allF teT hs, v.size ≤ 1000000000 := fun v hv => hsm.val hv
  have hvc : ∀ v ∈ allF clT hs, v.size ≤ 1000000000 := fun v hv => hsm.val hv
  replace v1' : Rv h4 r1.a r1.len ((allF teT hs).map Value.string) := v1'
  replace v3 : Rv h4 r3.a r3.len ((allF clT hs).map Value.string) := v3
  replace n1 : r1.len = (allF teT hs).length := n1
  replace n3 : r3.len = (allF clT hs).length := n3
  generalize allF teT hs = te at *
  generalize allF clT hs = cl at *
  rw [fitF_eq] at hdf
  -- what Expect says, once the size is known
  have expect : ∀ (n : Int) (h' : Heap), Nw h h' → (checkF hs = match allF expectT hs with | e :: _ => if lowS e ≠ contT then (0, 337) else (n, 0) | [] => (n, 0)) →
      CallT Try.prog ref16_Get_no [.slice x0.a x0.len x0.cap, .string (⟨#[101, 120, 112, 101, 99, 116]⟩ : ByteArray)] h' [.sc .str, .sc .bool] fun (r11 : ByteArray × Bool) h12 =>
      withJ (σ := Unit) (fun s13 h15 => R (n, 0) h15) (fun J14 =>
      withJ (σ := Bool) (fun s16 h18 => cnd s16 (R (0, 337) h18) (J14 () h18)) (fun J17 =>
      cnd r11.2 (CallT Try.prog ref3_Lower_no [.string r11.1] h12 [.sc .str] fun (r19 : ByteArray) h20 => J17 (!seq r19 (⟨#[49, 48, 48, 45, 99, 111, 110, 116, 105, 110, 117, 101]⟩ : ByteArray)) h20) (J17 false h12))) := by
    intro n h' k e
    refine get16_spec (hh.keep0 k) hl ?_
    intro h12 k12
    have K12 := k.trans' k12
    have he : ∀ v ∈ allF expectT hs, v.size ≤ 1000000000 := fun v hv => hsm.val hv
    rw [show (⟨#[101, 120, 112, 101, 99, 116]⟩ : ByteArray) = expectT from rfl]
    refine withJ.intro (fun _ h2 => Nw h h2 ∧ checkF hs = (n, 0)) ?_ ?_
    · rintro _ h2 ⟨k2, e2⟩
      have := hk h2 k2
      rw [e2] at this
      exact this
    · intro J9 hJ9
      match hx : allF expectT hs with
      | [] =>
        rw [hx] at e
        refine withJ.inl ?_
        show cnd false _ _
        refine cnd_f rfl (cnd_f rfl (hJ9 _ _ ⟨K12, e⟩))
      | v :: r =>
        rw [hx] at e he
        have hv := he v (by simp)
        simp only at e
        refine withJ.intro (fun (q : Bool) h' => Nw h h' ∧ q = !decide (lowS v = contT)) ?_ ?_
        · rintro q h3 ⟨k3, rfl⟩
          refine cnd_of (fun e3 => ?_) (fun e3 => ?_)
          · rw [if_pos (by simpa using e3)] at e
            have := hk h3 k3
            rw [e] at this
            exact this
          · rw [if_neg (by simpa using e3)] at e
            exact hJ9 _ _ ⟨k3, e⟩
        · intro J14 hJ14
          show cnd true _ _
          refine cnd_t rfl ?_
          refine lower3_spec (s := v) (by omega) ?_
          intro h16 k16
          exact hJ14 _ _ ⟨K12.trans' k16, by rw [seq_low]; rfl⟩
  refine withJ.intro (fun (n : Int) h' => Nw h4 h' ∧ (te.length = 1 ∧ n = -1 ∨ te.length ≠ 1 ∧ n = 0) ∧ cl.length ≤ 1 ∧ (cl ≠ [] → te = []) ∧ checkF hs = clF hs te cl) ?_ ?_
  · rintro n h' ⟨k, hn, hc1, hc2, e⟩
    have K' := K4.trans' k
    refine withJ.intro (fun (n : Int) h2 => Nw h h2 ∧ checkF hs = match allF expectT hs with | e :: _ => if lowS e ≠ contT then (0, 337) else (n, 0) | [] => (n, 0)) (fun n h2 hh2 => expect n h2 hh2.1 hh2.2) ?_
    intro J9 hJ9
    match hcl : cl with
    | [] =>
      refine cnd_f (by rw [n3]; rfl) ?_
      refine hJ9 _ _ ⟨K', ?_⟩
      rw [e]
      show expF hs te 0 = _
      unfold expF
      rcases hn with ⟨h1, rfl⟩ | ⟨h1, rfl⟩
      · rw [if_pos h1]; rfl
      · rw [if_neg h1]; rfl
    | [x] =>
      have ht : te = [] := hc2 (by simp)
      subst ht
      refine cnd_t (by rw [n3]; rfl) ?_
      refine rvS (v3.keep0 k) (v := x) rfl ?_
      refine int1_spec ?_
      simp only [clF] at e
      have hx : ¬ ((intF (bl x)).2 = false ∨ ([] : List ByteArray) ≠ []) ↔ (intF (bl x)).2 = true := by simp
      refine cnd_of (fun e3 => ?_) (fun e3 => ?_)
      · rw [if_pos (.inl (by simpa using e3))] at e
        have := hk h' K'
        rw [e] at this
        exact this
      · rw [if_neg (hx.2 (by simpa using e3))] at e
        refine cnd_dec (fun e4 => ?_) (fun e4 => ?_)
        · rw [if_pos (show 1048576 < (intF (bl x)).1 from e4)] at e
          have := hk h' K'
          rw [e] at this
          exact this
        · rw [if_neg (show ¬ 1048576 < (intF (bl x)).1 from e4)] at e
          refine hJ9 _ _ ⟨K', ?_⟩
          rw [e]
          unfold expF
          rw [if_neg (by simp)]
          rfl
    | x :: y :: r => simp at hc1
  · intro J6 hJ6
    refine withJ.intro (fun (q : Bool) h' => Nw h4 h' ∧ q = decide ((allF hostT hs).length ≠ 1 ∨ (te ≠ [] ∧ cl ≠ []) ∨ 1 < te.length)) ?_ ?_
    · rintro q h' ⟨k, rfl⟩
      have K' := K4.trans' k
      refine cnd_dec (fun e => ?_) (fun e => ?_)
      · rw [if_pos e] at hdf
        have := hk h' K'
        rw [hdf] at this
        exact this
      · rw [if_neg e] at hdf
        have v1'' := v1'.keep0 k
        refine withJ.intro (fun (q : Bool) h2 => Nw h' h2 ∧ q = decide (te.length = 1 ∧ te.head?.map lowS ≠ some chunkedT)) ?_ ?_
        · rintro q h2 ⟨k2, rfl⟩
          have K2 := K'.trans' k2
          refine cnd_dec (fun e2 => ?_) (fun e2 => ?_)
          · rw [if_pos e2] at hdf
            have := hk h2 K2
            rw [hdf] at this
            exact this
          · rw [if_neg e2] at hdf
            refine cnd_dec (fun e3 => ?_) (fun e3 => ?_)
            · have h1 : 1 < cl.length := by omega
              match cl, h1 with
              | x :: y :: r, _ =>
                simp only [clF] at hdf
                rw [if_pos (.inr (by simp))] at hdf
                have := hk h2 K2
                rw [hdf] at this
                exact this
            · have hc : cl.length ≤ 1 := by omega
              have hct : cl ≠ [] → te = [] := fun hc2 => by
                cases te with
                | nil => rfl
                | cons x r => exact absurd (.inr (.inl ⟨by simp, hc2⟩)) e
              refine cnd_of (fun e4 => ?_) (fun e4 => ?_)
              · have h1 : te.length = 1 := by have := eq_of_beq e4; omega
                refine hJ6 _ _ ⟨k.trans' k2, .inl ⟨h1, rfl⟩, hc, hct, ?_⟩
                exact hdf
              · have h1 : te.length ≠ 1 := by have := ne_of_beq_false e4; omega
                refine hJ6 _ _ ⟨k.trans' k2, .inr ⟨h1, rfl⟩, hc, hct, ?_⟩
                exact hdf
        · intro J22 hJ22
          refine cnd_of (fun e2 => ?_) (fun e2 => hJ22 _ _ ⟨.refl _ _, ?_⟩)
          · have h1 : te.length = 1 := by have := eq_of_beq e2; omega
            match te, h1 with
            | [x], _ =>
              have hx := hvt x (by simp)
              refine rvS v1'' (v := x) rfl ?_
              refine lower3_spec (s := x) (by omega) ?_
              intro h2 k2
              refine hJ22 _ _ ⟨k2, ?_⟩
              rw [seq_low, Bool.eq_iff_iff]
              simp
              rfl
          · rw [decide_eq_false]
            rintro ⟨h1, _⟩
            rw [n1, h1] at e2
            simp at e2
    · intro J19 hJ19
      refine all16_spec (hh.keep0 K4) hl ?_
      intro r38 h39 v38 k39
      replace v38 := v38.rv
      have n38 := v38.1
      rw [List.length_map] at n38
      replace n38 : r38.len = (allF hostT hs).length := n38
      refine cnd_of (fun e => hJ19 _ _ ⟨k39, ?_⟩) (fun e => ?_)
      · rw [decide_eq_true]
        refine .inl (fun e2 => ?_)
        rw [n38, e2] at e
        simp at e
      · have h1 : (allF hostT hs).length = 1 := by simp at e; omega
        have last : (te ≠ [] ∧ cl ≠ [] → False) → J19 (decide ((r1.len : Int) > 1)) h39 := fun hno => by
          refine hJ19 _ _ ⟨k39, ?_⟩
          rw [n1, Bool.eq_iff_iff, decide_eq_true_eq, decide_eq_true_eq]
          constructor
          · intro h; exact .inr (.inr (by omega))
          · rintro (h | h | h)
            · exact absurd h1 h
            · exact absurd h hno
            · omega
        refine cnd_dec (fun e2 => ?_) (fun e2 => last (fun hh => ?_))
        · have ht : te ≠ [] := fun e3 => by rw [n1, e3] at e2; simp at e2
          refine cnd_dec (fun e3 => hJ19 _ _ ⟨k39, ?_⟩) (fun e3 => last (fun hh => ?_))
          · have hc : cl ≠ [] := fun e4 => by rw [n3, e4] at e3; simp at e3
            rw [decide_eq_true (.inr (.inl ⟨ht, hc⟩))]
          · cases cl with
            | nil => exact hh.2 rfl
            | cons x r => rw [n3] at e3; simp at e3
        · cases te with
          | nil => exact hh.1 rfl
          | cons x r => rw [n1] at e2; simp at e2

/-! ### closes -/
theorem closes16_spec {h : Heap} {x0 : Sl} {hs : List HP} (hh : HdsAt h x0.a x0.len hs) (hsm : Small hs) {R : Bool → Heap → Prop} (hk : ∀ h', Nw h h' → R (closesF hs) h') :
    CallT Try.prog ref16_closes_no [.slice x0.a x0.len x0.cap] h [.sc .bool] R := by
  apply ref16_closes_call
  unfold ref16_closes
  have hl : x0.len ≤ 10000000 := by have := hh.1; have := hsm.1; omega
  refine all16_spec hh hl ?_
  intro r1 h2 v1 k2
  have vl := v1.rv.1
  rw [List.length_map] at vl
  have hvs : ∀ v ∈ allF connT hs, v.size ≤ 1000000000 := fun v hv => hsm.val hv
  replace v1 : Own h h2 1 r1 ((allF connT hs).map Value.string) := v1
  replace vl : r1.len = (allF connT hs).length := vl
  have hcf : closesF hs = (allF connT hs).any clsV := rfl
  have hvn : (allF connT hs).length ≤ 1000 := by have := allF_len connT hs; have := hsm.1; omega
  generalize allF connT hs = vs at *
  refine LoopT.intro (fun (i : Int) h' => 0 ≤ i ∧ i ≤ r1.len ∧ (vs.take i.toNat).any clsV = false ∧ Nw h2 h') (fun i _ => (r1.len - i).toNat) ⟨by omega, by omega, by simp, .refl _ _⟩ ?_
  rintro i h3 ⟨p1, p2, p3, k3⟩
  refine cnd_dec (fun hi => ?_) (fun hi => ?_)
  · have hil : i.toNat < vs.length := by omega
    have hgv : vs[i.toNat]? = some vs[i.toNat] := List.getElem?_eq_getElem hil
    generalize vs[i.toNat] = v at hgv
    have hv := hvs v (List.mem_of_getElem? hgv)
    have hv2 := bl_len v
    refine rvSat (v1.nw k3).rv p1 hgv ?_
    refine split3_spec (c := 44) hv ?_
    intro o h4 own k4
    have hsn := splitL_num 44 (bl v)
    have slen : (strsV (splitL 44 (bl v))).length = (splitL 44 (bl v)).length := List.length_map _
    have olen := own.len
    rw [slen, Nat.mul_one] at olen
    have hmem : ∀ p ∈ splitL 44 (bl v), p.length ≤ (bl v).length := fun p hp => splitL_len hp
    have hcv : clsV v = (splitL 44 (bl v)).any clsP := rfl
    generalize splitL 44 (bl v) = ps at *
    refine LoopT.intro (fun (j : Int) h' => 0 ≤ j ∧ j ≤ o.len ∧ (ps.take j.toNat).any clsP = false ∧ Nw h4 h') (fun j _ => (o.len - j).toNat) ⟨by omega, by omega, by simp, .refl _ _⟩ ?_
    rintro j h5 ⟨q1, q2, q3, k5⟩
    refine cnd_dec (fun hj => ?_) (fun hj => ?_)
    · have hjl : j.toNat < ps.length := by omega
      have hgp : ps[j.toNat]? = some ps[j.toNat] := List.getElem?_eq_getElem hjl
      generalize ps[j.toNat] = p at hgp
      have hp := hmem p (List.mem_of_getElem? hgp)
      have sp := ofL_size p
      refine strsAt (own.nw k5).rv q1 hgp ?_
      refine trim3_spec (by omega) ?_
      rw [bl_ofL]
      have tl := trimL_len p
      have st := ofL_size (trimL p)
      refine lower3_spec (by omega) ?_
      intro h6 k6
      rw [bl_ofL]
      have e2 : seq (ofL (lowerL (trimL p))) (⟨#[99, 108, 111, 115, 101]⟩ : ByteArray) = clsP p := by
        rw [seq_bl, bl_ofL]
        rfl
      rw [e2]
      refine cnd_of (fun e => ?_) (fun e => ?_)
      · have : closesF hs = true := by
          rw [hcf, List.any_eq_true]
          refine ⟨v, List.mem_of_getElem? hgv, ?_⟩
          rw [hcv, List.any_eq_true]
          exact ⟨p, List.mem_of_getElem? hgp, e⟩
        have h := hk h6 ((((k2.trans' k3).trans' k4).trans' k5).trans' k6)
        rw [this] at h
        exact h
      · rw [w64_id (by omega) (by omega)]
        refine ⟨⟨by omega, by omega, ?_, k5.trans' k6⟩, by omega⟩
        rw [show (j + 1).toNat = j.toNat + 1 by omega, any_take hgp, q3, e]
        rfl
    · rw [List.take_of_length_le (by omega)] at q3
      show (0 ≤ w64 (i + 1) ∧ w64 (i + 1) ≤ r1.len ∧ (vs.take (w64 (i + 1)).toNat).any clsV = false ∧ Nw h2 h5) ∧ (r1.len - w64 (i + 1)).toNat < (r1.len - i).toNat
      rw [w64_id (by omega) (by omega)]
      refine ⟨⟨by omega, by omega, ?_, (k3.trans' k4).trans' k5⟩, by omega⟩
      rw [show (i + 1).toNat = i.toNat + 1 by omega, any_take hgv, p3, hcv, q3]
      rfl
  · rw [List.take_of_length_le (by omega)] at p3
    have h := hk h3 (k2.trans' k3)
    rw [hcf, p3] at h
    exact h

/-! ### what is left -/
def leftX (f : Int) : ST := if f ≠ 0 then stBad f else stMore
theorem left16_spec {h : Heap} {p : Nat} {s : ByteArray} {f : Int} (st : DStop h p s f) {R : ST → Heap → Prop} (hk : ∀ h', Nw h h' → R (leftX f) h') :
    CallT Try.prog ref16_Reader_left_no [.pointer (some ⟨p, 0, none⟩)] h [.agg [.int .i64, .int .i64, .str, .str, .sl, .sl, .int .i64, .bool, .bool]] R := by
  apply ref16_Reader_left_call
  unfold ref16_Reader_left
  obtain ⟨a, b, c, m, rw⟩ := st
  refine newB_row ?_
  intro h1 s1 r1 k1
  simp only [nn_eq, add_mk]
  have rp := k1.row rw (fun h => h)
  unfold dRow at rp
  refine ldI_row (o := 0 + 5) rp rfl ?_
  unfold leftX at hk
  refine cnd_of (fun hf => ?_) (fun hf => ?_)
  · have hf' : f ≠ 0 := by simpa using hf
    rw [if_pos hf'] at hk
    refine ldI_row (o := 0 + 5) rp rfl ?_
    exact ret9_spec (x := stBad f) (y := (0, 0, ⟨#[]⟩, ⟨#[]⟩, ⟨none, 0, 0⟩, ⟨none, 0, 0⟩, 0, false, false)) r1 (fun h9 k9 => hk h9 (Nw.st k1 k9 (Nat.le_refl _)))
  · have hf' : f = 0 := by simpa using hf
    rw [if_neg (by simp [hf'])] at hk
    exact ret9_spec (x := stMore) (y := (0, 0, ⟨#[]⟩, ⟨#[]⟩, ⟨none, 0, 0⟩, ⟨none, 0, 0⟩, 0, false, false)) r1 (fun h9 k9 => hk h9 (Nw.st k1 k9 (Nat.le_refl _)))
end Go.Proofs.Ytjpmjhnjdnbopaa
