/- The document's Parse: it tells the same as the program's. -/
import Derived.Test.YtjpmjhnjdnbopaaPRefL
namespace Go.Proofs.Ytjpmjhnjdnbopaa
open Go D
set_option linter.unusedVariables false
set_option linter.unusedSimpArgs false

theorem leftX_step {h h' : Heap} {bs : List UInt8} {f : Int} (e : requestF bs = .error f) : StepR h h' bs (leftX f) := by
  unfold leftX
  by_cases hf : f = 0
  · rw [if_neg (by simp [hf])]
    exact .inr (.inr ⟨rfl, by rw [e, hf]⟩)
  · rw [if_pos hf]
    exact .inr (.inl ⟨f, rfl, e, hf⟩)

theorem parse16_all {h : Heap} {x0 : Sl} {bs : List UInt8} (hb : Rb h x0.a x0.len bs) (hbl : x0.len ≤ 4000000000000) {R : ST → Heap → Prop} (hk : ∀ x h', StepR h h' bs x → Nw h h' → R x h') :
    CallT Try.prog ref16_Parse_no [.slice x0.a x0.len x0.cap] h [.agg [.int .i64, .int .i64, .str, .str, .sl, .sl, .int .i64, .bool, .bool]] R := by
  apply ref16_Parse_call
  unfold ref16_Parse
  have hlen := hb.len
  refine newB_row ?_
  intro h1 s1 r1 k1
  refine Rb.str (hb.keep0 k1) ?_
  rw [show (⟨bs.toArray⟩ : ByteArray) = ofL bs from rfl]
  have sb := ofL_size bs
  have blb := bl_ofL bs
  refine newB_row ?_
  intro h2 s2 r2 k2
  simp only [add_mk]
  have K2 : Nw h h2 := k1.trans' k2
  have r1' : Row h2 h.size (row9 (0, 0, ⟨#[]⟩, ⟨#[]⟩, ⟨none, 0, 0⟩, ⟨none, 0, 0⟩, 0, false, false)) := k2.row r1 (fun h => h)
  replace r2 : Row h2 h1.size (dRow (ofL bs) 0 0 0 false 0) := r2
  -- what is left, whatever the heap
  have left : ∀ (f : Int) (h' : Heap), requestF bs = .error f → DStop h' h1.size (ofL bs) f → Row h' h.size (row9 (0, 0, ⟨#[]⟩, ⟨#[]⟩, ⟨none, 0, 0⟩, ⟨none, 0, 0⟩, 0, false, false)) → Nw h h' →
      CallT Try.prog ref16_Reader_left_no [.pointer (some ⟨h1.size, 0, none⟩)] h' [.agg [.int .i64, .int .i64, .str, .str, .sl, .sl, .int .i64, .bool, .bool]] fun (r14 : ST) h15 => set9 h.size r14 (fun h24 => get9 h.size R h24) h15 := by
    intro f h' e st row k
    refine left16_spec st ?_
    intro h3 k3
    exact ret9_spec (k3.row row (fun h => h)) (fun h9 k9 => hk _ h9 (leftX_step e) (Nw.st (k.trans' k3) k9 (Nat.le_refl _)))
  have stK : ∀ {f : Int} {a b : Heap}, DStop a h1.size (ofL bs) f → Nw a b → DStop b h1.size (ofL bs) f := fun st k => by
    obtain ⟨x, y, z, m, rw⟩ := st
    exact ⟨x, y, z, m, k.row rw (fun h => h)⟩
  refine first16_spec r2 (by omega) ?_ ?_
  rotate_left
  · intro q f h3 e st k3
    rw [blb] at e
    refine newB_row ?_
    intro h4 s4 r4 k4
    simp only [add_mk]
    refine stC_row r4 (by simp) rfl ?_
    intro h5 s5 r5 k5
    refine stC_row r5 (by simp) rfl ?_
    intro h6 s6 r6 k6
    refine stC_row r6 (by simp) rfl ?_
    intro h7 s7 r7 k7
    refine stC_row r7 (by simp) rfl ?_
    intro h8 s8 r8 k8
    have K48 : Keep (· = h3.size) h4 h8 := ((k5.trans' k6).trans' k7).trans' k8
    have K38 : Nw h3 h8 := Nw.st k4 K48 (Nat.le_refl _)
    have K8 : Nw h h8 := (K2.trans k3 (fun x hx e => by have e' : x = h1.size := e; omega)).trans' K38
    exact cnd_t rfl (left f h8 (reqF_begin e) (stK st K38) (K38.row (k3.row r1' (by omega)) (fun h => h)) K8)
  intro m t n h3 eB rp3 k3
  rw [blb] at eB
  obtain ⟨nle, n8⟩ := beginF_le eB
  refine newB_row ?_
  intro h4 s4 r4 k4
  simp only [add_mk]
  refine stC_row r4 (by simp) rfl ?_
  intro h5 s5 r5 k5
  refine stC_row r5 (by simp) rfl ?_
  intro h6 s6 r6 k6
  refine stC_row r6 (by simp) rfl ?_
  intro h7 s7 r7 k7
  refine stC_row r7 (by simp) rfl ?_
  intro h8 s8 r8 k8
  replace r8 : Row h8 h3.size (qRow (ofL m) (ofL t) ⟨none, 0, 0⟩ ⟨none, 0, 0⟩) := r8
  have K48 : Keep (· = h3.size) h4 h8 := ((k5.trans' k6).trans' k7).trans' k8
  have K38 : Nw h3 h8 := Nw.st k4 K48 (Nat.le_refl _)
  have K3 : Nw h h3 := K2.trans k3 (fun x hx e => by have e' : x = h1.size := e; omega)
  have K8 : Nw h h8 := K3.trans' K38
  have z3 := k3.size
  have z38 := r8.lt
  have r18 := K38.row (k3.row r1' (by omega)) (fun h => h)
  have rp8 := K38.row rp3 (fun h => h)
  refine cnd_f rfl ?_
  refine block16_spec rp8 (by omega) (by omega) (by omega) (by omega) ?_ ?_
  rotate_left
  · intro f h9 e st k9
    rw [blb, Nat.sub_zero] at e
    exact cnd_t rfl (left f h9 (reqF_head eB e) st (k9.row r18 (by omega)) (K8.trans k9 (fun x hx e => by have e' : x = h1.size := e; omega)))
  intro o hs' c k h9 eH own9 rp9 k9
  rw [blb, Nat.sub_zero] at eH
  have hsm : Small hs' := Small.of eH (by omega)
  obtain ⟨hk1, hcl, hk3, _⟩ := headersF_small eH
  rw [List.length_drop] at hcl
  have r19 := k9.row r18 (by omega)
  have q9 := k9.row r8 (by omega)
  have K9 : Nw h h9 := K8.trans k9 (fun x hx e => by have e' : x = h1.size := e; omega)
  refine cnd_f rfl ?_
  have H9 := SlR.hds own9.sl
  refine fit16_spec H9 hsm ?_
  intro h10 k10
  have K10 := K9.trans' k10
  have r110 := k10.row r19 (fun h => h)
  have q10 := k10.row q9 (fun h => h)
  have rp10 := k10.row rp9 (fun h => h)
  have own10 := own9.nw k10
  have rp10' := rp10
  unfold dRow at rp10'
  have hle := @checkF_le hs'
  generalize hck : checkF hs' = ck at *
  obtain ⟨many, e⟩ := ck
  simp only at hle
  refine cnd_of (fun he => ?_) (fun he => ?_)
  · have he' : e ≠ 0 := by simpa using he
    have eq := reqF_check eB eH (by rw [hck]; exact he')
    rw [hck] at eq
    refine stC_row rp10' (by simp) rfl ?_
    intro h11 s11 r11 k11
    exact left e h11 eq ⟨_, _, _, _, r11⟩ (k11.row r110 (by omega)) (K10.trans k11 (fun x hx e => by have e' : x = h1.size := e; omega))
  have he' : e = 0 := by simpa using he
  subst he'
  obtain ⟨hle1, hle2⟩ := hle rfl
  unfold qRow at q10
  refine stC_row q10 (by simp) rfl ?_
  intro h11 s11 q11 k11
  replace q11 : Row h11 h3.size (qRow (ofL m) (ofL t) o ⟨none, 0, 0⟩) := q11
  have r111 := k11.row r110 (by omega)
  have rp11 := k11.row rp10 (by omega)
  have K11 : Nw h h11 := Nw.st K10 k11 (by omega)
  have own11 : Own h8 h11 2 o (hdV hs') := own10.keep k11 (fun b hb e => by have := own10.fresh b hb; have e' : b = h3.size := e; omega)
  have rp11' := rp11
  unfold dRow at rp11'
  -- a whole request
  refine withJ.intro (fun _ h12 => ∃ (b : Sl) (body : List UInt8) (d c1 d1 : Nat), requestF bs = .ok (⟨m, t, hs', body⟩, d) ∧ Own h11 h12 1 b (body.map byteV) ∧ Row h12 h3.size (qRow (ofL m) (ofL t) o b) ∧ Row h12 h1.size (dRow (ofL bs) d c1 d1 false 0) ∧ Keep (fun x => x = h3.size ∨ x = h1.size) h11 h12) ?_ ?_
  · rintro _ h12 ⟨b, body, d, c1, d1, eq, ownb, q12, rp12, k12⟩
    have own12 : Own h8 h12 2 o (hdV hs') := own11.keep k12 (fun x hx e => by have := own11.fresh x hx; rcases e with e | e <;> omega)
    have r112 := k12.row r111 (by omega)
    have H12 := SlR.hds own12.sl
    have ol : o.len ≤ 10000000 := by have := H12.1; have := hsm.1; omega
    refine get16_spec H12 ol ?_
    intro h13 k13
    have r113 := k13.row r112 (fun h => h)
    have q13 := k13.row q12 (fun h => h)
    have rp13 := k13.row rp12 (fun h => h)
    refine withJ.intro (fun _ h14 => Row h14 h.size (row9 (stOk ⟨m, t, hs', body⟩ d o b)) ∧ Keep (· = h.size) h13 h14 ∨ ∃ h15, Nw h13 h15 ∧ Row h14 h.size (row9 (stOk ⟨m, t, hs', body⟩ d o b)) ∧ Keep (· = h.size) h15 h14) ?_ ?_
    · rintro _ h14 hh
      have key : ∀ h15, Nw h13 h15 → Row h14 h.size (row9 (stOk ⟨m, t, hs', body⟩ d o b)) → Keep (· = h.size) h15 h14 → get9 h.size R h14 := by
        intro h15 k15 row k14
        refine get9_spec row (hk _ h14 (.inl ⟨_, d, o, b, rfl, eq, hsm, ?_, ?_, ?_⟩) ?_)
        · exact (((own12.nw k13).nw k15).keep k14 (fun x hx e => by have := own12.fresh x hx; have e' : x = h.size := e; omega)).up K8.size
        · have z11 := K11.size
          exact (((ownb.nw k13).nw k15).keep k14 (fun x hx e => by have := ownb.fresh x hx; have := r111.lt; have e' : x = h.size := e; omega)).up z11
        · exact fun y hy hy2 => by have := own11.lt hy; have := ownb.fresh y hy2; omega
        · exact Nw.st (((K11.trans k12 (fun x hx e => by rcases e with e | e <;> omega)).trans' k13).trans' k15) k14 (Nat.le_refl _)
      rcases hh with ⟨row, k14⟩ | ⟨h15, k15, row, k14⟩
      · exact key h13 (.refl _ _) row k14
      · exact key h15 k15 row k14
    · intro J86 hJ86
      have rp13' := rp13
      unfold dRow at rp13'
      have q13' := q13
      unfold qRow at q13'
      refine ldI_row (o := 0 + 1) rp13' rfl (ldS_row (o := 0) q13' rfl (ldS_row (o := 0 + 1) q13' rfl (ldL_row (o := 0 + 2) q13' rfl (ldL_row (o := 0 + 3) q13' rfl ?_))))
      refine closes16_spec (SlR.hds (own12.nw k13).sl) hsm ?_
      intro h15 k15
      have q15 := k15.row q13 (fun h => h)
      have rp15 := k15.row rp13 (fun h => h)
      have r115 := k15.row r113 (fun h => h)
      unfold qRow at q15
      unfold dRow at rp15
      refine ⟨ldS_row (o := 0) q15 rfl (ldS_row (o := 0 + 1) q15 rfl (ldL_row (o := 0 + 2) q15 rfl (ldL_row (o := 0 + 3) q15 rfl rfl))), ldI_row (o := 0 + 1) rp15 rfl rfl, ?_⟩
      have blen : b.len = body.length := by have := ownb.len; rw [List.length_map] at this; omega
      have hcont : contF hs' body = (!decide (allF expectT hs' = []) && !decide (body = [])) := rfl
      rw [show (⟨#[101, 120, 112, 101, 99, 116]⟩ : ByteArray) = expectT from rfl]
      match hx : allF expectT hs' with
      | [] =>
        rw [hx] at hcont
        refine cnd_f rfl ?_
        refine set9_spec (x := (2, (d : Int), ofL m, ofL t, o, b, 0, closesF hs', false)) r115 ?_
        intro h16 r16 k16
        refine hJ86 _ _ (.inr ⟨h15, k15, ?_, k16⟩)
        have : stOk ⟨m, t, hs', body⟩ d o b = (2, (d : Int), ofL m, ofL t, o, b, 0, closesF hs', false) := by unfold stOk; rw [hcont]; rfl
        rw [this]
        exact r16
      | v :: r =>
        rw [hx] at hcont
        refine cnd_t rfl ?_
        refine ldL_row (o := 0 + 3) q15 rfl ?_
        refine set9_spec (x := (2, (d : Int), ofL m, ofL t, o, b, 0, closesF hs', decide ((b.len : Int) > 0))) r115 ?_
        intro h16 r16 k16
        refine hJ86 _ _ (.inr ⟨h15, k15, ?_, k16⟩)
        have e2 : decide ((b.len : Int) > 0) = (!decide (v :: r = []) && !decide (body = [])) := by
          rw [blen, Bool.eq_iff_iff]
          cases body <;> simp
        have : stOk ⟨m, t, hs', body⟩ d o b = (2, (d : Int), ofL m, ofL t, o, b, 0, closesF hs', decide ((b.len : Int) > 0)) := by unfold stOk; rw [hcont, e2]
        rw [this]
        exact r16
  · intro J hJ
    refine cnd_dec (fun hneg => ?_) (fun hpos => ?_)
    · replace hneg : many < 0 := hneg
      have eq := reqF_pieces eB eH (by rw [hck]) (by rw [hck]; exact hneg)
      have ek : 100 - (100 - k) = k := by omega
      refine chunks16_spec rp11 (by omega) (by omega) (by omega) (by omega) ?_ ?_
      · intro o2 b d h12 eP own12 rp12 k12
        rw [ek, blb] at eP
        rw [eP] at eq
        replace eq : requestF bs = .ok (⟨m, t, hs', b⟩, n + c + d) := eq
        have q12 := k12.row q11 (by omega)
        unfold qRow at q12
        refine stC_row q12 (by simp) rfl ?_
        intro h13 s13 q13 k13
        obtain ⟨c1, d1, rp12⟩ := rp12
        refine cnd_f rfl (hJ _ _ ⟨o2, b, n + c + d, c1, d1, eq, own12.keep k13 (fun x hx e => by have := own12.fresh x hx; have e' : x = h3.size := e; have := q11.lt; omega), q13, k13.row rp12 (by omega), (k12.mono (fun x _ e => .inr e)).trans k13 (fun x _ e => .inl e)⟩)
      · intro o2 f h12 eP st k12
        rw [ek, blb] at eP
        rw [eP] at eq
        replace eq : requestF bs = .error f := eq
        have q12 := k12.row q11 (by omega)
        unfold qRow at q12
        refine stC_row q12 (by simp) rfl ?_
        intro h13 s13 q13 k13
        obtain ⟨x, y, z, mm, rw⟩ := st
        refine cnd_t rfl (left f h13 eq ⟨x, y, z, mm, k13.row rw (by omega)⟩ (k13.row (k12.row r111 (by omega)) (by omega)) (Nw.st (K11.trans k12 (fun x hx e => by have e' : x = h1.size := e; omega)) k13 (by omega)))
    · replace hpos : ¬ many < 0 := hpos
      obtain ⟨w, rfl⟩ : ∃ w : Nat, many = (w : Int) := ⟨many.toNat, by omega⟩
      refine ldS_row (o := 0) rp11' rfl (ldI_row (o := 0 + 1) rp11' rfl ?_)
      rw [w64_id (x := ((ofL bs).size : Int) - ((n + c : Nat) : Int)) (by omega) (by omega)]
      refine cnd_dec (fun hlt => ?_) (fun hge => ?_)
      · replace hlt : ((ofL bs).size : Int) - ((n + c : Nat) : Int) < (w : Int) := hlt
        have eq := reqF_short eB eH (by rw [hck]) (by rw [hck]; exact hpos) (by rw [hck]; show _ < ((w : Int)).toNat; omega)
        exact ret9_spec (x := stMore) r111 (fun h12 k12 => hk _ h12 (.inr (.inr ⟨rfl, eq⟩)) (Nw.st K11 k12 (Nat.le_refl _)))
      · replace hge : ¬ ((ofL bs).size : Int) - ((n + c : Nat) : Int) < (w : Int) := hge
        have eq := reqF_ok eB eH (by rw [hck]) (by rw [hck]; exact hpos) (by rw [hck]; show ¬ _ < ((w : Int)).toNat; omega)
        rw [hck] at eq
        replace eq : requestF bs = .ok (⟨m, t, hs', (bs.drop (n + c)).take w⟩, n + c + w) := eq
        refine ldS_row (o := 0) rp11' rfl (ldI_row (o := 0 + 1) rp11' rfl (ldI_row (o := 0 + 1) rp11' rfl ?_))
        show ssl (ofL bs) ((n + c : Nat) : Int) (w64 (((n + c : Nat) : Int) + (w : Int))) _
        rw [w64_id (x := ((n + c : Nat) : Int) + (w : Int)) (by omega) (by omega)]
        refine mid_ssl (s := ofL bs) (k := n + c) (i := w) (by omega) ?_
        rw [blb]
        have eb := ofL_size ((bs.drop (n + c)).take w)
        have eb2 : ((bs.drop (n + c)).take w).length ≤ w := by rw [List.length_take]; omega
        refine s2b_row (by omega) ?_
        intro cap h12 b12 k12 z12
        have q12 := k12.row q11 (fun h => h)
        have rp12 := k12.row rp11 (fun h => h)
        unfold qRow at q12
        refine stC_row q12 (by simp) rfl ?_
        intro h13 s13 q13 k13
        replace q13 : Row h13 h3.size (qRow (ofL m) (ofL t) o ⟨some ⟨h11.size, 0, none⟩, (ofL ((bs.drop (n + c)).take w)).size, cap⟩) := q13
        have rp13 := k13.row rp12 (by omega)
        unfold dRow at rp13
        refine ldI_row (o := 0 + 1) rp13 rfl ?_
        show stC _ (.int .i64 (w64 (((n + c : Nat) : Int) + (w : Int)))) _ _
        rw [w64_id (x := ((n + c : Nat) : Int) + (w : Int)) (by omega) (by omega)]
        refine stC_row rp13 (by simp) rfl ?_
        intro h14 s14 r14 k14
        have own12 : Own h11 h12 1 ⟨some ⟨h11.size, 0, none⟩, (ofL ((bs.drop (n + c)).take w)).size, cap⟩ (((bs.drop (n + c)).take w).map byteV) := ⟨by have := b12; unfold Bs at this; rw [ofL_bytes] at this; exact this, fun b hb => by rw [blk_some] at hb; simp only at hb; omega⟩
        have k34 : Keep (fun x => x = h3.size ∨ x = h1.size) h12 h14 := (k13.mono (fun x _ e => .inl e)).trans k14 (fun x _ e => .inr e)
        refine hJ _ _ ⟨_, _, n + c + w, n + c, 100 - k, eq, own12.keep k34 (fun x hx e => by have := own12.fresh x hx; have := q11.lt; rcases e with e | e <;> omega), k14.row q13 (by omega), ?_, (k12.mono (fun _ _ h => h.elim)).trans k34 (fun x _ e => e)⟩
        have e2 : (((n + c : Nat) : Int) + (w : Int)) = ((n + c + w : Nat) : Int) := by omega
        rw [e2] at r14
        exact r14
end Go.Proofs.Ytjpmjhnjdnbopaa
