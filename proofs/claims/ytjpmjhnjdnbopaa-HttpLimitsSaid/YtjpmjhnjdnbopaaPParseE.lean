/- The program's reader: a whole request; Parse. -/
import Derived.Test.YtjpmjhnjdnbopaaPParseD
namespace Go.Proofs.Ytjpmjhnjdnbopaa
open Go D
set_option linter.unusedVariables false
set_option linter.unusedSimpArgs false

/-- a request as a row of cells -/
def qRow (m t : ByteArray) (a b : Sl) : List Value := [.string m, .string t, .slice a.a a.len a.cap, .slice b.a b.len b.cap]
abbrev QT := ByteArray × ByteArray × Sl × Sl

def retQ (q : Nat) (ok : Bool) (R : QT × Bool → Heap → Prop) (h6 : Heap) : Prop :=
  ldS ⟨q, 0, none⟩ h6 fun s7 =>
  ldS ⟨q, 0 + 1, none⟩ h6 fun s8 =>
  ldL ⟨q, 0 + 2, none⟩ h6 fun o9 l9 c9 =>
  ldL ⟨q, 0 + 3, none⟩ h6 fun o10 l10 c10 =>
  stC ⟨q, 0, none⟩ (.string s7) h6 fun h11 =>
  stC ⟨q, 0 + 1, none⟩ (.string s8) h11 fun h12 =>
  stC ⟨q, 0 + 2, none⟩ (.slice o9 l9 c9) h12 fun h13 =>
  stC ⟨q, 0 + 3, none⟩ (.slice o10 l10 c10) h13 fun h14 =>
  ldS ⟨q, 0, none⟩ h14 fun s15 =>
  ldS ⟨q, 0 + 1, none⟩ h14 fun s16 =>
  ldL ⟨q, 0 + 2, none⟩ h14 fun o17 l17 c17 =>
  ldL ⟨q, 0 + 3, none⟩ h14 fun o18 l18 c18 =>
  R ((s15, s16, (⟨o17, l17, c17⟩ : Sl), (⟨o18, l18, c18⟩ : Sl)), ok) h14

theorem retQ_spec {h : Heap} {q : Nat} {m t : ByteArray} {a b : Sl} {ok : Bool} {R : QT × Bool → Heap → Prop} (r : Row h q (qRow m t a b)) (hk : ∀ h', Keep (· = q) h h' → R ((m, t, a, b), ok) h') : retQ q ok R h := by
  unfold retQ
  unfold qRow at r
  refine ldS_row (o := 0) r rfl (ldS_row (o := 0 + 1) r rfl (ldL_row (o := 0 + 2) r rfl (ldL_row (o := 0 + 3) r rfl ?_)))
  refine stC_row r (by simp) rfl ?_
  intro h1 s1 r1 k1
  refine stC_row r1 (by simp) rfl ?_
  intro h2 s2 r2 k2
  refine stC_row r2 (by simp) rfl ?_
  intro h3 s3 r3 k3
  refine stC_row r3 (by simp) rfl ?_
  intro h4 s4 r4 k4
  refine ldS_row (o := 0) r4 rfl (ldS_row (o := 0 + 1) r4 rfl (ldL_row (o := 0 + 2) r4 rfl (ldL_row (o := 0 + 3) r4 rfl ?_)))
  exact hk h4 (((k1.trans' k2).trans' k3).trans' k4)

theorem Small.of {hs : List HP} {k n k' hd : Nat} {rest : List UInt8} (h : headersF k rest hd = .ok (hs, n, k')) (hk : k ≤ 100) : Small hs := by
  obtain ⟨h1, h2, h4, h3⟩ := headersF_small h
  exact ⟨by omega, fun p hp => by have := h3 p hp; omega⟩

theorem intF_nn : ∀ (s : List UInt8), 0 ≤ (intF s).1 := by
  have key : ∀ (s : List UInt8) (acc : Nat), 0 ≤ (decL acc s).1 := by
    intro s
    induction s with
    | nil => intro acc; simp [decL]
    | cons b r ih =>
      intro acc
      unfold decL
      split
      · simp
      · exact ih _
  intro s
  unfold intF
  split
  · simp
  · exact key s 0
theorem checkF_le {hs : List HP} (h : (checkF hs).2 = 0) : (checkF hs).1 ≤ 1048576 ∧ ((checkF hs).1 < 0 → (checkF hs).1 = -1) := by
  have hx : ∀ te (n : Int), 0 ≤ n → n ≤ 1048576 → (expF hs te n).1 ≤ 1048576 ∧ ((expF hs te n).1 < 0 → (expF hs te n).1 = -1) := by
    intro te n h0 h1
    unfold expF
    split
    · split
      · simp
      · split <;> simp <;> omega
    · split <;> simp <;> omega
  unfold checkF at h ⊢
  unfold fitF at h ⊢
  split
  · simp
  · split
    · simp
    · split
      · exact hx _ 0 (by omega) (by omega)
      · split
        · simp
        · split
          · simp
          · exact hx _ _ (intF_nn _) (by omega)

theorem reqF_begin {s : List UInt8} {e : Int} (h : beginF s = .error e) : requestF s = .error e := by unfold requestF; rw [h]
theorem reqF_head {s m t : List UInt8} {n : Nat} {e : Int} (h : beginF s = .ok (m, t, n)) (h2 : headersF 100 (s.drop n) n = .error e) : requestF s = .error e := by
  unfold requestF; rw [h]; simp only [h2]
theorem reqF_check {s m t : List UInt8} {n c k : Nat} {hs : List HP} (h : beginF s = .ok (m, t, n)) (h2 : headersF 100 (s.drop n) n = .ok (hs, c, k)) (h3 : (checkF hs).2 ≠ 0) : requestF s = .error (checkF hs).2 := by
  unfold requestF; rw [h]; simp only [h2]; rw [if_pos h3]
theorem reqF_pieces {s m t : List UInt8} {n c k : Nat} {hs : List HP} (h : beginF s = .ok (m, t, n)) (h2 : headersF 100 (s.drop n) n = .ok (hs, c, k)) (h3 : (checkF hs).2 = 0) (h4 : (checkF hs).1 < 0) : requestF s = match piecesF (s.drop (n + c)) [] (n + c) k with
        | .error e => .error e
        | .ok (b, d) => .ok (⟨m, t, hs, b⟩, n + c + d) := by
  unfold requestF; rw [h]; simp only [h2]; rw [if_neg (by simp [h3]), if_pos h4]
  rfl
theorem reqF_short {s m t : List UInt8} {n c k : Nat} {hs : List HP} (h : beginF s = .ok (m, t, n)) (h2 : headersF 100 (s.drop n) n = .ok (hs, c, k)) (h3 : (checkF hs).2 = 0) (h4 : ¬ (checkF hs).1 < 0) (h5 : s.length - (n + c) < (checkF hs).1.toNat) : requestF s = .error 0 := by
  unfold requestF; rw [h]; simp only [h2]; rw [if_neg (by simp [h3]), if_neg h4, if_pos h5]
theorem reqF_ok {s m t : List UInt8} {n c k : Nat} {hs : List HP} (h : beginF s = .ok (m, t, n)) (h2 : headersF 100 (s.drop n) n = .ok (hs, c, k)) (h3 : (checkF hs).2 = 0) (h4 : ¬ (checkF hs).1 < 0) (h5 : ¬ s.length - (n + c) < (checkF hs).1.toNat) : requestF s = .ok (⟨m, t, hs, (s.drop (n + c)).take (checkF hs).1.toNat⟩, n + c + (checkF hs).1.toNat) := by
  unfold requestF; rw [h]; simp only [h2]; rw [if_neg (by simp [h3]), if_neg h4, if_neg h5]
theorem beginF_le {s m t : List UInt8} {n : Nat} (h : beginF s = .ok (m, t, n)) : n ≤ s.length ∧ n ≤ 8194 := by
  unfold beginF at h
  split at h
  · cases h
  · rename_i l n' hL
    obtain ⟨i, _, _, h3, h4, _, h6⟩ := lineF_ok hL
    split at h
    · split at h
      · injection h with h
        injection h with _ h
        injection h with _ h
        omega
      · cases h
    · cases h

theorem request_spec {h : Heap} {p : Nat} {s : ByteArray} (r : Row h p (rdRow s 0 0 0 0)) (hg : MaxG h) (hp : p ≠ 0) (hs : s.size ≤ 1000000000) {R : QT × Bool → Heap → Prop}
    (hok : ∀ rq n a b h', requestF (bl s) = .ok (rq, n) → Small rq.hs → Own h h' 2 a (hdV rq.hs) → Own h h' 1 b (rq.body.map byteV) → (∀ x, blk a.a x → ¬ blk b.a x) → (∃ l c : Nat, Row h' p (rdRow s n l c 0)) → Keep (· = p) h h' → R ((ofL rq.m, ofL rq.t, a, b), true) h')
    (hno : ∀ q f h', requestF (bl s) = .error f → Stop h' p s f → Keep (· = p) h h' → R (q, false) h') :
    CallT Try.prog http_reader_request_no [.pointer (some ⟨p, 0, none⟩)] h [.agg [.str, .str, .sl, .sl], .sc .bool] R := by
  apply http_reader_request_call
  simp only [http_reader_request, nn_eq, add_mk]
  have hplt := r.lt
  have hl := bl_len s
  refine newB_row ?_
  intro h1 s1 r1 k1
  simp only [add_mk]
  have rp1 := k1.row r (fun h => h)
  have fin : ∀ (q : QT) f h', requestF (bl s) = .error f → Stop h' p s f → Keep (· = p) h h' → Row h' h.size (qRow q.1 q.2.1 q.2.2.1 q.2.2.2) → retQ h.size false R h' := fun q f h' e st k row => retQ_spec row (fun h2 k2 => by
    obtain ⟨a, b, c, rw⟩ := st
    exact hno _ f h2 e ⟨a, b, c, k2.row rw (by omega)⟩ (k.trans k2 (fun x hx e => by have e' : x = h.size := e; omega)))
  refine begin_spec rp1 (hg.nw k1) hp hs (by omega) ?_ ?_
  rotate_left
  · intro m t f h2 e st k2
    rw [List.drop_zero] at e
    have r2 := k2.row r1 (by omega)
    refine stC_row r2 (by simp) rfl ?_
    intro h3 s3 r3 k3
    refine stC_row r3 (by simp) rfl ?_
    intro h4 s4 r4 k4
    have st4 : Stop h4 p s f := by
      obtain ⟨a, b, c, rw⟩ := st
      exact ⟨a, b, c, k4.row (k3.row rw (by omega)) (by omega)⟩
    have K4 : Keep (· = p) h h4 := (((k1.mono (fun _ _ h => h.elim)).trans' k2).trans k3 (fun x hx e => by have e' : x = h.size := e; omega)).trans k4 (fun x hx e => by have e' : x = h.size := e; omega)
    exact cnd_t rfl (fin (m, t, ⟨none, 0, 0⟩, ⟨none, 0, 0⟩) f h4 (reqF_begin e) st4 K4 r4)
  intro m t n h2 eB rp2 k2
  rw [List.drop_zero] at eB
  obtain ⟨nle, n8⟩ := beginF_le eB
  have r2 := k2.row r1 (by omega)
  refine stC_row r2 (by simp) rfl ?_
  intro h3 s3 r3 k3
  refine stC_row r3 (by simp) rfl ?_
  intro h4 s4 r4 k4
  have rp4 : Row h4 p (rdRow s n 0 0 0) := by
    have := k4.row (k3.row rp2 (by omega)) (by omega)
    rw [Nat.zero_add] at this
    exact this
  have K4 : Keep (· = p) h h4 := (((k1.mono (fun _ _ h => h.elim)).trans' k2).trans k3 (fun x hx e => by have e' : x = h.size := e; omega)).trans k4 (fun x hx e => by have e' : x = h.size := e; omega)
  have z4 : h.size < h4.size := r4.lt
  refine cnd_f rfl ?_
  have qK : ∀ {h' : Heap} {v : List Value} {a : Heap}, Row a h.size v → Keep (· = p) a h' → Row h' h.size v := fun hr hk => hk.row hr (by omega)
  refine headers_spec rp4 (hg.kp hp K4) hp hs (by omega) (by omega) (by omega) ?_ ?_
  rotate_left
  · intro f h5 e st k5
    have r5 := qK r4 k5
    refine stC_row r5 (by simp) rfl ?_
    intro h6 s6 r6 k6
    have st6 : Stop h6 p s f := by
      obtain ⟨a, b, c, rw⟩ := st
      exact ⟨a, b, c, k6.row rw (by omega)⟩
    exact cnd_t rfl (fin (ofL m, ofL t, ⟨none, 0, 0⟩, ⟨none, 0, 0⟩) f h6 (reqF_head eB e) st6 ((K4.trans' k5).trans k6 (fun x hx e => by have e' : x = h.size := e; omega)) r6)
  intro o hs' c k h5 eH own5 rp5 k5
  rw [Nat.sub_zero] at eH
  have hsm : Small hs' := Small.of eH (by omega)
  obtain ⟨hk1, hcl, _, _⟩ := headersF_small eH
  rw [List.length_drop] at hcl
  have r5 := qK r4 k5
  refine stC_row r5 (by simp) rfl ?_
  intro h6 s6 r6 k6
  replace r6 : Row h6 h.size (qRow (ofL m) (ofL t) o ⟨none, 0, 0⟩) := r6
  have rp6 := k6.row rp5 (by omega)
  have K6 : Keep (· = p) h h6 := (K4.trans' k5).trans k6 (fun x hx e => by have e' : x = h.size := e; omega)
  have own6 : Own h4 h6 2 o (hdV hs') := own5.keep k6 (fun b hb e => by have := own5.fresh b hb; have e' : b = h.size := e; omega)
  refine cnd_f rfl ?_
  have r6' := r6
  unfold qRow at r6'
  refine ldL_row (o := 0 + 2) r6' rfl ?_
  refine checkH_spec (SlR.hds own6.sl) hsm ?_
  intro h7 k7
  have r7 := k7.row r6 (fun h => h)
  have rp7 := k7.row rp6 (fun h => h)
  have K7 := keepP K6 k7
  have own7 := own6.nw k7
  have rp7' := rp7
  unfold rdRow at rp7'
  have r7' := r7
  unfold qRow at r7'
  have hle := @checkF_le hs'
  generalize hck : checkF hs' = ck at *
  obtain ⟨many, e⟩ := ck
  simp only at hle
  refine cnd_of (fun he => ?_) (fun he => ?_)
  · have he' : e ≠ 0 := by simpa using he
    have eq := reqF_check eB eH (by rw [hck]; exact he')
    rw [hck] at eq
    refine stC_row rp7' (by simp) rfl ?_
    intro h8 s8 r8 k8
    exact fin (ofL m, ofL t, o, ⟨none, 0, 0⟩) e h8 eq ⟨_, _, _, r8⟩ (K7.trans' k8) (k8.row r7 (by omega))
  have he' : e = 0 := by simpa using he
  subst he'
  obtain ⟨hle1, hle2⟩ := hle rfl
  have hm4 : ∀ {b x : Nat}, h4.size ≤ b → h.size ≤ b := fun h => by omega
  have fresh4 : Own h h7 2 o (hdV hs') := own7.up (by omega)
  refine cnd_dec (fun hneg => ?_) (fun hpos => ?_)
  · replace hneg : many < 0 := hneg
    have eq := reqF_pieces eB eH (by rw [hck]) (by rw [hck]; exact hneg)
    refine pieces_spec rp7 ((hg.kp hp K7)) hp hs (by omega) (by omega) (by omega) ?_ ?_
    · intro o2 b d h8 eP own8 rp8 k8
      have ek : 100 - (100 - k) = k := by omega
      rw [Nat.sub_zero, ek] at eP
      rw [eP] at eq
      replace eq : requestF (bl s) = .ok (⟨m, t, hs', b⟩, n + c + d) := eq
      have r8 := qK r7 k8
      unfold qRow at r8
      refine stC_row r8 (by simp) rfl ?_
      intro h9 s9 r9 k9
      replace r9 : Row h9 h.size (qRow (ofL m) (ofL t) o o2) := r9
      refine retQ_spec r9 ?_
      intro h10 k10
      have K9 := k9.trans' k10
      have w8 : Own h h8 2 o (hdV hs') := fresh4.keep k8 (fun b hb e => by have := own7.fresh b hb; have e' : b = p := e; omega)
      have z7 := K7.size
      refine hok _ _ o o2 h10 eq hsm (w8.keep K9 (fun b hb e => by have := own7.fresh b hb; have e' : b = h.size := e; omega)) ((own8.keep K9 (fun b hb e => by have := own8.fresh b hb; have := r7.lt; have e' : b = h.size := e; omega)).up (by omega)) (fun x hx hx2 => by have := own7.lt hx; have := own8.fresh x hx2; omega) ?_ ((K7.trans' k8).trans K9 (fun x hx e => by have e' : x = h.size := e; omega))
      obtain ⟨l', c', rp8'⟩ := rp8
      exact ⟨l', c', K9.row rp8' (by omega)⟩
    · intro o2 f h8 eP st k8
      have ek : 100 - (100 - k) = k := by omega
      rw [Nat.sub_zero, ek] at eP
      rw [eP] at eq
      replace eq : requestF (bl s) = .error f := eq
      have r8 := qK r7 k8
      unfold qRow at r8
      refine stC_row r8 (by simp) rfl ?_
      intro h9 s9 r9 k9
      have st9 : Stop h9 p s f := by
        obtain ⟨a, b, c, rw⟩ := st
        exact ⟨a, b, c, k9.row rw (by omega)⟩
      exact fin (ofL m, ofL t, o, o2) f h9 eq st9 ((K7.trans' k8).trans k9 (fun x hx e => by have e' : x = h.size := e; omega)) r9
  · replace hpos : ¬ many < 0 := hpos
    obtain ⟨w, rfl⟩ : ∃ w : Nat, many = (w : Int) := ⟨many.toNat, by omega⟩
    refine ldS_row (o := 0) rp7' rfl (ldI_row (o := 0 + 1) rp7' rfl ?_)
    rw [w64_id (x := (s.size : Int) - ((n + c : Nat) : Int)) (by omega) (by omega)]
    refine cnd_dec (fun hlt => ?_) (fun hge => ?_)
    · replace hlt : (s.size : Int) - ((n + c : Nat) : Int) < (w : Int) := hlt
      have eq := reqF_short eB eH (by rw [hck]) (by rw [hck]; exact hpos) (by rw [hck]; show _ < ((w : Int)).toNat; omega)
      exact fin (ofL m, ofL t, o, ⟨none, 0, 0⟩) 0 h7 eq ⟨_, _, _, rp7⟩ K7 r7
    · replace hge : ¬ (s.size : Int) - ((n + c : Nat) : Int) < (w : Int) := hge
      have eq := reqF_ok eB eH (by rw [hck]) (by rw [hck]; exact hpos) (by rw [hck]; show ¬ _ < ((w : Int)).toNat; omega)
      rw [hck] at eq
      replace eq : requestF (bl s) = .ok (⟨m, t, hs', ((bl s).drop (n + c)).take w⟩, n + c + w) := eq
      refine ldS_row (o := 0) rp7' rfl (ldI_row (o := 0 + 1) rp7' rfl (ldI_row (o := 0 + 1) rp7' rfl ?_))
      show ssl s ((n + c : Nat) : Int) (w64 (((n + c : Nat) : Int) + (w : Int))) _
      rw [w64_id (x := ((n + c : Nat) : Int) + (w : Int)) (by omega) (by omega)]
      refine ssl_bl (by omega) (by omega) (by omega) ?_
      have e1 : ((bl s).drop ((n + c : Nat) : Int).toNat).take ((((n + c : Nat) : Int) + (w : Int)).toNat - ((n + c : Nat) : Int).toNat) = ((bl s).drop (n + c)).take w := by
        rw [show (((n + c : Nat) : Int) + (w : Int)).toNat - ((n + c : Nat) : Int).toNat = w by omega]
        rfl
      rw [e1]
      have eb := ofL_size (((bl s).drop (n + c)).take w)
      have eb2 : (((bl s).drop (n + c)).take w).length ≤ w := by rw [List.length_take]; omega
      refine s2b_row (by omega) ?_
      intro cap h8 b8 k8 z8
      have r8 := k8.row r7 (fun h => h)
      have rp8 := k8.row rp7 (fun h => h)
      unfold qRow at r8
      refine stC_row r8 (by simp) rfl ?_
      intro h9 s9 r9 k9
      replace r9 : Row h9 h.size (qRow (ofL m) (ofL t) o ⟨some ⟨h7.size, 0, none⟩, (ofL (((bl s).drop (n + c)).take w)).size, cap⟩) := r9
      have rp9 := k9.row rp8 (by omega)
      unfold rdRow at rp9
      refine ldI_row (o := 0 + 1) rp9 rfl ?_
      show stC _ (.int .i64 (w64 (((n + c : Nat) : Int) + (w : Int)))) _ _
      rw [w64_id (x := ((n + c : Nat) : Int) + (w : Int)) (by omega) (by omega)]
      refine stC_row rp9 (by simp) rfl ?_
      intro h10 s10 r10 k10
      refine retQ_spec (qK r9 k10) ?_
      intro h11 k11
      have own8 : Own h7 h8 1 ⟨some ⟨h7.size, 0, none⟩, (ofL (((bl s).drop (n + c)).take w)).size, cap⟩ ((((bl s).drop (n + c)).take w).map byteV) := ⟨by have := b8; unfold Bs at this; rw [ofL_bytes] at this; exact this, fun b hb => by rw [blk_some] at hb; simp only at hb; omega⟩
      have K811 : Keep (fun x => x = h.size ∨ x = p) h8 h11 := ((k9.mono (fun x _ e => .inl e)).trans k10 (fun x _ e => .inr e)).trans k11 (fun x _ e => .inl e)
      have z7 := K7.size
      have zl := r7.lt
      refine hok _ _ o _ h11 eq hsm ((fresh4.nw k8).keep K811 (fun b hb e => by have := own7.fresh b hb; rcases e with e | e <;> omega)) ((own8.keep K811 (fun b hb e => by have := own8.fresh b hb; rcases e with e | e <;> omega)).up (by omega)) (fun x hx hx2 => by have := own7.lt hx; have := own8.fresh x hx2; omega) ⟨100 - k, 0, k11.row ?_ (by omega)⟩ ((keepP K7 k8).trans K811 (fun x hx e => by rcases e with e | e <;> omega))
      have e2 : (((n + c : Nat) : Int) + (w : Int)) = ((n + c + w : Nat) : Int) := by omega
      rw [e2] at r10
      exact r10
end Go.Proofs.Ytjpmjhnjdnbopaa
