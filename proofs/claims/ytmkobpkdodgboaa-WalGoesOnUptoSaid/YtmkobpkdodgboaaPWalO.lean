/- WalGoesOn. -/
import Derived.Test.YtmkobpkdodgboaaPWalN
namespace Go.Proofs.Ytmkobpkdodgboaa
open Go D
set_option linter.unusedVariables false
set_option linter.unusedSimpArgs false
namespace Wal
open Disk Enc Hash Snap

theorem walGoesOn_spec {h : Heap} {x0 x1 x2 : Sl} (hs : FramesAt h x0.a x0.len) (hfu : IntsAt h x1.a x1.len) (hb : BoolsAt h x2.a x2.len) {R : Bool → Heap → Prop} (hR : ∀ h', Keep (fun _ => False) h h' → R true h') :
    CallT Try.prog law6_WalGoesOn_no [.slice x0.a x0.len x0.cap, .slice x1.a x1.len x1.cap, .slice x2.a x2.len x2.cap] h [.sc .bool] R := by
  apply law6_WalGoesOn_call
  simp only [law6_WalGoesOn]
  refine new_spec (by unfold InI; omega) (fun hb => by omega) ?_
  intro _ _ p mu0 im0 h1' hnew hr hk1
  obtain ⟨m0, hm0⟩ : ∃ m0 : M, m0 = ⟨List.replicate (48 : Int).toNat (noughts 256), [], 0, 0⟩ := ⟨_, rfl⟩
  rw [← hm0] at hr
  have hblank : ∀ i, readAt m0 i = noughts 256 := by rw [hm0]; exact blank_read (k := 48) rfl rfl
  have hl0 : m0.l.length = 48 := by rw [hm0]; simp
  have hc0 : m0.c = [] := by rw [hm0]
  have hst0 : m0.st = 0 := by rw [hm0]
  have H0 : Holds m0 4 40 1 (lg0 4 40 1) [] := blank_holds hblank hc0 (by omega) (by omega)
  have ds : DSt h h1' p m0 (fun _ => False) ⟨none, 0, 0⟩ [] := ⟨mu0, im0, [], hr, fun y hy => ⟨hnew y hy, fun h => h⟩, SlR.nil _ _, FsB.nil _ _, (fun b hb => by obtain ⟨x, hx, _⟩ := hb; cases hx), hk1.mono (fun _ _ h => h.elim), fun f hf => by cases hf⟩
  refine cnd_f rfl ?_
  refine LoopT.intro (fun (t : Sl × Int) h' => 0 ≤ t.2 ∧ t.2 ≤ 12 ∧ ∃ (m : M) (L : Lg) (fs : List (List ByteArray)), DSt h h' p m (fun _ => False) t.1 fs ∧ Holds m 4 40 1 L fs ∧ m.st = 0 ∧ m.l.length = 48 ∧ (fs.length : Int) ≤ t.2) (fun t _ => (12 - t.2).toNat)
    ⟨by simp, by simp, m0, _, [], ds, H0, hst0, hl0, by simp⟩ ?_
  rintro ⟨d, i⟩ h3 ⟨g0, g1, m, L, fs, ds3, H, hst, hl, hfl⟩
  replace g0 : 0 ≤ i := g0
  replace g1 : i ≤ 12 := g1
  replace hfl : (fs.length : Int) ≤ i := hfl
  obtain ⟨f1, f2, f3, f4, f5, f6, f7⟩ := H.facts
  refine withJ.inl ?_
  refine cnd_dec (fun hi => ?_) (fun hi => awake_spec fun h7 k7 => hR h7 (ds3.out.trans' k7))
  replace hi : i < x0.len := hi
  refine cnd_dec (fun hi12 => ?_) (fun hi => awake_spec fun h7 k7 => hR h7 (ds3.out.trans' k7))
  replace hi12 : i < 12 := hi12
  refine withJ.inl ?_
  have hq3 : ∀ f ∈ fs, f.length ≤ 1048576 := by obtain ⟨_, _, _, _, _, _, _, _, _, q3⟩ := ds3; exact q3
  refine DSt.open (e := 1) ds3 (by rw [H.c]; simp) (by rw [hl]; unfold okR; omega) (by omega) ?_
  intro q s4 h4 hq o4 fs4 k4
  rw [H.open] at o4 fs4
  replace o4 : Row h4 q (LRow p L) := o4
  replace fs4 : Fs h4 (fun b => q < b) s4.a s4.len fs := fs4
  have hz3 := ds3.kp.size
  have hqh : h.size ≤ q := by omega
  have ds4 := ds3.swap (Q' := (· = q)) k4 (fun b hb => by have hb' : b = q := hb; omega)
  have hdl : d.len = fs.length := ds4.size
  refine withJ.inl (withJ.inl (cnd_f rfl (cnd_f rfl ?_)))
  refine DSt.frames ds4 fs4 hq3 (by omega) ?_
  rw [decide_eq_true rfl]
  refine cnd_f rfl ?_
  refine next_spec o4 ?_
  have enx : w64 (L.nx : Int) = L.nx := w64_id (by omega) (by omega)
  rw [enx]
  refine cnd_f (by simp; show (L.nx : Int) = (d.len : Int); omega) ?_
  have hw : w64 (i + 1) = i + 1 := w64_id (by omega) (by omega)
  have hql4 := o4.lt
  have hx0 : ∃ x, x0.a = some x := by
    obtain ⟨x, _, _, _, e, _⟩ := hs i.toNat (by omega)
    exact ⟨x, e⟩
  -- behind the Append
  have tail : ∀ {m' : M} {rs : List ByteArray} {r22 : Int} {h5 : Heap}, rs = frOf h x0.a i.toNat → DSt h h5 p m' (fun _ => False) d fs → m'.l.length = 48 → m'.c.length ≤ 20000 →
      (∀ ks, ∃ g, (g = fs ∨ g = fs ++ [rs]) ∧ (r22 = 0 → g = fs ++ [rs]) ∧ (r22 = 60 → g = fs) ∧ ∃ L, Holds (crash m' ks) 4 40 1 L g) →
      CallT Try.prog disk_Dev_Crash_no [.pointer (some ⟨p, 0, none⟩), .slice x2.a x2.len x2.cap] h5 [] fun (r24 : Unit) h25 =>
      CallT Try.prog wal_Open_no [.pointer (some ⟨p, 0, none⟩), .int .i64 4, .int .i64 40, .int .u64 1] h25 [.sc (.ptr), .sc (.sl), .sc (.int .i64)] fun (r26 : (Option Addr) × Sl × Int) h27 =>
      withJ (σ := Unit) (fun s28 h30 =>
      withJ (σ := Sl) (fun s31 h33 =>
      CallT Try.prog law6_frames_no [.slice r26.2.1.a r26.2.1.len r26.2.1.cap, .slice s31.a s31.len s31.cap] h33 [.sc (.bool)] fun (r34 : Bool) h35 =>
      cnd (!r34) (R false h35) ((0 ≤ w64 (i + 1) ∧ w64 (i + 1) ≤ 12 ∧ ∃ (m : M) (L : Lg) (fs : List (List ByteArray)), DSt h h35 p m (fun _ => False) s31 fs ∧ Holds m 4 40 1 L fs ∧ m.st = 0 ∧ m.l.length = 48 ∧ (fs.length : Int) ≤ w64 (i + 1)) ∧ (12 - w64 (i + 1)).toNat < (12 - i).toNat)) (fun J32 =>
      cnd (decide ((r26.2.1.len : Int) > (d.len : Int))) (
      idx x0.a x0.len i fun a36 =>
      ldL (a36.add (i.toNat * 1)) h30 fun o37 l37 c37 =>
      newB [.slice o37 l37 c37] 50 h30 fun a38 h39 =>
      ldRow (1 * 1) a38 h39 fun cs43 =>
      app [.slice none 0 0] 50 1 24 d.a d.len d.cap cs43 1 h39 fun o40 c41 h42 =>
      J32 (⟨o40, (d.len + 1), c41⟩ : Sl) h42) (
      J32 d h30))) (fun J29 =>
      withJ (σ := Bool) (fun s44 h46 => cnd s44 (R false h46) (J29 () h46)) (fun J45 =>
      cnd (r26.2.2 != 0) (J45 true h27) (
      cnd (decide ((r26.2.1.len : Int) < (d.len : Int))) (J45 true h27) (
      cnd (decide ((r26.2.1.len : Int) > (w64 ((d.len : Int) + 1)))) (J45 true h27) (
      cnd (r22 == 0) (
      cnd ((r26.2.1.len : Int) == (d.len : Int)) (J45 true h27) (
      cnd (r22 == 60) (J45 (decide ((r26.2.1.len : Int) > (d.len : Int))) h27) (J45 false h27))) (
      cnd (r22 == 60) (J45 (decide ((r26.2.1.len : Int) > (d.len : Int))) h27) (J45 false h27))))))) := by
    intro m' rs r22 h5 hrs ds5 hl' hcl hH
    have bis := (BoolsAt.is hb).keep ds5.kp (fun hl y hy hh => by
      have := BoolsAt.lt hb hl hy
      have hh' : h.size ≤ y := hh
      omega)
    obtain ⟨g, hg, hg0, hg60, L', HL⟩ := hH (boolsOf h x2.a x2.len)
    obtain ⟨mu, im, vs, r5, q1, sl5, fb5, q2, k5, q3⟩ := ds5
    refine crash_spec r5 (by omega) bis (fun h0' b hb' hm => by have := BoolsAt.lt hb h0' hb'; have := (q1 b (.inl hm)).1; omega) ?_
    intro h6 r6 k6
    have ds6 : DSt h h6 p (crash m' (boolsOf h x2.a x2.len)) (fun _ => False) d fs := DSt.go q1 sl5 fb5 q2 k5 q3 (fun b hb => hb.elim) (fun b hb => .inl hb) r6 k6 (.same _ _ _)
    have hlc : (crash m' (boolsOf h x2.a x2.len)).l.length = 48 := by rw [(crash_len _ _).1]; exact hl'
    have hcc : (crash m' (boolsOf h x2.a x2.len)).c.length ≤ 1000000 := by show [].length ≤ _; simp
    refine DSt.open (e := 1) ds6 hcc (by rw [hlc]; unfold okR; omega) (by show (0 : Int) ≠ 2; decide) ?_
    intro qa sa ha hqa oa fa ka
    rw [HL.open] at fa
    replace fa : Fs ha (fun b => qa < b) sa.a sa.len g := fa
    have dsa := ds6.keep ka
    have hsa := fa.len
    have hw1 : w64 ((d.len : Int) + 1) = d.len + 1 := w64_id (by omega) (by omega)
    have hgl : g.length = fs.length ∨ g.length = fs.length + 1 := by
      rcases hg with e | e <;> rw [e]
      · exact .inl rfl
      · right; rw [List.length_append]; rfl
    have hlr : rs.length ≤ 1048576 := by
      obtain ⟨x, a', l', c', _, _, ht, _, hl'⟩ := hs i.toNat (by omega)
      rw [hrs]
      have := ht.len
      omega
    have hgall : ∀ f ∈ g, f.length ≤ 1048576 := by
      rcases hg with e | e <;> rw [e]
      · exact hq3
      · intro f hh
        rcases List.mem_append.1 hh with hh | hh
        · exact hq3 f hh
        · simp only [List.mem_singleton] at hh
          subst hh
          exact hlr
    -- what comes once all is well
    have good : withJ (σ := Sl) (fun s31 h33 =>
      CallT Try.prog law6_frames_no [.slice sa.a sa.len sa.cap, .slice s31.a s31.len s31.cap] h33 [.sc (.bool)] fun (r34 : Bool) h35 =>
      cnd (!r34) (R false h35) ((0 ≤ w64 (i + 1) ∧ w64 (i + 1) ≤ 12 ∧ ∃ (m : M) (L : Lg) (fs : List (List ByteArray)), DSt h h35 p m (fun _ => False) s31 fs ∧ Holds m 4 40 1 L fs ∧ m.st = 0 ∧ m.l.length = 48 ∧ (fs.length : Int) ≤ w64 (i + 1)) ∧ (12 - w64 (i + 1)).toNat < (12 - i).toNat)) (fun J32 =>
      cnd (decide ((sa.len : Int) > (d.len : Int))) (
      idx x0.a x0.len i fun a36 =>
      ldL (a36.add (i.toNat * 1)) ha fun o37 l37 c37 =>
      newB [.slice o37 l37 c37] 50 ha fun a38 h39 =>
      ldRow (1 * 1) a38 h39 fun cs43 =>
      app [.slice none 0 0] 50 1 24 d.a d.len d.cap cs43 1 h39 fun o40 c41 h42 =>
      J32 (⟨o40, (d.len + 1), c41⟩ : Sl) h42) (
      J32 d ha)) := by
      refine withJ.inl ?_
      refine cnd_dec (fun hgt => ?_) (fun hle => ?_)
      · have e : g = fs ++ [rs] := by
          rcases hg with e | e
          · rw [e] at hsa; omega
          · exact e
        refine hs.get dsa.kp g0 hi ?_
        intro a' l' c' ht hpb hl''
        rw [← hrs] at ht
        refine DSt.push dsa (fun b hb => hb.elim) ht hl'' (by omega) ?_
        intro o c h7 ds7 _ kp7
        have fa7 : Fs h7 (fun b => qa < b) sa.a sa.len g := fa.keep kp7 (fun b _ hb hh => by
          have := sl5.blk_lt hh
          have := k6.size
          have hb' : qa < b := hb
          omega)
        refine DSt.frames ds7 fa7 hgall (by omega) ?_
        rw [decide_eq_true e]
        refine cnd_f rfl ?_
        rw [hw]
        exact ⟨⟨by omega, by omega, _, L', _, ds7, by rw [← e]; exact HL, rfl, hlc, by rw [List.length_append]; simp; omega⟩, by omega⟩
      · have e : g = fs := by
          rcases hg with e | e
          · exact e
          · rw [e, List.length_append] at hsa; simp only [List.length_singleton] at hsa; omega
        refine DSt.frames dsa fa hgall (by omega) ?_
        rw [decide_eq_true e]
        refine cnd_f rfl ?_
        rw [hw]
        exact ⟨⟨by omega, by omega, _, L', _, dsa, by rw [← e]; exact HL, rfl, hlc, by omega⟩, by omega⟩
    refine withJ.inl (withJ.inl (cnd_f rfl ?_))
    show cnd (decide ((sa.len : Int) < (d.len : Int))) _ (cnd (decide ((sa.len : Int) > w64 ((d.len : Int) + 1))) _ _)
    rw [hw1]
    refine cnd_neg (by omega) (cnd_neg (by omega) ?_)
    refine cnd_of (fun hz => ?_) (fun hnz => ?_)
    · have hz' : r22 = 0 := by simpa using hz
      have e := hg0 hz'
      have el : sa.len = d.len + 1 := by rw [hsa, e, List.length_append, hdl]; rfl
      refine cnd_f (by simp; show ¬ (sa.len : Int) = (d.len : Int); omega) (cnd_f (by rw [hz']; rfl) (cnd_f rfl good))
    · refine cnd_of (fun h6 => ?_) (fun _ => cnd_f rfl good)
      have h60 : r22 = 60 := by simpa using h6
      have e := hg60 h60
      have el : sa.len = d.len := by rw [hsa, e, hdl]
      exact cnd_f (by simp; show sa.len ≤ d.len; omega) good
  -- the Append
  have app : ∀ {m' : M} {h5 : Heap}, DSt h h5 p m' (· = q) d fs → Row h5 q (LRow p L) → Holds m' 4 40 1 L fs → m'.l.length = 48 → ∀ {K : Int → Heap → Prop}, (∀ rs r22 h6 m6, rs = frOf h x0.a i.toNat → DSt h h6 p m6 (fun _ => False) d fs → m6.l.length = 48 → m6.c.length ≤ 20000 →
      (∀ ks, ∃ g, (g = fs ∨ g = fs ++ [rs]) ∧ (r22 = 0 → g = fs ++ [rs]) ∧ (r22 = 60 → g = fs) ∧ ∃ L, Holds (crash m6 ks) 4 40 1 L g) → K r22 h6) →
      idx x0.a x0.len i fun a20 => ldL (a20.add (i.toNat * 1)) h5 fun o21 l21 c21 => CallT Try.prog wal_Log_Append_no [.pointer (some ⟨q, 0, none⟩), .slice o21 l21 c21] h5 [.sc (.int .i64)] K := by
    intro m' h5 ds5 o5 H5 hl5 K hK
    refine hs.get ds5.kp g0 hi ?_
    intro a' l' c' ht hpb hl''
    generalize hrs : frOf h x0.a i.toNat = rs at ht hpb
    have al := app_len m' L rs (by omega)
    rw [H5.c] at al
    refine DSt.append ds5 o5 hqh (by rw [H5.c]; simp) (by omega) (by omega) (by omega) (by omega) (by omega) ht.1 hpb ?_
    intro h6 ds6 o6
    obtain ⟨p1, p2⟩ := append_holds H5 (by omega) rs
    have al2 : (appM m' L rs).2.1.c.length ≤ 20000 := by
      have := al.2
      simp only [List.length_nil] at this
      omega
    refine hK rs _ h6 _ hrs.symm (ds6.swap (.refl _ _) (Q' := fun _ => False) (fun b hb => hb.elim)) (by rw [al.1]; exact hl5) al2 (fun ks => ?_)
    by_cases hfit : L.pos + (secs (packL rs).length : Int) ≤ 40
    · obtain ⟨q1, q2, _, q4⟩ := p2 hfit
      by_cases hz : (appM m' L rs).1 = 0
      · obtain ⟨b1, b2, b3⟩ := q1 hz
        exact ⟨_, .inr rfl, fun _ => rfl, fun h => by omega, _, b2.calm ks⟩
      · rcases q2 hz ks with hh | hh
        · exact ⟨_, .inl rfl, fun h => absurd h hz, fun _ => rfl, _, hh⟩
        · exact ⟨_, .inr rfl, fun _ => rfl, fun h => by rcases q4 with e | e | e <;> omega, _, hh⟩
    · have ea := p1 (by omega)
      rw [ea]
      exact ⟨_, .inl rfl, (fun h => by cases h), fun _ => rfl, _, H5.calm ks⟩
  refine cnd_dec (fun hfi => ?_) (fun hfi => ?_)
  · replace hfi : i < x1.len := hfi
    refine IntsAt.ld hfu ds4.kp g0 hfi ?_
    intro z hzi
    refine DSt.fuse ds4 (fun b hb => by have hb' : b = q := hb; omega) hzi ?_
    intro h5 ds5 hrow5
    have fl := fuse_lc m z
    have H5 : Holds (Disk.fuse m z) 4 40 1 L fs := H.view (by rw [fl.2, H.c]) (by rw [fl.1]) (fun i _ _ _ => by rw [readAt_lk, readAt_lk, fl.1, fl.2])
    refine app ds5 (hrow5 q _ rfl o4) H5 (by rw [fl.1]; exact hl) ?_
    intro rs r22 h6 m6 w1 w2 w3 w4 w5
    exact tail w1 w2 w3 w4 w5
  · refine app ds4 o4 H hl ?_
    intro rs r22 h6 m6 w1 w2 w3 w4 w5
    exact tail w1 w2 w3 w4 w5

end Wal
end Go.Proofs.Ytmkobpkdodgboaa
