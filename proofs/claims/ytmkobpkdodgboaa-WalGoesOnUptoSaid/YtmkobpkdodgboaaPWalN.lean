/- WalLasts. -/
import Derived.Test.YtmkobpkdodgboaaPWalM
namespace Go.Proofs.Ytmkobpkdodgboaa
open Go D
set_option linter.unusedVariables false
set_option linter.unusedSimpArgs false
namespace Wal
open Disk Enc Hash Snap

theorem app_len (m : M) (L : Lg) (rs : List ByteArray) (h0 : 0 ≤ L.pos) : (appM m L rs).2.1.l.length = m.l.length ∧ ((appM m L rs).2.1.c.length : Int) ≤ m.c.length + max L.n 0 + 4 := by
  unfold appM
  split
  · exact ⟨rfl, by show (m.c.length : Int) ≤ _; omega⟩
  · split
    · exact ⟨rfl, by show (m.c.length : Int) ≤ _; omega⟩
    · rename_i h1
      obtain ⟨k, hk⟩ : ∃ k, k = secs (packL rs).length := ⟨_, rfl⟩
      have h2 := secs_pos (packL rs).length
      have cl := commit_len m (aws L (frameF L.ep L.nx (packL rs)) (secs (packL rs).length)) (L.fr + L.pos, chunk (frameF L.ep L.nx (packL rs)) 0)
      have al : (aws L (frameF L.ep L.nx (packL rs)) (secs (packL rs).length)).length ≤ secs (packL rs).length := by
        unfold aws
        rw [List.length_append]
        have : (fws (L.fr + L.pos) (frameF L.ep L.nx (packL rs)) (secs (packL rs).length)).length = secs (packL rs).length - 1 := by simp [fws]
        rw [this]
        split <;> simp <;> omega
      dsimp only
      split
      · exact ⟨cl.1, by show ((commitM m _ _).2.c.length : Int) ≤ _; omega⟩
      · exact ⟨cl.1, by show ((commitM m _ _).2.c.length : Int) ≤ _; omega⟩

theorem Holds.calm {m : M} {fr n : Int} {e : Nat} {L : Lg} {fs : List (List ByteArray)} (h : Holds m fr n e L fs) (ks : List Bool) : Holds (crash m ks) fr n e L fs := by
  rw [crash_none h.c]
  exact h.view rfl rfl (fun i _ _ _ => by rw [readAt_lk, readAt_lk, h.c])

theorem walLasts_spec {h : Heap} {x0 x2 : Sl} {f n : Int} (hs : FramesAt h x0.a x0.len) (hfi : InI f) (hb : BoolsAt h x2.a x2.len) (hni : InI n) {R : Bool → Heap → Prop} (hR : ∀ h', Keep (fun _ => False) h h' → R true h') :
    CallT Try.prog law6_WalLasts_no [.slice x0.a x0.len x0.cap, .int .i64 f, .slice x2.a x2.len x2.cap, .int .i64 n] h [.sc .bool] R := by
  apply law6_WalLasts_call
  simp only [law6_WalLasts]
  have aw0 : CallT Try.prog law6_awake_no [] h [.sc .bool] R := awake_spec fun h3 k3 => hR h3 k3
  refine withJ.inl (withJ.inl ?_)
  refine cnd_dec (fun h1 => cnd_t rfl aw0) (fun h1 => ?_)
  refine cnd_dec (fun h2 => cnd_t rfl aw0) (fun h2 => ?_)
  refine cnd_of (fun _ => aw0) (fun hlen => ?_)
  have hlen' : x0.len ≤ 20 := by
    have : ¬ ((x0.len : Int) > 20) := by simpa using hlen
    omega
  refine new_spec hni (fun hb => by omega) ?_
  intro _ _ p mu0 im0 h1' hnew hr hk1
  obtain ⟨m0, hm0⟩ : ∃ m0 : M, m0 = ⟨List.replicate n.toNat (noughts 256), [], 0, 0⟩ := ⟨_, rfl⟩
  rw [← hm0] at hr
  have hblank : ∀ i, readAt m0 i = noughts 256 := by rw [hm0]; exact blank_read (k := n.toNat) rfl rfl
  have hl0 : (m0.l.length : Int) = n := by rw [hm0]; simp; omega
  have hc0 : m0.c = [] := by rw [hm0]
  have hst0 : m0.st = 0 := by rw [hm0]
  have H0 : Holds m0 0 n 5 (lg0 0 n 5) [] := blank_holds hblank hc0 (by omega) (by omega)
  have ds : DSt h h1' p m0 (fun _ => False) ⟨none, 0, 0⟩ [] := ⟨mu0, im0, [], hr, fun y hy => ⟨hnew y hy, fun h => h⟩, SlR.nil _ _, FsB.nil _ _, (fun b hb => by obtain ⟨x, hx, _⟩ := hb; cases hx), hk1.mono (fun _ _ h => h.elim), fun f hf => by cases hf⟩
  refine DSt.open (e := 5) ds (by rw [hc0]; simp) (by unfold okR; omega) (by omega) ?_
  intro q s2 h2' hq o2 f2 k2
  rw [H0.open] at o2
  have hz1 := hk1.size
  have hqh : h.size ≤ q := by omega
  have ds2 := ds.swap (Q' := (· = q)) k2 (fun b hb => by have hb' : b = q := hb; omega)
  refine withJ.inl (withJ.inl ?_)
  refine cnd_f rfl (cnd_f rfl ?_)
  have hql2 := o2.lt
  refine DSt.fuse ds2 (fun b hb => by have hb' : b = q := hb; omega) hfi ?_
  intro h3 ds3 hrow3
  have o3 := hrow3 q _ rfl o2
  have fl := fuse_lc m0 f
  have H3 : Holds (Disk.fuse m0 f) 0 n 5 (lg0 0 n 5) [] := H0.view (by rw [fl.2, hc0]) (by rw [fl.1]) (fun i _ _ _ => by rw [readAt_lk, readAt_lk, fl.1, fl.2])
  -- the crash, and what is found
  have tail : ∀ {m : M} {fs : List (List ByteArray)} {d way : Sl} {rs : List ByteArray} {failed : Bool} {h5 : Heap}, DSt h h5 p m (fun _ => False) d fs → (m.l.length : Int) = n → m.c.length ≤ 20000 → fs.length ≤ 1000 → (failed = true → TsB h5 (fun b => b < h.size) way.a way.len rs ∧ way.len ≤ 1048576) →
      (∀ ks, (∃ L, Holds (crash m ks) 0 n 5 L fs) ∨ failed = true ∧ ∃ L, Holds (crash m ks) 0 n 5 L (fs ++ [rs])) →
      CallT Try.prog disk_Dev_Crash_no [.pointer (some ⟨p, 0, none⟩), .slice x2.a x2.len x2.cap] h5 [] fun (r43 : Unit) h44 =>
      CallT Try.prog wal_Open_no [.pointer (some ⟨p, 0, none⟩), .int .i64 0, .int .i64 n, .int .u64 5] h44 [.sc (.ptr), .sc (.sl), .sc (.int .i64)] fun (r45 : (Option Addr) × Sl × Int) h46 =>
      CallT Try.prog wal_Open_no [.pointer (some ⟨p, 0, none⟩), .int .i64 0, .int .i64 n, .int .u64 5] h46 [.sc (.ptr), .sc (.sl), .sc (.int .i64)] fun (r47 : (Option Addr) × Sl × Int) h48 =>
      withJ (σ := Unit) (fun s49 h51 =>
      withJ (σ := Sl) (fun s52 h54 =>
      withJ (σ := Bool) (fun s55 h57 => R s55 h57) (fun J56 =>
      CallT Try.prog law6_frames_no [.slice r45.2.1.a r45.2.1.len r45.2.1.cap, .slice s52.a s52.len s52.cap] h54 [.sc (.bool)] fun (r58 : Bool) h59 =>
      cnd r58 (CallT Try.prog law6_awake_no [] h59 [.sc (.bool)] fun (r60 : Bool) h61 => J56 r60 h61) (J56 false h59))) (fun J53 =>
      withJ (σ := Bool) (fun s62 h64 =>
      cnd s62 (
      newB [.slice way.a way.len way.cap] 50 h64 fun a65 h66 =>
      ldRow (1 * 1) a65 h66 fun cs70 =>
      app [.slice none 0 0] 50 1 24 d.a d.len d.cap cs70 1 h66 fun o67 c68 h69 =>
      J53 (⟨o67, (d.len + 1), c68⟩ : Sl) h69) (
      J53 d h64)) (fun J63 =>
      cnd failed (
      J63 ((r45.2.1.len : Int) == (w64 ((d.len : Int) + 1))) h51) (
      J63 false h51)))) (fun J50 =>
      withJ (σ := Bool) (fun s71 h73 => cnd s71 (R false h73) (J50 () h73)) (fun J72 =>
      cnd (r45.2.2 != 0) (J72 true h48) (
      cnd (r47.2.2 != 0) (J72 true h48) (
      CallT Try.prog law6_frames_no [.slice r45.2.1.a r45.2.1.len r45.2.1.cap, .slice r47.2.1.a r47.2.1.len r47.2.1.cap] h48 [.sc (.bool)] fun (r74 : Bool) h75 =>
      J72 (!r74) h75)))) := by
    intro m fs d way rs failed h5 ds5 hl hcl hfl hway hH
    have bis := (BoolsAt.is hb).keep ds5.kp (fun hl y hy hh => by
      have := BoolsAt.lt hb hl hy
      have hh' : h.size ≤ y := hh
      omega)
    obtain ⟨g, hg, L, HL⟩ : ∃ g, (g = fs ∨ failed = true ∧ g = fs ++ [rs]) ∧ ∃ L, Holds (crash m (boolsOf h x2.a x2.len)) 0 n 5 L g := by
      rcases hH (boolsOf h x2.a x2.len) with ⟨L, hL⟩ | ⟨hf, L, hL⟩
      · exact ⟨fs, .inl rfl, L, hL⟩
      · exact ⟨fs ++ [rs], .inr ⟨hf, rfl⟩, L, hL⟩
    have hway' : failed = true → rs.length ≤ 1048576 := fun hf => by
      obtain ⟨t, hl⟩ := hway hf
      have := t.1.len
      omega
    have hq3 : ∀ f ∈ fs, f.length ≤ 1048576 := by obtain ⟨_, _, _, _, _, _, _, _, _, q3⟩ := ds5; exact q3
    have hgl : ∀ f ∈ g, f.length ≤ 1048576 := by
      rcases hg with rfl | ⟨hf, rfl⟩
      · exact hq3
      · intro f hh
        rcases List.mem_append.1 hh with hh | hh
        · exact hq3 f hh
        · simp only [List.mem_singleton] at hh
          subst hh
          exact hway' hf
    have hgn : g.length ≤ 1001 := by
      rcases hg with rfl | ⟨hf, rfl⟩
      · omega
      · rw [List.length_append]; simp; omega
    have kway : failed = true → ∀ {hA : Heap}, Keep (fun y => h.size ≤ y) h5 hA → TsB hA (fun b => b < h.size) way.a way.len rs := fun hf hA k => (hway hf).1.keep k (fun b _ hb hh => by
      have hb' : b < h.size := hb
      have hh' : h.size ≤ b := hh
      omega)
    obtain ⟨mu, im, vs, r5, q1, sl5, fb5, q2, k5, q3⟩ := ds5
    refine crash_spec r5 (by omega) bis (fun h0' b hb' hm => by have := BoolsAt.lt hb h0' hb'; have := (q1 b (.inl hm)).1; omega) ?_
    intro h6 r6 k6
    have ds6 : DSt h h6 p (crash m (boolsOf h x2.a x2.len)) (fun _ => False) d fs := DSt.go q1 sl5 fb5 q2 k5 q3 (fun b hb => hb.elim) (fun b hb => .inl hb) r6 k6 (.same _ _ _)
    have k56 : Keep (fun y => h.size ≤ y) h5 h6 := k6.mono (fun y _ hy => (q1 y (.inl hy)).1)
    have hlc : ((crash m (boolsOf h x2.a x2.len)).l.length : Int) = n := by rw [(crash_len _ _).1]; exact hl
    have hcc : (crash m (boolsOf h x2.a x2.len)).c.length ≤ 1000000 := by show [].length ≤ _; simp
    refine DSt.open (e := 5) ds6 hcc (by unfold okR; omega) (by show (0 : Int) ≠ 2; decide) ?_
    intro qa sa ha hqa oa fa ka
    rw [HL.open] at fa
    replace fa : Fs ha (fun b => qa < b) sa.a sa.len g := fa
    have dsa := ds6.keep ka
    refine DSt.open (e := 5) dsa hcc (by unfold okR; omega) (by show (0 : Int) ≠ 2; decide) ?_
    intro qb sb hb2 hqb ob fb kb
    rw [HL.open] at fb
    replace fb : Fs hb2 (fun b => qb < b) sb.a sb.len g := fb
    have fa2 : Fs hb2 (fun b => qa < b) sa.a sa.len g := fa.keep kb (fun _ _ _ h => h)
    have dsb := dsa.keep kb
    have hsa := fa.len
    have hdl := dsb.size
    refine withJ.inl (withJ.inl (cnd_f rfl (cnd_f rfl ?_)))
    refine frames_spec fa2 fb (by omega) (fun f hf => by have := hgl f hf; omega) ?_
    rw [decide_eq_true rfl]
    refine cnd_f rfl (withJ.inl (withJ.inl ?_))
    have k5b : Keep (fun y => h.size ≤ y) h5 hb2 := (k56.trans ka (fun _ _ h => h.elim)).trans kb (fun _ _ h => h.elim)
    have plain : g = fs → CallT Try.prog law6_frames_no [.slice sa.a sa.len sa.cap, .slice d.a d.len d.cap] hb2 [.sc (.bool)] fun (r58 : Bool) h59 => cnd r58 (CallT Try.prog law6_awake_no [] h59 [.sc (.bool)] fun (r60 : Bool) h61 => R r60 h61) (R false h59) := by
      intro e
      refine DSt.frames dsb fa2 hgl (by omega) ?_
      rw [decide_eq_true e]
      exact cnd_t rfl (awake_spec fun h7 k7 => hR h7 (dsb.out.trans' k7))
    have hw : w64 ((d.len : Int) + 1) = d.len + 1 := w64_id (by omega) (by omega)
    cases hfd : failed
    · refine cnd_f rfl (cnd_f rfl (withJ.inl ?_))
      rcases hg with e | ⟨hf, _⟩
      · exact plain e
      · rw [hfd] at hf; cases hf
    · refine cnd_t rfl ?_
      show cnd ((sa.len : Int) == w64 ((d.len : Int) + 1)) _ _
      rw [hw]
      rcases hg with e | ⟨hf, e⟩
      · refine cnd_f ?_ (withJ.inl (plain e))
        rw [e] at hsa
        simp
        omega
      · refine cnd_t ?_ ?_
        · rw [e, List.length_append] at hsa
          simp only [List.length_singleton] at hsa
          simp
          omega
        · refine DSt.push dsb (fun b hb => hb.elim) (kway hf k5b) (hway hf).2 (by omega) ?_
          intro o c h7 ds7 _ kp7
          refine withJ.inl ?_
          have k7 : Keep (fun y => h.size ≤ y) h h7 := ds7.kp
          -- what was found lies where nothing was written since
          have fa7 : Fs h7 (fun b => qa < b) sa.a sa.len g := fa2.keep kp7 (fun b _ hb hh => by
            have := sl5.blk_lt hh
            have := k6.size
            have hb' : qa < b := hb
            omega)
          refine DSt.frames ds7 fa7 hgl (by omega) ?_
          rw [decide_eq_true e]
          exact cnd_t rfl (awake_spec fun h8 k8 => hR h8 (ds7.out.trans' k8))
  refine LoopT.intro (fun (t : Sl × Sl × Bool × Int) h' => 0 ≤ t.2.2.2 ∧ t.2.2.2 ≤ x0.len ∧ ∃ (m : M) (fs : List (List ByteArray)) (rs : List ByteArray), DSt h h' p m (· = q) t.1 fs ∧ q < h'.size ∧ (m.l.length : Int) = n ∧ m.c.length ≤ 20000 ∧ (fs.length : Int) ≤ t.2.2.2 ∧
      (t.2.2.1 = false → ∃ L, Row h' q (LRow p L) ∧ Holds m 0 n 5 L fs) ∧ (t.2.2.1 = true → TsB h' (fun b => b < h.size) t.2.1.a t.2.1.len rs ∧ t.2.1.len ≤ 1048576) ∧
      (∀ ks, (∃ L, Holds (crash m ks) 0 n 5 L fs) ∨ t.2.2.1 = true ∧ ∃ L, Holds (crash m ks) 0 n 5 L (fs ++ [rs]))) (fun t _ => ((x0.len : Int) - t.2.2.2).toNat)
    ⟨by simp, by simp, Disk.fuse m0 f, [], [], ds3, o3.lt, by rw [fl.1]; exact hl0, by rw [fl.2, hc0]; simp, by simp, fun _ => ⟨_, o3, H3⟩, (fun h => by cases h), fun ks => .inl ⟨_, H3.calm ks⟩⟩ ?_
  rintro ⟨d, way, failed, i⟩ h4 ⟨g0, g1, m, fs, rs, ds4, hq4, hl, hcl, hfl, hlive, hway, hH⟩
  replace g0 : 0 ≤ i := g0
  replace g1 : i ≤ x0.len := g1
  replace hfl : (fs.length : Int) ≤ i := hfl
  have out := tail (way := way) (rs := rs) (failed := failed) (ds4.swap (.refl _ _) (Q' := fun _ => False) (fun b hb => hb.elim)) hl hcl (by omega) hway hH
  refine withJ.inl ?_
  refine cnd_dec (fun hi => ?_) (fun hi => out)
  replace hi : i < x0.len := hi
  cases hfd : failed
  rotate_left
  · refine cnd_f rfl ?_
    rw [hfd] at out
    exact out
  refine cnd_t rfl (withJ.inl ?_)
  obtain ⟨L, o4, H⟩ := hlive hfd
  obtain ⟨f1, f2, f3, f4, f5, f6, f7⟩ := H.facts
  obtain ⟨x, a', l', c', hx, hcell, ht, hpb, hl'⟩ := hs.cell ds4.kp g0 hi
  rw [hx]
  refine idx_some g0 hi (ldL_at (hcell h4 ds4.kp) ?_)
  generalize hrs : frOf h x0.a i.toNat = rs' at ht hpb
  have al := app_len m L rs' (by omega)
  rw [H.c] at al
  refine DSt.append ds4 o4 hqh (by rw [H.c]; simp) (by omega) (by omega) (by omega) (by omega) (by omega) ht.1 hpb ?_
  intro h5 ds5 o5
  obtain ⟨p1, p2⟩ := append_holds H (by omega) rs'
  have hw : w64 (i + 1) = i + 1 := w64_id (by omega) (by omega)
  have al2 : (appM m L rs').2.1.c.length ≤ 20000 := by
    have := al.2
    simp only [List.length_nil] at this
    omega
  have ht5 : TsB h5 (fun b => b < h.size) a' l' rs' := by
    obtain ⟨x', a2, l2, c2, hx', hcell', ht', _⟩ := hs.cell ds5.kp g0 hi
    rw [hx'] at hx
    injection hx with hx
    subst hx
    have e1 := hcell h5 ds5.kp
    have e2 := hcell' h5 ds5.kp
    rw [e1] at e2
    injection e2 with e2
    injection e2 with e3 e4 e5
    subst e3 e4
    rw [hrs] at ht'
    exact ht'
  -- on to the next
  have step : ∀ {d' way' : Sl} {failed' : Bool} {m' : M} {fs' : List (List ByteArray)} {rs'' : List ByteArray} {h6 : Heap}, DSt h h6 p m' (· = q) d' fs' → q < h6.size → (m'.l.length : Int) = n → m'.c.length ≤ 20000 → (fs'.length : Int) ≤ i + 1 →
      (failed' = false → ∃ L, Row h6 q (LRow p L) ∧ Holds m' 0 n 5 L fs') → (failed' = true → TsB h6 (fun b => b < h.size) way'.a way'.len rs'' ∧ way'.len ≤ 1048576) →
      (∀ ks, (∃ L, Holds (crash m' ks) 0 n 5 L fs') ∨ failed' = true ∧ ∃ L, Holds (crash m' ks) 0 n 5 L (fs' ++ [rs''])) →
      (0 ≤ w64 (i + 1) ∧ w64 (i + 1) ≤ x0.len ∧ ∃ (m : M) (fs : List (List ByteArray)) (rs : List ByteArray), DSt h h6 p m (· = q) d' fs ∧ q < h6.size ∧ (m.l.length : Int) = n ∧ m.c.length ≤ 20000 ∧ (fs.length : Int) ≤ w64 (i + 1) ∧
      (failed' = false → ∃ L, Row h6 q (LRow p L) ∧ Holds m 0 n 5 L fs) ∧ (failed' = true → TsB h6 (fun b => b < h.size) way'.a way'.len rs ∧ way'.len ≤ 1048576) ∧
      (∀ ks, (∃ L, Holds (crash m ks) 0 n 5 L fs) ∨ failed' = true ∧ ∃ L, Holds (crash m ks) 0 n 5 L (fs ++ [rs]))) ∧ ((x0.len : Int) - w64 (i + 1)).toNat < ((x0.len : Int) - i).toNat := by
    intro d' way' failed' m' fs' rs'' h6 u1 u2 u3 u4 u5 u6 u7 u8
    rw [hw]
    exact ⟨⟨by omega, by omega, m', fs', rs'', u1, u2, u3, u4, u5, u6, u7, u8⟩, by omega⟩
  by_cases hfit : L.pos + (secs (packL rs').length : Int) ≤ n
  · obtain ⟨q1, q2, _, q4⟩ := p2 hfit
    refine cnd_of (fun hz => ?_) (fun hnz => ?_)
    · have hz' : (appM m L rs').1 = 0 := by simpa using hz
      obtain ⟨b1, b2, b3⟩ := q1 hz'
      rw [b1] at o5
      refine idx_some g0 hi (ldL_at (hcell h5 ds5.kp) ?_)
      have hdl : d.len = fs.length := ds5.size
      refine DSt.push ds5 (fun b hb => by have hb' : b = q := hb; have := o5.lt; omega) ht5 hl' (by show d.len ≤ _; omega) ?_
      intro o c6 h6 ds6 hrow6 _
      have o6 := hrow6 q _ rfl o5
      exact step (way' := way) (failed' := false) (rs'' := []) ds6 o6.lt (by rw [b3]; exact hl) al2 (by rw [List.length_append]; simp; omega) (fun _ => ⟨_, o6, b2⟩) (fun h => by cases h) (fun ks => .inl ⟨_, b2.calm ks⟩)
    · have hnz' : (appM m L rs').1 ≠ 0 := by simpa using hnz
      have h60 : ¬ (appM m L rs').1 = 60 := by
        rcases q4 with e | e | e <;> omega
      refine cnd_f (by simpa using h60) ?_
      refine idx_some g0 hi (ldL_at (hcell h5 ds5.kp) ?_)
      refine step (way' := ⟨a', l', c'⟩) (failed' := true) (rs'' := rs') ds5 o5.lt (by rw [al.1]; exact hl) al2 (by omega) (fun h => by cases h) (fun _ => ⟨ht5, hl'⟩) (fun ks => ?_)
      rcases q2 hnz' ks with hh | hh
      · exact .inl ⟨_, hh⟩
      · exact .inr ⟨rfl, _, hh⟩
  · have ea := p1 (by omega)
    rw [ea] at ds5 o5 ⊢
    replace o5 : Row h5 q (LRow p L) := o5
    replace ds5 : DSt h h5 p m (· = q) d fs := ds5
    refine cnd_f rfl (cnd_t rfl ?_)
    refine idx_some g0 hi (ldL_at (hcell h5 ds5.kp) ?_)
    refine room_spec o5 (by omega) ?_
    refine ⟨ldL_at (hcell h5 ds5.kp) rfl, ?_⟩
    refine need_spec ht5.1 (by omega) (by omega) ?_
    refine cnd_neg (by omega) ?_
    exact step (way' := way) (failed' := false) (rs'' := []) ds5 o5.lt hl hcl (by omega) (fun _ => ⟨_, o5, H⟩) (fun h => by cases h) (fun ks => .inl ⟨_, H.calm ks⟩)

end Wal
end Go.Proofs.Ytmkobpkdodgboaa
