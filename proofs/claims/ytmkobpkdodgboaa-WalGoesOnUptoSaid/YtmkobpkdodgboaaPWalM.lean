/- WalCounts. -/
import Derived.Test.YtmkobpkdodgboaaPWalL
namespace Go.Proofs.Ytmkobpkdodgboaa
open Go D
set_option linter.unusedVariables false
set_option linter.unusedSimpArgs false
namespace Wal
open Disk Enc Hash Snap

/-- another epoch finds nothing -/
theorem other_epoch {m : M} {fr n : Int} {e e' : Nat} {L : Lg} {fs : List (List ByteArray)} (h : Holds m fr n e L fs) (he : e' < 18446744073709551616) (h0 : 0 < e') (hne : e' ≠ e) : readM m (lg0 fr n e') = none := by
  have hch := h.ch
  have hen := h.en
  have hep := h.ep
  cases hch with
  | nil => exact end_none (m := m) (L := lg0 fr n e') (fun hlt => hen hlt) h0 he
  | cons hr _ =>
    unfold readM at hr ⊢
    have e1 : many m (lg0 fr n e') = many m (lg0 fr n e) := rfl
    have e2 : payL m (lg0 fr n e') = payL m (lg0 fr n e) := rfl
    split at hr
    · cases hr
    · rename_i h1
      split at hr
      · cases hr
      · rename_i h2
        split at hr
        · rename_i h3
          have h1' : ¬ (lg0 fr n e').n ≤ (lg0 fr n e').pos := h1
          have h2' : ¬ ((lg0 fr n e').n - (lg0 fr n e').pos) * 256 - 24 < (many m (lg0 fr n e') : Int) := h2
          rw [if_neg h1', if_neg h2', if_neg]
          intro h4
          have h5 : (frameF e' 0 (payL m (lg0 fr n e))).take 24 = (frameF e 0 (payL m (lg0 fr n e))).take 24 := h4.trans h3.symm
          have h6 := congrArg (fun l : List UInt8 => (l.drop 8).take 8) h5
          rw [frame_head8, frame_head8, List.take_left' (p64_length _), List.take_left' (p64_length _)] at h6
          have h7 := congrArg g64 h6
          rw [g64_p64 he, g64_p64 hep.2] at h7
          exact hne h7
        · cases hr

theorem open_none {m : M} {fr n : Int} {e : Nat} (h : readM m (lg0 fr n e) = none) : openM m fr n e = (lg0 fr n e, []) := by
  unfold openM openF
  rw [h]

theorem walCounts_spec {h : Heap} {x0 : Sl} (hs : FramesAt h x0.a x0.len) {R : Bool → Heap → Prop} (hR : ∀ h', Keep (fun _ => False) h h' → R true h') :
    CallT Try.prog law6_WalCounts_no [.slice x0.a x0.len x0.cap] h [.sc .bool] R := by
  apply law6_WalCounts_call
  simp only [law6_WalCounts]
  refine new_spec (by unfold InI; omega) (fun hb => by omega) ?_
  intro _ _ p mu0 im0 h1 hnew hr hk1
  obtain ⟨m0, hm0⟩ : ∃ m0 : M, m0 = ⟨List.replicate (60 : Int).toNat (noughts 256), [], 0, 0⟩ := ⟨_, rfl⟩
  rw [← hm0] at hr
  have hblank : ∀ i, readAt m0 i = noughts 256 := by rw [hm0]; exact blank_read (k := 60) rfl rfl
  have hl0 : m0.l.length = 60 := by rw [hm0]; simp
  have hc0 : m0.c = [] := by rw [hm0]
  have hst0 : m0.st = 0 := by rw [hm0]
  have H0 : Holds m0 1 50 7 (lg0 1 50 7) [] := blank_holds hblank hc0 (by rw [hl0]; omega) (by omega)
  have ds : DSt h h1 p m0 (fun _ => False) ⟨none, 0, 0⟩ [] := ⟨mu0, im0, [], hr, fun y hy => ⟨hnew y hy, fun h => h⟩, SlR.nil _ _, FsB.nil _ _, (fun b hb => by obtain ⟨x, hx, _⟩ := hb; cases hx), hk1.mono (fun _ _ h => h.elim), fun f hf => by cases hf⟩
  refine DSt.open (e := 7) ds (by rw [hc0]; simp) (by rw [hl0]; unfold okR; omega) (by omega) ?_
  intro q s2 h2 hq o2 f2 k2
  rw [H0.open] at o2
  have hz1 := hk1.size
  have ds2 := ds.swap (Q' := (· = q)) k2 (fun b hb => by have hb' : b = q := hb; omega)
  refine withJ.inl (withJ.inl ?_)
  refine cnd_f rfl (cnd_f rfl ?_)
  refine cnd_of (fun _ => withJ.inl (cnd_t rfl (cnd_t rfl (awake_spec fun h3 k3 => hR h3 (ds2.out.trans' k3))))) (fun hlen => ?_)
  have hlen' : x0.len ≤ 30 := by
    have : ¬ ((x0.len : Int) > 30) := by simpa using hlen
    omega
  refine LoopT.intro (fun (t : Sl × Int) h' => 0 ≤ t.2 ∧ t.2 ≤ x0.len ∧ ∃ (m : M) (L : Lg) (fs : List (List ByteArray)), DSt h h' p m (· = q) t.1 fs ∧ Row h' q (LRow p L) ∧ Holds m 1 50 7 L fs ∧ m.st = 0 ∧ m.l.length = 60 ∧ (fs.length : Int) ≤ t.2) (fun t _ => ((x0.len : Int) - t.2).toNat)
    ⟨by simp, by simp, m0, _, [], ds2, o2, H0, hst0, hl0, by simp⟩ ?_
  rintro ⟨d, i⟩ h3 ⟨g0, g1, m, L, fs, ds3, o3, H, hst, hl, hfl⟩
  replace g0 : 0 ≤ i := g0
  replace g1 : i ≤ x0.len := g1
  replace hfl : (fs.length : Int) ≤ i := hfl
  obtain ⟨f1, f2, f3, f4, f5, f6, f7⟩ := H.facts
  have hql : q < h3.size := o3.lt
  have hqh : h.size ≤ q := by omega
  refine cnd_dec (fun hi => ?_) (fun hi => ?_)
  · replace hi : i < x0.len := hi
    refine withJ.inl ?_
    obtain ⟨x, a', l', c', hx, hcell, ht, hpb, hl'⟩ := hs.cell ds3.kp g0 hi
    rw [hx]
    refine idx_some g0 hi (ldL_at (hcell h3 ds3.kp) ?_)
    refine room_spec o3 (by omega) ?_
    refine ⟨ldL_at (hcell h3 ds3.kp) rfl, ?_⟩
    refine next_spec o3 ?_
    refine ⟨ldL_at (hcell h3 ds3.kp) rfl, ?_⟩
    refine need_spec ht.1 (by omega) (by omega) ?_
    refine idx_some g0 hi (ldL_at (hcell h3 ds3.kp) ?_)
    generalize hrs : frOf h x0.a i.toNat = rs at ht hpb
    refine DSt.append ds3 o3 hqh (by rw [H.c]; simp) (by omega) (by omega) (by omega) (by omega) (by omega) ht.1 hpb ?_
    intro h4 ds4 o4
    obtain ⟨p1, p2⟩ := append_holds H (by omega) rs
    have hw : w64 (i + 1) = i + 1 := w64_id (by omega) (by omega)
    obtain ⟨k, hk⟩ : ∃ k, k = secs (packL rs).length := ⟨_, rfl⟩
    rw [← hk] at p1 p2 ⊢
    -- what follows the comparison of the rooms
    have tail : ∀ {m' : M} {L' : Lg} {fs' : List (List ByteArray)} {d' : Sl} {h5 : Heap}, DSt h h5 p m' (· = q) d' fs' → Row h5 q (LRow p L') → Holds m' 1 50 7 L' fs' → m'.st = 0 → m'.l.length = 60 → (fs'.length : Int) ≤ i + 1 →
        CallT Try.prog wal_Open_no [.pointer (some ⟨p, 0, none⟩), .int .i64 1, .int .i64 50, .int .u64 7] h5 [.sc .ptr, .sc .sl, .sc (.int .i64)] fun (r34 : (Option Addr) × Sl × Int) h35 =>
          withJ (σ := Bool) (fun s36 h38 => cnd s36 (R false h38) ((0 ≤ w64 (i + 1) ∧ w64 (i + 1) ≤ x0.len ∧ ∃ (m : M) (L : Lg) (fs : List (List ByteArray)), DSt h h38 p m (· = q) d' fs ∧ Row h38 q (LRow p L) ∧ Holds m 1 50 7 L fs ∧ m.st = 0 ∧ m.l.length = 60 ∧ (fs.length : Int) ≤ w64 (i + 1)) ∧ ((x0.len : Int) - w64 (i + 1)).toNat < ((x0.len : Int) - i).toNat)) (fun J37 =>
          cnd r34.1.isNone (J37 true h35) (cnd (r34.2.2 != 0) (J37 true h35) (
          CallT Try.prog law6_frames_no [.slice r34.2.1.a r34.2.1.len r34.2.1.cap, .slice d'.a d'.len d'.cap] h35 [.sc (.bool)] fun (r39 : Bool) h40 =>
          cnd (!r39) (J37 true h40) (
          CallT Try.prog wal_Log_Room_no [.pointer r34.1] h40 [.sc (.int .i64)] fun (r41 : Int) h42 =>
          CallT Try.prog wal_Log_Room_no [.pointer (some ⟨q, 0, none⟩)] h42 [.sc (.int .i64)] fun (r43 : Int) h44 =>
          cnd (r41 != r43) (J37 true h44) (
          CallT Try.prog wal_Log_Next_no [.pointer r34.1] h44 [.sc (.int .u64)] fun (r45 : Int) h46 =>
          CallT Try.prog wal_Log_Next_no [.pointer (some ⟨q, 0, none⟩)] h46 [.sc (.int .u64)] fun (r47 : Int) h48 =>
          cnd (r45 != r47) (J37 true h48) (
          CallT Try.prog disk_Dev_Pending_no [.pointer (some ⟨p, 0, none⟩)] h48 [.sc (.int .i64)] fun (r49 : Int) h50 =>
          J37 (r49 != 0) h50)))))) := by
      intro m' L' fs' d' h5 ds5 o5 H' hst' hl'' hfl'
      obtain ⟨e1, e2, e3, e4, e5, e6, e7⟩ := H'.facts
      refine DSt.open (e := 7) ds5 (by rw [H'.c]; simp) (by rw [hl'']; unfold okR; omega) (by omega) ?_
      intro q6 s6 h6 hq6 o6 f6 k6
      rw [H'.open] at o6 f6
      replace o6 : Row h6 q6 (LRow p L') := o6
      replace f6 : Fs h6 (fun b => q6 < b) s6.a s6.len fs' := f6
      refine withJ.inl (cnd_f rfl (cnd_f rfl ?_))
      have ds6 := ds5.keep k6
      have o5' := k6.row o5 (fun h => h)
      refine DSt.frames ds6 f6 (by obtain ⟨_, _, _, _, _, _, _, _, _, q3⟩ := ds6; exact q3) (by omega) ?_
      refine cnd_f (by simp) ?_
      refine room_spec o6 (by omega) (room_spec o5' (by omega) ?_)
      refine cnd_f (by simp) ?_
      refine next_spec o6 (next_spec o5' ?_)
      refine cnd_f (by simp) ?_
      obtain ⟨mu, im, vs, r6, _⟩ := id ds6
      refine pending_spec r6 ?_
      rw [H'.c]
      refine cnd_f rfl ?_
      rw [hw]
      exact ⟨⟨by omega, by omega, m', L', fs', ds6, o5', H', hst', hl'', hfl'⟩, by omega⟩
    refine withJ.inl ?_
    by_cases hfit : L.pos + (k : Int) ≤ 50
    · obtain ⟨q1, _, q3, _⟩ := p2 hfit
      obtain ⟨a1, a2⟩ := q3 hst
      obtain ⟨b1, b2, b3⟩ := q1 a1
      rw [b1] at o4
      rw [a1]
      refine cnd_t rfl ?_
      obtain ⟨x', a2', l2', c2', hx', hcell', ht', _, hl2'⟩ := hs.cell ds4.kp g0 hi
      rw [hx'] at hx
      injection hx with hx
      subst hx
      refine idx_some g0 hi (ldL_at (hcell' h4 ds4.kp) ?_)
      rw [hrs] at ht'
      have hdl := ds4.size
      refine DSt.push ds4 (fun b hb => by have hb' : b = q := hb; have := o4.lt; omega) ht' hl2' (by omega) ?_
      intro o c5 h5 ds5 hrow _
      have o5 := hrow q _ rfl o4
      obtain ⟨e1, e2, e3, e4, e5, e6, e7⟩ := b2.facts
      refine withJ.inl (withJ.inl ?_)
      refine cnd_f (by simp; omega) (cnd_t rfl ?_)
      refine room_spec o5 (by omega) ?_
      have ew : w64 (L.n - L.pos - (k : Int)) = L.n - L.pos - k := w64_id (by omega) (by omega)
      rw [ew]
      have es : (L.step k).n - (L.step k).pos = L.n - L.pos - k := by show L.n - (L.pos + k) = _; omega
      rw [es]
      refine cnd_f (by simp) ?_
      refine next_spec o5 ?_
      have en : IntKind.u64.wrap ((L.nx : Int) + 1) = ((L.nx + 1 : Nat) : Int) := by rw [wrap_u64_id (by omega) (by omega)]; rfl
      rw [en]
      have enx : ((L.step k).nx : Int) = ((L.nx + 1 : Nat) : Int) := rfl
      rw [enx]
      refine cnd_f (by simp) (cnd_f rfl (cnd_f rfl ?_))
      exact tail ds5 o5 b2 a2 (by rw [b3]; exact hl) (by rw [List.length_append]; simp; omega)
    · have ea := p1 (by omega)
      rw [ea] at ds4 o4 ⊢
      replace o4 : Row h4 q (LRow p L) := o4
      replace ds4 : DSt h h4 p m (· = q) d fs := ds4
      refine cnd_f rfl (withJ.inl (withJ.inl ?_))
      refine cnd_f (by simp; omega) (cnd_f rfl (cnd_t rfl (cnd_f rfl ?_)))
      refine room_spec o4 (by omega) ?_
      refine cnd_f (by simp) ?_
      refine next_spec o4 ?_
      refine cnd_f (by simp) ?_
      exact tail ds4 o4 H hst hl (by omega)
  · have h8 := open_none (other_epoch H (e' := 8) (by decide) (by decide) (by decide))
    refine DSt.open (e := 8) ds3 (by rw [H.c]; simp) (by rw [hl]; unfold okR; omega) (by omega) ?_
    intro q6 s6 h6 hq6 o6 f6 k6
    rw [h8] at f6
    have hs6 := f6.len
    refine withJ.inl (cnd_t rfl (cnd_t (by rw [hs6]; rfl) ?_))
    exact awake_spec fun h7 k7 => hR h7 ((ds3.keep k6).out.trans' k7)

end Wal
end Go.Proofs.Ytmkobpkdodgboaa
