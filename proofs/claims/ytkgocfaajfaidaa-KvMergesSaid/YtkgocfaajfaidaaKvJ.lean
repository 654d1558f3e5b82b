/- KvRefuses, KvChecks. -/
import Derived.Test.YtkgocfaajfaidaaKvI
namespace Go.Proofs.Ytkgocfaajfaidaa
open Go D
set_option linter.unusedVariables false
set_option linter.unusedSimpArgs false
namespace Kv
open Wal (packL unpackL Holds appM lg0 Lg secs LRow)
open Snap (KT fitsM saveM loadM okAt)
open Disk (M readAt crash)

theorem Run.was {h h' h2 h3 : Heap} {W : Nat → Prop} {d s : Nat} {x : St} {r : Sl} (hr : Run h h' W d s x) (hp : Pr h2 r x.l) (hf : ∀ b, blk r.a b → h'.size ≤ b) (hk : Keep W h2 h3) : Pr h3 r x.l :=
  hp.keep hk (fun b hb hw => by have := hf b hb; have := hr.lt b hw; omega)

set_option maxHeartbeats 1000000 in
theorem kvRefuses_spec {h : Heap} {x0 : Sl} {css : List (List Ch)} (hc : Css h x0.a x0.len css) {R : Bool → Heap → Prop} (hk : ∀ h', Nw h h' → R true h') : CallT Try.prog 4 [.slice x0.a x0.len x0.cap] h [.sc .bool] R := by
  have hcall := law9_KvRefuses_call x0 (R := R) (h := h)
  apply hcall; clear hcall
  unfold law9_KvRefuses
  refine run_new (n := 40) (by omega) (by omega) ?_
  intro d s W h4 hr
  refine withJ.inl (withJ.inl ?_)
  refine cnd_f rfl (cnd_f rfl ?_)
  refine cnd_dec (fun hb => ?_) (fun hb => ?_)
  · refine withJ.inl ?_
    refine cnd_t rfl (cnd_t rfl ?_)
    exact awake_spec (fun h' n' => hk h' (hr.nw.trans' n'))
  · have cl := hc.1
    refine LoopT.intro (fun (i : Int) h' => ∃ k W x, i = ((k : Nat) : Int) ∧ k ≤ x0.len ∧ Run h h' W d s x ∧ x.E ≤ k ∧ x.n ≤ k) (fun i _ => ((x0.len : Int) - i).toNat)
      ⟨0, W, _, rfl, Nat.zero_le _, hr, Nat.le_refl _, Nat.le_refl _⟩ ?_
    rintro _ h10 ⟨k, W, x, rfl, hkl, hr, hE, hn⟩
    refine cnd_dec (fun hi => ?_) (fun hi => ?_)
    · have hi' : k < css.length := by have : (k : Int) < (x0.len : Int) := hi; omega
      have k30 : k ≤ 30 := by omega
      have ew : w64 ((k : Int) + 1) = ((k + 1 : Nat) : Int) := by rw [w64_id (by omega) (by omega)]; omega
      have ewn : w64 ((x.n : Int) + 1) = ((x.n + 1 : Nat) : Int) := by rw [w64_id (by omega) (by omega)]; omega
      refine withJ.inl ?_
      refine hr.pairs ?_
      intro r14 h15 hr15 n15 p14 f14
      refine hr15.commits ?_
      refine (hc.nw hr15.nw).at hi' ?_
      intro o l' c' hch hl'
      refine hr15.commit (by omega) (by omega) hch hl' ?_
      intro e x' W' h21 did hr21 kw gw
      have hE' := did.e1
      have hn' := did.n1
      have p21 := hr.was p14 f14 kw
      have next : (∃ k' W x, w64 ((k : Int) + 1) = ((k' : Nat) : Int) ∧ k' ≤ x0.len ∧ ∀ h', Nw h21 h' → Run h h' W d s x ∧ x.E ≤ k' ∧ x.n ≤ k') := ⟨k + 1, W', x', ew, by omega, fun h' n' => ⟨hr21.nw' n', by omega, by omega⟩⟩
      have cont : ∀ h', Nw h21 h' → (∃ k' W x, w64 ((k : Int) + 1) = ((k' : Nat) : Int) ∧ k' ≤ x0.len ∧ Run h h' W d s x ∧ x.E ≤ k' ∧ x.n ≤ k') ∧ ((x0.len : Int) - w64 ((k : Int) + 1)).toNat < ((x0.len : Int) - (k : Int)).toNat := fun h' n' =>
        ⟨⟨k + 1, W', x', ew, by omega, hr21.nw' n', by omega, by omega⟩, by rw [ew]; omega⟩
      have ll := hr.len
      refine withJ.inl (withJ.inl ?_)
      rcases did.out with ⟨rfl, _, rfl⟩ | ⟨rfl, _, _, el, en⟩ | ⟨rfl, _, el, en⟩
      · refine cnd_t rfl (cnd_f rfl ?_)
        refine hr21.pairs ?_
        intro r39 h40 hr40 n40 p40 f40
        refine equal_spec p40 (p21.nw n40) (by omega) ?_
        refine cnd_f rfl ?_
        refine hr40.commits ?_
        refine cnd_f (by simp) ?_
        refine withJ.inl ?_
        refine cnd_f rfl (cnd_f rfl ?_)
        exact cont h40 n40
      · refine cnd_t rfl (cnd_t rfl (cnd_f rfl ?_))
        refine hr21.pairs ?_
        intro r39 h40 hr40 n40 p40 f40
        rw [el] at p40
        refine equal_spec p40 (p21.nw n40) (by omega) ?_
        refine cnd_f rfl ?_
        refine hr40.commits ?_
        refine cnd_f (by rw [en]; simp) ?_
        refine withJ.inl ?_
        refine cnd_f rfl (cnd_f rfl ?_)
        exact cont h40 n40
      · refine cnd_f rfl (cnd_f rfl ?_)
        refine withJ.inl ?_
        refine cnd_t rfl ?_
        refine hr21.commits ?_
        refine cnd_f (by rw [en, ewn]; simp) ?_
        exact cont h21 (Keep.refl _ _)
    · refine hr.open ?_
      intro s2 W2 h46 hr46 hr2 n46
      refine withJ.inl ?_
      refine cnd_t rfl (cnd_t rfl ?_)
      refine hr2.pairs ?_
      intro r50 h51 hr51 n51 p51 f51
      refine (hr46.nw' n51).pairs ?_
      intro r52 h53 hr53 n53 p53 f53
      have := hr.len
      refine equal_spec (p51.nw n53) p53 (by omega) ?_
      refine cnd_t rfl ?_
      exact awake_spec (fun h' n' => hk h' (hr53.nw.trans' n'))

set_option maxHeartbeats 1000000 in
theorem kvChecks_spec {h : Heap} {x0 : Sl} {css : List (List Ch)} (hc : Css h x0.a x0.len css) {R : Bool → Heap → Prop} (hk : ∀ h', Nw h h' → R true h') : CallT Try.prog 7 [.slice x0.a x0.len x0.cap] h [.sc .bool] R := by
  have hcall := law9_KvChecks_call x0 (R := R) (h := h)
  apply hcall; clear hcall
  unfold law9_KvChecks
  refine run_new (n := 160) (by omega) (by omega) ?_
  intro d s W h4 hr
  refine withJ.inl (withJ.inl ?_)
  refine cnd_f rfl (cnd_f rfl ?_)
  refine cnd_dec (fun hb => ?_) (fun hb => ?_)
  · refine withJ.inl ?_
    refine cnd_t rfl (cnd_t rfl ?_)
    exact awake_spec (fun h' n' => hk h' (hr.nw.trans' n'))
  · have cl := hc.1
    refine LoopT.intro (fun (i : Int) h' => ∃ k W x, i = ((k : Nat) : Int) ∧ k ≤ x0.len ∧ Run h h' W d s x ∧ x.E ≤ 2 * k ∧ x.n ≤ k ∧ x.q = 20) (fun i _ => ((x0.len : Int) - i).toNat)
      ⟨0, W, _, rfl, Nat.zero_le _, hr, Nat.le_refl _, Nat.le_refl _, rfl⟩ ?_
    rintro _ h10 ⟨k, W, x, rfl, hkl, hr, hE, hn, hq⟩
    refine cnd_dec (fun hi => ?_) (fun hi => ?_)
    · have hi' : k < css.length := by have : (k : Int) < (x0.len : Int) := hi; omega
      have k12 : k ≤ 12 := by omega
      have ew : w64 ((k : Int) + 1) = ((k + 1 : Nat) : Int) := by rw [w64_id (by omega) (by omega)]; omega
      refine withJ.inl ?_
      refine (hc.nw hr.nw).at hi' ?_
      intro o l' c' hch hl'
      refine hr.commit (by omega) (by omega) hch hl' ?_
      intro e x' W' h17 did hr17 kw gw
      have hE' := did.e1
      have hn' := did.n1
      have hq' := did.q
      clear kw gw
      refine hr17.pairs ?_
      intro r18 h19 hr19 n19 p19 f19
      refine hr19.commits ?_
      refine hr19.epoch ?_
      refine hr19.check (by omega) ?_
      intro m' W2 h25 hr25 kw2 gw2
      have p25 := hr17.was p19 f19 kw2
      have ll := hr17.len
      have ewe : w64 ((x'.E : Int) + 1) = ((x'.E + 1 : Nat) : Int) := by rw [w64_id (by omega) (by omega)]; omega
      refine cnd_f rfl ?_
      refine withJ.inl (withJ.inl ?_)
      refine cnd_f rfl ?_
      refine hr25.pairs ?_
      intro r54 h55 hr55 n55 p55 f55
      have p25' := p25.nw n55
      refine equal_spec p55 p25' (by show x'.l.length ≤ _; omega) ?_
      refine cnd_f rfl ?_
      refine hr55.commits ?_
      refine cnd_f (by show ((x'.n : Int) != x'.n) = false; simp) ?_
      refine hr55.epoch ?_
      refine cnd_f (by show (((x'.E + 1 : Nat) : Int) != w64 ((x'.E : Int) + 1)) = false; rw [ewe]; simp) ?_
      refine hr55.room ?_
      refine cnd_f (by show (2 * (x'.q : Int) - 0 != 40) = false; rw [hq', hq]; rfl) ?_
      refine hr55.open ?_
      intro s2 W3 h39 hr39 hr2 n39
      refine withJ.inl ?_
      refine cnd_f rfl (cnd_f rfl ?_)
      refine hr2.pairs ?_
      intro r43 h44 hr44 n44 p44 f44
      refine equal_spec p44 ((p25'.nw n39).nw n44) (by show x'.l.length ≤ _; omega) ?_
      refine cnd_f rfl ?_
      refine hr44.commits ?_
      refine cnd_f (by show ((x'.n : Int) != x'.n) = false; simp) ?_
      refine hr44.epoch ?_
      refine cnd_f (by show (((x'.E + 1 : Nat) : Int) != w64 ((x'.E : Int) + 1)) = false; rw [ewe]; simp) ?_
      exact ⟨⟨k + 1, W2, _, ew, by omega, hr39.nw' n44, by show x'.E + 1 ≤ _; omega, by show x'.n ≤ _; omega, by show x'.q = 20; omega⟩, by rw [ew]; omega⟩
    · exact awake_spec (fun h' n' => hk h' (hr.nw.trans' n'))

/-! ### KvAgain -/
theorem crash_nil {m : M} (hc : m.c = []) (ks : List Bool) : crash m ks = ⟨m.l, [], 0, 0⟩ := by
  unfold Disk.crash
  rw [hc]
  have : Disk.kept [] ks = [] := by cases ks <;> rfl
  rw [this]; rfl
theorem inv_crash {x : St} (hx : Inv x) (ks : List Bool) : Inv ⟨crash x.m ks, x.q, x.E, x.L, x.l, x.n⟩ := by
  have hc := hx.c
  rw [crash_nil hc]
  have rd : ∀ i, readAt (⟨x.m.l, [], 0, 0⟩ : M) i = readAt x.m i := fun i => by rw [Disk.readAt_lk, Disk.readAt_lk, hc]
  obtain ⟨n0, l0, css, h1, h2, h3, h4, h5, h6, h7, h8⟩ := hx.ex
  have hq := hx.q4
  exact mkInv hx.sz hx.qe hx.eb (Snap.kt_congr (fun i _ _ => rd i) (by omega) h1) h2 (h3.view rfl rfl (fun i _ _ _ => rd i)) h4 h5 h6 h7 h8 hx.ok hx.fit
theorem Run.crash0 {h h' : Heap} {W : Nat → Prop} {d s : Nat} {x : St} (hr : Run h h' W d s x) {c : Nat} {R : Unit → Heap → Prop} (hk : ∀ h2, Run h h2 W d s ⟨crash x.m [], x.q, x.E, x.L, x.l, x.n⟩ → Keep W h' h2 → R () h2) :
    CallT Try.prog disk_Dev_Crash_no [.pointer (some ⟨d, 0, none⟩), .slice none 0 c] h' [] R := by
  obtain ⟨mu, im, F, g, t, ha, hw⟩ := hr.ex
  refine Disk.crash_spec ha.dev (by rw [hr.inv.c]; simp) (ks := []) ⟨rfl, fun i hi => absurd hi (Nat.not_lt_zero _)⟩ (fun h => absurd h (Nat.lt_irrefl 0)) ?_
  intro h2 hr2 k2
  have kw : Keep W h' h2 := k2.mono (fun b _ hb => (hw b).2 (.inl hb))
  refine hk h2 ⟨⟨mu, im, F, g, t, ⟨k2.row ha.row ha.s1.1, k2.row ha.log ha.g1.1, hr2, ha.tree.keep k2 (fun b hb => (ha.f b hb).2.1), ha.s1, ha.g1, ha.ne, fun b hb => ⟨by have := (ha.f b hb).1; have := k2.size; omega, (ha.f b hb).2⟩⟩, hw⟩, hr.new, hr.nw.trans kw (fun b hb e => by have := hr.new b e; omega), inv_crash hr.inv [], rfl⟩ kw
theorem Run.pending {h h' : Heap} {W : Nat → Prop} {d s : Nat} {x : St} (hr : Run h h' W d s x) {R : Int → Heap → Prop} (hk : R 0 h') : CallT Try.prog disk_Dev_Pending_no [.pointer (some ⟨d, 0, none⟩)] h' [.sc (.int .i64)] R := by
  obtain ⟨mu, im, F, g, t, ha, hw⟩ := hr.ex
  refine Disk.pending_spec ha.dev ?_
  rw [hr.inv.c]; exact hk

set_option maxHeartbeats 1000000 in
theorem kvAgain_spec {h : Heap} {x0 : Sl} {x1 : Int} {css : List (List Ch)} (hc : Css h x0.a x0.len css) {R : Bool → Heap → Prop} (hk : ∀ h', Nw h h' → R true h') : CallT Try.prog 8 [.slice x0.a x0.len x0.cap, .int .i64 x1] h [.sc .bool] R := by
  have hcall := law9_KvAgain_call x0 x1 (R := R) (h := h)
  apply hcall; clear hcall
  unfold law9_KvAgain
  refine run_new (n := 96) (by omega) (by omega) ?_
  intro d s W h4 hr
  refine withJ.inl (withJ.inl ?_)
  refine cnd_f rfl (cnd_f rfl ?_)
  refine cnd_dec (fun hb => ?_) (fun hb => ?_)
  · refine withJ.inl ?_
    refine cnd_t rfl (cnd_t rfl ?_)
    exact awake_spec (fun h' n' => hk h' (hr.nw.trans' n'))
  · have cl := hc.1
    refine LoopT.intro (fun (st : Option Addr × Int) h' => ∃ s k W x, st.1 = some ⟨s, 0, none⟩ ∧ st.2 = ((k : Nat) : Int) ∧ k ≤ x0.len ∧ Run h h' W d s x ∧ x.E ≤ k ∧ x.n ≤ k) (fun st _ => ((x0.len : Int) - st.2).toNat)
      ⟨s, 0, W, _, rfl, rfl, Nat.zero_le _, hr, Nat.le_refl _, Nat.le_refl _⟩ ?_
    rintro ⟨so, i⟩ h10 ⟨s, k, W, x, e1, e2, hkl, hr, hE, hn⟩
    replace e1 : so = some ⟨s, 0, none⟩ := e1
    replace e2 : i = (k : Int) := e2
    subst e1 e2
    refine cnd_dec (fun hi => ?_) (fun hi => ?_)
    · have hi' : k < css.length := by have : (k : Int) < (x0.len : Int) := hi; omega
      have k15 : k ≤ 15 := by omega
      have ew : w64 ((k : Int) + 1) = ((k + 1 : Nat) : Int) := by rw [w64_id (by omega) (by omega)]; omega
      refine withJ.inl ?_
      refine (hc.nw hr.nw).at hi' ?_
      intro o l' c' hch hl'
      refine hr.commit (by omega) (by omega) hch hl' ?_
      intro e x' W' h17 did hr17 kw gw
      have hE' := did.e1
      have hn' := did.n1
      clear kw gw
      have cont : ∀ (s' : Nat) (W : Nat → Prop) (x2 : St) (h' : Heap), Run h h' W d s' x2 → x2.E = x'.E → x2.n = x'.n → (∃ s k' W x, (some ⟨s', 0, none⟩ : Option Addr) = some ⟨s, 0, none⟩ ∧ w64 ((k : Int) + 1) = ((k' : Nat) : Int) ∧ k' ≤ x0.len ∧ Run h h' W d s x ∧ x.E ≤ k' ∧ x.n ≤ k') ∧ ((x0.len : Int) - w64 ((k : Int) + 1)).toNat < ((x0.len : Int) - (k : Int)).toNat := fun s' W x2 h' hr' e1 e2 =>
        ⟨⟨s', k + 1, W, x2, rfl, ew, by omega, hr', by omega, by omega⟩, by rw [ew]; omega⟩
      have no : ∀ (s' : Nat) (W : Nat → Prop) (x2 : St) (h' : Heap), Run h h' W d s' x2 → x2.E = x'.E → x2.n = x'.n → (fun (s' : Option Addr × Int) (h' : Heap) => (∃ s k W x, s'.1 = some ⟨s, 0, none⟩ ∧ s'.2 = ((k : Nat) : Int) ∧ k ≤ x0.len ∧ Run h h' W d s x ∧ x.E ≤ k ∧ x.n ≤ k) ∧ ((x0.len : Int) - s'.2).toNat < ((x0.len : Int) - (k : Int)).toNat) (some ⟨s', 0, none⟩, w64 ((k : Int) + 1)) h' := cont
      refine withJ.inl ?_
      refine cnd_dec (fun hp => ?_) (fun hp => ?_)
      rotate_left
      · refine cnd_f rfl ?_
        exact no s W' x' h17 hr17 rfl rfl
      refine ⟨by omega, ?_⟩
      refine cnd_of (fun hz => ?_) (fun hz => ?_)
      rotate_left
      · exact no s W' x' h17 hr17 rfl rfl
      refine hr17.pairs ?_
      intro r21 h22 hr22 n22 p22 f22
      refine hr22.commits ?_
      refine hr22.crash0 ?_
      intro h26 hr26 kw26
      have p26 := hr17.was p22 f22 kw26
      refine hr26.open ?_
      intro s2 W2 h28 hr28 hr2 n28
      have p28 := p26.nw n28
      have ll := hr17.len
      refine withJ.inl (withJ.inl ?_)
      refine cnd_f rfl (cnd_f rfl ?_)
      refine hr2.pending ?_
      refine cnd_f rfl ?_
      refine hr2.commits ?_
      refine cnd_f (by show ((x'.n : Int) != x'.n) = false; simp) ?_
      refine hr2.pairs ?_
      intro r39 h40 hr40 n40 p40 f40
      refine equal_spec p40 (p28.nw n40) (by show x'.l.length ≤ _; omega) ?_
      refine cnd_f rfl ?_
      exact no s2 W2 _ h40 hr40 rfl rfl
    · refine hr.open ?_
      intro s2 W2 h44 hr44 hr2 n44
      have ll := hr.len
      refine withJ.inl ?_
      refine cnd_t rfl (cnd_t rfl ?_)
      refine hr2.pairs ?_
      intro r48 h49 hr49 n49 p49 f49
      refine (hr44.nw' n49).pairs ?_
      intro r50 h51 hr51 n51 p51 f51
      refine equal_spec (p49.nw n51) p51 (by omega) ?_
      refine cnd_t rfl ?_
      have hr2' := hr49.nw' n51
      refine hr2'.commits ?_
      refine hr51.commits ?_
      refine cnd_t (by simp) ?_
      refine hr2'.epoch ?_
      refine hr51.epoch ?_
      refine cnd_t (by simp) ?_
      exact awake_spec (fun h' n' => hk h' (hr51.nw.trans' n'))

end Kv
end Go.Proofs.Ytkgocfaajfaidaa
