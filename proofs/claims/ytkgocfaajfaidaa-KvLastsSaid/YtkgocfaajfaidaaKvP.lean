/- KvLasts. -/
import Derived.Test.YtkgocfaajfaidaaKvO
namespace Go.Proofs.Ytkgocfaajfaidaa
open Go D
set_option linter.unusedVariables false
set_option linter.unusedSimpArgs false
namespace Kv
open Wal (packL unpackL Holds appM lg0 Lg secs LRow)
open Snap (KT fitsM saveM loadM okAt)
open Disk (M readAt crash)

theorem boolsIs_of {h : Heap} {a : Option Addr} {l : Nat} (hb : BoolsAt h a l) : ∃ ks, BoolsIs h a l ks := by
  refine ⟨(List.range l).map fun i => match a with | some x => bAt h (x.add (i * 1)) | none => false, by simp, fun i hi => ?_⟩
  obtain ⟨x, z, e, c⟩ := hb i hi
  subst e
  refine ⟨x, rfl, ?_⟩
  rw [c, List.getD_eq_getElem?_getD, List.getElem?_map, List.getElem?_range hi]
  simp only [Option.map_some, Option.getD_some, bAt, c]

/-- the end: a crash, the store anew, the state that it tells -/
structure Fin (h h' : Heap) (d : Nat) (st : Sl) (acked : Int) : Prop where
  ex : ∃ (ls : List (List KV)) (n : Nat) (W : Nat → Prop) (m : M), acked = (n : Int) ∧ n ≤ 100 ∧ Sts h' W h st ls ∧ Gone h h' W d m ∧ Left m (fun y => n ≤ y.n ∧ y.n ≤ n + 1 ∧ ls[y.n]? = some y.l)

set_option maxHeartbeats 4000000 in
theorem kvLasts_spec {h : Heap} {x0 x1 x3 : Sl} {x2 x4 : Int} {css : List (List Ch)} (hc : Css h x0.a x0.len css) (hb1 : BoolsAt h x1.a x1.len) (hb3 : BoolsAt h x3.a x3.len) (h2i : InI x2) {R : Bool → Heap → Prop} (hk : ∀ h', Nw h h' → R true h') :
    CallT Try.prog 9 [.slice x0.a x0.len x0.cap, .slice x1.a x1.len x1.cap, .int .i64 x2, .slice x3.a x3.len x3.cap, .int .i64 x4] h [.sc .bool] R := by
  have hcall := law9_KvLasts_call x0 x1 x2 x3 x4 (R := R) (h := h)
  apply hcall; clear hcall
  unfold law9_KvLasts
  refine withJ.inl (withJ.inl ?_)
  have out : CallT Try.prog law9_awake_no [] h [.sc .bool] fun (r110 : Bool) h111 => R r110 h111 := awake_spec hk
  refine cnd_dec (fun c1 => cnd_t rfl out) (fun c1 => ?_)
  refine cnd_dec (fun c2 => cnd_t rfl out) (fun c2 => ?_)
  refine cnd_of (fun c3 => out) (fun c3 => ?_)
  have l20 : x0.len ≤ 20 := by
    have : ¬ (x0.len : Int) > 20 := of_decide_eq_false c3
    omega
  obtain ⟨n, rfl⟩ : ∃ n : Nat, x4 = (n : Int) := ⟨x4.toNat, by omega⟩
  refine new_open2 (n := n) (by omega) (by omega) ?_
  intro d mu im F s g t h7 a7 i7 n7 hv
  refine withJ.inl (withJ.inl ?_)
  refine cnd_f rfl (cnd_f rfl ?_)
  refine Disk.fuse_spec a7.dev h2i ?_
  intro h12 hr12 k12 s12
  have md : mu d := a7.dev.own
  have a12 : At h12 mu im F d s g t ⟨Disk.fuse (new0 n).m x2, (new0 n).q, 0, (new0 n).L, [], 0⟩ :=
    ⟨k12.row a7.row (fun e => a7.s1.1 (by have e' : s = d := e; rw [e']; exact md)), k12.row a7.log (fun e => a7.g1.1 (by have e' : g = d := e; rw [e']; exact md)), hr12, a7.tree.keep k12 (fun b hb e => (a7.f b hb).2.1 (by have e' : b = d := e; rw [e']; exact md)), a7.s1, a7.g1, a7.ne, fun b hb => ⟨by have := (a7.f b hb).1; omega, (a7.f b hb).2⟩⟩
  have i12 := inv_fuse i7 x2
  have n12 : Nw h h12 := n7.trans k12 (fun b hb e => by have e' : b = d := e; have := hv d (.inl md); omega)
  have wk12 : Wk h h12 (Vf mu im F s g) d s ⟨Disk.fuse (new0 n).m x2, (new0 n).q, 0, (new0 n).L, [], 0⟩ := ⟨⟨mu, im, F, g, t, a12, fun b => Iff.rfl⟩, hv, n12, i12⟩
  refine newB_row ?_
  intro h14 s14 r14 k14
  have wk14 := wk12.nw' k14
  have z12 := n12.size
  have st14 : Sts h14 (Vf mu im F s g) h ⟨some ⟨h12.size, 0, none⟩, 1, 1⟩ [[]] := by
    refine ⟨[.slice none 0 0], ⟨.inr ⟨h12.size, 0, _, rfl, r14, Nat.le_refl _, by simp, by simp, by simp⟩, fun b hb => ?_⟩, rfl, fun b hb hw => ?_, fun i l hi => ?_⟩
    · rw [blk_some] at hb; simp only at hb; omega
    · rw [blk_some] at hb; simp only at hb
      have := wk12.lt b hw; omega
    · cases i with
      | zero =>
        simp only [List.getElem?_cons_zero, Option.some.injEq] at hi
        subst hi
        exact ⟨none, 0, 0, rfl, ⟨rfl, fun i v hv => by simp [pcells] at hv⟩, Nat.le_refl _, fun h0 => absurd h0 (Nat.lt_irrefl 0)⟩
      | succ i => simp at hi
  clear k14 r14
  refine withJ.intro (fun (sa : Sl × Int) h17 => Fin h h17 d sa.1 sa.2) ?_ ?_
  · rintro ⟨st, ack⟩ h17 ⟨ls, nn', W, m, e, hn, sts, gn, lf⟩
    replace e : ack = (nn' : Int) := e
    replace sts : Sts h17 W h st ls := sts
    subst e
    obtain ⟨ks, hks⟩ := boolsIs_of hb3
    refine gn.open lf hks ?_
    intro mu im F s g t y h21 py oy a21 kw
    have sts21 : Sts h21 W h st ls := sts.keep kw (fun b hb => .inl hb) (fun b hb => .inl hb)
    have n21 : Nw h h21 := gn.nw.trans kw (fun b hb hw => by have := gn.new b hw; omega)
    obtain ⟨p1, p2, p3⟩ := py
    have sl := sts21.len
    have lt := (List.getElem?_eq_some_iff.1 p3).1
    have ll : y.l.length ≤ 100000 := by have := oy.szl; have := szL_len y.l; omega
    refine withJ.inl (withJ.inl ?_)
    refine cnd_f rfl (cnd_f rfl ?_)
    refine commits_spec a21 ?_
    refine withJ.inl ?_
    refine cnd_t (decide_eq_true (by show (y.n : Int) ≥ (nn' : Int); omega)) ?_
    refine cnd_t (decide_eq_true (by show (y.n : Int) < (st.len : Int); omega)) ?_
    refine cnd_t (decide_eq_true (by show (y.n : Int) ≤ w64 ((nn' : Int) + 1); rw [w64_id (by omega) (by omega)]; omega)) ?_
    refine sts21.at p3 ?_
    intro ya a' n' c' hcell hp hle hf
    refine ldL_at hcell ?_
    refine pairs_spec a21 (by omega) ?_
    intro r32 h33 n33 o33
    refine ⟨ldL_at (n33.cell hcell (fun h => h)) rfl, ?_⟩
    refine equal_spec (r2 := ⟨a', n', c'⟩) o33.pr (hp.nw n33) (by omega) ?_
    refine cnd_t rfl ?_
    exact awake_spec (fun h' n' => hk h' ((n21.trans' n33).trans' n'))
  · intro J16 hJ16
    have cl := hc.1
    refine LoopT.intro (fun (sa : Sl × Int × Int) h' => ∃ (k : Nat) (W : Nat → Prop) (x : St) (ls : List (List KV)), sa.2.2 = (k : Int) ∧ k ≤ css.length ∧ Wk h h' W d s x ∧ Sts h' W h sa.1 ls ∧ sa.2.1 = (x.n : Int) ∧ ls.length = x.n + 1 ∧ ls[x.n]? = some x.l ∧ x.n ≤ k ∧ x.E ≤ 2 * k) (fun sa _ => ((css.length : Int) - sa.2.2).toNat)
      ⟨0, _, _, [[]], rfl, Nat.zero_le _, wk14, st14, rfl, rfl, rfl, Nat.le_refl _, Nat.le_refl _⟩ ?_
    rintro ⟨st, ack, i⟩ h44 ⟨k, W, x, ls, ei, hk', wk, sts, ea, lsl, lsx, hn, hE⟩
    replace ei : i = (k : Int) := ei
    replace ea : ack = (x.n : Int) := ea
    replace sts : Sts h44 W h st ls := sts
    subst ei ea
    have k20 : k ≤ 20 := by omega
    -- the end, as it is now
    have toEnd : ∀ {W : Nat → Prop} {x' : St} {h' : Heap}, Wk h h' W d s x' → Sts h' W h st ls → x'.n = x.n → x'.l = x.l → J16 (st, (x.n : Int)) h' := fun {W x' h'} wk' sts' e1 e2 => by
      obtain ⟨g1, g2⟩ := wk'.gone
      refine hJ16 _ h' ⟨ls, x.n, W, _, rfl, by omega, sts', g1, fun ks hz => ?_⟩
      obtain ⟨y, y1, y2, y3, y4⟩ := g2 ks hz
      exact ⟨y, y1, y2, by omega, by omega, by rw [y4, e1, y3, e2]; exact lsx⟩
    refine cnd_dec (fun hi => ?_) (fun hi => toEnd wk sts rfl rfl)
    have hkl : k < css.length := by have : (k : Int) < (x0.len : Int) := hi; omega
    have ew : w64 ((k : Int) + 1) = ((k + 1 : Nat) : Int) := by rw [w64_id (by omega) (by omega)]; omega
    have ew1 : w64 ((x.n : Int) + 1) = ((x.n + 1 : Nat) : Int) := by rw [w64_id (by omega) (by omega)]; omega
    refine withJ.inl ?_
    refine withJ.intro (fun (_ : Unit) h50 => ∃ (W : Nat → Prop) (x' : St), Wk h h50 W d s x' ∧ Sts h50 W h st ls ∧ x'.n = x.n ∧ x'.l = x.l ∧ x'.E ≤ 2 * k + 1) ?_ ?_
    · rintro _ h50 ⟨W5, x5, wk5, sts5, en5, el5, eE5⟩
      have sl := sts5.len
      have elast : w64 ((st.len : Int) - 1) = ((x.n : Nat) : Int) := by rw [w64_id (by omega) (by omega)]; omega
      rw [elast]
      refine sts5.at lsx ?_
      intro ya a' n' c' hcell hp hle hf
      refine ldL_at hcell ?_
      refine (hc.nw wk5.nw).at hkl ?_
      intro o54 l54 c54 hch hl54
      refine changes_spec hch hl54 ?_
      intro r55 h56 n56 ch56 f55
      have cl55 := ch56.1
      have csl : css[k].length ≤ 4000000000000 := by have := hch.1; omega
      have wl5 := wk5.lt
      have z56 := n56.size
      have asc0 : Asc (x.l.map (·.1)) := by rw [← el5]; exact wk5.asc
      have len0 : x.l.length ≤ 100000 := by rw [← el5]; exact wk5.len
      have stb : ∀ b, blk st.a b → b < h50.size := fun b hb => by
        obtain ⟨vs, ow, _⟩ := sts5
        exact ow.lt hb
      refine LoopT.intro (fun (sa : Sl × Int) h' => ∃ j : Nat, sa.2 = (j : Int) ∧ j ≤ css[k].length ∧ Pr h' sa.1 (addC x.l (css[k].take j)) ∧ sa.1.len ≤ sa.1.cap ∧ (0 < sa.1.len → ∀ b, blk sa.1.a b → ¬ W5 b ∧ ¬ blk st.a b) ∧ Nw h56 h') (fun sa _ => ((css[k].length : Int) - sa.2).toNat)
        ⟨0, rfl, Nat.zero_le _, hp.nw n56, hle, hf, .refl _ _⟩ ?_
      rintro ⟨now, j⟩ h59 ⟨jj, ej, hjl, pn, len, fn, nw5659⟩
      have nw59 := n56.trans' nw5659
      replace ej : j = (jj : Int) := ej
      replace pn : Pr h59 now (addC x.l (css[k].take jj)) := pn
      replace len : now.len ≤ now.cap := len
      replace fn : 0 < now.len → ∀ b, blk now.a b → ¬ W5 b ∧ ¬ blk st.a b := fn
      subst ej
      have z59 := nw59.size
      refine cnd_dec (fun hj => ?_) (fun hj => ?_)
      · have hjk : jj < css[k].length := by have : (jj : Int) < (r55.len : Int) := hj; omega
        have ewj : w64 ((jj : Int) + 1) = ((jj + 1 : Nat) : Int) := by rw [w64_id (by omega) (by omega)]; omega
        have et : css[k].take (jj + 1) = css[k].take jj ++ [css[k][jj]] := by rw [List.take_add_one, List.getElem?_eq_getElem hjk]; rfl
        have ch59 : Chs h59 r55.a r55.len css[k] := ch56.nw nw5659
        refine ch59.at hjk ?_
        intro xa c1 c2 c3
        refine ldS_at c1 (ldS_at c2 (ldB_at c3 ?_))
        have al := addC_len (css[k].take jj) x.l
        rw [List.length_take] at al
        refine rwith_spec pn (by omega) len (addC_asc _ asc0) ?_
        intro r64 h65 n65 o65
        refine ⟨⟨jj + 1, ewj, by omega, ?_, o65.le, fun h0 b hb => ?_, nw5659.trans' n65⟩, ?_⟩
        · rw [et, addC_snoc]; exact o65.pr
        · have := o65.fresh b hb
          exact ⟨fun hw => by have := wl5 b hw; omega, fun hb2 => by have := stb b hb2; omega⟩
        · show ((css[k].length : Int) - w64 ((jj : Int) + 1)).toNat < ((css[k].length : Int) - (jj : Int)).toNat
          rw [ewj]; omega
      · have hje : jj = css[k].length := by have : ¬ (jj : Int) < (r55.len : Int) := hj; omega
        subst hje
        rw [List.take_length] at pn
        have wk59 := wk5.nw' nw59
        have sts59 := sts5.nw nw59
        refine (hc.nw wk59.nw).at hkl ?_
        intro o67 l67 c67 hch67 hl67
        have pnlt : 0 < now.len → ∀ b, blk now.a b → b < h59.size := fun h0 b hb => Rv.lt pn (by omega) hb
        refine wk59.commit (by omega) (by omega) hch67 hl67 ?_ ?_ ?_
        · intro e x' W' h69 he exl exn exE wk69 kw gw
          have sts69 : Sts h69 W' h st ls := sts59.keep kw (fun b hb => .inl hb) gw
          have e0 : (e == 0) = false := by rcases he with rfl | rfl <;> rfl
          have e50 : (e == 50) = false := by rcases he with rfl | rfl <;> rfl
          refine withJ.inl (withJ.inl ?_)
          refine cnd_f e0 (cnd_f e50 ?_)
          refine cnd_f e50 ?_
          refine withJ.inl ?_
          refine cnd_f e0 ?_
          refine withJ.inl ?_
          rw [elast]
          refine sts69.at lsx ?_
          intro ya2 a2 n2 c2 hcell2 hp2 _ _
          refine ldL_at hcell2 ?_
          refine wk69.pairs ?_
          intro r81 h82 wk82 n82 p81
          rw [exl, el5] at p81
          refine ⟨ldL_at (n82.cell hcell2 (fun h => h)) rfl, ?_⟩
          refine equal_spec (r2 := ⟨a2, n2, c2⟩) p81 (hp2.nw n82) (by omega) ?_
          refine cnd_f rfl ?_
          refine wk82.commits ?_
          refine cnd_f (by show ((x'.n : Int) != (x.n : Int)) = false; rw [exn, en5]; simp) ?_
          refine ⟨⟨k + 1, W', x', ls, ew, by omega, wk82, sts69.nw n82, by rw [exn, en5], by omega, by rw [exn, en5, exl, el5]; exact lsx, by omega, by omega⟩, ?_⟩
          show ((css.length : Int) - w64 ((k : Int) + 1)).toNat < ((css.length : Int) - (k : Int)).toNat
          rw [ew]; omega
        · intro x' W' h69 exl exn exE wk69 kw gw
          have sts69 : Sts h69 W' h st ls := sts59.keep kw (fun b hb => .inl hb) gw
          have z69 := kw.size
          refine withJ.inl (withJ.inl ?_)
          refine cnd_t rfl (cnd_t rfl ?_)
          rw [el5] at exl
          have pn69 : Pr h69 now (addC x.l css[k]) := Rv.keep pn kw (fun h0 b hb => (fn (by omega) b hb).1)
          refine sts69.push wk69.nw wk69.lt pn69 len (fun h0 b hb => ⟨fun hw => ?_, (fn h0 b hb).2⟩) (by omega) ?_
          · rcases gw b hw with q | q
            · exact (fn h0 b hb).1 q
            · have := pnlt h0 b hb; omega
          intro a' c' h95 sts95 nw95 kb95
          have wk95 : Wk h h95 W' d s x' := by
            obtain ⟨vs, ow, _, nb, _⟩ := sts69
            exact wk69.far kb95 (fun b hb hb2 => nb b hb2 hb) nw95
          refine cnd_f rfl ?_
          refine withJ.inl ?_
          refine cnd_t rfl ?_
          refine withJ.inl ?_
          rw [ew1]
          have elast2 : w64 (((st.len + 1 : Nat) : Int) - 1) = ((x.n + 1 : Nat) : Int) := by rw [w64_id (by omega) (by omega)]; omega
          have lsx2 : (ls ++ [addC x.l css[k]])[x.n + 1]? = some (addC x.l css[k]) := by rw [← lsl, List.getElem?_append_right (Nat.le_refl _), Nat.sub_self]; rfl
          rw [elast2]
          refine sts95.at lsx2 ?_
          intro ya2 a2 n2 c2 hcell2 hp2 _ _
          refine ldL_at hcell2 ?_
          refine wk95.pairs ?_
          intro r81 h82 wk82 n82 p81
          rw [exl] at p81
          have ll := wk95.len
          rw [exl] at ll
          refine ⟨ldL_at (n82.cell hcell2 (fun h => h)) rfl, ?_⟩
          refine equal_spec (r2 := ⟨a2, n2, c2⟩) p81 (hp2.nw n82) (by omega) ?_
          refine cnd_f rfl ?_
          refine wk82.commits ?_
          refine cnd_f (by show ((x'.n : Int) != ((x.n + 1 : Nat) : Int)) = false; rw [exn, en5]; simp) ?_
          refine ⟨⟨k + 1, W', x', ls ++ [addC x.l css[k]], ew, by omega, wk82, sts95.nw n82, by rw [exn, en5], by rw [List.length_append, List.length_singleton, exn, en5, lsl], by rw [exn, en5, exl]; exact lsx2, by omega, by omega⟩, ?_⟩
          show ((css.length : Int) - w64 ((k : Int) + 1)).toNat < ((css.length : Int) - (k : Int)).toNat
          rw [ew]; omega
        · intro m W' h69 gn kw gw lf
          have sts69 : Sts h69 W' h st ls := sts59.keep kw (fun b hb => .inl hb) gw
          refine withJ.inl (withJ.inl ?_)
          refine cnd_f rfl (cnd_t rfl ?_)
          have pn69 : Pr h69 now (addC x.l css[k]) := Rv.keep pn kw (fun h0 b hb => (fn (by omega) b hb).1)
          have z69 := kw.size
          refine sts69.push gn.nw gn.lt pn69 len (fun h0 b hb => ⟨fun hw => ?_, (fn h0 b hb).2⟩) (by omega) ?_
          · rcases gw b hw with q | q
            · exact (fn h0 b hb).1 q
            · have := pnlt h0 b hb; omega
          intro a' c' h95 sts95 nw95 kb95
          refine cnd_t rfl ?_
          refine hJ16 _ h95 ⟨ls ++ [addC x.l css[k]], x.n, W', m, rfl, by omega, sts95, ?_, fun ks hz => ?_⟩
          · obtain ⟨vs, ow, _, nb, _⟩ := sts69
            exact gn.far kb95 (fun b hb hb2 => nb b hb2 hb) nw95
          · obtain ⟨y, y1, y2, y3⟩ := lf ks hz
            refine ⟨y, y1, y2, ?_⟩
            rcases y3 with ⟨y3, y4⟩ | ⟨y3, y4⟩
            · refine ⟨by omega, by omega, ?_⟩
              rw [y4, en5, y3, el5, List.getElem?_append_left (by omega)]
              exact lsx
            · refine ⟨by omega, by omega, ?_⟩
              rw [y4, en5, y3, el5, ← lsl, List.getElem?_append_right (Nat.le_refl _), Nat.sub_self]; rfl
    · intro J49 hJ49
      refine withJ.intro (fun (_ : Bool) h99 => h99 = h44) ?_ ?_
      · rintro b h99 rfl
        refine cnd_of (fun _ => ?_) (fun _ => ?_)
        · refine wk.check (by omega) ?_ ?_
          · intro x' W' h101 exl exn exE wk101 kw gw
            refine cnd_f rfl ?_
            exact hJ49 () h101 ⟨W', x', wk101, sts.keep kw (fun b hb => .inl hb) gw, exn, exl, by omega⟩
          · intro m W' h101 gn kw gw lf
            refine cnd_t rfl ?_
            refine hJ16 _ h101 ⟨ls, x.n, W', m, rfl, by omega, sts.keep kw (fun b hb => .inl hb) gw, gn, fun ks hz => ?_⟩
            obtain ⟨y, y1, y2, y3, y4⟩ := lf ks hz
            exact ⟨y, y1, y2, by omega, by omega, by rw [y4, y3]; exact lsx⟩
        · exact hJ49 () h99 ⟨W, x, wk, sts, rfl, rfl, by omega⟩
      · intro J98 hJ98
        refine cnd_dec (fun hx1 => ?_) (fun _ => hJ98 false h44 rfl)
        have hlt : k < x1.len := by have : (k : Int) < (x1.len : Int) := hx1; omega
        obtain ⟨xa, z, e, c⟩ := hb1 k hlt
        refine ⟨xa, e, by show (0 : Int) ≤ (k : Int); omega, by show (k : Int) < (x1.len : Int); omega, ?_⟩
        refine ldB_at (n := z) ?_ (hJ98 z h44 rfl)
        rw [Int.toNat_natCast]
        exact wk.nw.cell c (fun h => h)

end Kv
end Go.Proofs.Ytkgocfaajfaidaa
