/- Commit. -/
import Derived.Test.YtkgocfaajfaidaaKvF
namespace Go.Proofs.Ytkgocfaajfaidaa
open Go D
set_option linter.unusedVariables false
set_option linter.unusedSimpArgs false
namespace Kv
open Wal (packL unpackL Holds appM lg0 Lg secs LRow)
open Snap (KT fitsM saveM loadM okAt)
open Disk (M readAt crash)

/-- a slice of changes -/
def Chs (h : Heap) (a : Option Addr) (l : Nat) (cs : List Ch) : Prop := l = cs.length ∧ ∀ i c, cs[i]? = some c → ∃ x : Addr, a = some x ∧ cellH h (x.add (i * 3)) = some (.string c.1) ∧ cellH h ((x.add (i * 3)).add 1) = some (.string c.2.1) ∧ cellH h ((x.add (i * 3)).add 2) = some (.bool c.2.2)
theorem add_blk (x : Addr) (n : Nat) : (x.add n).block = x.block := (add_block x n)
theorem Chs.keep {S : Nat → Prop} {h h' : Heap} {a : Option Addr} {l : Nat} {cs : List Ch} (hc : Chs h a l cs) (hk : Keep S h h') (hn : 0 < l → ∀ b, blk a b → ¬ S b) : Chs h' a l cs := by
  refine ⟨hc.1, fun i c hi => ?_⟩
  obtain ⟨x, e1, c1, c2, c3⟩ := hc.2 i c hi
  have hl : 0 < l := by have := (List.getElem?_eq_some_iff.1 hi).1; have := hc.1; omega
  have nb : ¬ S x.block := hn hl x.block ⟨x, e1, rfl⟩
  exact ⟨x, e1, hk.cell c1 (by rw [add_blk]; exact nb), hk.cell c2 (by rw [add_blk, add_blk]; exact nb), hk.cell c3 (by rw [add_blk, add_blk]; exact nb)⟩
theorem Chs.nw {h h' : Heap} {a : Option Addr} {l : Nat} {cs : List Ch} (hc : Chs h a l cs) (hk : Nw h h') : Chs h' a l cs := hc.keep hk (fun _ _ _ h => h)
theorem Chs.at {h : Heap} {a : Option Addr} {l : Nat} {cs : List Ch} (hc : Chs h a l cs) {i : Nat} (hi : i < cs.length) {K : Addr → Prop}
    (hk : ∀ x : Addr, cellH h (x.add ((i : Int).toNat * 3)) = some (.string cs[i].1) → cellH h ((x.add ((i : Int).toNat * 3)).add 1) = some (.string cs[i].2.1) → cellH h ((x.add ((i : Int).toNat * 3)).add 2) = some (.bool cs[i].2.2) → K x) : idx a l (i : Int) K := by
  obtain ⟨x, e1, c1, c2, c3⟩ := hc.2 i cs[i] (List.getElem?_eq_getElem hi)
  have := hc.1
  refine ⟨x, e1, by omega, by omega, hk x ?_ ?_ ?_⟩ <;> rw [Int.toNat_natCast] <;> assumption

theorem app_clen (m : M) (L : Lg) (rs : List ByteArray) : (appM m L rs).2.1.c.length ≤ m.c.length + secs (packL rs).length + 3 := by
  unfold Wal.appM
  split
  · show m.c.length ≤ _; omega
  · split
    · show m.c.length ≤ _; omega
    · have hk := Wal.secs_pos (packL rs).length
      have al : ∀ F, (Wal.aws L F (secs (packL rs).length)).length ≤ secs (packL rs).length := fun F => by
        unfold Wal.aws Wal.fws
        rw [List.length_append, List.length_map, List.length_range]
        split <;> simp <;> omega
      have h := fun F y => (Disk.commit_len m (Wal.aws L F (secs (packL rs).length)) y).2
      dsimp only
      split
      · have a1 := h (Wal.frameF L.ep L.nx (packL rs)) (L.fr + L.pos, Wal.chunk (Wal.frameF L.ep L.nx (packL rs)) 0)
        have a2 := al (Wal.frameF L.ep L.nx (packL rs))
        simp only
        omega
      · have a1 := h (Wal.frameF L.ep L.nx (packL rs)) (L.fr + L.pos, Wal.chunk (Wal.frameF L.ep L.nx (packL rs)) 0)
        have a2 := al (Wal.frameF L.ep L.nx (packL rs))
        simp only
        omega
theorem recs_le : ∀ (cs : List Ch), (∀ c ∈ cs, mayC c = true) → (packL (recsL cs)).length ≤ 70000 * cs.length
  | [], _ => Nat.le_refl _
  | c :: cs, h => by
    have ih := recs_le cs (fun x hx => h x (by simp [hx]))
    have := recL_len (h c (by simp))
    show (packL (recS c :: recsL cs)).length ≤ _
    rw [packL_len_cons]
    have : (recS c).size = (packL (recL c)).length := Snap.ofL_size _
    simp only [List.length_cons]; omega

section
variable {h : Heap} {mu im F : Nat → Prop} {d s g t : Nat} {x : St}

set_option maxHeartbeats 4000000 in
theorem commit_spec (ha : At h mu im F d s g t x) (hx : Inv x) (hE : x.E < 999999999) (hn : x.n < 999999999) {a : Option Addr} {l c : Nat} {cs : List Ch} (hcs : Chs h a l cs) (hl : l ≤ 4000000000000) {R : Int → Heap → Prop}
    (k1 : (¬ ∀ c ∈ cs, mayC c = true) → ∀ h', Nw h h' → R 1 h')
    (k60 : (∀ c ∈ cs, mayC c = true) → (fitsM x.q (12 + szL (addC x.l cs) : Nat) = false ∨ 2 * x.q < secs (packL (recsL cs)).length) → ∀ mu' im' g' x' h', At h' mu' im' F d s g' t x' → Inv x' → Same x x' → Step h h' mu im F mu' im' F s g g' → R 60 h')
    (k0 : (∀ c ∈ cs, mayC c = true) → ∀ mu' im' F' g' t' x' h', At h' mu' im' F' d s g' t' x' → Inv x' → x'.q = x.q → x'.l = addC x.l cs → x'.n = x.n + 1 → x.E ≤ x'.E → x'.E ≤ x.E + 1 → (x.m.st = 0 → x'.m.st = 0) → (x.L.pos + (secs (packL (recsL cs)).length : Int) ≤ 2 * x.q → x'.L.pos = x.L.pos + (secs (packL (recsL cs)).length : Int)) → Step h h' mu im F mu' im' F' s g g' → R 0 h')
    (k50 : x.m.st ≠ 0 → (∀ c ∈ cs, mayC c = true) → ∀ mu' im' m' h', Disk.Rep h' d mu' im' m' → Keep (Wr mu s g) h h' → (∀ b, mu' b → mu b ∨ h.size ≤ b) → (∀ b, im' b → im b ∨ h.size ≤ b) → m'.c.length ≤ 900000 → (∀ ks, (∀ i, (readAt (crash m' ks) i).size = 256) → ∃ y, y.m = crash m' ks ∧ Ops y ∧ ((y.l = x.l ∧ y.n = x.n) ∨ (y.l = addC x.l cs ∧ y.n = x.n + 1))) → R 50 h') :
    CallT Try.prog kv_Store_Commit_no [.pointer (some ⟨s, 0, none⟩), .slice a l c] h [.sc (.int .i64)] R := by
  have hcall := kv_Store_Commit_call (some ⟨s, 0, none⟩) ⟨a, l, c⟩ (R := R) (h := h)
  apply hcall; clear hcall
  unfold kv_Store_Commit
  have heb := hx.eb
  obtain ⟨q1, q2, q3⟩ := hx.q4
  have hc := hx.c
  have szl := hx.szl
  have hll := szL_len x.l
  obtain ⟨ls, lg⟩ := ha.lts
  have cl := hcs.1
  refine dead_spec ha.row rfl ?_
  refine cnd_f rfl ?_
  rw [nn_eq, add_mk]
  refine ldP_row (o := 0 + 4) ha.row rfl ?_
  refine LoopT.intro (fun (st : Sl × Option Addr × Int) h' => ∃ k p, st.2.1 = some ⟨p, 0, none⟩ ∧ st.2.2 = ((k : Nat) : Int) ∧ k ≤ cs.length ∧ (∀ c ∈ cs.take k, mayC c = true) ∧ Own h h' 1 st.1 ((recsL (cs.take k)).map .string) ∧ (∃ G, (∀ b, G b → Fn F h h' b) ∧ (∀ b, blk st.1.a b → ¬ G b) ∧ TreeAt h' G p (addC x.l (cs.take k))) ∧ Nw h h') (fun st _ => ((cs.length : Int) - st.2.2).toNat)
    ⟨0, t, rfl, rfl, Nat.zero_le _, fun c hc => by simp at hc, Own.nil _ _ _, ⟨F, fun b hb => .inl hb, fun b hb => (by obtain ⟨y, e, _⟩ := hb; cases e), ha.tree⟩, .refl _ _⟩ ?_
  rintro ⟨rs, po, i⟩ h7 ⟨k, p, ep, ei, hk, hm, ow, ⟨G, gF, gS, tr⟩, nw⟩
  replace gS : ∀ b, blk rs.a b → ¬ G b := gS
  replace ep : po = some ⟨p, 0, none⟩ := ep
  replace ei : i = (k : Int) := ei
  replace ow : Own h h7 1 rs ((recsL (cs.take k)).map .string) := ow
  subst ep ei
  have z7 := nw.size
  have ol := ow.len
  rw [List.length_map] at ol
  have rl : (recsL (cs.take k)).length = k := by unfold recsL; rw [List.length_map, List.length_take]; omega
  have fF : ∀ b, G b → b < h7.size := fun b hb => fn_lt (fun b hb => (ha.f b hb).1) z7 b (gF b hb)
  have al := addC_len (cs.take k) x.l
  rw [List.length_take] at al
  refine cnd_dec (fun hi => ?_) (fun hi => ?_)
  · have hk' : k < cs.length := by have : (k : Int) < (l : Int) := hi; omega
    have et : cs.take (k + 1) = cs.take k ++ [cs[k]] := by rw [List.take_add_one, List.getElem?_eq_getElem hk']; rfl
    refine (hcs.nw nw).at hk' ?_
    intro xa c1 c2 c3
    refine ldS_at c1 (ldS_at c2 (ldB_at c3 ?_))
    refine newB_row ?_
    intro h13 s13 r13 k13
    refine stC_row (o := 0) r13 (by simp) rfl ?_
    intro h14 s14 r14 k14
    refine stC_row (o := 0 + 1) r14 (by simp) rfl ?_
    intro h15 s15 r15 k15
    refine stC_row (o := 0 + 2) r15 (by simp) rfl ?_
    intro h16 s16 r16 k16
    have n716 : Nw h7 h16 := Nw.st (Nw.st (Nw.st k13 k14 (Nat.le_refl _)) k15 (Nat.le_refl _)) k16 (Nat.le_refl _)
    refine ldS_row (o := 0) r16 rfl (ldS_row (o := 0 + 1) r16 rfl (ldB_row (o := 0 + 2) r16 rfl ?_))
    refine may_spec (c := cs[k]) ?_
    intro h21 n21
    have n721 := n716.trans' n21
    refine cnd_of (fun hno => ?_) (fun hyes => ?_)
    · refine k1 (fun hall => ?_) h21 (nw.trans' n721)
      have := hall _ (List.getElem_mem hk')
      rw [this] at hno; cases hno
    have hmk : mayC cs[k] = true := by simpa using hyes
    have r21 := n21.row r16 (fun h => h)
    refine ldS_row (o := 0) r21 rfl (ldS_row (o := 0 + 1) r21 rfl (ldB_row (o := 0 + 2) r21 rfl ?_))
    refine record_spec (c := cs[k]) hmk ?_
    intro h26 n26
    have n726 := n721.trans' n26
    have z26 := n726.size
    refine (ow.nw n726).push ((nw.trans' n726)) rfl rfl rfl (by intro u hu; rcases List.mem_cons.1 hu with rfl | hu; rfl; cases hu) (by omega) ?_
    intro a' c' h31 q1 q2 q3 q4
    have oblk : ∀ b, blk rs.a b → b < h7.size := fun b hb => ow.lt hb
    have r31 := q3.row (n26.row r21 (fun h => h)) (fun hb => absurd (oblk h7.size hb) (Nat.lt_irrefl _))
    refine ldS_row (o := 0) r31 rfl (ldS_row (o := 0 + 1) r31 rfl (ldB_row (o := 0 + 2) r31 rfl ?_))
    have z31 := q3.size
    have tr31 : TreeAt h31 G p (addC x.l (cs.take k)) := (tr.nw n726).keep q3 (fun b hb hb2 => gS b hb2 hb)
    refine apply_spec (c := cs[k]) tr31 (fun b hb => by have := fF b hb; omega) (by omega) ?_
    intro p' h37 n37 t37
    have z37 := n37.size
    have ew : w64 ((k : Int) + 1) = ((k + 1 : Nat) : Int) := by rw [w64_id (by omega) (by omega)]; omega
    refine ⟨⟨k + 1, p', rfl, ew, by omega, fun c hc => ?_, ?_, ⟨Fn G h31 h37, fun b hb => ?_, fun b hb hg => ?_, ?_⟩, q2.trans' n37⟩, ?_⟩
    · rw [et] at hc
      rcases List.mem_append.1 hc with hc | hc
      · exact hm c hc
      · rw [List.mem_singleton] at hc; subst hc; exact hmk
    · have e1 : (recsL (cs.take (k + 1))).map Value.string = (recsL (cs.take k)).map .string ++ [.string (recS cs[k])] := by
        rw [et]; unfold recsL; rw [List.map_append, List.map_append]; rfl
      rw [e1]
      exact q1.nw n37
    · rcases hb with hb | hb
      · exact fn_mono (Nat.le_refl _) (by omega) (gF b hb)
      · exact .inr ⟨by have := hb.1; omega, hb.2⟩
    · have hb' : blk a' b := hb
      have hlt := q1.lt hb'
      rcases hg with hg | hg
      · rcases q4 b hb' with q | q
        · exact gS b q hg
        · have := fF b hg; omega
      · have := hg.1; omega
    · rw [et, addC_snoc]
      exact t37
    · show ((cs.length : Int) - w64 ((k : Int) + 1)).toNat < ((cs.length : Int) - (k : Int)).toNat
      rw [ew]; omega
  · have hke : k = cs.length := by have : ¬ (k : Int) < (l : Int) := hi; omega
    subst hke
    rw [List.take_length] at hm ow tr rl al ol
    have hx7 := ha.nw nw
    have okl := addC_ok hm hx.ok
    have ub := okL_sz okl.1
    have ub2 := recs_le cs hm
    rw [nn_eq, add_mk]
    refine ldI_row (o := 0 + 1) hx7.row rfl ?_
    refine size_spec tr fF (by omega) ?_
    intro h41 n41
    have a41 := hx7.nw n41
    refine ⟨ldI_row (o := 0 + 1) a41.row rfl rfl, ?_⟩
    refine Snap.fits_spec (by exact ⟨by omega, by omega⟩) (by exact ⟨by omega, by omega⟩) ?_
    have n041 := nw.trans' n41
    have z41 := n41.size
    have st0 : ∀ h', Nw h h' → Step h h' mu im F mu im F s g g := fun h' hn' => ⟨hn'.mono (fun _ _ h => h.elim), fun b hb => .inl hb, fun b hb => .inl hb, fun b hb => .inl hb, .inl rfl⟩
    have same0 : Same x x := ⟨rfl, rfl, rfl, Nat.le_refl _, by omega, fun h => h⟩
    refine cnd_of (fun hno => ?_) (fun hyes => ?_)
    · exact k60 hm (.inl (by simpa using hno)) mu im g x h41 a41 hx same0 (st0 _ n041)
    have hfit : fitsM x.q (12 + szL (addC x.l cs) : Nat) = true := by simpa using hyes
    have ow41 := ow.nw n41
    have tr41 := tr.nw n41
    obtain ⟨nd, end_⟩ : ∃ nd, nd = secs (packL (recsL cs)).length := ⟨_, rfl⟩
    refine withJ.intro (fun _ h47 => ∃ mu' im' g' x', At h47 mu' im' F d s g' t x' ∧ Inv x' ∧ Same x x' ∧ Step h41 h47 mu im F mu' im' F s g g' ∧ x'.L.pos + (nd : Int) ≤ 2 * x.q ∧ (x.L.pos + (nd : Int) ≤ 2 * x.q → x'.L = x.L)) ?_ ?_
    · rintro _ h47 ⟨mu', im', g', x', a47, i47, sm, sp, rm, sL⟩
      have z47 := sp.keep.size
      have lf := i47.lf
      have hq := sm.q
      rw [nn_eq, add_mk]
      refine ldP_row (o := 0 + 3) a47.row rfl ?_
      have wl := ha.wr_lt
      have ow47 : Own h h47 1 rs ((recsL cs).map .string) := ow41.keep sp.keep (fun b hb hw => by have := ow.fresh b hb; have := wl b hw; omega)
      have tr47 : TreeAt h47 G p (addC x.l cs) := tr41.keep sp.keep (fun b hb hw => by
        rcases gF b hb with hb | hb
        · exact ha.F_wr b hb hw
        · have := wl b hw; have := hb.1; omega)
      refine Wal.append_spec a47.dev (by rw [i47.c]; simp) a47.log a47.g1 (by omega) (by omega) ⟨by omega, by omega⟩ ⟨by omega, by omega⟩ (by omega) ow47.sl.rv (by omega) ?_
      intro mu2 im2 h51 hr51 rg51 k51 gr51
      have hpos : x'.L.pos + (secs (packL (recsL cs)).length : Int) ≤ 2 * x'.q := by rw [hq, ← end_]; exact rm
      have hfit' : fitsM x'.q (12 + szL (addC x'.l cs) : Nat) = true := by rw [hq, sm.l]; exact hfit
      obtain ⟨c1, c2, c3, c4⟩ := i47.append hm hfit' hpos (by rw [sm.n]; omega)
      obtain ⟨⟨e, m', L'⟩, hap⟩ : ∃ r, r = appM x'.m x'.L (recsL cs) := ⟨_, rfl⟩
      rw [← hap] at hr51 rg51 c1 c2 c3 c4 ⊢
      have z51 := k51.size
      have nsg : s ≠ g' := a47.ne
      have r51 := k51.row a47.row (fun hm => by rcases hm with hm | hm; exact a47.s1.1 hm; exact nsg hm)
      refine told_spec r51 rfl ?_
      intro h53 r53 k53 s53
      have ls47 := a47.lts.1
      have nmu2 : ¬ mu2 s := fun hm => by
        rcases gr51.1 s hm with h1 | h1
        · exact a47.s1.1 h1
        · omega
      have nim2 : ¬ im2 s := fun hm => by
        rcases gr51.2 s hm with h1 | h1
        · exact a47.s1.2 h1
        · omega
      have ks : ∀ {mm : Nat → Prop}, ¬ mm s → ∀ b, mm b → ¬ (b = s) := fun hn b hb e => hn (by rw [← e]; exact hb)
      have hr53 := hr51.keep k53 (ks nmu2) (ks nim2)
      have rg53 := k53.row rg51 (fun e => nsg e.symm)
      have mu47 : ∀ b, mu' b → mu b ∨ h.size ≤ b := fun b hb => (sp.gm b hb).imp id (fun h => by omega)
      have z0 := n041.size
      have k4753 : Keep (fun b => Wr mu s g b ∨ h.size ≤ b) h47 h53 := (k51.mono (T := fun b => Wr mu s g b ∨ h.size ≤ b) (fun b _ hb => by
        rcases hb with hb | hb
        · exact (mu47 b hb).imp .inl id
        · rcases sp.gg with hg | hg
          · exact .inl (.inr (.inr (by rw [hb, hg])))
          · exact .inr (by omega))).trans k53 (fun b _ e => .inl (.inr (.inl e)))
      have k4153 : Keep (fun b => Wr mu s g b ∨ h.size ≤ b) h41 h53 := (sp.keep.mono (fun b _ hb => .inl hb)).trans k4753 (fun b _ hb => hb)
      have k053 : Keep (Wr mu s g) h h53 := by
        have := n041.trans (T := fun b => Wr mu s g b ∨ h.size ≤ b) (S := fun _ => False) (a := h) (b := h41) (c := h53)
        refine ⟨by have := k4753.size; omega, fun b hb hn => ?_⟩
        rw [k4153.same b (by omega) (fun e => by rcases e with e | e; exact hn e; omega)]
        exact n041.same b hb (fun h => h)
      have z53 := k053.size
      have gm2 : ∀ b, mu2 b → mu b ∨ h.size ≤ b := fun b hb => by
        rcases gr51.1 b hb with hb | hb
        · exact mu47 b hb
        · exact .inr (by omega)
      have gi2 : ∀ b, im2 b → im b ∨ h.size ≤ b := fun b hb => by
        rcases gr51.2 b hb with hb | hb
        · exact (sp.gi b hb).imp id (fun h => by omega)
        · exact .inr (by omega)
      rcases c4 with e0 | e50
      rotate_left
      · have e50' : e = 50 := e50
        subst e50'
        refine cnd_t rfl ?_
        have hst : x.m.st ≠ 0 := fun e => by have := (c3 (sm.st e)).1; exact absurd this (by show ¬ (50 : Int) = 0; omega)
        have mcl : m'.c.length ≤ 900000 := by
          have := app_clen x'.m x'.L (recsL cs)
          rw [← hap, i47.c] at this
          simp only [List.length_nil] at this
          omega
        refine k50 hst hm mu2 im2 m' h53 hr53 k053 gm2 gi2 mcl (fun ks hz => ?_)
        obtain ⟨y, y1, y2, y3, y4⟩ := c2 (by show (50 : Int) ≠ 0; omega) ks
        refine ⟨y, y1, y2.ops (by rw [y1]; show (0 : Int) ≠ 2; omega), ?_⟩
        rw [← sm.l, ← sm.n]; exact y4
      · have e0' : e = 0 := e0
        subst e0'
        rw [if_pos (.inl rfl)] at r53
        refine cnd_f rfl ?_
        obtain ⟨inv, pos'⟩ := c1 rfl
        rw [nn_eq, add_mk]
        refine stC_row (o := 0 + 4) r53 (by simp [SRow]) rfl ?_
        intro h55 s55 r55 k55
        rw [nn_eq, add_mk]
        refine ldI_row (o := 0 + 5) r55 rfl ?_
        rw [nn_eq, add_mk]
        refine stC_row (o := 0 + 5) r55 (by simp [SRow]) rfl ?_
        intro h59 s59 r59 k59
        have ewn : w64 ((x'.n : Int) + 1) = ((x'.n + 1 : Nat) : Int) := by have := sm.n; rw [w64_id (by omega) (by omega)]; omega
        rw [ewn] at r59
        have k5359 := k55.trans' k59
        have k059 : Keep (Wr mu s g) h h59 := k053.trans k5359 (fun b _ e => .inr (.inl e))
        have G41 : ∀ b, G b → b < h41.size ∧ ¬ Wr mu s g b := fun b hb => ⟨by have := fF b hb; omega, fun hw => by
          rcases gF b hb with hb | hb
          · exact ha.F_wr b hb hw
          · have := wl b hw; have := hb.1; omega⟩
        have gg41 : g' = g ∨ h41.size ≤ g' := sp.gg
        have mu41 : ∀ b, mu2 b → mu b ∨ h41.size ≤ b := fun b hb => by
          rcases gr51.1 b hb with hb | hb
          · exact sp.gm b hb
          · exact .inr (by omega)
        have im41 : ∀ b, im2 b → im b ∨ h41.size ≤ b := fun b hb => by
          rcases gr51.2 b hb with hb | hb
          · exact sp.gi b hb
          · exact .inr (by omega)
        have tr59 : TreeAt h59 G p (addC x.l cs) := by
          refine ((tr47.keep k51 (fun b hb hw => ?_)).keep k53 (fun b hb e => (G41 b hb).2 (.inr (.inl e)))).keep k5359 (fun b hb e => (G41 b hb).2 (.inr (.inl e)))
          obtain ⟨g1, g2⟩ := G41 b hb
          rcases hw with hw | hw
          · rcases sp.gm b hw with h1 | h1
            · exact g2 (.inl h1)
            · omega
          · rcases gg41 with h1 | h1
            · exact g2 (.inr (.inr (by rw [hw, h1])))
            · omega
        have lg47 := a47.lts.2
        have z59 := k059.size
        refine k0 hm mu2 im2 G g' p ⟨m', x'.q, x'.E, L', addC x'.l cs, x'.n + 1⟩ h59 ⟨r59, k5359.row rg53 (fun e => nsg e.symm), hr53.keep k5359 (ks nmu2) (ks nim2), by rw [sm.l]; exact tr59, ⟨nmu2, nim2⟩, ⟨fun hm => ?_, fun hm => ?_⟩, nsg, fun b hb => ?_⟩ inv hq (by show addC x'.l cs = _; rw [sm.l]) (by show x'.n + 1 = _; rw [sm.n]) sm.e1 sm.e2 (fun hst => (c3 (sm.st hst)).2) (fun hroom => ?_)
          ⟨k059, gm2, fun b hb => (im41 b hb).imp id (fun h => by omega), fun b hb => (gF b hb).imp id (fun h => h.1), gg41.imp id (fun h => by omega)⟩
        · rcases gr51.1 g' hm with h1 | h1
          · exact a47.g1.1 h1
          · omega
        · rcases gr51.2 g' hm with h1 | h1
          · exact a47.g1.2 h1
          · omega
        · obtain ⟨g1, g2⟩ := G41 b hb
          refine ⟨by have := k4153.size; have := k5359.size; omega, fun hm => ?_, fun e => g2 (.inr (.inl e)), fun e => ?_⟩
          · rcases mu41 b hm with h1 | h1
            · exact g2 (.inl h1)
            · omega
          · rcases gg41 with h1 | h1
            · exact g2 (.inr (.inr (by rw [e, h1])))
            · omega
        · show L'.pos = _
          have := sL (by rw [end_]; exact hroom)
          rw [← this]; exact pos'
    · intro J hJ
      have st41 : Step h41 h41 mu im F mu im F s g g := ⟨Keep.refl _ _, fun b hb => .inl hb, fun b hb => .inl hb, fun b hb => .inl hb, .inl rfl⟩
      have lf := hx.lf
      rw [nn_eq, add_mk]
      refine ldP_row (o := 0 + 3) a41.row rfl ?_
      refine Wal.room_spec a41.log ⟨by omega, by omega, by omega, by omega⟩ ?_
      refine Wal.need_spec ow41.sl.rv (by omega) (by omega) ?_
      refine cnd_dec (fun hno => ?_) (fun hyes => ?_)
      rotate_left
      · exact hJ () h41 ⟨mu, im, g, x, a41, hx, same0, st41, by omega, fun _ => rfl⟩
      · have hno' : ¬ x.L.pos + (nd : Int) ≤ 2 * x.q := by omega
        refine check_spec a41 hx (by omega) ?_ ?_
        · intro mu' im' g' m' h67 a67 i67 st67 sp67
          refine cnd_f rfl ?_
          rw [nn_eq, add_mk]
          refine ldP_row (o := 0 + 3) a67.row rfl ?_
          have wl := ha.wr_lt
          have z67 := sp67.keep.size
          have z0 := n041.size
          have ow67 : Own h h67 1 rs ((recsL cs).map .string) := ow41.keep sp67.keep (fun b hb hw => by have := ow.fresh b hb; have := wl b hw; omega)
          refine Wal.room_spec a67.log (by simp only [lg0]; exact ⟨by omega, by omega, by omega, by omega⟩) ?_
          refine Wal.need_spec ow67.sl.rv (by omega) (by omega) ?_
          have sm : Same x ⟨m', x.q, x.E + 1, lg0 (2 * x.q) (2 * x.q) (x.E + 1), x.l, x.n⟩ := ⟨rfl, rfl, rfl, Nat.le_succ _, Nat.le_refl _, st67⟩
          refine cnd_dec (fun hno2 => ?_) (fun hyes2 => ?_)
          · have : 2 * (x.q : Int) - 0 < (secs (packL (recsL cs)).length : Int) := hno2
            refine k60 hm (.inr (by omega)) mu' im' g' _ h67 a67 i67 sm ⟨⟨by omega, fun b hb hn => ?_⟩, fun b hb => (sp67.gm b hb).imp id (fun h => by omega), fun b hb => (sp67.gi b hb).imp id (fun h => by omega), fun b hb => .inl hb, sp67.gg.imp id (fun h => by omega)⟩
            rw [sp67.keep.same b (by omega) hn]
            exact n041.same b hb (fun h => h)
          · have : ¬ 2 * (x.q : Int) - 0 < (secs (packL (recsL cs)).length : Int) := hyes2
            exact hJ () h67 ⟨mu', im', g', _, a67, i67, sm, sp67, by show 0 + (nd : Int) ≤ _; omega, fun h => absurd h hno'⟩
        · intro hst mu' im' m' h67 hr67 k67 gm67 gi67 mcl cr67
          refine cnd_t rfl ?_
          have z67 := k67.size
          have z0 := n041.size
          refine k50 hst hm mu' im' m' h67 hr67 ⟨by omega, fun b hb hn => ?_⟩ (fun b hb => (gm67 b hb).imp id (fun h => by omega)) (fun b hb => (gi67 b hb).imp id (fun h => by omega)) mcl (fun ks hz => ?_)
          · rw [k67.same b (by omega) hn]
            exact n041.same b hb (fun h => h)
          · obtain ⟨y, y1, y2, y3, y4⟩ := cr67 ks hz
            exact ⟨y, y1, y2, .inl ⟨y3, y4⟩⟩
end

end Kv
end Go.Proofs.Ytkgocfaajfaidaa
