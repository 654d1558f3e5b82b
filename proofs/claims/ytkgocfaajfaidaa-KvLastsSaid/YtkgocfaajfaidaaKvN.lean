/- KvLasts: what it asks. -/
import Derived.Test.YtkgocfaajfaidaaKvS
namespace Go.Proofs.Ytkgocfaajfaidaa
open Go D
set_option linter.unusedVariables false
set_option linter.unusedSimpArgs false
namespace Kv
open Wal (packL unpackL Holds appM lg0 Lg secs LRow)
open Snap (KT fitsM saveM loadM okAt)
open Disk (M readAt crash)

theorem app_bytes {zs new : List Value} {e : TypeId} {n bytes l c m : Nat} {a : Option Addr} {h : Heap} {K : Option Addr → Nat → Heap → Prop} (h0 : app zs e n 0 a l c new m h K) (hb : ¬ l + m ≤ c → Builtin.nextslicecap (l + m) c * bytes ≤ 281474976710656) : app zs e n bytes a l c new m h K := by
  unfold D.app at h0 ⊢
  by_cases hle : l + m ≤ c
  · rw [if_pos hle] at h0 ⊢; exact h0
  · rw [if_neg hle] at h0 ⊢; exact ⟨hb hle, h0.2⟩
theorem next1 {n c : Nat} (h1 : c < n) (h2 : n ≤ c + 1) : Builtin.nextslicecap n c ≤ c + c / 4 + 1024 := by
  unfold Builtin.nextslicecap
  split
  · omega
  · split
    · omega
    · rename_i h3 h4
      have e : Builtin.growBy n 4 c = c + (c + 768) / 4 := by
        unfold Builtin.growBy
        rw [if_neg (by omega)]
        unfold Builtin.growBy
        rw [if_pos (by omega)]
      rw [e]; omega

def ccells : List Ch → List Value
  | [] => []
  | c :: cs => .string c.1 :: .string c.2.1 :: .bool c.2.2 :: ccells cs
theorem ccells_len : ∀ cs : List Ch, (ccells cs).length = cs.length * 3
  | [] => rfl
  | c :: cs => by simp only [ccells, List.length_cons, ccells_len cs]; omega
theorem ccells_app : ∀ l m : List Ch, ccells (l ++ m) = ccells l ++ ccells m
  | [], _ => rfl
  | p :: l, m => by simp only [List.cons_append, ccells, ccells_app l m]
theorem ccells_get : ∀ (l : List Ch) (i : Nat) (c : Ch), l[i]? = some c → (ccells l)[i * 3]? = some (.string c.1) ∧ (ccells l)[i * 3 + 1]? = some (.string c.2.1) ∧ (ccells l)[i * 3 + 2]? = some (.bool c.2.2)
  | p :: l, 0, c, h => by
    simp only [List.getElem?_cons_zero, Option.some.injEq] at h
    subst h
    exact ⟨rfl, rfl, rfl⟩
  | p :: l, i + 1, c, h => by
    have ih := ccells_get l i c (by simpa using h)
    have e : (i + 1) * 3 = i * 3 + 1 + 1 + 1 := by omega
    rw [e]
    simp only [ccells, List.getElem?_cons_succ]
    exact ih
theorem Own.chs {h0 h : Heap} {s : Sl} {cs : List Ch} (ho : Own h0 h 3 s (ccells cs)) : Chs h s.a s.len cs := by
  have hl := ho.len
  rw [ccells_len] at hl
  have rv := SlR.rvn ho.sl
  refine ⟨by omega, fun i c hi => ?_⟩
  obtain ⟨g1, g2, g3⟩ := ccells_get cs i c hi
  obtain ⟨x, e1, e2, e3⟩ := rv.2 _ _ g1
  obtain ⟨y, f1, f2, f3⟩ := rv.2 _ _ g2
  obtain ⟨z, d1, d2, d3⟩ := rv.2 _ _ g3
  rw [e1] at f1 d1
  injection f1 with f1
  injection d1 with d1
  subst f1 d1
  exact ⟨x, e1, e3, by rw [add_add e2]; exact f3, by rw [add_add e2]; exact d3⟩

theorem changes_spec {h : Heap} {a : Option Addr} {l c : Nat} {cs : List Ch} (hc : Chs h a l cs) (hl : l ≤ 4000000000000) {R : Sl → Heap → Prop}
    (hk : ∀ r h', Nw h h' → Chs h' r.a r.len cs → (∀ b, blk r.a b → h.size ≤ b) → R r h') : CallT Try.prog law9_changes_no [.slice a l c] h [.sc .sl] R := by
  have hcall := law9_changes_call ⟨a, l, c⟩ (R := R) (h := h)
  apply hcall; clear hcall
  unfold law9_changes
  have cl := hc.1
  refine LoopT.intro (fun (st : Sl × Int) h' => ∃ k : Nat, st.2 = (k : Int) ∧ k ≤ cs.length ∧ Own h h' 3 st.1 (ccells (cs.take k)) ∧ Nw h h') (fun st _ => ((cs.length : Int) - st.2).toNat) ⟨0, rfl, Nat.zero_le _, Own.nil _ _ _, .refl _ _⟩ ?_
  rintro ⟨s, i⟩ h3 ⟨k, ei, hk', ow, nw⟩
  replace ei : i = (k : Int) := ei
  replace ow : Own h h3 3 s (ccells (cs.take k)) := ow
  subst ei
  have ol := ow.len
  rw [ccells_len, List.length_take] at ol
  refine cnd_dec (fun hi => ?_) (fun hi => ?_)
  · have hkl : k < cs.length := by have : (k : Int) < (l : Int) := hi; omega
    have ew : w64 ((k : Int) + 1) = ((k + 1 : Nat) : Int) := by rw [w64_id (by omega) (by omega)]; omega
    have et : cs.take (k + 1) = cs.take k ++ [cs[k]] := by rw [List.take_add_one, List.getElem?_eq_getElem hkl]; rfl
    have hc3 := hc.nw nw
    refine hc3.at hkl ?_
    intro x c1 c2 c3
    refine ldS_at c1 ?_
    refine hc3.at hkl ?_
    intro x' c1' c2' c3'
    refine ldS_at c2' ?_
    refine hc3.at hkl ?_
    intro x'' c1'' c2'' c3''
    refine ldB_at c3'' ?_
    refine newB_row ?_
    intro h11 s11 r11 k11
    refine ldRow_row (o := 0) r11 (by simp) ?_
    rw [List.drop_zero, List.take_of_length_le (by simp)]
    have lc := ow.le
    refine app_bytes ?_ (fun hg => ?_)
    · refine (ow.nw k11).app (nw.trans' k11) (m := 1) rfl rfl (by intro u hu; rcases List.mem_cons.1 hu with rfl | hu; rfl; rcases List.mem_cons.1 hu with rfl | hu; rfl; rcases List.mem_cons.1 hu with rfl | hu; rfl; cases hu) (by omega) ?_
      intro a' c' h14 q1 q2 q3 q4
      refine ⟨⟨k + 1, ew, by omega, ?_, q2⟩, ?_⟩
      · rw [et, ccells_app]; exact q1
      · show ((cs.length : Int) - w64 ((k : Int) + 1)).toNat < ((cs.length : Int) - (k : Int)).toNat
        rw [ew]; omega
    · replace hg : ¬ s.len + 1 ≤ s.cap := hg
      show Builtin.nextslicecap (s.len + 1) s.cap * 40 ≤ _
      have := next1 (n := s.len + 1) (c := s.cap) (by omega) (by omega)
      have h40 : Builtin.nextslicecap (s.len + 1) s.cap ≤ 5000000002000 := by omega
      exact Nat.le_trans (Nat.mul_le_mul_right 40 h40) (by decide)
  · have hke : k = cs.length := by have : ¬ (k : Int) < (l : Int) := hi; omega
    subst hke
    rw [List.take_length] at ow
    exact hk s h3 nw (Own.chs ow) ow.fresh

/-! ### a store on a device that may fail -/
structure Wk (h h' : Heap) (W : Nat → Prop) (d s : Nat) (x : St) : Prop where
  ex : ∃ mu im F g t, At h' mu im F d s g t x ∧ ∀ b, W b ↔ Vf mu im F s g b
  new : ∀ b, W b → h.size ≤ b
  nw : Nw h h'
  inv : Inv x
/-- a device whose store is given up -/
structure Gone (h h' : Heap) (W : Nat → Prop) (d : Nat) (m : M) : Prop where
  ex : ∃ mu im, Disk.Rep h' d mu im m ∧ ∀ b, mu b ∨ im b → W b
  new : ∀ b, W b → h.size ≤ b
  wl : ∀ b, W b → b < h'.size
  nw : Nw h h'
  cl : m.c.length ≤ 900000
theorem Gone.lt {h h' : Heap} {W : Nat → Prop} {d : Nat} {m : M} (hg : Gone h h' W d m) : ∀ b, W b → b < h'.size := hg.wl
section
variable {h h' : Heap} {W : Nat → Prop} {d s : Nat} {x : St}
theorem Wk.lt (hr : Wk h h' W d s x) : ∀ b, W b → b < h'.size := fun b hb => by
  obtain ⟨mu, im, F, g, t, ha, hw⟩ := hr.ex
  exact ha.vlt b ((hw b).1 hb)
theorem Wk.nw' {h2 : Heap} (hr : Wk h h' W d s x) (hk : Nw h' h2) : Wk h h2 W d s x := by
  obtain ⟨mu, im, F, g, t, ha, hw⟩ := hr.ex
  exact ⟨⟨mu, im, F, g, t, ha.nw hk, hw⟩, hr.new, hr.nw.trans' hk, hr.inv⟩
theorem Wk.len (hr : Wk h h' W d s x) : x.l.length ≤ 100000 := by have := hr.inv.szl; have := szL_len x.l; omega
theorem Wk.asc (hr : Wk h h' W d s x) : Asc (x.l.map (·.1)) := hr.inv.ok.2
theorem Wk.pairs (hr : Wk h h' W d s x) {R : Sl → Heap → Prop} (hk : ∀ r h2, Wk h h2 W d s x → Nw h' h2 → Pr h2 r x.l → R r h2) : CallT Try.prog law9_pairs_no [.pointer (some ⟨s, 0, none⟩)] h' [.sc .sl] R := by
  obtain ⟨mu, im, F, g, t, ha, hw⟩ := hr.ex
  have := hr.len
  exact pairs_spec ha (by omega) (fun r h2 n2 o2 => hk r h2 (hr.nw' n2) n2 o2.pr)
theorem Wk.commits (hr : Wk h h' W d s x) {R : Int → Heap → Prop} (hk : R (x.n : Int) h') : CallT Try.prog kv_Store_Commits_no [.pointer (some ⟨s, 0, none⟩)] h' [.sc (.int .i64)] R := by
  obtain ⟨mu, im, F, g, t, ha, hw⟩ := hr.ex
  exact commits_spec ha hk
theorem Wk.far {h2 : Heap} {S : Nat → Prop} (hr : Wk h h' W d s x) (hk : Keep S h' h2) (hS : ∀ b, W b → ¬ S b) (hn : Nw h h2) : Wk h h2 W d s x := by
  obtain ⟨mu, im, F, g, t, ha, hw⟩ := hr.ex
  exact ⟨⟨mu, im, F, g, t, ha.far hk (fun b hb => hS b ((hw b).2 hb)), hw⟩, hr.new, hn, hr.inv⟩
theorem Wk.step {h2 : Heap} {mu im F mu' im' F' : Nat → Prop} {g g' t t' : Nat} {x' : St} (hr : Wk h h' W d s x) (hw : ∀ b, W b ↔ Vf mu im F s g b) (ha : At h2 mu' im' F' d s g' t' x') (hi : Inv x') (st : Step h' h2 mu im F mu' im' F' s g g') :
    Wk h h2 (Vf mu' im' F' s g') d s x' ∧ Keep W h' h2 ∧ ∀ b, Vf mu' im' F' s g' b → W b ∨ h'.size ≤ b := by
  have kw : Keep W h' h2 := st.keep.mono (fun b _ hb => (hw b).2 (wr_vf hb))
  have z := hr.nw.size
  have gw : ∀ b, Vf mu' im' F' s g' b → W b ∨ h'.size ≤ b := fun b hb => by
    rcases hb with hb | hb | hb | hb | hb
    · exact (st.gm b hb).imp (fun h => (hw b).2 (.inl h)) id
    · exact (st.gi b hb).imp (fun h => (hw b).2 (.inr (.inl h))) id
    · exact (st.gF b hb).imp (fun h => (hw b).2 (.inr (.inr (.inl h)))) id
    · exact .inl ((hw b).2 (.inr (.inr (.inr (.inl hb)))))
    · rcases st.gg with e | e
      · exact .inl ((hw b).2 (.inr (.inr (.inr (.inr (hb.trans e))))))
      · exact .inr (by omega)
  refine ⟨⟨⟨mu', im', F', g', t', ha, fun b => Iff.rfl⟩, fun b hb => ?_, hr.nw.trans kw (fun b hb hw' => by have := hr.new b hw'; omega), hi⟩, kw, gw⟩
  rcases gw b hb with h1 | h1
  · exact hr.new b h1
  · omega
/-- what a crash leaves, whatever is kept -/
def Left (m : M) (P : St → Prop) : Prop := ∀ ks, (∀ i, (readAt (crash m ks) i).size = 256) → ∃ y, y.m = crash m ks ∧ Ops y ∧ P y
theorem Wk.commit (hr : Wk h h' W d s x) (hE : x.E < 999999999) (hn : x.n < 999999999) {a : Option Addr} {l c : Nat} {cs : List Ch} (hcs : Chs h' a l cs) (hl : l ≤ 4000000000000) {R : Int → Heap → Prop}
    (hno : ∀ e x' W' h2, e = 1 ∨ e = 60 → x'.l = x.l → x'.n = x.n → x'.E ≤ x.E + 1 → Wk h h2 W' d s x' → Keep W h' h2 → (∀ b, W' b → W b ∨ h'.size ≤ b) → R e h2)
    (hyes : ∀ x' W' h2, x'.l = addC x.l cs → x'.n = x.n + 1 → x'.E ≤ x.E + 1 → Wk h h2 W' d s x' → Keep W h' h2 → (∀ b, W' b → W b ∨ h'.size ≤ b) → R 0 h2)
    (hdead : ∀ m W' h2, Gone h h2 W' d m → Keep W h' h2 → (∀ b, W' b → W b ∨ h'.size ≤ b) → Left m (fun y => (y.l = x.l ∧ y.n = x.n) ∨ (y.l = addC x.l cs ∧ y.n = x.n + 1)) → R 50 h2) : CallT Try.prog kv_Store_Commit_no [.pointer (some ⟨s, 0, none⟩), .slice a l c] h' [.sc (.int .i64)] R := by
  obtain ⟨mu, im, F, g, t, ha, hw⟩ := hr.ex
  have z := hr.nw.size
  refine commit_spec ha hr.inv hE hn hcs hl ?_ ?_ ?_ ?_
  · intro hno' h2 n2
    exact hno 1 x W h2 (.inl rfl) rfl rfl (by omega) (hr.nw' n2) (n2.mono (fun _ _ h => h.elim)) (fun b hb => .inl hb)
  · intro hm hbad mu' im' g' x' h2 a2 i2 sm st
    obtain ⟨r1, r2, r3⟩ := hr.step (t := t) hw a2 i2 st
    exact hno 60 x' _ h2 (.inr rfl) sm.l sm.n sm.e2 r1 r2 r3
  · intro hm mu' im' F' g' t' x' h2 a2 i2 eq el en e1 e2 est _ st
    obtain ⟨r1, r2, r3⟩ := hr.step (t := t) hw a2 i2 st
    exact hyes x' _ h2 el en e2 r1 r2 r3
  · intro _ _ mu' im' m' h2 hr2 k2 gm gi mcl left
    have kw : Keep W h' h2 := k2.mono (fun b _ hb => (hw b).2 (wr_vf hb))
    have gw : ∀ b, (mu' b ∨ im' b) → W b ∨ h'.size ≤ b := fun b hb => by
      rcases hb with hb | hb
      · exact (gm b hb).imp (fun h1 => (hw b).2 (.inl h1)) id
      · exact (gi b hb).imp (fun h1 => (hw b).2 (.inr (.inl h1))) id
    refine hdead m' (fun b => mu' b ∨ im' b) h2 ⟨⟨mu', im', hr2, fun b hb => hb⟩, fun b hb => ?_, fun b hb => hr2.lt b hb, hr.nw.trans kw (fun b hb hw' => by have := hr.new b hw'; omega), mcl⟩ kw gw left
    rcases gw b hb with h1 | h1
    · exact hr.new b h1
    · omega
theorem Wk.check (hr : Wk h h' W d s x) (hE : x.E < 1000000000) {R : Int → Heap → Prop}
    (hyes : ∀ x' W' h2, x'.l = x.l → x'.n = x.n → x'.E = x.E + 1 → Wk h h2 W' d s x' → Keep W h' h2 → (∀ b, W' b → W b ∨ h'.size ≤ b) → R 0 h2)
    (hdead : ∀ m W' h2, Gone h h2 W' d m → Keep W h' h2 → (∀ b, W' b → W b ∨ h'.size ≤ b) → Left m (fun y => y.l = x.l ∧ y.n = x.n) → R 50 h2) : CallT Try.prog kv_Store_Checkpoint_no [.pointer (some ⟨s, 0, none⟩)] h' [.sc (.int .i64)] R := by
  obtain ⟨mu, im, F, g, t, ha, hw⟩ := hr.ex
  have z := hr.nw.size
  refine check_spec ha hr.inv hE ?_ ?_
  · intro mu' im' g' m' h2 a2 i2 est st
    obtain ⟨r1, r2, r3⟩ := hr.step (t := t) hw a2 i2 st
    exact hyes ⟨m', x.q, x.E + 1, lg0 (2 * x.q) (2 * x.q) (x.E + 1), x.l, x.n⟩ _ h2 rfl rfl rfl r1 r2 r3
  · intro _ mu' im' m' h2 hr2 k2 gm gi mcl left
    have kw : Keep W h' h2 := k2.mono (fun b _ hb => (hw b).2 (wr_vf hb))
    have gw : ∀ b, (mu' b ∨ im' b) → W b ∨ h'.size ≤ b := fun b hb => by
      rcases hb with hb | hb
      · exact (gm b hb).imp (fun h1 => (hw b).2 (.inl h1)) id
      · exact (gi b hb).imp (fun h1 => (hw b).2 (.inr (.inl h1))) id
    refine hdead m' (fun b => mu' b ∨ im' b) h2 ⟨⟨mu', im', hr2, fun b hb => hb⟩, fun b hb => ?_, fun b hb => hr2.lt b hb, hr.nw.trans kw (fun b hb hw' => by have := hr.new b hw'; omega), mcl⟩ kw gw left
    rcases gw b hb with h1 | h1
    · exact hr.new b h1
    · omega
/-- a store is given up -/
theorem Wk.gone (hr : Wk h h' W d s x) : Gone h h' W d x.m ∧ Left x.m (fun y => y.l = x.l ∧ y.n = x.n) := by
  obtain ⟨mu, im, F, g, t, ha, hw⟩ := hr.ex
  refine ⟨⟨⟨mu, im, ha.dev, fun b hb => (hw b).2 (by rcases hb with hb | hb; exact .inl hb; exact .inr (.inl hb))⟩, hr.new, hr.lt, hr.nw, by rw [hr.inv.c]; simp⟩, fun ks _ => ?_⟩
  exact ⟨_, rfl, (inv_crash hr.inv ks).ops (by show (0 : Int) ≠ 2; omega), rfl, rfl⟩
end
theorem Gone.far {h h' h2 : Heap} {W S : Nat → Prop} {d : Nat} {m : M} (hg : Gone h h' W d m) (hk : Keep S h' h2) (hS : ∀ b, W b → ¬ S b) (hn : Nw h h2) : Gone h h2 W d m := by
  obtain ⟨mu, im, hr, hw⟩ := hg.ex
  exact ⟨⟨mu, im, hr.keep hk (fun b hb => hS b (hw b (.inl hb))) (fun b hb => hS b (hw b (.inr hb))), hw⟩, hg.new, fun b hb => by have := hg.wl b hb; have := hk.size; omega, hn, hg.cl⟩
theorem new_open2 {h : Heap} {n : Nat} (h0 : 32 ≤ n) (h1 : n ≤ 4096) {K : Option Addr × Int → Option Addr × Int → Heap → Prop}
    (hk : ∀ d mu im F s g t h', At h' mu im F d s g t (new0 n) → Inv (new0 n) → Nw h h' → (∀ b, Vf mu im F s g b → h.size ≤ b) → K (some ⟨d, 0, none⟩, 0) (some ⟨s, 0, none⟩, 0) h') :
    CallT Try.prog disk_New_no [.int .i64 (n : Int)] h [.sc .ptr, .sc (.int .i64)] fun (r1 : Option Addr × Int) h2 => CallT Try.prog kv_Open_no [.pointer r1.1] h2 [.sc .ptr, .sc (.int .i64)] fun (r3 : Option Addr × Int) h4 => K r1 r3 h4 := by
  refine Disk.new_spec (by exact ⟨by omega, by omega⟩) (fun e => by omega) ?_
  intro _ _ d mu im h2 hnew hr n2
  have hr' : Disk.Rep h2 d mu im (new0 n).m := by
    have e : ((n : Int)).toNat = n := Int.toNat_natCast n
    rw [e] at hr; exact hr
  have inv := inv_new h0 h1
  have z2 := n2.size
  refine open_spec hr' (inv.ops (by show (0 : Int) ≠ 2; omega)) (by show (0 : Int) ≠ 2; omega) ?_
  intro s g t F h4 a4 n4 hs hg hF
  refine hk d mu im F s g t h4 a4 inv (n2.trans' n4) (fun b hb => ?_)
  rcases hb with hb | hb | hb | hb | hb
  · exact hnew b (.inl hb)
  · exact hnew b (.inr hb)
  · have := hF b hb; omega
  · omega
  · omega

/-- a crash, and the store opened anew -/
theorem Gone.open {h h' : Heap} {W : Nat → Prop} {d : Nat} {m : M} {P : St → Prop} (hg : Gone h h' W d m) (hl : Left m P) {a : Option Addr} {l c : Nat} {ks : List Bool} (hks : BoolsIs h a l ks) {K : Option Addr × Int → Heap → Prop}
    (hk : ∀ mu im F s g t y h2, P y → Ops y → At h2 mu im F d s g t y → Keep W h' h2 → K (some ⟨s, 0, none⟩, 0) h2) :
    CallT Try.prog disk_Dev_Crash_no [.pointer (some ⟨d, 0, none⟩), .slice a l c] h' [] fun (_ : Unit) h19 => CallT Try.prog kv_Open_no [.pointer (some ⟨d, 0, none⟩)] h19 [.sc .ptr, .sc (.int .i64)] fun (r20 : Option Addr × Int) h21 => K r20 h21 := by
  obtain ⟨mu, im, hr, hw⟩ := hg.ex
  have blt : 0 < l → ∀ b, blk a b → b < h.size := fun h0 b hb => by
    obtain ⟨x, e, c⟩ := hks.2 0 h0
    obtain ⟨y, e2, e3⟩ := hb
    rw [e] at e2
    injection e2 with e2
    subst e2 e3
    have := cell_lt c
    rwa [add_blk] at this
  have hks' : BoolsIs h' a l ks := hks.keep hg.nw (fun _ _ _ h => h)
  refine Disk.crash_spec hr (by have := hg.cl; omega) hks' (fun h0 b hb hm => by have := blt h0 b hb; have := hg.new b (hw b (.inl hm)); omega) ?_
  intro h19 hr19 k19
  obtain ⟨z1, z2⟩ := Snap.Rep.secs hr19
  obtain ⟨y, ey, oy, py⟩ := hl ks (fun i => Snap.readAt_size z1 z2 i)
  rw [← ey] at hr19
  refine open_spec hr19 oy (by rw [ey]; show (0 : Int) ≠ 2; omega) ?_
  intro s g t F h21 a21 n21 hs hgg hF
  exact hk mu im F s g t y h21 py oy a21 ((k19.mono (fun b _ hb => hw b (.inl hb))).trans n21 (fun _ _ h => h.elim))

end Kv
end Go.Proofs.Ytkgocfaajfaidaa
