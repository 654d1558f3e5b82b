/- A store's plain model: what lies on its device, and what a commit and a checkpoint make of it. -/
import Derived.Test.YtkgocfaajfaidaaKvC
namespace Go.Proofs.Ytkgocfaajfaidaa
open Go D
set_option linter.unusedVariables false
set_option linter.unusedSimpArgs false
namespace Kv
open Wal (packL unpackL Holds appM lg0 Lg secs)
open Snap (KT fitsM saveM loadM okAt)
open Disk (M readAt crash)

/-! ### lists of pairs -/
def addC (l : List KV) (cs : List Ch) : List KV := cs.foldl (fun l c => appC c l) l
theorem addC_nil (l : List KV) : addC l [] = l := rfl
theorem addC_snoc (l : List KV) (cs : List Ch) (c : Ch) : addC l (cs ++ [c]) = appC c (addC l cs) := by unfold addC; rw [List.foldl_append]; rfl
def okL (l : List KV) : Prop := (∀ p ∈ l, okP p) ∧ Asc (l.map (·.1))
theorem ins_mem {k v : Key} : ∀ {l : List KV} {p : KV}, p ∈ insKV k v l → p = (k, v) ∨ p ∈ l
  | [], p, h => by unfold insKV at h; exact .inl (by simpa using h)
  | (a, x) :: r, p, h => by
    unfold insKV at h
    split at h
    · rcases List.mem_cons.1 h with rfl | h
      · exact .inr (by simp)
      · rcases ins_mem h with h | h
        · exact .inl h
        · exact .inr (by simp [h])
    · split at h
      · rcases List.mem_cons.1 h with rfl | h
        · exact .inl rfl
        · exact .inr (by simp [h])
      · rcases List.mem_cons.1 h with rfl | h
        · exact .inl rfl
        · exact .inr h
theorem ins_asc {k v : Key} : ∀ {l : List KV}, Asc (l.map (·.1)) → Asc ((insKV k v l).map (·.1))
  | [], _ => by unfold insKV; exact ⟨fun b hb => by simp at hb, trivial⟩
  | (a, x) :: r, h => by
    obtain ⟨h1, h2⟩ := h
    unfold insKV
    split
    · rename_i hlt
      refine ⟨fun b hb => ?_, ins_asc h2⟩
      obtain ⟨p, hp, rfl⟩ := List.mem_map.1 hb
      rcases ins_mem hp with rfl | hp
      · exact hlt
      · exact h1 _ (List.mem_map.2 ⟨p, hp, rfl⟩)
    · rename_i hnlt
      split
      · rename_i e
        subst e
        exact ⟨h1, h2⟩
      · rename_i hne
        have hka : klt k a := by
          by_cases c : klt k a
          · exact c
          · exact absurd (klt_tri hnlt c) hne
        refine ⟨fun b hb => ?_, h1, h2⟩
        rcases List.mem_cons.1 hb with rfl | hb
        · exact hka
        · exact klt_trans hka (h1 b hb)
theorem del_asc {k : Key} : ∀ {l : List KV}, Asc (l.map (·.1)) → Asc ((delKV k l).map (·.1))
  | [], _ => trivial
  | (a, x) :: r, h => by
    obtain ⟨h1, h2⟩ := h
    have ih := del_asc (k := k) h2
    unfold delKV at ih ⊢
    rw [List.filter_cons]
    split
    · refine ⟨fun b hb => ?_, ih⟩
      obtain ⟨p, hp, rfl⟩ := List.mem_map.1 hb
      exact h1 _ (List.mem_map.2 ⟨p, (List.mem_filter.1 hp).1, rfl⟩)
    · exact ih
theorem appC_ok {c : Ch} {l : List KV} (hc : mayC c = true) (h : okL l) : okL (appC c l) := by
  obtain ⟨h1, h2⟩ := h
  obtain ⟨m1, m2, m3, m4⟩ := mayC_iff.1 hc
  unfold appC withKV
  split
  · exact ⟨fun p hp => h1 p (List.mem_filter.1 hp).1, del_asc h2⟩
  · refine ⟨fun p hp => ?_, ins_asc h2⟩
    rcases ins_mem hp with rfl | hp
    · exact ⟨m1, m2, m3⟩
    · exact h1 p hp
theorem addC_ok : ∀ {cs : List Ch} {l : List KV}, (∀ c ∈ cs, mayC c = true) → okL l → okL (addC l cs)
  | [], _, _, h => h
  | c :: cs, l, hc, h => addC_ok (cs := cs) (fun x hx => hc x (by simp [hx])) (appC_ok (hc c (by simp)) h)
theorem addC_len : ∀ (cs : List Ch) (l : List KV), (addC l cs).length ≤ l.length + cs.length
  | [], l => Nat.le_refl _
  | c :: cs, l => by
    have := addC_len cs (appC c l)
    have := appC_len c l
    show (addC (appC c l) cs).length ≤ _
    simp only [List.length_cons]; omega
theorem okL_sz {l : List KV} (h1 : ∀ p ∈ l, okP p) : szL l ≤ 68000 * l.length := by
  induction l with
  | nil => exact Nat.le_refl _
  | cons p l ih =>
    have := ih (fun q hq => h1 q (by simp [hq]))
    obtain ⟨_, q2, q3⟩ := h1 p (by simp)
    simp only [szL, List.length_cons]; omega
def recsL (cs : List Ch) : List ByteArray := cs.map recS
theorem recs_len : ∀ cs : List Ch, 4 * cs.length ≤ (packL (recsL cs)).length
  | [] => Nat.zero_le _
  | c :: cs => by
    have := recs_len cs
    show _ ≤ (packL (recS c :: recsL cs)).length
    rw [packL_len_cons]
    simp only [List.length_cons]; omega

/-! ### a store -/
structure St where
  m : M
  q : Nat
  E : Nat
  L : Lg
  l : List KV
  n : Nat

/-- what lies on the device is what the store says; LD: what is known of the two slots -/
structure InvG (LD : List UInt8 → M → Nat → Nat → Prop) (x : St) : Prop where
  sz : 32 ≤ x.m.l.length ∧ x.m.l.length ≤ 4096
  qe : x.q = x.m.l.length / 8
  eb : x.E ≤ 1000000000 ∧ x.n ≤ 1000000000
  ex : ∃ (n0 : Nat) (l0 : List KV) (css : List (List Ch)), LD (packL (stL n0 l0)) x.m x.q x.E ∧ (x.E = 0 → n0 = 0 ∧ l0 = []) ∧ Holds x.m (2 * x.q) (2 * x.q) x.E x.L (css.map recsL) ∧ (∀ cs ∈ css, (∀ c ∈ cs, mayC c = true) ∧ cs.length ≤ 100000) ∧
    x.l = css.foldl addC l0 ∧ x.n = n0 + css.length ∧ okL l0 ∧ fitsM x.q (12 + szL l0 : Nat) = true
  ok : okL x.l
  fit : fitsM x.q (12 + szL x.l : Nat) = true
def LdK (S : List UInt8) (m : M) (q E : Nat) : Prop := KT S m 0 q E
def LdO (S : List UInt8) (m : M) (q E : Nat) : Prop := loadM m 0 q = if E = 0 then ([], 0, 61) else (S, E, 0)
abbrev Inv (x : St) : Prop := InvG LdK x
/-- enough to open it -/
abbrev Ops (x : St) : Prop := InvG LdO x
theorem mkInv {LD : List UInt8 → M → Nat → Nat → Prop} {m : M} {q E : Nat} {L : Lg} {l : List KV} {n : Nat} (sz : 32 ≤ m.l.length ∧ m.l.length ≤ 4096) (qe : q = m.l.length / 8) (eb : E ≤ 1000000000 ∧ n ≤ 1000000000) {n0 : Nat} {l0 : List KV} {css : List (List Ch)} (ld : LD (packL (stL n0 l0)) m q E) (e0 : E = 0 → n0 = 0 ∧ l0 = [])
    (ho : Holds m (2 * q) (2 * q) E L (css.map recsL)) (hm : ∀ cs ∈ css, (∀ c ∈ cs, mayC c = true) ∧ cs.length ≤ 100000) (el : l = css.foldl addC l0) (en : n = n0 + css.length) (ok0 : okL l0) (f0 : fitsM q (12 + szL l0 : Nat) = true) (ok : okL l) (fit : fitsM q (12 + szL l : Nat) = true) : InvG LD ⟨m, q, E, L, l, n⟩ :=
  ⟨sz, qe, eb, ⟨n0, l0, css, ld, e0, ho, hm, el, en, ok0, f0⟩, ok, fit⟩

theorem fits_le {q b : Nat} (h : fitsM (q : Int) (b : Int) = true) : b + 256 ≤ 256 * q ∧ 1 ≤ q := by
  unfold Snap.fitsM at h
  simp only [Bool.and_eq_true, decide_eq_true_eq] at h
  omega
theorem save_llen (m : M) (fr n : Int) (e : Nat) (st : List UInt8) : (saveM m fr n e st).2.l.length = m.l.length := by
  unfold Snap.saveM
  split
  · rfl
  · split
    · rfl
    · rw [Snap.saveAt_eq]
      have w := fun a => (Snap.wr_len a st m (Snap.parts st.length)).1
      split
      · exact w _
      · split
        · rw [(Disk.flush_len _).1]; exact w _
        · split
          · rw [(Disk.write_len _ _ _).1, (Disk.flush_len _).1]; exact w _
          · rw [(Disk.flush_len _).1, (Disk.write_len _ _ _).1, (Disk.flush_len _).1]; exact w _
theorem wr_ok {m : M} {at_ : Int} (ha : 0 ≤ at_) (st : List UInt8) : ∀ k : Nat, at_ + k < m.l.length → (Snap.wr at_ st k m).1 = 0 ∨ (Snap.wr at_ st k m).1 = 50
  | 0, _ => .inl rfl
  | k + 1, h => by
    have e : Snap.wr at_ st (k + 1) m = if (Snap.wr at_ st k m).1 ≠ 0 then Snap.wr at_ st k m else Disk.write (Snap.wr at_ st k m).2 (at_ + 1 + k) (ofL (Snap.secL st k)) := rfl
    rw [e]
    split
    · exact wr_ok ha st k (by omega)
    · exact Wal.write_ok (by omega) (by rw [(Snap.wr_len _ _ _ _).1]; omega) (by rw [Snap.ofL_size, Snap.secL_length])
theorem save_ok {m : M} {at_ : Int} (ha : 0 ≤ at_) (e : Nat) (st : List UInt8) (hi : at_ + Snap.parts st.length < m.l.length) : (Snap.saveAt m at_ e st).1 = 0 ∨ (Snap.saveAt m at_ e st).1 = 50 := by
  rw [Snap.saveAt_eq]
  split
  · exact wr_ok ha st _ hi
  · split
    · exact Wal.flush_ok _
    · split
      · refine Wal.write_ok ha (by rw [(Disk.flush_len _).1, (Snap.wr_len _ _ _ _).1]; omega) ?_
        unfold Snap.headS; rw [Snap.ofL_size, List.length_append, Snap.headL_length, List.length_replicate]
      · exact Wal.flush_ok _
theorem app_len (m : M) (L : Lg) (rs : List ByteArray) : (appM m L rs).2.1.l.length = m.l.length := by
  unfold Wal.appM
  split
  · rfl
  · split
    · rfl
    · have h := fun ws y => (Disk.commit_len m ws y).1
      dsimp only
      split
      · exact h _ _
      · exact h _ _
section
variable {LD : List UInt8 → M → Nat → Nat → Prop} {x : St} (hx : InvG LD x)
include hx
theorem InvG.q4 : 4 ≤ x.q ∧ x.q ≤ 512 ∧ 8 * x.q ≤ x.m.l.length := by have := hx.sz; have := hx.qe; omega
theorem InvG.okAt : okAt x.m.l.length 0 (x.q : Int) := by have := hx.q4; exact ⟨by omega, by omega, by omega, by omega⟩
theorem InvG.szl : szL x.l ≤ 140000 := by have := fits_le hx.fit; have := hx.q4; omega
theorem InvG.c : x.m.c = [] := by obtain ⟨n0, l0, css, h1, h2, h3, _⟩ := hx.ex; exact h3.c
theorem InvG.lf : x.L.fr = 2 * x.q ∧ x.L.n = 2 * x.q ∧ x.L.ep = x.E ∧ 0 ≤ x.L.pos ∧ x.L.pos ≤ 2 * x.q ∧ (x.L.nx : Int) ≤ x.L.pos ∧ x.L.dead = false := by
  obtain ⟨n0, l0, css, h1, h2, h3, _⟩ := hx.ex
  obtain ⟨f1, f2, f3, f4, f5, f6, f7⟩ := h3.facts
  exact ⟨f1, f2, f3, by omega, f6, by omega, f7⟩
end
section
variable {x : St} (hx : Inv x)
include hx
theorem InvG.ops (hst : x.m.st ≠ 2) : Ops x := by
  obtain ⟨n0, l0, css, h1, h2⟩ := hx.ex
  exact ⟨hx.sz, hx.qe, hx.eb, ⟨n0, l0, css, Snap.kt_load h1 hx.okAt hst, h2⟩, hx.ok, hx.fit⟩

/-- a frame more -/
theorem InvG.append {cs : List Ch} (hc : ∀ c ∈ cs, mayC c = true) (hf : fitsM x.q (12 + szL (addC x.l cs) : Nat) = true) (hk : x.L.pos + (secs (packL (recsL cs)).length : Int) ≤ 2 * x.q) (hn : x.n < 1000000000) :
    ((appM x.m x.L (recsL cs)).1 = 0 → Inv ⟨(appM x.m x.L (recsL cs)).2.1, x.q, x.E, (appM x.m x.L (recsL cs)).2.2, addC x.l cs, x.n + 1⟩ ∧ (appM x.m x.L (recsL cs)).2.2.pos = x.L.pos + (secs (packL (recsL cs)).length : Int)) ∧
    ((appM x.m x.L (recsL cs)).1 ≠ 0 → ∀ ks, ∃ y, y.m = crash (appM x.m x.L (recsL cs)).2.1 ks ∧ Inv y ∧ y.E = x.E ∧ ((y.l = x.l ∧ y.n = x.n) ∨ (y.l = addC x.l cs ∧ y.n = x.n + 1))) ∧
    (x.m.st = 0 → (appM x.m x.L (recsL cs)).1 = 0 ∧ (appM x.m x.L (recsL cs)).2.1.st = 0) ∧ ((appM x.m x.L (recsL cs)).1 = 0 ∨ (appM x.m x.L (recsL cs)).1 = 50) := by
  obtain ⟨q1, q2, q3⟩ := hx.q4
  have cl := recs_len cs
  have csl : cs.length ≤ 100000 := by
    have : secs (packL (recsL cs)).length ≤ 1024 := by have := hx.lf; omega
    unfold Wal.secs at this
    omega
  obtain ⟨n0, l0, css, h1, h2, h3, h4, h5, h6, h7, h8⟩ := hx.ex
  obtain ⟨_, a2⟩ := Wal.append_holds h3 (by omega) (recsL cs)
  obtain ⟨b1, b2, b3, b4⟩ := a2 hk
  have far : ∀ i : Int, 0 ≤ i → i < x.m.l.length → (i < 2 * (x.q : Int) ∨ 2 * (x.q : Int) + 2 * (x.q : Int) ≤ i) → _ := fun i g0 g1 gi => Wal.append_far h3 (by omega) (recsL cs) hk g0 g1 gi
  have css' : ∀ cs' ∈ css ++ [cs], (∀ c ∈ cs', mayC c = true) ∧ cs'.length ≤ 100000 := fun cs' hcs => by
    rcases List.mem_append.1 hcs with h | h
    · exact h4 cs' h
    · rw [List.mem_singleton] at h
      subst h
      exact ⟨hc, csl⟩
  have fold' : addC x.l cs = (css ++ [cs]).foldl addC l0 := by rw [List.foldl_append, ← h5]; rfl
  have okl' := addC_ok hc hx.ok
  have len' : (appM x.m x.L (recsL cs)).2.1.l.length = x.m.l.length := app_len _ _ _
  have hsz := hx.sz; have hqe := hx.qe; have heb := hx.eb
  have em : (css ++ [cs]).map recsL = css.map recsL ++ [recsL cs] := by rw [List.map_append]; rfl
  refine ⟨fun e => ?_, fun e ks => ?_, b3, b4⟩
  · obtain ⟨c1, c2, c3⟩ := b1 e
    refine ⟨mkInv (n0 := n0) (l0 := l0) (css := css ++ [cs]) (by rw [len']; exact hsz) (by rw [len']; exact hqe) ⟨heb.1, by omega⟩ ?_ h2 (by rw [em, c1]; exact c2) css' fold' (by rw [List.length_append, List.length_singleton]; omega) h7 h8 okl' hf, by rw [c1]; rfl⟩
    exact Snap.kt_congr (fun i g0 g1 => (far i g0 (by omega) (by omega)).1 e) (by omega) h1
  · have clen : (crash (appM x.m x.L (recsL cs)).2.1 ks).l.length = x.m.l.length := by rw [(Disk.crash_len _ _).1, len']
    have kt : LdK (packL (stL n0 l0)) (crash (appM x.m x.L (recsL cs)).2.1 ks) x.q x.E := Snap.kt_congr (fun i g0 g1 => (far i g0 (by omega) (by omega)).2 e ks) (by omega) h1
    have c2' := b2 e ks
    generalize crash (appM x.m x.L (recsL cs)).2.1 ks = C at clen kt c2' ⊢
    rcases c2' with c2 | c2
    · exact ⟨_, rfl, mkInv (by rw [clen]; exact hsz) (by rw [clen]; exact hqe) heb kt h2 c2 h4 h5 h6 h7 h8 hx.ok hx.fit, rfl, .inl ⟨rfl, rfl⟩⟩
    · exact ⟨_, rfl, mkInv (css := css ++ [cs]) (by rw [clen]; exact hsz) (by rw [clen]; exact hqe) ⟨heb.1, by omega⟩ kt h2 (by rw [em]; exact c2) css' fold' (by rw [List.length_append, List.length_singleton]; omega) h7 h8 okl' hf, rfl, .inr ⟨rfl, rfl⟩⟩

/-- a checkpoint -/
theorem InvG.check (hE : x.E < 1000000000) {m' : M} {e : Int} (hm : saveM x.m 0 x.q (x.E + 1) (packL (stL x.n x.l)) = (e, m')) :
    (e = 0 → (∀ i, (readAt m' i).size = 256) → Inv ⟨m', x.q, x.E + 1, lg0 (2 * x.q) (2 * x.q) (x.E + 1), x.l, x.n⟩) ∧
    (e ≠ 0 → ∀ ks, (∀ i, (readAt (crash m' ks) i).size = 256) → ∃ y, y.m = crash m' ks ∧ Ops y ∧ y.l = x.l ∧ y.n = x.n) ∧
    (x.m.st = 0 → e = 0 ∧ m'.st = 0) ∧ (e = 0 ∨ e = 50) := by
  obtain ⟨q1, q2, q3⟩ := hx.q4
  have hsz := hx.sz; have hqe := hx.qe; have heb := hx.eb
  have hc := hx.c
  have hok := hx.okAt
  have e1 : (saveM x.m 0 x.q (x.E + 1) (packL (stL x.n x.l))).1 = e := by rw [hm]
  have e2 : (saveM x.m 0 x.q (x.E + 1) (packL (stL x.n x.l))).2 = m' := by rw [hm]
  obtain ⟨n0, l0, css, h1, h2, h3, h4, h5, h6, h7, h8⟩ := hx.ex
  have hf : fitsM x.q (packL (stL x.n x.l)).length = true := by rw [stL_sz]; exact hx.fit
  have hfp := Snap.fits_parts hf
  have far : ∀ i : Int, 0 ≤ i → i < x.m.l.length → (i < 0 ∨ 0 + 2 * (x.q : Int) ≤ i) → _ := fun i g0 g1 gi => Snap.save_far (E := x.E + 1) hc hok hf g0 g1 gi
  rw [hm] at far
  have f12 : fitsM x.q (12 + szL x.l : Nat) = true := hx.fit
  refine ⟨fun e0 hz => ?_, fun e0 ks hz => ?_, fun hst => ?_, ?_⟩
  · obtain ⟨k1, k2, k3⟩ := Snap.kt_save (S' := packL (stL x.n x.l)) h1 hc hok (by omega) hf (by omega) (by rw [e1]; exact e0)
    rw [e2] at k1 k2 k3
    have ho : Holds m' (2 * x.q) (2 * x.q) x.E x.L (css.map recsL) := h3.view k2 k3 (fun i g0 g1 g2 => (far i (by omega) (by omega) (by omega)).1 e0)
    exact mkInv (css := []) (by rw [k3]; exact hsz) (by rw [k3]; exact hqe) ⟨by omega, heb.2⟩ k1 (fun h => by omega) (Wal.holds_next ho (by omega) (hz _)) (fun _ h => by cases h) rfl rfl hx.ok hx.fit hx.ok hx.fit
  · have kc := Snap.kt_crash (S' := packL (stL x.n x.l)) h1 hc hok (by omega) hf (by omega) (by rw [e1]; exact e0) ks
    rw [e2] at kc
    have ml : m'.l.length = x.m.l.length := by rw [← e2]; exact save_llen _ _ _ _ _
    have cl : (crash m' ks).l.length = x.m.l.length := by rw [(Disk.crash_len _ _).1, ml]
    have ho : Holds (crash m' ks) (2 * x.q) (2 * x.q) x.E x.L (css.map recsL) := h3.view rfl cl (fun i g0 g1 g2 => (far i (by omega) (by omega) (by omega)).2 e0 ks)
    have hz' := hz
    generalize crash m' ks = C at cl ho kc hz' ⊢
    rcases kc with kc | kc
    · exact ⟨_, rfl, mkInv (E := x.E + 1) (n0 := x.n) (l0 := x.l) (css := []) (by rw [cl]; exact hsz) (by rw [cl]; exact hqe) ⟨by omega, heb.2⟩ (by unfold LdO; rw [kc, if_neg (by omega)]) (fun h => by omega) (Wal.holds_next ho (by omega) (hz' _)) (fun _ h => by cases h) rfl rfl hx.ok hx.fit hx.ok hx.fit, rfl, rfl⟩
    · exact ⟨_, rfl, mkInv (by rw [cl]; exact hsz) (by rw [cl]; exact hqe) heb kc h2 ho h4 h5 h6 h7 h8 hx.ok hx.fit, rfl, rfl⟩
  · obtain ⟨o1, o2, o3, o4⟩ := hok
    have es : saveM x.m 0 x.q (x.E + 1) (packL (stL x.n x.l)) = Snap.saveAt x.m (0 + (((x.E + 1) % 2 : Nat) : Int) * x.q) (x.E + 1) (packL (stL x.n x.l)) := by
      unfold Snap.saveM
      rw [if_neg (Classical.not_not.2 hx.okAt), if_neg (by simp [hf])]
    rw [es] at e1 e2
    have pl := Snap.places 0 (x.q : Int) (x.E + 1)
    have := Snap.save_alive hst (at_ := 0 + (((x.E + 1) % 2 : Nat) : Int) * x.q) (by omega) (x.E + 1) (packL (stL x.n x.l)) (by omega)
    rw [e1, e2] at this
    exact this
  · obtain ⟨o1, o2, o3, o4⟩ := hok
    have es : saveM x.m 0 x.q (x.E + 1) (packL (stL x.n x.l)) = Snap.saveAt x.m (0 + (((x.E + 1) % 2 : Nat) : Int) * x.q) (x.E + 1) (packL (stL x.n x.l)) := by
      unfold Snap.saveM
      rw [if_neg (Classical.not_not.2 hx.okAt), if_neg (by simp [hf])]
    rw [es] at e1
    have pl := Snap.places 0 (x.q : Int) (x.E + 1)
    rw [← e1]
    exact save_ok (by omega) (x.E + 1) (packL (stL x.n x.l)) (by omega)
end

/-- a new store -/
theorem inv_new {n : Nat} (h0 : 32 ≤ n) (h1 : n ≤ 4096) : Inv ⟨⟨List.replicate n (noughts 256), [], 0, 0⟩, n / 8, 0, lg0 (2 * (n / 8 : Nat)) (2 * (n / 8 : Nat)) 0, [], 0⟩ := by
  have rd : ∀ i, readAt (⟨List.replicate n (noughts 256), [], 0, 0⟩ : M) i = noughts 256 := fun i => Snap.blank_read (k := n) rfl rfl i
  have fz : fitsM ((n / 8 : Nat) : Int) ((12 + szL [] : Nat) : Int) = true := by
    unfold Snap.fitsM
    have e : (((12 + szL [] : Nat) : Int) / 256 + min (((12 + szL [] : Nat) : Int) % 256) 1) = 1 := by decide
    rw [e, decide_eq_true (p := (1 : Int) ≤ ((n / 8 : Nat) : Int)) (by omega), decide_eq_true (p := (1 : Int) ≤ ((n / 8 : Nat) : Int) - 1) (by omega), decide_eq_true (p := (0 : Int) ≤ ((12 + szL [] : Nat) : Int)) (by omega)]
    rfl
  refine mkInv (n0 := 0) (l0 := []) (css := []) (by simp; omega) (by simp) ⟨by omega, by omega⟩ ?_ (fun _ => ⟨rfl, rfl⟩) (Wal.blank_holds rd rfl ⟨by omega, by omega, by simp; omega⟩ (by omega) (by omega)) (fun _ h => by cases h) rfl rfl ⟨fun p hp => by simp at hp, trivial⟩ fz ⟨fun p hp => by simp at hp, trivial⟩ fz
  refine ⟨fun h => ?_, fun h => absurd h (Nat.lt_irrefl 0), fun _ => Snap.slot_blank (rd _) 0⟩
  rw [Snap.slot_blank (rd _)] at h
  cases h

end Kv
end Go.Proofs.Ytkgocfaajfaidaa
