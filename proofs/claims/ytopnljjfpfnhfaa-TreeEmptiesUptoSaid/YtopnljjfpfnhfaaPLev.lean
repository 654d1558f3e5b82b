/- Levels: the rows of a tree's nodes. -/
import Derived.Test.YtopnljjfpfnhfaaPTreeB
namespace Go.Proofs.Ytopnljjfpfnhfaa
open Go D
set_option linter.unusedVariables false
set_option linter.unusedSimpArgs false

/-- a node's keys, its sons -/
def keysOf : (n : Nat) → T n → List Key
  | 0, t => List.map (·.1) t
  | _ + 1, t => t.1
def sonsOf {n : Nat} (row : List (T (n + 1))) : List (T n) := (row.map fun (t : T (n + 1)) => t.2).flatten
def levF : (n : Nat) → List (T n) → List (List (List Key))
  | 0, row => [row.map (keysOf 0)]
  | n + 1, row => row.map (keysOf (n + 1)) :: levF n (sonsOf row)

/-- cells that are slices of keys, in blocks of D -/
def Kss (h : Heap) (D : Nat → Prop) (vs : List Value) (ls : List (List Key)) : Prop := vs.length = ls.length ∧ ∀ (i : Nat) v ks, vs[i]? = some v → ls[i]? = some ks → ∃ a l c, v = .slice a l c ∧ Rv h a l (keysV ks) ∧ ∀ b, blk a b → D b
def Ksss (h : Heap) (D : Nat → Prop) (vs : List Value) (ls : List (List (List Key))) : Prop := vs.length = ls.length ∧ ∀ (i : Nat) v ks, vs[i]? = some v → ls[i]? = some ks → ∃ a l c us, v = .slice a l c ∧ Rv h a l us ∧ (∀ b, blk a b → D b) ∧ Kss h D us ks
section
variable {h h' : Heap} {D D' S : Nat → Prop} {vs : List Value}
theorem Kss.keep {ls : List (List Key)} (hk : Kss h D vs ls) (kp : Keep S h h') (hS : ∀ b, D b → ¬ S b) : Kss h' D vs ls := ⟨hk.1, fun i v ks h1 h2 => by
  obtain ⟨a, l, c, e, r, q⟩ := hk.2 i v ks h1 h2
  exact ⟨a, l, c, e, r.keep kp (fun _ b hb => hS b (q b hb)), q⟩⟩
theorem Kss.mono {ls : List (List Key)} (hk : Kss h D vs ls) (hD : ∀ b, D b → D' b) : Kss h D' vs ls := ⟨hk.1, fun i v ks h1 h2 => by
  obtain ⟨a, l, c, e, r, q⟩ := hk.2 i v ks h1 h2
  exact ⟨a, l, c, e, r, fun b hb => hD b (q b hb)⟩⟩
theorem Ksss.keep {ls : List (List (List Key))} (hk : Ksss h D vs ls) (kp : Keep S h h') (hS : ∀ b, D b → ¬ S b) : Ksss h' D vs ls := ⟨hk.1, fun i v ks h1 h2 => by
  obtain ⟨a, l, c, us, e, r, q, k⟩ := hk.2 i v ks h1 h2
  exact ⟨a, l, c, us, e, r.keep kp (fun _ b hb => hS b (q b hb)), q, k.keep kp hS⟩⟩
theorem Ksss.mono {ls : List (List (List Key))} (hk : Ksss h D vs ls) (hD : ∀ b, D b → D' b) : Ksss h D' vs ls := ⟨hk.1, fun i v ks h1 h2 => by
  obtain ⟨a, l, c, us, e, r, q, k⟩ := hk.2 i v ks h1 h2
  exact ⟨a, l, c, us, e, r, fun b hb => hD b (q b hb), k.mono hD⟩⟩
theorem Kss.snoc {ls : List (List Key)} (hk : Kss h D vs ls) {a : Option Addr} {l c : Nat} {ks : List Key} (hr : Rv h a l (keysV ks)) (hD : ∀ b, blk a b → D b) : Kss h D (vs ++ [.slice a l c]) (ls ++ [ks]) := by
  have hl := hk.1
  refine ⟨by simp [hl], fun i v k h1 h2 => ?_⟩
  rw [List.getElem?_append] at h1 h2
  split at h1
  · rename_i e; rw [if_pos (by omega)] at h2; exact hk.2 i v k h1 h2
  · rename_i e
    rw [if_neg (by omega)] at h2
    have e2 : i - vs.length = 0 := by
      have := (List.getElem?_eq_some_iff.1 h1).1
      simp at this; omega
    rw [e2] at h1
    rw [← hl, e2] at h2
    simp at h1 h2
    subst h1 h2
    exact ⟨a, l, c, rfl, hr, hD⟩
theorem Ksss.snoc {ls : List (List (List Key))} (hk : Ksss h D vs ls) {a : Option Addr} {l c : Nat} {us : List Value} {ks : List (List Key)} (hr : Rv h a l us) (hD : ∀ b, blk a b → D b) (hu : Kss h D us ks) : Ksss h D (vs ++ [.slice a l c]) (ls ++ [ks]) := by
  have hl := hk.1
  refine ⟨by simp [hl], fun i v k h1 h2 => ?_⟩
  rw [List.getElem?_append] at h1 h2
  split at h1
  · rename_i e; rw [if_pos (by omega)] at h2; exact hk.2 i v k h1 h2
  · rename_i e
    rw [if_neg (by omega)] at h2
    have e2 : i - vs.length = 0 := by
      have := (List.getElem?_eq_some_iff.1 h1).1
      simp at this; omega
    rw [e2] at h1
    rw [← hl, e2] at h2
    simp at h1 h2
    subst h1 h2
    exact ⟨a, l, c, us, rfl, hr, hD, hu⟩
theorem Kss.one {ls : List (List Key)} (hk : Kss h D vs ls) : ∀ v ∈ vs, v.oneCell' = true := by
  intro v hv
  obtain ⟨i, hi, rfl⟩ := List.mem_iff_getElem.1 hv
  obtain ⟨a, l, c, e, _⟩ := hk.2 i _ _ (List.getElem?_eq_getElem hi) (List.getElem?_eq_getElem (by rw [← hk.1]; exact hi))
  rw [e]; rfl
end

theorem clipS_spec {h0 h : Heap} {s : Sl} {vs : List Value} (hs : Own h0 h 1 s vs) {R : Sl → Heap → Prop} (hk : ∀ a', Own h0 h 1 ⟨a', s.len, s.len⟩ vs → (∀ b, blk a' b → blk s.a b) → R ⟨a', s.len, s.len⟩ h) : CallT Try.prog slices_Clip_string_no [.slice s.a s.len s.cap] h [.sc .sl] R := by
  have hcall := slices_Clip_string_call s (R := R) (h := h)
  apply hcall
  unfold slices_Clip_string
  exact hs.cut hk
theorem clipL_spec {h0 h : Heap} {s : Sl} {vs : List Value} (hs : Own h0 h 1 s vs) {R : Sl → Heap → Prop} (hk : ∀ a', Own h0 h 1 ⟨a', s.len, s.len⟩ vs → (∀ b, blk a' b → blk s.a b) → R ⟨a', s.len, s.len⟩ h) : CallT Try.prog slices_Clip_Lstring_no [.slice s.a s.len s.cap] h [.sc .sl] R := by
  have hcall := slices_Clip_Lstring_call s (R := R) (h := h)
  apply hcall
  unfold slices_Clip_Lstring
  exact hs.cut hk
theorem clipLL_spec {h0 h : Heap} {s : Sl} {vs : List Value} (hs : Own h0 h 1 s vs) {R : Sl → Heap → Prop} (hk : ∀ a', Own h0 h 1 ⟨a', s.len, s.len⟩ vs → (∀ b, blk a' b → blk s.a b) → R ⟨a', s.len, s.len⟩ h) : CallT Try.prog slices_Clip_LLstring_no [.slice s.a s.len s.cap] h [.sc .sl] R := by
  have hcall := slices_Clip_LLstring_call s (R := R) (h := h)
  apply hcall
  unfold slices_Clip_LLstring
  exact hs.cut hk

theorem sons_snoc {n : Nat} (row : List (T (n + 1))) (t : T (n + 1)) : sonsOf (row ++ [t]) = sonsOf row ++ t.2 := by unfold sonsOf; simp
/-- rows of a million nodes at most, of eight keys and sons -/
def Small : (n : Nat) → List (T n) → Prop
  | 0, row => row.length ≤ 1000000 ∧ ∀ t ∈ row, List.length t ≤ 8
  | n + 1, row => row.length ≤ 1000000 ∧ (∀ t ∈ row, t.1.length ≤ 8 ∧ t.2.length ≤ 8) ∧ (sonsOf row).length ≤ 1000000 ∧ Small n (sonsOf row)
theorem Small.len : ∀ {n : Nat} {row : List (T n)}, Small n row → row.length ≤ 1000000
  | 0, _, h => h.1
  | _ + 1, _, h => h.1
theorem Small.keys : ∀ {n : Nat} {row : List (T n)}, Small n row → ∀ t ∈ row, (keysOf n t).length ≤ 8
  | 0, _, h, t, ht => by have := h.2 t ht; exact Nat.le_trans (Nat.le_of_eq (List.length_map _)) this
  | _ + 1, _, h, t, ht => (h.2.1 t ht).1
/-- the next row, as far as it is laid -/
def Nx (h : Heap) (F : Nat → Prop) : (n : Nat) → List (T n) → List Value → Prop
  | 0, _, us => us = []
  | m + 1, row, us => Reps h F m (sonsOf row) us
theorem Reps.keep {h h' : Heap} {F S : Nat → Prop} {n : Nat} {ss : List (T n)} {vs : List Value} (hr : Reps h F n ss vs) (hk : Keep S h h') (hS : ∀ b, F b → ¬ S b) : Reps h' F n ss vs := ⟨hr.1, fun i s w h1 h2 => (hr.2 i s w h1 h2).keep hk hS⟩
theorem Nx.keep {h h' : Heap} {F S : Nat → Prop} (hk : Keep S h h') (hS : ∀ b, F b → ¬ S b) : ∀ {n : Nat} {row : List (T n)} {us : List Value}, Nx h F n row us → Nx h' F n row us
  | 0, _, _, h => h
  | _ + 1, _, _, h => Reps.keep h hk hS
theorem Nx.nw {h h' : Heap} {F : Nat → Prop} (hk : Nw h h') : ∀ {n : Nat} {row : List (T n)} {us : List Value}, Nx h F n row us → Nx h' F n row us
  | 0, _, _, h => h
  | _ + 1, _, _, h => Reps.nw h hk

/-- one node of a row: its keys, and its sons -/
theorem node_of {h : Heap} {F : Nat → Prop} {n : Nat} {t : T n} {v : Value} (hr : Rep h F n t v) : ∃ p ka kl kc sa sl sc, v = .iface (match n with | 0 => lfT | _ + 1 => inT) (.pointer (some ⟨p, 0, none⟩)) ∧ Row h p [.slice ka kl kc, .slice sa sl sc] ∧ Rv h ka kl (keysV (keysOf n t)) ∧
    (∀ m (e : n = m + 1), ∃ us, Rv h sa sl us ∧ Reps h F m (e ▸ t : T (m + 1)).2 us) := by
  cases n with
  | zero =>
    obtain ⟨p, ka, kl, kc, va, vl, vc, e, _, row, k1, k2, _, _⟩ := hr
    exact ⟨p, ka, kl, kc, va, vl, vc, e, row, k1, fun m e => by cases e⟩
  | succ n =>
    obtain ⟨p, ka, kl, kc, va, vl, vc, us, e, row, k1, k2, rs⟩ := Reps.cat hr
    refine ⟨p, ka, kl, kc, va, vl, vc, e, row, k1, fun m e => ?_⟩
    injection e with e
    subst e
    exact ⟨us, k2, rs⟩

/-- what stands of a level: keys, and the sons -/
structure Lvl (h7 hh : Heap) (F : Nat → Prop) (n : Nat) (row : List (T n)) (ks ns : Sl) : Prop where
  nw : Nw h7 hh
  ex : ∃ kvs nvs, Own h7 hh 1 ks kvs ∧ Own h7 hh 1 ns nvs ∧ Kss hh (fun b => h7.size ≤ b ∧ b < hh.size ∧ ¬ blk ks.a b ∧ ¬ blk ns.a b) kvs (row.map (keysOf n)) ∧ Nx hh F n row nvs
  len : ks.len = row.length
  ne : ∀ b, blk ks.a b → ¬ blk ns.a b

/-- a clone of a node's keys, cut, laid behind the row's -/
theorem lvl_keys {h7 hh : Heap} {F : Nat → Prop} {n : Nat} {row : List (T n)} {t : T n} {ks ns : Sl} {ka : Option Addr} {kl kc : Nat} (hl : Lvl h7 hh F n row ks ns) (hr : Rv hh ka kl (keysV (keysOf n t))) (h8 : (keysOf n t).length ≤ 8) (hlen : row.length ≤ 1000000) (hF : ∀ b, F b → b < h7.size) {K : Option Addr → Nat → Heap → Prop}
    (hk : ∀ o c h', Nw h7 h' → (∃ kvs nvs, Own h7 h' 1 ⟨o, ks.len + 1, c⟩ kvs ∧ Own h7 h' 1 ns nvs ∧ Kss h' (fun b => h7.size ≤ b ∧ b < h'.size ∧ ¬ blk o b ∧ ¬ blk ns.a b) kvs ((row ++ [t]).map (keysOf n)) ∧ Nx h' F n row nvs) → (∀ b, blk o b → ¬ blk ns.a b) → K o c h') :
    CallT Try.prog slices_Clone_string_no [.slice ka kl kc] hh [.sc .sl] fun r h20 => CallT Try.prog slices_Clip_string_no [.slice r.a r.len r.cap] h20 [.sc .sl] fun r21 h22 => newB [.slice r21.a r21.len r21.cap] 39 h22 fun a h24 => ldRow (1 * 1) a h24 fun cs => app [.slice none 0 0] 39 1 24 ks.a ks.len ks.cap cs 1 h24 K := by
  obtain ⟨nw, ⟨kvs, nvs, ok, on, kss, nx⟩, len, ne⟩ := hl
  have lk : kl = (keysOf n t).length := by have := hr.1; simpa using this
  refine cloneS_spec (s := ⟨ka, kl, kc⟩) hr (keysV_one _) (by show kl ≤ _; omega) ?_
  intro r h20 o20 l20 n20
  refine clipS_spec o20 ?_
  intro a' o21 b21
  have z := nw.size
  have z20 := n20.size
  have ok20 := ok.nw n20
  have okl : ∀ b, blk ks.a b → b < hh.size := fun b hb => ok.lt hb
  have onl : ∀ b, blk ns.a b → b < hh.size := fun b hb => on.lt hb
  refine ok20.push (N := 1) (nw.trans' n20) rfl rfl rfl (by intro u hu; simp only [List.mem_singleton] at hu; subst hu; rfl) (by show (2 * (ks.len + 1) + 1024) * 24 ≤ _; omega) ?_
  intro o c h' q1 q2 q3 q4
  have z' := q3.size
  have a20 : ∀ b, blk a' b → hh.size ≤ b ∧ b < h20.size := fun b hb => ⟨o20.fresh b (b21 b hb), o20.lt (b21 b hb)⟩
  have oo : ∀ b, blk o b → blk ks.a b ∨ h20.size ≤ b := q4
  refine hk o c h' q2 ⟨_, nvs, q1, (on.nw n20).keep q3 (fun b hb e => ne b e hb), ?_, ?_⟩ (fun b hb hn => ?_)
  · rw [List.map_append]
    refine Kss.snoc ?_ ?_ ?_
    · refine ((kss.keep n20 (fun _ _ h => h)).keep q3 (fun b hb e => hb.2.2.1 e)).mono (fun b hb => ⟨hb.1, by have := hb.2.1; omega, fun e => ?_, hb.2.2.2⟩)
      rcases oo b e with e | e
      · exact hb.2.2.1 e
      · have := hb.2.1; omega
    · exact o21.rv.keep q3 (fun _ b hb e => by have := a20 b hb; have := okl b e; omega)
    · intro b hb
      have := a20 b hb
      refine ⟨by omega, by omega, fun e => ?_, fun e => by have := onl b e; omega⟩
      rcases oo b e with e | e
      · have := okl b e; omega
      · omega
  · exact (nx.nw n20).keep q3 (fun b hb e => by have := ok.fresh b e; have := hF b hb; omega)
  · rcases oo b hb with e | e
    · exact ne b e hn
    · have := onl b hn; omega

theorem take_snoc {α : Type} {l : List α} {i : Nat} (hi : i < l.length) : l.take (i + 1) = l.take i ++ [l[i]] := List.take_succ_eq_append_getElem hi

theorem levels_spec {h : Heap} {F : Nat → Prop} {p n : Nat} {t : T n} (ht : TRep h F n t p) (hF : ∀ b, F b → b < h.size) (hS : Small n [t]) (hn : n ≤ 1000) {lo : Nat} (ho : Okn lo n t) (hlo : n = 0 ∨ 2 ≤ lo) {R : Sl → Heap → Prop}
    (hk : ∀ r us h', Nw h h' → Rv h' r.a r.len us → (∀ b, blk r.a b → h.size ≤ b ∧ b < h'.size) → Ksss h' (fun b => h.size ≤ b ∧ b < h'.size) us (levF n [t]) → R r h') : CallT Try.prog btree_Tree_Levels_no [.pointer (some ⟨p, 0, none⟩)] h [.sc .sl] R := by
  obtain ⟨v, row, fp, rep⟩ := ht
  apply btree_Tree_Levels_call
  unfold btree_Tree_Levels
  refine ⟨v, by rw [row.cells]; rfl, rep.one.1, newB_row ?_⟩
  intro h4 s4 w4 k4
  have rv0 : Rv h4 (some ⟨h.size, 0, none⟩) 1 [v] := rv_row w4 rfl
  refine LoopT.introN (fun N (s : Sl × Sl) h' => Nw h4 h' ∧ ∃ us done, Own h4 h' 1 s.1 us ∧ Ksss h' (fun b => h4.size ≤ b ∧ b < h'.size ∧ ¬ blk s.1.a b) us done ∧ s.1.len = done.length ∧ done.length ≤ n + 1 ∧ (∀ b, blk s.2.a b → h.size ≤ b ∧ b < h'.size ∧ ¬ blk s.1.a b) ∧
      ((N = 0 ∧ s.2.len = 0 ∧ done = levF n [t]) ∨ ∃ m, ∃ rw : List (T m), N = m + 1 ∧ (∃ vs, Rv h' s.2.a s.2.len vs ∧ Reps h' F m rw vs) ∧ 0 < rw.length ∧ Small m rw ∧ done ++ levF m rw = levF n [t] ∧ done.length + m + 1 = n + 1 ∧ ∀ t ∈ rw, ∃ lo, Okn lo m t ∧ (m = 0 ∨ 1 ≤ lo)))
    ⟨n + 1, Keep.refl _ _, [], [], Own.nil _ _ _, ⟨rfl, fun i v ks h1 => by simp at h1⟩, rfl, by simp, fun b hb => ?_, .inr ⟨n, [t], rfl, ⟨[v], rv0, rfl, ?_⟩, by simp, hS, rfl, by simp, ?_⟩⟩ ?_
  · rw [blk_some] at hb; simp only at hb; subst hb
    exact ⟨Nat.le_refl _, by omega, fun e => by obtain ⟨y, e2, _⟩ := e; cases e2⟩
  · intro i s w h1 h2
    cases i with
    | zero => simp at h1 h2; subst h1 h2; exact rep.nw k4
    | succ i => simp at h1
  · intro t' ht'
    simp only [List.mem_singleton] at ht'
    subst ht'
    exact ⟨lo, ho, hlo.imp id (fun e => by omega)⟩
  rintro N ⟨out, rws⟩ h7 ⟨nw, us, done, oo, kss, ol, dl, rb, cases⟩
  simp only at oo kss ol rb cases
  have z7 := nw.size
  rcases cases with ⟨rfl, l0, e⟩ | ⟨m, rw', rfl, ⟨vs, rv, reps⟩, pos, sm, ed, el, oks⟩
  · refine cnd_f (decide_eq_false (by show ¬ ((rws.len : Int) > 0); omega)) ?_
    refine clipLL_spec oo ?_
    intro a' o' b'
    rw [e] at kss
    exact hk _ us h7 (k4.trans' nw) o'.rv (fun b hb => by have := o'.fresh b hb; have := o'.lt hb; omega) (kss.mono (fun b hb => by have := hb.1; have := hb.2.1; omega))
  · have lrow : rws.len = rw'.length := by have := rv.1; have := reps.1; omega
    have sml := sm.len
    refine cnd_t (decide_eq_true (by show (rws.len : Int) > 0; omega)) ?_
    have hF7 : ∀ b, F b → b < h7.size := fun b hb => by have := hF b hb; omega
    refine LoopT.intro (fun (s : Sl × Sl × Int) hh => ∃ i : Nat, s.2.2 = (i : Int) ∧ i ≤ rw'.length ∧ Lvl h7 hh F m (rw'.take i) s.1 s.2.1) (fun s _ => ((rw'.length : Int) - s.2.2).toNat)
      ⟨0, rfl, Nat.zero_le _, Keep.refl _ _, ⟨[], [], Own.nil _ _ _, Own.nil _ _ _, ⟨rfl, fun i v ks h1 => by simp at h1⟩, ?_⟩, rfl, fun b hb => by obtain ⟨y, e2, _⟩ := hb; cases e2⟩ ?_
    · cases m with
      | zero => rfl
      | succ m => exact ⟨rfl, fun i s w h1 => by simp [sonsOf] at h1⟩
    rintro ⟨ks, ns, ix⟩ hh ⟨i, rfl, hi, lv⟩
    simp only at lv
    have lv0 := lv
    have zz := lv.nw.size
    refine cnd_dec (fun c => ?_) (fun c => ?_)
    · have hil : i < rw'.length := by have : (i : Int) < (rws.len : Int) := c; omega
      have hiv : i < vs.length := by have := reps.1; omega
      refine withJ.inl ?_
      refine Rv.at (rv.keep0 lv.nw) (by show (0 : Int) ≤ (i : Int); omega) (by show (i : Int) < (rws.len : Int); omega) (v := vs[i]) (by rw [Int.toNat_natCast, List.getElem?_eq_getElem hiv]) ?_
      intro a14 c14
      refine ⟨_, c14, ?_⟩
      have rt := (reps.2 i _ _ (List.getElem?_eq_getElem hil) (List.getElem?_eq_getElem hiv)).nw lv.nw
      obtain ⟨p, ka, kl, kc, sa, sl, sc, ev, prow, rk, rsn⟩ := node_of rt
      have k8 := sm.keys _ (List.getElem_mem hil)
      have w1 : w64 ((i : Int) + 1) = ((i + 1 : Nat) : Int) := by rw [w64_id (by omega) (by omega)]; push_cast; rfl
      have ltk : (rw'.take i).length ≤ 1000000 := by rw [List.length_take]; omega
      have lti : (rw'.take i).length = i := by rw [List.length_take]; omega
      cases m with
      | zero =>
        rw [ev]
        refine isP_yes rfl ?_
        refine ldL_row (o := 0) prow rfl ?_
        refine lvl_keys lv (t := rw'[i]) rk k8 ltk hF7 ?_
        intro o c' h' nw' ex' ne'
        refine ⟨⟨i + 1, w1, by omega, nw', ?_, ?_, ne'⟩, ?_⟩
        · rw [take_snoc hil]
          obtain ⟨kvs, nvs, q1, q2, q3, q4⟩ := ex'
          exact ⟨kvs, nvs, q1, q2, q3, q4⟩
        · have := lv.len; show ks.len + 1 = _; rw [take_snoc hil]; simp only [List.length_append, List.length_singleton]; omega
        · show ((rw'.length : Int) - w64 ((i : Int) + 1)).toNat < ((rw'.length : Int) - (i : Int)).toNat; rw [w1]; omega
      | succ m =>
        rw [ev]
        refine isP_no rfl ?_
        refine isP_yes rfl ?_
        refine ldL_row (o := 0) prow rfl ?_
        refine lvl_keys lv (t := rw'[i]) rk k8 ltk hF7 ?_
        intro o c' h' nw' ex' ne'
        obtain ⟨kvs, nvs, q1, q2, q3, q4⟩ := ex'
        have rt' := (reps.2 i _ _ (List.getElem?_eq_getElem hil) (List.getElem?_eq_getElem hiv)).nw nw'
        obtain ⟨p2, ka2, kl2, kc2, sa2, sl2, sc2, ev2, prow2, rk2, rsn2⟩ := node_of rt'
        rw [ev] at ev2
        injection ev2 with _ ev2
        injection ev2 with ev2
        injection ev2 with ev2
        injection ev2 with ev2
        subst ev2
        refine ldL_row (o := 0 + 1) prow2 rfl ?_
        obtain ⟨us2, rs1, rs2⟩ := rsn2 m rfl
        have ls2 := rs1.1
        have ls3 := rs2.1
        refine Rv.rd rs1 ?_
        have b8 := (sm.2.1 _ (List.getElem_mem hil)).2
        have nl : nvs.length = ns.len * 1 := q2.len
        have sl3 : (sonsOf (rw'.take i)).length ≤ 8000000 := by
          have h1 : ∀ (l : List (T (m + 1))), (∀ t ∈ l, t.2.length ≤ 8) → (sonsOf l).length ≤ 8 * l.length := by
            intro l
            induction l with
            | nil => intro _; simp [sonsOf]
            | cons a l ih =>
              intro hh
              have i1 := ih (fun t ht => hh t (by simp [ht]))
              have i2 := hh a (by simp)
              have e : sonsOf (a :: l) = a.2 ++ sonsOf l := by unfold sonsOf; simp
              rw [e, List.length_append, List.length_cons]; omega
          have := h1 (rw'.take i) (fun t ht => (sm.2.1 t (List.mem_of_mem_take ht)).2)
          rw [lti] at this; omega
        have rq4 : Reps h' F m (sonsOf (rw'.take i)) nvs := q4
        have rl4 := rq4.1
        replace ls3 : us2.length = (rw'[i] : T (m + 1)).2.length := ls3
        refine q2.app (m := sl2) nw' rfl (by omega) rs2.one (by show (2 * (ns.len + sl2) + 1024) * 16 ≤ _; omega) ?_
        intro o44 c45 h46 r1 r2 r3 r4
        have zh' := nw'.size
        have z46 := r3.size
        refine ⟨⟨i + 1, w1, by omega, r2, ?_, ?_, ?_⟩, ?_⟩
        · rw [take_snoc hil]
          refine ⟨kvs, nvs ++ us2, q1.keep r3 (fun b hb e => ne' b hb e), r1, (q3.keep r3 (fun b hb e => hb.2.2.2 e)).mono (fun b hb => ⟨hb.1, by have := hb.2.1; omega, hb.2.2.1, fun e => ?_⟩), ?_⟩
          · rcases r4 b e with e | e
            · exact hb.2.2.2 e
            · have := hb.2.1; omega
          · show Reps h46 F m (sonsOf (rw'.take i ++ [rw'[i]])) _
            rw [sons_snoc]
            exact (rq4.append rs2).keep r3 (fun b hb e => by have := q2.fresh b e; have := hF7 b hb; omega)
        · have := lv0.len; show ks.len + 1 = _; rw [take_snoc hil]; simp only [List.length_append, List.length_singleton]; omega
        · intro b hb e
          replace hb : blk o b := hb
          replace e : blk o44 b := e
          rcases r4 b e with e | e
          · exact ne' b hb e
          · have := q1.lt hb; omega
        · show ((rw'.length : Int) - w64 ((i : Int) + 1)).toNat < ((rw'.length : Int) - (i : Int)).toNat; rw [w1]; omega
    · have hie : i = rw'.length := by have : ¬ (i : Int) < (rws.len : Int) := c; omega
      subst hie
      rw [List.take_of_length_le (Nat.le_refl _)] at lv
      obtain ⟨nwl, ⟨kvs, nvs, q1, q2, q3, q4⟩, len, ne⟩ := lv
      refine clipL_spec q1 ?_
      intro a' o' b'
      have oo' := oo.nw nwl
      refine oo'.push (N := 1) (nw.trans' nwl) rfl rfl rfl (by intro u hu; simp only [List.mem_singleton] at hu; subst hu; rfl) (by show (2 * (out.len + 1) + 1024) * 24 ≤ _; omega) ?_
      intro o c' h' r1 r2 r3 r4
      have z' := r3.size
      have ola : ∀ b, blk out.a b → b < h7.size := fun b hb => oo.lt hb
      have al : ∀ b, blk a' b → h7.size ≤ b ∧ b < hh.size := fun b hb => ⟨q1.fresh b (b' b hb), q1.lt (b' b hb)⟩
      have nl : ∀ b, blk ns.a b → h7.size ≤ b ∧ b < hh.size := fun b hb => ⟨q2.fresh b hb, q2.lt hb⟩
      have no : ∀ b, b < hh.size → ¬ blk out.a b → ¬ blk o b := fun b h1 h2 e => by
        rcases r4 b e with e | e
        · exact h2 e
        · omega
      have nwF : Keep (blk out.a) hh h' := r3
      have K' : Ksss h' (fun b => h4.size ≤ b ∧ b < h'.size ∧ ¬ blk o b) (us ++ [.slice a' ks.len ks.len]) (done ++ [rw'.map (keysOf m)]) := by
        refine Ksss.snoc ?_ ?_ ?_ ?_ (us := kvs)
        · exact ((kss.keep nwl (fun _ _ h => h)).keep r3 (fun b hb e => hb.2.2 e)).mono (fun b hb => ⟨hb.1, by have := hb.2.1; omega, no b (by have := hb.2.1; omega) hb.2.2⟩)
        · exact o'.rv.keep r3 (fun _ b hb e => by have := al b hb; have := ola b e; omega)
        · intro b hb
          have := al b hb
          exact ⟨by omega, by omega, no b (by omega) (fun e => by have := ola b e; omega)⟩
        · exact (q3.keep r3 (fun b hb e => by have := hb.1; have := ola b e; omega)).mono (fun b hb => ⟨by have := hb.1; omega, by have := hb.2.1; omega, no b hb.2.1 (fun e => by have := ola b e; have := hb.1; omega)⟩)
      have rb' : ∀ b, blk ns.a b → h.size ≤ b ∧ b < h'.size ∧ ¬ blk o b := fun b hb => by
        have := nl b hb
        exact ⟨by omega, by omega, no b (by omega) (fun e => by have := ola b e; omega)⟩
      cases m with
      | zero =>
        have e0 : nvs = [] := q4
        have l0 := q2.len
        rw [e0] at l0
        refine ⟨0, by omega, r2, _, _, r1, K', by show out.len + 1 = _; simp; omega, by simp; omega, rb', .inl ⟨rfl, by simpa using l0.symm, ?_⟩⟩
        rw [← ed]; rfl
      | succ m =>
        have rq4 : Reps hh F m (sonsOf rw') nvs := q4
        have l0 := q2.len
        refine ⟨m + 1, by omega, r2, _, _, r1, K', by show out.len + 1 = _; simp; omega, by simp; omega, rb', .inr ⟨m, sonsOf rw', rfl, ⟨nvs, q2.rv.keep r3 (fun _ b hb e => by have := nl b hb; have := ola b e; omega), rq4.keep r3 (fun b hb e => ?_)⟩, ?_, sm.2.2.2, ?_, by simp; omega, ?_⟩⟩
        · have := oo.fresh b e; have := hF b hb; omega
        · obtain ⟨t0, ht0⟩ : ∃ t0, t0 ∈ rw' := ⟨rw'[0], List.getElem_mem pos⟩
          obtain ⟨lo', ok', hlo'⟩ := oks t0 ht0
          have h1 := ok'.2.1
          have h2 : 0 < t0.2.length := by omega
          exact List.length_pos_of_mem (List.mem_flatten.2 ⟨t0.2, List.mem_map.2 ⟨t0, ht0, rfl⟩, List.getElem_mem h2⟩)
        · rw [← ed]
          show (done ++ [_]) ++ _ = done ++ (_ :: _)
          simp
        · intro t' ht'
          obtain ⟨l, hl, ht2⟩ := List.mem_flatten.1 ht'
          obtain ⟨t0, ht0, rfl⟩ := List.mem_map.1 hl
          obtain ⟨lo', ok', hlo'⟩ := oks t0 ht0
          exact ⟨4, ok'.2.2.2 t' ht2, .inr (by omega)⟩
end Go.Proofs.Ytopnljjfpfnhfaa
