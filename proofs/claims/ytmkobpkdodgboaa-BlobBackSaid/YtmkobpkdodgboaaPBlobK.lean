/- BlobBack. -/
import Derived.Test.YtmkobpkdodgboaaPBlobR
namespace Go.Proofs.Ytmkobpkdodgboaa
open Go D
set_option linter.unusedVariables false
set_option linter.unusedSimpArgs false
namespace Blob
open Disk Enc Hash Snap Alloc

/-- cells that hold slices of bytes, as they came in -/
def DsV (h0 : Heap) (vs : List Value) (dss : List (List UInt8)) : Prop := vs.length = dss.length ∧ ∀ (i : Nat) v d, vs[i]? = some v → dss[i]? = some d → ∃ a l c, v = .slice a l c ∧ Rb h0 a l d
theorem DsV.snoc {h0 : Heap} {vs : List Value} {dss : List (List UInt8)} (hd : DsV h0 vs dss) {a : Option Addr} {l c : Nat} {d : List UInt8} (hb : Rb h0 a l d) : DsV h0 (vs ++ [.slice a l c]) (dss ++ [d]) := by
  refine ⟨by simp [hd.1], fun i v e h1 h2 => ?_⟩
  by_cases hi : i < vs.length
  · rw [List.getElem?_append_left hi] at h1
    rw [List.getElem?_append_left (by rw [← hd.1]; exact hi)] at h2
    exact hd.2 i v e h1 h2
  · rw [List.getElem?_append_right (by omega)] at h1
    rw [List.getElem?_append_right (by rw [← hd.1]; omega)] at h2
    have e1 := (List.getElem?_eq_some_iff.1 h1).1
    simp only [List.length_singleton] at e1
    have e2 : i - vs.length = 0 := by omega
    have e3 : i - dss.length = 0 := by rw [← hd.1]; exact e2
    rw [e2] at h1
    rw [e3] at h2
    simp only [List.getElem?_cons_zero, Option.some.injEq] at h1 h2
    subst h1 h2
    exact ⟨a, l, c, rfl, hb⟩

theorem data_push {h : Heap} {a : Option Addr} {l c : Nat} {vs : List Value} (hs : SlR h 1 a l c vs) (hl : l ≤ 1000000) (o' : Option Addr) (l' c' : Nat) {K : Option Addr → Nat → Heap → Prop}
    (hk : ∀ a2 c2 h', SlR h' 1 a2 (l + 1) c2 (vs ++ [.slice o' l' c']) → Keep (blk a) h h' → (∀ b, blk a2 b → (blk a b ∨ h.size ≤ b) ∧ b < h'.size) → K a2 c2 h') :
    newB [.slice o' l' c'] 31 h fun a1 h2 => ldRow (1 * 1) a1 h2 fun cs => app [.slice none 0 0] 31 1 24 a l c cs 1 h2 K := by
  refine newB_row ?_
  intro h1 s1 o1 k1
  refine ldRow_row o1 (by simp) ?_
  refine (hs.keep k1 (fun _ _ h => h)).app rfl (by simp) (fun v hv => by simp at hv; subst hv; rfl) (by omega) ?_
  intro a2 c2 h2 v1 v2 v3
  refine hk a2 c2 h2 v1 ((k1.mono (T := blk a) (fun _ _ h => h.elim)).trans v2 (fun _ _ h => h)) (fun b hb => ?_)
  have hlt := v1.blk_lt hb
  rcases v3 with ⟨rfl, _⟩ | ⟨rfl, _⟩
  · exact ⟨.inl hb, hlt⟩
  · rw [blk_some] at hb
    simp only at hb
    exact ⟨.inr (by omega), hlt⟩

theorem win_back {u n k : Nat} : Alloc.flip (win 0 (u + k) n) u k = win 0 u n := by
  rw [← win_more (d := 0) (by omega), Alloc.flip_flip]

/-- what the device holds of the data -/
def Good (m : M) (fr : Int) (dss : List (List UInt8)) : Prop := ∀ (j : Nat) d, dss[j]? = some d → ∀ v, v < nsec d.length → readAt m (fr + (tot ((dss.map (·.length)).take j) : Int) + (v : Int)) = ofL (sectL (partD d v))

theorem Good.snoc {m m' : M} {fr : Int} {dss : List (List UInt8)} (hg : Good m fr dss) {d : List UInt8} {u : Nat} (hu : u = tot (dss.map (·.length))) (h0 : 0 ≤ fr) (hl : fr + u + (nsec d.length : Int) ≤ m.l.length)
    (hr : ∀ i : Int, 0 ≤ i → i < m.l.length → readAt m' i = if fr + u ≤ i ∧ i < fr + u + (nsec d.length : Int) then ofL (sectL (partD d (i - (fr + u)).toNat)) else readAt m i) : Good m' fr (dss ++ [d]) := by
  intro j e he v hv
  by_cases hj : j < dss.length
  · rw [List.getElem?_append_left hj] at he
    have hg' := hg j e he v hv
    have hm : (dss.map (·.length))[j]? = some e.length := by rw [List.getElem?_map, he]; rfl
    have e1 : ((dss ++ [d]).map (·.length)).take j = (dss.map (·.length)).take j := by
      rw [List.map_append, List.take_append_of_le_length (by rw [List.length_map]; omega)]
    have h1 := tot_take hm
    have h2 := tot_le (dss.map (·.length)) (j + 1)
    rw [e1, hr _ (by omega) (by omega), if_neg (by omega)]
    exact hg'
  · have hj2 : j = dss.length := by
      have := (List.getElem?_eq_some_iff.1 he).1
      rw [List.length_append, List.length_singleton] at this
      omega
    subst hj2
    rw [List.getElem?_append_right (Nat.le_refl _), Nat.sub_self] at he
    simp only [List.getElem?_cons_zero, Option.some.injEq] at he
    subst he
    have e1 : ((dss ++ [d]).map (·.length)).take dss.length = dss.map (·.length) := by
      rw [List.map_append, List.take_left' (by rw [List.length_map])]
    rw [e1, ← hu, hr _ (by omega) (by omega), if_pos (by omega)]
    congr 3
    omega

theorem refs_in {ns : List Nat} (h : tot ns ≤ 4096) : ∀ r ∈ refsAt 0 ns, InI r.1 ∧ InI r.2 := by
  intro r hr
  obtain ⟨i, hi, he⟩ := List.getElem_of_mem hr
  rw [refsAt_length] at hi
  have hn : ns[i]? = some ns[i] := List.getElem?_eq_getElem hi
  have hg := refsAt_get ns 0 i _ hn
  rw [List.getElem?_eq_getElem (by rw [refsAt_length]; exact hi), he, Option.some.injEq] at hg
  have h1 := tot_take hn
  have h2 := tot_le ns (i + 1)
  have en : nsec ns[i] = (ns[i] + 251) / 252 := rfl
  rw [hg]
  unfold refOf InI
  split
  · exact ⟨by decide, by decide⟩
  · constructor <;> dsimp only <;> omega

/-- a crash with nothing that waits -/
theorem BSt.crash {h0 h : Heap} {p q s w : Nat} {m : M} {fr : Int} {bits : List Bool} {Q : Nat → Prop} (t : BSt h0 h p q s w m fr bits Q) (hc : m.c = []) {R : Unit → Heap → Prop}
    (hk : ∀ h', BSt h0 h' p q s w ⟨m.l, [], 0, 0⟩ fr bits Q → Keep (fun b => h0.size ≤ b ∧ ¬ Q b) h h' → R () h') :
    CallT Try.prog disk_Dev_Crash_no [.pointer (some ⟨p, 0, none⟩), .slice none 0 0] h [] R := by
  obtain ⟨mu, im, rp, o, a', g1, ⟨g2, g3, g4, g5, g6⟩, k, ⟨g7, g9, g10, g11, g12⟩, g8⟩ := t
  refine Disk.crash_spec rp (by omega) (boolsIs_nil h) (fun hl => absurd hl (by omega)) ?_
  intro h' r' k'
  rw [crash_none hc] at r'
  have z1 := k'.size
  refine hk h' ⟨mu, im, r', k'.row o (fun hm => (g1 q (.inl hm)).2.2.1 rfl), a'.keep k' (fun hm => (g1 s (.inl hm)).2.2.2.1 rfl) (fun hm => (g1 w (.inl hm)).2.2.2.2 rfl), g1, ⟨g2, g3, g4, g5, g6⟩, k.trans k' (fun y _ hy => (g1 y (.inl hy)).1), ⟨rfl, by simp, fun x hx => (by cases hx), g11, g12⟩, fun b hb' => ⟨(g8 b hb').1, by have := (g8 b hb').2; omega⟩⟩ (k'.mono (fun y _ hy => ⟨(g1 y (.inl hy)).1, (g1 y (.inl hy)).2.1⟩))

/-- the store is opened beside the other -/
theorem BSt.open2 {h0 h : Heap} {p q s w : Nat} {m : M} {fr : Int} {bits : List Bool} {Q : Nat → Prop} (t : BSt h0 h p q s w m fr bits Q) {n : Nat} (hn : n ≤ 4096 ∧ fr + n ≤ m.l.length) {ns : List Nat} (hs : tot ns ≤ n) {a : Option Addr} {l c : Nat} (sl : SlR h 2 a l c ((refsAt 0 ns).flatMap refV)) (hl : l = ns.length) (hl2 : l ≤ 1000000) {R : (Option Addr) × Int → Heap → Prop}
    (hk : ∀ q' s' w' h', Row h' q' (BRow p s' fr) → Alloc.Rep h' s' w' (win 0 (tot ns) n) → Keep (fun _ => False) h h' → R (some ⟨q', 0, none⟩, 0) h') :
    CallT Try.prog blob_Open_no [.pointer (some ⟨p, 0, none⟩), .int .i64 fr, .int .i64 (n : Int), .slice a l c] h [.sc .ptr, .sc (.int .i64)] R := by
  obtain ⟨mu, im, rp, o, a', g1, ⟨g2, g3, g4, g5, g6⟩, k, ⟨g7, g9, g10, g11, g12⟩, g8⟩ := t
  refine open_spec (bits := win 0 (tot ns) n) rp ⟨by omega, by omega, g11, hn.2⟩ sl (by rw [refsAt_length]; exact hl) hl2 (refs_in (by omega)) ?_ ?_
  · have := refs_marks (N := n) ns 0 (by omega)
    rw [win_none, Nat.zero_add] at this
    rw [show ((n : Int)).toNat = n by omega]
    exact this
  · intro q' s' w' h' _ _ _ o' a2 k'
    exact hk q' s' w' h' o' a2 k'

theorem flat_len (rs : List (Int × Int)) : (rs.flatMap refV).length = rs.length * 2 := by
  induction rs with
  | nil => rfl
  | cons r rs ih => rw [List.flatMap_cons, List.length_append, ih, List.length_cons]; show 2 + _ = _; omega
theorem refOf_eq (u n : Nat) : refOf u n = ((refOf u n).1, (n : Int)) := by
  unfold refOf
  split
  · rename_i h; subst h; rfl
  · rfl
theorem map_len_snoc (dss : List (List UInt8)) (d : List UInt8) : (dss ++ [d]).map (·.length) = dss.map (·.length) ++ [d.length] := by rw [List.map_append]; rfl

/-- a part of a text that is held is read -/
theorem BSt.readD {h0 h : Heap} {p q s w : Nat} {m : M} {fr : Int} {bits : List Bool} {Q : Nat → Prop} (t : BSt h0 h p q s w m fr bits Q) {q' s' w' u N : Nat} (ho : Row h q' (BRow p s' fr)) (ha : Alloc.Rep h s' w' (win 0 u N)) (hl : N = bits.length) (hu : u ≤ N) {dss : List (List UInt8)} (hg : Good m fr dss) {j : Nat} {d : List UInt8} (hj : dss[j]? = some d) (hut : u = tot (dss.map (·.length)))
    {st size : Int} (hst : (st, size) = refOf (tot ((dss.map (·.length)).take j)) d.length) {off n : Nat} (hn : off + n ≤ d.length) {R : Sl × Int → Heap → Prop}
    (hk : ∀ sl h', Bl h' sl.a sl.len sl.cap ((d.drop off).take n) → (∀ b, blk sl.a b → h.size ≤ b) → Keep (fun _ => False) h h' → R (sl, 0) h') :
    CallT Try.prog blob_Blobs_Read_no [.pointer (some ⟨q', 0, none⟩), .agg #[.int .i64 st, .int .i64 size], .int .i64 (off : Int), .int .i64 (n : Int)] h [.sc .sl, .sc (.int .i64)] R := by
  have hm : (dss.map (·.length))[j]? = some d.length := by rw [List.getElem?_map, hj]; rfl
  have h1 := tot_take hm
  have h2 := tot_le (dss.map (·.length)) (j + 1)
  have hgj := hg j d hj
  obtain ⟨v, hv⟩ : ∃ v, v = tot ((dss.map (·.length)).take j) := ⟨_, rfl⟩
  rw [← hv] at hst hgj h1
  have e2 := refOf_eq v d.length
  rw [e2] at hst
  injection hst with e3 e4
  subst e4
  have hst0 : (d.length = 0 → st = 0) ∧ (0 < d.length → st = (v : Int)) := by
    rw [e3]
    unfold refOf
    split
    · exact ⟨fun _ => rfl, fun h => by omega⟩
    · exact ⟨fun h => by omega, fun _ => rfl⟩
  have en : nsec d.length = (d.length + 251) / 252 := rfl
  have held : Held (win 0 u N) (st, (d.length : Int)) := by
    by_cases h0 : d.length = 0
    · refine .inr ⟨by show (d.length : Int) = 0; omega, hst0.1 h0⟩
    · have e5 := hst0.2 (by omega)
      refine .inl ⟨by show (0 : Int) < (d.length : Int); omega, by show 0 ≤ st; omega, ?_⟩
      show AllOf _ st (nsecI (d.length : Int)) true
      rw [nsecI_nat, e5]
      exact win_taken (by omega) (by omega) (by omega) hu
  refine t.readAs ho ha (by rw [win_length]; exact hl) held (by omega) (by omega) (fun hn0 hno => ?_) (fun out hout sl h' b n' k' => ?_)
  · have e5 := hst0.2 (by omega)
    have := readF_all (m := m) (P := fr + st) (off := off) (n := n) (ds := d) hn0 hn (fun y hy => by rw [e5]; exact hgj y hy)
    rw [this] at hno
    cases hno
  · by_cases hn0 : n = 0
    · rw [if_pos hn0] at hout
      injection hout with hout
      subst hout hn0
      rw [List.take_zero] at hk
      exact hk sl h' b n' k'
    · rw [if_neg hn0] at hout
      have e5 := hst0.2 (by omega)
      have := readF_all (m := m) (P := fr + st) (off := off) (n := n) (ds := d) (by omega) hn (fun y hy => by rw [e5]; exact hgj y hy)
      rw [this] at hout
      injection hout with hout
      subst hout
      exact hk sl h' b n' k'

theorem blobBack_spec {h : Heap} {x0 x1 : Sl} {pc : Int} (hs : BlsAt h x0.a x0.len) (hbo : BoolsAt h x1.a x1.len) (hpc : InI pc) {R : Bool → Heap → Prop} (hR : ∀ h', Keep (fun _ => False) h h' → R true h') :
    CallT Try.prog law11_BlobBack_no [.slice x0.a x0.len x0.cap, .slice x1.a x1.len x1.cap, .int .i64 pc] h [.sc .bool] R := by
  apply law11_BlobBack_call
  simp only [law11_BlobBack]
  refine BSt.new (sz := 80) (fr := 10) (n := 60) (by decide) (by decide) (by decide) ?_
  intro p q s w h1 t
  refine withJ.inl (withJ.inl ?_)
  refine cnd_f rfl (cnd_f rfl ?_)
  have aw : withJ (σ := Bool) (fun s113 h115 => R s113 h115) (fun J114 => cnd (!(some (⟨q, 0, none⟩ : Addr)).isNone) (cnd ((0 : Int) == 0) (CallT Try.prog law11_awake_no [] h1 [.sc (.bool)] fun (r116 : Bool) h117 => J114 r116 h117) (J114 false h1)) (J114 false h1)) := by
    refine withJ.inl ?_
    refine cnd_t rfl (cnd_t rfl ?_)
    exact awake_spec fun h2 k2 => hR h2 (t.out.trans' k2)
  refine cnd_of (fun _ => cnd_t rfl aw) (fun hlen => ?_)
  have hlen' : x0.len ≤ 20 := by
    have : ¬ ((x0.len : Int) > 20) := by simpa using hlen
    omega
  refine cnd_of (fun _ => aw) (fun hp1 => ?_)
  have hp1' : 1 ≤ pc := by
    have : ¬ pc < 1 := by simpa using hp1
    omega
  obtain ⟨m0, hm0⟩ : ∃ m0 : M, m0 = ⟨List.replicate 80 (noughts 256), [], 0, 0⟩ := ⟨_, rfl⟩
  rw [← hm0] at t
  refine LoopT.intro (fun (v : Sl × Sl × Int × Int) h' => 0 ≤ v.2.2.2 ∧ v.2.2.2 ≤ x0.len ∧ ∃ dss vs m, BSt h h' p q s w m 10 (win 0 (tot (dss.map (·.length))) 60) (fun b => blk v.1.a b ∨ blk v.2.1.a b) ∧ v.2.2.1 = (tot (dss.map (·.length)) : Int) ∧ tot (dss.map (·.length)) ≤ 60 ∧
      SlR h' 2 v.1.a v.1.len v.1.cap ((refsAt 0 (dss.map (·.length))).flatMap refV) ∧ SlR h' 1 v.2.1.a v.2.1.len v.2.1.cap vs ∧ DsV h vs dss ∧ (∀ b, blk v.1.a b → ¬ blk v.2.1.a b) ∧ (dss.length : Int) ≤ v.2.2.2 ∧ m.l.length = 80 ∧ m.c = [] ∧ Good m 10 dss) (fun v _ => ((x0.len : Int) - v.2.2.2).toNat)
    ⟨by show (0 : Int) ≤ 0; omega, by show (0 : Int) ≤ x0.len; omega, [], [], m0, t.own (Q' := fun b => blk none b ∨ blk none b) (.refl (fun _ => False) _) (fun _ hh _ => hh.elim) (fun b hb => by rcases hb with hb | hb <;> (obtain ⟨x, hx, _⟩ := hb; cases hx)), rfl, by decide, SlR.nil _ _, SlR.nil _ _, ⟨rfl, fun i v d h1 => by simp at h1⟩, (fun b hb => by obtain ⟨x, hx, _⟩ := hb; cases hx), by show (0 : Int) ≤ 0; omega, by rw [hm0]; simp, by rw [hm0], fun j d hd => by simp at hd⟩ ?_
  rintro ⟨refs, data, used, i⟩ h2 ⟨g1, g2, dss, vs, m, t2, g3, g4, slr, sld, hdv, hdis, g5, ml, mc, hgood⟩
  replace g1 : 0 ≤ i := g1
  replace g2 : i ≤ x0.len := g2
  replace g3 : used = (tot (dss.map (·.length)) : Int) := g3
  replace g5 : (dss.length : Int) ≤ i := g5
  replace t2 : BSt h h2 p q s w m 10 (win 0 (tot (dss.map (·.length))) 60) (fun b => blk refs.a b ∨ blk data.a b) := t2
  replace slr : SlR h2 2 refs.a refs.len refs.cap ((refsAt 0 (dss.map (·.length))).flatMap refV) := slr
  replace sld : SlR h2 1 data.a data.len data.cap vs := sld
  replace hdis : ∀ b, blk refs.a b → ¬ blk data.a b := hdis
  subst g3
  obtain ⟨u, hu⟩ : ∃ u, u = tot (dss.map (·.length)) := ⟨_, rfl⟩
  rw [← hu] at t2 g4
  have rl : refs.len = dss.length := by
    have e1 := slr.len
    rw [flat_len, refsAt_length, List.length_map] at e1
    omega
  have dl : data.len = dss.length := by
    have e1 := sld.len
    have e2 := hdv.1
    omega
  refine cnd_dec (fun hi => ?_) (fun hi => ?_)
  · replace hi : i < x0.len := hi
    have hw : w64 (i + 1) = i + 1 := w64_id (by omega) (by omega)
    refine withJ.intro (fun (v : Sl × Sl × Int) h' => ∃ dss vs m, BSt h h' p q s w m 10 (win 0 (tot (dss.map (·.length))) 60) (fun b => blk v.1.a b ∨ blk v.2.1.a b) ∧ v.2.2 = (tot (dss.map (·.length)) : Int) ∧ tot (dss.map (·.length)) ≤ 60 ∧
      SlR h' 2 v.1.a v.1.len v.1.cap ((refsAt 0 (dss.map (·.length))).flatMap refV) ∧ SlR h' 1 v.2.1.a v.2.1.len v.2.1.cap vs ∧ DsV h vs dss ∧ (∀ b, blk v.1.a b → ¬ blk v.2.1.a b) ∧ (dss.length : Int) ≤ i + 1 ∧ m.l.length = 80 ∧ m.c = [] ∧ Good m 10 dss) ?_ ?_
    · rintro ⟨refs', data', used'⟩ h3 hinv
      show (0 ≤ w64 (i + 1) ∧ w64 (i + 1) ≤ x0.len ∧ ∃ dss vs m, BSt h h3 p q s w m 10 (win 0 (tot (dss.map (·.length))) 60) (fun b => blk refs'.a b ∨ blk data'.a b) ∧ used' = (tot (dss.map (·.length)) : Int) ∧ tot (dss.map (·.length)) ≤ 60 ∧
        SlR h3 2 refs'.a refs'.len refs'.cap ((refsAt 0 (dss.map (·.length))).flatMap refV) ∧ SlR h3 1 data'.a data'.len data'.cap vs ∧ DsV h vs dss ∧ (∀ b, blk refs'.a b → ¬ blk data'.a b) ∧ (dss.length : Int) ≤ w64 (i + 1) ∧ m.l.length = 80 ∧ m.c = [] ∧ Good m 10 dss) ∧ ((x0.len : Int) - w64 (i + 1)).toNat < ((x0.len : Int) - i).toNat
      rw [hw]
      exact ⟨⟨by omega, by omega, hinv⟩, by omega⟩
    · intro J hJ
      obtain ⟨x, a', l', c', hx, hc, hb, hcap, hmax⟩ := hs i.toNat (by omega)
      have hxl := cell_lt hc
      have ld : ∀ {h'' : Heap} {K : Option Addr → Nat → Nat → Prop}, Keep (fun y => h.size ≤ y) h h'' → K a' l' c' → idx x0.a x0.len i fun y => ldL (y.add (i.toNat * 1)) h'' K := fun kk hK => by
        rw [hx]
        exact idx_some g1 hi (ldL_at (kk.cell hc (by omega)) hK)
      have hbt : ∀ {h'' : Heap}, Keep (fun y => h.size ≤ y) h h'' → Rb h'' a' l' (bytesAt h a' l') := fun kk => Rv.keep hb kk (fun hl b hb' hh => by
        have := Rv.lt hb hl hb'
        have hh' : h.size ≤ b := hh
        omega)
      have hdl := hb.len
      refine ld t2.kp ?_
      have hn : nsec l' = (l' + 251) / 252 := rfl
      have eu : w64 ((u : Int) + (nsec l' : Int)) = ((u + nsec l' : Nat) : Int) ∨ True := .inr trivial
      have keep3 : ∀ {h3 : Heap}, Keep (fun b => h.size ≤ b ∧ ¬ (blk refs.a b ∨ blk data.a b)) h2 h3 → SlR h3 2 refs.a refs.len refs.cap ((refsAt 0 (dss.map (·.length))).flatMap refV) ∧ SlR h3 1 data.a data.len data.cap vs := fun k3 => ⟨SlR.keep slr k3 (fun b hb' hh => hh.2 (.inl hb')), SlR.keep sld k3 (fun b hb' hh => hh.2 (.inr hb'))⟩
      refine t2.writeW g4 (hbt t2.kp) hcap (by omega) (fun hl b hb' => .inl (Rv.lt hb hl hb')) (fun hfull h3 t3 k3 => ?_) (fun hok h3 m3 ml3 mc3 mr3 t3 k3 => ?_)
      · refine newB_row ?_
        intro h4 s4 o4 k4
        rw [add_mk]
        refine stC_row o4 (by simp) rfl ?_
        intro h5 s5 o5 k5
        refine stC_row o5 (by simp) rfl ?_
        intro h6 s6 o6 k6
        have k36 : Keep (fun _ => False) h3 h6 := k4.trans (k5.trans' k6) (fun y hy hh => by
          have hh' : y = h3.size := hh
          omega)
        refine cnd_t rfl ?_
        obtain ⟨e1, e2⟩ := keep3 k3
        refine hJ _ _ ⟨dss, vs, m, ?_, rfl, by rw [← hu]; exact g4, SlR.keep e1 k36 (fun _ _ h => h), SlR.keep e2 k36 (fun _ _ h => h), hdv, hdis, by omega, ml, mc, hgood⟩
        rw [← hu]
        exact t3.keep k36
      · refine newB_row ?_
        intro h4 s4 o4 k4
        rw [add_mk]
        refine stC_row o4 (by simp) rfl ?_
        intro h5 s5 o5 k5
        refine stC_row o5 (by simp) rfl ?_
        intro h6 s6 o6 k6
        have o6' : Row h6 h3.size [.int .i64 (refOf u l').1, .int .i64 (refOf u l').2] := o6
        have k36 : Keep (fun _ => False) h3 h6 := k4.trans (k5.trans' k6) (fun y hy hh => by
          have hh' : y = h3.size := hh
          omega)
        refine cnd_f rfl (cnd_f rfl ?_)
        have t6 := t3.keep k36
        obtain ⟨e1, e2⟩ := keep3 k3
        replace e1 := SlR.keep e1 k36 (fun _ _ h => h)
        replace e2 := SlR.keep e2 k36 (fun _ _ h => h)
        have gnew : Good m3 10 (dss ++ [bytesAt h a' l']) := hgood.snoc hu (by omega) (by rw [← hdl]; omega) (by rw [← hdl]; exact mr3)
        have gold : Good m3 10 dss := fun j d hd => by
          have := gnew j d (by rw [List.getElem?_append_left (List.getElem?_eq_some_iff.1 hd).1]; exact hd)
          have e : ((dss ++ [bytesAt h a' l']).map (·.length)).take j = (dss.map (·.length)).take j := by
            rw [List.map_append, List.take_append_of_le_length (by have := (List.getElem?_eq_some_iff.1 hd).1; rw [List.length_map]; omega)]
          rw [e] at this
          exact this
        refine withJ.inl (withJ.inl ?_)
        -- kept
        have push : ∀ {K : Prop}, (∀ {h7 : Heap}, h7 = h6 → K) → K := fun hh => hh rfl
        have keepIt : ldI .i64 (⟨h3.size, 0, none⟩ : Addr) h6 fun n25 => ldI .i64 (⟨h3.size, 0 + 1, none⟩ : Addr) h6 fun n26 => newB [.int .i64 n25, .int .i64 n26] 87 h6 fun a27 h28 => ldRow (1 * 2) a27 h28 fun cs32 => app [.int .i64 0, .int .i64 0] 87 2 16 refs.a refs.len refs.cap cs32 1 h28 fun o29 c30 h31 =>
            idx x0.a x0.len i fun a33 => ldL (a33.add (i.toNat * 1)) h31 fun o34 l34 c34 => newB [.slice o34 l34 c34] 31 h31 fun a35 h36 => ldRow (1 * 1) a35 h36 fun cs40 => app [.slice none 0 0] 31 1 24 data.a data.len data.cap cs40 1 h36 fun o37 c38 h39 =>
            idx x0.a x0.len i fun a41 => ldL (a41.add (i.toNat * 1)) h39 fun o42 l42 c42 => CallT Try.prog blob_Sectors_no [.int .i64 (l42 : Int)] h39 [.sc (.int .i64)] fun (r43 : Int) h44 =>
            J ((⟨o29, (refs.len + 1), c30⟩ : Sl), (⟨o37, (data.len + 1), c38⟩ : Sl), (w64 ((tot (dss.map (·.length)) : Int) + r43))) h44 := by
          refine ldI_row (o := 0) o6' rfl (ldI_row (o := 0 + 1) o6' rfl ?_)
          refine refs_push e1 (by omega) (refOf u l') ?_
          intro a7 c7 h7 v1 v2 v3
          have e2' := SlR.keep e2 v2 (fun b hb1 hb2 => hdis b hb2 hb1)
          have t7 := t6.own (Q' := fun b => blk a7 b ∨ blk data.a b) v2 (fun b hb' _ => .inl hb') (fun b hb' => by
            rcases hb' with hb' | hb'
            · have := v3 b hb'
              exact ⟨this.1.elim (fun hh => .inl (.inl hh)) .inr, this.2⟩
            · exact ⟨.inl (.inr hb'), e2'.blk_lt hb'⟩)
          have hdis7 : ∀ b, blk a7 b → ¬ blk data.a b := fun b hb1 hb2 => by
            rcases (v3 b hb1).1 with hh | hh
            · exact hdis b hh hb2
            · have := e2.blk_lt hb2
              omega
          refine ld t7.kp ?_
          refine data_push e2' (by omega) a' l' c' ?_
          intro a8 c8 h8 u1 u2 u3
          have v1' := SlR.keep v1 u2 (fun b hb1 hb2 => hdis7 b hb1 hb2)
          have t8 := t7.own (Q' := fun b => blk a7 b ∨ blk a8 b) u2 (fun b hb' _ => .inr hb') (fun b hb' => by
            rcases hb' with hb' | hb'
            · exact ⟨.inl (.inl hb'), v1'.blk_lt hb'⟩
            · have := u3 b hb'
              exact ⟨this.1.elim (fun hh => .inl (.inr hh)) .inr, this.2⟩)
          have hdis8 : ∀ b, blk a7 b → ¬ blk a8 b := fun b hb1 hb2 => by
            rcases (u3 b hb2).1 with hh | hh
            · exact hdis7 b hb1 hh
            · have := v1.blk_lt hb1
              omega
          refine ld t8.kp ?_
          refine sectors_spec (by unfold InI; omega) ?_
          rw [nsecI_nat, ← hu]
          have ew : w64 ((u : Int) + (nsec l' : Int)) = ((u + nsec l' : Nat) : Int) := by rw [w64_id (by omega) (by omega)]; omega
          rw [ew]
          have etot : tot ((dss ++ [bytesAt h a' l']).map (·.length)) = u + nsec l' := by rw [map_len_snoc, tot_snoc, ← hu, ← hdl]
          refine hJ _ _ ⟨dss ++ [bytesAt h a' l'], vs ++ [.slice a' l' c'], m3, ?_, by rw [etot], by rw [etot]; exact hok, ?_, u1, hdv.snoc hb, hdis8, by rw [List.length_append]; show ((dss.length + 1 : Nat) : Int) ≤ i + 1; omega, by rw [ml3, ml], mc3 mc, gnew⟩
          · rw [etot]
            exact t8
          · rw [map_len_snoc, refsAt_snoc, Nat.zero_add, ← hu, ← hdl]
            exact v1'
        refine cnd_dec (fun hd1 => ?_) (fun hd1 => cnd_f rfl keepIt)
        replace hd1 : i < x1.len := hd1
        refine BoolsAt.ld hbo t6.kp g1 hd1 ?_
        intro z
        cases z
        · exact cnd_f rfl keepIt
        refine cnd_t rfl ?_
        refine ldI_row (o := 0) o6' rfl (ldI_row (o := 0 + 1) o6' rfl ?_)
        have hinr : InI (refOf u l').1 ∧ InI (refOf u l').2 := by
          unfold refOf InI
          split
          · exact ⟨by decide, by decide⟩
          · constructor <;> dsimp only <;> omega
        have fin : ∀ h7, BSt h h7 p q s w m3 10 (win 0 u 60) (fun b => blk refs.a b ∨ blk data.a b) → Keep (fun b => h.size ≤ b ∧ ¬ (blk refs.a b ∨ blk data.a b)) h6 h7 → J (refs, data, (tot (dss.map (·.length)) : Int)) h7 := fun h7 t7 k7 => by
          refine hJ _ _ ⟨dss, vs, m3, by rw [← hu]; exact t7, rfl, by rw [← hu]; exact g4, SlR.keep e1 k7 (fun b hb' hh => hh.2 (.inl hb')), SlR.keep e2 k7 (fun b hb' hh => hh.2 (.inr hb')), hdv, hdis, by omega, by rw [ml3, ml], mc3 mc, gold⟩
        by_cases h0 : l' = 0
        · have er : refOf u l' = (0, 0) := by unfold refOf; rw [if_pos h0]
          rw [er] at hinr ⊢
          refine t6.drop (r := (0, 0)) hinr (fun hp _ _ _ _ => absurd hp (by decide)) (fun _ _ h7 k7 => ?_) (fun hno => absurd (.inr ⟨rfl, rfl⟩) hno)
          refine cnd_f rfl ?_
          have e0 : u + nsec l' = u := by rw [h0]; rfl
          rw [e0] at t6
          exact fin h7 (t6.keep k7) (k7.mono (fun _ _ hh => hh.elim))
        · have er : refOf u l' = ((u : Int), (l' : Int)) := by unfold refOf; rw [if_neg h0]
          rw [er] at hinr ⊢
          have hall : AllOf (win 0 (u + nsec l') 60) (u : Int) (nsecI (l' : Int)) true := by
            rw [nsecI_nat]
            exact win_taken (by omega) (by omega) (by omega) hok
          refine t6.drop (r := ((u : Int), (l' : Int))) hinr (fun _ _ h7 t7 k7 => ?_) (fun hz => absurd hz (by show ¬ (l' : Int) = 0; omega)) (fun hno => absurd (.inl ⟨by show (0 : Int) < (l' : Int); omega, by show (0 : Int) ≤ (u : Int); omega, hall⟩) hno)
          have ef : Alloc.flip (win 0 (u + nsec l') 60) ((u : Int)).toNat (nsecI (l' : Int)).toNat = win 0 u 60 := by
            rw [nsecI_nat, show ((u : Int)).toNat = u by omega, show ((nsec l' : Int)).toNat = nsec l' by omega]
            exact win_back
          refine cnd_f rfl ?_
          refine fin h7 ?_ k7
          rw [← ef]
          exact t7
  · replace hi : ¬ i < x0.len := hi
    refine t2.crash mc ?_
    intro h3 t3 k3
    have slr3 := SlR.keep slr k3 (fun b hb' hh => hh.2 (.inl hb'))
    have sld3 := SlR.keep sld k3 (fun b hb' hh => hh.2 (.inr hb'))
    obtain ⟨mm, hmm⟩ : ∃ mm : M, mm = ⟨m.l, [], 0, 0⟩ := ⟨_, rfl⟩
    rw [← hmm] at t3
    have gm : Good mm 10 dss := fun j d hd v hv => by rw [← hgood j d hd v hv, readAt_lk, readAt_lk, mc, hmm]
    have mml : mm.l.length = 80 := by rw [hmm]; exact ml
    refine t3.open2 (n := 60) ⟨by decide, by rw [mml]; decide⟩ (ns := dss.map (·.length)) (by omega) slr3 (by rw [List.length_map]; exact rl) (by show refs.len ≤ 1000000; omega) ?_
    intro q' s' w' h4 o4 a4 k4
    rw [← hu] at a4
    have t4 := t3.keep k4
    have slr4 := SlR.keep slr3 k4 (fun _ _ h => h)
    have sld4 := SlR.keep sld3 k4 (fun _ _ h => h)
    refine withJ.inl (withJ.inl ?_)
    refine cnd_f rfl (cnd_f rfl ?_)
    refine free_spec o4 a4 ?_
    rw [freeOf_win u g4]
    have e60 : w64 (60 - (u : Int)) = 60 - u := w64_id (by omega) (by omega)
    dsimp only
    rw [← hu, e60]
    refine cnd_f (by simp) ?_
    refine t4.free ?_
    rw [freeOf_win u g4]
    refine cnd_f (by simp) ?_
    refine LoopT.intro (fun (j : Int) h' => 0 ≤ j ∧ j ≤ refs.len ∧ Keep (fun _ => False) h4 h') (fun j _ => ((refs.len : Int) - j).toNat) ⟨by omega, by omega, .refl _ _⟩ ?_
    rintro j h5 ⟨q1, q2, k5⟩
    refine cnd_dec (fun hj => ?_) (fun hj => ?_)
    rotate_left
    · exact awake_spec fun h6 k6 => hR h6 ((t4.out.trans' k5).trans' k6)
    replace hj : j < refs.len := hj
    have hjn : j.toNat < dss.length := by omega
    obtain ⟨d, hd⟩ : ∃ d, dss[j.toNat]? = some d := ⟨_, List.getElem?_eq_getElem hjn⟩
    obtain ⟨v, hv⟩ : ∃ v, vs[j.toNat]? = some v := ⟨_, List.getElem?_eq_getElem (by rw [hdv.1]; exact hjn)⟩
    obtain ⟨a, l, c, rfl, hbd⟩ := hdv.2 j.toNat v d hv hd
    have hdl := hbd.len
    have hm : (dss.map (·.length))[j.toNat]? = some d.length := by rw [List.getElem?_map, hd]; rfl
    have ht1 := tot_take hm
    have ht2 := tot_le (dss.map (·.length)) (j.toNat + 1)
    have hnd : nsec d.length = (d.length + 251) / 252 := rfl
    have dat : ∀ {h' : Heap} {K : Option Addr → Nat → Nat → Prop}, Keep (fun _ => False) h4 h' → K a l c → idx data.a data.len j fun x => ldL (x.add (j.toNat * 1)) h' K := fun kk hK =>
      Rv.at (SlR.rv (SlR.keep sld4 kk (fun _ _ h => h))) q1 (by omega) hv (fun x hx => ldL_at hx hK)
    have hg := refsAt_get (dss.map (·.length)) 0 j.toNat d.length hm
    rw [Nat.zero_add] at hg
    obtain ⟨r, hr⟩ : ∃ r, r = refOf (tot ((dss.map (·.length)).take j.toNat)) d.length := ⟨_, rfl⟩
    rw [← hr] at hg
    have ref : ∀ {h' : Heap} {K : Addr → Prop}, Keep (fun _ => False) h4 h' → (∀ x : Addr, cellH h' (x.add (j.toNat * 2)) = some (.int .i64 r.1) → cellH h' ((x.add (j.toNat * 2)).add 1) = some (.int .i64 r.2) → K x) → idx refs.a refs.len j K := fun kk hK => by
      refine refs_at (SlR.keep slr4 kk (fun _ _ h => h)) q1 (by rw [refsAt_length, List.length_map]; omega) (by rw [refsAt_length, List.length_map]; exact rl) ?_
      intro x r' hr' c0 c1
      rw [hg] at hr'
      injection hr' with hr'
      subst hr'
      exact hK x c0 c1
    have rsz : r.2 = (d.length : Int) := by rw [hr, refOf_eq]
    have bd : ∀ {h' : Heap}, Keep (fun _ => False) h4 h' → Rb h' a l d := fun kk => Rv.keep hbd (t4.keep kk).out (fun _ _ _ hh => hh)
    have hw : w64 (j + 1) = j + 1 := w64_id (by omega) (by omega)
    refine withJ.inl ?_
    refine LoopT.intro (fun (v : Sl × Int) h' => 0 ≤ v.2 ∧ (v.2 = 0 ∨ pc ≤ v.2) ∧ Bl h' v.1.a v.1.len v.1.cap (d.take v.2.toNat) ∧ Keep (fun _ => False) h4 h' ∧ (∀ b, blk v.1.a b → h4.size ≤ b)) (fun v _ => ((l : Int) - v.2).toNat)
      ⟨by show (0 : Int) ≤ 0; omega, .inl rfl, SlR.nil _ _, k5, fun b hb => by obtain ⟨x, hx, _⟩ := hb; cases hx⟩ ?_
    rintro ⟨all, at_⟩ h6 ⟨p1, p2, p3, k6, p5⟩
    replace p1 : 0 ≤ at_ := p1
    replace p2 : at_ = 0 ∨ pc ≤ at_ := p2
    replace p3 : Bl h6 all.a all.len all.cap (d.take at_.toNat) := p3
    replace p5 : ∀ b, blk all.a b → h4.size ≤ b := p5
    have t6 := t4.keep k6
    have z6 := k6.size
    have pl := p3.len
    rw [List.length_take] at pl
    refine dat k6 ?_
    refine cnd_dec (fun hlt => ?_) (fun hge => ?_)
    · replace hlt : at_ < l := hlt
      refine ref k6 ?_
      intro x c0 c1
      refine ldI_at c0 (ldI_at c1 ?_)
      refine dat k6 ?_
      have e1 : w64 ((l : Int) - at_) = l - at_ := w64_id (by omega) (by omega)
      obtain ⟨n, hn⟩ : ∃ n : Nat, n = (min pc ((l : Int) - at_)).toNat := ⟨_, rfl⟩
      have e2 : minI pc (w64 ((l : Int) - at_)) = (n : Int) := by rw [e1]; unfold minI; split <;> omega
      obtain ⟨o, ho⟩ : ∃ o : Nat, at_ = (o : Int) := ⟨at_.toNat, by omega⟩
      subst ho
      dsimp only
      rw [e2]
      rw [show ((o : Int)).toNat = o by omega] at p3 pl
      refine t6.readD (k6.row o4 (fun h => h)) (a4.keep k6 (fun h => h) (fun h => h)) (by rw [win_length]) g4 gm hd hu hr (off := o) (n := n) (by omega) ?_
      intro sl h7 b7 n7 k7
      refine cnd_f rfl ?_
      have p3' : Bl h7 all.a all.len all.cap (d.take o) := SlR.keep p3 k7 (fun _ _ h => h)
      have sll := b7.len
      rw [List.length_take, List.length_drop] at sll
      refine Rv.rd b7.rb ?_
      refine p3'.push (new := (d.drop o).take n) (by show all.len + sl.len ≤ _; omega) b7.len rfl ?_
      intro a8 c8 h8 b8 k8 n8
      have ew : w64 ((o : Int) + pc) = o + pc := by
        unfold InI at hpc
        rcases p2 with hz | hz
        · exact w64_id (by omega) (by omega)
        · exact w64_id (by omega) (by omega)
      show (0 ≤ w64 ((o : Int) + pc) ∧ (w64 ((o : Int) + pc) = 0 ∨ pc ≤ w64 ((o : Int) + pc)) ∧ Bl h8 a8 (all.len + sl.len) c8 (d.take (w64 ((o : Int) + pc)).toNat) ∧ Keep (fun _ => False) h4 h8 ∧ (∀ b, blk a8 b → h4.size ≤ b)) ∧ ((l : Int) - w64 ((o : Int) + pc)).toNat < ((l : Int) - (o : Int)).toNat
      rw [ew]
      have z7 := k7.size
      refine ⟨⟨by omega, .inr (by omega), ?_, (k6.trans' k7).trans k8 (fun y hy hh => by have := p5 y hh; omega), fun b hb => ?_⟩, by omega⟩
      · have e3 : d.take ((o : Int) + pc).toNat = d.take o ++ (d.drop o).take n := by
          rw [← List.take_add]
          by_cases hc : n = pc.toNat
          · congr 1; omega
          · rw [List.take_of_length_le (by omega), List.take_of_length_le (by omega)]
        rw [e3]
        exact b8
      · rcases n8 b hb with hh | hh
        · exact p5 b hh
        · omega
    · replace hge : ¬ at_ < l := hge
      have eall : d.take at_.toNat = d := List.take_of_length_le (by omega)
      rw [eall] at p3
      refine ref k6 ?_
      intro x c0 c1
      refine ldI_at c0 (ldI_at c1 ?_)
      refine ref k6 ?_
      intro x' c0' c1'
      refine ldI_at c1' ?_
      have e3 : CallT Try.prog blob_Blobs_Read_no [.pointer (some ⟨q, 0, none⟩), .agg #[.int .i64 r.1, .int .i64 r.2], .int .i64 ((0 : Nat) : Int), .int .i64 ((d.length : Nat) : Int)] h6 [.sc .sl, .sc (.int .i64)] = CallT Try.prog blob_Blobs_Read_no [.pointer (some ⟨q, 0, none⟩), .agg #[.int .i64 r.1, .int .i64 r.2], .int .i64 0, .int .i64 r.2] h6 [.sc .sl, .sc (.int .i64)] := by rw [← rsz]; rfl
      show CallT Try.prog blob_Blobs_Read_no [.pointer (some ⟨q, 0, none⟩), .agg #[.int .i64 r.1, .int .i64 r.2], .int .i64 0, .int .i64 r.2] h6 [.sc .sl, .sc (.int .i64)] _
      rw [← e3]
      refine t6.readD t6.rows.1 t6.rows.2.1 (by rw [win_length]) g4 gm hd hu hr (off := 0) (n := d.length) (by omega) ?_
      intro sl h7 b7 n7 k7
      rw [List.drop_zero, List.take_of_length_le (Nat.le_refl _)] at b7
      refine withJ.inl ?_
      refine cnd_f rfl ?_
      have k47 := k6.trans' k7
      have p3' : Bl h7 all.a all.len all.cap d := SlR.keep p3 k7 (fun _ _ h => h)
      refine p3'.rb.str ?_
      refine dat k47 ?_
      refine (bd k47).str ?_
      refine cnd_f (by rw [seq_self]; rfl) ?_
      refine b7.rb.str ?_
      refine dat k47 ?_
      refine (bd k47).str ?_
      refine cnd_f (by rw [seq_self]; rfl) ?_
      show (0 ≤ w64 (j + 1) ∧ w64 (j + 1) ≤ refs.len ∧ Keep (fun _ => False) h4 h7) ∧ ((refs.len : Int) - w64 (j + 1)).toNat < ((refs.len : Int) - j).toNat
      rw [hw]
      exact ⟨⟨by omega, by omega, k47⟩, by omega⟩

end Blob
end Go.Proofs.Ytmkobpkdodgboaa
