/- PLawA PLawB joined, for seat work that lacks some functions; written by wip/tool/cut.py. -/
import Derived.Test.YtkgocfaajfaidaaKTreeC
import Derived.Test.YtkgocfaajfaidaaGKv
namespace Go.Proofs.Ytkgocfaajfaidaa
open Go D
set_option linter.unusedVariables false
set_option linter.unusedSimpArgs false
theorem SlR.rvn {h : Heap} {n : Nat} {a : Option Addr} {l c : Nat} {vs : List Value} (hs : SlR h n a l c vs) : Rv h a (l * n) vs := by
  rcases hs with ⟨rfl, rfl, rfl, rfl⟩ | ⟨b, o, cs, rfl, h2, h3, h4, h5, h6⟩
  · exact ⟨by simp, fun i v hv => by simp at hv⟩
  · refine ⟨h5.symm, fun i v hv => ⟨_, rfl, rfl, ?_⟩⟩
    rw [add_mk, h2.cells]
    rw [← h6, List.getElem?_take] at hv
    split at hv
    · rw [List.getElem?_drop] at hv; exact hv
    · cases hv
def pcells : List KV → List Value
  | [] => []
  | p :: l => .string p.1 :: .string p.2 :: pcells l
theorem pcells_len : ∀ l : List KV, (pcells l).length = l.length * 2
  | [] => rfl
  | p :: l => by simp only [pcells, List.length_cons, pcells_len l]; omega
theorem pcells_one : ∀ l : List KV, ∀ v ∈ pcells l, v.oneCell' = true
  | [], v, hv => by cases hv
  | p :: l, v, hv => by
    rcases List.mem_cons.1 hv with rfl | hv
    · rfl
    · rcases List.mem_cons.1 hv with rfl | hv
      · rfl
      · exact pcells_one l v hv
theorem pcells_app : ∀ l m : List KV, pcells (l ++ m) = pcells l ++ pcells m
  | [], _ => rfl
  | p :: l, m => by simp only [List.cons_append, pcells, pcells_app l m]
theorem pcells_get : ∀ (l : List KV) (i : Nat) (hi : i < l.length), (pcells l)[i * 2]? = some (.string l[i].1) ∧ (pcells l)[i * 2 + 1]? = some (.string l[i].2)
  | p :: l, 0, _ => ⟨rfl, rfl⟩
  | p :: l, i + 1, hi => by
    have ih := pcells_get l i (by simpa using hi)
    have e : (i + 1) * 2 = i * 2 + 1 + 1 := by omega
    rw [e]
    simp only [pcells, List.getElem?_cons_succ, List.getElem_cons_succ]
    exact ih
theorem pcells_take : ∀ (l : List KV) (i : Nat), pcells (l.take i) = (pcells l).take (i * 2)
  | [], i => by simp [pcells]
  | p :: l, 0 => rfl
  | p :: l, i + 1 => by
    have e : (i + 1) * 2 = i * 2 + 1 + 1 := by omega
    rw [e]
    simp only [List.take_succ_cons, pcells, pcells_take l i]
theorem pcells_drop : ∀ (l : List KV) (i : Nat), pcells (l.drop i) = (pcells l).drop (i * 2)
  | [], i => by simp [pcells]
  | p :: l, 0 => rfl
  | p :: l, i + 1 => by
    have e : (i + 1) * 2 = i * 2 + 1 + 1 := by omega
    rw [e]
    simp only [List.drop_succ_cons, pcells, pcells_drop l i]
/-- a slice of pairs -/
def Pr (h : Heap) (s : Sl) (l : List KV) : Prop := Rv h s.a (s.len * 2) (pcells l)
theorem Pr.len {h : Heap} {s : Sl} {l : List KV} (hp : Pr h s l) : s.len = l.length := by have := hp.1; rw [pcells_len] at this; omega
theorem Pr.nw {h h' : Heap} {s : Sl} {l : List KV} (hp : Pr h s l) (hk : Nw h h') : Pr h' s l := Rv.keep0 hp hk
theorem Pr.keep {h h' : Heap} {S : Nat → Prop} {s : Sl} {l : List KV} (hp : Pr h s l) (hk : Keep S h h') (hS : ∀ b, blk s.a b → ¬ S b) : Pr h' s l := Rv.keep hp hk (fun _ b hb => hS b hb)
theorem Pr.at {h : Heap} {s : Sl} {l : List KV} (hp : Pr h s l) {i : Nat} (hi : i < l.length) {K : Addr → Prop}
    (hk : ∀ x : Addr, cellH h (x.add ((i : Int).toNat * 2)) = some (.string l[i].1) → cellH h ((x.add ((i : Int).toNat * 2)).add 1) = some (.string l[i].2) → K x) : idx s.a s.len (i : Int) K := by
  obtain ⟨g1, g2⟩ := pcells_get l i hi
  have hl := hp.len
  obtain ⟨x, e1, e2, e3⟩ := hp.2 _ _ g1
  obtain ⟨y, f1, f2, f3⟩ := hp.2 _ _ g2
  rw [e1] at f1
  injection f1 with f1
  subst f1
  refine ⟨x, e1, by omega, by omega, hk x ?_ ?_⟩
  · rw [Int.toNat_natCast]; exact e3
  · rw [Int.toNat_natCast, add_add e2]; exact f3
theorem Own.pr {h0 h : Heap} {s : Sl} {l : List KV} (ho : Own h0 h 2 s (pcells l)) : Pr h s l := SlR.rvn ho.sl

/-- what With makes -/
def withKV (k v : Key) (d : Bool) (l : List KV) : List KV := if d then delKV k l else insKV k v l
def skipK (k : Key) (l : List KV) : Nat := if (l.map (·.1))[below k (l.map (·.1))]? = some k then below k (l.map (·.1)) + 1 else below k (l.map (·.1))
theorem insKV_eq (k v : Key) : ∀ l : List KV, insKV k v l = l.take (below k (l.map (·.1))) ++ (k, v) :: l.drop (skipK k l)
  | [] => rfl
  | (a, x) :: r => by
    have ih := insKV_eq k v r
    unfold skipK at ih ⊢
    simp only [insKV, List.map_cons, below]
    by_cases h : klt a k
    · rw [if_pos h, if_pos h, ih]
      simp only [List.getElem?_cons_succ, List.take_succ_cons, List.cons_append]
      by_cases h2 : (r.map (·.1))[below k (r.map (·.1))]? = some k
      · rw [if_pos h2, if_pos h2]; rfl
      · rw [if_neg h2, if_neg h2]; rfl
    · rw [if_neg h, if_neg h]
      simp only [List.getElem?_cons_zero, Option.some.injEq]
      by_cases h2 : a = k
      · rw [if_pos h2, if_pos h2]; rfl
      · rw [if_neg h2, if_neg h2]; rfl
theorem delKV_eq (k : Key) {l : List KV} (ha : Asc (l.map (·.1))) : delKV k l = l.take (below k (l.map (·.1))) ++ l.drop (skipK k l) := by
  have hd : delF k 0 l = if (l.map (·.1))[below k (l.map (·.1))]? = some k then some (delL l (below k (l.map (·.1)))) else none := rfl
  have dl := del_leaf (k := k) ha
  unfold skipK
  by_cases c : (l.map (·.1))[below k (l.map (·.1))]? = some k
  · rw [if_pos c] at hd ⊢
    exact (dl.2 _ hd).1.symm
  · rw [if_neg c] at hd ⊢
    rw [List.take_append_drop]
    exact delKV_self (dl.1 hd)

theorem cnd_share {p : Prop} [Decidable p] {A T : Prop} (P : Prop) (hT : P → T) (h1 : p → (P → T) → A) (h2 : ¬ p → P) : cnd (decide p) A T := cnd_dec (fun c => h1 c hT) (fun c => hT (h2 c))
theorem rwith_spec {h : Heap} {s : Sl} {l : List KV} {k v : Key} {d : Bool} (hp : Pr h s l) (hl : l.length ≤ 4300000000000) (hcap : s.len ≤ s.cap) (ha : Asc (l.map (·.1))) {R : Sl → Heap → Prop}
    (hk : ∀ r h', Nw h h' → Own h h' 2 r (pcells (withKV k v d l)) → R r h') : CallT Try.prog ref9_With_no [.slice s.a s.len s.cap, .agg #[.string k, .string v, .bool d]] h [.sc .sl] R := by
  have hcall := ref9_With_call s (k, v, d) (R := R) (h := h)
  apply hcall
  unfold ref9_With
  have len := hp.len
  refine newB_row ?_
  intro h2 s2 w2 k2
  have fl := below_le k (l.map (·.1))
  rw [List.length_map] at fl
  refine LoopT.intro (fun (t : Sl × Int) h' => ∃ i : Nat, t.2 = (i : Int) ∧ i ≤ below k (l.map (·.1)) ∧ Nw h2 h' ∧ Own h2 h' 2 t.1 (pcells (l.take i))) (fun t _ => ((l.length : Int) - t.2).toNat) ⟨0, rfl, Nat.zero_le _, Keep.refl _ _, Own.nil _ _ _⟩ ?_
  rintro ⟨out, ix⟩ h5 ⟨i, rfl, hi, nw, ow⟩
  simp only at ow
  have w5 : Row h5 h.size [.string k, .string v, .bool d] := nw.row w2 (fun h => h)
  have hp5 : Pr h5 s l := (hp.nw k2).nw nw
  have lo := ow.len
  rw [pcells_len, List.length_take] at lo
  have w1 : w64 ((i : Int) + 1) = ((i + 1 : Nat) : Int) := by rw [w64_id (by omega) (by omega)]; push_cast; rfl
  refine cnd_share (i = below k (l.map (·.1))) ?_ ?_ ?_
  · intro e
    refine withJ.intro (fun (o : Sl) h23 => Nw h2 h23 ∧ Own h2 h23 2 o (pcells (l.take (below k (l.map (·.1))) ++ (if d then [] else [(k, v)])))) ?_ ?_
    · rintro o h23 ⟨n23, o23⟩
      have w23 : Row h23 h.size [.string k, .string v, .bool d] := n23.row w2 (fun h => h)
      have hp23 : Pr h23 s l := (hp.nw k2).nw n23
      refine withJ.intro (fun (t : Int) h26 => h26 = h23 ∧ t = ((skipK k l : Nat) : Int)) ?_ ?_
      · rintro t h26 ⟨rfl, rfl⟩
        have hsk : skipK k l ≤ l.length := by
          unfold skipK
          by_cases c : (l.map (·.1))[below k (l.map (·.1))]? = some k
          · rw [if_pos c]
            have := (List.getElem?_eq_some_iff.1 c).1
            rw [List.length_map] at this; omega
          · rw [if_neg c]; exact fl
        have e1 : ((s.len : Int) - ((skipK k l : Nat) : Int)).toNat = s.len - skipK k l := by omega
        have sub : ∀ {K : Option Addr → Nat → Nat → Prop}, (∀ o' c', Rv h26 o' ((s.len - skipK k l) * 2) (pcells (l.drop (skipK k l))) → K o' (s.len - skipK k l) c') → lsl 2 s.a s.cap ((skipK k l : Nat) : Int) (s.len : Int) (s.cap : Int) K := by
          intro K hK
          have l2 := pcells_len (l.drop (skipK k l))
          rw [List.length_drop] at l2
          refine ⟨by omega, by omega, by omega, by omega, ?_⟩
          rw [e1]
          refine hK _ _ ⟨by omega, fun j w hj => ?_⟩
          rw [pcells_drop, List.getElem?_drop] at hj
          have hj2 := (List.getElem?_eq_some_iff.1 hj).1
          rw [pcells_len] at hj2
          obtain ⟨x, q1, q2, q3⟩ := hp23.2 _ w hj
          rw [if_neg (by omega), q1, Int.toNat_natCast]
          refine ⟨_, rfl, ?_, ?_⟩
          · unfold Addr.add; split
            · exact q2
            · rfl
          · rw [add_add q2]; exact q3
        refine sub ?_
        intro o' c' rv'
        have rd : ∀ {K : List Value → Prop}, K (pcells (l.drop (skipK k l))) → rdCells o' ((s.len - skipK k l) * 2) h26 K := fun hK => by
          have := Rv.rd rv' hK
          rwa [Nat.mul_one] at this
        refine rd ?_
        have l2 := pcells_len (l.drop (skipK k l))
        rw [List.length_drop] at l2
        have lo2 := o23.len
        have sk : below k (l.map (·.1)) ≤ skipK k l := by unfold skipK; split <;> omega
        have ol : o.len + (s.len - skipK k l) ≤ 4300000000001 := by
          rw [pcells_len, List.length_append, List.length_take] at lo2
          have : (if d then [] else [(k, v)] : List KV).length ≤ 1 := by cases d <;> simp
          omega
        refine o23.app (m := s.len - skipK k l) n23 rfl (by omega) (pcells_one _) (by show (2 * (o.len + _) + 1024) * 32 ≤ _; omega) ?_
        intro a' c'' h30 q1 q2 q3 q4
        refine hk _ h30 (k2.trans' q2) ?_
        have e2 : pcells (l.take (below k (l.map (·.1))) ++ (if d then [] else [(k, v)])) ++ pcells (l.drop (skipK k l)) = pcells (withKV k v d l) := by
          rw [← pcells_app]
          congr 1
          unfold withKV
          cases d with
          | true => rw [if_pos rfl, if_pos rfl, delKV_eq k ha, List.append_nil]
          | false => rw [if_neg (by decide), if_neg (by decide), insKV_eq]; simp
        rw [e2] at q1
        exact q1.up (by have := k2.size; omega)
      · intro J hJ
        have w1' : w64 (((below k (l.map (·.1)) : Nat) : Int) + 1) = ((below k (l.map (·.1)) + 1 : Nat) : Int) := by rw [w64_id (by omega) (by omega)]; push_cast; rfl
        subst e
        refine withJ.intro (fun (b : Bool) h34 => h34 = h23 ∧ b = decide ((l.map (·.1))[below k (l.map (·.1))]? = some k)) ?_ ?_
        · rintro b h34 ⟨rfl, rfl⟩
          refine cnd_dec (fun c => ?_) (fun c => ?_)
          · refine hJ _ _ ⟨rfl, ?_⟩
            show w64 (((below k (l.map (·.1)) : Nat) : Int) + 1) = _
            rw [w1']; unfold skipK; rw [if_pos c]
          · refine hJ _ _ ⟨rfl, ?_⟩
            unfold skipK; rw [if_neg c]
        · intro J' hJ'
          refine cnd_dec (fun c => ?_) (fun c => ?_)
          · have hil : below k (l.map (·.1)) < l.length := by have : ((below k (l.map (·.1)) : Nat) : Int) < (s.len : Int) := c; omega
            refine hp23.at hil ?_
            intro x c1 c2
            refine ldS_at c1 ?_
            refine ldS_row (o := 0) w23 rfl ?_
            refine hJ' _ _ ⟨rfl, ?_⟩
            rw [seq_dec, List.getElem?_map, List.getElem?_eq_getElem hil]
            simp
          · refine hJ' _ _ ⟨rfl, ?_⟩
            have : ¬ ((below k (l.map (·.1)) : Nat) : Int) < (s.len : Int) := c
            rw [List.getElem?_eq_none (by rw [List.length_map]; omega)]
            simp
    · intro J hJ
      subst e
      refine ldB_row (o := 0 + 2) w5 rfl ?_
      cases d with
      | true =>
        refine cnd_f rfl ?_
        refine hJ _ _ ⟨nw, ?_⟩
        rw [if_pos rfl, List.append_nil]; exact ow
      | false =>
        refine cnd_t rfl ?_
        refine ldS_row (o := 0) w5 rfl ?_
        refine ldS_row (o := 0 + 1) w5 rfl ?_
        refine ow.push (N := 1 * 2) nw rfl rfl rfl (by intro u hu; rcases List.mem_cons.1 hu with rfl | hu; rfl; rcases List.mem_cons.1 hu with rfl | hu; rfl; cases hu) (by show (2 * (out.len + 1) + 1024) * 32 ≤ _; omega) ?_
        intro a' c' h' q1 q2 q3 q4
        refine hJ _ _ ⟨q2, ?_⟩
        rw [if_neg (by decide), pcells_app]; exact q1
  · intro c hT
    have hil : i < l.length := by have : (i : Int) < (s.len : Int) := c; omega
    refine hp5.at hil ?_
    intro x c1 c2
    refine ldS_at c1 ?_
    refine ldS_row (o := 0) w5 rfl ?_
    rw [slt_dec]
    refine cnd_dec (fun e => ?_) (fun e => ?_)
    · have hlt : i < below k (l.map (·.1)) := by
        rcases Nat.lt_or_ge i (below k (l.map (·.1))) with q | q
        · exact q
        · exact absurd e (below_ge ha q (by rw [List.getElem?_map, List.getElem?_eq_getElem hil]; rfl))
      refine hp5.at hil ?_
      intro y d1 d2
      refine ldS_at d1 ?_
      refine ldS_at d2 ?_
      refine ow.push (N := 1 * 2) nw rfl rfl rfl (by intro u hu; rcases List.mem_cons.1 hu with rfl | hu; rfl; rcases List.mem_cons.1 hu with rfl | hu; rfl; cases hu) (by show (2 * (out.len + 1) + 1024) * 32 ≤ _; omega) ?_
      intro a' c' h' q1 q2 q3 q4
      refine ⟨⟨i + 1, w1, hlt, q2, ?_⟩, ?_⟩
      · rw [List.take_succ_eq_append_getElem hil, pcells_app]; exact q1
      · show ((l.length : Int) - w64 ((i : Int) + 1)).toNat < ((l.length : Int) - (i : Int)).toNat
        rw [w1]; omega
    · refine hT ?_
      rcases Nat.lt_or_ge i (below k (l.map (·.1))) with q | q
      · exact absurd (below_lt q (by rw [List.getElem?_map, List.getElem?_eq_getElem hil]; rfl)) e
      · omega
  · intro c
    have : ¬ (i : Int) < (s.len : Int) := c
    omega
theorem prs_asc {n : Nat} {t : T n} (h : Rt n t) : Asc ((prs n t).map (·.1)) := by
  have sub : ∀ {n : Nat} {t : T n} {lo : Nat}, Okn lo n t → ((prs n t).map fun p => ((false, p.1) : Itm)).Sublist (flat n t) := by
    intro n
    induction n with
    | zero => intro t lo _; exact List.Sublist.refl _
    | succ n ih =>
      intro t lo ok
      have key : ∀ {ss : List (T n)} {ks : List Key}, ss.length ≤ ks.length → (∀ s ∈ ss, Okn 4 n s) → (((ss.map (prs n)).flatten).map fun p => ((false, p.1) : Itm)).Sublist (rgt ks (ss.map (flat n))) := by
        intro ss
        induction ss with
        | nil => intro ks _ _; simp
        | cons s ss ihs =>
          intro ks hl hs
          cases ks with
          | nil => simp at hl
          | cons k ks =>
            simp only [List.map_cons, List.flatten_cons, List.map_append, rgt]
            exact List.Sublist.cons _ (List.Sublist.append (ih (hs s (by simp))) (ihs (by simpa using hl) (fun s' h' => hs s' (by simp [h']))))
      obtain ⟨h1, h2, h3, h4⟩ := ok
      show (((t.2.map (prs n)).flatten).map _).Sublist (inter (t.2.map (flat n)) t.1)
      cases e : t.2 with
      | nil => simp
      | cons s ss =>
        rw [e] at h1 h4
        simp only [List.map_cons, List.flatten_cons, List.map_append, inter]
        exact List.Sublist.append (ih (h4 s (by simp))) (key (by simp at h1; omega) (fun s' h' => h4 s' (by simp [h'])))
  have pw : Pw ((prs n t).map fun p => ((false, p.1) : Itm)) := List.Pairwise.sublist (sub h.ok) h.pw
  generalize prs n t = l at pw
  induction l with
  | nil => trivial
  | cons p l ih =>
    obtain ⟨h1, h2⟩ := List.pairwise_cons.1 (show Pw ((false, p.1) :: l.map fun p => ((false, p.1) : Itm)) from pw)
    refine ⟨fun b hb => ?_, ih h2⟩
    obtain ⟨q, hq, rfl⟩ := List.mem_map.1 hb
    exact h1 (false, q.1) (List.mem_map.2 ⟨q, hq, rfl⟩)
theorem TreeAt.asc {h : Heap} {F : Nat → Prop} {p : Nat} {l : List KV} (ht : TreeAt h F p l) : Asc (l.map (·.1)) := by
  obtain ⟨n, t, r, o, e⟩ := ht
  rw [← e]; exact prs_asc o
abbrev nok : Key := ⟨#[]⟩
theorem not_klt_nok (k : Key) : ¬ klt k nok := fun h => by
  have e : slt k nok = false := by
    unfold slt
    have : nok.toList = [] := by rw [ByteArray.toList_eq]
    rw [this]; exact bless_nil _
  unfold klt at h
  rw [e] at h; cases h
theorem from_nok (l : List KV) : fromKV nok l = l := fromKV_all (fun p _ => not_klt_nok p.1)
theorem pre_get {α : Type} {pre l : List α} {x : α} (h : pre ++ [x] <+: l) : ∃ hi : pre.length < l.length, l[pre.length] = x := by
  obtain ⟨r, rfl⟩ := h
  refine ⟨by simp, ?_⟩
  simp
theorem row_ndf {h : Heap} {b : Nat} {cs : List Value} (hr : Row h b cs) : h[b]? ≠ some (.deferred (some [])) := by
  obtain ⟨t, lo, hi, e, _⟩ := hr
  rw [e]; intro c; injection c with c; cases c
theorem shut_nw {lo : Nat} {h0 h h' : Heap} (hn : Nw h0 h) (hlo : h0.size ≤ lo) (hz : h'.size = h.size) (hs : ∀ b : Nat, h'[b]? = h[b]? ∨ (lo ≤ b ∧ h[b]? = some (.deferred (some [])) ∧ h'[b]? = some (.deferred none))) : Nw h0 h' := by
  refine ⟨by have := hn.size; omega, fun b hb hn' => ?_⟩
  rcases hs b with e | ⟨e1, _⟩
  · rw [e]; exact hn.same b hb hn'
  · omega
theorem shut_row {lo : Nat} {h h' : Heap} (hz : h'.size = h.size) (hs : ∀ b : Nat, h'[b]? = h[b]? ∨ (lo ≤ b ∧ h[b]? = some (.deferred (some [])) ∧ h'[b]? = some (.deferred none))) {b : Nat} {cs : List Value} (hr : Row h b cs) : Row h' b cs := by
  rcases hs b with e | ⟨_, e2, _⟩
  · obtain ⟨t, lo, hi, q1, q2⟩ := hr
    exact ⟨t, lo, hi, by rw [e]; exact q1, q2⟩
  · exact absurd e2 (row_ndf hr)

end Go.Proofs.Ytkgocfaajfaidaa
