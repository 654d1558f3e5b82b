/- What the statements ask a tree: same, from, awake. -/
import Derived.Test.YtopnljjfpfnhfaaPLawA
namespace Go.Proofs.Ytopnljjfpfnhfaa
open Go D
set_option linter.unusedVariables false
set_option linter.unusedSimpArgs false

theorem prs_asc {n : Nat} {t : T n} (h : Rt n t) : Asc ((prs n t).map (·.1)) := by
  have sub : ∀ {n : Nat} {t : T n} {lo : Nat}, Okn lo n t → ((prs n t).map fun p => ((false, p.1) : Itm)).Sublist (flat n t) := by
    intro n
    induction n with
    | zero => intro t lo _; exact List.Sublist.refl _
    | succ n ih =>
      intro t lo ok
      have key : ∀ {ss : List (T n)} {ks : List Key}, ss.length ≤ ks.length → (∀ s ∈ ss, Okn 4 n s) → (((ss.map (prs n)).flatten).map fun p => ((false, p.1) : Itm)).Sublist (rgt ks (ss.map (flat n))) := by
        intro ss
        induction ss with
        | nil => intro ks _ _; simp
        | cons s ss ihs =>
          intro ks hl hs
          cases ks with
          | nil => simp at hl
          | cons k ks =>
            simp only [List.map_cons, List.flatten_cons, List.map_append, rgt]
            exact List.Sublist.cons _ (List.Sublist.append (ih (hs s (by simp))) (ihs (by simpa using hl) (fun s' h' => hs s' (by simp [h']))))
      obtain ⟨h1, h2, h3, h4⟩ := ok
      show (((t.2.map (prs n)).flatten).map _).Sublist (inter (t.2.map (flat n)) t.1)
      cases e : t.2 with
      | nil => simp
      | cons s ss =>
        rw [e] at h1 h4
        simp only [List.map_cons, List.flatten_cons, List.map_append, inter]
        exact List.Sublist.append (ih (h4 s (by simp))) (key (by simp at h1; omega) (fun s' h' => h4 s' (by simp [h'])))
  have pw : Pw ((prs n t).map fun p => ((false, p.1) : Itm)) := List.Pairwise.sublist (sub h.ok) h.pw
  generalize prs n t = l at pw
  induction l with
  | nil => trivial
  | cons p l ih =>
    obtain ⟨h1, h2⟩ := List.pairwise_cons.1 (show Pw ((false, p.1) :: l.map fun p => ((false, p.1) : Itm)) from pw)
    refine ⟨fun b hb => ?_, ih h2⟩
    obtain ⟨q, hq, rfl⟩ := List.mem_map.1 hb
    exact h1 (false, q.1) (List.mem_map.2 ⟨q, hq, rfl⟩)
theorem TreeAt.asc {h : Heap} {F : Nat → Prop} {p : Nat} {l : List KV} (ht : TreeAt h F p l) : Asc (l.map (·.1)) := by
  obtain ⟨n, t, r, o, e⟩ := ht
  rw [← e]; exact prs_asc o
abbrev nok : Key := ⟨#[]⟩
theorem not_klt_nok (k : Key) : ¬ klt k nok := fun h => by
  have e : slt k nok = false := by
    unfold slt
    have : nok.toList = [] := by rw [ByteArray.toList_eq]
    rw [this]; exact bless_nil _
  unfold klt at h
  rw [e] at h; cases h
theorem from_nok (l : List KV) : fromKV nok l = l := fromKV_all (fun p _ => not_klt_nok p.1)
theorem pre_get {α : Type} {pre l : List α} {x : α} (h : pre ++ [x] <+: l) : ∃ hi : pre.length < l.length, l[pre.length] = x := by
  obtain ⟨r, rfl⟩ := h
  refine ⟨by simp, ?_⟩
  simp
theorem row_ndf {h : Heap} {b : Nat} {cs : List Value} (hr : Row h b cs) : h[b]? ≠ some (.deferred (some [])) := by
  obtain ⟨t, lo, hi, e, _⟩ := hr
  rw [e]; intro c; injection c with c; cases c
theorem shut_nw {lo : Nat} {h0 h h' : Heap} (hn : Nw h0 h) (hlo : h0.size ≤ lo) (hz : h'.size = h.size) (hs : ∀ b : Nat, h'[b]? = h[b]? ∨ (lo ≤ b ∧ h[b]? = some (.deferred (some [])) ∧ h'[b]? = some (.deferred none))) : Nw h0 h' := by
  refine ⟨by have := hn.size; omega, fun b hb hn' => ?_⟩
  rcases hs b with e | ⟨e1, _⟩
  · rw [e]; exact hn.same b hb hn'
  · omega
theorem shut_row {lo : Nat} {h h' : Heap} (hz : h'.size = h.size) (hs : ∀ b : Nat, h'[b]? = h[b]? ∨ (lo ≤ b ∧ h[b]? = some (.deferred (some [])) ∧ h'[b]? = some (.deferred none))) {b : Nat} {cs : List Value} (hr : Row h b cs) : Row h' b cs := by
  rcases hs b with e | ⟨_, e2, _⟩
  · obtain ⟨t, lo, hi, q1, q2⟩ := hr
    exact ⟨t, lo, hi, by rw [e]; exact q1, q2⟩
  · exact absurd e2 (row_ndf hr)

theorem same_spec {h : Heap} {F : Nat → Prop} {p : Nat} {l : List KV} {s : Sl} (ht : TreeAt h F p l) (hF : ∀ b, F b → b < h.size) (hp : Pr h s l) (hl : l.length ≤ 1000000000) {R : Bool → Heap → Prop}
    (hk : ∀ h', Nw h h' → R true h') : CallT Try.prog law8_same_no [.pointer (some ⟨p, 0, none⟩), .slice s.a s.len s.cap] h [.sc .bool] R := by
  have hcall := law8_same_call (some ⟨p, 0, none⟩) s (R := R) (h := h)
  apply hcall
  clear hcall
  unfold law8_same
  have len := hp.len
  refine newB_row ?_
  intro h2 s2 r2 k2
  refine newB_row ?_
  intro h4 s4 r4 k4
  refine newB_row ?_
  intro h6 s6 r6 k6
  refine stC_row (o := 0) r6 (by simp) rfl ?_
  intro h7 s7 r7 k7
  have n6 : Nw h h6 := (k2.trans' k4).trans' k6
  have n7 : Nw h h7 := Nw.st n6 k7 (by omega)
  have a1 : Row h7 h.size [.slice s.a s.len s.cap] := k7.row (k6.row (k4.row r2 (fun h => h)) (fun h => h)) (fun e => by have e' : h.size = h4.size := e; omega)
  have a3 : Row h7 h2.size [.bool false] := k7.row (k6.row r4 (fun h => h)) (fun e => by have e' : h2.size = h4.size := e; omega)
  have z7 := n7.size
  refine treeFrom (ht.nw n7) (fun b hb => by have := hF b hb; omega) ?_
  intro rv h9 n9 s9 sq
  rw [from_nok] at sq
  have n79 : Nw h h9 := n7.trans' n9
  have hp9 := hp.nw n79
  have ht9 := ht.nw n79
  have b1 := n9.row a1 (fun h => h)
  have b3 := n9.row a3 (fun h => h)
  have b5 := n9.row r7 (fun h => h)
  have bs : ∀ b, blk s.a b → 0 < s.len → b < h.size := fun b hb h0 => Rv.lt hp (by omega) hb
  refine rngX_intro sq (fun b hb => ?_) (fun ex pre O' hh => ex = .nrm ∧ (∀ b, O' b ↔ b = h2.size ∨ b = h4.size) ∧ Row hh h4.size [.int .i64 ((pre.length : Nat) : Int)] ∧ Row hh h2.size [.bool false] ∧ Keep (fun b => (b = h2.size ∨ b = h4.size) ∨ h9.size ≤ b) h9 hh) (fun b => b = h2.size ∨ b = h4.size) ⟨rfl, fun b => Iff.rfl, b5, b3, Keep.refl _ _⟩ (fun b hb => ⟨fun hd => ?_, ?_⟩) ?_ ?_ ?_ ?_ ?_ ?_ ?_
  · rcases hb with hb | hb | hb
    · have := hF b hb; omega
    · omega
    · omega
  · rcases hd with hd | hd | hd
    · have := hF b hd; omega
    · omega
    · omega
  · rcases hb with rfl | rfl <;> omega
  · rintro ex pre O' ha hb ⟨rfl, q1, q2, q3, q4⟩ hk'
    exact ⟨rfl, q1, hk'.row q2 (fun e => e.1 ((q1 _).2 (.inr rfl))), hk'.row q3 (fun e => e.1 ((q1 _).2 (.inl rfl))), q4.trans hk' (fun b hb e => .inr e.2)⟩
  · rintro ex pre O' ha ⟨rfl, q1, q2, q3, q4⟩ b hb
    rcases (q1 b).1 hb with rfl | rfl
    · exact row_ndf q3
    · exact row_ndf q2
  · rintro rb lb pre x O' ha M Qb ⟨_, q1, q2, q3, q4⟩ hpre hlt hlb hlb2 hlb3 hM hQ
    refine hM ha _ (Keep.refl _ _) ?_
    intro hc zc kc hrb
    obtain ⟨hi, ex⟩ := pre_get hpre
    have za := q4.size
    have ne2 : h2.size ≠ lb := by omega
    have ne4 : h4.size ≠ lb := by omega
    have c2 := kc.row q2 (fun e => ne4 e)
    have c3 := kc.row q3 (fun e => ne2 e)
    have kall : Keep (fun b => (b = h2.size ∨ b = h4.size) ∨ h9.size ≤ b) h9 hc := q4.trans kc (fun b hb e => .inr (by have e' : b = lb := e; omega))
    have c1 : Row hc h.size [.slice s.a s.len s.cap] := kall.row b1 (fun e => by rcases e with (e | e) | e <;> omega)
    have hpc : Pr hc s l := hp9.keep kall (fun b hb e => by have := bs b hb (by omega); rcases e with (e | e) | e <;> omega)
    refine withJ.inl (withJ.inl ?_)
    refine ldI_row (o := 0) c2 rfl ?_
    refine ldL_row (o := 0) c1 rfl ?_
    refine cnd_f (decide_eq_false (by omega)) ?_
    refine ldL_row (o := 0) c1 rfl ?_
    refine ldI_row (o := 0) c2 rfl ?_
    refine hpc.at hi ?_
    intro y d1 d2
    refine ldS_at d1 ?_
    rw [ex, seq_self]
    refine cnd_f rfl ?_
    refine ldL_row (o := 0) c1 rfl ?_
    refine ldI_row (o := 0) c2 rfl ?_
    refine hpc.at hi ?_
    intro y d1 d2
    refine ldS_at d2 ?_
    rw [ex, seq_self]
    refine cnd_f rfl ?_
    refine ldI_row (o := 0) c2 rfl ?_
    refine stC_row (o := 0) c2 (by simp) rfl ?_
    intro hd zd wd kd
    have w1 : w64 (((pre.length : Nat) : Int) + 1) = (((pre ++ [x]).length : Nat) : Int) := by rw [w64_id (by omega) (by omega)]; simp
    refine hQ .nrm hd ⟨O', ⟨rfl, q1, ?_, kd.row c3 (fun e => by have e' : h2.size = h4.size := e; omega), kall.trans kd (fun b hb e => .inl (.inr e))⟩, ?_, ?_, ?_⟩
    · rw [← w1]; exact wd
    · exact (kc.mono (T := fun b => O' b ∨ b = lb) (fun b _ e => .inr e)).trans kd (fun b _ e => .inl ((q1 b).2 (.inr e)))
    · rw [kd.same lb (by omega) (fun e => ne4 e.symm)]; exact hrb
    · intro b hb
      exact ⟨.inl hb, by have := hlt b hb; omega⟩
  · rintro O' hh ⟨_, q1, q2, q3, q4⟩
    have zh := q4.size
    have c1 : Row hh h.size [.slice s.a s.len s.cap] := q4.row b1 (fun e => by rcases e with (e | e) | e <;> omega)
    have hth : TreeAt hh F p l := ht9.keep q4 (fun b hb e => by have := hF b hb; rcases e with (e | e) | e <;> omega)
    refine withJ.inl ?_
    refine ldI_row (o := 0) q2 rfl ?_
    refine ldL_row (o := 0) c1 rfl ?_
    refine cnd_t (by rw [len]; simp) ?_
    refine ldI_row (o := 0) q2 rfl ?_
    refine treeLen hth ?_
    refine ⟨ldI_row (o := 0) q2 rfl rfl, ?_⟩
    refine stC_row (o := 0) q3 (by simp) rfl ?_
    intro hx zx wx kx
    intro hy zy sy
    have fin : Nw h hy := by
      refine shut_nw (lo := h.size) ?_ (Nat.le_refl _) zy sy
      exact (n79.trans q4 (fun b hb e => by rcases e with (e | e) | e <;> omega)).trans kx (fun b hb e => by have e' : b = h2.size := e; omega)
    refine ldB_row (o := 0) (shut_row zy sy wx) rfl ?_
    have : ((l.length : Int) == ((l.length : Nat) : Int)) = true := by simp
    rw [this]
    exact hk hy fin
  · rintro pre O' hh ⟨e, _⟩; cases e
  · rintro i pre O' hh ⟨e, _⟩; cases e
  · rintro i pre O' hh ⟨e, _⟩; cases e

theorem from_law {h : Heap} {F : Nat → Prop} {p : Nat} {l : List KV} {s : Sl} {k : Key} (ht : TreeAt h F p l) (hF : ∀ b, F b → b < h.size) (hp : Pr h s l) (hl : l.length ≤ 1000000000) {R : Bool → Heap → Prop}
    (hk : ∀ h', Nw h h' → R true h') : CallT Try.prog law8_from_no [.pointer (some ⟨p, 0, none⟩), .slice s.a s.len s.cap, .string k] h [.sc .bool] R := by
  have hcall := law8_from_call (some ⟨p, 0, none⟩) s k (R := R) (h := h)
  apply hcall
  clear hcall
  unfold law8_from
  have len := hp.len
  have asc := ht.asc
  have fl := below_le k (l.map (·.1))
  rw [List.length_map] at fl
  have fdrop := frm_leaf (k := k) asc
  refine newB_row ?_
  intro h2 s2 r2 k2
  refine newB_row ?_
  intro h4 s4 r4 k4
  refine newB_row ?_
  intro h6 s6 r6 k6
  refine stC_row (o := 0) r6 (by simp) rfl ?_
  intro h7 s7 r7 k7
  have n6 : Nw h h6 := (k2.trans' k4).trans' k6
  have n7 : Nw h h7 := Nw.st n6 k7 (by omega)
  have a1 : Row h7 h.size [.slice s.a s.len s.cap] := k7.row (k6.row (k4.row r2 (fun h => h)) (fun h => h)) (fun e => by have e' : h.size = h4.size := e; omega)
  have a3 : Row h7 h2.size [.bool false] := k7.row (k6.row r4 (fun h => h)) (fun e => by have e' : h2.size = h4.size := e; omega)
  have z7 := n7.size
  have bs : ∀ b, blk s.a b → 0 < s.len → b < h.size := fun b hb h0 => Rv.lt hp (by omega) hb
  refine LoopT.intro (fun (_ : Unit) hh => ∃ i : Nat, i ≤ below k (l.map (·.1)) ∧ Row hh h4.size [.int .i64 (i : Int)] ∧ Keep (fun b => b = h4.size) h7 hh ∧ hh.size = h7.size) (fun _ hh => l.length - (match cellH hh ⟨h4.size, 0, none⟩ with | some (.int _ n) => n.toNat | _ => 0)) ⟨0, Nat.zero_le _, r7, Keep.refl _ _, rfl⟩ ?_
  rintro _ ha ⟨i, hi, q1, q2, q3⟩
  have c1 : Row ha h.size [.slice s.a s.len s.cap] := q2.row a1 (fun e => by have e' : h.size = h4.size := e; omega)
  have c3 : Row ha h2.size [.bool false] := q2.row a3 (fun e => by have e' : h2.size = h4.size := e; omega)
  have na : Nw h ha := n7.trans q2 (fun b hb e => by have e' : b = h4.size := e; omega)
  have hpa := hp.nw na
  have hta := ht.nw na
  have cell : cellH ha ⟨h4.size, 0, none⟩ = some (.int .i64 (i : Int)) := by rw [q1.cells]; rfl
  refine withJ.inl ?_
  refine ldI_row (o := 0) q1 rfl ?_
  refine ldL_row (o := 0) c1 rfl ?_
  refine cnd_share (i = below k (l.map (·.1))) ?_ ?_ ?_
  · intro e
    subst e
    generalize hm : below k (l.map (·.1)) = m at fl fdrop q1 cell
    refine ldI_row (o := 0) q1 rfl ?_
    refine newB_row ?_
    intro hb sb rb kb
    refine stC_row (o := 0) rb (by simp) rfl ?_
    intro hc sc rc kc
    have w3 : w64 ((m : Int) + 3) = ((m + 3 : Nat) : Int) := by rw [w64_id (by omega) (by omega)]; push_cast; rfl
    rw [w3] at rc
    have nc : Nw ha hc := Nw.st kb kc (Nat.le_refl _)
    refine treeFrom (hta.nw nc) (fun b hb => by have := hF b hb; omega) ?_
    intro rv h9 n9 s9 sq
    rw [← fdrop] at sq
    have n19 : Nw ha h9 := nc.trans' n9
    have hp9 := hpa.nw n19
    have ht9 := hta.nw n19
    have b1 := n19.row c1 (fun h => h)
    have b3 := n19.row c3 (fun h => h)
    have b5 := n19.row q1 (fun h => h)
    have b7 := n9.row rc (fun h => h)
    have xl : (l.drop m).length = l.length - m := List.length_drop
    refine rngX_intro sq (fun b hb => ?_) (fun ex pre O' hh => (ex = .nrm ∨ (ex = .ret ∧ Row hh h2.size [.bool true])) ∧ (∀ b, O' b ↔ b = h2.size ∨ b = h4.size) ∧ Row hh h4.size [.int .i64 ((m + pre.length : Nat) : Int)] ∧ (∃ v, Row hh h2.size [.bool v]) ∧ Keep (fun b => (b = h2.size ∨ b = h4.size) ∨ h9.size ≤ b) h9 hh) (fun b => b = h2.size ∨ b = h4.size) ⟨.inl rfl, fun b => Iff.rfl, b5, ⟨_, b3⟩, Keep.refl _ _⟩ (fun b hb => ⟨fun hd => ?_, ?_⟩) ?_ ?_ ?_ ?_ ?_ ?_ ?_
    · rcases hb with hb | hb | hb
      · have := hF b hb; omega
      · omega
      · omega
    · rcases hd with hd | hd | hd
      · have := hF b hd; omega
      · omega
      · omega
    · rcases hb with rfl | rfl <;> omega
    · rintro ex pre O' hx hy ⟨e0, q1, q2, ⟨v, q3⟩, q4⟩ hk'
      have w : ∀ {cs : List Value}, Row hx h2.size cs → Row hy h2.size cs := fun hr => hk'.row hr (fun e => e.1 ((q1 _).2 (.inl rfl)))
      exact ⟨e0.imp id (fun e => ⟨e.1, w e.2⟩), q1, hk'.row q2 (fun e => e.1 ((q1 _).2 (.inr rfl))), ⟨v, w q3⟩, q4.trans hk' (fun b hb e => .inr e.2)⟩
    · rintro ex pre O' hx ⟨e0, q1, q2, ⟨v, q3⟩, q4⟩ b hb
      rcases (q1 b).1 hb with rfl | rfl
      · exact row_ndf q3
      · exact row_ndf q2
    · rintro rb lb pre x O' hx M Qb ⟨_, q1, q2, ⟨v, q3⟩, q4⟩ hpre hlt hlb hlb2 hlb3 hM hQ
      refine hM hx _ (Keep.refl _ _) ?_
      intro hc zc kc hrb
      obtain ⟨hi, ex⟩ := pre_get hpre
      rw [List.getElem_drop] at ex
      have hil : m + pre.length < l.length := by omega
      have za := q4.size
      have ne2 : h2.size ≠ lb := by omega
      have ne4 : h4.size ≠ lb := by omega
      have d2 := kc.row q2 (fun e => ne4 e)
      have d3 := kc.row q3 (fun e => ne2 e)
      have kall : Keep (fun b => (b = h2.size ∨ b = h4.size) ∨ h9.size ≤ b) h9 hc := q4.trans kc (fun b hb e => .inr (by have e' : b = lb := e; omega))
      have d1 : Row hc h.size [.slice s.a s.len s.cap] := kall.row b1 (fun e => by rcases e with (e | e) | e <;> omega)
      have d7 : Row hc ha.size [.int .i64 ((m + 3 : Nat) : Int)] := kall.row b7 (fun e => by rcases e with (e | e) | e <;> omega)
      have hpc : Pr hc s l := hp9.keep kall (fun b hb e => by have := bs b hb (by omega); rcases e with (e | e) | e <;> omega)
      refine withJ.inl (withJ.inl ?_)
      refine ldI_row (o := 0) d2 rfl ?_
      refine ldL_row (o := 0) d1 rfl ?_
      refine cnd_f (decide_eq_false (by omega)) ?_
      refine ldL_row (o := 0) d1 rfl ?_
      refine ldI_row (o := 0) d2 rfl ?_
      refine hpc.at hil ?_
      intro y e1 e2
      refine ldS_at e1 ?_
      rw [ex, seq_self]
      refine cnd_f rfl ?_
      refine ldL_row (o := 0) d1 rfl ?_
      refine ldI_row (o := 0) d2 rfl ?_
      refine hpc.at hil ?_
      intro y e1 e2
      refine ldS_at e2 ?_
      rw [ex, seq_self]
      refine cnd_f rfl ?_
      refine ldI_row (o := 0) d2 rfl ?_
      refine stC_row (o := 0) d2 (by simp) rfl ?_
      intro hd zd wd kd
      have w1 : w64 (((m + pre.length : Nat) : Int) + 1) = ((m + (pre ++ [x]).length : Nat) : Int) := by rw [w64_id (by omega) (by omega)]; simp; omega
      rw [w1] at wd
      have e7 : Row hd ha.size [.int .i64 ((m + 3 : Nat) : Int)] := kd.row d7 (fun e => by have e' : ha.size = h4.size := e; omega)
      have e3 := kd.row d3 (fun e => by have e' : h2.size = h4.size := e; omega)
      have kall2 : Keep (fun b => (b = h2.size ∨ b = h4.size) ∨ h9.size ≤ b) h9 hd := kall.trans kd (fun b hb e => .inl (.inr e))
      have kx : Keep (fun b => O' b ∨ b = lb) hx hd := (kc.mono (T := fun b => O' b ∨ b = lb) (fun b _ e => .inr e)).trans kd (fun b _ e => .inl ((q1 b).2 (.inr e)))
      have hlbd : hd[lb]? = some rb := by rw [kd.same lb (by omega) (fun e => ne4 e.symm)]; exact hrb
      refine ldI_row (o := 0) wd rfl ?_
      refine ldI_row (o := 0) e7 rfl ?_
      refine cnd_of (fun ce => ?_) (fun ce => ?_)
      · refine stC_row (o := 0) e3 (by simp) rfl ?_
        intro he ze we ke
        refine hQ .ret he ⟨O', ⟨.inr ⟨rfl, we⟩, q1, ke.row wd (fun e => by have e' : h4.size = h2.size := e; omega), ⟨_, we⟩, kall2.trans ke (fun b hb e => .inl (.inl e))⟩, kx.trans ke (fun b _ e => .inl ((q1 b).2 (.inl e))), ?_, ?_⟩
        · rw [ke.same lb (by omega) (fun e => ne2 e.symm)]; exact hlbd
        · intro b hb
          exact ⟨.inl hb, by have := hlt b hb; omega⟩
      · refine hQ .nrm hd ⟨O', ⟨.inl rfl, q1, wd, ⟨_, e3⟩, kall2⟩, kx, hlbd, ?_⟩
        intro b hb
        exact ⟨.inl hb, by have := hlt b hb; omega⟩
    · rintro O' hh ⟨_, q1, q2, ⟨v, q3⟩, q4⟩
      have zh := q4.size
      have d1 : Row hh h.size [.slice s.a s.len s.cap] := q4.row b1 (fun e => by rcases e with (e | e) | e <;> omega)
      refine ldI_row (o := 0) q2 rfl ?_
      refine ldL_row (o := 0) d1 rfl ?_
      refine stC_row (o := 0) q3 (by simp) rfl ?_
      intro hx zx wx kx
      intro hy zy sy
      have fin : Nw h hy := by
        refine shut_nw (lo := h.size) ?_ (Nat.le_refl _) zy sy
        exact ((na.trans' n19).trans q4 (fun b hb e => by rcases e with (e | e) | e <;> omega)).trans kx (fun b hb e => by have e' : b = h2.size := e; omega)
      refine ldB_row (o := 0) (shut_row zy sy wx) rfl ?_
      have : (((m + (l.drop m).length : Nat) : Int) == ((s.len : Nat) : Int)) = true := by rw [beq_iff_eq]; omega
      rw [this]
      exact hk hy fin
    · rintro pre O' hh ⟨e0, q1, q2, q3, q4⟩
      rcases e0 with e0 | ⟨_, e0⟩
      · cases e0
      · intro hy zy sy
        refine ldB_row (o := 0) (shut_row zy sy e0) rfl ?_
        refine hk hy (shut_nw (lo := h.size) ?_ (Nat.le_refl _) zy sy)
        exact (na.trans' n19).trans q4 (fun b hb e => by rcases e with (e | e) | e <;> omega)
    · rintro i pre O' hh ⟨e0, _⟩
      rcases e0 with e0 | ⟨e0, _⟩ <;> cases e0
    · rintro i pre O' hh ⟨e0, _⟩
      rcases e0 with e0 | ⟨e0, _⟩ <;> cases e0
  · intro c hT
    have hil : i < l.length := by have : (i : Int) < (s.len : Int) := c; omega
    refine ldL_row (o := 0) c1 rfl ?_
    refine ldI_row (o := 0) q1 rfl ?_
    refine hpa.at hil ?_
    intro x d1 d2
    refine ldS_at d1 ?_
    rw [slt_dec]
    refine cnd_dec (fun e => ?_) (fun e => ?_)
    · have hlt : i < below k (l.map (·.1)) := by
        rcases Nat.lt_or_ge i (below k (l.map (·.1))) with q | q
        · exact q
        · exact absurd e (below_ge asc q (by rw [List.getElem?_map, List.getElem?_eq_getElem hil]; rfl))
      refine ldI_row (o := 0) q1 rfl ?_
      refine stC_row (o := 0) q1 (by simp) rfl ?_
      intro hb zb wb kb
      have w1 : w64 ((i : Int) + 1) = ((i + 1 : Nat) : Int) := by rw [w64_id (by omega) (by omega)]; push_cast; rfl
      rw [w1] at wb
      refine ⟨⟨i + 1, hlt, wb, q2.trans kb (fun b hb e => e), by omega⟩, ?_⟩
      have cell2 : cellH hb ⟨h4.size, 0, none⟩ = some (.int .i64 ((i + 1 : Nat) : Int)) := by rw [wb.cells]; rfl
      simp only [cell, cell2, Int.toNat_natCast]
      exact Nat.sub_lt_sub_left hil (Nat.lt_succ_self i)
    · refine hT ?_
      rcases Nat.lt_or_ge i (below k (l.map (·.1))) with q | q
      · exact absurd (below_lt q (by rw [List.getElem?_map, List.getElem?_eq_getElem hil]; rfl)) e
      · omega
  · intro c
    have : ¬ (i : Int) < (s.len : Int) := c
    omega
end Go.Proofs.Ytopnljjfpfnhfaa
