/- stowagelaw10.AllocBack returns true and writes nothing that was there. -/
import Derived.Test.YtmmoilenemogoaaPAllocE
import Derived.Test.YtmmoilenemogoaaPRuns
import Derived.Test.YtmmoilenemogoaaGBack
namespace Go.Proofs.Ytmmoilenemogoaa
open Go D
set_option linter.unusedVariables false
set_option linter.unusedSimpArgs false
namespace Alloc

theorem getD_of {bits : List Bool} {j : Nat} (hj : j < bits.length) {t : Bool} : bits[j]? = some t ↔ bits.getD j false = t := by
  rw [List.getD_eq_getElem?_getD, List.getElem?_eq_getElem hj]
  simp

/-- the longest of the first i runs -/
def longest (l : List (Int × Int)) : Int := l.foldl (fun m x => maxI m x.2) 0

theorem longest_snoc (l : List (Int × Int)) (x : Int × Int) : longest (l ++ [x]) = maxI (longest l) x.2 := by simp [longest]

theorem maxI_eq (a b : Int) : maxI a b = if a ≤ b then b else a := by
  unfold maxI
  split <;> split <;> omega

theorem foldl_ge : ∀ (l : List (Int × Int)) (m : Int), m ≤ l.foldl (fun m x => maxI m x.2) m ∧ (∀ x ∈ l, x.2 ≤ l.foldl (fun m x => maxI m x.2) m) ∧ (l.foldl (fun m x => maxI m x.2) m = m ∨ ∃ x ∈ l, l.foldl (fun m x => maxI m x.2) m = x.2)
  | [], m => ⟨Int.le_refl _, by simp, .inl rfl⟩
  | y :: l, m => by
    obtain ⟨h1, h2, h3⟩ := foldl_ge l (maxI m y.2)
    rw [List.foldl_cons]
    have e := maxI_eq m y.2
    refine ⟨?_, fun x hx => ?_, ?_⟩
    · split at e <;> omega
    · rcases List.mem_cons.1 hx with rfl | hx
      · split at e <;> omega
      · exact h2 x hx
    · rcases h3 with h3 | ⟨x, hx, h3⟩
      · rw [h3, e]
        split
        · exact .inr ⟨y, by simp, rfl⟩
        · exact .inl rfl
      · exact .inr ⟨x, List.mem_cons_of_mem _ hx, h3⟩

theorem longest_ge (l : List (Int × Int)) : 0 ≤ longest l ∧ (∀ x ∈ l, x.2 ≤ longest l) ∧ (longest l = 0 ∨ ∃ x ∈ l, longest l = x.2) := foldl_ge l 0

theorem prefix_sum (l : List (Int × Int)) (hpos : ∀ x ∈ l, 0 ≤ x.2) (j : Nat) : 0 ≤ ((l.take j).map (·.2)).sum ∧ ((l.take j).map (·.2)).sum ≤ (l.map (·.2)).sum := by
  have nn : ∀ r : List (Int × Int), (∀ x ∈ r, 0 ≤ x.2) → 0 ≤ (r.map (·.2)).sum := by
    intro r
    induction r with
    | nil => simp
    | cons x r ih =>
      intro h
      have := ih (fun y hy => h y (List.mem_cons_of_mem _ hy))
      have := h x (List.mem_cons_self ..)
      simp only [List.map_cons, List.sum_cons]
      omega
  have h1 := nn (l.take j) (fun x hx => hpos x (List.mem_of_mem_take hx))
  have h2 := nn (l.drop j) (fun x hx => hpos x (List.mem_of_mem_drop hx))
  have : (l.map (·.2)).sum = ((l.take j).map (·.2)).sum + ((l.drop j).map (·.2)).sum := by
    rw [← sum_append, ← List.map_append, List.take_append_drop]
  omega

/-- k free units are found where and only where some run is as long -/
theorem fits_iff {bits : List Bool} {k : Int} (hk : 1 ≤ k) : (∃ s, AllOf bits s k false) ↔ k ≤ longest (runs bits bits.length) := by
  have ok := runs_ok bits bits.length (Nat.le_refl _)
  obtain ⟨g1, g2, g3⟩ := longest_ge (runs bits bits.length)
  constructor
  · rintro ⟨s, h1, h2, h3, h4⟩
    obtain ⟨x, hx, q1, q2⟩ := ok.whole s k h1 h2 h3 (fun j a b => (getD_of (by omega)).1 (h4 j a b))
    have := g2 x hx
    omega
  · intro h
    rcases g3 with g3 | ⟨x, hx, g3⟩
    · omega
    · obtain ⟨e1, e2, e3, e4⟩ := ok.each x hx
      exact ⟨x.1, hk, e2, by omega, fun j a b => (getD_of (by omega)).2 (e4 j a (by omega))⟩

/-- there is a first -/
theorem first_of {bits : List Bool} {k s : Int} (h : AllOf bits s k false) : ∃ t, First bits k t := by
  obtain ⟨n, hn⟩ : ∃ n : Nat, s = n := ⟨s.toNat, by have := h.2.1; omega⟩
  subst hn
  induction n using Nat.strongRecOn with
  | _ n ih =>
    by_cases hex : ∃ m : Nat, m < n ∧ AllOf bits m k false
    · obtain ⟨m, hm, ha⟩ := hex
      exact ih m hm ha
    · refine ⟨n, h, fun s' hs' ha => hex ⟨s'.toNat, by have := ha.2.1; omega, ?_⟩⟩
      have := ha.2.1
      rw [show ((s'.toNat : Nat) : Int) = s' by omega]
      exact ha

theorem rowPair {h : Heap} {s : Sl} {l : List (Int × Int)} (hs : SlR h 2 s.a s.len s.cap (l.flatMap pairV)) {i : Int} (h0 : 0 ≤ i) (h1 : i < l.length) :
    ∃ x, s.a = some x ∧ x.spot = none ∧ s.len = l.length ∧ cellH h (x.add (i.toNat * 2)) = some (.int .i64 (l.getD i.toNat (0, 0)).1) ∧ cellH h (x.add (i.toNat * 2 + 1)) = some (.int .i64 (l.getD i.toNat (0, 0)).2) := by
  have e1 := hs.len
  rw [flat_pairs_length] at e1
  have hil : i.toNat < l.length := by omega
  have hg : l[i.toNat]? = some (l.getD i.toNat (0, 0)) := by rw [List.getD_eq_getElem?_getD, List.getElem?_eq_getElem hil]; rfl
  obtain ⟨c1, c2⟩ := flat_pairs_get l i.toNat _ hg
  cases hx : s.a with
  | none =>
    rcases hs with ⟨_, z, _⟩ | ⟨b, o, cs, e, _⟩
    · omega
    · rw [hx] at e; cases e
  | some x =>
    rw [hx] at hs
    exact ⟨x, rfl, hs.row, by omega, by rw [hs.cell (by omega)]; exact c1, by rw [hs.cell (by omega)]; exact c2⟩

theorem allocBack_spec {h : Heap} {n k : Int} {x1 : Sl} (hn : InI n) (hk : InI k) (hs : OpsAt h x1.a x1.len) {R : Bool → Heap → Prop} (hR : ∀ h', Keep (fun _ => False) h h' → R true h') :
    CallT Try.prog law10_AllocBack_no [.int .i64 n, .slice x1.a x1.len x1.cap, .int .i64 k] h [.sc .bool] R := by
  apply law10_AllocBack_call
  simp only [law10_AllocBack, withJ, cnd_and]
  refine new_spec hn ?_ ?_
  · intro hbad
    refine cnd_t rfl (cnd_t rfl ?_)
    exact awake_spec fun h' hk => hR h' hk
  · intro hn0 hn1 p q h1 hp hq hr hk1
    refine cnd_f rfl ?_
    refine LoopT.intro (fun i h3 => ∃ bits : List Bool, 0 ≤ i ∧ i ≤ 60 ∧ Rep h3 p q bits ∧ Keep (fun y => h.size ≤ y) h h3) (fun i _ => (60 - i).toNat) ⟨_, by decide, by decide, hr, hk1.mono (fun _ _ h => h.elim)⟩ ?_
    rintro i h3 ⟨bits, g1, g2, g3, g6⟩
    refine cnd_of (fun hin => ?_) (fun hout => ?_)
    · simp only [Bool.and_eq_true, decide_eq_true_eq] at hin
      have hw : w64 (i + 1) = i + 1 := w64_id (by omega) (by omega)
      obtain ⟨x, n0, n1, n2, hx, c0, c1, c2, i0, i1, i2⟩ := hs i.toNat (by omega)
      rw [hx, hw]
      have old : ∀ {a : Addr} {v : Value}, cellH h a = some v → cellH h3 a = some v := fun hc => g6.cell hc (by have := cell_lt hc; omega)
      have nxt : ∀ (bits' : List Bool) (h4 : Heap), Rep h4 p q bits' → Keep (fun x => x = p ∨ x = q) h3 h4 → (∃ bits : List Bool, 0 ≤ i + 1 ∧ i + 1 ≤ 60 ∧ Rep h4 p q bits ∧ Keep (fun y => h.size ≤ y) h h4) ∧ (60 - (i + 1)).toNat < (60 - i).toNat :=
        fun bits' h4 w1 w2 => ⟨⟨bits', by omega, by omega, w1, g6.trans w2 (fun y hy hb => by rcases hb with hb | hb <;> omega)⟩, by omega⟩
      refine idx_some g1 hin.1 (ldI_at (old c0) ?_)
      refine cnd_of (fun _ => ?_) (fun _ => ?_)
      · refine idx_some g1 hin.1 (ldI_at (old c2) ?_)
        refine take_rel g3 i2 ?_
        intro r bits' h4 _ w1 w2
        exact nxt bits' h4 w1 w2
      · refine idx_some g1 hin.1 (ldI_at (old c1) ?_)
        refine idx_some g1 hin.1 (ldI_at (old c2) ?_)
        refine give_rel g3 i1 i2 ?_
        intro r bits' h4 _ w1 w2
        exact nxt bits' h4 w1 w2
    · refine runs_spec g3 ?_
      intro s h4 hs4 hsb hk4
      have ok := runs_ok bits bits.length (Nat.le_refl _)
      have hbd := runs_bound bits bits.length
      have hle := g3.le
      obtain ⟨l, hl⟩ : ∃ l, l = runs bits bits.length := ⟨_, rfl⟩
      rw [← hl] at hs4 ok hbd
      have hslen : s.len = l.length := by
        have := hs4.len
        rw [flat_pairs_length] at this; omega
      have hsum : (l.map (·.2)).sum = freeOf bits := by rw [ok.sum, List.take_length]; rfl
      have hfree := freeOf_le bits
      refine LoopT.intro (fun (t : Int × Int × Int) h5 => h5 = h4 ∧ 0 ≤ t.2.2 ∧ t.2.2 ≤ l.length ∧ t.1 = ((l.take t.2.2.toNat).map (·.2)).sum ∧ t.2.1 = longest (l.take t.2.2.toNat)) (fun t _ => (l.length - t.2.2).toNat) ⟨rfl, by simp, by simp only; omega, by simp, by simp [longest]⟩ ?_
      rintro ⟨sum, lg, j⟩ h5 ⟨rfl, q1, q2, q3, q4⟩
      replace q1 : 0 ≤ j := q1
      replace q2 : j ≤ l.length := q2
      replace q3 : sum = ((l.take j.toNat).map (·.2)).sum := q3
      replace q4 : lg = longest (l.take j.toNat) := q4
      refine cnd_dec (fun hj => ?_) (fun hj => ?_)
      · replace hj : j < s.len := hj
        obtain ⟨x, hx, hsp, _, c1, c2⟩ := rowPair hs4 q1 (by omega)
        have hjl : j.toNat < l.length := by omega
        have hg : l.getD j.toNat (0, 0) = l[j.toNat] := by rw [List.getD_eq_getElem?_getD, List.getElem?_eq_getElem hjl]; rfl
        rw [hg] at c1 c2
        have hm : l[j.toNat] ∈ l := List.getElem_mem _
        obtain ⟨e1, e2, e3, e4⟩ := ok.each _ hm
        have hw : w64 (j + 1) = j + 1 := w64_id (by omega) (by omega)
        have hps := prefix_sum l (fun x hx => by have := ok.each x hx; omega) j.toNat
        have htk : l.take (j + 1).toNat = l.take j.toNat ++ [l[j.toNat]] := by
          rw [show (j + 1).toNat = j.toNat + 1 by omega, List.take_add_one, List.getElem?_eq_getElem hjl]; rfl
        have nxt : D.idx s.a s.len j fun a40 => inB 2 1 <| ldI .i64 ((a40.add (j.toNat * 2)).add ((1 : Int).toNat * 1)) h5 fun n41 => D.idx s.a s.len j fun a42 => inB 2 1 <| ldI .i64 ((a42.add (j.toNat * 2)).add ((1 : Int).toNat * 1)) h5 fun n43 =>
            (h5 = h5 ∧ 0 ≤ w64 (j + 1) ∧ w64 (j + 1) ≤ l.length ∧ w64 (sum + n41) = ((l.take (w64 (j + 1)).toNat).map (·.2)).sum ∧ maxI lg n43 = longest (l.take (w64 (j + 1)).toNat)) ∧ (l.length - w64 (j + 1)).toNat < (l.length - j).toNat := by
          rw [hx]
          refine idx_some q1 hj (inB_of (by decide) (by decide) ?_)
          rw [add_add hsp]
          refine ldI_at c2 ?_
          refine idx_some q1 hj (inB_of (by decide) (by decide) ?_)
          rw [add_add hsp]
          refine ldI_at c2 ?_
          rw [hw, htk, List.map_append, sum_append, longest_snoc, ← q3, ← q4]
          rw [w64_id (by omega) (by omega)]
          exact ⟨⟨rfl, by omega, by omega, by simp, rfl⟩, by omega⟩
        show D.idx s.a s.len j _
        rw [hx]
        refine idx_some q1 hj (inB_of (by decide) (by decide) ?_)
        rw [add_add hsp]
        refine ldI_at c2 ?_
        refine cnd_neg (by omega) ?_
        refine cnd_dec (fun hj0 => ?_) (fun hj0 => ?_)
        · replace hj0 : j > 0 := hj0
          have hw2 : w64 (j - 1) = j - 1 := w64_id (by omega) (by omega)
          obtain ⟨y, hy, hspy, _, d1, d2⟩ := rowPair hs4 (i := j - 1) (by omega) (by omega)
          have hjl2 : (j - 1).toNat < l.length := by omega
          have hg2 : l.getD (j - 1).toNat (0, 0) = l[(j - 1).toNat] := by rw [List.getD_eq_getElem?_getD, List.getElem?_eq_getElem hjl2]; rfl
          rw [hg2] at d1 d2
          have hap := List.pairwise_iff_getElem.1 ok.apart (j - 1).toNat j.toNat hjl2 hjl (by omega)
          obtain ⟨u1, u2, u3, u4⟩ := ok.each _ (List.getElem_mem hjl2)
          have hxy : x = y := by rw [hx] at hy; injection hy
          subst hxy
          show D.idx (some x) s.len (w64 (j - 1)) _
          rw [hw2]
          refine idx_some (by omega) (by omega) (inB_of (by decide) (by decide) ?_)
          rw [add_add hsp, show (0 : Int).toNat * 1 = 0 from rfl, Nat.add_zero]
          refine ldI_at d1 ?_
          refine idx_some (by omega) (by omega) (inB_of (by decide) (by decide) ?_)
          rw [add_add hsp, show (1 : Int).toNat * 1 = 1 from rfl]
          refine ldI_at d2 ?_
          refine idx_some q1 hj (inB_of (by decide) (by decide) ?_)
          rw [add_add hsp, Nat.add_zero]
          refine ldI_at c1 ?_
          rw [w64_id (by omega) (by omega)]
          refine cnd_neg (by omega) ?_
          rw [hx] at nxt
          exact nxt
        · refine cnd_f rfl ?_
          rw [hx] at nxt
          exact nxt
      · have hjl : j = l.length := by
          have : ¬ j < s.len := hj
          omega
        have q3' : sum = freeOf bits := by rw [q3, hjl, Int.toNat_natCast, List.take_length, hsum]
        have q4' : lg = longest (runs bits bits.length) := by rw [q4, hjl, Int.toNat_natCast, List.take_length, hl]
        clear q3 q4
        subst q3' q4'
        have g7 : Keep (fun y => h.size ≤ y) h h5 := g6.trans hk4 (fun _ _ h => h.elim)
        have g3' := g3.keep hk4 (fun h => h) (fun h => h)
        have endd : ∀ h6, Rep h6 p q bits → Keep (fun x => x = p ∨ x = q) h5 h6 → CallT Try.prog alloc_Space_Runs_no [.pointer (some ⟨p, 0, none⟩)] h6 [.sc .sl] fun r63 h64 => cnd ((r63.len : Int) != (s.len : Int)) (R false h64)
            (LoopT (fun X66 s65 h67 => cnd (decide (s65 < (r63.len : Int))) (D.idx r63.a r63.len s65 fun a68 => ldI .i64 (a68.add (s65.toNat * 2)) h67 fun n69 => ldI .i64 ((a68.add (s65.toNat * 2)).add 1) h67 fun n70 =>
              D.idx s.a s.len s65 fun a71 => ldI .i64 (a71.add (s65.toNat * 2)) h67 fun n72 => ldI .i64 ((a71.add (s65.toNat * 2)).add 1) h67 fun n73 => cnd (!((n69 == n72) && ((n70 == n73) && true))) (R false h67) (X66 (w64 (s65 + 1)) h67))
              (CallT Try.prog law10_awake_no [] h67 [.sc .bool] fun r74 h75 => R r74 h75)) (0 : Int) h64) := by
          intro h6 w1 w2
          have hd : ∀ b, blk s.a b → ¬ (b = p ∨ b = q) := by
            intro b hb hpq
            have := hsb b hb
            have := g3.lt
            rcases hpq with hh | hh <;> omega
          have was6 := hs4.keep w2 hd
          refine runs_spec w1 ?_
          intro t h7 ht7 htb hk7
          rw [← hl] at ht7
          have htlen : t.len = l.length := by
            have := ht7.len
            rw [flat_pairs_length] at this; omega
          refine cnd_f (by simp [htlen, hslen]) ?_
          have was7 := was6.keep hk7 (fun _ _ h => h)
          refine LoopT.intro (fun i h' => h' = h7 ∧ 0 ≤ i ∧ i ≤ l.length) (fun i _ => (l.length - i).toNat) ⟨rfl, by omega, by omega⟩ ?_
          rintro i h' ⟨rfl, v1, v2⟩
          refine cnd_dec (fun hi => ?_) (fun hi => ?_)
          · obtain ⟨x, hx, hsp, _, c1, c2⟩ := rowPair was7 v1 (by omega)
            obtain ⟨y, hy, hspy, _, d1, d2⟩ := rowPair ht7 v1 (by omega)
            rw [hx, hy]
            refine idx_some v1 hi (ldI_at d1 ?_)
            rw [add_add hspy]
            refine ldI_at d2 ?_
            refine idx_some v1 (by omega) (ldI_at c1 ?_)
            rw [add_add hsp]
            refine ldI_at c2 ?_
            refine cnd_f (by simp) ?_
            rw [w64_id (x := i + 1) (by omega) (by omega)]
            exact ⟨⟨rfl, by omega, by omega⟩, by omega⟩
          · refine awake_spec fun h8 hk8 => hR h8 ?_
            have kk := ((g7.trans w2 (fun y hy hb => by rcases hb with hb | hb <;> omega)).trans hk7 (fun _ _ h => h.elim)).trans hk8 (fun _ _ h => h.elim)
            exact ⟨kk.size, fun b hb _ => kk.same b hb (by omega)⟩
        have fit := fits_iff (bits := bits) (k := k)
        refine take_spec g3' hk ?_ ?_ ?_
        · intro s0 hf h6 w1 w2 w3
          have hk1' := hf.1.1
          have hff := freeOf_flip hf.1
          have hfb := freeOf_le bits
          have hff2 := freeOf_le (flip bits s0.toNat k.toNat)
          have ha3 := hf.1.2.2.1
          have ha2 := hf.1.2.1
          refine free_spec w1 ?_
          apply law10_took_call
          refine cnd_t rfl ?_
          rw [hff]
          simp only [Bool.false_eq_true, if_false]
          rw [w64_id (by omega) (by omega)]
          refine cnd_f (by simp) (cnd_pos hk1' ?_)
          have hle2 := (fit hk1').1 ⟨s0, hf.1⟩
          refine cnd_f (by simp [hle2]) (cnd_t rfl ?_)
          refine give_spec w1 (by unfold InI; omega) hk ?_ (fun hh => absurd (flip_all hf.1) hh)
          intro _ h7 x1 x2 x3
          rw [flip_flip] at x1
          refine cnd_f rfl ?_
          exact endd h7 x1 (w2.trans' x2)
        · intro hk0
          refine free_spec g3' ?_
          apply law10_took_call
          refine cnd_f rfl ?_
          show cnd (freeOf bits != w64 (freeOf bits + 0)) _ _
          rw [w64_id (by omega) (by omega)]
          refine cnd_f (by simp) (cnd_neg (by omega) (cnd_f rfl (cnd_f rfl (cnd_f rfl ?_))))
          exact endd h5 g3' (.refl _ _)
        · intro hk0 hno
          refine free_spec g3' ?_
          apply law10_took_call
          refine cnd_f rfl ?_
          show cnd (freeOf bits != w64 (freeOf bits + 0)) _ _
          rw [w64_id (by omega) (by omega)]
          have hgt : ¬ k ≤ longest (runs bits bits.length) := fun hh => by
            obtain ⟨t, ht⟩ := (fit hk0).2 hh
            exact hno t ht
          refine cnd_f (by simp) (cnd_pos hk0 (cnd_f (by simp [hgt]) (cnd_f rfl (cnd_f rfl ?_))))
          exact endd h5 g3' (.refl _ _)
end Alloc
end Go.Proofs.Ytmmoilenemogoaa
