/- Contracts of package disk, second part: Flush, Crash. -/
import Derived.Test.YtmkobpkdodgboaaPDisk
namespace Go.Proofs.Ytmkobpkdodgboaa
open Go D
set_option linter.unusedVariables false
set_option linter.unusedSimpArgs false
namespace Disk

theorem flat2_get {α : Type} (f : α → List Value) (hf : ∀ x, (f x).length = 2) (l : List α) : ∀ (i : Nat) (x : α), l[i]? = some x → ∀ o, o < 2 → (l.flatMap f)[i * 2 + o]? = (f x)[o]? := by
  induction l with
  | nil => intro i x h; simp at h
  | cons y r ih =>
    intro i x h o ho
    rw [List.flatMap_cons]
    cases i with
    | zero =>
      simp only [List.getElem?_cons_zero, Option.some.injEq] at h
      subst h
      rw [Nat.zero_mul, Nat.zero_add, List.getElem?_append_left (by rw [hf]; exact ho)]
    | succ i =>
      simp only [List.getElem?_cons_succ] at h
      rw [List.getElem?_append_right (by rw [hf]; omega), hf, show (i + 1) * 2 + o - 2 = i * 2 + o by omega]
      exact ih i x h o ho

def ent (m : M) (j : Int) : Int × ByteArray := m.c.getD j.toNat (0, noughts 256)

/-- an entry of the cache is copied into a new cell row -/
theorem ent_spec {ty : TypeId} {mu im : Nat → Prop} {h : Heap} {p : Nat} {m : M} (hr : Rep h p mu im m) {ca : Option Addr} {lc cc : Nat} (hc : cellH h ⟨p, 1, none⟩ = some (.slice ca lc cc)) {j : Int} (h0 : 0 ≤ j) (h1 : j < m.c.length) {K : Addr → Heap → Prop}
    (hk : ∀ o l c h', Row h' h.size [.int .i64 (ent m j).1, .slice o l c] → Sec h' im (.slice o l c) (ent m j).2 → Value.slice o l c ≠ .slice none 0 0 → 0 ≤ (ent m j).1 → (ent m j).1 < m.l.length → Rep h' p mu im m → Keep (fun _ => False) h h' → h'.size = h.size + 1 → K ⟨h.size, 0, none⟩ h') :
    idx ca lc j fun a10 => ldI .i64 (a10.add (j.toNat * 2)) h fun n11 => ldL ((a10.add (j.toNat * 2)).add 1) h fun o12 l12 c12 => newB [.int .i64 0, .slice none 0 0] ty h fun a13 h14 => stC a13 (.int .i64 n11) h14 fun h15 => stC (a13.add 1) (.slice o12 l12 c12) h15 fun h16 => K a13 h16 := by
  have hr0 := hr
  obtain ⟨⟨ql, lcap, secs, ca', cc', cv, e1, e2, row, sl1, sl2, g1, g2, g3, g4, g5, g6, g7, g8⟩, dis, lt, le, fz⟩ := hr
  have hcell : cellH h ⟨p, 1, none⟩ = some (.slice ca' cv.length cc') := by rw [row.cells]; rfl
  rw [hcell] at hc
  injection hc with hc
  injection hc with w1 w2 w3
  subst w1 w2 w3
  have hcv : cv.length = m.c.length := by rw [e2, List.length_map]
  have hj : j.toNat < cv.length := by omega
  have hg : cv[j.toNat]? = some cv[j.toNat] := List.getElem?_eq_getElem hj
  have hent : ent m j = (cv[j.toNat].1, cv[j.toNat].2.2) := by
    unfold ent
    rw [List.getD_eq_getElem?_getD, e2, List.getElem?_map, hg]
    rfl
  obtain ⟨u1, u2, u3, u4⟩ := g2 _ (List.getElem_mem hj)
  rw [hent] at hk
  refine sl2.idx h0 (by omega) fun x hx hsp => ?_
  rw [hx] at sl2
  have c0 := flat2_get entV (fun _ => rfl) cv j.toNat _ hg 0 (by decide)
  have c1 := flat2_get entV (fun _ => rfl) cv j.toNat _ hg 1 (by decide)
  refine ldI_at (n := cv[j.toNat].1) (by rw [sl2.cell (by omega)]; exact c0) ?_
  rw [add_add hsp]
  obtain ⟨o, l, c, hv⟩ : ∃ o l c, cv[j.toNat].2.1 = .slice o l c := by
    obtain ⟨_, hh | ⟨b, c, hh, _⟩⟩ := u3
    · exact ⟨_, _, _, hh.1⟩
    · exact ⟨_, _, _, hh⟩
  refine ldL_at (x := o) (l := l) (c := c) (by rw [sl2.cell (by omega)]; rw [c1, ← hv]; rfl) ?_
  refine newB_row ?_
  intro h2 s2 n2 k2
  refine stC_row n2 (by simp) rfl ?_
  intro h3 s3 n3 k3
  rw [add_mk]
  refine stC_row n3 (by simp) rfl ?_
  intro h4 s4 n4 k4
  have kk : Keep (fun _ => False) h h4 := k2.trans (k3.trans' k4) (fun y hy hb => by
    have : y = h.size := hb
    omega)
  rw [hv] at u3 u4
  refine hk o l c h4 n4 (u3.keep kk (fun _ _ h => h)) u4 u1 (by rw [e1, List.length_map]; exact u2) (hr0.keep kk (fun _ _ h => h) (fun _ _ h => h)) kk (by omega)

/-- a sector is laid -/
theorem lay_spec {mu im : Nat → Prop} {h : Heap} {p : Nat} {m : M} (hr : Rep h p mu im m) {t : Nat} {i : Int} {o : Option Addr} {l c : Nat} {s : ByteArray} (ht : Row h t [.int .i64 i, .slice o l c]) (hs : Sec h im (.slice o l c) s) (h0 : 0 ≤ i) (h1 : i < m.l.length) {K : Heap → Prop}
    (hk : ∀ h', Rep h' p mu im { m with l := m.l.set i.toNat s } → Keep mu h h' → h'.size = h.size → cellH h' ⟨p, 1, none⟩ = cellH h ⟨p, 1, none⟩ → K h') :
    ldL ⟨p, 0, none⟩ h fun o18 l18 c18 => ldI .i64 ⟨t, 0, none⟩ h fun n19 => ldL ((⟨t, 0, none⟩ : Addr).add 1) h fun o20 l20 c20 => idx o18 l18 n19 fun a21 => stC (a21.add (n19.toNat * 1)) (.slice o20 l20 c20) h fun h22 => K h22 := by
  obtain ⟨⟨ql, lcap, secs, ca, cc, cv, e1, e2, row, sl1, sl2, g1, g2, g3, g4, g5, g6, g7, g8⟩, dis, lt, le, fz⟩ := hr
  have hl : m.l.length = secs.length := by rw [e1, List.length_map]
  refine ldL_row row rfl (ldI_row ht rfl ?_)
  rw [add_mk]
  refine ldL_row ht rfl ?_
  refine idx_some h0 (by omega) ?_
  rw [Nat.mul_one]
  refine sl1.set (by omega) rfl ?_
  intro h' s1 q1 q2
  have hq : Keep (· = ql) h h' := q2
  have hi : ∀ b, im b → ¬ (b = ql) := fun b hb e => dis ql g4 (e ▸ hb)
  refine hk h' ⟨⟨ql, lcap, secs.set i.toNat (.slice o l c, s), ca, cc, cv, by simp only [e1, List.map_set], e2, ?_, ?_, sl2.keep hq (fun b hb e => by
      have e' : b = ql := e
      exact g8 (e' ▸ hb)), ?_, ?_, g3, g4, g5, g6, g7, g8⟩, dis, fun b hb => by rw [s1]; exact lt b hb, by simpa using le, fz⟩ (hq.mono (fun b _ hb => by
      have : b = ql := hb
      rw [this]; exact g4)) s1 ?_
  · rw [List.length_set]; exact hq.row row g6
  · rw [List.length_set, List.map_set]; exact q1
  · intro x hx
    rcases List.mem_or_eq_of_mem_set hx with hx | rfl
    · exact (g1 x hx).keep hq hi
    · exact hs.keep hq hi
  · intro x hx
    obtain ⟨w1, w2, w3, w4⟩ := g2 x hx
    exact ⟨w1, by rw [List.length_set]; exact w2, w3.keep hq hi, w4⟩
  · rw [(hq.row row g6).cells, row.cells]

/-- all that waits is laid, in its order -/
def lays (l : List ByteArray) (c : List (Int × ByteArray)) : List ByteArray := c.foldl (fun l x => l.set x.1.toNat x.2) l

theorem lays_length (c : List (Int × ByteArray)) : ∀ l, (lays l c).length = l.length := by
  induction c with
  | nil => intro l; rfl
  | cons x c ih => intro l; unfold lays at *; rw [List.foldl_cons, ih, List.length_set]

theorem lays_snoc (l : List ByteArray) (c : List (Int × ByteArray)) (x : Int × ByteArray) : lays l (c ++ [x]) = (lays l c).set x.1.toNat x.2 := by simp [lays]

def flush (m : M) : Int × M := if m.st = 2 then (50, m) else if (burn m).1 ≠ 0 then burn m else (0, { (burn m).2 with l := lays m.l m.c, c := [] })

theorem flush_spec {mu im : Nat → Prop} {h : Heap} {p : Nat} {m : M} (hr : Rep h p mu im m) (hc : m.c.length ≤ 1000000) {R : Int → Heap → Prop}
    (hk : ∀ h', Rep h' p mu im (flush m).2 → Keep mu h h' → R (flush m).1 h') :
    CallT Try.prog disk_Dev_Flush_no [.pointer (some ⟨p, 0, none⟩)] h [.sc (.int .i64)] R := by
  apply disk_Dev_Flush_call
  obtain ⟨_, _, c2, _⟩ := hr.cells
  simp only [disk_Dev_Flush, nn_eq, add_mk, Nat.zero_add]
  refine ldI_at c2 ?_
  unfold flush at hk
  by_cases h2 : m.st = 2
  · rw [if_pos h2] at hk
    exact cnd_t (by simp [h2]) (hk h hr (.refl _ _))
  · rw [if_neg h2] at hk
    refine cnd_f (by simp [h2]) ?_
    refine burn_spec hr ?_
    intro h3 r3 k3 s3
    have k3' : Keep mu h h3 := k3.mono (fun y _ hy => by
      have : y = p := hy
      rw [this]; exact hr.own)
    by_cases hbz : (burn m).1 ≠ 0
    · rw [if_pos hbz] at hk
      exact cnd_t (by simpa using hbz) (hk h3 r3 k3')
    · rw [if_neg hbz] at hk
      refine cnd_f (by simpa using hbz) ?_
      obtain ⟨bl, bc⟩ := burn_l m
      obtain ⟨_, ⟨ca, cc, c1⟩, _⟩ := r3.cells
      rw [bc] at c1
      refine ldL_at c1 ?_
      refine LoopT.intro (fun j h' => 0 ≤ j ∧ j ≤ m.c.length ∧ Rep h' p mu im { (burn m).2 with l := lays m.l (m.c.take j.toNat) } ∧ Keep mu h3 h' ∧ cellH h' ⟨p, 1, none⟩ = some (.slice ca m.c.length cc)) (fun j _ => (m.c.length - j).toNat) ⟨by omega, by omega, ?_, .refl _ _, c1⟩ ?_
      · rw [show (0 : Int).toNat = 0 from rfl, List.take_zero]
        have : ({ (burn m).2 with l := lays m.l [] } : M) = (burn m).2 := by
          show ({ (burn m).2 with l := m.l } : M) = _
          rw [← bl]
        rw [this]; exact r3
      · rintro j h4 ⟨q1, q2, q3, q4, q5⟩
        refine cnd_dec (fun hj => ?_) (fun hj => ?_)
        · refine ent_spec (K := fun a13 h16 => ldL ⟨p, 0, none⟩ h16 fun o18 l18 c18 => ldI .i64 a13 h16 fun n19 => ldL (a13.add 1) h16 fun o20 l20 c20 => idx o18 l18 n19 fun a21 => stC (a21.add (n19.toNat * 1)) (.slice o20 l20 c20) h16 fun h22 => _) q3 q5 q1 (by simp only [bc]; omega) ?_
          intro o l c h5 n5 se ne i0 i1 r5 k5 s5
          refine lay_spec r5 n5 se i0 i1 ?_
          intro h6 r6 k6 s6 e6
          rw [w64_id (x := j + 1) (by omega) (by omega)]
          refine ⟨⟨by omega, by omega, ?_, q4.trans' ((k5.mono (fun _ _ h => h.elim)).trans' k6), ?_⟩, by omega⟩
          · have hjl : j.toNat < m.c.length := by omega
            have he : ent { (burn m).2 with l := lays m.l (m.c.take j.toNat) } j = m.c[j.toNat] := by
              unfold ent
              simp only [bc]
              rw [List.getD_eq_getElem?_getD, List.getElem?_eq_getElem hjl]; rfl
            rw [he] at r6
            have : m.c.take (j + 1).toNat = m.c.take j.toNat ++ [m.c[j.toNat]] := by
              rw [show (j + 1).toNat = j.toNat + 1 by omega, List.take_add_one, List.getElem?_eq_getElem hjl]; rfl
            rw [this, lays_snoc]
            exact r6
          · rw [e6]
            exact k5.cell q5 (fun h => h)
        · have hjl : j = m.c.length := by omega
          subst hjl
          rw [Int.toNat_natCast, List.take_length] at q3
          refine q3.noCache ?_
          intro h5 r5 k5 s5
          have e0 : (burn m).1 = 0 := by
            rcases burn_r m with h | h
            · exact h
            · exact absurd h (by omega)
          refine hk h5 r5 ((k3'.trans' q4).trans' (k5.mono (fun y _ hy => by
            have : y = p := hy
            rw [this]; exact hr.own)))

end Disk
end Go.Proofs.Ytmkobpkdodgboaa
