/- Contracts of package disk, third part: Crash, Read. -/
import Derived.Test.YtmkobpkdodgboaaPDiskB
namespace Go.Proofs.Ytmkobpkdodgboaa
open Go D
set_option linter.unusedVariables false
set_option linter.unusedSimpArgs false

/-- a slice of bools, their values known -/
def BoolsIs (h : Heap) (a : Option Addr) (l : Nat) (ks : List Bool) : Prop := ks.length = l ∧ ∀ i : Nat, i < l → ∃ x, a = some x ∧ cellH h (x.add (i * 1)) = some (.bool (ks.getD i false))

theorem BoolsIs.keep {S : Nat → Prop} {h h' : Heap} {a : Option Addr} {l : Nat} {ks : List Bool} (hs : BoolsIs h a l ks) (hk : Keep S h h') (hn : 0 < l → ∀ b, blk a b → ¬ S b) : BoolsIs h' a l ks := by
  refine ⟨hs.1, fun i hi => ?_⟩
  obtain ⟨x, h1, h2⟩ := hs.2 i hi
  refine ⟨x, h1, hk.cell h2 ?_⟩
  refine hn (by omega) _ ⟨x, h1, ?_⟩
  unfold Addr.add
  split <;> rfl

namespace Disk

/-- what a crash keeps -/
def kept : List (Int × ByteArray) → List Bool → List (Int × ByteArray)
  | x :: c, k :: ks => if k then x :: kept c ks else kept c ks
  | _, _ => []

theorem kept_succ : ∀ (c : List (Int × ByteArray)) (ks : List Bool) (j : Nat) (hj : j < c.length), kept (c.take (j + 1)) ks = kept (c.take j) ks ++ (if ks.getD j false then [c[j]] else [])
  | [], ks, j, hj => by simp at hj
  | x :: c, [], j, hj => by
    cases j <;> simp [kept]
  | x :: c, k :: ks, 0, hj => by
    cases k <;> simp [kept]
  | x :: c, k :: ks, j + 1, hj => by
    have := kept_succ c ks j (by simpa using hj)
    rw [List.take_succ_cons, List.take_succ_cons]
    simp only [kept, List.getD_cons_succ, List.getElem_cons_succ]
    rw [this]
    cases k <;> simp

def crash (m : M) (ks : List Bool) : M := ⟨lays m.l (kept m.c ks), [], 0, 0⟩

theorem crash_spec {mu im : Nat → Prop} {h : Heap} {p : Nat} {m : M} (hr : Rep h p mu im m) (hc : m.c.length ≤ 1000000) {a : Option Addr} {l c : Nat} {ks : List Bool} (hks : BoolsIs h a l ks) (hfar : 0 < l → ∀ b, blk a b → ¬ mu b) {R : Unit → Heap → Prop}
    (hk : ∀ h', Rep h' p mu im (crash m ks) → Keep mu h h' → R () h') :
    CallT Try.prog disk_Dev_Crash_no [.pointer (some ⟨p, 0, none⟩), .slice a l c] h [] R := by
  have hcall := disk_Dev_Crash_call (d_0 := some ⟨p, 0, none⟩) (keep_1 := ⟨a, l, c⟩) (R := R) (h := h)
  apply hcall
  obtain ⟨_, ⟨ca, cc, c1⟩, _⟩ := hr.cells
  simp only [disk_Dev_Crash, nn_eq, add_mk, Nat.zero_add]
  refine ldL_at c1 ?_
  have keepp : ∀ {h1 h2 : Heap}, Keep (· = p) h1 h2 → Keep mu h1 h2 := fun k => k.mono (fun y _ hy => by
    have : y = p := hy
    rw [this]; exact hr.own)
  refine LoopT.intro (fun j h' => 0 ≤ j ∧ j ≤ m.c.length ∧ Rep h' p mu im { m with l := lays m.l (kept (m.c.take j.toNat) ks) } ∧ Keep mu h h' ∧ cellH h' ⟨p, 1, none⟩ = some (.slice ca m.c.length cc)) (fun j _ => (m.c.length - j).toNat) ⟨by omega, by omega, ?_, .refl _ _, c1⟩ ?_
  · rw [show (0 : Int).toNat = 0 from rfl, List.take_zero]
    have : ({ m with l := lays m.l (kept [] ks) } : M) = m := by
      cases ks <;> rfl
    rw [this]; exact hr
  · rintro j h4 ⟨q1, q2, q3, q4, q5⟩
    refine cnd_dec (fun hj => ?_) (fun hj => ?_)
    · refine withJ.inl ?_
      refine ent_spec (K := fun a13 h16 => withJ (σ := Bool) _ _) q3 q5 q1 hj ?_
      intro o lo co h5 n5 se ne i0 i1 r5 k5 s5
      have hjl : j.toNat < m.c.length := by omega
      have he : ent { m with l := lays m.l (kept (m.c.take j.toNat) ks) } j = m.c[j.toNat] := by
        unfold ent
        rw [List.getD_eq_getElem?_getD, List.getElem?_eq_getElem hjl]; rfl
      rw [he] at n5 se i0 i1
      have ks5 := hks.keep (q4.trans' (k5.mono (fun _ _ h => h.elim))) hfar
      have stp : m.c.take (j + 1).toNat = m.c.take (j.toNat + 1) := by rw [show (j + 1).toNat = j.toNat + 1 by omega]
      have hw : w64 (j + 1) = j + 1 := w64_id (by omega) (by omega)
      refine withJ.intro (fun s h' => h' = h5 ∧ s = ks.getD j.toNat false) ?_ ?_
      · rintro s h' ⟨rfl, hs⟩
        cases s
        · refine cnd_f rfl ?_
          show (0 ≤ w64 (j + 1) ∧ _) ∧ _
          rw [hw]
          refine ⟨⟨by omega, by omega, ?_, q4.trans' (k5.mono (fun _ _ h => h.elim)), k5.cell q5 (fun h => h)⟩, by omega⟩
          rw [stp, kept_succ _ _ _ hjl, ← hs]
          simpa using r5
        · refine cnd_t rfl ?_
          refine lay_spec r5 n5 se i0 i1 ?_
          intro h6 r6 k6 s6 e6
          show (0 ≤ w64 (j + 1) ∧ _) ∧ _
          rw [hw]
          refine ⟨⟨by omega, by omega, ?_, q4.trans' ((k5.mono (fun _ _ h => h.elim)).trans' k6), by rw [e6]; exact k5.cell q5 (fun h => h)⟩, by omega⟩
          rw [stp, kept_succ _ _ _ hjl, ← hs]
          rw [if_pos rfl, lays_snoc]
          exact r6
      · intro J hJ
        refine cnd_dec (fun hjk => ?_) (fun hjk => ?_)
        · obtain ⟨x, hx, hcell⟩ := ks5.2 j.toNat (by have : j < (l : Int) := hjk; omega)
          show idx a l j _
          rw [hx]
          refine idx_some q1 hjk (ldB_at hcell ?_)
          exact hJ _ _ ⟨rfl, rfl⟩
        · refine hJ _ _ ⟨rfl, ?_⟩
          have hlk : ks.length ≤ j.toNat := by
            have : ¬ j < (l : Int) := hjk
            have := hks.1
            omega
          rw [List.getD_eq_getElem?_getD, List.getElem?_eq_none hlk]; rfl
    · have hjl : j = m.c.length := by omega
      subst hjl
      rw [Int.toNat_natCast, List.take_length] at q3
      refine q3.noCache ?_
      intro h5 r5 k5 s5
      refine r5.setSt ?_
      intro h6 r6 k6 s6
      refine r6.setFuse (by omega) ?_
      intro h7 r7 k7 s7
      exact hk h7 r7 (q4.trans' ((keepp k5).trans' ((keepp k6).trans' (keepp k7))))

/-- a sector is copied over a buffer -/
theorem copy_sec {im : Nat → Prop} {h : Heap} {o : Option Addr} {l c b : Nat} {s s0 : ByteArray} (hs : Sec h im (.slice o l c) s) (hb : Bs h (some ⟨b, 0, none⟩) 256 256 s0) (h0 : Value.slice o l c = .slice none 0 0 → s0 = noughts 256) {K : Heap → Prop}
    (hk : ∀ h', Bs h' (some ⟨b, 0, none⟩) 256 256 s → Keep (· = b) h h' → h'.size = h.size → K h') :
    rdCells o ((Nat.min l ((256 : Int).toNat)) * 1) h fun cs => wrRow cs (some ⟨b, 0, none⟩) h K := by
  obtain ⟨h1, ⟨h2, h3⟩ | ⟨b', c', h2, h3, h4⟩⟩ := hs
  · have hz := h0 h2
    injection h2 with e1 e2 e3
    subst e1 e2 e3 hz h3
    unfold rdCells
    refine SlR.over hb (by simp) (by simp) ?_
    intro h' w1 w2 w3
    exact hk h' (by unfold Bs; simpa using w2) w3 w1
  · injection h2 with e1 e2 e3
    subst e1 e2 e3
    refine SlR.rd (l := 256) h4 ?_
    have hl : (bytesV s).length = 256 := by rw [bytesV_length, h1]
    refine SlR.over hb (by omega) (bytesV_one s) ?_
    intro h' w1 w2 w3
    refine hk h' ?_ w3 w1
    have hl0 : (bytesV s0).length = 256 := by have := SlR.len hb; omega
    rw [hl, List.drop_of_length_le (by omega), List.append_nil] at w2
    exact w2

def readAt (m : M) (i : Int) : ByteArray := m.c.foldl (fun s x => if x.1 = i then x.2 else s) (m.l.getD i.toNat (noughts 256))

def readErr (m : M) (i : Int) : Int := if m.st = 2 then 50 else if i < 0 ∨ (m.l.length : Int) ≤ i then 1 else 0

theorem read_spec {mu im : Nat → Prop} {h : Heap} {p : Nat} {m : M} (hr : Rep h p mu im m) (hc : m.c.length ≤ 1000000) {i : Int} (hi : InI i) {R : Sl × Int → Heap → Prop}
    (hbad : readErr m i ≠ 0 → R (⟨none, 0, 0⟩, readErr m i) h)
    (hk : readErr m i = 0 → ∀ b h', h.size ≤ b → b < h'.size → Bs h' (some ⟨b, 0, none⟩) 256 256 (readAt m i) → Rep h' p mu im m → Keep (fun _ => False) h h' → R (⟨some ⟨b, 0, none⟩, 256, 256⟩, 0) h') :
    CallT Try.prog disk_Dev_Read_no [.pointer (some ⟨p, 0, none⟩), .int .i64 i] h [.sc .sl, .sc (.int .i64)] R := by
  apply disk_Dev_Read_call
  obtain ⟨⟨la, lc, c0⟩, ⟨ca, cc, c1⟩, c2, _⟩ := hr.cells
  simp only [disk_Dev_Read, nn_eq, add_mk, Nat.zero_add]
  refine ldI_at c2 ?_
  unfold readErr at hbad hk
  by_cases h2 : m.st = 2
  · rw [if_pos h2] at hbad
    exact cnd_t (by simp [h2]) (hbad (by decide))
  · rw [if_neg h2] at hbad hk
    refine cnd_f (by simp [h2]) (withJ.inl (withJ.inl ?_))
    by_cases hb : i < 0 ∨ (m.l.length : Int) ≤ i
    · rw [if_pos hb] at hbad
      have fin := hbad (by decide)
      refine cnd_dec (fun _ => cnd_t rfl fin) (fun h3 => ldL_at c0 (cnd_t ?_ fin))
      simp only [decide_eq_true_eq]; omega
    · rw [if_neg hb] at hk
      have hk := hk rfl
      refine cnd_neg (by omega) (ldL_at c0 (cnd_neg (by omega) ?_))
      refine mkBytes (by decide) (by decide) ?_
      intro h3 s3 b3 k3
      have r3 := hr.keep k3 (fun _ _ h => h) (fun _ _ h => h)
      have r3' := r3
      obtain ⟨⟨ql, lcap, secs, ca', cc', cv, e1, e2, row, sl1, sl2, g1, g2, g3, g4, g5, g6, g7, g8⟩, dis, lt, le, fz⟩ := r3'
      have hl : m.l.length = secs.length := by rw [e1, List.length_map]
      have hfar : ∀ b, mu b ∨ im b → ¬ (b = h.size) := fun b hb' e => by have := hr.lt b hb'; omega
      refine ldL_row row rfl ?_
      refine idx_some (by omega) (by omega) ?_
      rw [add_mk, Nat.zero_add, Nat.mul_one]
      have hil : i.toNat < secs.length := by omega
      have hsec := g1 _ (List.getElem_mem hil)
      obtain ⟨o, l, c, hv⟩ : ∃ o l c, secs[i.toNat].1 = .slice o l c := by
        obtain ⟨_, hh | ⟨b, c, hh, _⟩⟩ := hsec
        · exact ⟨_, _, _, hh.1⟩
        · exact ⟨_, _, _, hh⟩
      have hcell : cellH h3 ⟨ql, i.toNat, none⟩ = some (.slice o l c) := by
        have := sl1.cell (i := i.toNat) (by omega)
        rw [add_mk, Nat.zero_add] at this
        rw [this, List.getElem?_map, List.getElem?_eq_getElem hil, ← hv]; rfl
      refine ldL_at hcell ?_
      rw [hv] at hsec
      refine copy_sec hsec b3 (fun _ => rfl) ?_
      intro h4 b4 k4 s4
      have kk4 : Keep (fun _ => False) h h4 := k3.trans k4 (fun y hy hb' => by
        have : y = h.size := hb'
        omega)
      have r4 := hr.keep kk4 (fun _ _ h => h) (fun _ _ h => h)
      refine ldL_at (kk4.cell c1 (fun h => h)) ?_
      refine LoopT.intro (fun j h' => 0 ≤ j ∧ j ≤ m.c.length ∧ Bs h' (some ⟨h.size, 0, none⟩) 256 256 ((m.c.take j.toNat).foldl (fun s x => if x.1 = i then x.2 else s) (m.l.getD i.toNat (noughts 256))) ∧ Keep (fun _ => False) h h' ∧ h.size < h'.size) (fun j _ => (m.c.length - j).toNat) ⟨by omega, by omega, ?_, kk4, by omega⟩ ?_
      · have : m.l.getD i.toNat (noughts 256) = secs[i.toNat].2 := by
          rw [List.getD_eq_getElem?_getD, e1, List.getElem?_map, List.getElem?_eq_getElem hil]; rfl
        rw [show (0 : Int).toNat = 0 from rfl, List.take_zero, this]
        exact b4
      · rintro j h5 ⟨q1, q2, q3, q4, q5⟩
        have r5 := hr.keep q4 (fun _ _ h => h) (fun _ _ h => h)
        refine cnd_dec (fun hj => ?_) (fun hj => ?_)
        · refine withJ.inl ?_
          refine ent_spec (K := fun a13 h16 => ldI .i64 a13 h16 fun n29 => _) r5 (q4.cell c1 (fun h => h)) q1 hj ?_
          intro o lo co h6 n6 se ne i0 i1 r6 k6 s6
          have hjl : j.toNat < m.c.length := by omega
          have he : ent m j = m.c[j.toNat] := by
            unfold ent
            rw [List.getD_eq_getElem?_getD, List.getElem?_eq_getElem hjl]; rfl
          have stp : m.c.take (j + 1).toNat = m.c.take j.toNat ++ [m.c[j.toNat]] := by
            rw [show (j + 1).toNat = j.toNat + 1 by omega, List.take_add_one, List.getElem?_eq_getElem hjl]; rfl
          have hw : w64 (j + 1) = j + 1 := w64_id (by omega) (by omega)
          rw [he] at n6 se
          have b6 := q3.keep k6 (fun _ _ h => h)
          refine ldI_row n6 rfl ?_
          by_cases hji : m.c[j.toNat].1 = i
          · refine cnd_t (by simp [hji]) ?_
            rw [add_mk]
            refine ldL_row n6 rfl ?_
            refine copy_sec se b6 (fun e => absurd e ne) ?_
            intro h7 b7 k7 s7
            show (0 ≤ w64 (j + 1) ∧ _) ∧ _
            rw [hw, stp, List.foldl_append]
            refine ⟨⟨by omega, by omega, ?_, (q4.trans' k6).trans k7 (fun y hy hb' => by
              have : y = h.size := hb'
              omega), by omega⟩, by omega⟩
            simp only [List.foldl_cons, List.foldl_nil, hji, if_true]
            exact b7
          · refine cnd_f (by simp [hji]) ?_
            show (0 ≤ w64 (j + 1) ∧ _) ∧ _
            rw [hw, stp, List.foldl_append]
            refine ⟨⟨by omega, by omega, ?_, q4.trans' k6, by omega⟩, by omega⟩
            simp only [List.foldl_cons, List.foldl_nil, hji, if_false]
            exact b6
        · have hjl : j = m.c.length := by omega
          subst hjl
          rw [Int.toNat_natCast, List.take_length] at q3
          exact hk h.size h5 (Nat.le_refl _) q5 q3 r5 q4

end Disk
end Go.Proofs.Ytmkobpkdodgboaa
