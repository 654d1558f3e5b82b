/- Contracts of package blob: Open, Write; a store and what else is there. -/
import Derived.Test.YtmkobpkdodgboaaPBlobC
namespace Go.Proofs.Ytmkobpkdodgboaa
open Go D
set_option linter.unusedVariables false
set_option linter.unusedSimpArgs false
namespace Blob
open Disk Enc Hash Snap Alloc

def refV (r : Int × Int) : List Value := [.int .i64 r.1, .int .i64 r.2]
def stepB (bits : List Bool) (r : Int × Int) : List Bool := if r.2 = 0 then bits else flip bits r.1.toNat (nsecI r.2).toNat
def MarkOk (bits : List Bool) (r : Int × Int) : Prop := (0 < r.2 ∧ 0 ≤ r.1 ∧ AllOf bits r.1 (nsecI r.2) false) ∨ (r.2 = 0 ∧ r.1 = 0)
/-- refs, marked one behind the other -/
def Marks : List Bool → List (Int × Int) → List Bool → Prop
  | b, [], b' => b' = b
  | b, r :: rs, b' => MarkOk b r ∧ Marks (stepB b r) rs b'

/-- a ref of a slice of refs -/
theorem refs_at {h : Heap} {a : Option Addr} {l c : Nat} {rs : List (Int × Int)} (hs : SlR h 2 a l c (rs.flatMap refV)) {i : Int} (h0 : 0 ≤ i) (h1 : i < rs.length) (hl : l = rs.length) {K : Addr → Prop}
    (hk : ∀ (x : Addr) r, rs[i.toNat]? = some r → cellH h (x.add (i.toNat * 2)) = some (.int .i64 r.1) → cellH h ((x.add (i.toNat * 2)).add 1) = some (.int .i64 r.2) → K x) : idx a l i K := by
  have hg : rs[i.toNat]? = some rs[i.toNat] := List.getElem?_eq_getElem (by omega)
  refine hs.idx h0 (by omega) fun x hx hsp => ?_
  subst hx
  have c0 := flat2_get refV (fun _ => rfl) rs i.toNat _ hg 0 (by decide)
  have c1 := flat2_get refV (fun _ => rfl) rs i.toNat _ hg 1 (by decide)
  refine hk x _ hg ?_ ?_
  · rw [hs.cell (by omega), show i.toNat * 2 = i.toNat * 2 + 0 from rfl, c0]; rfl
  · rw [add_add hsp, hs.cell (by omega), c1]; rfl

theorem open_spec {mu im : Nat → Prop} {h : Heap} {p : Nat} {m : M} (hr : Disk.Rep h p mu im m) {fr n : Int} (hok : 0 ≤ n ∧ n ≤ 4096 ∧ 0 ≤ fr ∧ fr + n ≤ m.l.length) {a : Option Addr} {l c : Nat} {rs : List (Int × Int)} (hs : SlR h 2 a l c (rs.flatMap refV)) (hl : l = rs.length) (hl2 : l ≤ 1000000) (hin : ∀ r ∈ rs, InI r.1 ∧ InI r.2) {bits : List Bool} (hm : Marks (List.replicate n.toNat false) rs bits) {R : (Option Addr) × Int → Heap → Prop}
    (hk : ∀ q s w h', h.size ≤ q ∧ h.size ≤ s ∧ h.size ≤ w → q ≠ s → q ≠ w → Row h' q (BRow p s fr) → Alloc.Rep h' s w bits → Keep (fun _ => False) h h' → R (some ⟨q, 0, none⟩, 0) h') :
    CallT Try.prog blob_Open_no [.pointer (some ⟨p, 0, none⟩), .int .i64 fr, .int .i64 n, .slice a l c] h [.sc .ptr, .sc (.int .i64)] R := by
  have hcall := blob_Open_call (x_0 := some ⟨p, 0, none⟩) (x_1 := fr) (x_2 := n) (x_3 := ⟨a, l, c⟩) (R := R) (h := h)
  apply hcall
  simp only [blob_Open]
  obtain ⟨g1, g2, g3, g4⟩ := hok
  have hle := hr.le
  refine withJ.inl (withJ.inl ?_)
  refine cnd_f rfl (cnd_neg (by omega) (cnd_neg (by omega) ?_))
  refine size_spec hr ?_
  refine cnd_neg (by omega) ?_
  refine size_spec hr ?_
  rw [w64_id (x := (m.l.length : Int) - fr) (by omega) (by omega)]
  refine cnd_neg (by omega) ?_
  refine Alloc.new_spec (by unfold InI; omega) (fun hb => by omega) ?_
  intro _ _ s w h1 hs1 hw1 rp1 k1
  refine cnd_f rfl ?_
  refine LoopT.intro (fun i h' => 0 ≤ i ∧ i ≤ l ∧ ∃ b, Alloc.Rep h' s w b ∧ Marks b (rs.drop i.toNat) bits ∧ Keep (fun _ => False) h h') (fun i _ => ((l : Int) - i).toNat) ⟨by omega, by omega, _, rp1, hm, k1⟩ ?_
  rintro i h2 ⟨q1, q2, b, q3, q4, q5⟩
  have z5 := q5.size
  refine cnd_dec (fun hi => ?_) (fun hi => ?_)
  rotate_left
  · have e : rs.drop i.toNat = [] := List.drop_eq_nil_of_le (by omega)
    rw [e] at q4
    replace q4 : bits = b := q4
    subst q4
    refine newB_row ?_
    intro h3 s3 o3 k3
    have hlt := q3.lt
    exact hk h2.size s w h3 ⟨z5, by omega, by omega⟩ (by omega) (by omega) o3 (q3.keep k3 (fun h => h) (fun h => h)) (q5.trans' k3)
  refine withJ.inl ?_
  have hs2 := SlR.keep hs q5 (fun _ _ h => h)
  refine refs_at hs2 q1 (by omega) hl ?_
  intro x r hgr c0 c1
  refine ldI_at c0 (ldI_at c1 ?_)
  have hrm : r ∈ rs := List.mem_of_getElem? hgr
  obtain ⟨hr1, hr2⟩ := hin r hrm
  have ed : rs.drop i.toNat = r :: rs.drop (i.toNat + 1) := by
    have hlt : i.toNat < rs.length := by omega
    have e2 := List.getElem?_eq_getElem hlt
    rw [hgr] at e2
    injection e2 with e2
    rw [List.drop_eq_getElem_cons hlt, ← e2]
  rw [ed] at q4
  obtain ⟨mk, q4⟩ := q4
  refine newB_row ?_
  intro h3 s3 o3 k3
  rw [add_mk]
  refine stC_row o3 (by simp) rfl ?_
  intro h4 s4 o4 k4
  refine stC_row o4 (by simp) rfl ?_
  intro h5 s5 o5 k5
  have o5' : Row h5 h2.size [.int .i64 r.1, .int .i64 r.2] := o5
  have k25 : Keep (fun _ => False) h2 h5 := k3.trans (k4.trans' k5) (fun y hy hh => by
    have hh' : y = h2.size := hh
    omega)
  refine withJ.inl ?_
  refine ldI_row (o := 0) o5' rfl (ldI_row (o := 0 + 1) o5' rfl ?_)
  refine formed_spec (r := r) ?_
  intro h6 k6
  have o6 := k6.row o5' (fun h => h)
  have k26 := k25.trans' k6
  have hf : formedP r := by
    rcases mk with ⟨a1, a2, _⟩ | hh
    · exact .inl ⟨a1, a2⟩
    · exact .inr hh
  refine cnd_f (by simp [hf]) ?_
  refine ldI_row (o := 0 + 1) o6 rfl ?_
  have hw : w64 (i + 1) = i + 1 := w64_id (by omega) (by omega)
  have next : ∀ h7 b', Alloc.Rep h7 s w b' → Marks b' (rs.drop (i.toNat + 1)) bits → Keep (fun _ => False) h h7 → (0 ≤ w64 (i + 1) ∧ w64 (i + 1) ≤ l ∧ ∃ b, Alloc.Rep h7 s w b ∧ Marks b (rs.drop (w64 (i + 1)).toNat) bits ∧ Keep (fun _ => False) h h7) ∧ ((l : Int) - w64 (i + 1)).toNat < ((l : Int) - i).toNat := fun h7 b' w1 w2 w3 => by
    rw [hw, show (i + 1).toNat = i.toNat + 1 by omega]
    exact ⟨⟨by omega, by omega, b', w1, w2, w3⟩, by omega⟩
  rcases mk with ⟨a1, a2, a3⟩ | ⟨a1, a2⟩
  · have e : stepB b r = flip b r.1.toNat (nsecI r.2).toNat := by unfold stepB; rw [if_neg (by omega)]
    rw [e] at q4
    refine cnd_pos a1 ?_
    refine ldI_row (o := 0) o6 rfl (ldI_row (o := 0 + 1) o6 rfl ?_)
    refine sectors_spec hr2 ?_
    refine ⟨ldI_row (o := 0) o6 rfl rfl, ?_⟩
    refine mark_spec (q3.keep k26 (fun h => h) (fun h => h)) hr1 (nsecI_in hr2) (fun _ h7 r7 k7 _ => ?_) (fun hn => absurd a3 hn)
    refine cnd_f rfl ?_
    exact next h7 _ r7 q4 ((q5.trans' k26).trans k7 (fun y hy hh => by omega))
  · have e : stepB b r = b := by unfold stepB; rw [if_pos a1]
    rw [e] at q4
    refine cnd_neg (by omega) ?_
    refine cnd_f rfl ?_
    exact next h6 _ (q3.keep k26 (fun h => h) (fun h => h)) q4 (q5.trans' k26)

theorem bwrite_spec {mu im : Nat → Prop} {h : Heap} {p q s w : Nat} {m : M} {fr : Int} {bits : List Bool} (hr : Disk.Rep h p mu im m) (h0 : m.st = 0) (hc : m.c.length ≤ 800000) (ho : Row h q (BRow p s fr)) (hs : Alloc.Rep h s w bits) (hq : (¬ mu q ∧ ¬ mu s ∧ ¬ mu w) ∧ (¬ im s ∧ ¬ im w) ∧ q ≠ s ∧ q ≠ w)
    {a : Option Addr} {l c : Nat} {ds : List UInt8} (hb : Rb h a l ds) (hcap : l ≤ c) (hl : l ≤ 9223372036854775807) (hfar : 0 < l → ∀ b, blk a b → ¬ mu b ∧ b ≠ s ∧ b ≠ w) (g0 : 0 ≤ fr) (g1 : fr + bits.length ≤ m.l.length) {R : (Int × Int) × Int → Heap → Prop}
    (hz : l = 0 → ∀ h', Keep (fun _ => False) h h' → R ((0, 0), 0) h')
    (hfull : 0 < l → (∀ st, ¬ AllOf bits st (nsec l) false) → ∀ h', Keep (fun _ => False) h h' → R ((0, 0), 60) h')
    (hk : 0 < l → ∀ st, First bits (nsec l) st → ∀ mu' im' h', Disk.Rep h' p mu' im' (putM m (fr + st) ds) → Row h' q (BRow p s fr) → Alloc.Rep h' s w (flip bits st.toNat (nsec l)) → Keep (fun b => mu b ∨ b = s ∨ b = w) h h' → Grew h mu im mu' im' → R ((st, (l : Int)), 0) h') :
    CallT Try.prog blob_Blobs_Write_no [.pointer (some ⟨q, 0, none⟩), .slice a l c] h [.agg [.int .i64, .int .i64], .sc (.int .i64)] R := by
  have hcall := blob_Blobs_Write_call (b_0 := some ⟨q, 0, none⟩) (data_1 := ⟨a, l, c⟩) (R := R) (h := h)
  apply hcall
  simp only [blob_Blobs_Write, nn_eq, add_mk]
  have hql := ho.lt
  have hsl := hs.lt
  have hle := hs.le
  refine newB_row ?_
  intro h1 s1 o1 k1
  refine cnd_of (fun hl0 => ?_) (fun hl0 => ?_)
  · have hl0' : l = 0 := by
      have : (l : Int) = 0 := by simpa using hl0
      omega
    refine stC_row (o := 0) o1 (by simp) rfl ?_
    intro h2 s2 o2 k2
    refine stC_row (o := 0 + 1) o2 (by simp) rfl ?_
    intro h3 s3 o3 k3
    refine ldI_row (n := 0) (o := 0) o3 rfl (ldI_row (n := 0) (o := 0 + 1) o3 rfl ?_)
    exact hz hl0' h3 (k1.trans (k2.trans' k3) (fun y hy hh => by
      have hh' : y = h.size := hh
      omega))
  have hlp : 0 < l := by
    have : ¬ (l : Int) = 0 := by simpa using hl0
    omega
  have ek : nsecI (l : Int) = (nsec l : Int) := nsecI_nat l
  have en : nsec l = (l + 251) / 252 := rfl
  refine sectors_spec (by unfold InI; omega) ?_
  rw [ek]
  have ho1 := k1.row ho (fun h => h)
  refine ldP_row (o := 0 + 2) ho1 rfl ?_
  refine take_spec (hs.keep k1 (fun h => h) (fun h => h)) (by unfold InI; omega) (fun st hf h2 r2 k2 s2 => ?_) (fun hlt => by omega) (fun _ hno => ?_)
  rotate_left
  · refine cnd_t rfl ?_
    refine stC_row (o := 0) o1 (by simp) rfl ?_
    intro h2 s2 o2 k2
    refine stC_row (o := 0 + 1) o2 (by simp) rfl ?_
    intro h3 s3 o3 k3
    refine ldI_row (n := 0) (o := 0) o3 rfl (ldI_row (n := 0) (o := 0 + 1) o3 rfl ?_)
    exact hfull hlp hno h3 (k1.trans (k2.trans' k3) (fun y hy hh => by
      have hh' : y = h.size := hh
      omega))
  refine cnd_f rfl ?_
  obtain ⟨⟨c1, c2, c3, _⟩, _⟩ := id hf
  have o2 := k2.row o1 (fun hh => by omega)
  have ho2 := k2.row ho1 (fun hh => by
    rcases hh with hh | hh
    · exact hq.2.2.1 hh
    · exact hq.2.2.2 hh)
  have k02 : Keep (fun b => b = s ∨ b = w) h h2 := (k1.mono (T := fun b => b = s ∨ b = w) (fun _ _ h => h.elim)).trans k2 (fun _ _ hh => hh)
  have hb2 : Rb h2 a l ds := Rv.keep hb k02 (fun hl b hb' hh => by
    obtain ⟨_, q2, q3⟩ := hfar hl b hb'
    omega)
  have rd2 := hr.keep k02 (fun b hb' hh => by
    rcases hh with hh | hh
    · exact hq.1.2.1 (by rw [← hh]; exact hb')
    · exact hq.1.2.2 (by rw [← hh]; exact hb')) (fun b hb' hh => by
    rcases hh with hh | hh
    · exact hq.2.1.1 (by rw [← hh]; exact hb')
    · exact hq.2.1.2 (by rw [← hh]; exact hb'))
  refine write_spec rd2 h0 hc ho2 hq.1.1 hb2 hcap (fun hl b hb' => (hfar hl b hb').1) (st := st) g0 c2 (by omega) ?_
  intro mu3 im3 h3 r3 k3 gr3
  refine cnd_f rfl ?_
  have o3 := k3.row o2 (fun hm => by have := hr.lt h.size (.inl hm); omega)
  refine stC_row (o := 0) o3 (by simp) rfl ?_
  intro h4 s4 o4 k4
  refine stC_row (o := 0 + 1) o4 (by simp) rfl ?_
  intro h5 s5 o5 k5
  have o5' : Row h5 h.size [.int .i64 st, .int .i64 (l : Int)] := o5
  refine ldI_row (n := st) (o := 0) o5' rfl (ldI_row (n := (l : Int)) (o := 0 + 1) o5' rfl ?_)
  have k35 : Keep (· = h.size) h3 h5 := k4.trans' k5
  have z02 := k02.size
  have z1 := k1.size
  have nz : ∀ {b}, b = h.size → ¬ (mu3 b ∨ im3 b) := fun e hm => by
    have s2' : h2.size = h1.size := s2
    rcases hm with hm | hm
    · rcases gr3.1 _ hm with hh | hh
      · have := hr.lt _ (.inl hh); omega
      · omega
    · rcases gr3.2 _ hm with hh | hh
      · have := hr.lt _ (.inr hh); omega
      · omega
  refine hk hlp st hf mu3 im3 h5 (r3.keep k35 (fun b hb' hh => nz hh (.inl hb')) (fun b hb' hh => nz hh (.inr hb'))) (k35.row (k3.row ho2 hq.1.1) (fun hh => by
    have hh' : q = h.size := hh
    omega)) (((r2.keep k3 hq.1.2.1 hq.1.2.2)).keep k35 (fun hh => by
    have hh' : s = h.size := hh
    omega) (fun hh => by
    have hh' : w = h.size := hh
    omega)) (((k02.mono (T := fun b => mu b ∨ b = s ∨ b = w) (fun _ _ hh => .inr hh)).trans k3 (fun y _ hy => .inl hy)).trans k35 (fun y hy hh => by
    have hh' : y = h.size := hh
    omega)) ⟨fun b hb' => ?_, fun b hb' => ?_⟩
  · rcases gr3.1 b hb' with hh | hh
    · exact .inl hh
    · right; omega
  · rcases gr3.2 b hb' with hh | hh
    · exact .inl hh
    · right; omega

end Blob
end Go.Proofs.Ytmkobpkdodgboaa
