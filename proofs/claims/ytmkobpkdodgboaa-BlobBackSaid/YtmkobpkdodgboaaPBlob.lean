/- Contracts of package blob: Sectors, formed, sector. -/
import Derived.Test.YtmkobpkdodgboaaPCommit
import Derived.Test.YtmkobpkdodgboaaPAllocM
import Derived.Test.YtmkobpkdodgboaaGBlob
namespace Go.Proofs.Ytmkobpkdodgboaa
open Go D
set_option linter.unusedVariables false
set_option linter.unusedSimpArgs false
namespace Blob
open Disk Enc Hash Snap

def nsec (n : Nat) : Nat := (n + 251) / 252
def nsecI (n : Int) : Int := if n ≤ 0 then 0 else (n - 1) / 252 + 1
theorem nsecI_nat (n : Nat) : nsecI (n : Int) = nsec n := by unfold nsecI nsec; split <;> omega
/-- what a unit holds -/
def padL (ds : List UInt8) : List UInt8 := ds ++ List.replicate (252 - ds.length) 0
def sectL (ds : List UInt8) : List UInt8 := be4W (crcF (padL ds)) ++ padL ds
def partD (ds : List UInt8) (i : Nat) : List UInt8 := (ds.drop (252 * i)).take 252
theorem padL_length {ds : List UInt8} (h : ds.length ≤ 252) : (padL ds).length = 252 := by simp [padL]; omega
theorem sectL_length {ds : List UInt8} (h : ds.length ≤ 252) : (sectL ds).length = 256 := by simp [sectL, padL_length h, be4W]
theorem partD_length (ds : List UInt8) (i : Nat) : (partD ds i).length ≤ 252 := by simp [partD]; omega

theorem sectors_spec {h : Heap} {n : Int} (hn : InI n) {R : Int → Heap → Prop} (hk : R (nsecI n) h) : CallT Try.prog blob_Sectors_no [.int .i64 n] h [.sc (.int .i64)] R := by
  apply blob_Sectors_call
  unfold InI at hn
  simp only [blob_Sectors]
  unfold nsecI at hk
  refine cnd_dec (fun h1 => ?_) (fun h1 => ?_)
  · rw [if_pos h1] at hk
    exact hk
  · rw [if_neg h1] at hk
    have e1 : w64 (n - 1) = n - 1 := w64_id (by omega) (by omega)
    have e2 : w64 ((n - 1).tdiv 252) = (n - 1) / 252 := by rw [Int.tdiv_eq_ediv_of_nonneg (by omega), w64_id (by omega) (by omega)]
    rw [e1, e2, w64_id (by omega) (by omega)]
    exact hk

def formedP (r : Int × Int) : Prop := 0 < r.2 ∧ 0 ≤ r.1 ∨ r.2 = 0 ∧ r.1 = 0
instance (r : Int × Int) : Decidable (formedP r) := by unfold formedP; infer_instance

theorem formed_spec {h : Heap} {r : Int × Int} {R : Bool → Heap → Prop} (hk : ∀ h', Keep (fun _ => False) h h' → R (decide (formedP r)) h') : CallT Try.prog blob_formed_no [.agg #[.int .i64 r.1, .int .i64 r.2]] h [.sc .bool] R := by
  have hcall := blob_formed_call (r_0 := r) (R := R) (h := h)
  apply hcall
  simp only [blob_formed]
  refine newB_row ?_
  intro h1 s1 o1 k1
  replace hk := hk h1 k1
  rw [add_mk]
  refine withJ.inl ?_
  have fin : ∀ b : Bool, b = decide (formedP r) → R b h1 := fun b e => by rw [e]; exact hk
  refine ldI_row (o := 0 + 1) o1 rfl ?_
  refine cnd_dec (fun h2 => ?_) (fun h2 => ?_)
  · refine ldI_row (o := 0) o1 rfl ?_
    refine cnd_dec (fun h3 => ?_) (fun h3 => ?_)
    · exact fin _ (by rw [decide_eq_true]; exact .inl ⟨h2, h3⟩)
    · refine ldI_row (o := 0 + 1) o1 rfl ?_
      refine cnd_f (by simp; omega) ?_
      exact fin _ (by rw [decide_eq_false]; rintro (h | h) <;> omega)
  · refine ldI_row (o := 0 + 1) o1 rfl ?_
    refine cnd_of (fun h3 => ?_) (fun h3 => ?_)
    · have h3' : r.2 = 0 := by simpa using h3
      refine ldI_row (o := 0) o1 rfl ?_
      exact fin _ (by
        rw [Bool.eq_iff_iff]
        simp only [beq_iff_eq, decide_eq_true_eq]
        unfold formedP
        omega)
    · have h3' : ¬ r.2 = 0 := by simpa using h3
      exact fin _ (by rw [decide_eq_false]; rintro (h | h) <;> omega)

theorem set4 {α : Type} (vs : List α) (a b c d : α) (h : 4 ≤ vs.length) : (((vs.set 0 a).set 1 b).set 2 c).set 3 d = [a, b, c, d] ++ vs.drop 4 := by
  match vs, h with
  | _ :: _ :: _ :: _ :: r, _ => rfl

theorem lsl_at {b o c : Nat} {lo hi mx : Int} (h0 : 0 ≤ lo) (h1 : lo ≤ hi) (h2 : hi ≤ mx) (h3 : mx ≤ c) (h4 : lo < mx) {K : Option Addr → Nat → Nat → Prop} (hk : K (some ⟨b, o + lo.toNat, none⟩) (hi - lo).toNat (mx - lo).toNat) : lsl 1 (some ⟨b, o, none⟩) c lo hi mx K := by
  refine ⟨h0, h1, h2, h3, ?_⟩
  rw [if_neg (by omega)]
  have e : (some (⟨b, o, none⟩ : Addr)).map (·.add (lo.toNat * 1)) = some ⟨b, o + lo.toNat, none⟩ := by
    rw [Option.map_some, add_mk, Nat.mul_one]
  rw [e]
  exact hk

theorem sector_spec {h : Heap} {a : Option Addr} {l c : Nat} {ds : List UInt8} (hb : Rb h a l ds) (hl : l ≤ 252) {R : Sl → Heap → Prop}
    (hk : ∀ h', Bl h' (some ⟨h.size, 0, none⟩) 256 256 (sectL ds) → Keep (fun _ => False) h h' → h'.size = h.size + 1 → R ⟨some ⟨h.size, 0, none⟩, 256, 256⟩ h') :
    CallT Try.prog blob_sector_no [.slice a l c] h [.sc .sl] R := by
  have hcall := blob_sector_call (data_0 := ⟨a, l, c⟩) (R := R) (h := h)
  apply hcall
  simp only [blob_sector]
  have hlen := hb.len
  refine mkBytes (by decide) (by decide) ?_
  intro h1 s1 b1 k1
  have hb1 : Rb h1 a l ds := Rv.keep hb k1 (fun _ _ _ h => h)
  have w1 : SlR h1 1 (some ⟨h.size, 4, none⟩) 252 252 (List.replicate 252 (byteV 0)) := by
    rcases b1 with ⟨e, _⟩ | ⟨b, o, cs, e, r, g1, g2, g3, g4⟩
    · cases e
    · injection e with e
      injection e with e1 e2
      subst e1 e2
      refine .inr ⟨h.size, 4, cs, rfl, r, by omega, by omega, by rw [List.length_replicate], ?_⟩
      have e2 : (cs.drop 4).take (252 * 1) = ((cs.drop 0).take (256 * 1)).drop 4 := by
        rw [List.drop_zero, List.drop_take]
      have g4' : (cs.drop 0).take (256 * 1) = bytesV (noughts 256) := g4
      rw [e2, g4', bytesV_noughts, List.drop_replicate]
      rfl
  refine lsl_at (by decide) (by decide) (by decide) (by decide) (by decide) ?_
  show rdCells a (Nat.min l 252 * 1) h1 _
  rw [show Nat.min l 252 = l from Nat.min_eq_left hl]
  refine Rv.rd hb1 ?_
  refine w1.over (by rw [List.length_map]; omega) (by simp [byteV, Value.oneCell']) ?_
  intro h2 s2 w2 k2
  have e2 : ds.map byteV ++ (List.replicate 252 (byteV 0)).drop (ds.map byteV).length = (padL ds).map byteV := by
    rw [List.length_map, List.drop_replicate, padL, List.map_append, List.map_replicate]
  rw [e2] at w2
  refine lsl_at (by decide) (by decide) (by decide) (by decide) (by decide) ?_
  refine crc_spec (SlR.rv w2) (by decide) ?_
  obtain ⟨vs, w3, e3⟩ : ∃ vs, SlR h2 1 (some ⟨h.size, 0, none⟩) 256 256 vs ∧ vs.drop 4 = (padL ds).map byteV := by
    rcases w2 with ⟨e, _⟩ | ⟨b, o, cs, e, r, g1, g2, g3, g4⟩
    · cases e
    · injection e with e
      injection e with e1 e2
      subst e1 e2
      refine ⟨cs.take 256, .inr ⟨h.size, 0, cs, rfl, r, by omega, by omega, by rw [List.length_take]; omega, by simp⟩, ?_⟩
      rw [← g4, List.drop_take]
  have hvl := w3.len
  refine idx_some (by decide) (by decide) ?_
  refine w3.set (i := 0) (by decide) rfl ?_
  intro h3 s3 w4 k3
  refine idx_some (by decide) (by decide) ?_
  refine w4.set (i := 1) (by decide) rfl ?_
  intro h4 s4 w5 k4
  refine idx_some (by decide) (by decide) ?_
  refine w5.set (i := 2) (by decide) rfl ?_
  intro h5 s5 w6 k5
  refine idx_some (by decide) (by decide) ?_
  refine w6.set (i := 3) (by decide) rfl ?_
  intro h6 s6 w7 k6
  rw [set4 _ _ _ _ _ (by omega), e3] at w7
  have kk : Keep (fun _ => False) h h6 := k1.trans ((((k2.trans' k3).trans' k4).trans' k5).trans' k6) (fun y hy hh => by
    have hh' : y = h.size := hh
    omega)
  refine hk h6 ?_ kk (by omega)
  have e7 : (sectL ds).map byteV = [Value.int .u8 (IntKind.u8.wrap (shrI .u32 (u (crcF (padL ds))) 24)), .int .u8 (IntKind.u8.wrap (shrI .u32 (u (crcF (padL ds))) 16)), .int .u8 (IntKind.u8.wrap (shrI .u32 (u (crcF (padL ds))) 8)), .int .u8 (IntKind.u8.wrap (u (crcF (padL ds))))] ++ (padL ds).map byteV := by
    rw [sectL, List.map_append, be4W_cells]
  unfold Bl
  rw [e7]
  exact w7

end Blob
end Go.Proofs.Ytmkobpkdodgboaa
