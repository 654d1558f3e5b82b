/- Contracts of package blob: write, Write, on a device that works. -/
import Derived.Test.YtmkobpkdodgboaaPBlob
namespace Go.Proofs.Ytmkobpkdodgboaa
open Go D
set_option linter.unusedVariables false
set_option linter.unusedSimpArgs false
namespace Blob
open Disk Enc Hash Snap Alloc

/-- the sectors that data goes to -/
def bws (P : Int) (ds : List UInt8) (k : Nat) : List (Int × ByteArray) := (List.range k).map fun (j : Nat) => (P + (j : Int), ofL (sectL (partD ds j)))
theorem bws_succ (P : Int) (ds : List UInt8) (k : Nat) : bws P ds (k + 1) = bws P ds k ++ [(P + (k : Int), ofL (sectL (partD ds k)))] := by
  unfold bws
  rw [List.range_succ, List.map_append]
  rfl
theorem bws_in {P : Int} {ds : List UInt8} {k : Nat} {x : Int × ByteArray} (hx : x ∈ bws P ds k) : P ≤ x.1 ∧ x.1 < P + k ∧ x.2.size = 256 := by
  unfold bws at hx
  obtain ⟨j, hj, rfl⟩ := List.mem_map.1 hx
  have := List.mem_range.1 hj
  refine ⟨by show P ≤ P + (j : Int); omega, by show P + (j : Int) < P + (k : Int); omega, ?_⟩
  show (ofL _).size = 256
  rw [ofL_size, sectL_length (partD_length ds j)]
theorem lk_bws (P : Int) (ds : List UInt8) (i : Int) (z : ByteArray) : ∀ k, lk (bws P ds k) i z = if P ≤ i ∧ i < P + (k : Int) then ofL (sectL (partD ds (i - P).toNat)) else z
  | 0 => by rw [if_neg (by omega)]; rfl
  | k + 1 => by
    rw [bws_succ, lk_append, lk_bws P ds i z k, lk_one]
    by_cases e : P + (k : Int) = i
    · rw [if_pos e, if_pos (by omega), show (i - P).toNat = k by omega]
    · rw [if_neg e]
      by_cases h : P ≤ i ∧ i < P + (k : Int)
      · rw [if_pos h, if_pos (by omega)]
      · rw [if_neg h, if_neg (by omega)]

/-- data is written from P on, and flushed -/
def putM (m : M) (P : Int) (ds : List UInt8) : M := (flush (wrs (bws P ds (nsec ds.length)) m).2).2

theorem put_facts {m : M} {P : Int} {ds : List UInt8} (h0 : m.st = 0) (hc : ∀ x ∈ m.c, 0 ≤ x.1) (hP : 0 ≤ P) (hr : P + (nsec ds.length : Int) ≤ m.l.length) :
    (putM m P ds).st = 0 ∧ (putM m P ds).c = [] ∧ (putM m P ds).l.length = m.l.length ∧ ∀ i : Int, 0 ≤ i → i < m.l.length → readAt (putM m P ds) i = if P ≤ i ∧ i < P + (nsec ds.length : Int) then ofL (sectL (partD ds (i - P).toNat)) else readAt m i := by
  obtain ⟨k, hk⟩ : ∃ k, k = nsec ds.length := ⟨_, rfl⟩
  obtain ⟨a1, a2⟩ := wrs_alive (bws P ds k) m h0 (fun x hx => by
    obtain ⟨b1, b2, b3⟩ := bws_in hx
    exact ⟨by omega, by omega, b3⟩)
  obtain ⟨w1, w2, _⟩ := wrs_c (bws P ds k) m
  have wl := (wrs_len (bws P ds k) m).1
  have w2' := w2 a1
  have pos : ∀ x ∈ (wrs (bws P ds k) m).2.c, 0 ≤ x.1 := fun x hx => by
    rw [w2'] at hx
    rcases List.mem_append.1 hx with hh | hh
    · exact hc x hh
    · have := (bws_in hh).1
      omega
  unfold putM
  rw [← hk]
  have fa := flush_alive0 a2
  have f0 : (flush (wrs (bws P ds k) m).2).1 = 0 := by rw [fa]
  refine ⟨by rw [fa]; exact a2, by rw [fa], by rw [fa]; simp only [lays_length]; exact wl, fun i i0 i1 => ?_⟩
  have hcz : (flush (wrs (bws P ds k) m).2).2.c = [] := by rw [fa]
  have e1 : readAt (flush (wrs (bws P ds k) m).2).2 i = sec (flush (wrs (bws P ds k) m).2).2.l i := by rw [readAt_lk, hcz]; rfl
  rw [e1, flush_view f0 i0 (by rw [wl]; exact i1) pos, readAt_lk, w2', lk_append, w1, lk_bws]
  rfl

theorem keepTo {mu im mu1 im1 : Nat → Prop} {h hA hB : Heap} (kA : Keep mu h hA) (gA : Grew h mu im mu1 im1) (kB : Keep mu1 hA hB) : Keep mu h hB := kA.trans kB (fun y hy hm => by
  rcases gA.1 y hm with hh | hh
  · exact hh
  · omega)
theorem grewTo {mu im mu1 im1 mu2 im2 : Nat → Prop} {h hA : Heap} (hz : h.size ≤ hA.size) (gA : Grew h mu im mu1 im1) (gB : Grew hA mu1 im1 mu2 im2) : Grew h mu im mu2 im2 := ⟨fun b hb => by
  rcases gB.1 b hb with hh | hh
  · exact gA.1 b hh
  · right; omega, fun b hb => by
  rcases gB.2 b hb with hh | hh
  · exact gA.2 b hh
  · right; omega⟩

def BRow (p s : Nat) (fr : Int) : List Value := [.pointer (some ⟨p, 0, none⟩), .int .i64 fr, .pointer (some ⟨s, 0, none⟩)]

theorem write_spec {mu im : Nat → Prop} {h : Heap} {p q s : Nat} {m : M} {fr : Int} (hr : Disk.Rep h p mu im m) (h0 : m.st = 0) (hc : m.c.length ≤ 800000) (ho : Row h q (BRow p s fr)) (hq : ¬ mu q)
    {a : Option Addr} {l c : Nat} {ds : List UInt8} (hb : Rb h a l ds) (hcap : l ≤ c) (hfar : 0 < l → ∀ b, blk a b → ¬ mu b) {st : Int} (g0 : 0 ≤ fr) (g1 : 0 ≤ st) (g2 : fr + st + (nsec l : Int) ≤ m.l.length) {R : Int → Heap → Prop}
    (hk : ∀ mu' im' h', Disk.Rep h' p mu' im' (putM m (fr + st) ds) → Keep mu h h' → Grew h mu im mu' im' → R 0 h') :
    CallT Try.prog blob_Blobs_write_no [.pointer (some ⟨q, 0, none⟩), .int .i64 st, .slice a l c] h [.sc (.int .i64)] R := by
  have hcall := blob_Blobs_write_call (b_0 := some ⟨q, 0, none⟩) (start_1 := st) (data_2 := ⟨a, l, c⟩) (R := R) (h := h)
  apply hcall
  simp only [blob_Blobs_write, nn_eq, add_mk]
  have hlen := hb.len
  have hle := hr.le
  obtain ⟨P, hP⟩ : ∃ P, P = fr + st := ⟨_, rfl⟩
  obtain ⟨k, hkk⟩ : ∃ k, k = nsec l := ⟨_, rfl⟩
  have hkd : k = (l + 251) / 252 := hkk
  rw [← hP] at hk
  rw [← hkk, ← hP] at g2
  have wa : ∀ i, i ≤ k → (wrs (bws P ds i) m).1 = 0 ∧ (wrs (bws P ds i) m).2.st = 0 := fun i hi => wrs_alive (bws P ds i) m h0 (fun x hx => by
    obtain ⟨b1, b2, b3⟩ := bws_in hx
    exact ⟨by omega, by omega, b3⟩)
  refine LoopT.intro (fun i h' => 0 ≤ i ∧ i ≤ k ∧ ∃ mu' im', Disk.Rep h' p mu' im' (wrs (bws P ds i.toNat) m).2 ∧ Keep mu h h' ∧ Grew h mu im mu' im') (fun i _ => ((k : Int) - i).toNat)
    ⟨by omega, by omega, mu, im, hr, .refl _ _, .same _ _ _⟩ ?_
  rintro i h1 ⟨q1, q2, mu1, im1, r1, k1, gr1⟩
  have ho1 := k1.row ho hq
  have hq1 : ¬ mu1 q := fun hm => by
    have := ho.lt
    rcases gr1.1 q hm with hh | hh
    · exact hq hh
    · omega
  have z1 := k1.size
  have wl := wrs_len (bws P ds i.toNat) m
  have bl : (bws P ds i.toNat).length = i.toNat := by simp [bws]
  have e1 : w64 (i * 252) = i * 252 := w64_id (by omega) (by omega)
  have e2 : w64 (i * 252 + 252) = i * 252 + 252 := w64_id (by omega) (by omega)
  rw [e1, e2]
  refine cnd_dec (fun hi => ?_) (fun hi => ?_)
  · have hik : i < k := by omega
    refine ldP_row (o := 0) ho1 rfl (ldI_row (o := 0 + 1) ho1 rfl ?_)
    have hmin : minI (l : Int) (i * 252 + 252) = min (l : Int) (i * 252 + 252) := by unfold minI; split <;> omega
    rw [hmin]
    have hb1 : Rb h1 a l ds := Rv.keep hb k1 hfar
    refine Rb.sub hb1 (by omega) (by omega) (by omega) (by omega) (by omega) ?_
    intro a2 w2 _
    obtain ⟨n, hn⟩ : ∃ n, n = (min (l : Int) (i * 252 + 252) - i * 252).toNat := ⟨_, rfl⟩
    have ep : (ds.drop (i * 252).toNat).take n = partD ds i.toNat := by
      unfold partD
      rw [show (i * 252).toNat = 252 * i.toNat by omega]
      by_cases h2 : n = 252
      · rw [h2]
      · rw [List.take_of_length_le (by rw [List.length_drop]; omega), List.take_of_length_le (by rw [List.length_drop]; omega)]
    rw [← hn] at w2 ⊢
    rw [ep] at w2
    refine sector_spec w2 (by omega) ?_
    intro h3 b3 k3 s3
    have ho3 := k3.row ho1 (fun h => h)
    refine ⟨ldI_row (o := 0 + 1) ho3 rfl rfl, ldP_row (o := 0) ho3 rfl rfl, ?_⟩
    have ew : w64 (w64 (fr + st) + i) = P + (i.toNat : Int) := by rw [w64_id (x := fr + st) (by omega) (by omega), w64_id (by omega) (by omega)]; omega
    rw [ew]
    refine Disk.write_spec (r1.keep k3 (fun _ _ h => h) (fun _ _ h => h)) (by unfold InI; omega) b3.bs (by rw [ofL_size, sectL_length (partD_length ds i.toNat)]; decide) (by omega) (fun b hb' hm => by
      rw [blk_some] at hb'
      have := r1.lt b (.inl hm)
      simp only at hb'
      omega) ?_
    intro mu4 im4 h4 r4 k4 gr4
    obtain ⟨a1, a2'⟩ := wa i.toNat (by omega)
    have hnext : wrs (bws P ds (i.toNat + 1)) m = write (wrs (bws P ds i.toNat) m).2 (P + (i.toNat : Int)) (ofL (sectL (partD ds i.toNat))) := by
      rw [bws_succ, wrs_snoc _ _ _ a1]
    rw [← hnext] at r4 ⊢
    refine cnd_f (by rw [(wa (i.toNat + 1) (by omega)).1]; rfl) ?_
    have hw : w64 (i + 1) = i + 1 := w64_id (by omega) (by omega)
    rw [hw]
    have r4' : Disk.Rep h4 p mu4 im4 (wrs (bws P ds (i + 1).toNat) m).2 := by rw [show (i + 1).toNat = i.toNat + 1 by omega]; exact r4
    have z3 := k3.size
    exact ⟨⟨by omega, by omega, mu4, im4, r4', keepTo (k1.trans k3 (fun _ _ h => h.elim)) gr1 k4, grewTo (by omega) gr1 gr4⟩, by omega⟩
  · have hik : i.toNat = k := by omega
    rw [hik] at r1 wl bl
    refine ldP_row (o := 0) ho1 rfl ?_
    refine flush_spec r1 (by omega) ?_
    intro h2 r2 k2
    have f0 : (flush (wrs (bws P ds k) m).2).1 = 0 := by rw [flush_alive0 (wa k (by omega)).2]
    rw [f0]
    refine hk mu1 im1 h2 ?_ (keepTo k1 gr1 k2) gr1
    unfold putM
    rw [← hlen, ← hkk]
    exact r2

end Blob
end Go.Proofs.Ytmkobpkdodgboaa
