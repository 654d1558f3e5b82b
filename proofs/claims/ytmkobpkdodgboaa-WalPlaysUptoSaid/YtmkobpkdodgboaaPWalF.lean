/- Contracts: a log's write, Append, Next, Room; layer 6's awake. -/
import Derived.Test.YtmkobpkdodgboaaPWalE
import Derived.Test.YtmkobpkdodgboaaPCommit
import Derived.Test.YtmkobpkdodgboaaGLawW
namespace Go.Proofs.Ytmkobpkdodgboaa
open Go D
set_option linter.unusedVariables false
set_option linter.unusedSimpArgs false
namespace Wal
open Disk Enc Hash Snap

def chunk (F : List UInt8) (i : Nat) : ByteArray := ofL ((F.drop (256 * i)).take 256)
/-- the writes of a frame's later sectors -/
def fws (P : Int) (F : List UInt8) (k : Nat) : List (Int × ByteArray) := (List.range (k - 1)).map fun (j : Nat) => (P + 1 + (j : Int), chunk F (j + 1))
theorem fws_succ (P : Int) (F : List UInt8) (k : Nat) (hk : 1 ≤ k) : fws P F (k + 1) = fws P F k ++ [(P + (k : Int), chunk F k)] := by
  unfold fws
  rw [show k + 1 - 1 = (k - 1) + 1 by omega, List.range_succ, List.map_append]
  simp only [List.map_cons, List.map_nil]
  rw [show k - 1 + 1 = k by omega, show P + 1 + ((k - 1 : Nat) : Int) = P + (k : Int) by omega]
def frest (P : Int) (F : List UInt8) : Nat → Nat → List (Int × ByteArray)
  | _, 0 => []
  | i, d + 1 => (P + (i : Int), chunk F i) :: frest P F (i + 1) d
theorem fws_split (P : Int) (F : List UInt8) : ∀ (d i : Nat), 1 ≤ i → fws P F (i + d) = fws P F i ++ frest P F i d
  | 0, i, _ => by simp [frest]
  | d + 1, i, hi => by
    rw [show i + (d + 1) = (i + 1) + d by omega, fws_split P F d (i + 1) (by omega), fws_succ P F i hi]
    simp [frest]
/-- all but the head -/
def aws (L : Lg) (F : List UInt8) (k : Nat) : List (Int × ByteArray) := fws (L.fr + L.pos) F k ++ (if L.pos + (k : Int) < L.n then [(L.fr + L.pos + (k : Int), noughts 256)] else [])

theorem write_spec {mu im : Nat → Prop} {h : Heap} {p q : Nat} {m : M} {L : Lg} (hr : Disk.Rep h p mu im m) (hc : m.c.length ≤ 800000) (ho : Row h q (LRow p L)) (hq : ¬ mu q) (g0 : 0 ≤ L.fr) (g1 : 0 ≤ L.pos) (g3 : L.fr ≤ 100000 ∧ L.pos ≤ 100000) (g4 : -100000 ≤ L.n ∧ L.n ≤ 100000)
    {a : Option Addr} {l c k : Nat} {F : List UInt8} (hb : Bl h a l c F) (hk1 : 1 ≤ k) (hk2 : k ≤ 10000) (hl : l = 256 * k) (hfar : ∀ b, blk a b → ¬ mu b) {R : Int → Heap → Prop}
    (hk : ∀ mu' im' h', Disk.Rep h' p mu' im' (commitM m (aws L F k) (L.fr + L.pos, chunk F 0)).2 → Keep mu h h' → Grew h mu im mu' im' → R (commitM m (aws L F k) (L.fr + L.pos, chunk F 0)).1 h') :
    CallT Try.prog wal_Log_write_no [.pointer (some ⟨q, 0, none⟩), .slice a l c] h [.sc (.int .i64)] R := by
  have hcall := wal_Log_write_call (x_0 := some ⟨q, 0, none⟩) (x_1 := ⟨a, l, c⟩) (R := R) (h := h)
  apply hcall
  simp only [wal_Log_write, nn_eq]
  rw [add_mk, add_mk, add_mk]
  have hcap := SlR.le hb
  obtain ⟨P, hP⟩ : ∃ P, P = L.fr + L.pos := ⟨_, rfl⟩
  have ew : w64 (L.fr + L.pos) = P := by rw [w64_id (by omega) (by omega)]; exact hP.symm
  have ek : w64 ((l : Int).tdiv 256) = k := by rw [Int.tdiv_eq_ediv_of_nonneg (by omega), w64_id (by omega) (by omega)]; omega
  rw [ek]
  rw [← hP] at hk
  have hlF := hb.len
  -- a part of the frame
  have csz : ∀ i, i < k → (chunk F i).size = 256 := fun i hi => by
    unfold chunk
    show (List.toArray _).size = 256
    rw [List.size_toArray, List.length_take, List.length_drop]
    omega
  have keep1 : ∀ {mu1 im1 : Nat → Prop} {hA hB : Heap}, Keep mu h hA → Grew h mu im mu1 im1 → Keep mu1 hA hB → Keep mu h hB := fun kA gA kB => kA.trans kB (fun y hy hm => by
    rcases gA.1 y hm with hh | hh
    · exact hh
    · omega)
  have grow : ∀ {mu1 im1 mu2 im2 : Nat → Prop} {hA : Heap}, h.size ≤ hA.size → Grew h mu im mu1 im1 → Grew hA mu1 im1 mu2 im2 → Grew h mu im mu2 im2 := fun hz gA gB => ⟨fun b hb => by
    rcases gB.1 b hb with hh | hh
    · exact gA.1 b hh
    · right; omega, fun b hb => by
    rcases gB.2 b hb with hh | hh
    · exact gA.2 b hh
    · right; omega⟩
  refine LoopT.intro (fun i h' => 1 ≤ i ∧ i ≤ k ∧ (wrs (fws P F i.toNat) m).1 = 0 ∧ ∃ mu' im', Disk.Rep h' p mu' im' (wrs (fws P F i.toNat) m).2 ∧ Keep mu h h' ∧ Grew h mu im mu' im') (fun i _ => ((k : Int) - i).toNat)
    ⟨by omega, by omega, rfl, mu, im, hr, .refl _ _, .same _ _ _⟩ ?_
  rintro i h1 ⟨q1, q2, q3, mu1, im1, r1, k1, gr1⟩
  have ho1 := k1.row ho hq
  have hb1 : Bl h1 a l c F := SlR.keep hb k1 hfar
  have hfar1 : ∀ b, blk a b → ¬ mu1 b := fun b hb' hm => by
    have := SlR.blk_lt hb hb'
    rcases gr1.1 b hm with hh | hh
    · exact hfar b hb' hh
    · omega
  have hq1 : ¬ mu1 q := fun hm => by
    have := ho.lt
    rcases gr1.1 q hm with hh | hh
    · exact hq hh
    · omega
  have z1 := k1.size
  have wl := wrs_len (fws P F i.toNat) m
  have fl : (fws P F i.toNat).length = i.toNat - 1 := by simp [fws]
  have hwi : w64 (i * 256) = i * 256 := w64_id (by omega) (by omega)
  have hwi2 : w64 (i * 256 + 256) = i * 256 + 256 := w64_id (by omega) (by omega)
  have aeq : aws L F k = fws P F k ++ (if L.pos + (k : Int) < L.n then [(P + (k : Int), noughts 256)] else []) := by unfold aws; rw [← hP]
  refine cnd_dec (fun hi => ?_) (fun hi => ?_)
  · refine ldP_row (o := 0) ho1 rfl (ldI_row (o := 0 + 1) ho1 rfl (ldI_row (o := 0 + 5) ho1 rfl ?_))
    rw [hwi, hwi2]
    refine SlR.sub hb1 (by omega) (by omega) (by omega) (by show i * 256 + 256 ≤ (c : Int); omega) (by omega) ?_
    intro a2 w2 hb2
    rw [show (i * 256 + 256 - i * 256).toNat = 256 by omega] at w2 ⊢
    have ew2 : w64 (w64 (L.fr + L.pos) + i) = P + (i.toNat : Int) := by rw [ew, w64_id (by omega) (by omega)]; omega
    rw [ew2]
    have w2' : Bl h1 a2 256 ((c : Int) - i * 256).toNat ((F.drop (256 * i.toNat)).take 256) := by
      unfold Bl
      rw [List.map_take, List.map_drop, show 256 * i.toNat = (i * 256).toNat by omega]
      exact w2
    refine Disk.write_spec r1 (by unfold InI; omega) w2'.bs (by rw [show ofL ((F.drop (256 * i.toNat)).take 256) = chunk F i.toNat from rfl, csz _ (by omega)]; omega) (by omega) (fun b hb' => hfar1 b (hb2 b hb')) ?_
    intro mu3 im3 h3 r3 k3 gr3
    have hnext : wrs (fws P F (i.toNat + 1)) m = write (wrs (fws P F i.toNat) m).2 (P + (i.toNat : Int)) (chunk F i.toNat) := by
      rw [fws_succ P F i.toNat (by omega), wrs_snoc _ _ _ q3]
    rw [show ofL ((F.drop (256 * i.toNat)).take 256) = chunk F i.toNat from rfl, ← hnext] at r3 ⊢
    have k03 := keep1 k1 gr1 k3
    have g03 := grow z1 gr1 gr3
    refine cnd_of (fun hne => ?_) (fun heq => ?_)
    · have hne' : (wrs (fws P F (i.toNat + 1)) m).1 ≠ 0 := by simpa using hne
      have e : commitM m (aws L F k) (P, chunk F 0) = wrs (fws P F (i.toNat + 1)) m := by
        have e1 : wrs (aws L F k) m = wrs (fws P F (i.toNat + 1)) m := by
          rw [aeq, show k = (i.toNat + 1) + (k - (i.toNat + 1)) by omega, fws_split P F _ _ (by omega), List.append_assoc, wrs_stop hne']
        unfold commitM
        rw [e1, if_pos hne']
      rw [e] at hk
      exact hk mu3 im3 h3 r3 k03 g03
    · have heq' : (wrs (fws P F (i.toNat + 1)) m).1 = 0 := by simpa using heq
      have hw : w64 (i + 1) = i + 1 := w64_id (by omega) (by omega)
      show (1 ≤ w64 (i + 1) ∧ w64 (i + 1) ≤ k ∧ (wrs (fws P F (w64 (i + 1)).toNat) m).1 = 0 ∧ ∃ mu' im', Disk.Rep h3 p mu' im' (wrs (fws P F (w64 (i + 1)).toNat) m).2 ∧ Keep mu h h3 ∧ Grew h mu im mu' im') ∧ ((k : Int) - w64 (i + 1)).toNat < ((k : Int) - i).toNat
      rw [hw, show (i + 1).toNat = i.toNat + 1 by omega]
      exact ⟨⟨by omega, by omega, heq', mu3, im3, r3, k03, g03⟩, by omega⟩
  · have hik : i.toNat = k := by omega
    rw [hik] at q3 r1 wl fl
    -- the end: all but the head is written
    have fin : ∀ {mu2 im2 : Nat → Prop} {h2 : Heap}, (wrs (aws L F k) m).1 = 0 → Disk.Rep h2 p mu2 im2 (wrs (aws L F k) m).2 → Keep mu h h2 → Grew h mu im mu2 im2 →
        ldP ⟨q, 0, none⟩ h2 fun p17 => CallT Try.prog disk_Dev_Flush_no [.pointer p17] h2 [.sc (.int .i64)] fun (r18 : Int) h19 => cnd (r18 != 0) (R r18 h19) (
          ldP ⟨q, 0, none⟩ h19 fun p21 => ldI .i64 ⟨q, 0 + 1, none⟩ h19 fun n23 => ldI .i64 ⟨q, 0 + 5, none⟩ h19 fun n25 => lsl 1 a c 0 256 (c : Int) fun o26 l26 c26 =>
          CallT Try.prog disk_Dev_Write_no [.pointer p21, .int .i64 (w64 (n23 + n25)), .slice o26 l26 c26] h19 [.sc (.int .i64)] fun (r27 : Int) h28 => cnd (r27 != 0) (R r27 h28) (
          ldP ⟨q, 0, none⟩ h28 fun p30 => CallT Try.prog disk_Dev_Flush_no [.pointer p30] h28 [.sc (.int .i64)] fun (r31 : Int) h32 => R r31 h32)) := by
      intro mu2 im2 h2 hz r2 k2 gr2
      have wl2 := wrs_len (aws L F k) m
      have al : (aws L F k).length ≤ k := by
        rw [aeq, List.length_append, fl]
        split <;> simp <;> omega
      have ho2 := k2.row ho hq
      have hq2 : ¬ mu2 q := fun hm => by
        have := ho.lt
        rcases gr2.1 q hm with hh | hh
        · exact hq hh
        · omega
      unfold commitM at hk
      rw [if_neg (Classical.not_not.2 hz)] at hk
      refine ldP_row (o := 0) ho2 rfl ?_
      refine flush_spec r2 (by omega) ?_
      intro h3 r3 k3
      have k03 := keep1 k2 gr2 k3
      have fln := flush_len (wrs (aws L F k) m).2
      refine cnd_of (fun hne => ?_) (fun heq => ?_)
      · have hne' : (flush (wrs (aws L F k) m).2).1 ≠ 0 := by simpa using hne
        rw [if_pos hne'] at hk
        exact hk mu2 im2 h3 r3 k03 gr2
      have heq' : (flush (wrs (aws L F k) m).2).1 = 0 := by simpa using heq
      rw [if_neg (Classical.not_not.2 heq')] at hk
      have ho3 := k3.row ho2 hq2
      refine ldP_row (o := 0) ho3 rfl (ldI_row (o := 0 + 1) ho3 rfl (ldI_row (o := 0 + 5) ho3 rfl ?_))
      have hb3 : Bl h3 a l c F := SlR.keep hb k03 hfar
      refine SlR.sub hb3 (by omega) (by omega) (by omega) (by show (256 : Int) ≤ (c : Int); omega) (by omega) ?_
      intro a4 w4 hb4
      rw [ew]
      have w4' : Bl h3 a4 256 ((c : Int) - 0).toNat ((F.drop (256 * 0)).take 256) := by
        unfold Bl
        rw [List.map_take, List.map_drop]
        exact w4
      have hfar2 : ∀ b, blk a4 b → ¬ mu2 b := fun b hb' hm => by
        have := SlR.blk_lt hb (hb4 b hb')
        rcases gr2.1 b hm with hh | hh
        · exact hfar b (hb4 b hb') hh
        · omega
      refine Disk.write_spec r3 (by unfold InI; omega) w4'.bs (by rw [show ofL ((F.drop (256 * 0)).take 256) = chunk F 0 from rfl, csz _ (by omega)]; omega) (by omega) hfar2 ?_
      intro mu5 im5 h5 r5 k5 gr5
      rw [show ofL ((F.drop (256 * 0)).take 256) = chunk F 0 from rfl] at r5 ⊢
      have k05 := keep1 k03 gr2 k5
      have z3 := k03.size
      have g05 := grow z3 gr2 gr5
      have wln := write_len (flush (wrs (aws L F k) m).2).2 P (chunk F 0)
      refine cnd_of (fun hne => ?_) (fun heq2 => ?_)
      · have hne' : (write (flush (wrs (aws L F k) m).2).2 P (chunk F 0)).1 ≠ 0 := by simpa using hne
        rw [if_pos hne'] at hk
        exact hk mu5 im5 h5 r5 k05 g05
      have heq2' : (write (flush (wrs (aws L F k) m).2).2 P (chunk F 0)).1 = 0 := by simpa using heq2
      rw [if_neg (Classical.not_not.2 heq2')] at hk
      have ho5 := k5.row ho3 hq2
      refine ldP_row (o := 0) ho5 rfl ?_
      refine flush_spec r5 (by omega) ?_
      intro h6 r6 k6
      exact hk mu5 im5 h6 r6 (keep1 k05 g05 k6) g05
    refine withJ.inl ?_
    refine ldI_row (o := 0 + 5) ho1 rfl (ldI_row (o := 0 + 2) ho1 rfl ?_)
    have ewk : w64 (L.pos + (k : Int)) = L.pos + k := w64_id (by omega) (by omega)
    rw [ewk]
    refine cnd_dec (fun hlt => ?_) (fun hge => ?_)
    · have a1 : aws L F k = fws P F k ++ [(P + (k : Int), noughts 256)] := by rw [aeq, if_pos hlt]
      refine ldP_row (o := 0) ho1 rfl (ldI_row (o := 0 + 1) ho1 rfl (ldI_row (o := 0 + 5) ho1 rfl ?_))
      refine mkBytes (by decide) (by decide) ?_
      intro h2 s2 b2 k2
      have ho2 := k2.row ho1 (fun h => h)
      refine ⟨ldI_row (o := 0 + 5) ho2 rfl rfl, ldI_row (o := 0 + 1) ho2 rfl rfl, ldP_row (o := 0) ho2 rfl rfl, ?_⟩
      have ewp : w64 (w64 (L.fr + L.pos) + (k : Int)) = P + k := by rw [ew, w64_id (by omega) (by omega)]
      rw [ewp]
      refine Disk.write_spec (r1.keep k2 (fun _ _ h => h) (fun _ _ h => h)) (by unfold InI; omega) b2 (by rw [noughts_size]; decide) (by omega) (fun b hb' hm => by
        rw [blk_some] at hb'
        have := r1.lt b (.inl hm)
        simp only at hb'
        omega) ?_
      intro mu3 im3 h3 r3 k3 gr3
      have hnext : wrs (aws L F k) m = write (wrs (fws P F k) m).2 (P + (k : Int)) (noughts 256) := by rw [a1, wrs_snoc _ _ _ q3]
      replace r3 : Disk.Rep h3 p mu3 im3 (write (wrs (fws P F k) m).2 (P + (k : Int)) (noughts 256)).2 := r3
      show cnd ((write (wrs (fws P F k) m).2 (P + (k : Int)) (noughts 256)).1 != 0) _ _
      rw [← hnext] at r3 ⊢
      have z2 := k2.size
      have k03 := keep1 (k1.trans k2 (fun _ _ h => h.elim)) gr1 k3
      have g03 := grow (by omega) gr1 gr3
      refine cnd_of (fun hne => ?_) (fun heq => ?_)
      · have hne' : (wrs (aws L F k) m).1 ≠ 0 := by simpa using hne
        have e : commitM m (aws L F k) (P, chunk F 0) = wrs (aws L F k) m := by
          unfold commitM
          rw [if_pos hne']
        rw [e] at hk
        have := hk mu3 im3 h3 r3 k03 g03
        rw [hnext] at this
        exact this
      · exact fin (by simpa using heq) r3 k03 g03
    · have a1 : aws L F k = fws P F k := by rw [aeq, if_neg hge, List.append_nil]
      exact fin (by rw [a1]; exact q3) (by rw [a1]; exact r1) k1 gr1

end Wal
end Go.Proofs.Ytmkobpkdodgboaa
