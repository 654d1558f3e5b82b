/- Contracts: wal.frame. -/
import Derived.Test.YtmkobpkdodgboaaPWalB
namespace Go.Proofs.Ytmkobpkdodgboaa
open Go D
set_option linter.unusedVariables false
set_option linter.unusedSimpArgs false
namespace Wal
open Enc Hash Snap

def bodyL (e x : Nat) (pl : List UInt8) : List UInt8 := p64 e ++ p64 x ++ pl
theorem bodyL_length (e x : Nat) (pl : List UInt8) : (bodyL e x pl).length = 16 + pl.length := by simp [bodyL, p64_length]; omega
def frameL (e x : Nat) (pl : List UInt8) : List UInt8 := four pl.length ++ (be4W (crcF (bodyL e x pl)) ++ bodyL e x pl)
theorem frameL_length (e x : Nat) (pl : List UInt8) : (frameL e x pl).length = 24 + pl.length := by simp [frameL, bodyL_length, four, be4W]; omega
def frameF (e x : Nat) (pl : List UInt8) : List UInt8 := frameL e x pl ++ List.replicate (256 * secs pl.length - (24 + pl.length)) 0
theorem secs_le (l : Nat) : 24 + l ≤ 256 * secs l := by unfold secs; omega
theorem frameF_length (e x : Nat) (pl : List UInt8) : (frameF e x pl).length = 256 * secs pl.length := by
  have := secs_le pl.length
  simp only [frameF, List.length_append, frameL_length, List.length_replicate]
  omega
theorem four_be4W (x : W) : four x.toNat = be4W x := by
  simp [four, be4W, lowb]

theorem frame_spec {h : Heap} {a : Option Addr} {l c e x : Nat} {pl : List UInt8} (hb : Rb h a l pl) (hl : l ≤ 100000000) {R : Sl → Heap → Prop}
    (hk : ∀ s h', s.len = 256 * secs l → Bl h' s.a s.len s.cap (frameF e x pl) → (∀ b, blk s.a b → h.size ≤ b) → Keep (fun _ => False) h h' → R s h') :
    CallT Try.prog wal_frame_no [.int .u64 (e : Int), .int .u64 (x : Int), .slice a l c] h [.sc .sl] R := by
  have hcall := wal_frame_call (epoch_0 := (e : Int)) (number_1 := (x : Int)) (payload_2 := ⟨a, l, c⟩) (R := R) (h := h)
  apply hcall
  simp only [wal_frame]
  have hlen := hb.len
  have x8 : (p64 x).length = 8 := p64_length x
  refine put64_spec ?_
  intro h1 b1 k1 s1
  dsimp only
  refine put64_spec ?_
  intro h2 b2 k2 s2
  dsimp only
  refine b2.rb.rd ?_
  have b1' : Bl h2 (some ⟨h.size, 0, none⟩) 8 8 (p64 e) := SlR.keep b1 k2 (fun _ _ h => h)
  refine b1'.push (new := p64 x) (by omega) x8.symm rfl ?_
  intro a3 c3 h3 b3 k3 n3
  have f3 : ∀ b, blk a3 b → h.size ≤ b := fun b hb' => by
    rcases n3 b hb' with hh | hh
    · rw [blk_some] at hh; simp only at hh; omega
    · omega
  have k03 : Keep (fun _ => False) h h3 := (k1.trans' k2).trans k3 (fun y hy hb' => by rw [blk_some] at hb'; simp only at hb'; omega)
  have z3 := k3.size
  have hb3 : Rb h3 a l pl := Rv.keep hb k03 (fun _ _ _ h => h)
  refine hb3.rd ?_
  refine b3.push (new := pl) (by omega) hlen rfl ?_
  intro a4 c4 h4 b4 k4 n4
  have f4 : ∀ b, blk a4 b → h.size ≤ b := fun b hb' => by
    rcases n4 b hb' with hh | hh
    · exact f3 b hh
    · omega
  have k04 := k03.trans k4 (fun y hy hb' => by have := f3 y hb'; omega)
  have z4 := k4.size
  have b4' : Bl h4 a4 (8 + 8 + l) c4 (bodyL e x pl) := b4
  refine four_spec ?_
  intro h5 b5 k5 s5
  dsimp only
  have b45 : Bl h5 a4 (8 + 8 + l) c4 (bodyL e x pl) := SlR.keep b4' k5 (fun _ _ h => h)
  refine crc_spec b45.rb (by omega) ?_
  have ec : w64 (u (crcF (bodyL e x pl))) = (((crcF (bodyL e x pl)).toNat : Nat) : Int) := by
    have := (crcF (bodyL e x pl)).isLt
    unfold u
    exact w64_id (by omega) (by omega)
  rw [ec]
  refine four_spec ?_
  intro h6 b6 k6 s6
  dsimp only
  rw [four_be4W] at b6
  refine b6.rb.rd ?_
  have b56 : Bl h6 (some ⟨h4.size, 0, none⟩) 4 4 (four l) := SlR.keep b5 k6 (fun _ _ h => h)
  refine b56.push (new := be4W (crcF (bodyL e x pl))) (by omega) rfl rfl ?_
  intro a7 c7 h7 b7 k7 n7
  have z7 := k7.size
  have f7 : ∀ b, blk a7 b → h4.size ≤ b := fun b hb' => by
    rcases n7 b hb' with hh | hh
    · rw [blk_some] at hh; simp only at hh; omega
    · omega
  have b47 : Rb h7 a4 (8 + 8 + l) (bodyL e x pl) := (Rv.keep b45.rb k6 (fun _ _ _ h => h)).keep k7 (fun _ y hy hh => by
    rw [blk_some] at hh
    have := SlR.blk_lt b4' hy
    simp only at hh
    omega)
  refine b47.rd ?_
  refine b7.push (new := bodyL e x pl) (by omega) (by rw [bodyL_length]; omega) rfl ?_
  intro a8 c8 h8 b8 k8 n8
  have z8 := k8.size
  have f8 : ∀ b, blk a8 b → h4.size ≤ b := fun b hb' => by
    rcases n8 b hb' with hh | hh
    · exact f7 b hh
    · omega
  refine sectors_spec (by omega) ?_
  have hsl := secs_le l
  have hsu : secs l ≤ 1000000 := by unfold secs; omega
  have e1 : w64 ((secs l : Int) * 256) = secs l * 256 := w64_id (by omega) (by omega)
  have e2 : w64 ((secs l : Int) * 256 - (((4 : Nat) : Int) + ((4 : Nat) : Int) + (((8 : Nat) : Int) + ((8 : Nat) : Int) + (l : Int)))) = ((256 * secs l - (24 + l) : Nat) : Int) := by rw [w64_id (by omega) (by omega)]; omega
  rw [e1, e2]
  refine ⟨by omega, by omega, ?_⟩
  rw [Int.toNat_natCast]
  have zr : zerosL [.int .u8 0] (256 * secs l - (24 + l)) = (List.replicate (256 * secs l - (24 + l)) (0 : UInt8)).map byteV := by
    rw [zerosL_one, List.map_replicate]; rfl
  rw [zr]
  refine b8.push (new := List.replicate (256 * secs l - (24 + l)) 0) (by omega) (by rw [List.length_replicate]) rfl ?_
  intro a9 c9 h9 b9 k9 n9
  refine hk _ h9 (by show 4 + 4 + (8 + 8 + l) + (256 * secs l - (24 + l)) = _; omega) ?_ (fun b hb' => ?_) ?_
  · have e : four l ++ be4W (crcF (bodyL e x pl)) ++ bodyL e x pl ++ List.replicate (256 * secs l - (24 + l)) 0 = frameF e x pl := by
      unfold frameF frameL
      rw [← hlen]
      simp
    rw [← e]
    exact b9
  · have z04 := k04.size
    rcases n9 b hb' with hh | hh
    · have := f8 b hh; omega
    · omega
  · have z04 := k04.size
    refine (((((k04.trans' k5).trans' k6).trans k7 (fun y hy hb' => ?_))).trans k8 (fun y hy hb' => ?_)).trans k9 (fun y hy hb' => ?_)
    · rw [blk_some] at hb'
      simp only at hb'
      omega
    · have := f7 y hb'; omega
    · have := f8 y hb'; omega

end Wal
end Go.Proofs.Ytmkobpkdodgboaa
