/- Layer 5's own word Sector. -/
import Derived.Test.YtmkobpkdodgboaaPDiskC
import Derived.Test.YtmkobpkdodgboaaGLaw
namespace Go.Proofs.Ytmkobpkdodgboaa
open Go D
set_option linter.unusedVariables false
set_option linter.unusedSimpArgs false
namespace Disk

def secB (a b : Int) (i : Nat) : UInt8 := UInt8.ofNat ((w64 (w64 (a * i) + b)) % 256).toNat
def sector (a b : Int) : ByteArray := ⟨((List.range 256).map (secB a b)).toArray⟩
theorem sector_size (a b : Int) : (sector a b).size = 256 := by simp [sector, ByteArray.size]
theorem sector_bytes (a b : Int) : bytesV (sector a b) = (List.range 256).map fun i => byteV (secB a b i) := by simp [bytesV, sector, byteV, Function.comp_def]

theorem secB_v (a b : Int) (i : Nat) : Value.int .u8 (IntKind.u8.wrap (w64 (w64 (a * i) + b))) = byteV (secB a b i) := by
  unfold byteV secB
  rw [wrap_u8]
  congr 1
  have h1 : 0 ≤ (w64 (w64 (a * i) + b)) % 256 := Int.emod_nonneg _ (by decide)
  have h2 : (w64 (w64 (a * i) + b)) % 256 < 256 := Int.emod_lt_of_pos _ (by decide)
  have : (UInt8.ofNat ((w64 (w64 (a * i) + b)) % 256).toNat).toNat = ((w64 (w64 (a * i) + b)) % 256).toNat := by
    rw [UInt8.toNat_ofNat']
    apply Nat.mod_eq_of_lt
    omega
  rw [this]; omega

theorem sector_spec {h : Heap} {a b : Int} {R : Sl → Heap → Prop} (hk : ∀ h', Bs h' (some ⟨h.size, 0, none⟩) 256 256 (sector a b) → Keep (fun _ => False) h h' → h'.size = h.size + 1 → R ⟨some ⟨h.size, 0, none⟩, 256, 256⟩ h') :
    CallT Try.prog law5_Sector_no [.int .i64 a, .int .i64 b] h [.sc .sl] R := by
  apply law5_Sector_call
  simp only [law5_Sector]
  refine mkBytes (by decide) (by decide) ?_
  intro h1 s1 b1 k1
  refine LoopT.intro (fun j h' => 0 ≤ j ∧ j ≤ 256 ∧ SlR h' 1 (some ⟨h.size, 0, none⟩) 256 256 ((List.range 256).map fun i => if i < j.toNat then byteV (secB a b i) else .int .u8 0) ∧ Keep (fun _ => False) h h' ∧ h'.size = h.size + 1) (fun j _ => (256 - j).toNat) ⟨by omega, by omega, ?_, k1, s1⟩ ?_
  · have e : bytesV (noughts 256) = (List.range 256).map fun i => if i < (0 : Int).toNat then byteV (secB a b i) else .int .u8 0 := by
      rw [bytesV_noughts]
      apply List.ext_getElem?
      intro i
      rw [List.getElem?_replicate, List.getElem?_map]
      by_cases hi : i < 256
      · rw [if_pos hi, List.getElem?_range hi]; simp
      · rw [if_neg hi, List.getElem?_eq_none (by simp; omega)]; rfl
    rw [← e]
    exact b1
  · rintro j h2 ⟨q1, q2, q3, q4, q5⟩
    refine cnd_dec (fun hj => ?_) (fun hj => ?_)
    · refine idx_some q1 (by show j < ((256 : Int).toNat : Int); simp; omega) ?_
      rw [Nat.mul_one]
      refine q3.set (by omega) rfl ?_
      intro h3 s3 w1 k3
      rw [w64_id (x := j + 1) (by omega) (by omega)]
      refine ⟨⟨by omega, by omega, ?_, q4.trans k3 (fun y hy hb => by
        have : y = h.size := hb
        omega), by omega⟩, by omega⟩
      have hv := secB_v a b j.toNat
      rw [Int.toNat_of_nonneg q1] at hv
      rw [hv] at w1
      have e : ((List.range 256).map fun i => if i < j.toNat then byteV (secB a b i) else Value.int .u8 0).set j.toNat (byteV (secB a b j.toNat)) = (List.range 256).map fun i => if i < (j + 1).toNat then byteV (secB a b i) else .int .u8 0 := by
        apply List.ext_getElem?
        intro i
        rw [List.getElem?_set, List.length_map, List.length_range, List.getElem?_map, List.getElem?_map]
        by_cases hi : i < 256
        · rw [List.getElem?_range hi]
          by_cases hij : j.toNat = i
          · rw [if_pos hij, if_pos (by omega), ← hij]
            simp only [Option.map_some]
            rw [if_pos (by omega)]
          · rw [if_neg hij]
            simp only [Option.map_some]
            by_cases h4 : i < j.toNat
            · rw [if_pos h4, if_pos (by omega)]
            · rw [if_neg h4, if_neg (by omega)]
        · rw [if_neg (by omega), List.getElem?_eq_none (by simp; omega)]; rfl
      rw [← e]
      exact w1
    · have : j = 256 := by omega
      subst this
      refine hk h2 ?_ q4 q5
      unfold Bs
      rw [sector_bytes]
      have e : ((List.range 256).map fun i => if i < (256 : Int).toNat then byteV (secB a b i) else Value.int .u8 0) = (List.range 256).map fun i => byteV (secB a b i) := by
        apply List.map_congr_left
        intro i hi
        rw [List.mem_range] at hi
        rw [if_pos (by simpa using hi)]
      rw [← e]
      exact q3

end Disk
end Go.Proofs.Ytmkobpkdodgboaa
