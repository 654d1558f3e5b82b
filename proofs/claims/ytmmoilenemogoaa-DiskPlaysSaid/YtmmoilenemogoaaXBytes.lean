/- Slices of bytes, strings. -/
import Derived.Test.YtmmoilenemogoaaXSlice
namespace Go.Proofs.Ytmmoilenemogoaa.D
open Go
set_option linter.unusedVariables false
set_option linter.unusedSimpArgs false

def byteV (b : UInt8) : Value := .int .u8 (b.toNat : Int)

theorem bytesV_eq (s : ByteArray) : bytesV s = s.data.toList.map byteV := rfl
theorem bytesV_length (s : ByteArray) : (bytesV s).length = s.size := by simp [bytesV]
theorem bytesV_one (s : ByteArray) : ∀ v ∈ bytesV s, v.oneCell' = true := by
  intro v hv
  obtain ⟨b, _, rfl⟩ := List.mem_map.1 hv
  rfl

theorem byteV_inj {a b : UInt8} (h : byteV a = byteV b) : a = b := by
  unfold byteV at h
  injection h with _ h
  exact UInt8.toNat_inj.1 (by omega)

theorem bytesV_inj {s t : ByteArray} (h : bytesV s = bytesV t) : s = t := by
  have : s.data.toList = t.data.toList := (List.map_inj_right (fun _ _ => byteV_inj)).1 h
  cases s with | mk x => cases t with | mk y => congr; exact Array.toList_inj.1 this

theorem seq_self (s : ByteArray) : seq s s = true := by simp [seq]
theorem seq_iff {s t : ByteArray} : seq s t = true ↔ s = t := by
  constructor
  · intro h
    unfold seq at h
    have h2 := eq_of_beq h
    rw [ByteArray.toList_eq, ByteArray.toList_eq] at h2
    cases s with | mk x => cases t with | mk y => congr; exact Array.toList_inj.1 h2
  · rintro rfl; exact seq_self _
theorem seq_false {s t : ByteArray} (h : s ≠ t) : seq s t = false := by
  cases hb : seq s t with
  | false => rfl
  | true => exact absurd (seq_iff.1 hb) h

/-- a slice of bytes that holds s -/
def Bs (h : Heap) (a : Option Addr) (l c : Nat) (s : ByteArray) : Prop := SlR h 1 a l c (bytesV s)

section
variable {h h' : Heap} {a : Option Addr} {l c : Nat} {s : ByteArray}

theorem Bs.len (hb : Bs h a l c s) : l = s.size := by
  have := SlR.len hb
  rw [bytesV_length] at this; omega

theorem Bs.keep {S : Nat → Prop} (hb : Bs h a l c s) (hk : Keep S h h') (hn : ∀ b, blk a b → ¬ S b) : Bs h' a l c s := SlR.keep hb hk hn

theorem Bs.str (hb : Bs h a l c s) {K : ByteArray → Prop} (hk : K s) : b2s a l h K := by
  have hl := hb.len
  cases a with
  | none =>
    rcases hb with ⟨_, e1, _, e2⟩ | ⟨_, _, _, e, _⟩
    · have : s = ByteArray.empty := bytesV_inj (by rw [e2]; rfl)
      subst this
      exact hk
    · cases e
  | some x =>
    refine ⟨s.data.toList, by rw [hl]; rfl, ?_, hk⟩
    intro i v hv
    have hi : i < s.size := by
      have := (List.getElem?_eq_some_iff.1 hv).1
      exact this
    rw [SlR.cell hb (by omega), bytesV_eq, List.getElem?_map, hv]
    rfl

theorem Bs.at (hb : Bs h a l c s) {i : Int} (h0 : 0 ≤ i) (h1 : i < l) {K : Int → Prop} (hk : ∀ b, s.data.toList[i.toNat]? = some b → K (b.toNat : Int)) : idx a l i fun x => ldI .u8 (x.add (i.toNat * 1)) h K := by
  have hl := hb.len
  refine SlR.idx hb h0 h1 fun x hx hsp => ?_
  subst hx
  have hi : i.toNat < s.data.toList.length := by
    have : s.data.toList.length = s.size := rfl
    omega
  refine ldI_at (n := ((s.data.toList[i.toNat]).toNat : Int)) ?_ (hk _ (List.getElem?_eq_getElem hi))
  rw [Nat.mul_one, SlR.cell hb (by omega), bytesV_eq, List.getElem?_map, List.getElem?_eq_getElem hi]
  rfl

theorem s2b_row {e : TypeId} {K : Addr → Nat → Heap → Prop} (hs : s.size ≤ 9223372036854775807) (hk : ∀ c h', Bs h' (some ⟨h.size, 0, none⟩) s.size c s → Keep (fun _ => False) h h' → h'.size = h.size + 1 → K ⟨h.size, 0, none⟩ c h') : s2b s e h K := by
  refine ⟨hs, fun c h1 h2 => hk c _ ?_ (keep_push h _) (by simp)⟩
  refine .inr ⟨h.size, 0, bytesV s ++ List.replicate (c - s.size) (.int .u8 0), rfl, ?_, h1, ?_, ?_, ?_⟩
  · refine ⟨e, c, c + 1, by simp, ?_⟩
    intro o ho
    rw [List.length_append, bytesV_length, List.length_replicate] at ho
    omega
  · rw [List.length_append, bytesV_length, List.length_replicate]; omega
  · rw [bytesV_length]; omega
  · rw [List.drop_zero, Nat.mul_one, ← bytesV_length, List.take_left']
    rfl
end

/-- n noughts -/
def noughts (n : Nat) : ByteArray := ⟨(List.replicate n (0 : UInt8)).toArray⟩
theorem noughts_size (n : Nat) : (noughts n).size = n := by simp [noughts, ByteArray.size]
theorem bytesV_noughts (n : Nat) : bytesV (noughts n) = List.replicate n (.int .u8 0) := by simp [bytesV, noughts]

/-- a new slice of noughts -/
theorem mkBytes {h : Heap} {e : TypeId} {n : Int} {K : Addr → Heap → Prop} (h0 : 0 ≤ n) (h1 : n ≤ 281474976710656)
    (hk : ∀ h', h'.size = h.size + 1 → Bs h' (some ⟨h.size, 0, none⟩) n.toNat n.toNat (noughts n.toNat) → Keep (fun _ => False) h h' → K ⟨h.size, 0, none⟩ h') : mkSl [.int .u8 0] e 1 n n h K := by
  refine mkSl_row h0 (Int.le_refl _) h1 (by omega) ?_
  intro h' s1 r1 k1
  refine hk h' s1 (.inr ⟨h.size, 0, _, rfl, r1, Nat.le_refl _, ?_, ?_, ?_⟩) k1
  · rw [zerosL_one]; simp
  · rw [bytesV_noughts]; simp
  · rw [zerosL_one, bytesV_noughts]; simp

/-- slices that hold the same cells as another: cells written over from the front -/
theorem SlR.over {h : Heap} {n : Nat} {x : Addr} {l c : Nat} {vs new : List Value} {K : Heap → Prop} (hs : SlR h n (some x) l c vs) (hl : new.length ≤ l * n) (hv : ∀ v ∈ new, v.oneCell' = true)
    (hk : ∀ h', h'.size = h.size → SlR h' n (some x) l c (new ++ vs.drop new.length) → Keep (· = x.block) h h' → K h') : wrRow new (some x) h K := by
  rcases hs with ⟨h1, _⟩ | ⟨b, o, cs, h1, h2, h3, h4, h5, h6⟩
  · cases h1
  · injection h1 with h1
    subst h1
    have hln : l * n ≤ c * n := Nat.mul_le_mul_right _ h3
    show stRow new _ h K
    refine stRow_row h2 (by omega) hv ?_
    intro h' q1 q2 q3
    refine hk h' q1 (.inr ⟨b, o, _, rfl, q2, h3, ?_, ?_, ?_⟩) q3
    · rw [putL_length (by omega)]; exact h4
    · rw [List.length_append, List.length_drop, h5]; omega
    · subst h6
      apply List.ext_getElem?
      intro j
      rw [take_drop_get, getElem?_putL (by omega), if_neg (show ¬ o + j < o by omega)]
      by_cases hj : j < new.length
      · rw [if_pos (show j < l * n by omega), if_pos (show o + j < o + new.length by omega), List.getElem?_append_left hj]
        congr 1; omega
      · rw [List.getElem?_append_right (by omega), List.getElem?_drop, take_drop_get]
        by_cases hj2 : j < l * n
        · rw [if_pos hj2, if_neg (show ¬ o + j < o + new.length by omega), if_pos (show new.length + (j - new.length) < l * n by omega)]
          congr 1; omega
        · rw [if_neg hj2, if_neg (show ¬ new.length + (j - new.length) < l * n by omega)]

end Go.Proofs.Ytmmoilenemogoaa.D
