/- Slices of bytes, strings. -/
import Derived.Test.YtkgocfaajfaidaaXSlice
namespace Go.Proofs.Ytkgocfaajfaidaa.D
open Go
set_option linter.unusedVariables false
set_option linter.unusedSimpArgs false

def byteV (b : UInt8) : Value := .int .u8 (b.toNat : Int)

theorem bytesV_eq (s : ByteArray) : bytesV s = s.data.toList.map byteV := rfl
theorem bytesV_length (s : ByteArray) : (bytesV s).length = s.size := by simp [bytesV]
theorem bytesV_one (s : ByteArray) : ∀ v ∈ bytesV s, v.oneCell' = true := by
  intro v hv
  obtain ⟨b, _, rfl⟩ := List.mem_map.1 hv
  rfl

theorem byteV_inj {a b : UInt8} (h : byteV a = byteV b) : a = b := by
  unfold byteV at h
  injection h with _ h
  exact UInt8.toNat_inj.1 (by omega)

theorem bytesV_inj {s t : ByteArray} (h : bytesV s = bytesV t) : s = t := by
  have : s.data.toList = t.data.toList := (List.map_inj_right (fun _ _ => byteV_inj)).1 h
  cases s with | mk x => cases t with | mk y => congr; exact Array.toList_inj.1 this

theorem seq_self (s : ByteArray) : seq s s = true := by simp [seq]
theorem seq_iff {s t : ByteArray} : seq s t = true ↔ s = t := by
  constructor
  · intro h
    unfold seq at h
    have h2 := eq_of_beq h
    rw [ByteArray.toList_eq, ByteArray.toList_eq] at h2
    cases s with | mk x => cases t with | mk y => congr; exact Array.toList_inj.1 h2
  · rintro rfl; exact seq_self _
theorem seq_false {s t : ByteArray} (h : s ≠ t) : seq s t = false := by
  cases hb : seq s t with
  | false => rfl
  | true => exact absurd (seq_iff.1 hb) h

/-- a slice of bytes that holds s -/
def Bs (h : Heap) (a : Option Addr) (l c : Nat) (s : ByteArray) : Prop := SlR h 1 a l c (bytesV s)

section
variable {h h' : Heap} {a : Option Addr} {l c : Nat} {s : ByteArray}

theorem Bs.len (hb : Bs h a l c s) : l = s.size := by
  have := SlR.len hb
  rw [bytesV_length] at this; omega

theorem Bs.keep {S : Nat → Prop} (hb : Bs h a l c s) (hk : Keep S h h') (hn : ∀ b, blk a b → ¬ S b) : Bs h' a l c s := SlR.keep hb hk hn

theorem Bs.str (hb : Bs h a l c s) {K : ByteArray → Prop} (hk : K s) : b2s a l h K := by
  have hl := hb.len
  cases a with
  | none =>
    rcases hb with ⟨_, e1, _, e2⟩ | ⟨_, _, _, e, _⟩
    · have : s = ByteArray.empty := bytesV_inj (by rw [e2]; rfl)
      subst this
      exact hk
    · cases e
  | some x =>
    refine ⟨s.data.toList, by rw [hl]; rfl, ?_, hk⟩
    intro i v hv
    have hi : i < s.size := by
      have := (List.getElem?_eq_some_iff.1 hv).1
      exact this
    rw [SlR.cell hb (by omega), bytesV_eq, List.getElem?_map, hv]
    rfl

theorem Bs.at (hb : Bs h a l c s) {i : Int} (h0 : 0 ≤ i) (h1 : i < l) {K : Int → Prop} (hk : ∀ b, s.data.toList[i.toNat]? = some b → K (b.toNat : Int)) : idx a l i fun x => ldI .u8 (x.add (i.toNat * 1)) h K := by
  have hl := hb.len
  refine SlR.idx hb h0 h1 fun x hx hsp => ?_
  subst hx
  have hi : i.toNat < s.data.toList.length := by
    have : s.data.toList.length = s.size := rfl
    omega
  refine ldI_at (n := ((s.data.toList[i.toNat]).toNat : Int)) ?_ (hk _ (List.getElem?_eq_getElem hi))
  rw [Nat.mul_one, SlR.cell hb (by omega), bytesV_eq, List.getElem?_map, List.getElem?_eq_getElem hi]
  rfl

theorem s2b_row {e : TypeId} {K : Addr → Nat → Heap → Prop} (hs : s.size ≤ 9223372036854775807) (hk : ∀ c h', Bs h' (some ⟨h.size, 0, none⟩) s.size c s → Keep (fun _ => False) h h' → h'.size = h.size + 1 → K ⟨h.size, 0, none⟩ c h') : s2b s e h K := by
  refine ⟨hs, fun c h1 h2 => hk c _ ?_ (keep_push h _) (by simp)⟩
  refine .inr ⟨h.size, 0, bytesV s ++ List.replicate (c - s.size) (.int .u8 0), rfl, ?_, h1, ?_, ?_, ?_⟩
  · refine ⟨e, c, c + 1, by simp, ?_⟩
    intro o ho
    rw [List.length_append, bytesV_length, List.length_replicate] at ho
    omega
  · rw [List.length_append, bytesV_length, List.length_replicate]; omega
  · rw [bytesV_length]; omega
  · rw [List.drop_zero, Nat.mul_one, ← bytesV_length, List.take_left']
    rfl
end

/-- n noughts -/
def noughts (n : Nat) : ByteArray := ⟨(List.replicate n (0 : UInt8)).toArray⟩
theorem noughts_size (n : Nat) : (noughts n).size = n := by simp [noughts, ByteArray.size]
theorem bytesV_noughts (n : Nat) : bytesV (noughts n) = List.replicate n (.int .u8 0) := by simp [bytesV, noughts]

/-- a new slice of noughts -/
theorem mkBytes {h : Heap} {e : TypeId} {n : Int} {K : Addr → Heap → Prop} (h0 : 0 ≤ n) (h1 : n ≤ 281474976710656)
    (hk : ∀ h', h'.size = h.size + 1 → Bs h' (some ⟨h.size, 0, none⟩) n.toNat n.toNat (noughts n.toNat) → Keep (fun _ => False) h h' → K ⟨h.size, 0, none⟩ h') : mkSl [.int .u8 0] e 1 n n h K := by
  refine mkSl_row h0 (Int.le_refl _) h1 (by omega) ?_
  intro h' s1 r1 k1
  refine hk h' s1 (.inr ⟨h.size, 0, _, rfl, r1, Nat.le_refl _, ?_, ?_, ?_⟩) k1
  · rw [zerosL_one]; simp
  · rw [bytesV_noughts]; simp
  · rw [zerosL_one, bytesV_noughts]; simp

/-- slices that hold the same cells as another: cells written over from the front -/
theorem SlR.over {h : Heap} {n : Nat} {x : Addr} {l c : Nat} {vs new : List Value} {K : Heap → Prop} (hs : SlR h n (some x) l c vs) (hl : new.length ≤ l * n) (hv : ∀ v ∈ new, v.oneCell' = true)
    (hk : ∀ h', h'.size = h.size → SlR h' n (some x) l c (new ++ vs.drop new.length) → Keep (· = x.block) h h' → K h') : wrRow new (some x) h K := by
  rcases hs with ⟨h1, _⟩ | ⟨b, o, cs, h1, h2, h3, h4, h5, h6⟩
  · cases h1
  · injection h1 with h1
    subst h1
    have hln : l * n ≤ c * n := Nat.mul_le_mul_right _ h3
    show stRow new _ h K
    refine stRow_row h2 (by omega) hv ?_
    intro h' q1 q2 q3
    refine hk h' q1 (.inr ⟨b, o, _, rfl, q2, h3, ?_, ?_, ?_⟩) q3
    · rw [putL_length (by omega)]; exact h4
    · rw [List.length_append, List.length_drop, h5]; omega
    · subst h6
      apply List.ext_getElem?
      intro j
      rw [take_drop_get, getElem?_putL (by omega), if_neg (show ¬ o + j < o by omega)]
      by_cases hj : j < new.length
      · rw [if_pos (show j < l * n by omega), if_pos (show o + j < o + new.length by omega), List.getElem?_append_left hj]
        congr 1; omega
      · rw [List.getElem?_append_right (by omega), List.getElem?_drop, take_drop_get]
        by_cases hj2 : j < l * n
        · rw [if_pos hj2, if_neg (show ¬ o + j < o + new.length by omega), if_pos (show new.length + (j - new.length) < l * n by omega)]
          congr 1; omega
        · rw [if_neg hj2, if_neg (show ¬ new.length + (j - new.length) < l * n by omega)]

/-! ### slices that are only read -/
/-- the slice (a, l) reads as the cells vs -/
def Rv (h : Heap) (a : Option Addr) (l : Nat) (vs : List Value) : Prop := l = vs.length ∧ ∀ i v, vs[i]? = some v → ∃ x, a = some x ∧ x.spot = none ∧ cellH h (x.add i) = some v

section
variable {h h' : Heap} {a : Option Addr} {l c : Nat} {vs : List Value}

theorem SlR.rv (hs : SlR h 1 a l c vs) : Rv h a l vs := by
  have hl := hs.len
  refine ⟨by omega, fun i v hv => ?_⟩
  have hi := (List.getElem?_eq_some_iff.1 hv).1
  cases a with
  | none =>
    rcases hs with ⟨_, _, _, e⟩ | ⟨_, _, _, e, _⟩
    · subst e; simp at hv
    · cases e
  | some x => exact ⟨x, rfl, hs.row, by rw [hs.cell (by omega)]; exact hv⟩

theorem add_block (x : Addr) (i : Nat) : (x.add i).block = x.block := by unfold Addr.add; split <;> rfl

theorem Rv.keep {S : Nat → Prop} (hs : Rv h a l vs) (hk : Keep S h h') (hn : 0 < l → ∀ b, blk a b → ¬ S b) : Rv h' a l vs := by
  refine ⟨hs.1, fun i v hv => ?_⟩
  obtain ⟨x, h1, h2, h3⟩ := hs.2 i v hv
  have hi := (List.getElem?_eq_some_iff.1 hv).1
  have hl := hs.1
  exact ⟨x, h1, h2, hk.cell h3 (hn (by omega) _ ⟨x, h1, (add_block x i).symm⟩)⟩

theorem Rv.keep0 (hs : Rv h a l vs) (hk : Keep (fun _ => False) h h') : Rv h' a l vs := hs.keep hk (fun _ _ _ h => h)

theorem Rv.lt (hs : Rv h a l vs) (hl : 0 < l) {b : Nat} (hb : blk a b) : b < h.size := by
  have e := hs.1
  obtain ⟨x, h1, h2, h3⟩ := hs.2 0 _ (List.getElem?_eq_getElem (by omega))
  obtain ⟨y, e1, e2⟩ := hb
  rw [h1] at e1
  injection e1 with e1
  subst e1 e2
  unfold cellH at h3
  rw [add_block] at h3
  rcases Nat.lt_or_ge x.block h.size with h1 | h1
  · exact h1
  · rw [Array.getElem?_eq_none h1] at h3; cases h3

theorem Rv.at (hs : Rv h a l vs) {i : Int} {v : Value} (h0 : 0 ≤ i) (h1 : i < l) (hv : vs[i.toNat]? = some v) {K : Addr → Prop} (hk : ∀ x : Addr, cellH h (x.add (i.toNat * 1)) = some v → K x) : idx a l i K := by
  obtain ⟨x, e1, e2, e3⟩ := hs.2 i.toNat v hv
  exact ⟨x, e1, h0, h1, hk x (by rw [Nat.mul_one]; exact e3)⟩

theorem Rv.rd (hs : Rv h a l vs) {K : List Value → Prop} (hk : K vs) : rdCells a (l * 1) h K := by
  have hl := hs.1
  cases a with
  | none =>
    have : vs = [] := by
      cases vs with
      | nil => rfl
      | cons v r =>
        obtain ⟨x, e, _⟩ := hs.2 0 v rfl
        cases e
    subst this
    exact hk
  | some x =>
    refine ⟨vs, by omega, fun i v hv => ?_, hk⟩
    obtain ⟨y, e1, e2, e3⟩ := hs.2 i v hv
    injection e1 with e1
    subst e1
    exact e3

/-- a part of it -/
theorem Rv.sub (hs : Rv h a l vs) {cap : Nat} {lo hi mx : Int} (h0 : 0 ≤ lo) (h1 : lo ≤ hi) (h2 : hi ≤ l) (h3 : hi ≤ mx) (h4 : mx ≤ cap) {K : Option Addr → Nat → Nat → Prop}
    (hk : ∀ a' : Option Addr, Rv h a' (hi - lo).toNat ((vs.drop lo.toNat).take (hi - lo).toNat) → (∀ b, blk a' b → blk a b) → K a' (hi - lo).toNat (mx - lo).toNat) : lsl 1 a cap lo hi mx K := by
  have hl := hs.1
  refine ⟨h0, h1, h3, h4, hk _ ?_ ?_⟩
  · refine ⟨by rw [List.length_take, List.length_drop]; omega, fun i v hv => ?_⟩
    rw [List.getElem?_take] at hv
    split at hv
    · rename_i hi'
      rw [List.getElem?_drop] at hv
      obtain ⟨x, e1, e2, e3⟩ := hs.2 _ v hv
      rw [if_neg (by omega), e1]
      refine ⟨_, rfl, ?_, ?_⟩
      · unfold Addr.add; split
        · exact e2
        · rfl
      · rw [Nat.mul_one, add_add e2]; exact e3
    · cases hv
  · intro b hb
    split at hb
    · exact hb
    · obtain ⟨y, e1, e2⟩ := hb
      cases a with
      | none => cases e1
      | some x =>
        injection e1 with e1
        subst e1 e2
        exact ⟨x, rfl, (add_block _ _).symm⟩
end

/-- bytes that are only read -/
def Rb (h : Heap) (a : Option Addr) (l : Nat) (bs : List UInt8) : Prop := Rv h a l (bs.map byteV)

section
variable {h h' : Heap} {a : Option Addr} {l c : Nat} {bs : List UInt8}
theorem Bs.rb {s : ByteArray} (hb : Bs h a l c s) : Rb h a l s.data.toList := SlR.rv hb
theorem Rb.len (hs : Rb h a l bs) : l = bs.length := by have := hs.1; rwa [List.length_map] at this
theorem Rb.at (hs : Rb h a l bs) {i : Int} (h0 : 0 ≤ i) (h1 : i < l) {K : Int → Prop} (hk : ∀ b, bs[i.toNat]? = some b → K (b.toNat : Int)) : idx a l i fun x => ldI .u8 (x.add (i.toNat * 1)) h K := by
  have hl := hs.len
  have hi : i.toNat < bs.length := by omega
  refine Rv.at hs h0 h1 (v := byteV bs[i.toNat]) (by rw [List.getElem?_map, List.getElem?_eq_getElem hi]; rfl) fun x hx => ldI_at hx (hk _ (List.getElem?_eq_getElem hi))
theorem Rb.str (hs : Rb h a l bs) {K : ByteArray → Prop} (hk : K ⟨bs.toArray⟩) : b2s a l h K := by
  have hl := hs.len
  cases a with
  | none =>
    have : bs = [] := by
      cases bs with
      | nil => rfl
      | cons v r =>
        obtain ⟨x, e, _⟩ := hs.2 0 _ rfl
        cases e
    subst this
    exact hk
  | some x =>
    refine ⟨bs, hl.symm, fun i v hv => ?_, hk⟩
    obtain ⟨y, e1, e2, e3⟩ := hs.2 i (byteV v) (by rw [List.getElem?_map, hv]; rfl)
    injection e1 with e1
    subst e1
    exact e3
theorem Rb.sub (hs : Rb h a l bs) {cap : Nat} {lo hi mx : Int} (h0 : 0 ≤ lo) (h1 : lo ≤ hi) (h2 : hi ≤ l) (h3 : hi ≤ mx) (h4 : mx ≤ cap) {K : Option Addr → Nat → Nat → Prop}
    (hk : ∀ a' : Option Addr, Rb h a' (hi - lo).toNat ((bs.drop lo.toNat).take (hi - lo).toNat) → (∀ b, blk a' b → blk a b) → K a' (hi - lo).toNat (mx - lo).toNat) : lsl 1 a cap lo hi mx K := by
  refine Rv.sub hs h0 h1 h2 h3 h4 fun a' ha hb => hk a' ?_ hb
  unfold Rb
  rw [List.map_take, List.map_drop]
  exact ha
end

end Go.Proofs.Ytkgocfaajfaidaa.D
