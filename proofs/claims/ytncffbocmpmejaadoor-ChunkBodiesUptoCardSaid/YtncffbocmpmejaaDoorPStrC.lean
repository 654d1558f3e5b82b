/- Strings: prefixes, a byte's place in the digits, noughts cut off at the front. -/
import Derived.Test.YtncffbocmpmejaaDoorPStrB
namespace Go.Proofs.YtncffbocmpmejaaDoor
open Go D
set_option linter.unusedVariables false
set_option linter.unusedSimpArgs false

def pre (s p : List UInt8) : Bool := decide (s.take p.length = p)

theorem hasPrefix_in {h : Heap} {s p : ByteArray} {R : Bool → Heap → Prop} (hk : R (pre (bl s) (bl p)) h) : CallT Tryd.prog internal_stringslite_HasPrefix_no [.string s, .string p] h [.sc .bool] R := by
  apply internal_stringslite_HasPrefix_call
  unfold internal_stringslite_HasPrefix
  refine withJ.inl ?_
  refine cnd_dec (fun hi => ?_) (fun hi => ?_)
  · refine ssl_bl (by omega) (by omega) (by omega) ?_
    have e : pre (bl s) (bl p) = seq (ofL (((bl s).drop (0 : Int).toNat).take ((p.size : Int).toNat - (0 : Int).toNat))) p := by
      rw [seq_bl, bl_ofL]
      unfold pre
      rw [Bool.eq_iff_iff, decide_eq_true_eq, decide_eq_true_eq, bl_len]
      rfl
    rw [e] at hk
    exact hk
  · have e : pre (bl s) (bl p) = false := by
      unfold pre
      refine decide_eq_false (fun e => ?_)
      have := congrArg List.length e
      rw [List.length_take, bl_len, bl_len] at this
      omega
    rw [e] at hk
    exact hk
theorem hasPrefix_spec {h : Heap} {s p : ByteArray} {R : Bool → Heap → Prop} (hk : R (pre (bl s) (bl p)) h) : CallT Tryd.prog strings_HasPrefix_no [.string s, .string p] h [.sc .bool] R := by
  apply strings_HasPrefix_call
  unfold strings_HasPrefix
  exact hasPrefix_in hk
theorem cutPrefix_spec {h : Heap} {s p : ByteArray} {R : ByteArray × Bool → Heap → Prop} (hyes : pre (bl s) (bl p) = true → R (ofL ((bl s).drop p.size), true) h) (hno : pre (bl s) (bl p) = false → R (s, false) h) : CallT Tryd.prog strings_CutPrefix_no [.string s, .string p] h [.sc .str, .sc .bool] R := by
  apply strings_CutPrefix_call
  unfold strings_CutPrefix
  have hcall := internal_stringslite_CutPrefix_call (s_0 := s) (prefix_1 := p) (R := fun r1 h2 => R (r1.1, r1.2) h2) (h := h)
  apply hcall
  unfold internal_stringslite_CutPrefix
  refine hasPrefix_in ?_
  cases hp : pre (bl s) (bl p) with
  | true =>
    refine cnd_f rfl ?_
    have hle : p.size ≤ s.size := by
      have := congrArg List.length (of_decide_eq_true hp)
      rw [List.length_take, bl_len, bl_len] at this
      omega
    refine ssl_bl (by omega) (by omega) (by omega) ?_
    have e : ((bl s).drop (p.size : Int).toNat).take ((s.size : Int).toNat - (p.size : Int).toNat) = (bl s).drop p.size := by
      rw [Int.toNat_natCast]
      exact List.take_of_length_le (by rw [List.length_drop, bl_len]; omega)
    rw [e]
    exact hyes hp
  | false => exact cnd_t rfl (hno hp)

/-! ### digits -/
def dg (b : UInt8) : Bool := (decide (48 ≤ b.toNat) && decide (b.toNat ≤ 57)) || (decide (97 ≤ b.toNat) && decide (b.toNat ≤ 102))
def hv (b : UInt8) : Nat := if b.toNat ≤ 57 then b.toNat - 48 else b.toNat - 87
def hexT : ByteArray := ⟨#[48, 49, 50, 51, 52, 53, 54, 55, 56, 57, 97, 98, 99, 100, 101, 102]⟩
set_option maxRecDepth 100000 in
theorem ix_all : ∀ n : Fin 256, ixB hexT (((UInt8.ofNat n.val).toNat : Nat) : Int) = if dg (UInt8.ofNat n.val) then ((hv (UInt8.ofNat n.val) : Nat) : Int) else -1 := by decide +kernel
theorem ix_dg (b : UInt8) : ixB hexT (b.toNat : Int) = if dg b then ((hv b : Nat) : Int) else -1 := by
  have := ix_all ⟨b.toNat, b.toNat_lt⟩
  simpa using this
theorem hv_lt {b : UInt8} (h : dg b = true) : hv b < 16 := by
  unfold dg at h
  unfold hv
  simp only [Bool.or_eq_true, Bool.and_eq_true, decide_eq_true_eq] at h
  split <;> omega

theorem indexByte_spec {h : Heap} {s : ByteArray} {c : Int} {R : Int → Heap → Prop} (hk : R (ixB s c) h) : CallT Tryd.prog strings_IndexByte_no [.string s, .int .u8 c] h [.sc (.int .i64)] R := by
  apply strings_IndexByte_call
  unfold strings_IndexByte
  have hcall := internal_stringslite_IndexByte_call (s_0 := s) (c_1 := c) (R := R) (h := h)
  exact hcall hk

/-! ### noughts at the front -/
theorem trimB_spec {h : Heap} {s : ByteArray} {c : UInt8} {R : ByteArray → Heap → Prop} (hk : R (ofL ((bl s).dropWhile (· == c))) h) : CallT Tryd.prog strings_trimLeftByte_no [.string s, .int .u8 (c.toNat : Int)] h [.sc .str] R := by
  apply strings_trimLeftByte_call
  unfold strings_trimLeftByte
  refine LoopT.intro (fun (t : ByteArray) h' => h' = h ∧ (bl s).dropWhile (· == c) = (bl t).dropWhile (· == c)) (fun t _ => t.size) ⟨rfl, rfl⟩ ?_
  rintro t h' ⟨rfl, e⟩
  rw [e] at hk
  refine withJ.intro (fun _ h2 => h2 = h' ∧ ∃ r, bl t = c :: r) ?_ ?_
  · rintro _ h2 ⟨rfl, r, er⟩
    have hs : t.size = r.length + 1 := by rw [← bl_len, er]; rfl
    refine ssl_bl (by omega) (by omega) (by omega) ?_
    have e2 : ((bl t).drop (1 : Int).toNat).take ((t.size : Int).toNat - (1 : Int).toNat) = r := by
      rw [er]
      show (r.take _) = r
      exact List.take_of_length_le (by simp; omega)
    rw [e2]
    refine ⟨⟨rfl, ?_⟩, ?_⟩
    · rw [e, er, bl_ofL]
      simp
    · rw [ofL_size]; omega
  · intro J hJ
    cases hb : bl t with
    | nil =>
      have hs : t.size = 0 := by rw [← bl_len, hb]; rfl
      refine cnd_neg (by omega) ?_
      rw [hb] at hk
      rwa [← ofL_bl t, hb]
    | cons x r =>
      have hs : t.size = r.length + 1 := by rw [← bl_len, hb]; rfl
      refine cnd_pos (by omega) ?_
      refine ⟨x, by omega, by show (bl t)[0]? = _; rw [hb]; rfl, ?_⟩
      refine cnd_of (fun hx => ?_) (fun hx => ?_)
      · have hxc : x = c := UInt8.toNat_inj.1 (by have := eq_of_beq hx; omega)
        subst hxc
        exact hJ _ _ ⟨rfl, r, hb⟩
      · have hxc : (x == c) = false := by
          rw [beq_eq_false_iff_ne]
          rintro rfl
          simp at hx
        have hk' := hk
        rw [hb, List.dropWhile_cons, hxc] at hk'
        rw [← ofL_bl t, hb]
        exact hk'

theorem trim0_spec {h : Heap} {s : ByteArray} {R : ByteArray → Heap → Prop} (hk : R (ofL ((bl s).dropWhile (· == 48))) h) : CallT Tryd.prog strings_TrimLeft_no [.string s, .string (⟨#[48]⟩ : ByteArray)] h [.sc .str] R := by
  apply strings_TrimLeft_call
  unfold strings_TrimLeft
  refine withJ.intro (fun _ h2 => h2 = h) ?_ ?_
  · rintro _ h2 rfl
    refine withJ.inl (withJ.inl ?_)
    refine cnd_t rfl ?_
    refine ⟨48, by omega, rfl, ?_⟩
    refine cnd_t (by decide) ?_
    refine ⟨48, by omega, rfl, ?_⟩
    exact trimB_spec (c := 48) hk
  · intro J hJ
    refine withJ.inl ?_
    refine cnd_of (fun e => ?_) (fun e => ?_)
    · refine cnd_t rfl ?_
      have e2 : s = ⟨#[]⟩ := seq_iff.1 e
      subst e2
      exact hk
    · refine cnd_f (by rw [seq_bl]; decide) ?_
      exact hJ _ _ rfl
end Go.Proofs.YtncffbocmpmejaaDoor
