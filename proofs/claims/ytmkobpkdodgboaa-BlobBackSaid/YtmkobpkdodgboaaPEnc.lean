/- enc.Put64, enc.Get64: a number as eight bytes. -/
import Derived.Test.YtmkobpkdodgboaaPCrc
import Derived.Test.YtmkobpkdodgboaaGEnc
namespace Go.Proofs.Ytmkobpkdodgboaa
open Go D
set_option linter.unusedVariables false
set_option linter.unusedSimpArgs false
namespace Enc

/-- the i-th of a number's eight bytes -/
def b64 (n i : Nat) : UInt8 := UInt8.ofNat (n >>> (56 - 8 * i))
def p64 (n : Nat) : List UInt8 := (List.range 8).map (b64 n)
def g64 (bs : List UInt8) : Nat := bs.foldl (fun n b => n * 256 + b.toNat) 0
theorem p64_length (n : Nat) : (p64 n).length = 8 := by simp [p64]

theorem b64_val {n : Nat} {s : Nat} (hs : s ≤ 64) : Value.int .u8 (IntKind.u8.wrap (shrI .u64 (n : Int) (s : Int))) = byteV (UInt8.ofNat (n >>> s)) := by
  rw [shrI_nat (by exact hs)]
  unfold byteV
  congr 1

theorem put64_spec {h : Heap} {n : Nat} {R : Sl → Heap → Prop} (hk : ∀ h', Bl h' (some ⟨h.size, 0, none⟩) 8 8 (p64 n) → Keep (fun _ => False) h h' → h'.size = h.size + 1 → R ⟨some ⟨h.size, 0, none⟩, 8, 8⟩ h') :
    CallT Try.prog enc_Put64_no [.int .u64 (n : Int)] h [.sc .sl] R := by
  apply enc_Put64_call
  simp only [enc_Put64]
  refine mkSl_row (by decide) (by decide) (by decide) (by decide) ?_
  intro h1 s1 r1 k1
  refine LoopT.intro (fun i h' => 0 ≤ i ∧ i ≤ 8 ∧ Row h' h.size ((List.range 8).map fun j => if j < i.toNat then byteV (b64 n j) else .int .u8 0) ∧ Keep (fun _ => False) h h' ∧ h'.size = h.size + 1) (fun i _ => (8 - i).toNat) ⟨by omega, by omega, r1, k1, s1⟩ ?_
  rintro i h2 ⟨q1, q2, q3, q4, q5⟩
  refine cnd_dec (fun hi => ?_) (fun hi => ?_)
  · replace hi : i < 8 := hi
    have w1 : w64 (8 * i) = 8 * i := w64_id (by omega) (by omega)
    have w2 : w64 (56 - 8 * i) = ((56 - 8 * i.toNat : Nat) : Int) := by rw [w64_id (by omega) (by omega)]; omega
    rw [w1, w2]
    refine geZ_of (by omega) (idx_some q1 hi ?_)
    rw [b64_val (by omega), add_mk, Nat.zero_add, Nat.mul_one]
    refine stC_row q3 (by simp; omega) rfl ?_
    intro h3 s3 r3 k3
    rw [w64_id (x := i + 1) (by omega) (by omega)]
    refine ⟨⟨by omega, by omega, ?_, q4.trans k3 (fun y hy e => by
      have e' : y = h.size := e
      omega), by omega⟩, by omega⟩
    rw [show (i + 1).toNat = i.toNat + 1 by omega]
    have el : ((List.range 8).map fun j => if j < i.toNat then byteV (b64 n j) else Value.int .u8 0).set i.toNat (byteV (UInt8.ofNat (n >>> (56 - 8 * i.toNat)))) = (List.range 8).map fun j => if j < i.toNat + 1 then byteV (b64 n j) else Value.int .u8 0 := by
      apply List.ext_getElem?
      intro j
      rw [List.getElem?_set, List.length_map, List.length_range, List.getElem?_map, List.getElem?_map]
      by_cases hj : j < 8
      · rw [List.getElem?_range hj]
        simp only [Option.map_some]
        by_cases hij : i.toNat = j
        · rw [if_pos hij, if_pos (by omega), if_pos (by omega), ← hij]; rfl
        · rw [if_neg hij]
          by_cases h6 : j < i.toNat
          · rw [if_pos h6, if_pos (by omega)]
          · rw [if_neg h6, if_neg (by omega)]
      · rw [if_neg (by omega), List.getElem?_eq_none (by simp; omega)]
        simp
    rw [← el]
    exact r3
  · have hi8 : i = 8 := by
      have : ¬ i < (8 : Int) := hi
      omega
    subst hi8
    refine hk h2 (.inr ⟨h.size, 0, _, rfl, q3, by simp, by simp, by simp [p64], ?_⟩) q4 q5
    rw [List.drop_zero, List.take_of_length_le (by simp)]
    unfold p64
    rw [List.map_map]
    apply List.map_congr_left
    intro j hj
    rw [List.mem_range] at hj
    rw [if_pos (by simpa using hj)]
    rfl

theorem shl8 {n : Nat} (hn : n < 2 ^ 56) (b : UInt8) : orI .u64 (shlI .u64 (n : Int) 8) (IntKind.u64.wrap (b.toNat : Int)) = ((n * 256 + b.toNat : Nat) : Int) := by
  have hb := b.toNat_lt
  have e1 : shlI .u64 (n : Int) 8 = ((n <<< 8 : Nat) : Int) := by
    unfold shlI
    rw [show min (8 : Int).toNat IntKind.u64.bits = 8 from rfl, wrap_u64_id (by omega) (by omega), Nat.shiftLeft_eq]
    omega
  have e2 : IntKind.u64.wrap (b.toNat : Int) = b.toNat := wrap_u64_id (by omega) (by omega)
  rw [e1, e2]
  unfold orI
  rw [BitVec.toNat_or]
  simp only [IntKind.bits]
  rw [ofInt_nat (by rw [Nat.shiftLeft_eq]; omega), ofInt_nat (by omega)]
  have e := Nat.shiftLeft_add_eq_or_of_lt (i := 8) (b := b.toNat) (by omega) n
  rw [← e, Nat.shiftLeft_eq, wrap_u64_id (by omega) (by omega)]

theorem g64_lt : ∀ (bs : List UInt8), g64 bs < 2 ^ (8 * bs.length) := by
  have key : ∀ (bs : List UInt8) (n k : Nat), n < 2 ^ (8 * k) → bs.foldl (fun n b => n * 256 + b.toNat) n < 2 ^ (8 * (k + bs.length)) := by
    intro bs
    induction bs with
    | nil => intro n k h; simpa using h
    | cons b r ih =>
      intro n k h
      have hb := b.toNat_lt
      have := ih (n * 256 + b.toNat) (k + 1) (by
        rw [show 8 * (k + 1) = 8 * k + 8 by omega, Nat.pow_add]
        omega)
      simp only [List.foldl_cons, List.length_cons]
      rw [show k + (r.length + 1) = k + 1 + r.length by omega]
      exact this
  intro bs
  have := key bs 0 0 (by decide)
  rw [Nat.zero_add] at this
  exact this

set_option maxRecDepth 20000 in
theorem get64_spec {h : Heap} {a : Option Addr} {c : Nat} {bs : List UInt8} (hb : Rb h a 8 bs) {R : Int × Bool → Heap → Prop} (hk : R ((g64 bs : Int), true) h) :
    CallT Try.prog enc_Get64_no [.slice a 8 c] h [.sc (.int .u64), .sc .bool] R := by
  have hcall := enc_Get64_call (b_0 := ⟨a, 8, c⟩) (R := R) (h := h)
  apply hcall
  simp only [enc_Get64]
  have hlen := hb.len
  refine cnd_f rfl ?_
  refine LoopT.intro (fun (t : Int × Int) h' => h' = h ∧ 0 ≤ t.2 ∧ t.2 ≤ 8 ∧ t.1 = (g64 (bs.take t.2.toNat) : Int)) (fun t _ => (8 - t.2).toNat) ⟨rfl, by simp, by simp, rfl⟩ ?_
  rintro ⟨x, i⟩ h' ⟨rfl, q1, q2, q3⟩
  replace q1 : 0 ≤ i := q1
  replace q2 : i ≤ 8 := q2
  obtain ⟨z, hz⟩ : ∃ z, z = g64 (bs.take i.toNat) := ⟨_, rfl⟩
  replace q3 : x = (z : Int) := by rw [hz]; exact q3
  subst q3
  refine cnd_dec (fun hi => ?_) (fun hi => ?_)
  · replace hi : i < 8 := hi
    refine hb.at q1 (by omega) ?_
    intro b hbb
    have hw : w64 (i + 1) = i + 1 := w64_id (by omega) (by omega)
    have hzl := g64_lt (bs.take i.toNat)
    rw [← hz, List.length_take] at hzl
    have hz56 : z < 2 ^ 56 := Nat.lt_of_lt_of_le hzl (Nat.pow_le_pow_right (by decide) (by omega))
    show (h' = h' ∧ 0 ≤ w64 (i + 1) ∧ w64 (i + 1) ≤ 8 ∧ orI .u64 (shlI .u64 (z : Int) 8) (IntKind.u64.wrap (b.toNat : Int)) = (g64 (bs.take (w64 (i + 1)).toNat) : Int)) ∧ (8 - w64 (i + 1)).toNat < (8 - i).toNat
    rw [hw, shl8 hz56, show (i + 1).toNat = i.toNat + 1 by omega]
    refine ⟨⟨rfl, by omega, by omega, ?_⟩, by omega⟩
    unfold g64
    rw [foldl_take _ _ _ _ b hbb]
    congr 1
    rw [hz]
    rfl
  · have hi8 : i = 8 := by
      have : ¬ i < (8 : Int) := hi
      omega
    subst hi8
    show R ((z : Int), true) h'
    rw [hz, List.take_of_length_le (by simp; omega)]
    exact hk

end Enc
end Go.Proofs.Ytmkobpkdodgboaa
