/- What the layers on a device share. -/
import Derived.Test.YtmkobpkdodgboaaPEnc
import Derived.Test.YtmkobpkdodgboaaPCrc
import Derived.Test.YtmkobpkdodgboaaPView
namespace Go.Proofs.Ytmkobpkdodgboaa
open Go D
set_option linter.unusedVariables false
set_option linter.unusedSimpArgs false

def boolsOf (h : Heap) (a : Option Addr) (l : Nat) : List Bool := (List.range l).map fun i => match a with | some x => (match cellH h (x.add (i * 1)) with | some (.bool z) => z | _ => false) | none => false

theorem BoolsAt.is {h : Heap} {a : Option Addr} {l : Nat} (hs : BoolsAt h a l) : BoolsIs h a l (boolsOf h a l) := by
  refine ⟨by simp [boolsOf], fun i hi => ?_⟩
  obtain ⟨x, z, h2, h3⟩ := hs i hi
  refine ⟨x, h2, ?_⟩
  unfold boolsOf
  rw [List.getD_eq_getElem?_getD, List.getElem?_map, List.getElem?_range hi, h2]
  simp only [Option.map_some, Option.getD_some, h3]

theorem BoolsAt.lt {h : Heap} {a : Option Addr} {l : Nat} (hs : BoolsAt h a l) (hl : 0 < l) {b : Nat} (hb : blk a b) : b < h.size := by
  obtain ⟨x, z, h2, h3⟩ := hs 0 hl
  have := cell_lt h3
  rw [add_block] at this
  rw [h2, blk_some] at hb
  omega

namespace Disk
theorem write_alive {m : M} {i : Int} {s : ByteArray} (h0 : m.st = 0) (h1 : 0 ≤ i) (h2 : i < m.l.length) (h3 : s.size = 256) : write m i s = (0, { m with c := m.c ++ [(i, s)] }) := by
  have hb : burn m = (0, m) := by unfold burn; rw [if_neg (by omega)]
  unfold write
  rw [if_neg (by omega), if_neg (by omega), hb]
  rfl

theorem boolsIs_nil (h : Heap) : BoolsIs h none 0 [] := ⟨rfl, fun i hi => by omega⟩

end Disk
namespace Enc
theorem g64_append (a b : List UInt8) : g64 (a ++ b) = b.foldl (fun n b => n * 256 + b.toNat) (g64 a) := by simp [g64]

theorem g64_p64 {n : Nat} (h : n < 18446744073709551616) : g64 (p64 n) = n := by
  simp only [g64, p64, b64, List.range, List.range.loop, List.map_cons, List.map_nil, List.foldl_cons, List.foldl_nil, UInt8.toNat_ofNat', Nat.shiftRight_eq_div_pow]
  simp only [Nat.reduceMul, Nat.reduceSub, Nat.reducePow, Nat.zero_mul, Nat.zero_add, Nat.div_one]
  omega

end Enc
namespace Snap
open Disk Enc Hash
def be4W (x : W) : List UInt8 := [lowb (x >>> 24), lowb (x >>> 16), lowb (x >>> 8), lowb x]

theorem be4W_cells (x : W) : [Value.int .u8 (IntKind.u8.wrap (shrI .u32 (u x) 24)), .int .u8 (IntKind.u8.wrap (shrI .u32 (u x) 16)), .int .u8 (IntKind.u8.wrap (shrI .u32 (u x) 8)), .int .u8 (IntKind.u8.wrap (u x))] = (be4W x).map byteV := by
  simp only [be4W, List.map_cons, List.map_nil, u_shr x (n := 24) (by decide) (by decide), u_shr x (n := 16) (by decide) (by decide), u_shr x (n := 8) (by decide) (by decide), u_low]
  rfl

theorem ofL_inj {a b : List UInt8} (h : ofL a = ofL b) : a = b := by
  unfold ofL at h
  injection h with h
  simpa using h

theorem seq_ofL (a b : List UInt8) : seq (⟨a.toArray⟩ : ByteArray) ⟨b.toArray⟩ = decide (a = b) := by
  by_cases h : a = b
  · subst h
    rw [seq_self]; simp
  · rw [seq_false (s := ⟨a.toArray⟩) (t := ⟨b.toArray⟩) (fun e => h (ofL_inj e))]
    simp [h]

/-- a device's sectors have 256 bytes -/
theorem Rep.secs {mu im : Nat → Prop} {h : Heap} {p : Nat} {m : M} (hr : Disk.Rep h p mu im m) : (∀ s ∈ m.l, s.size = 256) ∧ (∀ x ∈ m.c, x.2.size = 256) := by
  obtain ⟨⟨ql, lcap, secs, ca, cc, cv, e1, e2, row, sl1, sl2, g1, g2, _⟩, _⟩ := hr
  constructor
  · intro s hs
    rw [e1] at hs
    obtain ⟨x, hx, rfl⟩ := List.mem_map.1 hs
    exact (g1 x hx).1
  · intro x hx
    rw [e2] at hx
    obtain ⟨y, hy, rfl⟩ := List.mem_map.1 hx
    exact (g2 y hy).2.2.1.1

theorem readAt_size {m : M} (h1 : ∀ s ∈ m.l, s.size = 256) (h2 : ∀ x ∈ m.c, x.2.size = 256) (i : Int) : (readAt m i).size = 256 := by
  have key : ∀ (c : List (Int × ByteArray)) (z : ByteArray), z.size = 256 → (∀ x ∈ c, x.2.size = 256) → (c.foldl (fun s x => if x.1 = i then x.2 else s) z).size = 256 := by
    intro c
    induction c with
    | nil => intro z hz _; exact hz
    | cons x c ih =>
      intro z hz hx
      refine ih _ ?_ (fun y hy => hx y (List.mem_cons_of_mem _ hy))
      show (if x.1 = i then x.2 else z).size = 256
      split
      · exact hx x (List.mem_cons_self ..)
      · exact hz
  refine key _ _ ?_ h2
  rw [List.getD_eq_getElem?_getD]
  cases hg : m.l[i.toNat]? with
  | none => exact noughts_size 256
  | some s => exact h1 s (List.mem_of_getElem? hg)

theorem data_ofL (l : List UInt8) : (ofL l).data.toList = l := by simp [ofL]

theorem ofL_size (l : List UInt8) : (ofL l).size = l.length := by simp [ofL, ByteArray.size]

theorem blank_read {m : M} {k : Nat} (hl : m.l = List.replicate k (noughts 256)) (hc : m.c = []) (i : Int) : readAt m i = noughts 256 := by
  rw [readAt_lk, hc, lk_nil]
  unfold sec
  rw [hl, List.getD_eq_getElem?_getD, List.getElem?_replicate]
  split <;> rfl

theorem crash_none {m : M} (hc : m.c = []) (ks : List Bool) : crash m ks = ⟨m.l, [], 0, 0⟩ := by
  unfold crash
  rw [hc]
  cases ks <;> rfl

def secL (st : List UInt8) (i : Nat) : List UInt8 := (st.drop (256 * i)).take 256 ++ List.replicate (256 - ((st.drop (256 * i)).take 256).length) 0

theorem secL_length (st : List UInt8) (i : Nat) : (secL st i).length = 256 := by simp [secL]; omega

end Snap
end Go.Proofs.Ytmkobpkdodgboaa
