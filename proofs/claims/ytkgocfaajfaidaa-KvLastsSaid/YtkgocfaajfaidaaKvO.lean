/- KvLasts: the states that were. -/
import Derived.Test.YtkgocfaajfaidaaKvN
namespace Go.Proofs.Ytkgocfaajfaidaa
open Go D
set_option linter.unusedVariables false
set_option linter.unusedSimpArgs false
namespace Kv
open Wal (packL unpackL Holds appM lg0 Lg secs LRow)
open Snap (KT fitsM saveM loadM okAt)
open Disk (M readAt crash)

/-- a slice of slices of pairs, apart from what W writes -/
def Sts (h : Heap) (W : Nat → Prop) (lo : Heap) (st : Sl) (ls : List (List KV)) : Prop :=
  ∃ vs : List Value, Own lo h 1 st vs ∧ vs.length = ls.length ∧ (∀ b, blk st.a b → ¬ W b) ∧ ∀ (i : Nat) (l : List KV), ls[i]? = some l → ∃ a n c, vs[i]? = some (Value.slice a n c) ∧ Pr h ⟨a, n, c⟩ l ∧ n ≤ c ∧ (0 < n → ∀ b, blk a b → ¬ W b ∧ ¬ blk st.a b)
theorem Sts.keep {h h' lo : Heap} {W W' S : Nat → Prop} {st : Sl} {ls : List (List KV)} (hs : Sts h W lo st ls) (hk : Keep S h h') (hS : ∀ b, S b → W b ∨ h.size ≤ b) (hW : ∀ b, W' b → W b ∨ h.size ≤ b) : Sts h' W' lo st ls := by
  obtain ⟨vs, ow, e, nb, el⟩ := hs
  have nS : ∀ b, b < h.size → ¬ W b → ¬ S b := fun b hb hn hs => by
    rcases hS b hs with q | q
    · exact hn q
    · omega
  refine ⟨vs, ow.keep hk (fun b hb => nS b (ow.lt hb) (nb b hb)), e, fun b hb hw => ?_, fun i l hi => ?_⟩
  · rcases hW b hw with q | q
    · exact nb b hb q
    · have := ow.lt hb; omega
  · obtain ⟨a, n, c, e1, p, le, f⟩ := el i l hi
    have lt : 0 < n → ∀ b, blk a b → b < h.size := fun h0 b hb => Rv.lt p (by show 0 < n * 2; omega) hb
    refine ⟨a, n, c, e1, Rv.keep p hk (fun h0 b hb => nS b (lt (by have : 0 < n * 2 := h0; omega) b hb) (f (by have : 0 < n * 2 := h0; omega) b hb).1), le, fun h0 b hb => ⟨fun hw => ?_, (f h0 b hb).2⟩⟩
    rcases hW b hw with q | q
    · exact (f h0 b hb).1 q
    · have := lt h0 b hb; omega
theorem Sts.nw {h h' lo : Heap} {W : Nat → Prop} {st : Sl} {ls : List (List KV)} (hs : Sts h W lo st ls) (hk : Nw h h') : Sts h' W lo st ls := hs.keep hk (fun _ h => h.elim) (fun _ h => .inl h)
theorem Sts.len {h lo : Heap} {W : Nat → Prop} {st : Sl} {ls : List (List KV)} (hs : Sts h W lo st ls) : st.len = ls.length := by
  obtain ⟨vs, ow, e, _⟩ := hs
  have := ow.len; omega
theorem Sts.at {h lo : Heap} {W : Nat → Prop} {st : Sl} {ls : List (List KV)} (hs : Sts h W lo st ls) {i : Nat} {l : List KV} (hi : ls[i]? = some l) {K : Addr → Prop}
    (hk : ∀ y a n c, cellH h (y.add ((i : Int).toNat * 1)) = some (.slice a n c) → Pr h ⟨a, n, c⟩ l → n ≤ c → (0 < n → ∀ b, blk a b → ¬ W b ∧ ¬ blk st.a b) → K y) : idx st.a st.len (i : Int) K := by
  have len := hs.len
  obtain ⟨vs, ow, e, nb, el⟩ := hs
  obtain ⟨a, n, c, e1, p, le, f⟩ := el i l hi
  have hil := (List.getElem?_eq_some_iff.1 hi).1
  exact Rv.at (SlR.rv ow.sl) (by omega) (by omega) (by rw [Int.toNat_natCast]; exact e1) (fun y hy => hk y a n c hy p le f)
theorem Sts.push {h lo : Heap} {W : Nat → Prop} {st : Sl} {ls : List (List KV)} (hs : Sts h W lo st ls) (hn : Nw lo h) (hWl : ∀ b, W b → b < h.size) {r : Sl} {l : List KV} (hp : Pr h r l) (hle : r.len ≤ r.cap) (hf : 0 < r.len → ∀ b, blk r.a b → ¬ W b ∧ ¬ blk st.a b) (hl : ls.length ≤ 1000) {K : Option Addr → Nat → Heap → Prop}
    (hk : ∀ a' c' h', Sts h' W lo ⟨a', st.len + 1, c'⟩ (ls ++ [l]) → Nw lo h' → Keep (blk st.a) h h' → K a' c' h') :
    newB [.slice r.a r.len r.cap] 34 h fun a9 h10 => ldRow (1 * 1) a9 h10 fun cs14 => D.app [.slice none 0 0] 34 1 24 st.a st.len st.cap cs14 1 h10 K := by
  have len := hs.len
  obtain ⟨vs, ow, e, nb, el⟩ := hs
  refine ow.push hn rfl rfl rfl (by intro u hu; rcases List.mem_cons.1 hu with rfl | hu; rfl; cases hu) (by omega) ?_
  intro a' c' h' q1 q2 q3 q4
  have plt : ∀ {r : Sl} {l : List KV}, Pr h r l → 0 < r.len → ∀ b, blk r.a b → b < h.size := fun p h0 b hb => Rv.lt p (by omega) hb
  refine hk a' c' h' ⟨vs ++ [.slice r.a r.len r.cap], q1, by simp [e], fun b hb hw => ?_, fun i l' hi => ?_⟩ q2 q3
  · rcases q4 b hb with q | q
    · exact nb b q hw
    · have := hWl b hw; omega
  · by_cases h1 : i < ls.length
    · rw [List.getElem?_append_left h1] at hi
      obtain ⟨a, n, c, e1, p, le, f⟩ := el i l' hi
      refine ⟨a, n, c, by rw [List.getElem?_append_left (by omega)]; exact e1, Rv.keep p q3 (fun h0 b hb => (f (by have : 0 < n * 2 := h0; omega) b hb).2), le, fun h0 b hb => ⟨(f h0 b hb).1, fun hb2 => ?_⟩⟩
      rcases q4 b hb2 with q | q
      · exact (f h0 b hb).2 q
      · have := plt p h0 b hb; omega
    · have hi2 := (List.getElem?_eq_some_iff.1 hi).1
      rw [List.length_append, List.length_singleton] at hi2
      have ei : i = ls.length := by omega
      subst ei
      rw [List.getElem?_append_right (Nat.le_refl _), Nat.sub_self] at hi
      simp only [List.getElem?_cons_zero, Option.some.injEq] at hi
      subst hi
      refine ⟨r.a, r.len, r.cap, by rw [← e, List.getElem?_append_right (Nat.le_refl _), Nat.sub_self]; rfl, Rv.keep hp q3 (fun h0 b hb => (hf (by have : 0 < r.len * 2 := h0; omega) b hb).2), hle, fun h0 b hb => ⟨(hf h0 b hb).1, fun hb2 => ?_⟩⟩
      rcases q4 b hb2 with q | q
      · exact (hf h0 b hb).2 q
      · have := plt hp h0 b hb; omega

theorem addC_asc : ∀ (cs : List Ch) {l : List KV}, Asc (l.map (·.1)) → Asc ((addC l cs).map (·.1))
  | [], _, h => h
  | c :: cs, l, h => by
    refine addC_asc cs (l := appC c l) ?_
    unfold appC withKV
    split
    · exact del_asc h
    · exact ins_asc h
theorem inv_fuse {x : St} (hx : Inv x) (k : Int) : Inv ⟨Disk.fuse x.m k, x.q, x.E, x.L, x.l, x.n⟩ := by
  have hl : (Disk.fuse x.m k).l = x.m.l ∧ (Disk.fuse x.m k).c = x.m.c := by
    unfold Disk.fuse
    split
    · exact ⟨rfl, rfl⟩
    · split <;> exact ⟨rfl, rfl⟩
  have rd : ∀ i, readAt (Disk.fuse x.m k) i = readAt x.m i := fun i => by rw [Disk.readAt_lk, Disk.readAt_lk, hl.1, hl.2]
  obtain ⟨n0, l0, css, h1, h2, h3, h4, h5, h6, h7, h8⟩ := hx.ex
  have hq := hx.q4
  exact mkInv (by rw [hl.1]; exact hx.sz) (by rw [hl.1]; exact hx.qe) hx.eb (Snap.kt_congr (fun i _ _ => rd i) (by omega) h1) h2 (h3.view (by rw [hl.2]; exact hx.c) (by rw [hl.1]) (fun i _ _ _ => rd i)) h4 h5 h6 h7 h8 hx.ok hx.fit

end Kv
end Go.Proofs.Ytkgocfaajfaidaa
