/- Package kv: a state as bytes, its size, a state restored. -/
import Derived.Test.YtkgocfaajfaidaaKvA
namespace Go.Proofs.Ytkgocfaajfaidaa
open Go D
set_option linter.unusedVariables false
set_option linter.unusedSimpArgs false
namespace Kv
open Wal (packL unpackL)

/-- what a state is packed of -/
def flatL : List KV → List ByteArray
  | [] => []
  | p :: l => p.1 :: p.2 :: flatL l
def stL (n : Nat) (l : List KV) : List ByteArray := ofL (Enc.p64 n) :: flatL l
def szL : List KV → Nat
  | [] => 0
  | p :: l => (8 + p.1.size + p.2.size) + szL l
theorem flatL_len : ∀ l : List KV, (flatL l).length = 2 * l.length
  | [] => rfl
  | p :: l => by simp only [flatL, List.length_cons, flatL_len l]; omega
theorem flatL_app : ∀ l m : List KV, flatL (l ++ m) = flatL l ++ flatL m
  | [], _ => rfl
  | p :: l, m => by simp only [List.cons_append, flatL, flatL_app l m]
theorem szL_app : ∀ l m : List KV, szL (l ++ m) = szL l + szL m
  | [], _ => by simp [szL]
  | p :: l, m => by simp only [List.cons_append, szL, szL_app l m]; omega
theorem flat_sz : ∀ l : List KV, (packL (flatL l)).length = szL l
  | [] => rfl
  | p :: l => by
    show (packL (p.1 :: p.2 :: flatL l)).length = _
    rw [packL_len_cons, packL_len_cons, flat_sz l]
    simp only [szL]; omega
theorem stL_sz (n : Nat) (l : List KV) : (packL (stL n l)).length = 12 + szL l := by
  unfold stL
  rw [packL_len_cons, flat_sz, Snap.ofL_size, Enc.p64_length]
theorem szL_len : ∀ l : List KV, 8 * l.length ≤ szL l
  | [] => Nat.le_refl _
  | p :: l => by have := szL_len l; simp only [szL, List.length_cons]; omega
theorem szL_pre {l m : List KV} (h : l <+: m) : szL l ≤ szL m := by
  obtain ⟨r, rfl⟩ := h
  rw [szL_app]; omega
theorem flatL_get : ∀ (l : List KV) (i : Nat) (hi : i < l.length), (flatL l)[2 * i]? = some l[i].1 ∧ (flatL l)[2 * i + 1]? = some l[i].2
  | p :: l, 0, _ => ⟨rfl, rfl⟩
  | p :: l, i + 1, hi => by
    have ih := flatL_get l i (by simpa using hi)
    have e : 2 * (i + 1) = 2 * i + 1 + 1 := by omega
    rw [e]
    simp only [flatL, List.getElem?_cons_succ, List.getElem_cons_succ]
    exact ih

theorem size_spec {h : Heap} {F : Nat → Prop} {p : Nat} {l : List KV} (ht : TreeAt h F p l) (hF : ∀ b, F b → b < h.size) (hl : szL l ≤ 1000000000000000000) {R : Int → Heap → Prop}
    (hk : ∀ h', Nw h h' → R ((12 + szL l : Nat) : Int) h') : CallT Try.prog kv_size_no [.pointer (some ⟨p, 0, none⟩)] h [.sc (.int .i64)] R := by
  have hcall := kv_size_call (some ⟨p, 0, none⟩) (R := R) (h := h)
  apply hcall; clear hcall
  unfold kv_size
  refine newB_row ?_
  intro h2 s2 r2 k2
  refine stC_row (o := 0) r2 (by simp) rfl ?_
  intro h3 s3 r3 k3
  have n3 : Nw h h3 := Nw.st k2 k3 (Nat.le_refl _)
  refine treeFrom (ht.nw n3) (fun b hb => by have := hF b hb; omega) ?_
  intro rv h5 n5 s5 sq
  rw [from_nok] at sq
  have r5 := n5.row r3 (fun h => h)
  refine rng_cells sq (fun b hb => ?_) (fun b => b = h.size) (fun b hb => ⟨fun hd => ?_, ?_⟩) (fun ex pre hh => ex = .nrm ∧ Row hh h.size [.int .i64 ((12 + szL pre : Nat) : Int)]) ⟨rfl, r5⟩ ?_ ?_ ?_ ?_ ?_ ?_ ?_
  · rcases hb with hb | hb | hb
    · have := hF b hb; omega
    · omega
    · omega
  · have hb' : b = h.size := hb
    rcases hd with hd | hd | hd
    · have := hF b hd; omega
    · omega
    · omega
  · have hb' : b = h.size := hb; omega
  · rintro ex pre ha hb ⟨rfl, q⟩ hk'
    exact ⟨rfl, hk'.row q (fun e => e.1 rfl)⟩
  · rintro ex pre ha ⟨rfl, q⟩ b hb
    have hb' : b = h.size := hb
    subst hb'
    exact ⟨_, q⟩
  · rintro pre x h4 Q ⟨_, q⟩ k4 hpre hQ
    have hx := szL_pre hpre
    have es : szL (pre ++ [x]) = szL pre + (8 + x.1.size + x.2.size) := by rw [szL_app]; rfl
    refine ldI_row (o := 0) q rfl ?_
    refine stC_row (o := 0) q (by simp) rfl ?_
    intro h6 s6 r6 k6
    have ew : w64 (((12 + szL pre : Nat) : Int) + w64 (w64 (8 + (x.1.size : Int)) + (x.2.size : Int))) = ((12 + szL (pre ++ [x]) : Nat) : Int) := by
      rw [w64_id (x := 8 + (x.1.size : Int)) (by omega) (by omega), w64_id (x := 8 + (x.1.size : Int) + (x.2.size : Int)) (by omega) (by omega), w64_id (by omega) (by omega)]
      omega
    rw [ew] at r6
    exact hQ .nrm h6 ⟨rfl, r6⟩ (k6.mono (fun b _ e => .inl e))
  · rintro h' ⟨_, q⟩ k'
    refine ldI_row (o := 0) q rfl ?_
    intro h8 z8 s8
    refine hk h8 (shut_nw ((n3.trans' n5).trans k' (fun b hb e => ?_)) (Nat.le_refl _) z8 s8)
    rcases e with e | e
    · have e' : b = h.size := e; omega
    · have := (n3.trans' n5).size; omega
  · rintro pre h' ⟨e, _⟩; cases e
  · rintro i pre h' ⟨e, _⟩; cases e
  · rintro i pre h' ⟨e, _⟩; cases e


set_option maxHeartbeats 1000000 in
theorem state_spec {h : Heap} {F : Nat → Prop} {s : Nat} {cs : List Value} {p n : Nat} {l : List KV} (hr : Row h s cs) (h4 : cs[4]? = some (.pointer (some ⟨p, 0, none⟩))) (h5 : cs[5]? = some (.int .i64 (n : Int))) (ht : TreeAt h F p l) (hF : ∀ b, F b → b < h.size) (hn : n < 9223372036854775808) (hl : szL l ≤ 1000000000) {R : Sl → Heap → Prop}
    (hk : ∀ r h', Nw h h' → Bl h' r.a r.len r.cap (packL (stL n l)) → (∀ b, blk r.a b → h.size ≤ b) → R r h') : CallT Try.prog kv_Store_state_no [.pointer (some ⟨s, 0, none⟩)] h [.sc .sl] R := by
  have hcall := kv_Store_state_call (some ⟨s, 0, none⟩) (R := R) (h := h)
  apply hcall; clear hcall
  unfold kv_Store_state
  have hll := szL_len l
  rw [nn_eq, add_mk]
  refine ldI_row (o := 0 + 5) hr h5 ?_
  have eu : IntKind.u64.wrap (n : Int) = n := wrap_u64_id (by omega) (by omega)
  rw [eu]
  refine Enc.put64_spec ?_
  intro ha ba ka za
  refine Rb.str ba.rb ?_
  refine newB_row ?_
  intro h7 s7 r7 k7
  refine newB_row ?_
  intro h9 s9 r9 k9
  refine stC_row (o := 0) r9 (by simp) rfl ?_
  intro h10 s10 r10 k10
  have n10 : Nw h h10 := Nw.st ((ka.trans' k7).trans' k9) k10 (by omega)
  rw [nn_eq, add_mk]
  refine ldP_row (o := 0 + 4) (n10.row hr (fun h => h)) h4 ?_
  have z10 := n10.size
  refine treeFrom (ht.nw n10) (fun b hb => by have := hF b hb; omega) ?_
  intro rv h14 n14 s14 sq
  rw [from_nok] at sq
  have n014 := n10.trans' n14
  have r8 : Row h14 h7.size [.slice (some ⟨ha.size, 0, none⟩) 1 1] := n14.row r10 (fun h => h)
  have r6 : Row h14 ha.size [.string (ofL (Enc.p64 n))] := n14.row (k10.row (k9.row r7 (fun h => h)) (fun e => by have e' : ha.size = h7.size := e; omega)) (fun h => h)
  have own0 : Own ha h14 1 ⟨some ⟨ha.size, 0, none⟩, 1, 1⟩ ((stL n []).map .string) := by
    refine ⟨.inr ⟨ha.size, 0, _, rfl, r6, Nat.le_refl _, by simp, by simp [stL, flatL], by simp [stL, flatL]⟩, fun b hb => ?_⟩
    rw [blk_some] at hb; simp only at hb; omega
  have z14 := n14.size
  refine rng_grow sq (fun b hb => ?_) (fun b => b = h7.size ∨ b = ha.size) (fun b hb => ⟨fun hd => ?_, ?_⟩) (fun ex pre O hh => ex = .nrm ∧ ∃ s : Sl, Row hh h7.size [.slice s.a s.len s.cap] ∧ Own ha hh 1 s ((stL n pre).map .string) ∧ (∀ b, O b ↔ b = h7.size ∨ blk s.a b) ∧ (∀ b, blk s.a b → b ≠ h7.size ∧ ∃ cs, Row hh b cs)) ?_ ?_ ?_ ?_ ?_ ?_ ?_ ?_
  · rcases hb with hb | hb | hb
    · have := hF b hb; omega
    · omega
    · omega
  · rcases hd with hd | hd | hd
    · have := hF b hd; rcases hb with hb | hb <;> omega
    · rcases hb with hb | hb <;> omega
    · rcases hb with hb | hb <;> omega
  · rcases hb with hb | hb <;> omega
  · refine ⟨rfl, _, r8, own0, fun b => ⟨fun e => ?_, fun e => ?_⟩, fun b hb => ?_⟩
    · rcases e with e | e
      · exact .inl e
      · right; rw [blk_some]; exact e.symm
    · rcases e with e | e
      · exact .inl e
      · right; rw [blk_some] at e; exact e.symm
    · rw [blk_some] at hb
      simp only at hb
      subst hb
      exact ⟨by omega, _, r6⟩
  · rintro ex pre O hx hy ⟨rfl, s, w1, w2, w3, w4⟩ hk'
    refine ⟨rfl, s, hk'.row w1 (fun e => e.1 ((w3 _).2 (.inl rfl))), w2.keep hk' (fun b hb e => e.1 ((w3 b).2 (.inr hb))), w3, fun b hb => ?_⟩
    obtain ⟨ne, cs, hcs⟩ := w4 b hb
    exact ⟨ne, cs, hk'.row hcs (fun e => e.1 ((w3 b).2 (.inr hb)))⟩
  · rintro ex pre O hx ⟨rfl, s, w1, w2, w3, w4⟩ b hb
    rcases (w3 b).1 hb with rfl | e
    · exact ⟨_, w1⟩
    · exact (w4 b e).2
  · rintro pre x O h4' Q ⟨_, s, w1, w2, w3, w4⟩ k9 hpre hQ
    obtain ⟨hi', ex⟩ := pre_get hpre
    have sl := w2.len
    rw [List.length_map] at sl
    have sl2 : (stL n pre).length = 1 + 2 * pre.length := by unfold stL; rw [List.length_cons, flatL_len]; omega
    have zk := k9.size
    refine ldL_row (o := 0) w1 rfl ?_
    refine newB_row ?_
    intro h82 s82 r82 k82
    refine ldRow_row (o := 0) r82 (by simp) ?_
    rw [List.drop_zero, List.take_of_length_le (by simp)]
    have wS := w2.nw k82
    refine SlR.app wS.sl (new := [.string x.1, .string x.2]) rfl rfl (by intro u hu; rcases List.mem_cons.1 hu with rfl | hu; rfl; rcases List.mem_cons.1 hu with rfl | hu; rfl; cases hu) (by show (2 * (s.len + 2) + 1024) * 16 ≤ _; omega) ?_
    intro a' c' h85 v1 v2 v3
    have sb : ∀ b, blk s.a b → ha.size ≤ b ∧ b < h4'.size := fun b hb => ⟨w2.fresh b hb, w2.lt hb⟩
    have ab : ∀ b, blk a' b → blk s.a b ∨ h4'.size ≤ b := fun b hb => by
      rcases v3 with ⟨e, _⟩ | ⟨e, _⟩
      · rw [e] at hb; exact .inl hb
      · rw [e, blk_some] at hb; simp only at hb; exact .inr (by omega)
    have w1' : Row h85 h7.size [.slice s.a s.len s.cap] := v2.row (k82.row w1 (fun h => h)) (fun e => (w4 _ e).1 rfl)
    refine stC_row (o := 0) w1' (by simp) rfl ?_
    intro h87 s87 r87 k87
    have bO : Keep (fun b => O b ∨ h4'.size ≤ b) h4' h87 := by
      have e1 := k82.mono (T := fun b => O b ∨ h4'.size ≤ b) (fun b _ e => e.elim)
      have e2 := e1.trans v2 (fun b _ e => .inl ((w3 b).2 (.inr e)))
      exact e2.trans k87 (fun b _ e => .inl ((w3 b).2 (.inl e)))
    have w1lt := w1.lt
    have v1' : SlR h87 1 a' (s.len + 2) c' ((stL n pre).map .string ++ [.string x.1, .string x.2]) := v1.keep k87 (fun b hb e => by
      have e' : b = h7.size := e
      rcases ab b hb with q | q
      · exact (w4 b q).1 e'
      · omega)
    have es : (stL n (pre ++ [x])).map Value.string = (stL n pre).map .string ++ [.string x.1, .string x.2] := by
      unfold stL
      rw [flatL_app]
      simp [flatL]
    refine hQ .nrm (fun b => b = h7.size ∨ blk a' b) h87 ⟨rfl, ⟨a', s.len + 2, c'⟩, r87, ⟨?_, fun b hb => ?_⟩, fun b => Iff.rfl, fun b hb => ?_⟩ bO ?_
    · rw [es]; exact v1'
    · rcases ab b hb with q | q
      · exact (sb b q).1
      · omega
    · have hb2 : blk a' b := hb
      refine ⟨fun e => ?_, ?_⟩
      · rcases ab b hb2 with q | q
        · exact (w4 b q).1 e
        · omega
      · rcases v1' with ⟨e, _⟩ | ⟨b', o', cs, e, hr, _⟩
        · rw [e] at hb2; obtain ⟨y, e2, _⟩ := hb2; cases e2
        · rw [e, blk_some] at hb2
          simp only at hb2
          subst hb2
          exact ⟨cs, hr⟩
    · rintro b (rfl | e)
      · exact ⟨.inl ((w3 _).2 (.inl rfl)), r87.lt⟩
      · refine ⟨(ab b e).imp (fun q => (w3 b).2 (.inr q)) id, v1'.blk_lt e⟩
  · rintro O h' ⟨_, s, w1, w2, w3, w4⟩ k9
    have zk := k9.size
    have nw' : Nw h h' := n014.trans k9 (fun b hb' e => by have := n014.size; rcases e with (e | e) | e <;> omega)
    refine ldL_row (o := 0) w1 rfl ?_
    have sz := stL_sz n l
    have sl := w2.len
    rw [List.length_map] at sl
    have sl2 : (stL n l).length = 1 + 2 * l.length := by unfold stL; rw [List.length_cons, flatL_len]; omega
    refine Wal.pack_spec (rs := stL n l) w2.sl.rv (by omega) (by omega) ?_
    intro r h32 b32 f32 k32
    intro h33 z33 s33
    refine hk r h33 (shut_nw (nw'.trans' k32) (Nat.le_refl _) z33 s33) ?_ (fun b hb => by have := f32 b hb; have := nw'.size; omega)
    have hb32 := b32
    rcases hb32 with ⟨e1, e2, e3, e4⟩ | ⟨b', o', cs, e1, e2, e3⟩
    · exact .inl ⟨e1, e2, e3, e4⟩
    · exact .inr ⟨b', o', cs, e1, shut_row z33 s33 e2, e3⟩
  · rintro pre O hh ⟨e, _⟩; cases e
  · rintro i pre O hh ⟨e, _⟩; cases e
  · rintro i pre O hh ⟨e, _⟩; cases e

end Kv
end Go.Proofs.Ytkgocfaajfaidaa
