/- Package kv: restore, dead, told. -/
import Derived.Test.YtkgocfaajfaidaaKvB
namespace Go.Proofs.Ytkgocfaajfaidaa
open Go D
set_option linter.unusedVariables false
set_option linter.unusedSimpArgs false
namespace Kv
open Wal (packL unpackL)

/-- the fields of a store -/
def SRow (d q e : Nat) (g : Option Addr) (t n : Nat) : List Value := [.pointer (some ⟨d, 0, none⟩), .int .i64 (q : Int), .int .u64 (e : Int), .pointer g, .pointer (some ⟨t, 0, none⟩), .int .i64 (n : Int), .nilIface]

theorem dead_spec {h : Heap} {s : Nat} {cs : List Value} (hr : Row h s cs) (h6 : cs[6]? = some .nilIface) {R : Bool → Heap → Prop} (hk : R false h) : CallT Try.prog kv_Store_dead_no [.pointer (some ⟨s, 0, none⟩)] h [.sc .bool] R := by
  have hcall := kv_Store_dead_call (some ⟨s, 0, none⟩) (R := R) (h := h)
  apply hcall; clear hcall
  unfold kv_Store_dead
  rw [nn_eq, add_mk]
  refine ⟨.nilIface, by rw [hr.cells]; exact h6, ?_⟩
  exact hk

theorem told_spec {h : Heap} {s : Nat} {cs : List Value} (hr : Row h s cs) (hl : cs.length = 7) {e : Int} {R : Int → Heap → Prop} (hk : ∀ h', Row h' s (if e = 0 ∨ e = 60 then cs else cs.set 6 (.iface 28 (.int .i64 e))) → Keep (· = s) h h' → h'.size = h.size → R e h') :
    CallT Try.prog kv_Store_told_no [.pointer (some ⟨s, 0, none⟩), .int .i64 e] h [.sc (.int .i64)] R := by
  have hcall := kv_Store_told_call (some ⟨s, 0, none⟩) e (R := R) (h := h)
  apply hcall; clear hcall
  unfold kv_Store_told
  refine withJ.inl (withJ.inl ?_)
  by_cases h0 : e = 0
  · rw [if_pos (.inl h0)] at hk
    refine cnd_f (by simp [h0]) ?_
    exact cnd_f rfl (hk h hr (.refl _ _) rfl)
  · refine cnd_t (by simp [h0]) ?_
    by_cases h6 : e = 60
    · rw [if_pos (.inr h6)] at hk
      exact cnd_f (by simp [h6]) (hk h hr (.refl _ _) rfl)
    · rw [if_neg (by omega)] at hk
      refine cnd_t (by simp [h6]) ?_
      rw [nn_eq, add_mk]
      refine stC_row (o := 0 + 6) hr (by omega) rfl ?_
      intro h8 s8 r8 k8
      exact hk h8 r8 k8 s8

theorem insKV_snoc {k v : Key} : ∀ {l : List KV}, (∀ p ∈ l, klt p.1 k) → insKV k v l = l ++ [(k, v)]
  | [], _ => rfl
  | (a, x) :: r, h => by
    unfold insKV
    rw [if_pos (h (a, x) (by simp)), insKV_snoc (fun p hp => h p (by simp [hp]))]; rfl
def okP (p : KV) : Prop := 0 < p.1.size ∧ p.1.size ≤ 2048 ∧ p.2.size ≤ 65536
theorem may_put {p : KV} (h : okP p) : mayC (p.1, p.2, false) = true := mayC_iff.2 ⟨h.1, h.2.1, h.2.2, fun e => by cases e⟩
theorem g64_p64 {n : Nat} (hn : n < 18446744073709551616) : Enc.g64 (Enc.p64 n) = n := by
  exact Enc.g64_p64 hn

theorem fn_fn {F : Nat → Prop} {h0 h1 h2 : Heap} (z : h0.size ≤ h1.size) (z2 : h1.size ≤ h2.size) {b : Nat} (hb : Fn (Fn F h0 h1) h1 h2 b) : Fn F h0 h2 b := by
  rcases hb with hb | hb
  · exact fn_mono (Nat.le_refl _) z2 hb
  · exact .inr ⟨by have := hb.1; omega, hb.2⟩
theorem fn_lt {F : Nat → Prop} {h0 h1 : Heap} (hF : ∀ b, F b → b < h0.size) (z : h0.size ≤ h1.size) : ∀ b, Fn F h0 h1 b → b < h1.size := fun b hb => by
  rcases hb with hb | hb
  · have := hF b hb; omega
  · exact hb.2

set_option maxHeartbeats 1000000 in
theorem restore_spec {h : Heap} {F : Nat → Prop} {s d q e : Nat} {g : Option Addr} {t n0 : Nat} (hr : Row h s (SRow d q e g t n0)) (ht : TreeAt h F t []) (hF : ∀ b, F b → b < h.size) (hs : ¬ F s) {n : Nat} {l : List KV} (hn : n ≤ 1000000000000000000) (hok : ∀ p ∈ l, okP p) (ha : Asc (l.map (·.1))) (hl : szL l ≤ 900000000)
    {r : Sl} (hb : Rb h r.a r.len (packL (stL n l))) (hrc : r.len ≤ r.cap) {R : Bool → Heap → Prop}
    (hk : ∀ t' h', Row h' s (SRow d q e g t' n) → TreeAt h' (Fn F h h') t' l → Keep (· = s) h h' → R true h') : CallT Try.prog kv_Store_restore_no [.pointer (some ⟨s, 0, none⟩), .slice r.a r.len r.cap] h [.sc .bool] R := by
  have hcall := kv_Store_restore_call (some ⟨s, 0, none⟩) r (R := R) (h := h)
  apply hcall; clear hcall
  unfold kv_Store_restore
  have sz := stL_sz n l
  have hbl := hb.len
  have slt := hr.lt
  have hll := szL_len l
  have un : unpackL (packL (stL n l)) = some (stL n l) := Wal.unpack_pack _ (by omega)
  refine Wal.unpack_spec hb hrc (by omega) (fun e => ?_) (fun rs e u h2 t2 le2 f2 k2 => ?_)
  · rw [un] at e; cases e
  rw [un] at e
  injection e with e
  subst e
  have ul := t2.len
  have ul2 : (stL n l).length = 1 + 2 * l.length := by unfold stL; rw [List.length_cons, flatL_len]; omega
  refine withJ.inl (withJ.inl ?_)
  refine cnd_f rfl ?_
  refine cnd_f (by
    rw [ul, ul2]
    have : ((1 + 2 * l.length : Nat) : Int).tmod 2 = 1 := by rw [Int.tmod_eq_emod_of_nonneg (by omega)]; omega
    rw [this]; rfl) ?_
  have at0 : ∀ {K : ByteArray → Prop} {i : Nat} {x : ByteArray} {h' : Heap}, Ts h' u.a u.len (stL n l) → (stL n l)[i]? = some x → K x → idx u.a u.len (i : Int) fun a => ldS (a.add ((i : Int).toNat * 1)) h' K := by
    intro K i x h' t' hx hK
    have hi : i < (stL n l).length := (List.getElem?_eq_some_iff.1 hx).1
    refine Ts.at t' (by omega) (by omega) ?_
    intro y hy
    rw [Int.toNat_natCast, hx] at hy
    injection hy with hy
    subst hy
    exact hK
  have at1 : ∀ {K : Addr → Prop} {i : Nat} {x : ByteArray} {h' : Heap}, Ts h' u.a u.len (stL n l) → (stL n l)[i]? = some x → (∀ a : Addr, cellH h' (a.add ((i : Int).toNat * 1)) = some (.string x) → K a) → idx u.a u.len (i : Int) K := by
    intro K i x h' t' hx hK
    have hi : i < (stL n l).length := (List.getElem?_eq_some_iff.1 hx).1
    exact Rv.at t' (by omega) (by omega) (by rw [Int.toNat_natCast, List.getElem?_map, hx]; rfl) hK
  refine at0 (i := 0) t2 rfl ?_
  have p8 : (ofL (Enc.p64 n)).size = 8 := by rw [Snap.ofL_size, Enc.p64_length]
  refine s2b_row (by omega) ?_
  intro c9 h10 b10 k10 s10
  have rb10 : Rb h10 (some ⟨h2.size, 0, none⟩) 8 (Enc.p64 n) := by
    have := SlR.rv b10
    rw [ofL_bytes, p8] at this
    exact this
  rw [p8]
  refine Enc.get64_spec rb10 ?_
  rw [g64_p64 (by omega)]
  refine withJ.inl (withJ.inl ?_)
  refine cnd_f rfl ?_
  refine cnd_f (decide_eq_false (by show ¬ (n : Int) > 1000000000000000000; omega)) ?_
  have n10 : Nw h h10 := k2.trans' k10
  rw [nn_eq, add_mk]
  refine stC_row (o := 0 + 5) (n10.row hr (fun h => h)) (by simp [SRow]) rfl ?_
  intro h17 s17 r17 k17
  have ew : w64 (n : Int) = n := w64_id (by omega) (by omega)
  have r17' : Row h17 s (SRow d q e g t n) := by
    have e1 : (SRow d q e g t n0).set (0 + 5) (.int .i64 (w64 (n : Int))) = SRow d q e g t n := by rw [ew]; rfl
    rw [e1] at r17; exact r17
  have z10 := n10.size
  have z2 := k2.size
  have ublk : ∀ b, blk u.a b → b ≠ s := fun b hb e => by have := f2 b hb; omega
  have k217 : Keep (· = s) h2 h17 := (k10.mono (T := (· = s)) (fun _ _ h => h.elim)).trans' k17
  have t17 : TreeAt h17 F t (l.take 0) := (ht.nw n10).keep k17 (fun b hb e => hs (by have e' : b = s := e; rw [← e']; exact hb))
  refine LoopT.intro (fun (i : Int) h' => ∃ k : Nat, i = ((1 + 2 * k : Nat) : Int) ∧ k ≤ l.length ∧ ∃ t', Row h' s (SRow d q e g t' n) ∧ TreeAt h' (Fn F h2 h') t' (l.take k) ∧ Keep (· = s) h2 h') (fun i _ => ((u.len : Int) - i).toNat)
    ⟨0, rfl, Nat.zero_le _, t, r17', t17.mono (fun b hb => .inl hb), k217⟩ ?_
  rintro _ h20 ⟨k, rfl, hkl, t', w1, w2, w3⟩
  have z20 := w3.size
  have t20 : Ts h20 u.a u.len (stL n l) := Rv.keep t2 w3 (fun _ b hb e => ublk b hb e)
  refine cnd_dec (fun hi => ?_) (fun hi => ?_)
  · have hk' : k < l.length := by
      have : ((1 + 2 * k : Nat) : Int) < (u.len : Int) := hi
      omega
    obtain ⟨g1, g2⟩ := flatL_get l k hk'
    have gx : (stL n l)[1 + 2 * k]? = some l[k].1 := by unfold stL; rw [show 1 + 2 * k = 2 * k + 1 by omega, List.getElem?_cons_succ]; exact g1
    have gy : (stL n l)[2 + 2 * k]? = some l[k].2 := by unfold stL; rw [show 2 + 2 * k = 2 * k + 1 + 1 by omega, List.getElem?_cons_succ]; exact g2
    have e1 : w64 (((1 + 2 * k : Nat) : Int) + 1) = ((2 + 2 * k : Nat) : Int) := by rw [w64_id (by omega) (by omega)]; omega
    refine withJ.inl ?_
    refine at1 t20 gx ?_
    intro ax cx
    refine ldS_at cx ?_
    rw [e1]
    refine at1 t20 gy ?_
    intro ay cy
    refine ldS_at cy ?_
    refine newB_row ?_
    intro h29 s29 r29 k29
    refine ⟨ldS_at (k29.cell cy (fun h => h)) rfl, ldS_at (k29.cell cx (fun h => h)) rfl, ?_⟩
    refine stC_row (o := 0) r29 (by simp) rfl ?_
    intro h32 s32 r32 k32
    refine stC_row (o := 0 + 1) r32 (by simp) rfl ?_
    intro h33 s33 r33 k33
    refine stC_row (o := 0 + 2) r33 (by simp) rfl ?_
    intro h34 s34 r34 k34
    have n34 : Nw h20 h34 := Nw.st (Nw.st (Nw.st k29 k32 (Nat.le_refl _)) k33 (Nat.le_refl _)) k34 (Nat.le_refl _)
    refine withJ.inl (withJ.inl ?_)
    refine ldS_row (o := 0) r34 rfl (ldS_row (o := 0 + 1) r34 rfl (ldB_row (o := 0 + 2) r34 rfl ?_))
    refine may_spec (c := (l[k].1, l[k].2, false)) ?_
    intro h54 k54
    have n54 : Nw h20 h54 := n34.trans' k54
    rw [may_put (hok _ (List.getElem_mem hk'))]
    refine cnd_f rfl ?_
    have w1' := n54.row w1 (fun h => h)
    have w2' := w2.nw n54
    have r54 := k54.row r34 (fun h => h)
    have z54 := n54.size
    have kk54 : Keep (· = s) h2 h54 := w3.trans n54 (fun _ _ h => h.elim)
    have fin : ∀ {X : Prop}, cnd false X (nn (some ⟨s, 0, none⟩) fun a38 => ldP (a38.add 4) h54 fun p39 => ldS ⟨h20.size, 0, none⟩ h54 fun s40 => ldS ((⟨h20.size, 0, none⟩ : Addr).add 1) h54 fun s41 => ldB ((⟨h20.size, 0, none⟩ : Addr).add 2) h54 fun b42 =>
        CallT Try.prog kv_apply_no [.pointer p39, .agg #[.string s40, .string s41, .bool b42]] h54 [.sc .ptr] fun (r43 : Option Addr) h44 => nn (some ⟨s, 0, none⟩) fun a45 => stC (a45.add 4) (.pointer r43) h44 fun h46 =>
        (∃ k' : Nat, w64 (((1 + 2 * k : Nat) : Int) + 2) = ((1 + 2 * k' : Nat) : Int) ∧ k' ≤ l.length ∧ ∃ t', Row h46 s (SRow d q e g t' n) ∧ TreeAt h46 (Fn F h2 h46) t' (l.take k') ∧ Keep (· = s) h2 h46) ∧ ((u.len : Int) - w64 (((1 + 2 * k : Nat) : Int) + 2)).toNat < ((u.len : Int) - ((1 + 2 * k : Nat) : Int)).toNat) := by
      intro X
      refine cnd_f rfl ?_
      rw [nn_eq, add_mk]
      refine ldP_row (o := 0 + 4) w1' rfl ?_
      refine ldS_row (o := 0) r54 rfl (ldS_row (o := 0 + 1) r54 rfl (ldB_row (o := 0 + 2) r54 rfl ?_))
      refine apply_spec (c := (l[k].1, l[k].2, false)) w2' (fun b hb => by
        have := fn_lt (h0 := h2) (h1 := h20) (fun b hb => by have := hF b hb; omega) z20 b hb
        omega) (by rw [List.length_take]; omega) ?_
      intro t'' h44 n44 t44
      have z44 := n44.size
      rw [nn_eq, add_mk]
      refine stC_row (o := 0 + 4) (n44.row w1' (fun h => h)) (by simp [SRow]) rfl ?_
      intro h46 s46 r46 k46
      have ew2 : w64 (((1 + 2 * k : Nat) : Int) + 2) = ((1 + 2 * (k + 1) : Nat) : Int) := by rw [w64_id (by omega) (by omega)]; omega
      have fmap : ∀ b, Fn (Fn F h2 h20) h54 h44 b → Fn F h2 h46 b := fun b hb => by
        rcases hb with hb | hb
        · exact fn_mono (Nat.le_refl _) (by omega) hb
        · exact .inr ⟨by have := hb.1; omega, by have := hb.2; omega⟩
      refine ⟨⟨k + 1, ew2, by omega, t'', r46, ?_, (kk54.trans n44 (fun _ _ h => h.elim)).trans' k46⟩, ?_⟩
      · have e2 : appC (l[k].1, l[k].2, false) (l.take k) = l.take (k + 1) := by
          show insKV l[k].1 l[k].2 (l.take k) = _
          rw [insKV_snoc (fun p hp => ?_), List.take_add_one, List.getElem?_eq_getElem hk']
          · rfl
          · obtain ⟨j, hj, rfl⟩ := List.mem_iff_getElem.1 hp
            rw [List.length_take] at hj
            rw [List.getElem_take]
            exact asc_get (i := j) (j := k) ha (by omega) (by rw [List.getElem?_map, List.getElem?_eq_getElem (by omega)]; rfl) (by rw [List.getElem?_map, List.getElem?_eq_getElem hk']; rfl)
        rw [← e2]
        refine (t44.keep k46 (fun b hb e => ?_)).mono fmap
        have e' : b = s := e
        subst e'
        rcases hb with hb | hb
        · rcases hb with hb | hb
          · exact hs hb
          · have := hb.1; omega
        · have := hb.1; omega
      · rw [ew2]; omega
    by_cases hk0 : k = 0
    · refine cnd_f (decide_eq_false (by subst hk0; show ¬ ((1 : Nat) : Int) > 1; omega)) ?_
      exact fin
    · refine cnd_t (decide_eq_true (by show ((1 + 2 * k : Nat) : Int) > 1; omega)) ?_
      obtain ⟨k1, rfl⟩ : ∃ k1, k = k1 + 1 := ⟨k - 1, by omega⟩
      have e3 : w64 (((1 + 2 * (k1 + 1) : Nat) : Int) - 2) = ((1 + 2 * k1 : Nat) : Int) := by rw [w64_id (by omega) (by omega)]; omega
      obtain ⟨g3, _⟩ := flatL_get l k1 (by omega)
      have gz : (stL n l)[1 + 2 * k1]? = some l[k1].1 := by unfold stL; rw [show 1 + 2 * k1 = 2 * k1 + 1 by omega, List.getElem?_cons_succ]; exact g3
      rw [e3]
      refine at0 (t20.keep0 n54) gz ?_
      refine at0 (t20.keep0 n54) gx ?_
      have hlt : klt l[k1].1 l[k1 + 1].1 := asc_get (i := k1) (j := k1 + 1) ha (by omega) (by rw [List.getElem?_map, List.getElem?_eq_getElem (by omega)]; rfl) (by rw [List.getElem?_map, List.getElem?_eq_getElem hk']; rfl)
      have hs1 : D.slt l[k1].1 l[k1 + 1].1 = true := hlt
      rw [hs1]
      exact fin
  · have hk' : k = l.length := by
      have : ¬ ((1 + 2 * k : Nat) : Int) < (u.len : Int) := hi
      omega
    subst hk'
    rw [List.take_length] at w2
    refine hk t' h20 w1 (w2.mono (fun b hb => fn_mono z2 (Nat.le_refl _) hb)) ((k2.mono (fun _ _ h => h.elim)).trans w3 (fun _ _ h => h))

end Kv
end Go.Proofs.Ytkgocfaajfaidaa
