/- awake; what came in; TreePlays. -/
import Derived.Test.YtopnljjfpfnhfaaPLawB
import Derived.Test.YtopnljjfpfnhfaaPArgs
namespace Go.Proofs.Ytopnljjfpfnhfaa
open Go D
set_option linter.unusedVariables false
set_option linter.unusedSimpArgs false

theorem fn_lt {F : Nat → Prop} {h h' : Heap} (hF : ∀ b, F b → b < h.size) (hz : h.size ≤ h'.size) : ∀ b, Fn F h h' b → b < h'.size := fun b hb => by
  rcases hb with hb | hb
  · have := hF b hb; omega
  · exact hb.2
theorem klt_byte {a b : UInt8} : klt ⟨#[a]⟩ ⟨#[b]⟩ ↔ a < b := by
  unfold klt slt
  rw [ByteArray.toList_eq, ByteArray.toList_eq]
  simp [Op.bytesLess]
theorem key_ne {a b : UInt8} (h : a ≠ b) : (⟨#[a]⟩ : Key) ≠ ⟨#[b]⟩ := fun e => h (by
  have := congrArg (fun k : ByteArray => k.data.toList) e
  simpa using this)
abbrev lAwake : List KV := [(⟨#[97]⟩, ⟨#[50]⟩), (⟨#[98]⟩, ⟨#[49]⟩)]
theorem ins_awake : insKV ⟨#[97]⟩ ⟨#[50]⟩ (insKV ⟨#[98]⟩ ⟨#[49]⟩ []) = lAwake := by
  show insKV ⟨#[97]⟩ ⟨#[50]⟩ [((⟨#[98]⟩ : Key), (⟨#[49]⟩ : Key))] = _
  unfold insKV
  rw [if_neg (fun h => by rw [klt_byte] at h; revert h; decide), if_neg (key_ne (by decide))]
theorem get_awake : getL ⟨#[97]⟩ lAwake = some ⟨#[50]⟩ := by
  unfold getL
  rw [List.find?_cons_of_pos (by simp)]
  rfl
theorem small_leaf {t : List KV} (h : t.length ≤ 8) : Small 0 [t] := ⟨Nat.le_of_ble_eq_true rfl, fun u hu => by
  rcases List.mem_cons.1 hu with rfl | hu
  · exact h
  · cases hu⟩

theorem awake_spec {h : Heap} {R : Bool → Heap → Prop} (hk : ∀ h', Nw h h' → R true h') : CallT Try.prog law8_awake_no [] h [.sc .bool] R := by
  apply law8_awake_call
  unfold law8_awake
  refine treeNew ?_
  intro p1 h2 n2 t1
  have F1 : ∀ b, New h h2 b → b < h2.size := fun b hb => hb.2
  refine cnd_f rfl ?_
  refine treePut t1 F1 (by simp) ?_
  intro p2 h4 n4 t2
  have F2 := fn_lt F1 n4.size
  refine treePut t2 F2 (by simp [insKV]) ?_
  intro p3 h6 n6 t3
  rw [ins_awake] at t3
  have F3 := fn_lt F2 n6.size
  refine treeGet t3 ?_
  intro h8 n8
  rw [get_awake]
  have t8 := t3.nw n8
  obtain ⟨n, t, tr, o, e⟩ := t8
  have n0 : n = 0 := by
    cases n with
    | zero => rfl
    | succ n =>
      have h1 := many_root o.1
      rw [e] at h1
      have h2 : 0 < 4 ^ (n + 1) := Nat.pow_pos (by omega)
      have h3 : 4 ^ (n + 1) = 4 * 4 ^ n := by rw [Nat.pow_succ, Nat.mul_comm]
      have h4 : 0 < 4 ^ n := Nat.pow_pos (by omega)
      simp at h1
      omega
  subst n0
  have tr' := tr
  refine levels_spec tr (fun b hb => by have := F3 b hb; have := n8.size; omega) (small_leaf o.1.2) (by omega) o.1 (.inl rfl) ?_
  intro r us h10 n10 rv10 fr10 ks
  have t10 : TreeAt h10 _ p3 lAwake := ⟨0, t, tr'.nw n10, o, e⟩
  have t1' : TreeAt h10 _ p1 [] := ((((t1.nw n4).nw n6).nw n8).nw n10)
  have nall : Nw h h10 := (((n2.trans' n4).trans' n6).trans' n8).trans' n10
  have ll : levF 0 [t] = [[keysOf 0 t]] := rfl
  rw [ll] at ks
  have kt : keysOf 0 t = [⟨#[97]⟩, ⟨#[98]⟩] := by
    show List.map (·.1) t = _
    have e' : (t : List KV) = lAwake := e
    rw [e']; rfl
  rw [kt] at ks
  refine withJ.inl ?_
  refine cnd_t rfl ?_
  refine cnd_t (seq_self _) ?_
  refine treeLen t10 ?_
  refine cnd_t rfl ?_
  refine treeLen t1' ?_
  refine cnd_t rfl ?_
  have l1 := rv10.1
  have l2 := ks.1
  simp at l2
  refine cnd_t (by rw [beq_iff_eq]; omega) ?_
  obtain ⟨a, l, c, us2, ev, rv2, _, ks2⟩ := ks.2 0 (us[0]'(by omega)) _ (List.getElem?_eq_getElem (by omega)) rfl
  have l3 := rv2.1
  have l4 := ks2.1
  simp at l4
  have at0 : ∀ {K : Option Addr → Nat → Nat → Prop}, K a l c → idx r.a r.len 0 fun a18 => ldL (a18.add ((0 : Int).toNat * 1)) h10 K := by
    intro K hK
    refine Rv.at rv10 (by omega) (by omega) (v := us[0]'(by omega)) (by simp) ?_
    intro x hx
    rw [ev] at hx
    exact ldL_at hx hK
  refine at0 ?_
  refine cnd_t (by rw [beq_iff_eq]; omega) ?_
  refine at0 ?_
  obtain ⟨a', l', c', ev', rv3, _⟩ := ks2.2 0 (us2[0]'(by omega)) _ (List.getElem?_eq_getElem (by omega)) rfl
  have l5 := rv3.1
  refine Rv.at rv2 (by omega) (by omega) (v := us2[0]'(by omega)) (by simp) ?_
  intro x hx
  rw [ev'] at hx
  refine ldL_at hx ?_
  have : ((l' : Int) == 2) = true := by rw [beq_iff_eq, l5]; rfl
  rw [this]
  exact hk h10 nall

/-! ### what came in -/
def strAt (h : Heap) (x : Addr) : Key := match cellH h x with | some (.string s) => s | _ => ⟨#[]⟩
def bolAt (h : Heap) (x : Addr) : Bool := match cellH h x with | some (.bool s) => s | _ => false
/-- the changes that a slice holds -/
def opK (h : Heap) (a : Option Addr) (i : Nat) : KV := match a with | some x => (strAt h (x.add (i * 3)), strAt h ((x.add (i * 3)).add 1)) | none => (⟨#[]⟩, ⟨#[]⟩)
def opD (h : Heap) (a : Option Addr) (i : Nat) : Bool := match a with | some x => bolAt h ((x.add (i * 3)).add 2) | none => false
def OpS (h : Heap) (a : Option Addr) (l : Nat) : Prop := ∀ i : Nat, i < l → ∃ x, a = some x ∧ cellH h (x.add (i * 3)) = some (.string (opK h a i).1) ∧ cellH h ((x.add (i * 3)).add 1) = some (.string (opK h a i).2) ∧ cellH h ((x.add (i * 3)).add 2) = some (.bool (opD h a i))
def StrsAt (h : Heap) (a : Option Addr) (l : Nat) : Prop := ∀ i : Nat, i < l → ∃ x z, a = some x ∧ cellH h (x.add (i * 1)) = some (.string z)
theorem opS_of {h : Heap} {a : Option Addr} {l c n : Nat} (hs : InSl 3 (InAgg 3 [(0, 1, InStr), (1, 1, InStr), (2, 1, InBool)]) h n [.slice a l c]) : OpS h a l := by
  rcases hs with h1 | ⟨x, l', c', h1, h2, h3, h4, h5⟩
  · injection h1 with h1
    injection h1 with h1 h2 h3
    subst h2
    intro i hi
    omega
  · injection h1 with h1
    injection h1 with e1 e2 e3
    subst e1 e2 e3
    intro i hi
    obtain ⟨r, b, g1, _, g2, g3, g4⟩ := h5 i (by omega)
    obtain ⟨b0, _, n0, f0, _⟩ := g4 (0, 1, InStr) (by simp)
    obtain ⟨b1, _, n1, f1, _⟩ := g4 (1, 1, InStr) (by simp)
    obtain ⟨b2, _, n2, f2, _⟩ := g4 (2, 1, InBool) (by simp)
    match r, g1, f0, f1, f2 with
    | [y0, y1, y2], _, f0, f1, f2 =>
      simp at f0 f1 f2
      subst f0 f1 f2
      have w0 := g2 0 (by omega)
      rw [add_zero] at w0
      have w1 := g2 1 (by omega)
      have w2 := g2 2 (by omega)
      refine ⟨x, rfl, ?_, ?_, ?_⟩
      · rw [w0]; simp only [opK, strAt, w0]; rfl
      · rw [w1]; simp only [opK, strAt, w1]; rfl
      · rw [w2]; simp only [opD, bolAt, w2]; rfl
theorem strs_of {h : Heap} {a : Option Addr} {l c n : Nat} (hs : InSl 1 InStr h n [.slice a l c]) : StrsAt h a l := by
  rcases hs with h1 | ⟨x, l', c', h1, h2, h3, h4, h5⟩
  · injection h1 with h1
    injection h1 with h1 h2 h3
    subst h2
    intro i hi
    omega
  · injection h1 with h1
    injection h1 with e1 e2 e3
    subst e1 e2 e3
    intro i hi
    obtain ⟨r, b, g1, _, g2, z, rfl, _⟩ := h5 i (by omega)
    have := g2 0 (by omega)
    rw [add_zero] at this
    exact ⟨x, z, rfl, this⟩
section
variable {h h' : Heap} {a : Option Addr} {l : Nat}
theorem OpS.k (hs : OpS h a l) (hk : Nw h h') {i : Nat} (hi : i < l) {K : Key → Prop} (hK : K (opK h a i).1) : idx a l (i : Int) fun x => ldS (x.add ((i : Int).toNat * 3)) h' K := by
  obtain ⟨x, e, c1, c2, c3⟩ := hs i hi
  refine ⟨x, e, by omega, by omega, ?_⟩
  rw [Int.toNat_natCast]
  exact ldS_at (hk.cell c1 (fun h => h)) hK
theorem OpS.v (hs : OpS h a l) (hk : Nw h h') {i : Nat} (hi : i < l) {K : Key → Prop} (hK : K (opK h a i).2) : idx a l (i : Int) fun x => ldS ((x.add ((i : Int).toNat * 3)).add 1) h' K := by
  obtain ⟨x, e, c1, c2, c3⟩ := hs i hi
  refine ⟨x, e, by omega, by omega, ?_⟩
  rw [Int.toNat_natCast]
  exact ldS_at (hk.cell c2 (fun h => h)) hK
theorem OpS.d (hs : OpS h a l) (hk : Nw h h') {i : Nat} (hi : i < l) {K : Bool → Prop} (hK : K (opD h a i)) : idx a l (i : Int) fun x => ldB ((x.add ((i : Int).toNat * 3)).add 2) h' K := by
  obtain ⟨x, e, c1, c2, c3⟩ := hs i hi
  refine ⟨x, e, by omega, by omega, ?_⟩
  rw [Int.toNat_natCast]
  exact ldB_at (hk.cell c3 (fun h => h)) hK
theorem OpS.all (hs : OpS h a l) (hk : Nw h h') {i : Nat} (hi : i < l) {K : Key → Key → Bool → Prop} (hK : K (opK h a i).1 (opK h a i).2 (opD h a i)) : idx a l (i : Int) fun x => ldS (x.add ((i : Int).toNat * 3)) h' fun s => ldS ((x.add ((i : Int).toNat * 3)).add 1) h' fun t => ldB ((x.add ((i : Int).toNat * 3)).add 2) h' fun b => K s t b := by
  obtain ⟨x, e, c1, c2, c3⟩ := hs i hi
  refine ⟨x, e, by omega, by omega, ?_⟩
  rw [Int.toNat_natCast]
  exact ldS_at (hk.cell c1 (fun h => h)) (ldS_at (hk.cell c2 (fun h => h)) (ldB_at (hk.cell c3 (fun h => h)) hK))
theorem StrsAt.ld (hs : StrsAt h a l) (hk : Nw h h') {i : Nat} (hi : i < l) {K : Key → Prop} (hK : ∀ z, K z) : idx a l (i : Int) fun x => ldS (x.add ((i : Int).toNat * 1)) h' K := by
  obtain ⟨x, z, e, c1⟩ := hs i hi
  refine ⟨x, e, by omega, by omega, ?_⟩
  rw [Int.toNat_natCast]
  exact ldS_at (hk.cell c1 (fun h => h)) (hK z)
end
end Go.Proofs.Ytopnljjfpfnhfaa
