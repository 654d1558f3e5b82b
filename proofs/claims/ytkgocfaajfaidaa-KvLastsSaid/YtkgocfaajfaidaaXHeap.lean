/- Words and laws for proofs over the short texts: rows of cells, what stays, rules for the words. -/
import Derived.Test.YtkgocfaajfaidaaXSndB
namespace Go.Proofs.Ytkgocfaajfaidaa.D
open Go
set_option linter.unusedVariables false
set_option linter.unusedSimpArgs false

/-! ### numbers -/
abbrev w64 (x : Int) : Int := IntKind.i64.wrap x

theorem w64_id {x : Int} (h1 : -9223372036854775808 ≤ x) (h2 : x ≤ 9223372036854775807) : w64 x = x := by
  simp only [w64, IntKind.wrap, IntKind.bits, IntKind.signed, Bool.true_and]
  have e : ((2 : Int) ^ 64) = 18446744073709551616 := by decide
  have e2 : ((2 : Int) ^ (64 - 1)) = 9223372036854775808 := by decide
  simp only [e, e2, decide_eq_true_eq]
  split <;> omega

theorem wrap_u64_id {x : Int} (h1 : 0 ≤ x) (h2 : x ≤ 18446744073709551615) : IntKind.u64.wrap x = x := by
  simp only [IntKind.wrap, IntKind.bits, IntKind.signed, Bool.false_and]
  have e : ((2 : Int) ^ 64) = 18446744073709551616 := by decide
  simp only [e]
  simp
  omega

theorem wrap_u8 {x : Int} : IntKind.u8.wrap x = x % 256 := by
  simp only [IntKind.wrap, IntKind.bits, IntKind.signed, Bool.false_and]
  simp
theorem wrap_u32 {x : Int} : IntKind.u32.wrap x = x % 4294967296 := by
  simp only [IntKind.wrap, IntKind.bits, IntKind.signed, Bool.false_and]
  simp
theorem wrap_u64 {x : Int} : IntKind.u64.wrap x = x % 18446744073709551616 := by
  simp only [IntKind.wrap, IntKind.bits, IntKind.signed, Bool.false_and]
  simp

theorem ofInt_nat {n x : Nat} (h : x < 2 ^ n) : (BitVec.ofInt n (x : Int)).toNat = x := by
  rw [BitVec.toNat_ofInt]
  have : ((x : Int) % ((2 ^ n : Nat) : Int)) = ((x % 2 ^ n : Nat) : Int) := by simp
  rw [this, Int.toNat_natCast, Nat.mod_eq_of_lt h]

theorem andI_u64 {x y : Nat} (hx : x < 2 ^ 64) (hy : y < 2 ^ 64) : andI .u64 (x : Int) (y : Int) = ((x &&& y : Nat) : Int) := by
  unfold andI
  rw [BitVec.toNat_and]
  simp only [IntKind.bits]
  rw [ofInt_nat hx, ofInt_nat hy]
  have : x &&& y < 2 ^ 64 := Nat.and_lt_two_pow _ hy
  exact wrap_u64_id (by omega) (by have e : (2 : Nat) ^ 64 = 18446744073709551616 := by decide
                                   omega)
theorem xorI_u64 {x y : Nat} (hx : x < 2 ^ 64) (hy : y < 2 ^ 64) : xorI .u64 (x : Int) (y : Int) = ((x ^^^ y : Nat) : Int) := by
  unfold xorI
  rw [BitVec.toNat_xor]
  simp only [IntKind.bits]
  rw [ofInt_nat hx, ofInt_nat hy]
  have : x ^^^ y < 2 ^ 64 := Nat.xor_lt_two_pow hx hy
  exact wrap_u64_id (by omega) (by have e : (2 : Nat) ^ 64 = 18446744073709551616 := by decide
                                   omega)
theorem andI_i64 {x y : Nat} (hx : x < 2 ^ 63) (hy : y < 2 ^ 63) : andI .i64 (x : Int) (y : Int) = ((x &&& y : Nat) : Int) := by
  unfold andI
  rw [BitVec.toNat_and]
  simp only [IntKind.bits]
  have e : (2 : Nat) ^ 63 = 9223372036854775808 := by decide
  rw [ofInt_nat (by have e : (2 : Nat) ^ 64 = 18446744073709551616 := by decide
                    omega), ofInt_nat (by have e : (2 : Nat) ^ 64 = 18446744073709551616 := by decide
                                          omega)]
  have : x &&& y < 2 ^ 63 := Nat.and_lt_two_pow _ hy
  exact w64_id (by omega) (by omega)

theorem shrI_nat {k : IntKind} {x n : Nat} (hn : n ≤ k.bits) : shrI k (x : Int) (n : Int) = ((x >>> n : Nat) : Int) := by
  unfold shrI
  rw [Int.toNat_natCast, Nat.min_eq_left hn, Nat.shiftRight_eq_div_pow]
  rw [Int.fdiv_eq_ediv_of_nonneg _ (by exact Int.pow_nonneg (by decide))]
  simp

/-! ### rows -/
theorem add_mk (b o n : Nat) : (⟨b, o, none⟩ : Addr).add n = ⟨b, o + n, none⟩ := by
  unfold Addr.add
  split
  · rename_i h; subst h; rfl
  · rfl

/-- block b is a row of these cells, and may be written -/
def Row (h : Heap) (b : Nat) (cs : List Value) : Prop := ∃ t lo hi, h[b]? = some (.cells cs.toArray t (lo, hi)) ∧ ∀ o, o < cs.length → ¬ (lo ≤ o ∧ o < hi)

theorem Row.cells {h : Heap} {b : Nat} {cs : List Value} (hr : Row h b cs) (o : Nat) : cellH h ⟨b, o, none⟩ = cs[o]? := by
  obtain ⟨t, lo, hi, h1, _⟩ := hr
  simp [cellH, h1]

theorem Row.lt {h : Heap} {b : Nat} {cs : List Value} (hr : Row h b cs) : b < h.size := by
  obtain ⟨t, lo, hi, h1, _⟩ := hr
  exact (Array.getElem?_eq_some_iff.1 h1).1

theorem Row.froz {h : Heap} {b : Nat} {cs : List Value} (hr : Row h b cs) {o : Nat} (ho : o < cs.length) : frozH h ⟨b, o, none⟩ = false := by
  obtain ⟨t, lo, hi, h1, h2⟩ := hr
  have := h2 o ho
  simp only [frozH, h1]
  rw [Bool.eq_false_iff]
  intro h
  simp at h
  exact this h

theorem Row.inj {h : Heap} {b : Nat} {cs cs' : List Value} (h1 : Row h b cs) (h2 : Row h b cs') : cs = cs' := by
  obtain ⟨_, _, _, e1, _⟩ := h1
  obtain ⟨_, _, _, e2, _⟩ := h2
  rw [e1] at e2
  injection e2 with e2
  injection e2 with e2
  simpa using e2

theorem setH_size (h : Heap) (a : Addr) (v : Value) : (setH h a v).size = h.size := by simp [setH]

theorem Row.set {h : Heap} {b : Nat} {cs : List Value} (hr : Row h b cs) (o : Nat) (v : Value) : Row (setH h ⟨b, o, none⟩ v) b (cs.set o v) := by
  obtain ⟨t, lo, hi, h1, h2⟩ := hr
  refine ⟨t, lo, hi, ?_, by simpa using h2⟩
  rw [setH_get, if_pos rfl, h1]
  simp

/-- what there was stays, but for the blocks of S -/
structure Keep (S : Nat → Prop) (h h' : Heap) : Prop where
  size : h.size ≤ h'.size
  same : ∀ b, b < h.size → ¬ S b → h'[b]? = h[b]?

theorem Keep.refl (S : Nat → Prop) (h : Heap) : Keep S h h := ⟨Nat.le_refl _, fun _ _ _ => rfl⟩
theorem Keep.trans {S T : Nat → Prop} {a b c : Heap} (h : Keep S a b) (k : Keep T b c) (hs : ∀ x, x < a.size → T x → S x) : Keep S a c :=
  ⟨Nat.le_trans h.size k.size, fun x hx hn => (k.same x (Nat.lt_of_lt_of_le hx h.size) (fun ht => hn (hs x hx ht))).trans (h.same x hx hn)⟩
theorem Keep.trans' {S : Nat → Prop} {a b c : Heap} (h : Keep S a b) (k : Keep S b c) : Keep S a c := h.trans k (fun _ _ h => h)
theorem Keep.mono {S T : Nat → Prop} {a b : Heap} (h : Keep S a b) (hs : ∀ x, x < a.size → S x → T x) : Keep T a b := ⟨h.size, fun x hx hn => h.same x hx (fun h => hn (hs x hx h))⟩
theorem Keep.row {S : Nat → Prop} {h h' : Heap} (hk : Keep S h h') {b : Nat} {cs : List Value} (hr : Row h b cs) (hn : ¬ S b) : Row h' b cs := by
  have hlt := hr.lt
  obtain ⟨t, lo, hi, h1, h2⟩ := hr
  exact ⟨t, lo, hi, by rw [hk.same b hlt hn]; exact h1, h2⟩
theorem Keep.cell {S : Nat → Prop} {h h' : Heap} (hk : Keep S h h') {a : Addr} {v : Value} (hc : cellH h a = some v) (hn : ¬ S a.block) : cellH h' a = some v := by
  unfold cellH at hc ⊢
  have hlt : a.block < h.size := by
    rcases Nat.lt_or_ge a.block h.size with h1 | h1
    · exact h1
    · rw [Array.getElem?_eq_none h1] at hc; cases hc
  rw [hk.same a.block hlt hn]; exact hc

theorem keep_set (h : Heap) (a : Addr) (v : Value) : Keep (· = a.block) h (setH h a v) := by
  refine ⟨by rw [setH_size]; exact Nat.le_refl _, fun b hb hn => ?_⟩
  rw [setH_get, if_neg (fun e => hn e.symm)]

theorem keep_set' (h : Heap) (b o : Nat) (v : Value) : Keep (· = b) h (setH h ⟨b, o, none⟩ v) := keep_set h ⟨b, o, none⟩ v

theorem keep_push (h : Heap) (o : Obj) : Keep (fun _ => False) h (h.push o) := by
  refine ⟨by simp, fun b hb _ => ?_⟩
  rw [Array.getElem?_push, if_neg (by omega)]

theorem row_push (h : Heap) (cs : List Value) (t : TypeId) : Row (h.push (.cells cs.toArray t)) h.size cs :=
  ⟨t, 0, 0, by simp, by intro o _; omega⟩

/-! ### rules -/
theorem nn_eq (a : Addr) (K : Addr → Prop) : nn (some a) K = K a := rfl
theorem geZ_of {y : Int} {K : Prop} (h : 0 ≤ y) (hk : K) : geZ y K := ⟨h, hk⟩
theorem inB_of {n : Nat} {i : Int} {K : Prop} (h0 : 0 ≤ i) (h1 : i < n) (hk : K) : inB n i K := ⟨h0, h1, hk⟩
theorem nn_some {a : Addr} {K : Addr → Prop} (h : K a) : nn (some a) K := h
theorem cnd_of {b : Bool} {A B : Prop} (h1 : b = true → A) (h2 : b = false → B) : cnd b A B := by
  cases b
  · exact h2 rfl
  · exact h1 rfl
theorem cnd_dec {p : Prop} [Decidable p] {A B : Prop} (h1 : p → A) (h2 : ¬ p → B) : cnd (decide p) A B :=
  cnd_of (fun h => h1 (of_decide_eq_true h)) (fun h => h2 (of_decide_eq_false h))
theorem cnd_pos {p : Prop} [Decidable p] {A B : Prop} (h : p) (hA : A) : cnd (decide p) A B := cnd_dec (fun _ => hA) (fun hn => absurd h hn)
theorem cnd_neg {p : Prop} [Decidable p] {A B : Prop} (h : ¬ p) (hB : B) : cnd (decide p) A B := cnd_dec (fun hp => absurd hp h) (fun _ => hB)
theorem cnd_t {b : Bool} {A B : Prop} (h : b = true) (hA : A) : cnd b A B := by subst h; exact hA
theorem cnd_f {b : Bool} {A B : Prop} (h : b = false) (hB : B) : cnd b A B := by subst h; exact hB

theorem cnd_and {a b : Bool} {X Y : Prop} : cnd a (cnd b X Y) Y = cnd (a && b) X Y := by cases a <;> rfl

theorem LoopT.intro {σ : Type} {F : (σ → Heap → Prop) → σ → Heap → Prop} {s : σ} {h : Heap} (I : σ → Heap → Prop) (μ : σ → Heap → Nat) (h0 : I s h)
    (hr : ∀ s h, I s h → F (fun s' h' => I s' h' ∧ μ s' h' < μ s h) s h) : LoopT F s h := ⟨I, μ, h0, hr⟩

section
variable {h : Heap} {b o : Nat} {cs : List Value}
theorem ldI_at {a : Addr} {k : IntKind} {n : Int} {K : Int → Prop} (hc : cellH h a = some (.int k n)) (hk : K n) : ldI k a h K := ⟨n, hc, hk⟩
theorem ldB_at {a : Addr} {n : Bool} {K : Bool → Prop} (hc : cellH h a = some (.bool n)) (hk : K n) : ldB a h K := ⟨n, hc, hk⟩
theorem ldS_at {a : Addr} {n : ByteArray} {K : ByteArray → Prop} (hc : cellH h a = some (.string n)) (hk : K n) : ldS a h K := ⟨n, hc, hk⟩
theorem ldP_at {a : Addr} {n : Option Addr} {K : Option Addr → Prop} (hc : cellH h a = some (.pointer n)) (hk : K n) : ldP a h K := ⟨n, hc, hk⟩
theorem ldL_at {a : Addr} {x : Option Addr} {l c : Nat} {K : Option Addr → Nat → Nat → Prop} (hc : cellH h a = some (.slice x l c)) (hk : K x l c) : ldL a h K := ⟨x, l, c, hc, hk⟩
theorem ldI_row {k : IntKind} {n : Int} {K : Int → Prop} (hr : Row h b cs) (hc : cs[o]? = some (.int k n)) (hk : K n) : ldI k ⟨b, o, none⟩ h K := ⟨n, by rw [hr.cells]; exact hc, hk⟩
theorem ldB_row {n : Bool} {K : Bool → Prop} (hr : Row h b cs) (hc : cs[o]? = some (.bool n)) (hk : K n) : ldB ⟨b, o, none⟩ h K := ⟨n, by rw [hr.cells]; exact hc, hk⟩
theorem ldS_row {n : ByteArray} {K : ByteArray → Prop} (hr : Row h b cs) (hc : cs[o]? = some (.string n)) (hk : K n) : ldS ⟨b, o, none⟩ h K := ⟨n, by rw [hr.cells]; exact hc, hk⟩
theorem ldP_row {n : Option Addr} {K : Option Addr → Prop} (hr : Row h b cs) (hc : cs[o]? = some (.pointer n)) (hk : K n) : ldP ⟨b, o, none⟩ h K := ⟨n, by rw [hr.cells]; exact hc, hk⟩
theorem ldL_row {x : Option Addr} {l c : Nat} {K : Option Addr → Nat → Nat → Prop} (hr : Row h b cs) (hc : cs[o]? = some (.slice x l c)) (hk : K x l c) : ldL ⟨b, o, none⟩ h K := ⟨x, l, c, by rw [hr.cells]; exact hc, hk⟩

theorem stC_row {v : Value} {K : Heap → Prop} (hr : Row h b cs) (ho : o < cs.length) (hv : v.oneCell' = true) (hk : ∀ h', h'.size = h.size → Row h' b (cs.set o v) → Keep (· = b) h h' → K h') : stC ⟨b, o, none⟩ v h K := by
  refine ⟨hv, ?_, hr.froz ho, hk _ (setH_size _ _ _) (hr.set o v) (keep_set' _ _ _ _)⟩
  rw [hr.cells, List.getElem?_eq_getElem ho]; rfl

theorem newB_row {t : TypeId} {K : Addr → Heap → Prop} (hk : ∀ h', h'.size = h.size + 1 → Row h' h.size cs → Keep (fun _ => False) h h' → K ⟨h.size, 0, none⟩ h') : newB cs t h K :=
  hk _ (by simp) (row_push h cs t) (keep_push h _)

theorem idx_some {a : Addr} {len : Nat} {i : Int} {K : Addr → Prop} (h0 : 0 ≤ i) (h1 : i < len) (hk : K a) : idx (some a) len i K := ⟨a, rfl, h0, h1, hk⟩

theorem ldRow_row {n : Nat} {K : List Value → Prop} (hr : Row h b cs) (hn : o + n ≤ cs.length) (hk : K ((cs.drop o).take n)) : ldRow n ⟨b, o, none⟩ h K := by
  refine ⟨_, by simp; omega, ?_, hk⟩
  intro i v hv
  rw [add_mk, hr.cells]
  rw [List.getElem?_take] at hv
  split at hv
  · simpa using hv
  · cases hv

/-- the cells of a row, some of them written over -/
def putL (cs : List Value) (o : Nat) (new : List Value) : List Value := cs.take o ++ new ++ cs.drop (o + new.length)

theorem putL_nil (cs : List Value) (o : Nat) : putL cs o [] = cs := by simp [putL]
theorem putL_cons {cs : List Value} {o : Nat} {v : Value} {r : List Value} (h : o < cs.length) : putL (cs.set o v) (o + 1) r = putL cs o (v :: r) := by
  unfold putL
  have e1 : (cs.set o v).take (o + 1) = cs.take o ++ [v] := by
    rw [List.take_add_one, List.take_set_of_le (Nat.le_refl _)]
    simp [h]
  have e2 : (cs.set o v).drop (o + 1 + r.length) = cs.drop (o + (v :: r).length) := by
    rw [List.drop_set_of_lt (by omega)]
    congr 1
    simp; omega
  rw [e1, e2]
  simp

theorem setRow_row : ∀ {new : List Value} {h : Heap} {cs : List Value} {o i : Nat}, Row h b cs → o + i + new.length ≤ cs.length →
    Row (setRow h ⟨b, o, none⟩ new i) b (putL cs (o + i) new) ∧ (setRow h ⟨b, o, none⟩ new i).size = h.size ∧ Keep (· = b) h (setRow h ⟨b, o, none⟩ new i)
  | [], h, cs, o, i, hr, _ => by
    rw [putL_nil]
    exact ⟨hr, rfl, .refl _ _⟩
  | v :: r, h, cs, o, i, hr, hl => by
    have hl' : o + i + 1 + r.length ≤ cs.length := by simp at hl; omega
    unfold setRow
    rw [add_mk]
    obtain ⟨h1, h2, h3⟩ := setRow_row (new := r) (o := o) (i := i + 1) (hr.set (o + i) v) (by simp; omega)
    refine ⟨?_, by rw [h2, setH_size], (keep_set' _ _ _ _).trans' h3⟩
    rw [show o + (i + 1) = o + i + 1 from by omega, putL_cons (by omega)] at h1
    exact h1

theorem stRow_row {new : List Value} {K : Heap → Prop} (hr : Row h b cs) (ho : o + new.length ≤ cs.length) (hv : ∀ v ∈ new, v.oneCell' = true)
    (hk : ∀ h', h'.size = h.size → Row h' b (putL cs o new) → Keep (· = b) h h' → K h') : stRow new ⟨b, o, none⟩ h K := by
  obtain ⟨h1, h2, h3⟩ := setRow_row (new := new) (o := o) (i := 0) hr (by simpa using ho)
  refine ⟨hv, fun i hi => ?_, hk _ h2 (by simpa using h1) h3⟩
  rw [add_mk, hr.cells, List.getElem?_eq_getElem (by omega)]
  exact ⟨rfl, hr.froz (by omega)⟩

theorem mkSl_row {zs : List Value} {e : TypeId} {bytes : Nat} {l c : Int} {K : Addr → Heap → Prop} (h0 : 0 ≤ l) (h1 : l ≤ c) (h2 : c ≤ 281474976710656) (h3 : bytes * c ≤ 281474976710656)
    (hk : ∀ h', h'.size = h.size + 1 → Row h' h.size (zerosL zs c.toNat) → Keep (fun _ => False) h h' → K ⟨h.size, 0, none⟩ h') : mkSl zs e bytes l c h K :=
  ⟨h0, h1, h2, h3, newB_row hk⟩
end

/-- a constant's bytes -/
theorem lit_row {h : Heap} {cs : List Value} {t : TypeId} {K : Addr → Heap → Prop} (hk : ∀ h', h'.size = h.size + 1 → Row h' h.size cs → Keep (fun _ => False) h h' → K ⟨h.size, 0, none⟩ h') : newB cs t h fun a h2 => markS a h2 fun h3 => K a h3 := by
  refine ⟨cs.toArray, t, (0, 0), by simp, hk _ (by simp [frzH]) ?_ ?_⟩
  · refine ⟨t, cs.length, cs.length + 1, ?_, fun o ho => by omega⟩
    show ((h.push (Obj.cells cs.toArray t)).modify h.size _)[h.size]? = _
    rw [Array.getElem?_modify, if_pos rfl, Array.getElem?_push, if_pos rfl]
    rfl
  · refine ⟨by simp [frzH], fun x hx hn => ?_⟩
    simp only [frzH, Array.getElem?_modify]
    rw [if_neg (by show ¬ (h.size = x); omega), Array.getElem?_push, if_neg (by omega)]

theorem zerosL_one (z : Value) (n : Nat) : zerosL [z] n = List.replicate n z := rfl

/-- growing: a bound on the capacity that append asks for -/
theorem nextslicecap_le {n c : Nat} (hc : c < n) : Builtin.nextslicecap n c ≤ 2 * n + 1024 := by
  have key : ∀ (r x : Nat), x ≤ 2 * n + 1024 → Builtin.growBy n r x ≤ 2 * n + 1024 := by
    intro r
    induction r with
    | zero => intro x h; exact h
    | succ r ih =>
      intro x h
      unfold Builtin.growBy
      split
      · exact h
      · exact ih _ (by omega)
  unfold Builtin.nextslicecap
  split
  · omega
  · split
    · omega
    · exact key 4 c (by omega)

/-- append to a slice of elements of one cell, whose cells are a row's -/
theorem app_row {h : Heap} {zs : List Value} {e : TypeId} {bytes b o l c m : Nat} {cs new : List Value} {K : Option Addr → Nat → Heap → Prop} {z : Value} (hz : zs = [z])
    (hr : Row h b cs) (hl : l ≤ c) (hc : o + c ≤ cs.length) (hm : new.length = m) (hv : ∀ v ∈ new, v.oneCell' = true) (hb : (2 * (l + m) + 1024) * bytes ≤ 281474976710656)
    (hin : l + m ≤ c → ∀ h', h'.size = h.size → Row h' b (putL cs (o + l) new) → Keep (· = b) h h' → K (some ⟨b, o, none⟩) c h')
    (hout : c < l + m → ∀ c' h', l + m ≤ c' → h'.size = h.size + 1 → Row h' h.size ((cs.drop o).take l ++ new ++ List.replicate (c' - (l + m)) z) → Keep (fun _ => False) h h' → K (some ⟨h.size, 0, none⟩) c' h') :
    app zs e 1 bytes (some ⟨b, o, none⟩) l c new m h K := by
  subst hz
  unfold app
  by_cases hle : l + m ≤ c
  · rw [if_pos hle]
    show stRow new ((⟨b, o, none⟩ : Addr).add (l * 1)) h _
    rw [add_mk, Nat.mul_one]
    exact stRow_row hr (by omega) hv (hin hle)
  · rw [if_neg hle]
    refine ⟨?_, ?_⟩
    · have h1 := nextslicecap_le (n := l + m) (c := c) (by omega)
      exact Nat.le_trans (Nat.mul_le_mul_right _ h1) hb
    · show ldRow (l * 1) _ h _
      rw [Nat.mul_one]
      refine ldRow_row hr (by omega) ?_
      intro c' hc' _
      exact hout (by omega) c' _ hc' (by simp) (row_push h _ e) (keep_push h _)

end Go.Proofs.Ytkgocfaajfaidaa.D
