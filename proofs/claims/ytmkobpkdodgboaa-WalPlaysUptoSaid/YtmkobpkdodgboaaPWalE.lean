/- Contracts: wal.Open. -/
import Derived.Test.YtmkobpkdodgboaaPWalD
namespace Go.Proofs.Ytmkobpkdodgboaa
open Go D
set_option linter.unusedVariables false
set_option linter.unusedSimpArgs false

/-- texts whose cells lie in blocks of B -/
def TsB (h : Heap) (B : Nat → Prop) (a : Option Addr) (l : Nat) (rs : List ByteArray) : Prop := Ts h a l rs ∧ (0 < l → ∀ b, blk a b → B b)
theorem TsB.keep {S B : Nat → Prop} {h h' : Heap} {a : Option Addr} {l : Nat} {rs : List ByteArray} (ht : TsB h B a l rs) (hk : Keep S h h') (hn : ∀ b, b < h.size → B b → ¬ S b) : TsB h' B a l rs :=
  ⟨Rv.keep ht.1 hk (fun hl b hb => hn b (Rv.lt ht.1 hl hb) (ht.2 hl b hb)), ht.2⟩
theorem TsB.mono {B C : Nat → Prop} {h : Heap} {a : Option Addr} {l : Nat} {rs : List ByteArray} (ht : TsB h B a l rs) (hn : ∀ b, b < h.size → B b → C b) : TsB h C a l rs :=
  ⟨ht.1, fun hl b hb => hn b (Rv.lt ht.1 hl hb) (ht.2 hl b hb)⟩

/-- a slice's cell that holds such texts -/
def TsV (h : Heap) (B : Nat → Prop) (v : Value) (rs : List ByteArray) : Prop := ∃ a l c, v = .slice a l c ∧ TsB h B a l rs
/-- lists of texts whose cells lie in blocks of B -/
def FsB (h : Heap) (B : Nat → Prop) (vs : List Value) (fs : List (List ByteArray)) : Prop := vs.length = fs.length ∧ ∀ (i : Nat) (v : Value) (f : List ByteArray), vs[i]? = some v → fs[i]? = some f → TsV h B v f
theorem FsB.keep {S B : Nat → Prop} {h h' : Heap} {vs : List Value} {fs : List (List ByteArray)} (hf : FsB h B vs fs) (hk : Keep S h h') (hn : ∀ b, b < h.size → B b → ¬ S b) : FsB h' B vs fs :=
  ⟨hf.1, fun i v f h1 h2 => by
    obtain ⟨a, l, c, e, t⟩ := hf.2 i v f h1 h2
    exact ⟨a, l, c, e, t.keep hk hn⟩⟩
theorem FsB.mono {B C : Nat → Prop} {h : Heap} {vs : List Value} {fs : List (List ByteArray)} (hf : FsB h B vs fs) (hn : ∀ b, b < h.size → B b → C b) : FsB h C vs fs :=
  ⟨hf.1, fun i v f h1 h2 => by
    obtain ⟨a, l, c, e, t⟩ := hf.2 i v f h1 h2
    exact ⟨a, l, c, e, t.mono hn⟩⟩
theorem FsB.nil (h : Heap) (B : Nat → Prop) : FsB h B [] [] := ⟨rfl, fun i v f h1 => by simp at h1⟩
theorem FsB.snoc {B : Nat → Prop} {h : Heap} {vs : List Value} {fs : List (List ByteArray)} {v : Value} {f : List ByteArray} (hf : FsB h B vs fs) (hv : TsV h B v f) : FsB h B (vs ++ [v]) (fs ++ [f]) := by
  refine ⟨by simp [hf.1], fun i w g h1 h2 => ?_⟩
  by_cases hi : i < vs.length
  · rw [List.getElem?_append_left hi] at h1
    rw [List.getElem?_append_left (by rw [← hf.1]; exact hi)] at h2
    exact hf.2 i w g h1 h2
  · rw [List.getElem?_append_right (by omega)] at h1
    rw [List.getElem?_append_right (by rw [← hf.1]; omega)] at h2
    have e1 := (List.getElem?_eq_some_iff.1 h1).1
    simp only [List.length_singleton] at e1
    have e2 : i - vs.length = 0 := by omega
    rw [e2] at h1
    have e3 : i - fs.length = 0 := by rw [← hf.1]; exact e2
    rw [e3] at h2
    simp only [List.getElem?_cons_zero, Option.some.injEq] at h1 h2
    subst h1 h2
    exact hv

/-- lists of texts, read -/
def Fs (h : Heap) (B : Nat → Prop) (a : Option Addr) (l : Nat) (fs : List (List ByteArray)) : Prop := ∃ vs, Rv h a l vs ∧ (0 < l → ∀ b, blk a b → B b) ∧ FsB h B vs fs
theorem Fs.keep {S B : Nat → Prop} {h h' : Heap} {a : Option Addr} {l : Nat} {fs : List (List ByteArray)} (hf : Fs h B a l fs) (hk : Keep S h h') (hn : ∀ b, b < h.size → B b → ¬ S b) : Fs h' B a l fs := by
  obtain ⟨vs, h1, h2, h3⟩ := hf
  exact ⟨vs, Rv.keep h1 hk (fun hl b hb => hn b (Rv.lt h1 hl hb) (h2 hl b hb)), h2, h3.keep hk hn⟩
theorem Fs.mono {B C : Nat → Prop} {h : Heap} {a : Option Addr} {l : Nat} {fs : List (List ByteArray)} (hf : Fs h B a l fs) (hn : ∀ b, b < h.size → B b → C b) : Fs h C a l fs := by
  obtain ⟨vs, h1, h2, h3⟩ := hf
  exact ⟨vs, h1, fun hl b hb => hn b (Rv.lt h1 hl hb) (h2 hl b hb), h3.mono hn⟩
theorem Fs.len {B : Nat → Prop} {h : Heap} {a : Option Addr} {l : Nat} {fs : List (List ByteArray)} (hf : Fs h B a l fs) : l = fs.length := by
  obtain ⟨vs, h1, h2, h3⟩ := hf
  have := h1.1
  have := h3.1
  omega

namespace Wal
open Disk Enc Hash Snap

def openF (m : M) : Nat → Lg → List (List ByteArray) → Lg × List (List ByteArray)
  | 0, L, fs => (L, fs)
  | f + 1, L, fs => match readM m L with
    | none => (L, fs)
    | some (rs, k) => openF m f { L with pos := L.pos + k, nx := L.nx + 1 } (fs ++ [rs])
def lg0 (fr n : Int) (e : Nat) : Lg := ⟨fr, n, e, 0, 0, false⟩
def openM (m : M) (fr n : Int) (e : Nat) : Lg × List (List ByteArray) := openF m (n.toNat + 1) (lg0 fr n e) []
def okR (l : Nat) (fr n : Int) : Prop := 1 ≤ n ∧ 0 ≤ fr ∧ fr ≤ l ∧ n ≤ l - fr
instance (l : Nat) (fr n : Int) : Decidable (okR l fr n) := by unfold okR; infer_instance

theorem LRow_len (p : Nat) (L : Lg) : (LRow p L).length = 7 := rfl

theorem open_spec {mu im : Nat → Prop} {h : Heap} {p : Nat} {m : M} (hr : Disk.Rep h p mu im m) (hc : m.c.length ≤ 1000000) {fr n : Int} (hf : InI fr) (hn : InI n) {e : Nat} {R : (Option Addr) × Sl × Int → Heap → Prop}
    (hbad : ¬ okR m.l.length fr n → R (none, ⟨none, 0, 0⟩, 1) h)
    (hdead : okR m.l.length fr n → m.st = 2 → R (none, ⟨none, 0, 0⟩, 50) h)
    (hk : okR m.l.length fr n → m.st ≠ 2 → ∀ q s h', h.size ≤ q → Row h' q (LRow p (openM m fr n e).1) → Fs h' (fun b => q < b) s.a s.len (openM m fr n e).2 → s.len = s.cap → Keep (fun _ => False) h h' → R (some ⟨q, 0, none⟩, s, 0) h') :
    CallT Try.prog wal_Open_no [.pointer (some ⟨p, 0, none⟩), .int .i64 fr, .int .i64 n, .int .u64 (e : Int)] h [.sc .ptr, .sc .sl, .sc (.int .i64)] R := by
  apply wal_Open_call
  simp only [wal_Open]
  have hle := hr.le
  unfold InI at hf hn
  refine withJ.inl (withJ.inl ?_)
  refine cnd_f rfl ?_
  refine cnd_dec (fun h1 => cnd_t rfl (hbad (fun ha => by have := ha.1; omega))) (fun h1 => ?_)
  refine cnd_dec (fun h2 => cnd_t rfl (hbad (fun ha => by have := ha.2.1; omega))) (fun h2 => ?_)
  refine size_spec hr ?_
  refine cnd_dec (fun h3 => cnd_t rfl (hbad (fun ha => by have := ha.2.2.1; omega))) (fun h3 => ?_)
  refine size_spec hr ?_
  have e1 : w64 ((m.l.length : Int) - fr) = m.l.length - fr := w64_id (by omega) (by omega)
  rw [e1]
  refine cnd_dec (fun h4 => hbad (fun ha => by have := ha.2.2.2; omega)) (fun h4 => ?_)
  have hok : okR m.l.length fr n := ⟨by omega, by omega, by omega, by omega⟩
  refine dead_spec hr ?_
  by_cases hst : m.st = 2
  · exact cnd_t (by simp [hst]) (hdead hok hst)
  refine cnd_f (by simp [hst]) ?_
  replace hk := hk hok hst
  refine newB_row ?_
  intro h5 s5 o5 k5
  obtain ⟨q, hq⟩ : ∃ q, q = h.size := ⟨_, rfl⟩
  rw [← hq] at o5 ⊢
  refine LoopT.intro (fun (s : Sl) h' => ∃ (L : Lg) (fs : List (List ByteArray)) (f : Nat) (vs : List Value), openM m fr n e = openF m f L fs ∧ n - L.pos < f ∧ 0 ≤ L.pos ∧ L.pos ≤ n ∧ L.fr = fr ∧ L.n = n ∧ (L.nx : Int) ≤ L.pos ∧ Row h' q (LRow p L) ∧ SlR h' 1 s.a s.len s.cap vs ∧ (s.len : Int) ≤ L.pos ∧ (∀ b, blk s.a b → q < b) ∧ FsB h' (fun b => q < b ∧ ¬ blk s.a b) vs fs ∧ Keep (fun _ => False) h h' ∧ q < h'.size)
    (fun s h' => match cellH h' ⟨q, 5, none⟩ with | some (.int _ z) => (n - z).toNat | _ => 0)
    ⟨lg0 fr n e, [], n.toNat + 1, [], rfl, by show n - 0 < _; omega, by show (0 : Int) ≤ 0; omega, by show (0 : Int) ≤ n; omega, rfl, rfl, by show ((0 : Nat) : Int) ≤ 0; omega, o5, SlR.nil _ _, by show ((0 : Nat) : Int) ≤ 0; omega, fun b hb => absurd hb (fun hb => by obtain ⟨x, hx, _⟩ := hb; cases hx), FsB.nil _ _, k5, by omega⟩ ?_
  rintro s h6 ⟨L, fs, f, vs, f1, f2, f3, f4, f5, f6, f7, o6, sl6, f8, f9, fb6, k6, z6⟩
  have r6 := hr.keep k6 (fun _ _ h => h) (fun _ _ h => h)
  have hsz := sl6.len
  refine read_spec r6 hc o6 (by omega) f3 (by omega) (by omega) (by omega) (fun hd => absurd hd hst) (fun hno _ h7 k7 => ?_) (fun rs k hsome _ hk1 hk2 s7 h7 t7 l7 n7 k7 => ?_)
  · refine cnd_f rfl (cnd_t rfl ?_)
    have efin : openM m fr n e = (L, fs) := by
      rw [f1]
      cases f with
      | zero => rfl
      | succ f => unfold openF; rw [hno]
    have hcap := SlR.le sl6
    refine Rv.sub (SlR.rv sl6) (by omega) (by show (0 : Int) ≤ s.len; omega) (by show (s.len : Int) ≤ s.len; omega) (by show (s.len : Int) ≤ s.len; omega) (by show (s.len : Int) ≤ s.cap; omega) ?_
    intro a2 w2 hb2
    rw [show ((s.len : Int) - 0).toNat = s.len by omega] at w2 ⊢
    have hvl : vs.length = s.len := by omega
    have e2 : (vs.drop (0 : Int).toNat).take s.len = vs := by
      show (vs.drop 0).take s.len = _
      rw [List.drop_zero, List.take_of_length_le (by omega)]
    rw [e2] at w2
    have := hk q ⟨a2, s.len, s.len⟩ h7 (by omega)
    rw [efin] at this
    exact this (k7.row o6 (fun h => h)) ⟨vs, Rv.keep w2 k7 (fun _ _ _ h => h), fun _ b hb => f9 b (hb2 b hb), (fb6.keep k7 (fun _ _ _ h => h)).mono (fun b _ hb => hb.1)⟩ rfl (k6.trans' k7)
  · refine cnd_f rfl (cnd_f rfl ?_)
    refine newB_row ?_
    intro h8 s8 o8 k8
    refine ldRow_row o8 (by simp) ?_
    have k78 := k7.trans' k8
    have z78 := k78.size
    refine (sl6.keep k78 (fun _ _ h => h)).app rfl (by simp) (fun v hv => by simp at hv; subst hv; rfl) (by omega) ?_
    intro a9 c9 h9 v1 v2 v3
    have k69 : Keep (blk s.a) h6 h9 := (k78.mono (fun _ _ h => h.elim)).trans v2 (fun _ _ h => h)
    have o9 := k69.row o6 (fun hb => by have := f9 q hb; omega)
    have ho5 : cellH h6 ⟨q, 5, none⟩ = some (.int .i64 L.pos) := by rw [o6.cells]; rfl
    rw [add_mk]
    refine ldI_row (o := 0 + 5) o9 rfl ?_
    have ew : w64 (L.pos + (k : Int)) = L.pos + k := w64_id (by omega) (by omega)
    show stC ⟨q, 0 + 5, none⟩ (.int .i64 (w64 (L.pos + (k : Int)))) h9 _
    rw [ew]
    refine stC_row (o := 0 + 5) o9 (by rw [LRow_len]; omega) rfl ?_
    intro h10 s10 o10 k10
    rw [add_mk]
    refine ldI_row (n := (L.nx : Int)) (o := 0 + 4) o10 rfl ?_
    have ex : IntKind.u64.wrap ((L.nx : Int) + 1) = ((L.nx + 1 : Nat) : Int) := by rw [wrap_u64_id (by omega) (by omega)]; rfl
    show stC ⟨q, 0 + 4, none⟩ (.int .u64 (IntKind.u64.wrap ((L.nx : Int) + 1))) h10 _
    rw [ex]
    refine stC_row (o := 0 + 4) o10 (by rw [List.length_set, LRow_len]; omega) rfl ?_
    intro h11 s11 o11 k11
    have o11' : Row h11 q (LRow p { L with pos := L.pos + k, nx := L.nx + 1 }) := o11
    have k911 : Keep (· = q) h9 h11 := k10.trans' k11
    have hpos : cellH h11 ⟨q, 5, none⟩ = some (.int .i64 (L.pos + k)) := by rw [o11'.cells]; rfl
    have fa9 : ∀ b, blk a9 b → q < b := fun b hb => by
      rcases v3 with ⟨rfl, _⟩ | ⟨rfl, _⟩
      · exact f9 b hb
      · rw [blk_some] at hb
        simp only at hb
        omega
    refine ⟨⟨{ L with pos := L.pos + k, nx := L.nx + 1 }, fs ++ [rs], f - 1, vs ++ [.slice s7.a s7.len s7.cap], ?_, ?_, ?_, ?_, f5, f6, ?_, o11', v1.keep k911 (fun b hb hh => ?_), ?_, fa9, ?_, ?_, ?_⟩, ?_⟩
    · rw [f1]
      cases f with
      | zero => omega
      | succ f =>
        show openF m (f + 1) L fs = openF m f _ _
        conv => lhs; unfold openF
        rw [hsome]
    · show n - (L.pos + k) < ((f - 1 : Nat) : Int)
      omega
    · show 0 ≤ L.pos + k
      omega
    · show L.pos + k ≤ n
      omega
    · show ((L.nx + 1 : Nat) : Int) ≤ L.pos + k
      omega
    · have := fa9 b hb
      have hh' : b = q := hh
      omega
    · show ((s.len + 1 : Nat) : Int) ≤ L.pos + k
      omega
    · have hz := k7.size
      have new9 : ∀ b, b < h7.size → ¬ blk s.a b → ¬ blk a9 b := fun b hb hn hh => by
        rcases v3 with ⟨rfl, _⟩ | ⟨rfl, _⟩
        · exact hn hh
        · rw [blk_some] at hh
          simp only at hh
          omega
      have t9 : TsV h9 (fun b => q < b ∧ ¬ blk a9 b) (.slice s7.a s7.len s7.cap) rs := ⟨s7.a, s7.len, s7.cap, rfl, Rv.keep (Ts.keep0 t7 k8) v2 (fun hl b hb hh => by
        have := n7 b hb
        have h2 := sl6.blk_lt hh
        omega), fun hl b hb => by
        have g1 := n7 b hb
        have g2 := Rv.lt t7 hl hb
        exact ⟨by omega, new9 b g2 (fun hh => by have := sl6.blk_lt hh; omega)⟩⟩
      have f9' : FsB h9 (fun b => q < b ∧ ¬ blk a9 b) vs fs := (((fb6.mono (C := fun b => q < b ∧ ¬ blk s.a b ∧ ¬ blk a9 b) (fun b hb hq => ⟨hq.1, hq.2, new9 b (by omega) hq.2⟩)).keep k78 (fun _ _ _ h => h)).keep v2 (fun b _ hb hh => hb.2.1 hh)).mono (fun b _ hb => ⟨hb.1, hb.2.2⟩)
      exact (f9'.snoc t9).keep k911 (fun b _ hb hh => by
        have hh' : b = q := hh
        have hb' : q < b := hb.1
        omega)
    · refine (k6.trans k69 (fun y hy hb => by have := f9 y hb; omega)).trans k911 (fun y hy hb => by
        have hb' : y = q := hb
        omega)
    · have := k69.size
      have := k911.size
      omega
    · show (match cellH h11 ⟨q, 5, none⟩ with | some (.int _ z) => (n - z).toNat | _ => 0) < (match cellH h6 ⟨q, 5, none⟩ with | some (.int _ z) => (n - z).toNat | _ => 0)
      rw [hpos, ho5]
      show (n - (L.pos + k)).toNat < (n - L.pos).toNat
      omega

end Wal
end Go.Proofs.Ytmkobpkdodgboaa
