/- WalPlays: the device and the document's device, each with a log on it; the law. -/
import Derived.Test.YtmkobpkdodgboaaPRefX
import Derived.Test.YtmkobpkdodgboaaPBoth
import Derived.Test.YtmkobpkdodgboaaPWalL
import Derived.Test.YtmkobpkdodgboaaPSector
namespace Go.Proofs.Ytmkobpkdodgboaa
open Go D
set_option linter.unusedVariables false
set_option linter.unusedSimpArgs false

/-- a script of layer 6 that came in -/
def WOpsAt (h : Heap) (a : Option Addr) (l : Nat) : Prop := ∀ i : Nat, i < l → ∃ x n0 n1 n2 so sl sc o l' c, a = some x ∧ cellH h (x.add (i * 5)) = some (.int .i64 n0) ∧ cellH h ((x.add (i * 5)).add 1) = some (.int .i64 n1) ∧ cellH h ((x.add (i * 5)).add 2) = some (.int .i64 n2) ∧ cellH h ((x.add (i * 5)).add 3) = some (.slice so sl sc) ∧ cellH h ((x.add (i * 5)).add 4) = some (.slice o l' c) ∧ InI n1 ∧ InI n2 ∧ (Ts h so sl (textsOf h so sl) ∧ (Wal.packL (textsOf h so sl)).length ≤ 8796093022208 ∧ sl ≤ 1048576) ∧ BoolsAt h o l'

theorem wops_of {h : Heap} {a : Option Addr} {l c n : Nat} (hn : n ≤ 1048576) (hs : InSl 5 (InAgg 5 [(0, 1, InInt .i64), (1, 1, InInt .i64), (2, 1, InInt .i64), (3, 1, InSl 1 InStr), (4, 1, InSl 1 InBool)]) h n [.slice a l c]) : WOpsAt h a l := by
  rcases hs with h1 | ⟨x, l', c', h1, h2, h3, h4, h5⟩
  · injection h1 with h1
    injection h1 with h1 h2 h3
    subst h2
    intro i hi
    omega
  · injection h1 with h1
    injection h1 with e1 e2 e3
    subst e1 e2 e3
    intro i hi
    obtain ⟨r, b, g1, gb, g2, g3, g4⟩ := h5 i (by omega)
    obtain ⟨b0, _, n0, f0, u0, v0, _⟩ := g4 (0, 1, InInt .i64) (by simp)
    obtain ⟨b1, _, n1, f1, u1, v1, _⟩ := g4 (1, 1, InInt .i64) (by simp)
    obtain ⟨b2, _, n2, f2, u2, v2, _⟩ := g4 (2, 1, InInt .i64) (by simp)
    obtain ⟨b4, hb4, f4⟩ := g4 (3, 1, InSl 1 InStr) (by simp)
    obtain ⟨b5, _, f5⟩ := g4 (4, 1, InSl 1 InBool) (by simp)
    match r, g1, f0, f1, f2, f4, f5 with
    | [y0, y1, y2, y4, y5], _, f0, f1, f2, f4, f5 =>
      simp at f0 f1 f2
      subst f0 f1 f2
      have f5' : InSl 1 InBool h b5 [y5] := f5
      have f4' : InSl 1 InStr h b4 [y4] := f4
      obtain ⟨o, l', c', rfl⟩ : ∃ o l' c', y5 = .slice o l' c' := by
        rcases f5' with e | ⟨o, l', c', e, _⟩
        · injection e with e; exact ⟨_, _, _, e⟩
        · injection e with e; exact ⟨_, _, _, e⟩
      obtain ⟨so, sl, sc, rfl⟩ : ∃ o l' c', y4 = .slice o l' c' := by
        rcases f4' with e | ⟨o, l', c', e, _⟩
        · injection e with e; exact ⟨_, _, _, e⟩
        · injection e with e; exact ⟨_, _, _, e⟩
      obtain ⟨w1, w2, w3, w4⟩ := texts_of f4'
      have w0 := g2 0 (by omega)
      rw [add_zero] at w0
      have hlen : (textsOf h so sl).length = sl := by simp [textsOf]
      have hp := pack_bound b4 (textsOf h so sl) w4
      rw [hlen] at hp
      have hbn : b4 ≤ 1048576 := by omega
      have hm : sl * (4 + b4) ≤ 1048576 * (4 + 1048576) := Nat.mul_le_mul (by omega) (by omega)
      exact ⟨x, n0, n1, n2, so, sl, sc, o, l', c', rfl, w0, g2 1 (by omega), g2 2 (by omega), g2 3 (by omega), g2 4 (by omega), ⟨u1, v1⟩, ⟨u2, v2⟩, ⟨w1, by omega, by omega⟩, bools_of f5'⟩

namespace Wal
open Disk Enc Hash Snap

/-! ### what an opened log is -/
theorem unpF_len : ∀ (f : Nat) (bs : List UInt8) (rs : List ByteArray), bs.length ≤ f → unpackL bs = some rs → rs.length ≤ bs.length
  | 0, bs, rs, h, e => by
    have : bs = [] := List.length_eq_zero_iff.1 (by omega)
    subst this
    rw [unpack_nil] at e
    injection e with e
    subst e
    simp
  | f + 1, bs, rs, h, e => by
    by_cases h0 : bs = []
    · subst h0
      rw [unpack_nil] at e
      injection e with e
      subst e
      simp
    by_cases h4 : bs.length < 4
    · rw [unpack_short h0 h4] at e
      cases e
    by_cases h5 : bs.length - 4 < g64 (bs.take 4)
    · rw [unpack_over (by omega) h5] at e
      cases e
    rw [unpack_cons (by omega) (by omega)] at e
    cases hx : unpackL (bs.drop (4 + g64 (bs.take 4))) with
    | none => rw [hx] at e; cases e
    | some rs' =>
      rw [hx] at e
      simp only [Option.map_some, Option.some.injEq] at e
      subst e
      have := unpF_len f _ rs' (by rw [List.length_drop]; omega) hx
      rw [List.length_drop] at this
      simp only [List.length_cons]
      omega

theorem readM_len {m : M} {L : Lg} {rs : List ByteArray} {k : Nat} (h : readM m L = some (rs, k)) : (rs.length : Int) ≤ (L.n - L.pos) * 256 := by
  unfold readM at h
  split at h
  · cases h
  split at h
  · cases h
  split at h
  · rename_i h1 h2 h3
    cases hx : unpackL (payL m L) with
    | none => rw [hx] at h; cases h
    | some rs' =>
      rw [hx] at h
      simp only [Option.map_some, Option.some.injEq, Prod.mk.injEq] at h
      obtain ⟨rfl, _⟩ := h
      have := unpF_len _ _ _ (Nat.le_refl _) hx
      have hp : (payL m L).length ≤ many m L := by unfold payL; rw [List.length_take]; omega
      omega
  · cases h

/-- a log on n sectors from fr on -/
structure LOk (L : Lg) (fr n : Int) : Prop where
  efr : L.fr = fr
  en : L.n = n
  p0 : 0 ≤ L.pos
  p1 : L.pos ≤ n
  nx : (L.nx : Int) ≤ L.pos
  ep : L.ep < 18446744073709551616

theorem openF_ok {m : M} {fr n : Int} {B : Nat} (hB : n * 256 ≤ (B : Int)) : ∀ (f : Nat) (L : Lg) (fs : List (List ByteArray)), LOk L fr n → (∀ x ∈ fs, x.length ≤ B) → LOk (openF m f L fs).1 fr n ∧ (∀ x ∈ (openF m f L fs).2, x.length ≤ B) ∧ (openF m f L fs).2.length ≤ fs.length + f
  | 0, L, fs, h1, h2 => ⟨h1, h2, Nat.le_refl _⟩
  | f + 1, L, fs, h1, h2 => by
    unfold openF
    cases hx : readM m L with
    | none => exact ⟨h1, h2, by simp only; omega⟩
    | some r =>
      obtain ⟨rs, k⟩ := r
      obtain ⟨k1, k2, _⟩ := readM_k hx
      have hl := readM_len hx
      obtain ⟨a1, a2, a3, a4, a5, a6⟩ := h1
      have := openF_ok (m := m) hB f { L with pos := L.pos + k, nx := L.nx + 1 } (fs ++ [rs]) ⟨a1, a2, by show 0 ≤ L.pos + (k : Int); omega, by show L.pos + (k : Int) ≤ n; omega, by show ((L.nx + 1 : Nat) : Int) ≤ L.pos + (k : Int); omega, a6⟩ (fun x hx => by
        rcases List.mem_append.1 hx with hh | hh
        · exact h2 x hh
        · simp only [List.mem_singleton] at hh
          subst hh
          omega)
      rw [List.length_append, List.length_singleton] at this
      exact ⟨this.1, this.2.1, by have := this.2.2; show (openF m f _ _).2.length ≤ _; omega⟩
theorem openM_ok {m : M} {fr n : Int} (h0 : 0 ≤ n) (h1 : n ≤ 4096) {e : Nat} (he : e < 18446744073709551616) : LOk (openM m fr n e).1 fr n ∧ (∀ x ∈ (openM m fr n e).2, x.length ≤ 1048576) ∧ (openM m fr n e).2.length ≤ 5000 := by
  obtain ⟨a, b, c⟩ := openF_ok (m := m) (fr := fr) (n := n) (B := 1048576) (by omega) (n.toNat + 1) (lg0 fr n e) [] ⟨rfl, rfl, by show (0 : Int) ≤ 0; omega, by show (0 : Int) ≤ n; omega, by show ((0 : Nat) : Int) ≤ 0; omega, he⟩ (fun x hx => by cases hx)
  exact ⟨a, b, Nat.le_trans c (by simp; omega)⟩

theorem app_ok {m : M} {L : Lg} {fr n : Int} (h : LOk L fr n) (rs : List ByteArray) : LOk (appM m L rs).2.2 fr n := by
  unfold appM
  split
  · exact h
  split
  · exact h
  rename_i h1 h2
  have hs := secs_pos (packL rs).length
  obtain ⟨a1, a2, a3, a4, a5, a6⟩ := h
  dsimp only
  split
  · exact ⟨a1, a2, a3, a4, a5, a6⟩
  · exact ⟨a1, a2, by show 0 ≤ L.pos + ((secs (packL rs).length : Nat) : Int); omega, by show L.pos + ((secs (packL rs).length : Nat) : Int) ≤ n; omega, by show ((L.nx + 1 : Nat) : Int) ≤ L.pos + ((secs (packL rs).length : Nat) : Int); omega, a6⟩

/-! ### both devices, each with a log -/
def Two (h0 h : Heap) (p pr : Nat) (m : M) (q qr : Nat) (L : Lg) : Prop := ∃ mu im mur, Disk.Rep h p mu im m ∧ Ref5.Rep h pr mur m ∧ (∀ b, mur b → ¬ mu b ∧ ¬ im b) ∧ (∀ b, mu b ∨ im b ∨ mur b → h0.size ≤ b ∧ b ≠ q ∧ b ≠ qr) ∧ Row h q (LRow p L) ∧ Row h qr (LRow pr L) ∧ h0.size ≤ q ∧ h0.size ≤ qr ∧ q ≠ qr ∧ Keep (fun y => h0.size ≤ y) h0 h

theorem Two.both {h0 h : Heap} {p pr : Nat} {m : M} {q qr : Nat} {L : Lg} (t : Two h0 h p pr m q qr L) : Both h0 h p pr m := by
  obtain ⟨mu, im, mur, r1, r2, g1, g2, o1, o2, q1, q2, q3, k⟩ := t
  exact ⟨⟨mu, im, mur, r1, r2, g1, fun b hb => (g2 b hb).1⟩, k⟩
theorem Two.keep {h0 h h' : Heap} {p pr : Nat} {m : M} {q qr : Nat} {L : Lg} (t : Two h0 h p pr m q qr L) (hk : Keep (fun _ => False) h h') : Two h0 h' p pr m q qr L := by
  obtain ⟨mu, im, mur, r1, r2, g1, g2, o1, o2, q1, q2, q3, k⟩ := t
  exact ⟨mu, im, mur, r1.keep hk (fun _ _ h => h) (fun _ _ h => h), r2.keep hk (fun _ _ h => h), g1, g2, hk.row o1 (fun h => h), hk.row o2 (fun h => h), q1, q2, q3, k.trans hk (fun _ _ h => h.elim)⟩

theorem Two.use {h0 h : Heap} {p pr : Nat} {m : M} {q qr : Nat} {L : Lg} (t : Two h0 h p pr m q qr L) : ∃ mu im mur, Disk.Rep h p mu im m ∧ Ref5.Rep h pr mur m ∧ (∀ b, mu b ∨ im b ∨ mur b → h0.size ≤ b ∧ b < h.size ∧ b ≠ q ∧ b ≠ qr) ∧ (∀ b, mur b → ¬ mu b) ∧ Row h q (LRow p L) ∧ Row h qr (LRow pr L) ∧ q ≠ qr ∧ h0.size ≤ q ∧ h0.size ≤ qr ∧
    (∀ {hA hB hf : Heap} {m2 : M} {L2 : Lg} {mu2 im2 mur2 : Nat → Prop}, Keep (fun _ => False) h hA → Disk.Rep hB p mu2 im2 m2 → Keep (fun b => mu b ∨ b = q) hA hB → Grew hA mu im mu2 im2 → Row hB q (LRow p L2) → Ref5.Rep hf pr mur2 m2 → Keep (fun b => mur b ∨ b = qr) hB hf → (∀ b, mur2 b → mur b ∨ hB.size ≤ b) → Row hf qr (LRow pr L2) → Two h0 hf p pr m2 q qr L2) := by
  obtain ⟨mu, im, mur, r1, r2, g1, g2, o1, o2, q1, q2, q3, k⟩ := t
  have l1 := r1.lt
  have l2 := r2.lt
  have z0 := k.size
  have hq := o1.lt
  have hqr := o2.lt
  refine ⟨mu, im, mur, r1, r2, fun b hb => ⟨(g2 b hb).1, ?_, (g2 b hb).2⟩, fun b hb => (g1 b hb).1, o1, o2, q3, q1, q2, ?_⟩
  · rcases hb with hb | hb | hb
    · exact l1 b (.inl hb)
    · exact l1 b (.inr hb)
    · exact l2 b hb
  intro hA hB hf m2 L2 mu2 im2 mur2 kA u2 u4 u3 o3 u5 u6 u7 o4
  have zB := u4.size
  have zA := kA.size
  have far : ∀ b, mu2 b ∨ im2 b → (mu b ∨ im b) ∨ h.size ≤ b := fun b hb => by
    rcases hb with hb | hb
    · rcases u3.1 b hb with h' | h'
      · exact .inl (.inl h')
      · right; omega
    · rcases u3.2 b hb with h' | h'
      · exact .inl (.inr h')
      · right; omega
  have nS : ∀ b, mu2 b ∨ im2 b → ¬ (mur b ∨ b = qr) := fun b hb hm => by
    rcases far b hb with h' | h'
    · rcases hm with hm | hm
      · rcases h' with h' | h'
        · exact (g1 b hm).1 h'
        · exact (g1 b hm).2 h'
      · rcases h' with h' | h'
        · exact (g2 b (.inl h')).2.2 hm
        · exact (g2 b (.inr (.inl h'))).2.2 hm
    · rcases hm with hm | hm
      · have := l2 b hm; omega
      · omega
  refine ⟨mu2, im2, mur2, u2.keep u6 (fun b hb => nS b (.inl hb)) (fun b hb => nS b (.inr hb)), u5, fun b hb => ?_, fun b hb => ?_, u6.row o3 (fun hm => ?_), o4, q1, q2, q3, ((k.trans kA (fun _ _ h => h.elim)).trans u4 (fun y _ hy => ?_)).trans u6 (fun y _ hy => ?_)⟩
  · have hn : ¬ (mu2 b ∨ im2 b) := fun hm => by
      rcases u7 b hb with hh | hh
      · exact nS b hm (.inl hh)
      · have e : b < hB.size := u2.lt b hm
        omega
    exact ⟨fun hm => hn (.inl hm), fun hm => hn (.inr hm)⟩
  · have hb' : (mu2 b ∨ im2 b) ∨ mur2 b := by
      rcases hb with hb | hb | hb
      · exact .inl (.inl hb)
      · exact .inl (.inr hb)
      · exact .inr hb
    rcases hb' with hb' | hb'
    · rcases far b hb' with h' | h'
      · rcases h' with h' | h'
        · exact g2 b (.inl h')
        · exact g2 b (.inr (.inl h'))
      · omega
    · rcases u7 b hb' with h' | h'
      · exact g2 b (.inr (.inr h'))
      · omega
  · rcases hm with hm | hm
    · exact (g2 q (.inr (.inr hm))).2.1 rfl
    · exact q3 hm
  · rcases hy with hy | hy
    · exact (g2 y (.inl hy)).1
    · show h0.size ≤ y
      omega
  · rcases hy with hy | hy
    · exact (g2 y (.inr (.inr hy))).1
    · show h0.size ≤ y
      omega

/-- the device's calls leave the logs -/
theorem Two.dev {h0 h : Heap} {p pr : Nat} {m : M} {q qr : Nat} {L : Lg} (t : Two h0 h p pr m q qr L) : ∃ mu im mur, Disk.Rep h p mu im m ∧ Ref5.Rep h pr mur m ∧ (∀ b, mu b ∨ im b ∨ mur b → h0.size ≤ b ∧ b < h.size ∧ b ≠ q ∧ b ≠ qr) ∧ (∀ b, mur b → ¬ mu b) ∧
    (∀ {hA hB hf : Heap} {m2 : M} {mu2 im2 mur2 : Nat → Prop}, Keep (fun _ => False) h hA → Disk.Rep hB p mu2 im2 m2 → Keep mu hA hB → Grew hA mu im mu2 im2 → Ref5.Rep hf pr mur2 m2 → Keep mur hB hf → (∀ b, mur2 b → mur b ∨ hB.size ≤ b) → Two h0 hf p pr m2 q qr L) := by
  obtain ⟨mu, im, mur, r1, r2, g1, g2, o1, o2, q3, _, _, st⟩ := t.use
  refine ⟨mu, im, mur, r1, r2, g1, g2, ?_⟩
  intro hA hB hf m2 mu2 im2 mur2 kA u2 u4 u3 u5 u6 u7
  have w1 := u4.row (kA.row o1 (fun h => h)) (fun hm => (g1 q (.inl hm)).2.2.1 rfl)
  have w2 := u6.row (u4.row (kA.row o2 (fun h => h)) (fun hm => (g1 qr (.inl hm)).2.2.2 rfl)) (fun hm => (g1 qr (.inr (.inr hm))).2.2.2 rfl)
  exact st kA u2 (u4.mono (fun _ _ h => .inl h)) u3 w1 u5 (u6.mono (fun _ _ h => .inl h)) u7 w2

/-- two logs that are alike, or none -/
def Lgs (h0 h : Heap) (p pr : Nat) (m : M) (fr n : Int) (x y : Option Addr) : Prop := (x = none ∧ y = none ∧ Both h0 h p pr m) ∨ ∃ q qr L, x = some ⟨q, 0, none⟩ ∧ y = some ⟨qr, 0, none⟩ ∧ Two h0 h p pr m q qr L ∧ LOk L fr n ∧ okR m.l.length fr n
theorem Lgs.both {h0 h : Heap} {p pr : Nat} {m : M} {fr n : Int} {x y : Option Addr} (t : Lgs h0 h p pr m fr n x y) : Both h0 h p pr m := by
  rcases t with ⟨_, _, b⟩ | ⟨q, qr, L, _, _, t, _, _⟩
  · exact b
  · exact t.both
theorem Lgs.keep {h0 h h' : Heap} {p pr : Nat} {m : M} {fr n : Int} {x y : Option Addr} (t : Lgs h0 h p pr m fr n x y) (hk : Keep (fun _ => False) h h') : Lgs h0 h' p pr m fr n x y := by
  rcases t with ⟨e1, e2, b⟩ | ⟨q, qr, L, e1, e2, t, o⟩
  · exact .inl ⟨e1, e2, b.keep hk⟩
  · exact .inr ⟨q, qr, L, e1, e2, t.keep hk, o⟩

/-- both are opened, and what is found is compared -/
theorem opens_spec {h0 h : Heap} {p pr : Nat} {m : M} (b : Both h0 h p pr m) (hc : m.c.length ≤ 800000) {fr n : Int} (hf : InI fr) (hn : InI n) {e : Nat} (he : e < 18446744073709551616) {K : (Option Addr) × Sl × Int → (Option Addr) × Sl × Int → Heap → Prop}
    (hk : ∀ r r' h', Lgs h0 h' p pr m fr n r.1 r'.1 → r.2.2 = r'.2.2 → (∀ {R : Bool → Heap → Prop}, R true h' → CallT Try.prog law6_frames_no [.slice r.2.1.a r.2.1.len r.2.1.cap, .slice r'.2.1.a r'.2.1.len r'.2.1.cap] h' [.sc .bool] R) → (r.1.isNone = r'.1.isNone) → K r r' h') :
    CallT Try.prog wal_Open_no [.pointer (some ⟨p, 0, none⟩), .int .i64 fr, .int .i64 n, .int .u64 (e : Int)] h [.sc .ptr, .sc .sl, .sc (.int .i64)] fun (r : (Option Addr) × Sl × Int) h' =>
    CallT Try.prog ref6_Open_no [.pointer (some ⟨pr, 0, none⟩), .int .i64 fr, .int .i64 n, .int .u64 (e : Int)] h' [.sc .ptr, .sc .sl, .sc (.int .i64)] fun (r' : (Option Addr) × Sl × Int) h'' => K r r' h'' := by
  obtain ⟨⟨mu, im, mur, r1, r2, g1, g2⟩, k⟩ := b
  have l1 := r1.lt
  have l2 := r2.lt
  have hle := r2.le
  have hz : ∀ i, (readAt m i).size = 256 := by
    obtain ⟨z1, z2⟩ := Rep.secs r1
    exact fun i => readAt_size z1 z2 i
  have bk : ∀ {h'}, Keep (fun _ => False) h h' → Both h0 h' p pr m := fun kk => Both.keep ⟨⟨mu, im, mur, r1, r2, g1, g2⟩, k⟩ kk
  -- nothing found, nothing to compare
  have noFr : ∀ {h' : Heap} {R : Bool → Heap → Prop}, R true h' → CallT Try.prog law6_frames_no [.slice none 0 0, .slice none 0 0] h' [.sc .bool] R := fun {h' R} hR => by
    have f0 : Fs h' (fun _ => True) none 0 [] := ⟨[], ⟨rfl, fun i v hv => by simp at hv⟩, fun hl => absurd hl (by omega), FsB.nil _ _⟩
    exact frames_spec f0 f0 (by omega) (fun f hf => by cases hf) hR
  refine open_spec r1 (by omega) hf hn (fun hb => ?_) (fun hb hd => ?_) (fun hb hd q s h1 q0 o1 f1 _ k1 => ?_)
  · exact RefW.open_spec r2 (by omega) hz hf hn he (fun _ => hk _ _ h (.inl ⟨rfl, rfl, bk (.refl _ _)⟩) rfl (fun hR => noFr hR) rfl) (fun hb' => absurd hb' hb) (fun hb' => absurd hb' hb)
  · exact RefW.open_spec r2 (by omega) hz hf hn he (fun hb' => absurd hb hb') (fun _ _ h2 k2 => hk _ _ h2 (.inl ⟨rfl, rfl, bk k2⟩) rfl (fun hR => noFr hR) rfl) (fun _ hd' => absurd hd hd')
  · have z1 := k1.size
    obtain ⟨ob1, ob2, ob3, ob4⟩ := hb
    obtain ⟨v1, v2, v3⟩ := openM_ok (m := m) (fr := fr) (n := n) (by omega) (by omega) he
    refine RefW.open_spec (r2.keep k1 (fun _ _ h => h)) (by omega) hz hf hn he (fun hb' => absurd ⟨ob1, ob2, ob3, ob4⟩ hb') (fun _ hd' => absurd hd' hd) (fun _ _ qr s2 h2 q02 o2 f2 k2 => ?_)
    have z2 := k2.size
    have k02 := k1.trans' k2
    have hq := o1.lt
    have z0 := k.size
    refine hk _ _ h2 (.inr ⟨q, qr, _, rfl, rfl, ⟨mu, im, mur, r1.keep k02 (fun _ _ h => h) (fun _ _ h => h), r2.keep k02 (fun _ _ h => h), g1, fun b hb => ⟨g2 b hb, ?_⟩, k2.row o1 (fun h => h), o2, by omega, by omega, by omega, k.trans k02 (fun _ _ h => h.elim)⟩, v1, ⟨ob1, ob2, ob3, ob4⟩⟩) rfl (fun {R} hR => ?_) rfl
    · have hb' : b < h.size := by
        rcases hb with hb | hb | hb
        · exact l1 b (.inl hb)
        · exact l1 b (.inr hb)
        · exact l2 b hb
      omega
    · have e := f1.len
      refine frames_spec (f1.keep k2 (fun _ _ _ h => h)) f2 (by show s.len ≤ _; omega) (fun f hf => by have := v2 f hf; omega) ?_
      rw [decide_eq_true rfl]
      exact hR

theorem app_lens (m : M) (L : Lg) (rs : List ByteArray) (h0 : 0 ≤ L.pos) : (appM m L rs).2.1.l.length = m.l.length ∧ ((appM m L rs).2.1.c.length : Int) ≤ m.c.length + max L.n 0 + 4 := by
  unfold appM
  split
  · exact ⟨rfl, by show (m.c.length : Int) ≤ _; omega⟩
  · split
    · exact ⟨rfl, by show (m.c.length : Int) ≤ _; omega⟩
    · rename_i h1
      obtain ⟨k, hk⟩ : ∃ k, k = secs (packL rs).length := ⟨_, rfl⟩
      have h2 := secs_pos (packL rs).length
      have cl := commit_len m (aws L (frameF L.ep L.nx (packL rs)) (secs (packL rs).length)) (L.fr + L.pos, chunk (frameF L.ep L.nx (packL rs)) 0)
      have al : (aws L (frameF L.ep L.nx (packL rs)) (secs (packL rs).length)).length ≤ secs (packL rs).length := by
        unfold aws
        rw [List.length_append]
        have : (fws (L.fr + L.pos) (frameF L.ep L.nx (packL rs)) (secs (packL rs).length)).length = secs (packL rs).length - 1 := by simp [fws]
        rw [this]
        split <;> simp <;> omega
      dsimp only
      split
      · exact ⟨cl.1, by show ((commitM m _ _).2.c.length : Int) ≤ _; omega⟩
      · exact ⟨cl.1, by show ((commitM m _ _).2.c.length : Int) ≤ _; omega⟩

theorem u64_nat (x : Int) : ∃ e : Nat, IntKind.u64.wrap x = (e : Int) ∧ e < 18446744073709551616 := by
  have h := wrap_u64 (x := x)
  exact ⟨(IntKind.u64.wrap x).toNat, by omega, by omega⟩

theorem walPlays_spec {h : Heap} {sz fr n ep0 : Int} {x4 : Sl} (hsz : InI sz) (hf : InI fr) (hn : InI n) (hep : 0 ≤ ep0 ∧ ep0 ≤ 18446744073709551615) (hs : WOpsAt h x4.a x4.len) {R : Bool → Heap → Prop} (hR : ∀ h', Keep (fun _ => False) h h' → R true h') :
    CallT Try.prog law6_WalPlays_no [.int .i64 sz, .int .i64 fr, .int .i64 n, .int .u64 ep0, .slice x4.a x4.len x4.cap] h [.sc .bool] R := by
  apply law6_WalPlays_call
  simp only [law6_WalPlays]
  have aw : CallT Try.prog law6_awake_no [] h [.sc .bool] R := awake_spec fun h3 k3 => hR h3 k3
  refine withJ.inl (withJ.inl ?_)
  refine cnd_dec (fun h1 => cnd_t rfl (withJ.inl (cnd_pos h1 aw))) (fun h1 => ?_)
  refine cnd_dec (fun h2 => cnd_t rfl (withJ.inl (cnd_neg h1 (cnd_pos h2 aw)))) (fun h2 => ?_)
  refine awake_spec fun h0 hk0 => ?_
  refine cnd_f rfl ?_
  refine Disk.new_spec hsz (fun hb => by omega) ?_
  intro _ _ p mu0 im0 h1' hnew hr hk1
  refine Ref5.new_spec hsz (fun hb => by omega) ?_
  intro _ _ pr mur0 h2' hnew2 hr2 hk2
  have b0 : Both h h2' p pr ⟨List.replicate sz.toNat (noughts 256), [], 0, 0⟩ := Both.new (fun b hb => by have := hnew b hb; have := hk0.size; omega) hr (hk0.trans' hk1) hnew2 hr2 hk2
  obtain ⟨e0, rfl⟩ : ∃ e : Nat, ep0 = (e : Int) := ⟨ep0.toNat, by omega⟩
  refine opens_spec b0 (by simp) hf hn (by omega) ?_
  intro r8 r10 h3' lg0' hee hfr hnn
  refine withJ.inl (withJ.inl ?_)
  refine cnd_f (by simp [hee]) (cnd_f (by simp [hnn]) ?_)
  refine hfr ?_
  refine cnd_f rfl ?_
  refine LoopT.intro (fun (t : Int × Option Addr × Option Addr × Int) h' => 0 ≤ t.2.2.2 ∧ t.2.2.2 ≤ 40 ∧ (∃ e : Nat, t.1 = (e : Int) ∧ e < 18446744073709551616) ∧ ∃ m, Lgs h h' p pr m fr n t.2.1 t.2.2.1 ∧ (m.l.length : Int) = sz ∧ (m.c.length : Int) ≤ 100 * t.2.2.2) (fun t _ => (40 - t.2.2.2).toNat)
    ⟨by show (0 : Int) ≤ 0; omega, by show (0 : Int) ≤ 40; omega, ⟨e0, rfl, by omega⟩, _, lg0', by simp; omega, by simp⟩ ?_
  rintro ⟨ep, pl, pm, i⟩ h4 ⟨g1, g2, ⟨e, he0, he⟩, m, lgs, hl, hcl⟩
  replace g1 : 0 ≤ i := g1
  replace g2 : i ≤ 40 := g2
  replace he0 : ep = (e : Int) := he0
  replace lgs : Lgs h h4 p pr m fr n pl pm := lgs
  replace hcl : (m.c.length : Int) ≤ 100 * i := hcl
  subst he0
  refine withJ.inl ?_
  refine cnd_dec (fun hin1 => ?_) (fun _ => hR _ lgs.both.out)
  refine cnd_dec (fun hin2 => ?_) (fun _ => hR _ lgs.both.out)
  replace hin1 : i < x4.len := hin1
  replace hin2 : i < 40 := hin2
  refine cnd_of (fun hsome => ?_) (fun _ => hR _ lgs.both.out)
  rcases lgs with ⟨rfl, rfl, b⟩ | ⟨q, qr, L, rfl, rfl, tw, lok, okr⟩
  · cases hsome
  refine withJ.inl ?_
  obtain ⟨x, n0, n1, n2, so, sl, sc, ko, kl, kc, hx, c0, c1, c2, c3, c4, i1, i2, ⟨ht, hpb, hsl⟩, kb⟩ := hs i.toNat (by omega)
  rw [hx]
  have hkeep := tw.both.2
  refine idx_some g1 hin1 ?_
  have old : ∀ {a : Addr} {v : Value}, cellH h a = some v → cellH h4 a = some v := fun hc => hkeep.cell hc (by have := cell_lt hc; omega)
  refine ldI_at (old c0) (ldI_at (old c1) (ldI_at (old c2) (ldL_at (old c3) (ldL_at (old c4) ?_))))
  refine newB_row ?_
  intro h5 s5 o5 k5
  rw [add_mk, add_mk, add_mk, add_mk]
  refine stC_row o5 (by simp) rfl ?_
  intro h6 s6 o6 k6
  refine stC_row o6 (by simp) rfl ?_
  intro h7 s7 o7 k7
  refine stC_row o7 (by simp) rfl ?_
  intro h8 s8 o8 k8
  refine stC_row o8 (by simp) rfl ?_
  intro h9 s9 o9 k9
  refine stC_row o9 (by simp) rfl ?_
  intro h11 s11 o11 k11
  have k411 : Keep (fun _ => False) h4 h11 := k5.trans ((((k6.trans' k7).trans' k8).trans' k9).trans' k11) (fun y hy hb => by
    have : y = h4.size := hb
    omega)
  have oo : Row h11 h4.size [.int .i64 n0, .int .i64 n1, .int .i64 n2, .slice so sl sc, .slice ko kl kc] := o11
  have hw : w64 (i + 1) = i + 1 := w64_id (by omega) (by omega)
  refine withJ.intro (fun (t : Int × Option Addr × Option Addr) h9 => (∃ e : Nat, t.1 = (e : Int) ∧ e < 18446744073709551616) ∧ ∃ m, Lgs h h9 p pr m fr n t.2.1 t.2.2 ∧ (m.l.length : Int) = sz ∧ (m.c.length : Int) ≤ 100 * (i + 1)) ?_ ?_
  · rintro ⟨ep', x', y'⟩ h12 ⟨hep', m', lgs', hl', hcl'⟩
    replace lgs' : Lgs h h12 p pr m' fr n x' y' := lgs'
    refine withJ.inl ?_
    have fin : ∀ h13, Keep (fun _ => False) h12 h13 → (0 ≤ w64 (i + 1) ∧ w64 (i + 1) ≤ 40 ∧ (∃ e : Nat, ep' = (e : Int) ∧ e < 18446744073709551616) ∧ ∃ m, Lgs h h13 p pr m fr n x' y' ∧ (m.l.length : Int) = sz ∧ (m.c.length : Int) ≤ 100 * w64 (i + 1)) ∧ (40 - w64 (i + 1)).toNat < (40 - i).toNat := fun h13 k13 => by
      rw [hw]
      exact ⟨⟨by omega, by omega, hep', m', lgs'.keep k13, hl', hcl'⟩, by omega⟩
    refine cnd_of (fun hsome' => ?_) (fun _ => ?_)
    · rcases lgs' with ⟨rfl, rfl, b⟩ | ⟨q', qr', L', rfl, rfl, tw', lok', okr'⟩
      · cases hsome'
      have hb12 := tw'.both
      obtain ⟨_, _, _, r1, r2, _, _, o1, o2, _, _, _, _⟩ := tw'.use
      obtain ⟨v1, v2, v3, v4, v5, v6⟩ := lok'
      have hle := r2.le
      obtain ⟨w1, w2, w3, w4⟩ := okr'
      rw [nn_eq, add_mk]
      refine ldI_row (n := (L'.nx : Int)) (o := 0 + 4) o2 rfl ?_
      refine next_spec o1 ?_
      refine ⟨ldI_row (n := (L'.nx : Int)) (o := 0 + 4) o2 rfl rfl, ?_⟩
      refine cnd_f (by simp) ?_
      refine room_spec o1 (by omega) ?_
      refine RefW.room_spec o2 (by omega) ?_
      refine cnd_f (by simp) ?_
      refine same_spec hb12 (by omega) ?_
      intro h13 k13
      exact cnd_f rfl (fin h13 k13)
    · refine same_spec lgs'.both (by omega) ?_
      intro h13 k13
      exact cnd_f rfl (fin h13 k13)
  · intro J hJ
    obtain ⟨v1, v2, v3, v4, v5, v6⟩ := lok
    obtain ⟨w1, w2, w3, w4⟩ := okr
    have tw11 := tw.keep k411
    have k11 : Keep (fun y => h.size ≤ y) h h11 := tw11.both.2
    have z4 := k411.size
    have z0 := hkeep.size
    have rows4 : Row h4 q (LRow p L) ∧ Row h4 qr (LRow pr L) := by
      obtain ⟨_, _, _, _, _, _, _, o1, o2, _, _, _, _⟩ := tw.use
      exact ⟨o1, o2⟩
    have hq4 := rows4.1.lt
    have hqr4 := rows4.2.lt
    refine ldI_row oo rfl ?_
    refine cnd_of (fun _ => ?_) (fun _ => ?_)
    · -- Append
      refine withJ.inl ?_
      obtain ⟨mu, im, mur, r1, r2, hbl, hdis, _, _, q3, hq0, hqr0, step⟩ := tw.use
      have cl : m.c.length ≤ 800000 := by omega
      have nmu : ∀ {b}, b = h4.size → ¬ (mu b ∨ b = q) := fun e hm => by
        rcases hm with hm | hm
        · have := (hbl _ (.inl hm)).2.1; omega
        · omega
      have nmur : ∀ {b}, b = h4.size → ¬ (mur b ∨ b = qr) := fun e hm => by
        rcases hm with hm | hm
        · have := (hbl _ (.inr (.inr hm))).2.1; omega
        · omega
      have r1' := r1.keep k411 (fun _ _ h => h) (fun _ _ h => h)
      have r2' := r2.keep k411 (fun _ _ h => h)
      have ht11 : Ts h11 so sl (textsOf h so sl) := Rv.keep ht k11 (fun hl b hb hh => by
        have := Rv.lt ht hl hb
        have hh' : h.size ≤ b := hh
        omega)
      have htB : ∀ {S : Nat → Prop} {hA hB : Heap}, Ts hA so sl (textsOf h so sl) → (∀ b, S b → h.size ≤ b) → Keep S hA hB → Ts hB so sl (textsOf h so sl) := fun ht hS hk => Rv.keep ht hk (fun hl b hb hm => by
        have := Rv.lt (by assumption : Ts h so sl (textsOf h so sl)) hl hb
        have := hS b hm
        omega)
      have S1 : ∀ b, (mu b ∨ b = q) → h.size ≤ b := fun b hb => by
        rcases hb with hb | hb
        · exact (hbl b (.inl hb)).1
        · omega
      have S2 : ∀ b, (mur b ∨ b = qr) → h.size ≤ b := fun b hb => by
        rcases hb with hb | hb
        · exact (hbl b (.inr (.inr hb))).1
        · omega
      refine ldL_row oo rfl (ldL_row oo rfl ?_)
      refine append_spec r1' cl (k411.row rows4.1 (fun h => h)) ⟨fun hm => (hbl q (.inl hm)).2.2.1 rfl, fun hm => (hbl q (.inr (.inl hm))).2.2.1 rfl⟩ (by omega) (by omega) (by omega) (by omega) (by omega) ht11 (by omega) ?_
      intro mu2 im2 h12 u1 u2 u3 u4
      have row12 := u3.row oo (nmu rfl)
      have ht12 := htB ht11 S1 u3
      refine ⟨ldL_row row12 rfl rfl, ?_⟩
      refine RefW.append_spec (r2'.keep u3 (fun b hb hm => ?_)) cl (u3.row (k411.row rows4.2 (fun h => h)) (fun hm => ?_)) (fun hm => (hbl qr (.inr (.inr hm))).2.2.2 rfl) (by omega) (by omega) (by omega) (by omega) (by omega) v6 ht12 (by omega) (by omega) ?_
      · rcases hm with hm | hm
        · exact hdis b hb hm
        · exact (hbl b (.inr (.inr hb))).2.2.1 hm
      · rcases hm with hm | hm
        · exact (hbl qr (.inl hm)).2.2.2 rfl
        · exact q3 hm.symm
      intro mur2 h13 u5 u6 u7 u8
      have row13 := u7.row row12 (nmur rfl)
      have ht13 := htB ht12 S2 u7
      have tw13 := step k411 u1 u3 u4 u2 u5 u7 u8 u6
      have al := app_lens m L (textsOf h so sl) v3
      have ao := app_ok ⟨v1, v2, v3, v4, v5, v6⟩ (m := m) (textsOf h so sl)
      refine cnd_f (by simp) ?_
      refine ldL_row row13 rfl (ldL_row row13 rfl ?_)
      refine need_spec ht13 (by omega) (by omega) ?_
      refine ⟨ldL_row row13 rfl rfl, ?_⟩
      refine RefW.need_spec ht13 (by omega) (by omega) ?_
      intro h14 k14
      refine cnd_f (by simp) ?_
      exact hJ _ _ ⟨⟨e, rfl, he⟩, _, .inr ⟨q, qr, _, rfl, rfl, tw13.keep k14, ao, by rw [al.1]; exact ⟨w1, w2, w3, w4⟩⟩, by rw [al.1]; exact hl, by omega⟩
    obtain ⟨mu, im, mur, r1, r2, hbl, hdis, step⟩ := tw.dev
    have cl : m.c.length ≤ 800000 := by omega
    have nmu : ¬ mu h4.size := fun hm => by have := (hbl _ (.inl hm)).2.1; omega
    have nmur : ¬ mur h4.size := fun hm => by have := (hbl _ (.inr (.inr hm))).2.1; omega
    have r1' := r1.keep k411 (fun _ _ h => h) (fun _ _ h => h)
    have r2' := r2.keep k411 (fun _ _ h => h)
    refine cnd_of (fun _ => ?_) (fun _ => ?_)
    · -- Fuse
      refine ldI_row oo rfl ?_
      refine fuse_spec r1' i1 ?_
      intro h12 r12 k12 s12
      have k12' : Keep mu h11 h12 := k12.mono (fun y _ hy => by
        have : y = p := hy
        rw [this]; exact r1.own)
      refine ldI_row (k12'.row oo nmu) rfl ?_
      rw [nn_eq, add_mk]
      refine Ref5.setF (r2'.keep k12' (fun b hb hm => hdis b hb hm)) i1 ?_
      intro h13 r13 k13 s13
      have fl := fuse_lc m n1
      exact hJ _ _ ⟨⟨e, rfl, he⟩, _, .inr ⟨q, qr, L, rfl, rfl, step k411 r12 k12' (.same _ _ _) r13 (k13.mono (fun y _ hy => by
        have : y = pr := hy
        rw [this]; exact r2.own)) (fun _ h => .inl h), ⟨v1, v2, v3, v4, v5, v6⟩, by rw [fl.1]; exact ⟨w1, w2, w3, w4⟩⟩, by rw [fl.1]; exact hl, by rw [fl.2]; omega⟩
    refine cnd_of (fun _ => ?_) (fun _ => ?_)
    · -- a sector is written over
      refine ldI_row oo rfl (ldI_row oo rfl ?_)
      refine sector_spec ?_
      intro h12 b12 k12 s12
      have rowA := k12.row oo (fun h => h)
      refine ldI_row rowA rfl ?_
      have far : ∀ b, blk (some (⟨h11.size, 0, none⟩ : Addr)) b → ¬ mu b := fun b hb hm => by
        rw [blk_some] at hb
        have := (hbl b (.inl hm)).2.1
        simp only at hb
        omega
      refine Disk.write_spec (r1'.keep k12 (fun _ _ h => h) (fun _ _ h => h)) i1 b12 (by rw [sector_size]; omega) (by omega) far ?_
      intro mu2 im2 h13 u1 u2 u3
      have rowB := u2.row rowA nmu
      refine ldI_row rowB rfl ?_
      refine (b12.keep u2 far).str ?_
      refine Ref5.write_spec ((r2'.keep k12 (fun _ _ h => h)).keep u2 (fun b hb hm => hdis b hb hm)) i1 (by omega) ?_
      intro mur2 h14 u4 u5 u6
      have wl := write_len m n1 (sector n1 n2)
      exact hJ _ _ ⟨⟨e, rfl, he⟩, _, .inr ⟨q, qr, L, rfl, rfl, step (k411.trans' k12) u1 u2 u3 u4 u5 u6, ⟨v1, v2, v3, v4, v5, v6⟩, by rw [wl.1]; exact ⟨w1, w2, w3, w4⟩⟩, by rw [wl.1]; exact hl, by omega⟩
    -- opened anew
    refine withJ.intro (fun (_ : Unit) h' => ∃ m, Both h h' p pr m ∧ (m.l.length : Int) = sz ∧ (m.c.length : Int) ≤ 100 * (i + 1) ∧ Row h' h4.size [.int .i64 n0, .int .i64 n1, .int .i64 n2, .slice so sl sc, .slice ko kl kc]) ?_ ?_
    · rintro _ h12 ⟨m', b12, hl', hcl', row12⟩
      refine withJ.intro (fun (s : Int) h' => h' = h12 ∧ ∃ e : Nat, s = (e : Int) ∧ e < 18446744073709551616) ?_ ?_
      · rintro s _ ⟨rfl, e', rfl, he'⟩
        refine opens_spec b12 (by omega) hf hn he' ?_
        intro r97 r99 h13 lg13 hee' hfr' hnn'
        refine withJ.inl ?_
        refine cnd_f (by simp [hee']) (cnd_f (by simp [hnn']) ?_)
        refine hfr' ?_
        refine cnd_f rfl ?_
        exact hJ _ _ ⟨⟨e', rfl, he'⟩, m', lg13, hl', hcl'⟩
      · intro J2 hJ2
        refine ldI_row row12 rfl ?_
        refine cnd_of (fun _ => ?_) (fun _ => ?_)
        · refine ldI_row row12 rfl ?_
          exact hJ2 _ _ ⟨rfl, u64_nat _⟩
        · exact hJ2 _ _ ⟨rfl, e, rfl, he⟩
    · intro J2 hJ2
      refine ldI_row oo rfl ?_
      refine cnd_of (fun _ => ?_) (fun _ => ?_)
      · -- Crash
        refine ldL_row oo rfl ?_
        have bis := (BoolsAt.is kb).keep k11 (fun hl y hy hh => by
          have := BoolsAt.lt kb hl hy
          have hh' : h.size ≤ y := hh
          omega)
        have far : ∀ {S : Nat → Prop}, (∀ b, S b → h.size ≤ b) → 0 < kl → ∀ b, blk ko b → ¬ S b := fun hS hl y hy hm => by
          have := BoolsAt.lt kb hl hy
          have := hS y hm
          omega
        have f1 := far (S := mu) (fun b hb => (hbl b (.inl hb)).1)
        have f2 := far (S := mur) (fun b hb => (hbl b (.inr (.inr hb))).1)
        refine crash_spec r1' (by omega) bis f1 ?_
        intro h12 r12 k12
        have row12 := k12.row oo nmu
        refine ldL_row row12 rfl ?_
        refine Ref5.crash_spec (r2'.keep k12 (fun b hb hm => hdis b hb hm)) (by omega) (bis.keep k12 f1) f2 ?_
        intro h13 r13 k13
        have fl := crash_len m (boolsOf h ko kl)
        exact hJ2 _ _ ⟨_, (step k411 r12 k12 (.same _ _ _) r13 k13 (fun _ h => .inl h)).both, by rw [fl.1]; exact hl, by omega, k13.row row12 nmur⟩
      · exact hJ2 _ _ ⟨m, tw11.both, hl, by omega, oo⟩

end Wal
end Go.Proofs.Ytmkobpkdodgboaa
