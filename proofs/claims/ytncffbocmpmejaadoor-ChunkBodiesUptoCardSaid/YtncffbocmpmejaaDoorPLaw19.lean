/- Layer 19's laws: what arguments read as, awake, ChunkCuts. -/
import Derived.Test.YtncffbocmpmejaaDoorPChunkE
import Derived.Test.YtncffbocmpmejaaDoorPArgs
import Derived.Test.YtncffbocmpmejaaDoorGLawC
namespace Go.Proofs.YtncffbocmpmejaaDoor
open Go D
set_option linter.unusedVariables false
set_option linter.unusedSimpArgs false
namespace Chunk
open Hash (hexL hmacF sha256F hexB)

/-! ### arguments -/
def intsAt (h : Heap) (a : Option Addr) (l : Nat) : List Int := (List.range l).map fun i => match a with | some x => (match cellH h (x.add i) with | some (.int _ z) => z | _ => 0) | none => 0
theorem intsL_of {h : Heap} {a : Option Addr} {l c n : Nat} (hs : InSl 1 (InInt .i64) h n [.slice a l c]) : Rv h a l ((intsAt h a l).map (.int .i64 ·)) ∧ (∀ z ∈ intsAt h a l, InI z) ∧ (intsAt h a l).length = l ∧ l ≤ c ∧ c ≤ n := by
  rcases hs with h1 | ⟨x, l', c', h1, h2, h3, h4, h5⟩
  · injection h1 with h1
    injection h1 with h1 h2 h3
    subst h1 h2 h3
    exact ⟨⟨by simp [intsAt], fun i v hv => by simp [intsAt] at hv⟩, fun z hz => by simp [intsAt] at hz, by simp [intsAt], Nat.le_refl _, by omega⟩
  · injection h1 with h1
    injection h1 with e1 e2 e3
    subst e1 e2 e3
    have cell : ∀ i, i < l → ∃ z, cellH h (x.add i) = some (.int .i64 z) ∧ InI z := fun i hi => by
      obtain ⟨r, b, g1, _, g2, z, rfl, g4, g5, _⟩ := h5 i (by omega)
      have hc := g2 0 (by omega)
      rw [add_zero, Nat.mul_one] at hc
      exact ⟨z, hc, g4, g5⟩
    have hsp : 0 < l → x.spot = none := fun hl => by
      cases hx : x.spot with
      | none => rfl
      | some t =>
        obtain ⟨z, hz, _⟩ := cell 0 hl
        rw [add_zero] at hz
        unfold cellH at hz
        rw [hx] at hz
        split at hz
        · simp at hz
        · cases hz
    have get : ∀ i, i < l → ∃ z, (intsAt h (some x) l)[i]? = some z ∧ cellH h (x.add i) = some (.int .i64 z) ∧ InI z := fun i hi => by
      obtain ⟨z, hz, hI⟩ := cell i hi
      refine ⟨z, ?_, hz, hI⟩
      unfold intsAt
      rw [List.getElem?_map, List.getElem?_range hi]
      simp only [Option.map_some, hz]
    have hlen : (intsAt h (some x) l).length = l := by simp [intsAt]
    refine ⟨⟨by simp [hlen], fun i v hv => ?_⟩, fun z hz => ?_, hlen, h2, by omega⟩
    · have hi : i < l := by
        have := (List.getElem?_eq_some_iff.1 hv).1
        rwa [List.length_map, hlen] at this
      obtain ⟨z, g1, g2, _⟩ := get i hi
      rw [List.getElem?_map, g1] at hv
      injection hv with hv
      subst hv
      exact ⟨x, rfl, hsp (by omega), g2⟩
    · obtain ⟨i, hi, e⟩ := List.getElem_of_mem hz
      obtain ⟨z', g1, _, g3⟩ := get i (by omega)
      rw [List.getElem?_eq_getElem hi, e] at g1
      injection g1 with g1
      subst g1
      exact g3

/-- who signs, as it came in -/
def InWho : RP := InAgg 6 [(0, 1, InStr), (1, 1, InStr), (2, 1, InStr), (3, 1, InStr), (4, 1, InSl 1 (InInt .u8)), (5, 1, InStr)]
structure WA (h : Heap) (w : Wh) (ka : Option Addr) (kl kc : Nat) : Prop where
  key : Rb h ka kl w.key
  le : kl ≤ kc
  n : w.n ≤ 10000000
theorem who_of {h : Heap} {n : Nat} {cs : List Value} (hs : InWho h n cs) (hn : n ≤ 1048576) : ∃ w ka kl kc, cs = whoRow w ka kl kc ∧ WA h w ka kl kc := by
  obtain ⟨h0, h1⟩ := hs
  match cs, h0 with
  | [v0, v1, v2, v3, v4, v5], _ =>
    obtain ⟨b0, l0, s0, e0, _, m0⟩ := h1 _ (List.mem_cons_self ..)
    obtain ⟨b1, l1, s1, e1, _, m1⟩ := h1 _ (List.mem_cons_of_mem _ (List.mem_cons_self ..))
    obtain ⟨b2, l2, s2, e2, _, m2⟩ := h1 _ (List.mem_cons_of_mem _ (List.mem_cons_of_mem _ (List.mem_cons_self ..)))
    obtain ⟨b3, l3, s3, e3, _, m3⟩ := h1 _ (List.mem_cons_of_mem _ (List.mem_cons_of_mem _ (List.mem_cons_of_mem _ (List.mem_cons_self ..))))
    obtain ⟨b4, l4, f4⟩ := h1 (4, 1, InSl 1 (InInt .u8)) (by simp)
    obtain ⟨b5, l5, s5, e5, _, m5⟩ := h1 (5, 1, InStr) (by simp)
    simp at e0 e1 e2 e3 e5
    subst e0 e1 e2 e3 e5
    have f4' : InSl 1 (InInt .u8) h b4 [v4] := f4
    obtain ⟨a, l, c, rfl⟩ : ∃ a l c, v4 = .slice a l c := by
      rcases f4' with e | ⟨x, l, c, e, _⟩
      · exact ⟨_, _, _, List.singleton_inj.1 e⟩
      · exact ⟨_, _, _, List.singleton_inj.1 e⟩
    obtain ⟨k1, k2, k3⟩ := bytes_of f4'
    have kl := k1.len
    refine ⟨⟨s0, s1, s2, s3, bytesAt h a l, s5⟩, a, l, c, rfl, k1, k2, ?_⟩
    show s1.size + s2.size + s3.size + (bytesAt h a l).length ≤ _
    omega

theorem ldW {h : Heap} {p : Nat} {w : Wh} {ka : Option Addr} {kl kc : Nat} {K : ByteArray → ByteArray → ByteArray → ByteArray → Option Addr → Nat → Nat → ByteArray → Prop} (r : Row h p (whoRow w ka kl kc)) (hk : K w.id w.date w.scope w.sig ka kl kc w.pay) :
    ldS ⟨p, 0, none⟩ h fun s6 => ldS ((⟨p, 0, none⟩ : Addr).add 1) h fun s7 => ldS ((⟨p, 0, none⟩ : Addr).add 2) h fun s8 => ldS ((⟨p, 0, none⟩ : Addr).add 3) h fun s9 => ldL ((⟨p, 0, none⟩ : Addr).add 4) h fun o10 l10 c10 => ldS ((⟨p, 0, none⟩ : Addr).add 5) h fun s11 => K s6 s7 s8 s9 o10 l10 c10 s11 := by
  simp only [add_mk]
  unfold whoRow at r
  exact ldS_row (o := 0) r rfl (ldS_row (o := 0 + 1) r rfl (ldS_row (o := 0 + 2) r rfl (ldS_row (o := 0 + 3) r rfl (ldL_row (o := 0 + 4) r rfl (ldS_row (o := 0 + 5) r rfl hk)))))

theorem bool_eq_true_of {a b : Bool} (h : a = b) (hb : b = true) : a = true := h.trans hb

/-! ### awake -/
def whoA : Wh := ⟨⟨#[]⟩, ⟨#[50, 48, 49, 51, 48, 53, 50, 52, 84, 48, 48, 48, 48, 48, 48, 90]⟩, ⟨#[120]⟩, ⟨#[121]⟩, [107], ⟨#[]⟩⟩
theorem dec_nil (w : Wh) : decF w 0 [] = ([], 307) := by
  have p : pieceF [] = errP 307 := by
    unfold pieceF
    have e : eatF (([] : List UInt8).drop (runN 8 [])) markL = ([], 307) := by decide
    rw [if_neg (by simp), e, if_pos (by decide)]
  unfold decF decN
  rw [p, if_pos (by decide)]
  rfl

theorem awake_spec {h : Heap} {R : Bool → Heap → Prop} (hR : ∀ h', Keep (fun _ => False) h h' → R true h') : CallT Tryd.prog law19_awake_no [] h [.sc .bool] R := by
  apply law19_awake_call
  unfold law19_awake
  refine lit_row ?_
  intro h1 s1 r1 k1
  refine newB_row ?_
  intro h2 s2 r2 k2
  simp only [add_mk]
  refine stC_row r2 (by simp) rfl ?_
  intro h3 s3 r3 k3
  refine stC_row r3 (by simp) rfl ?_
  intro h4 s4 r4 k4
  refine stC_row r4 (by simp) rfl ?_
  intro h5 s5 r5 k5
  refine stC_row r5 (by simp) rfl ?_
  intro h6 s6 r6 k6
  refine stC_row r6 (by simp) rfl ?_
  intro h7 s7 r7 k7
  refine stC_row r7 (by simp) rfl ?_
  intro h8 s8 r8 k8
  have row8 : Row h8 h1.size (whoRow whoA (some ⟨h.size, 0, none⟩) 1 1) := r8
  have K28 : Keep (· = h1.size) h2 h8 := ((((k3.trans' k4).trans' k5).trans' k6).trans' k7).trans' k8
  have key2 : Rb h2 (some ⟨h.size, 0, none⟩) 1 [107] := SlR.rv (c := 1) (.inr ⟨h.size, 0, _, rfl, k2.row r1 (fun h => h), by omega, by simp, by simp, rfl⟩)
  have key8 : Rb h8 (some ⟨h.size, 0, none⟩) 1 whoA.key := key2.keep K28 (fun _ b hb e => by
    rw [blk_some] at hb
    have e' : b = h1.size := e
    simp only at hb
    omega)
  have K08 : Keep (fun _ => False) h h8 := ⟨by have := K28.size; omega, fun b hb _ => by
    rw [K28.same b (by omega) (by show ¬ b = h1.size; omega), k2.same b (by omega) (fun h => h), k1.same b hb (fun h => h)]⟩
  unfold whoRow at row8
  refine ldS_row (o := 0) row8 rfl (ldS_row (o := 0 + 1) row8 rfl (ldS_row (o := 0 + 2) row8 rfl (ldS_row (o := 0 + 3) row8 rfl (ldL_row (o := 0 + 4) row8 rfl (ldS_row (o := 0 + 5) row8 rfl ?_)))))
  refine lit_row ?_
  intro h9 s9 r9 k9
  have d9 : Rb h9 (some ⟨h8.size, 0, none⟩) 3 [97, 98, 99] := SlR.rv (c := 3) (.inr ⟨h8.size, 0, _, rfl, r9, by omega, by simp, by simp, rfl⟩)
  have wn : whoA.n = 19 := by decide
  refine encode_spec (w := whoA) (sa := ⟨none, 0, 0⟩) (sizes := []) (key8.keep0 k9) (Nat.le_refl _) (by rw [wn]; omega) d9 (by omega) (by omega) (rb_nil _) (fun z hz => by cases hz) (by simp) ?_
  intro t h10 b10 c10 l10 n10 _ k10
  have row10 := k10.row (k9.row row8 (fun h => h)) (fun h => h)
  refine ldS_row (o := 0) row10 rfl (ldS_row (o := 0 + 1) row10 rfl (ldS_row (o := 0 + 2) row10 rfl (ldS_row (o := 0 + 3) row10 rfl (ldL_row (o := 0 + 4) row10 rfl (ldS_row (o := 0 + 5) row10 rfl ?_)))))
  have K10 := k9.trans' k10
  have l10' : t.len ≤ 93 * (0 + 2) + 3 := l10
  refine decode_spec (w := whoA) (key8.keep0 K10) (Nat.le_refl _) b10 (by omega) (by rw [wn]; omega) ?_
  intro x h11 b11 c11 k11
  have row11 := k11.row row10 (fun h => h)
  refine ldS_row (o := 0) row11 rfl (ldS_row (o := 0 + 1) row11 rfl (ldS_row (o := 0 + 2) row11 rfl (ldS_row (o := 0 + 3) row11 rfl (ldL_row (o := 0 + 4) row11 rfl (ldS_row (o := 0 + 5) row11 rfl ?_)))))
  have K11 := K10.trans' k11
  refine decode_spec (w := whoA) (key8.keep0 K11) (Nat.le_refl _) (rb_nil _) (by omega) (by rw [wn]; omega) ?_
  intro y h12 b12 c12 k12
  have row12 := k12.row row11 (fun h => h)
  have K12 := K11.trans' k12
  have ex : decF whoA 3 (encF whoA [97, 98, 99] []) = ([97, 98, 99], 0) := by rw [dec_encF (by decide), if_neg (by decide)]
  rw [ex] at b11
  refine withJ.intro (fun (b : Bool) h' => b = true ∧ Keep (fun _ => False) h h') ?_ ?_
  · rintro b h' ⟨rfl, k⟩
    exact hR h' k
  · intro J hJ
    refine cnd_t (by rw [ex]; rfl) ?_
    refine cnd_t (by rw [dec_nil]; rfl) ?_
    refine Rb.str (bs := [97, 98, 99]) (b11.keep0 k12) ?_
    refine cnd_t (seq_self _) ?_
    refine ldS_row (o := 0) row12 rfl (ldS_row (o := 0 + 1) row12 rfl (ldS_row (o := 0 + 2) row12 rfl (ldS_row (o := 0 + 3) row12 rfl (ldL_row (o := 0 + 4) row12 rfl (ldS_row (o := 0 + 5) row12 rfl ?_)))))
    refine sign_spec (w := whoA) (key8.keep0 K12) (Nat.le_refl _) (rb_nil _) (Nat.le_refl _) (by omega) (by rw [wn]; decide) ?_
    intro h13 k13
    refine hJ _ _ ⟨?_, K08.trans' (K12.trans' k13)⟩
    rw [ofL_size, sign_len]
    rfl

/-! ### ChunkCuts -/
theorem chunkCuts_spec {h : Heap} {w : Wh} {ka : Option Addr} {kl kc : Nat} {x1 x2 x3 : Sl} {data : List UInt8} {sa sb : List Int} (wa : WA h w ka kl kc) (hd : Rb h x1.a x1.len data) (hdc : x1.len ≤ x1.cap)
    (ha : Rv h x2.a x2.len (sa.map (.int .i64 ·))) (hai : ∀ z ∈ sa, InI z) (hal : x2.len ≤ x2.cap) (hb : Rv h x3.a x3.len (sb.map (.int .i64 ·))) (hbi : ∀ z ∈ sb, InI z) {R : Bool → Heap → Prop} (hR : ∀ h', Keep (fun _ => False) h h' → R true h') :
    CallT Tryd.prog 7 [.agg #[.string w.id, .string w.date, .string w.scope, .string w.sig, .slice ka kl kc, .string w.pay], .slice x1.a x1.len x1.cap, .slice x2.a x2.len x2.cap, .slice x3.a x3.len x3.cap] h [.sc .bool] R := by
  have hcall := law19_ChunkCuts_call (x_0 := (w.id, w.date, w.scope, w.sig, ⟨ka, kl, kc⟩, w.pay)) (x_1 := x1) (x_2 := x2) (x_3 := x3) (R := R) (h := h)
  apply hcall
  have e1 := hd.len
  have e2 := ha.1
  have e3 := hb.1
  rw [List.length_map] at e2 e3
  have hn := wa.n
  unfold law19_ChunkCuts
  refine newB_row ?_
  intro h1 s1 r1 k1
  replace r1 : Row h1 h.size (whoRow w ka kl kc) := r1
  have awake : ∀ {h'}, Keep (fun _ => False) h h' → CallT Tryd.prog law19_awake_no [] h' [.sc .bool] fun (r62 : Bool) h63 => R r62 h63 := fun k => awake_spec fun h2 k2 => hR h2 (k.trans' k2)
  refine withJ.intro (fun _ h' => h' = h1 ∧ x1.len ≤ 3000 ∧ x2.len ≤ 60 ∧ x3.len ≤ 60) ?_ ?_
  · rintro _ h' ⟨rfl, b1, b2, b3⟩
    refine ldW r1 (ldW r1 ?_)
    refine encode_spec (wa.key.keep0 k1) wa.le (by omega) (hd.keep0 k1) hdc (by omega) (ha.keep0 k1) hai (by omega) ?_
    intro t1 h2 t2 t3 t4 _ _ k2
    have r2 := k2.row r1 (fun h => h)
    refine ⟨ldW r2 rfl, ?_⟩
    have K2 := k1.trans' k2
    refine decode_spec (wa.key.keep0 K2) wa.le t2 (by omega) (by omega) ?_
    intro x h3 xb xc k3
    have r3 := k3.row r2 (fun h => h)
    have K3 := K2.trans' k3
    refine ldW r3 (ldW r3 ?_)
    refine encode_spec (wa.key.keep0 K3) wa.le (by omega) (hd.keep0 K3) hdc (by omega) (hb.keep0 K3) hbi (by omega) ?_
    intro u1 h4 u2 u3 u4 _ _ k4
    have r4 := k4.row r3 (fun h => h)
    refine ⟨ldW r4 rfl, ?_⟩
    have K4 := K3.trans' k4
    refine decode_spec (wa.key.keep0 K4) wa.le u2 (by omega) (by omega) ?_
    intro y h5 yb yc k5
    have K5 := K4.trans' k5
    have ex : ∀ s, decF w (x1.len : Int) (encF w data s) = (data, 0) := fun s => by rw [dec_encF (by omega), if_neg (by rw [e1]; simp)]
    rw [ex] at xb yb
    rw [ex, ex]
    refine withJ.intro (fun (b : Bool) h' => b = true ∧ Keep (fun _ => False) h h') ?_ ?_
    · rintro b h' ⟨rfl, k⟩
      exact hR h' k
    · intro J hJ
      refine cnd_t rfl (cnd_t rfl ?_)
      refine Rb.str (bs := data) (xb.keep0 (k4.trans' k5)) ?_
      refine Rb.str (bs := data) (hd.keep0 K5) ?_
      refine cnd_t (seq_self _) ?_
      refine Rb.str (bs := data) yb ?_
      refine Rb.str (bs := data) (hd.keep0 K5) ?_
      refine cnd_t (seq_self _) ?_
      refine awake_spec fun h6 k6 => hJ _ _ ⟨rfl, K5.trans' k6⟩
  · intro J hJ
    refine withJ.intro (fun (b : Bool) h' => h' = h1 ∧ (b = false → x1.len ≤ 3000 ∧ x2.len ≤ 60 ∧ x3.len ≤ 60)) ?_ ?_
    · rintro b h' ⟨rfl, hb'⟩
      refine cnd_of (fun e => awake k1) (fun e => ?_)
      exact hJ _ _ ⟨rfl, hb' e⟩
    · intro J2 hJ2
      refine cnd_dec (fun h1 => hJ2 _ _ ⟨rfl, fun e => by cases e⟩) (fun g1 => ?_)
      refine cnd_dec (fun h1 => hJ2 _ _ ⟨rfl, fun e => by cases e⟩) (fun g2 => ?_)
      refine hJ2 _ _ ⟨rfl, fun e => ?_⟩
      have := of_decide_eq_false e
      omega
end Chunk
end Go.Proofs.YtncffbocmpmejaaDoor
