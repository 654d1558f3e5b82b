/- ChunkEncodes. -/
import Derived.Test.YtncffbocmpmejaaDoorPRefCB
namespace Go.Proofs.YtncffbocmpmejaaDoor
open Go D
set_option linter.unusedVariables false
set_option linter.unusedSimpArgs false
namespace Chunk
open Hash (hexL hmacF sha256F hexB)

theorem to_spec {h : Heap} {w : Wh} {ka : Option Addr} {kl kc : Nat} {R : (ByteArray × ByteArray × ByteArray × ByteArray × Sl × ByteArray) → Heap → Prop} (hk : ∀ h', Keep (fun _ => False) h h' → R (w.id, w.date, w.scope, w.sig, ⟨ka, kl, kc⟩, w.pay) h') :
    CallT Tryd.prog law19_To_no [.agg #[.string w.id, .string w.date, .string w.scope, .string w.sig, .slice ka kl kc, .string w.pay]] h [.agg [.str, .str, .str, .str, .sl, .str]] R := by
  have hcall := law19_To_call (w_0 := (w.id, w.date, w.scope, w.sig, ⟨ka, kl, kc⟩, w.pay)) (R := R) (h := h)
  apply hcall
  unfold law19_To
  refine newB_row ?_
  intro h1 s1 r1 k1
  replace r1 : Row h1 h.size (whoRow w ka kl kc) := r1
  refine newB_row ?_
  intro h2 s2 r2 k2
  refine ldW (k2.row r1 (fun h => h)) ?_
  simp only [add_mk]
  refine stC_row r2 (by simp) rfl ?_
  intro h3 s3 r3 k3
  refine stC_row r3 (by simp) rfl ?_
  intro h4 s4 r4 k4
  refine stC_row r4 (by simp) rfl ?_
  intro h5 s5 r5 k5
  refine stC_row r5 (by simp) rfl ?_
  intro h6 s6 r6 k6
  refine stC_row r6 (by simp) rfl ?_
  intro h7 s7 r7 k7
  refine stC_row r7 (by simp) rfl ?_
  intro h8 s8 r8 k8
  replace r8 : Row h8 h1.size [.string w.id, .string w.date, .string w.scope, .string w.sig, .slice ka kl kc, .string w.pay] := r8
  refine ldS_row (o := 0) r8 rfl (ldS_row (o := 0 + 1) r8 rfl (ldS_row (o := 0 + 2) r8 rfl (ldS_row (o := 0 + 3) r8 rfl (ldL_row (o := 0 + 4) r8 rfl (ldS_row (o := 0 + 5) r8 rfl ?_)))))
  have K28 : Keep (· = h1.size) h2 h8 := ((((k3.trans' k4).trans' k5).trans' k6).trans' k7).trans' k8
  refine hk h8 ⟨by have := K28.size; omega, fun b hb _ => ?_⟩
  rw [K28.same b (by omega) (by show ¬ b = h1.size; omega), k2.same b (by omega) (fun h => h), k1.same b hb (fun h => h)]

theorem chunkEncodes_spec {h : Heap} {w : Wh} {ka : Option Addr} {kl kc : Nat} {x1 x2 : Sl} {data : List UInt8} {sa : List Int} (wa : WA h w ka kl kc) (hd : Rb h x1.a x1.len data) (hdc : x1.len ≤ x1.cap) (hdl : x1.len ≤ 1048576)
    (ha : Rv h x2.a x2.len (sa.map (.int .i64 ·))) (hai : ∀ z ∈ sa, InI z) (hal : x2.len ≤ 1048576) {R : Bool → Heap → Prop} (hR : ∀ h', Keep (fun _ => False) h h' → R true h') :
    CallT Tryd.prog 4 [.agg #[.string w.id, .string w.date, .string w.scope, .string w.sig, .slice ka kl kc, .string w.pay], .slice x1.a x1.len x1.cap, .slice x2.a x2.len x2.cap] h [.sc .bool] R := by
  have hcall := law19_ChunkEncodes_call (w_0 := (w.id, w.date, w.scope, w.sig, ⟨ka, kl, kc⟩, w.pay)) (data_1 := x1) (sizes_2 := x2) (R := R) (h := h)
  apply hcall
  have e1 := hd.len
  have e2 := ha.1
  rw [List.length_map] at e2
  have hn := wa.n
  unfold law19_ChunkEncodes
  refine newB_row ?_
  intro h1 s1 r1 k1
  replace r1 : Row h1 h.size (whoRow w ka kl kc) := r1
  refine withJ.intro (fun (b : Bool) h' => b = true ∧ Keep (fun _ => False) h h') ?_ ?_
  · rintro b h' ⟨rfl, k⟩
    exact hR h' k
  · intro J hJ
    refine ldW r1 (ldW r1 ?_)
    refine encode_spec (wa.key.keep0 k1) wa.le (by omega) (hd.keep0 k1) hdc (by omega) (ha.keep0 k1) hai (by omega) ?_
    intro t h2 t2 t3 t4 _ _ k2
    have r2 := k2.row r1 (fun h => h)
    refine ⟨ldW r2 rfl, ?_⟩
    have K2 := k1.trans' k2
    refine Rb.str (bs := encF w data sa) t2 ?_
    refine to_spec ?_
    intro h3 k3
    have K3 := K2.trans' k3
    refine ⟨Rb.str (bs := encF w data sa) (t2.keep0 k3) rfl, ?_⟩
    refine encode19_spec (wa.key.keep0 K3) wa.le (by omega) (hd.keep0 K3) hdc (by omega) (ha.keep0 K3) hai (by omega) ?_
    intro u h4 u2 k4
    have K4 := K3.trans' k4
    refine ⟨Rb.str (bs := encF w data sa) (t2.keep0 (k3.trans' k4)) rfl, ?_⟩
    refine Rb.str (bs := encF w data sa) u2 ?_
    refine cnd_t (seq_self _) ?_
    exact awake_spec fun h6 k6 => hJ _ _ ⟨rfl, K4.trans' k6⟩
end Chunk
end Go.Proofs.YtncffbocmpmejaaDoor
