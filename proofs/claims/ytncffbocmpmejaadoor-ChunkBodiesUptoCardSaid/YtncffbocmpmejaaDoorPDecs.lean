/- ChunkDecodes. -/
import Derived.Test.YtncffbocmpmejaaDoorPReadC
namespace Go.Proofs.YtncffbocmpmejaaDoor
open Go D
set_option linter.unusedVariables false
set_option linter.unusedSimpArgs false
namespace Chunk
open Hash (hexL hmacF sha256F hexB)

theorem chunkDecodes_spec {h : Heap} {w : Wh} {ka : Option Addr} {kl kc : Nat} {x1 : Sl} {size : Int} {data : List UInt8} (wa : WA h w ka kl kc) (hd : Rb h x1.a x1.len data) (hdc : x1.len ≤ x1.cap) (hdl : x1.len ≤ 1048576)
    {R : Bool → Heap → Prop} (hR : ∀ h', Keep (fun _ => False) h h' → R true h') :
    CallT Tryd.prog 3 [.agg #[.string w.id, .string w.date, .string w.scope, .string w.sig, .slice ka kl kc, .string w.pay], .slice x1.a x1.len x1.cap, .int .i64 size] h [.sc .bool] R := by
  have hcall := law19_ChunkDecodes_call (w_0 := (w.id, w.date, w.scope, w.sig, ⟨ka, kl, kc⟩, w.pay)) (b_1 := x1) (size_2 := size) (R := R) (h := h)
  apply hcall
  have e1 := hd.len
  have hn := wa.n
  unfold law19_ChunkDecodes
  refine newB_row ?_
  intro h1 s1 r1 k1
  replace r1 : Row h1 h.size (whoRow w ka kl kc) := r1
  refine ldW r1 ?_
  refine decode_spec (wa.key.keep0 k1) wa.le (hd.keep0 k1) (by omega) (by omega) ?_
  intro x h2 xb xc k2
  have r2 := k2.row r1 (fun h => h)
  have K2 := k1.trans' k2
  refine ldW r2 ?_
  refine to_spec ?_
  intro h3 k3
  have K3 := K2.trans' k3
  refine decode19_spec (wa.key.keep0 K3) wa.le (hd.keep0 K3) hdc (by omega) (by omega) ?_
  intro y h4 yb k4
  have r4 := k4.row (k3.row r2 (fun h => h)) (fun h => h)
  have K4 := K3.trans' k4
  refine withJ.intro (fun (b : Bool) h' => b = true ∧ Keep (fun _ => False) h h') ?_ ?_
  · rintro b h' ⟨rfl, k⟩
    exact hR h' k
  · intro J hJ
    refine Rb.str (bs := (decF w size data).1) (xb.keep0 (k3.trans' k4)) ?_
    refine Rb.str (bs := (decF w size data).1) yb ?_
    refine cnd_t (seq_self _) ?_
    refine cnd_t (by simp) ?_
    refine ldW r4 (ldW r4 ?_)
    refine sign_spec (w := w) (wa.key.keep0 K4) wa.le (hd.keep0 K4) hdc (by omega) (by show w.n + 1 ≤ _; omega) ?_
    intro h5 k5
    have r5 := k5.row r4 (fun h => h)
    refine ⟨ldW r5 rfl, ?_⟩
    have K5 := K4.trans' k5
    refine to_spec ?_
    intro h6 k6
    have K6 := K5.trans' k6
    refine sign19_spec (w := w) (wa.key.keep0 K6) wa.le (hd.keep0 K6) (by omega) (by show w.n + 1 ≤ _; omega) ?_
    intro h7 k7
    refine cnd_t (seq_self _) ?_
    exact awake_spec fun h8 k8 => hJ _ _ ⟨rfl, (K6.trans' k7).trans' k8⟩
end Chunk
end Go.Proofs.YtncffbocmpmejaaDoor
