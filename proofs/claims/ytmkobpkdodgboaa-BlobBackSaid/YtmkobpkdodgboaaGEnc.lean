/- Go functions as short texts over the heap, and that each is what the loaded function comes to (the kernel compares them); written by a program. -/
import Derived.Test.YtmkobpkdodgboaaGBase
set_option linter.unusedVariables false
set_option maxRecDepth 100000
namespace Go.Proofs.Ytmkobpkdodgboaa
open Go D
/-- stowage/enc.Put64 (88) -/
def enc_Put64 (n_0 : Int) (R : Sl → Heap → Prop) (h : Heap) : Prop :=
  mkSl [.int .u8 0] 5 1 8 8 h fun a1 h2 =>
  LoopT (σ := Int) (fun X4 s3 h5 => -- s3: t8
  cnd (decide (s3 < ((8 : Int).toNat : Int))) (
  geZ (w64 (56 - (w64 (8 * s3)))) (
  idx (some a1) ((8 : Int).toNat) s3 fun a6 =>
  stC (a6.add (s3.toNat * 1)) (.int .u8 (IntKind.u8.wrap ((shrI .u64 n_0 (w64 (56 - (w64 (8 * s3)))))))) h5 fun h7 =>
  X4 (w64 (s3 + 1)) h7)) (
  R (⟨(some a1), (8 : Int).toNat, (8 : Int).toNat⟩ : Sl) h5)) 0 h2
theorem enc_Put64_eq (n_0 : Int) (R : Sl → Heap → Prop) (h : Heap) : fnX Try.prog Fns.fns Try.f88 (.s .n (.s .n (.s (.s .n (.b (.l [(8, .int .i64)] (.s .n (.s (.s .n .n) (.s (.b (.s .n .n)) .n)))))) (.s .n .n)))) [.sc (.sl)] [.int .u64 n_0] h R = enc_Put64 n_0 R h := by kernel_rfl
theorem enc_Put64_call (n_0 : Int) {R : Sl → Heap → Prop} {h : Heap} (hx : enc_Put64 n_0 R h) : CallT Try.prog 88 [.int .u64 n_0] h [.sc (.sl)] R :=
  call_of_fnX fnsOk mixed Try.func88 (by kernel_rfl) (by rw [enc_Put64_eq]; exact hx)

/-- stowage/enc.Get64 (90) -/
def enc_Get64 (b_0 : Sl) (R : Int × Bool → Heap → Prop) (h : Heap) : Prop :=
  cnd ((b_0.len : Int) != 8) (
  R (0, false) h) (
  LoopT (σ := Int × Int) (fun X2 s1 h3 => -- s1: n, t12
  cnd (decide (s1.2 < (b_0.len : Int))) (
  idx b_0.a b_0.len s1.2 fun a4 =>
  ldI .u8 (a4.add (s1.2.toNat * 1)) h3 fun n5 =>
  X2 ((orI .u64 (shlI .u64 s1.1 8) (IntKind.u64.wrap (n5))), (w64 (s1.2 + 1))) h3) (
  R (s1.1, true) h3)) (0, 0) h)
theorem enc_Get64_eq (b_0 : Sl) (R : Int × Bool → Heap → Prop) (h : Heap) : fnX Try.prog Fns.fns Try.f90 (.s .n (.s (.s .n (.s (.s .n .n) .n)) (.s .n (.s (.s .n (.b (.l [(4, .int .u64), (12, .int .i64)] (.s .n (.s (.s .n .n) (.s (.b (.s .n .n)) .n)))))) (.s .n .n))))) [.sc (.int .u64), .sc (.bool)] [.slice b_0.a b_0.len b_0.cap] h R = enc_Get64 b_0 R h := by kernel_rfl
theorem enc_Get64_call (b_0 : Sl) {R : Int × Bool → Heap → Prop} {h : Heap} (hx : enc_Get64 b_0 R h) : CallT Try.prog 90 [.slice b_0.a b_0.len b_0.cap] h [.sc (.int .u64), .sc (.bool)] R :=
  call_of_fnX fnsOk mixed Try.func90 (by kernel_rfl) (by rw [enc_Get64_eq]; exact hx)

end Go.Proofs.Ytmkobpkdodgboaa
