/- Go functions as short texts over the heap, and that each is what the loaded function comes to (the kernel compares them); written by a program. -/
import Derived.Test.YtmkobpkdodgboaaGBase
set_option linter.unusedVariables false
set_option maxRecDepth 100000
namespace Go.Proofs.Ytmkobpkdodgboaa
open Go D
/-- stowage/hash.CRC (89) -/
def hash_CRC (b_0 : Sl) (R : Int → Heap → Prop) (h : Heap) : Prop :=
  LoopT (σ := Int × Int) (fun X2 s1 h3 => -- s1: u, t8
  cnd (decide (s1.2 < (b_0.len : Int))) (
  idx b_0.a b_0.len s1.2 fun a4 =>
  ldI .u8 (a4.add (s1.2.toNat * 1)) h3 fun n5 =>
  LoopT (σ := Int × Int) (fun X7 s6 h8 => -- s6: u, t16
  cnd (decide (s6.2 < 8)) (
  X7 ((xorI .u32 (shrI .u32 s6.1 1) (andI .u32 2197175160 (IntKind.u32.wrap (0 - (andI .u32 s6.1 1))))), (w64 (s6.2 + 1))) h8) (
  X2 (s6.1, (w64 (s1.2 + 1))) h8)) ((xorI .u32 s1.1 (IntKind.u32.wrap (n5))), 0) h3) (
  R (xorI .u32 IntKind.u32.max s1.1) h3)) (4294967295, 0) h
theorem hash_CRC_eq (b_0 : Sl) (R : Int → Heap → Prop) (h : Heap) : fnX Try.prog Fns.fns Try.f89 (.s .n (.s .n (.s (.s .n (.b (.l [(3, .int .u32), (8, .int .i64)] (.s .n (.s (.s .n .n) (.s (.b (.s .n (.s .n (.s .n (.b (.l [(3, .int .u32), (16, .int .i64)] (.s .n (.s (.s .n .n) (.s (.b .n) .n))))))))) .n)))))) (.s .n .n)))) [.sc (.int .u32)] [.slice b_0.a b_0.len b_0.cap] h R = hash_CRC b_0 R h := by kernel_rfl
theorem hash_CRC_call (b_0 : Sl) {R : Int → Heap → Prop} {h : Heap} (hx : hash_CRC b_0 R h) : CallT Try.prog 89 [.slice b_0.a b_0.len b_0.cap] h [.sc (.int .u32)] R :=
  call_of_fnX fnsOk mixed Try.func89 (by kernel_rfl) (by rw [hash_CRC_eq]; exact hx)

end Go.Proofs.Ytmkobpkdodgboaa
