/- Go functions as short texts over the heap, and that each is what the loaded function comes to (the kernel compares them); written by a program. -/
import Derived.Test.YtecfcodildjnnaaGBase
set_option linter.unusedVariables false
set_option maxRecDepth 100000
namespace Go.Proofs.Ytecfcodildjnnaa
open Go D
/-- (*stowage/hash.Stream).Sum (18) -/
def hash_Stream_Sum (s_0 : Option Addr) (R : Sl → Heap → Prop) (h : Heap) : Prop :=
  nn s_0 fun a1 =>
  ldV a1 h fun v2 =>
  isZ v2 58 (
  newB [] 58 h fun a3 h4 =>
  nn s_0 fun a5 =>
  ldL (a5.add 1) h4 fun o6 l6 c6 =>
  CallT Try.prog hash_md_sum_no [.agg #[], .slice o6 l6 c6] h4 [.sc (.sl)] fun (r7 : Sl) h8 =>
  R r7 h8) (
  newB [] 58 h fun a9 h10 =>
  nn s_0 fun a11 =>
  ldV a11 h10 fun v12 =>
  nn s_0 fun a13 =>
  ldL (a13.add 1) h10 fun o14 l14 c14 =>
  nilD v12 fun v15 =>
  isZ v12 58 (
  CallT Try.prog hash_md_sum_no [.agg #[], .slice o14 l14 c14] h10 [.sc (.sl)] fun (r16 : Sl) h17 =>
  R r16 h17) (
  isZ v12 63 (
  CallT Try.prog hash_sha_sum_no [.agg #[], .slice o14 l14 c14] h10 [.sc (.sl)] fun (r18 : Sl) h19 =>
  R r18 h19) (
  False)))
theorem hash_Stream_Sum_eq (s_0 : Option Addr) (R : Sl → Heap → Prop) (h : Heap) : fnX Try.prog Fns.fns Try.f18 (.s .n (.s (.s .n (.s .n (.s .n .n))) (.s .n .n))) [.sc (.sl)] [.pointer s_0] h R = hash_Stream_Sum s_0 R h := by kernel_rfl
theorem hash_Stream_Sum_call (s_0 : Option Addr) {R : Sl → Heap → Prop} {h : Heap} (hx : hash_Stream_Sum s_0 R h) : CallT Try.prog 18 [.pointer s_0] h [.sc (.sl)] R :=
  call_of_fnX fnsOk mixed Try.func18 (by kernel_rfl) (by rw [hash_Stream_Sum_eq]; exact hx)

/-- stowage/stowagelaw2.HashStreams (5) -/
def law2_HashStreams (x_0 : Int) (x_1 : Sl) (x_2 : Int) (R : Bool → Heap → Prop) (h : Heap) : Prop :=
  CallT Try.prog hash_New_no [.int .i64 x_0] h [.sc (.ptr), .sc (.int .i64)] fun (r1 : (Option Addr) × Int) h2 =>
  withJ (σ := Unit) (fun s3 h5 => -- s3: 
  withJ (σ := Unit) (fun s6 h8 => -- s6: 
  LoopT (σ := Sl × Int) (fun X10 s9 h11 => -- s9: t9, t10
  withJ (σ := Int × Bool) (fun s12 h14 => -- s12: t47, t48
  withJ (σ := Sl) (fun s15 h17 => -- s15: t9
  X10 (s15, (w64 (s9.2 + 1))) h17) (fun J16 =>
  newB [] 5 h14 fun a18 h19 =>
  idx x_1.a x_1.len s9.2 fun a20 =>
  ldL (a20.add (s9.2.toNat * 1)) h19 fun o21 l21 c21 =>
  rdCells o21 (l21 * 1) h19 fun cs25 =>
  app [.int .u8 0] 5 1 1 (some a18) 0 0 cs25 l21 h19 fun o22 c23 h24 =>
  CallT Try.prog hash_Stream_Write_no [.pointer r1.1, .slice o22 (0 + l21) c23] h24 [] fun (r26 : Unit) h27 =>
  LoopT (σ := Int) (fun X29 s28 h30 => -- s28: t12
  cnd (decide (s28 < ((0 + l21) : Int))) (
  idx o22 (0 + l21) s28 fun a31 =>
  stC (a31.add (s28.toNat * 1)) (.int .u8 9) h30 fun h32 =>
  X29 (w64 (s28 + 1)) h32) (
  idx x_1.a x_1.len s9.2 fun a33 =>
  ldL (a33.add (s9.2.toNat * 1)) h30 fun o34 l34 c34 =>
  rdCells o34 (l34 * 1) h30 fun cs38 =>
  app [.int .u8 0] 5 1 1 s9.1.a s9.1.len s9.1.cap cs38 l34 h30 fun o35 c36 h37 =>
  cnd (s9.2 == x_2) (
  CallT Try.prog hash_Stream_Sum_no [.pointer r1.1] h37 [.sc (.sl)] fun (r39 : Sl) h40 =>
  LoopT (σ := Int) (fun X42 s41 h43 => -- s41: t14
  cnd (decide (s41 < (r39.len : Int))) (
  idx r39.a r39.len s41 fun a44 =>
  stC (a44.add (s41.toNat * 1)) (.int .u8 0) h43 fun h45 =>
  X42 (w64 (s41 + 1)) h45) (
  J16 (⟨o35, (s9.1.len + l34), c36⟩ : Sl) h43)) 0 h40) (
  J16 (⟨o35, (s9.1.len + l34), c36⟩ : Sl) h37))) 0 h27)) (fun J13 =>
  cnd (decide (s9.2 < (x_1.len : Int))) (
  cnd (decide (s9.2 < 50)) (
  J13 (s9.2, (decide (s9.2 < 50))) h11) (
  CallT Try.prog ref2_MD5_no [.slice s9.1.a s9.1.len s9.1.cap] h11 [.sc (.sl)] fun (r46 : Sl) h47 =>
  withJ (σ := Sl) (fun s48 h50 => -- s48: t15
  withJ (σ := Bool) (fun s51 h53 => -- s51: t6
  R s51 h53) (fun J52 =>
  CallT Try.prog hash_Stream_Sum_no [.pointer r1.1] h50 [.sc (.sl)] fun (r54 : Sl) h55 =>
  CallT Try.prog law1_Same_no [.slice r54.a r54.len r54.cap, .slice s48.a s48.len s48.cap] h55 [.sc (.bool)] fun (r56 : Bool) h57 =>
  cnd r56 (
  CallT Try.prog hash_Stream_Sum_no [.pointer r1.1] h57 [.sc (.sl)] fun (r58 : Sl) h59 =>
  CallT Try.prog law1_Same_no [.slice r58.a r58.len r58.cap, .slice s48.a s48.len s48.cap] h59 [.sc (.bool)] fun (r60 : Bool) h61 =>
  cnd r60 (
  CallT Try.prog hash_Stream_Size_no [.pointer r1.1] h61 [.sc (.int .i64)] fun (r62 : Int) h63 =>
  cnd (r62 == (s9.1.len : Int)) (
  CallT Try.prog law2_awake_no [] h63 [.sc (.bool)] fun (r64 : Bool) h65 =>
  J52 r64 h65) (
  J52 false h63)) (
  J52 false h61)) (
  J52 false h57))) (fun J49 =>
  cnd (x_0 == 2) (
  CallT Try.prog ref2_SHA256_no [.slice s9.1.a s9.1.len s9.1.cap] h47 [.sc (.sl)] fun (r66 : Sl) h67 =>
  J49 r66 h67) (
  J49 r46 h47)))) (
  CallT Try.prog ref2_MD5_no [.slice s9.1.a s9.1.len s9.1.cap] h11 [.sc (.sl)] fun (r68 : Sl) h69 =>
  withJ (σ := Sl) (fun s70 h72 => -- s70: t15
  withJ (σ := Bool) (fun s73 h75 => -- s73: t6
  R s73 h75) (fun J74 =>
  CallT Try.prog hash_Stream_Sum_no [.pointer r1.1] h72 [.sc (.sl)] fun (r76 : Sl) h77 =>
  CallT Try.prog law1_Same_no [.slice r76.a r76.len r76.cap, .slice s70.a s70.len s70.cap] h77 [.sc (.bool)] fun (r78 : Bool) h79 =>
  cnd r78 (
  CallT Try.prog hash_Stream_Sum_no [.pointer r1.1] h79 [.sc (.sl)] fun (r80 : Sl) h81 =>
  CallT Try.prog law1_Same_no [.slice r80.a r80.len r80.cap, .slice s70.a s70.len s70.cap] h81 [.sc (.bool)] fun (r82 : Bool) h83 =>
  cnd r82 (
  CallT Try.prog hash_Stream_Size_no [.pointer r1.1] h83 [.sc (.int .i64)] fun (r84 : Int) h85 =>
  cnd (r84 == (s9.1.len : Int)) (
  CallT Try.prog law2_awake_no [] h85 [.sc (.bool)] fun (r86 : Bool) h87 =>
  J74 r86 h87) (
  J74 false h85)) (
  J74 false h83)) (
  J74 false h79))) (fun J71 =>
  cnd (x_0 == 2) (
  CallT Try.prog ref2_SHA256_no [.slice s9.1.a s9.1.len s9.1.cap] h69 [.sc (.sl)] fun (r88 : Sl) h89 =>
  J71 r88 h89) (
  J71 r68 h69))))) ((⟨none, 0, 0⟩ : Sl), 0) h8) (fun J7 =>
  withJ (σ := Bool) (fun s90 h92 => -- s90: t41
  cnd s90 (
  R false h92) (
  J7 () h92)) (fun J91 =>
  cnd r1.1.isNone (
  J91 true h5) (
  J91 (r1.2 != 0) h5)))) (fun J4 =>
  withJ (σ := Bool) (fun s93 h95 => -- s93: t26
  cnd s93 (
  withJ (σ := Bool) (fun s96 h98 => -- s96: t6
  R s96 h98) (fun J97 =>
  cnd r1.1.isNone (
  cnd (r1.2 == 1) (
  CallT Try.prog law2_awake_no [] h95 [.sc (.bool)] fun (r99 : Bool) h100 =>
  J97 r99 h100) (
  J97 false h95)) (
  J97 false h95))) (
  J4 () h95)) (fun J94 =>
  cnd (x_0 != 1) (
  J94 (x_0 != 2) h2) (
  J94 false h2)))
theorem law2_HashStreams_eq (x_0 : Int) (x_1 : Sl) (x_2 : Int) (R : Bool → Heap → Prop) (h : Heap) : fnX Try.prog Fns.fns Try.f5 (.s .n (.s .n (.j [] (.j [(26, .bool)] .n (.s (.j [(6, .bool)] .n .n) .n)) (.j [] (.j [(41, .bool)] .n (.s (.s .n .n) .n)) (.s .n (.s (.s .n (.b (.l [(9, .sl), (10, .int .i64)] (.j [(47, .int .i64), (48, .bool)] (.s .n (.s .n .n)) (.j [(9, .sl)] (.b (.s .n (.s .n (.s (.s .n (.b (.l [(12, .int .i64)] (.s (.s .n (.s .n .n)) (.s (.b .n) .n))))) (.s .n (.s .n (.s (.s .n (.s .n (.b (.l [(14, .int .i64)] (.s (.s .n (.s .n .n)) (.s (.b .n) .n)))))) .n))))))) .n))))) (.s .n (.j [(15, .sl)] (.s .n (.s .n .n)) (.j [(6, .bool)] .n .n))))))))) [.sc (.bool)] [.int .i64 x_0, .slice x_1.a x_1.len x_1.cap, .int .i64 x_2] h R = law2_HashStreams x_0 x_1 x_2 R h := by kernel_rfl
theorem law2_HashStreams_call (x_0 : Int) (x_1 : Sl) (x_2 : Int) {R : Bool → Heap → Prop} {h : Heap} (hx : law2_HashStreams x_0 x_1 x_2 R h) : CallT Try.prog 5 [.int .i64 x_0, .slice x_1.a x_1.len x_1.cap, .int .i64 x_2] h [.sc (.bool)] R :=
  call_of_fnX fnsOk mixed Try.func5 (by kernel_rfl) (by rw [law2_HashStreams_eq]; exact hx)

/-- (stowage/hash.md).sum (33) -/
def hash_md_sum (x_0 : Unit) (b_1 : Sl) (R : Sl → Heap → Prop) (h : Heap) : Prop :=
  newB [] 58 h fun a1 h2 =>
  CallT Try.prog hash_MD5_no [.slice b_1.a b_1.len b_1.cap] h2 [.sc (.sl)] fun (r3 : Sl) h4 =>
  R r3 h4
theorem hash_md_sum_eq (x_0 : Unit) (b_1 : Sl) (R : Sl → Heap → Prop) (h : Heap) : fnX Try.prog Fns.fns Try.f33 (.s .n (.s .n .n)) [.sc (.sl)] [.agg #[], .slice b_1.a b_1.len b_1.cap] h R = hash_md_sum x_0 b_1 R h := by kernel_rfl
theorem hash_md_sum_call (x_0 : Unit) (b_1 : Sl) {R : Sl → Heap → Prop} {h : Heap} (hx : hash_md_sum x_0 b_1 R h) : CallT Try.prog 33 [.agg #[], .slice b_1.a b_1.len b_1.cap] h [.sc (.sl)] R :=
  call_of_fnX fnsOk mixed Try.func33 (by kernel_rfl) (by rw [hash_md_sum_eq]; exact hx)

/-- (stowage/hash.sha).sum (53) -/
def hash_sha_sum (x_0 : Unit) (b_1 : Sl) (R : Sl → Heap → Prop) (h : Heap) : Prop :=
  newB [] 63 h fun a1 h2 =>
  CallT Try.prog hash_SHA256_no [.slice b_1.a b_1.len b_1.cap] h2 [.sc (.sl)] fun (r3 : Sl) h4 =>
  R r3 h4
theorem hash_sha_sum_eq (x_0 : Unit) (b_1 : Sl) (R : Sl → Heap → Prop) (h : Heap) : fnX Try.prog Fns.fns Try.f53 (.s .n (.s .n .n)) [.sc (.sl)] [.agg #[], .slice b_1.a b_1.len b_1.cap] h R = hash_sha_sum x_0 b_1 R h := by kernel_rfl
theorem hash_sha_sum_call (x_0 : Unit) (b_1 : Sl) {R : Sl → Heap → Prop} {h : Heap} (hx : hash_sha_sum x_0 b_1 R h) : CallT Try.prog 53 [.agg #[], .slice b_1.a b_1.len b_1.cap] h [.sc (.sl)] R :=
  call_of_fnX fnsOk mixed Try.func53 (by kernel_rfl) (by rw [hash_sha_sum_eq]; exact hx)

end Go.Proofs.Ytecfcodildjnnaa
