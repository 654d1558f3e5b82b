/- Go functions as short texts over the heap, and that each is what the loaded function comes to (the kernel compares them); written by a program. -/
import Derived.Test.YtmmoilenemogoaaGBase
set_option linter.unusedVariables false
set_option maxRecDepth 100000
namespace Go.Proofs.Ytmmoilenemogoaa
open Go D
/-- stowage/stowagelaw10.AllocBack (3) -/
def law10_AllocBack (x_0 : Int) (x_1 : Sl) (x_2 : Int) (R : Bool → Heap → Prop) (h : Heap) : Prop :=
  CallT Try.prog alloc_New_no [.int .i64 x_0] h [.sc (.ptr), .sc (.int .i64)] fun (r1 : (Option Addr) × Int) h2 =>
  cnd r1.1.isNone (
  withJ (σ := Bool) (fun s3 h5 => -- s3: t6
  R s3 h5) (fun J4 =>
  cnd (r1.2 == 1) (
  CallT Try.prog law10_awake_no [] h2 [.sc (.bool)] fun (r6 : Bool) h7 =>
  J4 r6 h7) (
  J4 false h2))) (
  LoopT (σ := Int) (fun X9 s8 h10 => -- s8: t9
  withJ (σ := Int × Bool) (fun s11 h13 => -- s11: t35, t36
  withJ (σ := Unit) (fun s14 h16 => -- s14: 
  X9 (w64 (s8 + 1)) h16) (fun J15 =>
  idx x_1.a x_1.len s8 fun a17 =>
  ldI .i64 (a17.add (s8.toNat * 3)) h13 fun n18 =>
  cnd (n18 == 0) (
  idx x_1.a x_1.len s8 fun a19 =>
  ldI .i64 ((a19.add (s8.toNat * 3)).add 2) h13 fun n20 =>
  CallT Try.prog alloc_Space_Take_no [.pointer r1.1, .int .i64 n20] h13 [.sc (.int .i64), .sc (.int .i64)] fun (r21 : Int × Int) h22 =>
  J15 () h22) (
  idx x_1.a x_1.len s8 fun a23 =>
  ldI .i64 ((a23.add (s8.toNat * 3)).add 1) h13 fun n24 =>
  idx x_1.a x_1.len s8 fun a25 =>
  ldI .i64 ((a25.add (s8.toNat * 3)).add 2) h13 fun n26 =>
  CallT Try.prog alloc_Space_Give_no [.pointer r1.1, .int .i64 n24, .int .i64 n26] h13 [.sc (.int .i64)] fun (r27 : Int) h28 =>
  J15 () h28))) (fun J12 =>
  cnd (decide (s8 < (x_1.len : Int))) (
  cnd (decide (s8 < 60)) (
  J12 (s8, (decide (s8 < 60))) h10) (
  CallT Try.prog alloc_Space_Runs_no [.pointer r1.1] h10 [.sc (.sl)] fun (r29 : Sl) h30 =>
  LoopT (σ := Int × Int × Int) (fun X32 s31 h33 => -- s31: t11, t12, t13
  cnd (decide (s31.2.2 < (r29.len : Int))) (
  withJ (σ := Int × Int) (fun s34 h36 => -- s34: t11, t12
  X32 (s34.1, s34.2, (w64 (s31.2.2 + 1))) h36) (fun J35 =>
  withJ (σ := Unit) (fun s37 h39 => -- s37: 
  idx r29.a r29.len s31.2.2 fun a40 =>
  inB 2 1 <|
  ldI .i64 ((a40.add (s31.2.2.toNat * 2)).add ((1 : Int).toNat * 1)) h39 fun n41 =>
  idx r29.a r29.len s31.2.2 fun a42 =>
  inB 2 1 <|
  ldI .i64 ((a42.add (s31.2.2.toNat * 2)).add ((1 : Int).toNat * 1)) h39 fun n43 =>
  J35 ((w64 (s31.1 + n41)), (maxI s31.2.1 n43)) h39) (fun J38 =>
  withJ (σ := Bool) (fun s44 h46 => -- s44: t103
  cnd s44 (
  R false h46) (
  J38 () h46)) (fun J45 =>
  idx r29.a r29.len s31.2.2 fun a47 =>
  inB 2 1 <|
  ldI .i64 ((a47.add (s31.2.2.toNat * 2)).add ((1 : Int).toNat * 1)) h33 fun n48 =>
  cnd (decide (n48 < 1)) (
  J45 true h33) (
  cnd (decide (s31.2.2 > 0)) (
  idx r29.a r29.len (w64 (s31.2.2 - 1)) fun a49 =>
  inB 2 0 <|
  ldI .i64 ((a49.add ((w64 (s31.2.2 - 1)).toNat * 2)).add ((0 : Int).toNat * 1)) h33 fun n50 =>
  idx r29.a r29.len (w64 (s31.2.2 - 1)) fun a51 =>
  inB 2 1 <|
  ldI .i64 ((a51.add ((w64 (s31.2.2 - 1)).toNat * 2)).add ((1 : Int).toNat * 1)) h33 fun n52 =>
  idx r29.a r29.len s31.2.2 fun a53 =>
  inB 2 0 <|
  ldI .i64 ((a53.add (s31.2.2.toNat * 2)).add ((0 : Int).toNat * 1)) h33 fun n54 =>
  J45 (decide ((w64 (n50 + n52)) ≥ n54)) h33) (
  J45 false h33)))))) (
  CallT Try.prog alloc_Space_Take_no [.pointer r1.1, .int .i64 x_2] h33 [.sc (.int .i64), .sc (.int .i64)] fun (r55 : Int × Int) h56 =>
  withJ (σ := Unit) (fun s57 h59 => -- s57: 
  withJ (σ := Unit) (fun s60 h62 => -- s60: 
  CallT Try.prog alloc_Space_Runs_no [.pointer r1.1] h62 [.sc (.sl)] fun (r63 : Sl) h64 =>
  cnd ((r63.len : Int) != (r29.len : Int)) (
  R false h64) (
  LoopT (σ := Int) (fun X66 s65 h67 => -- s65: t17
  cnd (decide (s65 < (r63.len : Int))) (
  idx r63.a r63.len s65 fun a68 =>
  ldI .i64 (a68.add (s65.toNat * 2)) h67 fun n69 =>
  ldI .i64 ((a68.add (s65.toNat * 2)).add 1) h67 fun n70 =>
  idx r29.a r29.len s65 fun a71 =>
  ldI .i64 (a71.add (s65.toNat * 2)) h67 fun n72 =>
  ldI .i64 ((a71.add (s65.toNat * 2)).add 1) h67 fun n73 =>
  cnd (!((n69 == n72) && ((n70 == n73) && true))) (
  R false h67) (
  X66 (w64 (s65 + 1)) h67)) (
  CallT Try.prog law10_awake_no [] h67 [.sc (.bool)] fun (r74 : Bool) h75 =>
  R r74 h75)) 0 h64)) (fun J61 =>
  withJ (σ := Bool) (fun s76 h78 => -- s76: t152
  cnd s76 (
  R false h78) (
  J61 () h78)) (fun J77 =>
  cnd (r55.2 == 0) (
  CallT Try.prog alloc_Space_Give_no [.pointer r1.1, .int .i64 r55.1, .int .i64 x_2] h59 [.sc (.int .i64)] fun (r79 : Int) h80 =>
  J77 (r79 != 0) h80) (
  J77 false h59)))) (fun J58 =>
  withJ (σ := Bool) (fun s81 h83 => -- s81: t143
  cnd s81 (
  R false h83) (
  J58 () h83)) (fun J82 =>
  CallT Try.prog alloc_Space_Free_no [.pointer r1.1] h56 [.sc (.int .i64)] fun (r84 : Int) h85 =>
  CallT Try.prog law10_took_no [.int .i64 r55.2, .int .i64 x_2] h85 [.sc (.int .i64)] fun (r86 : Int) h87 =>
  cnd (s31.1 != (w64 (r84 + r86))) (
  J82 true h87) (
  cnd (decide (x_2 ≥ 1)) (
  J82 (!((r55.2 == 0) == (decide (x_2 ≤ s31.2.1)))) h87) (
  J82 (!((r55.2 == 0) == false)) h87)))))) (0, 0, 0) h30)) (
  CallT Try.prog alloc_Space_Runs_no [.pointer r1.1] h10 [.sc (.sl)] fun (r88 : Sl) h89 =>
  LoopT (σ := Int × Int × Int) (fun X91 s90 h92 => -- s90: t11, t12, t13
  cnd (decide (s90.2.2 < (r88.len : Int))) (
  withJ (σ := Int × Int) (fun s93 h95 => -- s93: t11, t12
  X91 (s93.1, s93.2, (w64 (s90.2.2 + 1))) h95) (fun J94 =>
  withJ (σ := Unit) (fun s96 h98 => -- s96: 
  idx r88.a r88.len s90.2.2 fun a99 =>
  inB 2 1 <|
  ldI .i64 ((a99.add (s90.2.2.toNat * 2)).add ((1 : Int).toNat * 1)) h98 fun n100 =>
  idx r88.a r88.len s90.2.2 fun a101 =>
  inB 2 1 <|
  ldI .i64 ((a101.add (s90.2.2.toNat * 2)).add ((1 : Int).toNat * 1)) h98 fun n102 =>
  J94 ((w64 (s90.1 + n100)), (maxI s90.2.1 n102)) h98) (fun J97 =>
  withJ (σ := Bool) (fun s103 h105 => -- s103: t103
  cnd s103 (
  R false h105) (
  J97 () h105)) (fun J104 =>
  idx r88.a r88.len s90.2.2 fun a106 =>
  inB 2 1 <|
  ldI .i64 ((a106.add (s90.2.2.toNat * 2)).add ((1 : Int).toNat * 1)) h92 fun n107 =>
  cnd (decide (n107 < 1)) (
  J104 true h92) (
  cnd (decide (s90.2.2 > 0)) (
  idx r88.a r88.len (w64 (s90.2.2 - 1)) fun a108 =>
  inB 2 0 <|
  ldI .i64 ((a108.add ((w64 (s90.2.2 - 1)).toNat * 2)).add ((0 : Int).toNat * 1)) h92 fun n109 =>
  idx r88.a r88.len (w64 (s90.2.2 - 1)) fun a110 =>
  inB 2 1 <|
  ldI .i64 ((a110.add ((w64 (s90.2.2 - 1)).toNat * 2)).add ((1 : Int).toNat * 1)) h92 fun n111 =>
  idx r88.a r88.len s90.2.2 fun a112 =>
  inB 2 0 <|
  ldI .i64 ((a112.add (s90.2.2.toNat * 2)).add ((0 : Int).toNat * 1)) h92 fun n113 =>
  J104 (decide ((w64 (n109 + n111)) ≥ n113)) h92) (
  J104 false h92)))))) (
  CallT Try.prog alloc_Space_Take_no [.pointer r1.1, .int .i64 x_2] h92 [.sc (.int .i64), .sc (.int .i64)] fun (r114 : Int × Int) h115 =>
  withJ (σ := Unit) (fun s116 h118 => -- s116: 
  withJ (σ := Unit) (fun s119 h121 => -- s119: 
  CallT Try.prog alloc_Space_Runs_no [.pointer r1.1] h121 [.sc (.sl)] fun (r122 : Sl) h123 =>
  cnd ((r122.len : Int) != (r88.len : Int)) (
  R false h123) (
  LoopT (σ := Int) (fun X125 s124 h126 => -- s124: t17
  cnd (decide (s124 < (r122.len : Int))) (
  idx r122.a r122.len s124 fun a127 =>
  ldI .i64 (a127.add (s124.toNat * 2)) h126 fun n128 =>
  ldI .i64 ((a127.add (s124.toNat * 2)).add 1) h126 fun n129 =>
  idx r88.a r88.len s124 fun a130 =>
  ldI .i64 (a130.add (s124.toNat * 2)) h126 fun n131 =>
  ldI .i64 ((a130.add (s124.toNat * 2)).add 1) h126 fun n132 =>
  cnd (!((n128 == n131) && ((n129 == n132) && true))) (
  R false h126) (
  X125 (w64 (s124 + 1)) h126)) (
  CallT Try.prog law10_awake_no [] h126 [.sc (.bool)] fun (r133 : Bool) h134 =>
  R r133 h134)) 0 h123)) (fun J120 =>
  withJ (σ := Bool) (fun s135 h137 => -- s135: t152
  cnd s135 (
  R false h137) (
  J120 () h137)) (fun J136 =>
  cnd (r114.2 == 0) (
  CallT Try.prog alloc_Space_Give_no [.pointer r1.1, .int .i64 r114.1, .int .i64 x_2] h118 [.sc (.int .i64)] fun (r138 : Int) h139 =>
  J136 (r138 != 0) h139) (
  J136 false h118)))) (fun J117 =>
  withJ (σ := Bool) (fun s140 h142 => -- s140: t143
  cnd s140 (
  R false h142) (
  J117 () h142)) (fun J141 =>
  CallT Try.prog alloc_Space_Free_no [.pointer r1.1] h115 [.sc (.int .i64)] fun (r143 : Int) h144 =>
  CallT Try.prog law10_took_no [.int .i64 r114.2, .int .i64 x_2] h144 [.sc (.int .i64)] fun (r145 : Int) h146 =>
  cnd (s90.1 != (w64 (r143 + r145))) (
  J141 true h146) (
  cnd (decide (x_2 ≥ 1)) (
  J141 (!((r114.2 == 0) == (decide (x_2 ≤ s90.2.1)))) h146) (
  J141 (!((r114.2 == 0) == false)) h146)))))) (0, 0, 0) h89))) 0 h2)
theorem law10_AllocBack_eq (x_0 : Int) (x_1 : Sl) (x_2 : Int) (R : Bool → Heap → Prop) (h : Heap) : fnX Try.prog Fns.fns Try.f3 (.s .n (.s .n (.s (.s .n (.s (.j [(6, .bool)] .n .n) .n)) (.s (.s .n (.b (.l [(9, .int .i64)] (.j [(35, .int .i64), (36, .bool)] (.s .n (.s .n .n)) (.j [] (.b (.s .n (.s .n .n))) .n))))) (.s .n (.s .n (.s (.s .n (.b (.l [(11, .int .i64), (12, .int .i64), (13, .int .i64)] (.s (.s .n (.s .n .n)) (.j [(11, .int .i64), (12, .int .i64)] (.b (.j [] (.j [(103, .bool)] .n (.s (.s .n .n) .n)) (.s .n .n))) .n))))) (.s .n (.j [] (.j [(143, .bool)] .n (.s (.s .n .n) .n)) (.j [] (.j [(152, .bool)] .n (.s (.s .n .n) .n)) (.s .n (.s (.s .n (.s (.s .n .n) .n)) (.s (.s .n (.b (.l [(17, .int .i64)] (.s (.s .n (.s .n .n)) (.s (.b (.s .n (.s (.s .n .n) .n))) .n))))) (.s .n .n)))))))))))))) [.sc (.bool)] [.int .i64 x_0, .slice x_1.a x_1.len x_1.cap, .int .i64 x_2] h R = law10_AllocBack x_0 x_1 x_2 R h := by kernel_rfl
theorem law10_AllocBack_call (x_0 : Int) (x_1 : Sl) (x_2 : Int) {R : Bool → Heap → Prop} {h : Heap} (hx : law10_AllocBack x_0 x_1 x_2 R h) : CallT Try.prog 3 [.int .i64 x_0, .slice x_1.a x_1.len x_1.cap, .int .i64 x_2] h [.sc (.bool)] R :=
  call_of_fnX fnsOk mixed Try.func3 (by kernel_rfl) (by rw [law10_AllocBack_eq]; exact hx)

end Go.Proofs.Ytmmoilenemogoaa
