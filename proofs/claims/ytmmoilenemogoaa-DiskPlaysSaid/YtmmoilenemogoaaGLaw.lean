/- Go functions as short texts over the heap, and that each is what the loaded function comes to (the kernel compares them); written by a program. -/
import Derived.Test.YtmmoilenemogoaaGBase
set_option linter.unusedVariables false
set_option maxRecDepth 100000
namespace Go.Proofs.Ytmmoilenemogoaa
open Go D
/-- stowage/stowagelaw10.AllocFirst (4) -/
def law10_AllocFirst (x_0 : Int) (x_1 : Sl) (x_2 : Sl) (R : Bool → Heap → Prop) (h : Heap) : Prop :=
  CallT Try.prog alloc_New_no [.int .i64 x_0] h [.sc (.ptr), .sc (.int .i64)] fun (r1 : (Option Addr) × Int) h2 =>
  withJ (σ := Unit) (fun s3 h5 => -- s3: 
  mkSl [.bool false] 4 1 x_0 x_0 h5 fun a6 h7 =>
  LoopT (σ := Int) (fun X9 s8 h10 => -- s8: t10
  withJ (σ := Int × Bool) (fun s11 h13 => -- s11: t49, t50
  withJ (σ := Unit) (fun s14 h16 => -- s14: 
  X9 (w64 (s8 + 1)) h16) (fun J15 =>
  idx x_1.a x_1.len s8 fun a17 =>
  ldI .i64 (a17.add (s8.toNat * 1)) h13 fun n18 =>
  CallT Try.prog alloc_Space_Take_no [.pointer r1.1, .int .i64 n18] h13 [.sc (.int .i64), .sc (.int .i64)] fun (r19 : Int × Int) h20 =>
  LoopT (σ := Int × Int) (fun X22 s21 h23 => -- s21: t14, t15
  withJ (σ := Int × Int × Int × Int × Bool × Int × Bool) (fun s24 h26 => -- s24: t67, t68, t69, t70, t71, t74, t75
  withJ (σ := Int) (fun s27 h29 => -- s27: t14
  X22 (s27, (w64 (s21.2 + 1))) h29) (fun J28 =>
  LoopT (σ := Bool × Int) (fun X31 s30 h32 => -- s30: t16, t17
  cnd (decide (s30.2 < (w64 (s21.2 + n18)))) (
  withJ (σ := Bool) (fun s33 h35 => -- s33: t16
  X31 (s33, (w64 (s30.2 + 1))) h35) (fun J34 =>
  cnd s30.1 (
  idx (some a6) x_0.toNat s30.2 fun a36 =>
  ldB (a36.add (s30.2.toNat * 1)) h32 fun b37 =>
  J34 (!b37) h32) (
  J34 false h32))) (
  cnd s30.1 (
  J28 s21.2 h32) (
  J28 s21.1 h32))) (true, s21.2) h26)) (fun J25 =>
  cnd (decide (n18 ≥ 1)) (
  cnd (decide ((w64 (s21.2 + n18)) ≤ x_0)) (
  cnd (decide (s21.1 < 0)) (
  J25 (s21.2, n18, (w64 (s21.2 + n18)), x_0, (decide ((w64 (s21.2 + n18)) ≤ x_0)), s21.1, (decide (s21.1 < 0))) h23) (
  withJ (σ := Unit) (fun s38 h40 => -- s38: 
  cnd (r19.2 != 0) (
  J15 () h40) (
  withJ (σ := Bool) (fun s41 h43 => -- s41: t18
  LoopT (σ := Int) (fun X45 s44 h46 => -- s44: t19
  cnd (decide (s44 < (w64 (r19.1 + n18)))) (
  idx (some a6) x_0.toNat s44 fun a47 =>
  stC (a47.add (s44.toNat * 1)) (.bool s41) h46 fun h48 =>
  X45 (w64 (s44 + 1)) h48) (
  withJ (σ := Bool) (fun s49 h51 => -- s49: t144
  cnd s49 (
  R false h51) (
  J15 () h51)) (fun J50 =>
  cnd (!s41) (
  CallT Try.prog alloc_Space_Give_no [.pointer r1.1, .int .i64 r19.1, .int .i64 n18] h46 [.sc (.int .i64)] fun (r52 : Int) h53 =>
  J50 (r52 != 0) h53) (
  J50 false h46)))) r19.1 h43) (fun J42 =>
  cnd (decide (s8 ≥ (x_2.len : Int))) (
  J42 true h40) (
  idx x_2.a x_2.len s8 fun a54 =>
  ldB (a54.add (s8.toNat * 1)) h40 fun b55 =>
  J42 (!b55) h40)))) (fun J39 =>
  withJ (σ := Bool) (fun s56 h58 => -- s56: t110
  cnd s56 (
  R false h58) (
  J39 () h58)) (fun J57 =>
  cnd (!((r19.2 == 0) == (decide (s21.1 ≥ 0)))) (
  J57 true h23) (
  cnd (r19.2 == 0) (
  J57 (r19.1 != s21.1) h23) (
  J57 false h23)))))) (
  withJ (σ := Unit) (fun s59 h61 => -- s59: 
  cnd (r19.2 != 0) (
  J15 () h61) (
  withJ (σ := Bool) (fun s62 h64 => -- s62: t18
  LoopT (σ := Int) (fun X66 s65 h67 => -- s65: t19
  cnd (decide (s65 < (w64 (r19.1 + n18)))) (
  idx (some a6) x_0.toNat s65 fun a68 =>
  stC (a68.add (s65.toNat * 1)) (.bool s62) h67 fun h69 =>
  X66 (w64 (s65 + 1)) h69) (
  withJ (σ := Bool) (fun s70 h72 => -- s70: t144
  cnd s70 (
  R false h72) (
  J15 () h72)) (fun J71 =>
  cnd (!s62) (
  CallT Try.prog alloc_Space_Give_no [.pointer r1.1, .int .i64 r19.1, .int .i64 n18] h67 [.sc (.int .i64)] fun (r73 : Int) h74 =>
  J71 (r73 != 0) h74) (
  J71 false h67)))) r19.1 h64) (fun J63 =>
  cnd (decide (s8 ≥ (x_2.len : Int))) (
  J63 true h61) (
  idx x_2.a x_2.len s8 fun a75 =>
  ldB (a75.add (s8.toNat * 1)) h61 fun b76 =>
  J63 (!b76) h61)))) (fun J60 =>
  withJ (σ := Bool) (fun s77 h79 => -- s77: t110
  cnd s77 (
  R false h79) (
  J60 () h79)) (fun J78 =>
  cnd (!((r19.2 == 0) == (decide (s21.1 ≥ 0)))) (
  J78 true h23) (
  cnd (r19.2 == 0) (
  J78 (r19.1 != s21.1) h23) (
  J78 false h23)))))) (
  withJ (σ := Unit) (fun s80 h82 => -- s80: 
  cnd (r19.2 != 0) (
  J15 () h82) (
  withJ (σ := Bool) (fun s83 h85 => -- s83: t18
  LoopT (σ := Int) (fun X87 s86 h88 => -- s86: t19
  cnd (decide (s86 < (w64 (r19.1 + n18)))) (
  idx (some a6) x_0.toNat s86 fun a89 =>
  stC (a89.add (s86.toNat * 1)) (.bool s83) h88 fun h90 =>
  X87 (w64 (s86 + 1)) h90) (
  withJ (σ := Bool) (fun s91 h93 => -- s91: t144
  cnd s91 (
  R false h93) (
  J15 () h93)) (fun J92 =>
  cnd (!s83) (
  CallT Try.prog alloc_Space_Give_no [.pointer r1.1, .int .i64 r19.1, .int .i64 n18] h88 [.sc (.int .i64)] fun (r94 : Int) h95 =>
  J92 (r94 != 0) h95) (
  J92 false h88)))) r19.1 h85) (fun J84 =>
  cnd (decide (s8 ≥ (x_2.len : Int))) (
  J84 true h82) (
  idx x_2.a x_2.len s8 fun a96 =>
  ldB (a96.add (s8.toNat * 1)) h82 fun b97 =>
  J84 (!b97) h82)))) (fun J81 =>
  withJ (σ := Bool) (fun s98 h100 => -- s98: t110
  cnd s98 (
  R false h100) (
  J81 () h100)) (fun J99 =>
  cnd (!((r19.2 == 0) == (decide (s21.1 ≥ 0)))) (
  J99 true h23) (
  cnd (r19.2 == 0) (
  J99 (r19.1 != s21.1) h23) (
  J99 false h23))))))) ((-1), 0) h20)) (fun J12 =>
  cnd (decide (s8 < (x_1.len : Int))) (
  cnd (decide (s8 < 60)) (
  J12 (s8, (decide (s8 < 60))) h10) (
  LoopT (σ := Int × Int) (fun X102 s101 h103 => -- s101: t20, t21
  cnd (decide (s101.2 < x_0)) (
  withJ (σ := Int) (fun s104 h106 => -- s104: t20
  X102 (s104, (w64 (s101.2 + 1))) h106) (fun J105 =>
  idx (some a6) x_0.toNat s101.2 fun a107 =>
  ldB (a107.add (s101.2.toNat * 1)) h103 fun b108 =>
  cnd (!b108) (
  J105 (w64 (s101.1 + 1)) h103) (
  J105 s101.1 h103))) (
  withJ (σ := Bool) (fun s109 h111 => -- s109: t6
  R s109 h111) (fun J110 =>
  CallT Try.prog alloc_Space_Free_no [.pointer r1.1] h103 [.sc (.int .i64)] fun (r112 : Int) h113 =>
  cnd (r112 == s101.1) (
  CallT Try.prog law10_awake_no [] h113 [.sc (.bool)] fun (r114 : Bool) h115 =>
  J110 r114 h115) (
  J110 false h113)))) (0, 0) h10)) (
  LoopT (σ := Int × Int) (fun X117 s116 h118 => -- s116: t20, t21
  cnd (decide (s116.2 < x_0)) (
  withJ (σ := Int) (fun s119 h121 => -- s119: t20
  X117 (s119, (w64 (s116.2 + 1))) h121) (fun J120 =>
  idx (some a6) x_0.toNat s116.2 fun a122 =>
  ldB (a122.add (s116.2.toNat * 1)) h118 fun b123 =>
  cnd (!b123) (
  J120 (w64 (s116.1 + 1)) h118) (
  J120 s116.1 h118))) (
  withJ (σ := Bool) (fun s124 h126 => -- s124: t6
  R s124 h126) (fun J125 =>
  CallT Try.prog alloc_Space_Free_no [.pointer r1.1] h118 [.sc (.int .i64)] fun (r127 : Int) h128 =>
  cnd (r127 == s116.1) (
  CallT Try.prog law10_awake_no [] h128 [.sc (.bool)] fun (r129 : Bool) h130 =>
  J125 r129 h130) (
  J125 false h128)))) (0, 0) h10))) 0 h7) (fun J4 =>
  withJ (σ := Bool) (fun s131 h133 => -- s131: t32
  cnd s131 (
  withJ (σ := Bool) (fun s134 h136 => -- s134: t6
  R s134 h136) (fun J135 =>
  cnd (!r1.1.isNone) (
  CallT Try.prog law10_awake_no [] h133 [.sc (.bool)] fun (r137 : Bool) h138 =>
  J135 r137 h138) (
  cnd (r1.2 == 1) (
  CallT Try.prog law10_awake_no [] h133 [.sc (.bool)] fun (r139 : Bool) h140 =>
  J135 r139 h140) (
  J135 false h133)))) (
  J4 () h133)) (fun J132 =>
  cnd r1.1.isNone (
  J132 true h2) (
  J132 (decide (x_0 > 500)) h2)))
theorem law10_AllocFirst_eq (x_0 : Int) (x_1 : Sl) (x_2 : Sl) (R : Bool → Heap → Prop) (h : Heap) : fnX Try.prog Fns.fns Try.f4 (.s .n (.s .n (.j [] (.j [(32, .bool)] .n (.s (.j [(6, .bool)] .n .n) .n)) (.s .n (.s (.s .n (.b (.l [(10, .int .i64)] (.j [(49, .int .i64), (50, .bool)] (.s .n (.s .n .n)) (.j [] (.b (.s .n (.s .n (.s .n (.s (.s .n (.b (.l [(14, .int .i64), (15, .int .i64)] (.j [(67, .int .i64), (68, .int .i64), (69, .int .i64), (70, .int .i64), (71, .bool), (74, .int .i64), (75, .bool)] (.s .n (.s .n .n)) (.j [(14, .int .i64)] (.b (.s .n (.s (.s .n (.b (.l [(16, .bool), (17, .int .i64)] (.s (.s .n (.s .n .n)) (.j [(16, .bool)] (.b .n) .n))))) (.s .n (.s .n .n))))) .n))))) (.j [] (.j [(110, .bool)] .n (.s (.s .n .n) .n)) (.s (.s .n (.s .n .n)) (.j [(18, .bool)] .n (.s (.s .n (.b (.l [(19, .int .i64)] (.s (.s .n (.s .n .n)) (.s (.b .n) .n))))) (.j [(144, .bool)] .n (.s (.s .n .n) .n))))))))))) .n))))) (.s .n (.s (.s .n (.b (.l [(20, .int .i64), (21, .int .i64)] (.s (.s .n (.s .n .n)) (.j [(20, .int .i64)] (.b (.s .n (.s .n .n))) .n))))) (.j [(6, .bool)] .n .n)))))))) [.sc (.bool)] [.int .i64 x_0, .slice x_1.a x_1.len x_1.cap, .slice x_2.a x_2.len x_2.cap] h R = law10_AllocFirst x_0 x_1 x_2 R h := by kernel_rfl
theorem law10_AllocFirst_call (x_0 : Int) (x_1 : Sl) (x_2 : Sl) {R : Bool → Heap → Prop} {h : Heap} (hx : law10_AllocFirst x_0 x_1 x_2 R h) : CallT Try.prog 4 [.int .i64 x_0, .slice x_1.a x_1.len x_1.cap, .slice x_2.a x_2.len x_2.cap] h [.sc (.bool)] R :=
  call_of_fnX fnsOk mixed Try.func4 (by kernel_rfl) (by rw [law10_AllocFirst_eq]; exact hx)

/-- stowage/stowagelaw5.DiskLasts (5) -/
def law5_DiskLasts (x_0 : Sl) (x_1 : Sl) (x_2 : Sl) (R : Bool → Heap → Prop) (h : Heap) : Prop :=
  CallT Try.prog disk_New_no [.int .i64 8] h [.sc (.ptr), .sc (.int .i64)] fun (r1 : (Option Addr) × Int) h2 =>
  withJ (σ := Unit) (fun s3 h5 => -- s3: 
  newB [.int .i64 0, .int .i64 0, .int .i64 0, .int .i64 0, .int .i64 0, .int .i64 0, .int .i64 0, .int .i64 0] 45 h5 fun a6 h7 =>
  LoopT (σ := Int) (fun X9 s8 h10 => -- s8: t10
  withJ (σ := Int × Bool) (fun s11 h13 => -- s11: t33, t34
  idx x_0.a x_0.len s8 fun a14 =>
  ldI .i64 (a14.add (s8.toNat * 1)) h13 fun n15 =>
  CallT Try.prog law5_Sector_no [.int .i64 1, .int .i64 (w64 (s8 + 1))] h13 [.sc (.sl)] fun (r16 : Sl) h17 =>
  (ldI .i64 (a14.add (s8.toNat * 1)) h17 fun n18 =>
  (.int .i64 n18 : Value) = .int .i64 n15) ∧
  CallT Try.prog disk_Dev_Write_no [.pointer r1.1, .int .i64 (andI .i64 n15 7), .slice r16.a r16.len r16.cap] h17 [.sc (.int .i64)] fun (r19 : Int) h20 =>
  idx x_0.a x_0.len s8 fun a21 =>
  ldI .i64 (a21.add (s8.toNat * 1)) h20 fun n22 =>
  inB 8 (andI .i64 n22 7) <|
  stC (a6.add ((andI .i64 n22 7).toNat * 1)) (.int .i64 (w64 (s8 + 1))) h20 fun h23 =>
  X9 (w64 (s8 + 1)) h23) (fun J12 =>
  cnd (decide (s8 < (x_0.len : Int))) (
  cnd (decide (s8 < 40)) (
  J12 (s8, (decide (s8 < 40))) h10) (
  CallT Try.prog disk_Dev_Flush_no [.pointer r1.1] h10 [.sc (.int .i64)] fun (r24 : Int) h25 =>
  cnd (r24 != 0) (
  R false h25) (
  LoopT (σ := Int) (fun X27 s26 h28 => -- s26: t11
  withJ (σ := Int × Bool) (fun s29 h31 => -- s29: t64, t65
  idx x_1.a x_1.len s26 fun a32 =>
  ldI .i64 (a32.add (s26.toNat * 1)) h31 fun n33 =>
  CallT Try.prog law5_Sector_no [.int .i64 2, .int .i64 s26] h31 [.sc (.sl)] fun (r34 : Sl) h35 =>
  (ldI .i64 (a32.add (s26.toNat * 1)) h35 fun n36 =>
  (.int .i64 n36 : Value) = .int .i64 n33) ∧
  CallT Try.prog disk_Dev_Write_no [.pointer r1.1, .int .i64 (andI .i64 n33 7), .slice r34.a r34.len r34.cap] h35 [.sc (.int .i64)] fun (r37 : Int) h38 =>
  X27 (w64 (s26 + 1)) h38) (fun J30 =>
  cnd (decide (s26 < (x_1.len : Int))) (
  cnd (decide (s26 < 40)) (
  J30 (s26, (decide (s26 < 40))) h28) (
  CallT Try.prog disk_Dev_Crash_no [.pointer r1.1, .slice x_2.a x_2.len x_2.cap] h28 [] fun (r39 : Unit) h40 =>
  LoopT (σ := Int) (fun X42 s41 h43 => -- s41: t12
  cnd (decide (s41 < 8)) (
  withJ (σ := Unit) (fun s44 h46 => -- s44: 
  X42 (w64 (s41 + 1)) h46) (fun J45 =>
  CallT Try.prog disk_Dev_Read_no [.pointer r1.1, .int .i64 s41] h43 [.sc (.sl), .sc (.int .i64)] fun (r47 : Sl × Int) h48 =>
  cnd (r47.2 != 0) (
  R false h48) (
  mkSl [.int .u8 0] 5 1 256 256 h48 fun a49 h50 =>
  withJ (σ := Sl) (fun s51 h53 => -- s51: t15
  b2s r47.1.a r47.1.len h53 fun s54 =>
  b2s s51.a s51.len h53 fun s55 =>
  LoopT (σ := Bool × Int) (fun X57 s56 h58 => -- s56: t16, t17
  withJ (σ := Int × Bool) (fun s59 h61 => -- s59: t112, t113
  withJ (σ := Bool) (fun s62 h64 => -- s62: t16
  X57 (s62, (w64 (s56.2 + 1))) h64) (fun J63 =>
  cnd s56.1 (
  J63 true h61) (
  idx x_1.a x_1.len s56.2 fun a65 =>
  ldI .i64 (a65.add (s56.2.toNat * 1)) h61 fun n66 =>
  cnd ((andI .i64 n66 7) == s41) (
  cnd (decide (s56.2 < (x_2.len : Int))) (
  idx x_2.a x_2.len s56.2 fun a67 =>
  ldB (a67.add (s56.2.toNat * 1)) h61 fun b68 =>
  cnd b68 (
  b2s r47.1.a r47.1.len h61 fun s69 =>
  CallT Try.prog law5_Sector_no [.int .i64 2, .int .i64 s56.2] h61 [.sc (.sl)] fun (r70 : Sl) h71 =>
  (b2s r47.1.a r47.1.len h71 fun s72 =>
  (.string s72 : Value) = .string s69) ∧
  b2s r70.a r70.len h71 fun s73 =>
  J63 (seq s69 s73) h71) (
  J63 false h61)) (
  J63 false h61)) (
  J63 false h61)))) (fun J60 =>
  cnd (decide (s56.2 < (x_1.len : Int))) (
  cnd (decide (s56.2 < 40)) (
  J60 (s56.2, (decide (s56.2 < 40))) h58) (
  cnd (!s56.1) (
  R false h58) (
  J45 () h58))) (
  cnd (!s56.1) (
  R false h58) (
  J45 () h58)))) ((seq s54 s55), 0) h53) (fun J52 =>
  inB 8 s41 <|
  ldI .i64 (a6.add (s41.toNat * 1)) h50 fun n74 =>
  cnd (decide (n74 > 0)) (
  inB 8 s41 <|
  ldI .i64 (a6.add (s41.toNat * 1)) h50 fun n75 =>
  CallT Try.prog law5_Sector_no [.int .i64 1, .int .i64 n75] h50 [.sc (.sl)] fun (r76 : Sl) h77 =>
  J52 r76 h77) (
  J52 (⟨(some a49), (256 : Int).toNat, (256 : Int).toNat⟩ : Sl) h50))))) (
  withJ (σ := Bool) (fun s78 h80 => -- s78: t6
  R s78 h80) (fun J79 =>
  CallT Try.prog disk_Dev_Pending_no [.pointer r1.1] h43 [.sc (.int .i64)] fun (r81 : Int) h82 =>
  cnd (r81 == 0) (
  CallT Try.prog law5_awake_no [] h82 [.sc (.bool)] fun (r83 : Bool) h84 =>
  J79 r83 h84) (
  J79 false h82)))) 0 h40)) (
  CallT Try.prog disk_Dev_Crash_no [.pointer r1.1, .slice x_2.a x_2.len x_2.cap] h28 [] fun (r85 : Unit) h86 =>
  LoopT (σ := Int) (fun X88 s87 h89 => -- s87: t12
  cnd (decide (s87 < 8)) (
  withJ (σ := Unit) (fun s90 h92 => -- s90: 
  X88 (w64 (s87 + 1)) h92) (fun J91 =>
  CallT Try.prog disk_Dev_Read_no [.pointer r1.1, .int .i64 s87] h89 [.sc (.sl), .sc (.int .i64)] fun (r93 : Sl × Int) h94 =>
  cnd (r93.2 != 0) (
  R false h94) (
  mkSl [.int .u8 0] 5 1 256 256 h94 fun a95 h96 =>
  withJ (σ := Sl) (fun s97 h99 => -- s97: t15
  b2s r93.1.a r93.1.len h99 fun s100 =>
  b2s s97.a s97.len h99 fun s101 =>
  LoopT (σ := Bool × Int) (fun X103 s102 h104 => -- s102: t16, t17
  withJ (σ := Int × Bool) (fun s105 h107 => -- s105: t112, t113
  withJ (σ := Bool) (fun s108 h110 => -- s108: t16
  X103 (s108, (w64 (s102.2 + 1))) h110) (fun J109 =>
  cnd s102.1 (
  J109 true h107) (
  idx x_1.a x_1.len s102.2 fun a111 =>
  ldI .i64 (a111.add (s102.2.toNat * 1)) h107 fun n112 =>
  cnd ((andI .i64 n112 7) == s87) (
  cnd (decide (s102.2 < (x_2.len : Int))) (
  idx x_2.a x_2.len s102.2 fun a113 =>
  ldB (a113.add (s102.2.toNat * 1)) h107 fun b114 =>
  cnd b114 (
  b2s r93.1.a r93.1.len h107 fun s115 =>
  CallT Try.prog law5_Sector_no [.int .i64 2, .int .i64 s102.2] h107 [.sc (.sl)] fun (r116 : Sl) h117 =>
  (b2s r93.1.a r93.1.len h117 fun s118 =>
  (.string s118 : Value) = .string s115) ∧
  b2s r116.a r116.len h117 fun s119 =>
  J109 (seq s115 s119) h117) (
  J109 false h107)) (
  J109 false h107)) (
  J109 false h107)))) (fun J106 =>
  cnd (decide (s102.2 < (x_1.len : Int))) (
  cnd (decide (s102.2 < 40)) (
  J106 (s102.2, (decide (s102.2 < 40))) h104) (
  cnd (!s102.1) (
  R false h104) (
  J91 () h104))) (
  cnd (!s102.1) (
  R false h104) (
  J91 () h104)))) ((seq s100 s101), 0) h99) (fun J98 =>
  inB 8 s87 <|
  ldI .i64 (a6.add (s87.toNat * 1)) h96 fun n120 =>
  cnd (decide (n120 > 0)) (
  inB 8 s87 <|
  ldI .i64 (a6.add (s87.toNat * 1)) h96 fun n121 =>
  CallT Try.prog law5_Sector_no [.int .i64 1, .int .i64 n121] h96 [.sc (.sl)] fun (r122 : Sl) h123 =>
  J98 r122 h123) (
  J98 (⟨(some a95), (256 : Int).toNat, (256 : Int).toNat⟩ : Sl) h96))))) (
  withJ (σ := Bool) (fun s124 h126 => -- s124: t6
  R s124 h126) (fun J125 =>
  CallT Try.prog disk_Dev_Pending_no [.pointer r1.1] h89 [.sc (.int .i64)] fun (r127 : Int) h128 =>
  cnd (r127 == 0) (
  CallT Try.prog law5_awake_no [] h128 [.sc (.bool)] fun (r129 : Bool) h130 =>
  J125 r129 h130) (
  J125 false h128)))) 0 h86))) 0 h25))) (
  CallT Try.prog disk_Dev_Flush_no [.pointer r1.1] h10 [.sc (.int .i64)] fun (r131 : Int) h132 =>
  cnd (r131 != 0) (
  R false h132) (
  LoopT (σ := Int) (fun X134 s133 h135 => -- s133: t11
  withJ (σ := Int × Bool) (fun s136 h138 => -- s136: t64, t65
  idx x_1.a x_1.len s133 fun a139 =>
  ldI .i64 (a139.add (s133.toNat * 1)) h138 fun n140 =>
  CallT Try.prog law5_Sector_no [.int .i64 2, .int .i64 s133] h138 [.sc (.sl)] fun (r141 : Sl) h142 =>
  (ldI .i64 (a139.add (s133.toNat * 1)) h142 fun n143 =>
  (.int .i64 n143 : Value) = .int .i64 n140) ∧
  CallT Try.prog disk_Dev_Write_no [.pointer r1.1, .int .i64 (andI .i64 n140 7), .slice r141.a r141.len r141.cap] h142 [.sc (.int .i64)] fun (r144 : Int) h145 =>
  X134 (w64 (s133 + 1)) h145) (fun J137 =>
  cnd (decide (s133 < (x_1.len : Int))) (
  cnd (decide (s133 < 40)) (
  J137 (s133, (decide (s133 < 40))) h135) (
  CallT Try.prog disk_Dev_Crash_no [.pointer r1.1, .slice x_2.a x_2.len x_2.cap] h135 [] fun (r146 : Unit) h147 =>
  LoopT (σ := Int) (fun X149 s148 h150 => -- s148: t12
  cnd (decide (s148 < 8)) (
  withJ (σ := Unit) (fun s151 h153 => -- s151: 
  X149 (w64 (s148 + 1)) h153) (fun J152 =>
  CallT Try.prog disk_Dev_Read_no [.pointer r1.1, .int .i64 s148] h150 [.sc (.sl), .sc (.int .i64)] fun (r154 : Sl × Int) h155 =>
  cnd (r154.2 != 0) (
  R false h155) (
  mkSl [.int .u8 0] 5 1 256 256 h155 fun a156 h157 =>
  withJ (σ := Sl) (fun s158 h160 => -- s158: t15
  b2s r154.1.a r154.1.len h160 fun s161 =>
  b2s s158.a s158.len h160 fun s162 =>
  LoopT (σ := Bool × Int) (fun X164 s163 h165 => -- s163: t16, t17
  withJ (σ := Int × Bool) (fun s166 h168 => -- s166: t112, t113
  withJ (σ := Bool) (fun s169 h171 => -- s169: t16
  X164 (s169, (w64 (s163.2 + 1))) h171) (fun J170 =>
  cnd s163.1 (
  J170 true h168) (
  idx x_1.a x_1.len s163.2 fun a172 =>
  ldI .i64 (a172.add (s163.2.toNat * 1)) h168 fun n173 =>
  cnd ((andI .i64 n173 7) == s148) (
  cnd (decide (s163.2 < (x_2.len : Int))) (
  idx x_2.a x_2.len s163.2 fun a174 =>
  ldB (a174.add (s163.2.toNat * 1)) h168 fun b175 =>
  cnd b175 (
  b2s r154.1.a r154.1.len h168 fun s176 =>
  CallT Try.prog law5_Sector_no [.int .i64 2, .int .i64 s163.2] h168 [.sc (.sl)] fun (r177 : Sl) h178 =>
  (b2s r154.1.a r154.1.len h178 fun s179 =>
  (.string s179 : Value) = .string s176) ∧
  b2s r177.a r177.len h178 fun s180 =>
  J170 (seq s176 s180) h178) (
  J170 false h168)) (
  J170 false h168)) (
  J170 false h168)))) (fun J167 =>
  cnd (decide (s163.2 < (x_1.len : Int))) (
  cnd (decide (s163.2 < 40)) (
  J167 (s163.2, (decide (s163.2 < 40))) h165) (
  cnd (!s163.1) (
  R false h165) (
  J152 () h165))) (
  cnd (!s163.1) (
  R false h165) (
  J152 () h165)))) ((seq s161 s162), 0) h160) (fun J159 =>
  inB 8 s148 <|
  ldI .i64 (a6.add (s148.toNat * 1)) h157 fun n181 =>
  cnd (decide (n181 > 0)) (
  inB 8 s148 <|
  ldI .i64 (a6.add (s148.toNat * 1)) h157 fun n182 =>
  CallT Try.prog law5_Sector_no [.int .i64 1, .int .i64 n182] h157 [.sc (.sl)] fun (r183 : Sl) h184 =>
  J159 r183 h184) (
  J159 (⟨(some a156), (256 : Int).toNat, (256 : Int).toNat⟩ : Sl) h157))))) (
  withJ (σ := Bool) (fun s185 h187 => -- s185: t6
  R s185 h187) (fun J186 =>
  CallT Try.prog disk_Dev_Pending_no [.pointer r1.1] h150 [.sc (.int .i64)] fun (r188 : Int) h189 =>
  cnd (r188 == 0) (
  CallT Try.prog law5_awake_no [] h189 [.sc (.bool)] fun (r190 : Bool) h191 =>
  J186 r190 h191) (
  J186 false h189)))) 0 h147)) (
  CallT Try.prog disk_Dev_Crash_no [.pointer r1.1, .slice x_2.a x_2.len x_2.cap] h135 [] fun (r192 : Unit) h193 =>
  LoopT (σ := Int) (fun X195 s194 h196 => -- s194: t12
  cnd (decide (s194 < 8)) (
  withJ (σ := Unit) (fun s197 h199 => -- s197: 
  X195 (w64 (s194 + 1)) h199) (fun J198 =>
  CallT Try.prog disk_Dev_Read_no [.pointer r1.1, .int .i64 s194] h196 [.sc (.sl), .sc (.int .i64)] fun (r200 : Sl × Int) h201 =>
  cnd (r200.2 != 0) (
  R false h201) (
  mkSl [.int .u8 0] 5 1 256 256 h201 fun a202 h203 =>
  withJ (σ := Sl) (fun s204 h206 => -- s204: t15
  b2s r200.1.a r200.1.len h206 fun s207 =>
  b2s s204.a s204.len h206 fun s208 =>
  LoopT (σ := Bool × Int) (fun X210 s209 h211 => -- s209: t16, t17
  withJ (σ := Int × Bool) (fun s212 h214 => -- s212: t112, t113
  withJ (σ := Bool) (fun s215 h217 => -- s215: t16
  X210 (s215, (w64 (s209.2 + 1))) h217) (fun J216 =>
  cnd s209.1 (
  J216 true h214) (
  idx x_1.a x_1.len s209.2 fun a218 =>
  ldI .i64 (a218.add (s209.2.toNat * 1)) h214 fun n219 =>
  cnd ((andI .i64 n219 7) == s194) (
  cnd (decide (s209.2 < (x_2.len : Int))) (
  idx x_2.a x_2.len s209.2 fun a220 =>
  ldB (a220.add (s209.2.toNat * 1)) h214 fun b221 =>
  cnd b221 (
  b2s r200.1.a r200.1.len h214 fun s222 =>
  CallT Try.prog law5_Sector_no [.int .i64 2, .int .i64 s209.2] h214 [.sc (.sl)] fun (r223 : Sl) h224 =>
  (b2s r200.1.a r200.1.len h224 fun s225 =>
  (.string s225 : Value) = .string s222) ∧
  b2s r223.a r223.len h224 fun s226 =>
  J216 (seq s222 s226) h224) (
  J216 false h214)) (
  J216 false h214)) (
  J216 false h214)))) (fun J213 =>
  cnd (decide (s209.2 < (x_1.len : Int))) (
  cnd (decide (s209.2 < 40)) (
  J213 (s209.2, (decide (s209.2 < 40))) h211) (
  cnd (!s209.1) (
  R false h211) (
  J198 () h211))) (
  cnd (!s209.1) (
  R false h211) (
  J198 () h211)))) ((seq s207 s208), 0) h206) (fun J205 =>
  inB 8 s194 <|
  ldI .i64 (a6.add (s194.toNat * 1)) h203 fun n227 =>
  cnd (decide (n227 > 0)) (
  inB 8 s194 <|
  ldI .i64 (a6.add (s194.toNat * 1)) h203 fun n228 =>
  CallT Try.prog law5_Sector_no [.int .i64 1, .int .i64 n228] h203 [.sc (.sl)] fun (r229 : Sl) h230 =>
  J205 r229 h230) (
  J205 (⟨(some a202), (256 : Int).toNat, (256 : Int).toNat⟩ : Sl) h203))))) (
  withJ (σ := Bool) (fun s231 h233 => -- s231: t6
  R s231 h233) (fun J232 =>
  CallT Try.prog disk_Dev_Pending_no [.pointer r1.1] h196 [.sc (.int .i64)] fun (r234 : Int) h235 =>
  cnd (r234 == 0) (
  CallT Try.prog law5_awake_no [] h235 [.sc (.bool)] fun (r236 : Bool) h237 =>
  J232 r236 h237) (
  J232 false h235)))) 0 h193))) 0 h132)))) 0 h7) (fun J4 =>
  withJ (σ := Bool) (fun s238 h240 => -- s238: t27
  cnd s238 (
  R false h240) (
  J4 () h240)) (fun J239 =>
  cnd r1.1.isNone (
  J239 true h2) (
  J239 (r1.2 != 0) h2)))
theorem law5_DiskLasts_eq (x_0 : Sl) (x_1 : Sl) (x_2 : Sl) (R : Bool → Heap → Prop) (h : Heap) : fnX Try.prog Fns.fns Try.f5 (.s .n (.s .n (.j [] (.j [(27, .bool)] .n (.s (.s .n .n) .n)) (.s .n (.s (.s .n (.b (.l [(10, .int .i64)] (.j [(33, .int .i64), (34, .bool)] (.s .n (.s .n .n)) (.s (.b (.s .n .n)) .n))))) (.s (.s .n (.s (.s .n .n) .n)) (.s (.s .n (.b (.l [(11, .int .i64)] (.j [(64, .int .i64), (65, .bool)] (.s .n (.s .n .n)) (.s (.b .n) .n))))) (.s .n (.s (.s .n (.b (.l [(12, .int .i64)] (.s (.s .n (.s .n .n)) (.j [] (.b (.s .n (.s (.s .n (.s (.s .n .n) .n)) (.s .n (.j [(15, .sl)] (.s .n (.s .n .n)) (.s .n (.s (.s .n (.b (.l [(16, .bool), (17, .int .i64)] (.j [(112, .int .i64), (113, .bool)] (.s .n (.s .n .n)) (.j [(16, .bool)] (.b .n) .n))))) (.s .n (.s (.s .n .n) .n))))))))) .n))))) (.j [(6, .bool)] .n .n)))))))))) [.sc (.bool)] [.slice x_0.a x_0.len x_0.cap, .slice x_1.a x_1.len x_1.cap, .slice x_2.a x_2.len x_2.cap] h R = law5_DiskLasts x_0 x_1 x_2 R h := by kernel_rfl
theorem law5_DiskLasts_call (x_0 : Sl) (x_1 : Sl) (x_2 : Sl) {R : Bool → Heap → Prop} {h : Heap} (hx : law5_DiskLasts x_0 x_1 x_2 R h) : CallT Try.prog 5 [.slice x_0.a x_0.len x_0.cap, .slice x_1.a x_1.len x_1.cap, .slice x_2.a x_2.len x_2.cap] h [.sc (.bool)] R :=
  call_of_fnX fnsOk mixed Try.func5 (by kernel_rfl) (by rw [law5_DiskLasts_eq]; exact hx)

/-- stowage/stowagelaw5.DiskFuses (6) -/
def law5_DiskFuses (x_0 : Sl) (x_1 : Int) (R : Bool → Heap → Prop) (h : Heap) : Prop :=
  CallT Try.prog disk_New_no [.int .i64 8] h [.sc (.ptr), .sc (.int .i64)] fun (r1 : (Option Addr) × Int) h2 =>
  withJ (σ := Unit) (fun s3 h5 => -- s3: 
  CallT Try.prog disk_Dev_Fuse_no [.pointer r1.1, .int .i64 x_1] h5 [] fun (r6 : Unit) h7 =>
  LoopT (σ := Int) (fun X9 s8 h10 => -- s8: t7
  cnd (decide (s8 < (x_0.len : Int))) (
  withJ (σ := Unit) (fun s11 h13 => -- s11: 
  X9 (w64 (s8 + 1)) h13) (fun J12 =>
  withJ (σ := Int) (fun s14 h16 => -- s14: t8
  withJ (σ := Bool) (fun s17 h19 => -- s17: t83
  cnd s17 (
  R false h19) (
  J12 () h19)) (fun J18 =>
  cnd (decide (x_1 < 0)) (
  cnd (!((s14 == 0) == true)) (
  J18 true h16) (
  cnd (s14 != 0) (
  cnd (s14 != 50) (
  J18 true h16) (
  CallT Try.prog disk_Dev_Dead_no [.pointer r1.1] h16 [.sc (.bool)] fun (r20 : Bool) h21 =>
  J18 (!(r20 == (s14 != 0))) h21)) (
  CallT Try.prog disk_Dev_Dead_no [.pointer r1.1] h16 [.sc (.bool)] fun (r22 : Bool) h23 =>
  J18 (!(r22 == (s14 != 0))) h23))) (
  cnd (!((s14 == 0) == (decide (s8 < x_1)))) (
  J18 true h16) (
  cnd (s14 != 0) (
  cnd (s14 != 50) (
  J18 true h16) (
  CallT Try.prog disk_Dev_Dead_no [.pointer r1.1] h16 [.sc (.bool)] fun (r24 : Bool) h25 =>
  J18 (!(r24 == (s14 != 0))) h25)) (
  CallT Try.prog disk_Dev_Dead_no [.pointer r1.1] h16 [.sc (.bool)] fun (r26 : Bool) h27 =>
  J18 (!(r26 == (s14 != 0))) h27))))) (fun J15 =>
  idx x_0.a x_0.len s8 fun a28 =>
  ldB (a28.add (s8.toNat * 1)) h10 fun b29 =>
  cnd b29 (
  CallT Try.prog disk_Dev_Flush_no [.pointer r1.1] h10 [.sc (.int .i64)] fun (r30 : Int) h31 =>
  J15 r30 h31) (
  CallT Try.prog law5_Sector_no [.int .i64 1, .int .i64 s8] h10 [.sc (.sl)] fun (r32 : Sl) h33 =>
  CallT Try.prog disk_Dev_Write_no [.pointer r1.1, .int .i64 (andI .i64 s8 7), .slice r32.a r32.len r32.cap] h33 [.sc (.int .i64)] fun (r34 : Int) h35 =>
  J15 r34 h35)))) (
  CallT Try.prog disk_Dev_Read_no [.pointer r1.1, .int .i64 0] h10 [.sc (.sl), .sc (.int .i64)] fun (r36 : Sl × Int) h37 =>
  CallT Try.prog disk_Dev_Dead_no [.pointer r1.1] h37 [.sc (.bool)] fun (r38 : Bool) h39 =>
  cnd (!((r36.2 == 50) == r38)) (
  R false h39) (
  CallT Try.prog disk_Dev_Crash_no [.pointer r1.1, .slice none 0 0] h39 [] fun (r40 : Unit) h41 =>
  CallT Try.prog disk_Dev_Read_no [.pointer r1.1, .int .i64 0] h41 [.sc (.sl), .sc (.int .i64)] fun (r42 : Sl × Int) h43 =>
  CallT Try.prog law5_Sector_no [.int .i64 2, .int .i64 2] h43 [.sc (.sl)] fun (r44 : Sl) h45 =>
  CallT Try.prog disk_Dev_Write_no [.pointer r1.1, .int .i64 0, .slice r44.a r44.len r44.cap] h45 [.sc (.int .i64)] fun (r46 : Int) h47 =>
  withJ (σ := Bool) (fun s48 h50 => -- s48: t4
  R s48 h50) (fun J49 =>
  cnd (r42.2 == 0) (
  cnd (r46 == 0) (
  CallT Try.prog disk_Dev_Dead_no [.pointer r1.1] h47 [.sc (.bool)] fun (r51 : Bool) h52 =>
  cnd (!r51) (
  CallT Try.prog disk_Dev_Flush_no [.pointer r1.1] h52 [.sc (.int .i64)] fun (r53 : Int) h54 =>
  cnd (r53 == 0) (
  CallT Try.prog law5_awake_no [] h54 [.sc (.bool)] fun (r55 : Bool) h56 =>
  J49 r55 h56) (
  J49 false h54)) (
  J49 false h52)) (
  J49 false h47)) (
  J49 false h47))))) 0 h7) (fun J4 =>
  withJ (σ := Bool) (fun s57 h59 => -- s57: t28
  cnd s57 (
  withJ (σ := Bool) (fun s60 h62 => -- s60: t4
  R s60 h62) (fun J61 =>
  cnd (!r1.1.isNone) (
  cnd (r1.2 == 0) (
  CallT Try.prog law5_awake_no [] h59 [.sc (.bool)] fun (r63 : Bool) h64 =>
  J61 r63 h64) (
  J61 false h59)) (
  J61 false h59))) (
  J4 () h59)) (fun J58 =>
  cnd r1.1.isNone (
  J58 true h2) (
  cnd (r1.2 != 0) (
  J58 true h2) (
  J58 (decide ((x_0.len : Int) > 60)) h2))))
theorem law5_DiskFuses_eq (x_0 : Sl) (x_1 : Int) (R : Bool → Heap → Prop) (h : Heap) : fnX Try.prog Fns.fns Try.f6 (.s .n (.s .n (.j [] (.j [(28, .bool)] .n (.s (.j [(4, .bool)] .n .n) .n)) (.s .n (.s (.s .n (.b (.l [(7, .int .i64)] (.s (.s .n (.s .n .n)) (.j [] (.b (.s .n (.j [(8, .int .i64)] (.s .n (.s .n .n)) (.j [(83, .bool)] .n (.s (.s .n .n) .n))))) .n))))) (.s .n (.s (.s .n (.s (.s .n .n) .n)) (.s .n (.s .n (.s .n (.j [(4, .bool)] .n .n))))))))))) [.sc (.bool)] [.slice x_0.a x_0.len x_0.cap, .int .i64 x_1] h R = law5_DiskFuses x_0 x_1 R h := by kernel_rfl
theorem law5_DiskFuses_call (x_0 : Sl) (x_1 : Int) {R : Bool → Heap → Prop} {h : Heap} (hx : law5_DiskFuses x_0 x_1 R h) : CallT Try.prog 6 [.slice x_0.a x_0.len x_0.cap, .int .i64 x_1] h [.sc (.bool)] R :=
  call_of_fnX fnsOk mixed Try.func6 (by kernel_rfl) (by rw [law5_DiskFuses_eq]; exact hx)

/-- stowage/stowagelaw10.AllocPlays (7) -/
def law10_AllocPlays (x_0 : Int) (x_1 : Sl) (R : Bool → Heap → Prop) (h : Heap) : Prop :=
  CallT Try.prog alloc_New_no [.int .i64 x_0] h [.sc (.ptr), .sc (.int .i64)] fun (r1 : (Option Addr) × Int) h2 =>
  CallT Try.prog ref10_New_no [.int .i64 x_0] h2 [.sc (.ptr), .sc (.int .i64)] fun (r3 : (Option Addr) × Int) h4 =>
  withJ (σ := Unit) (fun s5 h7 => -- s5: 
  LoopT (σ := (Option Addr) × (Option Addr) × Int) (fun X9 s8 h10 => -- s8: t5, t7, t9
  withJ (σ := Int × Bool × (Option Addr) × Bool) (fun s11 h13 => -- s11: t45, t46, t49, t50
  withJ (σ := (Option Addr) × (Option Addr)) (fun s14 h16 => -- s14: t5, t7
  X9 (s14.1, s14.2, (w64 (s8.2.2 + 1))) h16) (fun J15 =>
  idx x_1.a x_1.len s8.2.2 fun a17 =>
  ldI .i64 (a17.add (s8.2.2.toNat * 3)) h13 fun n18 =>
  ldI .i64 ((a17.add (s8.2.2.toNat * 3)).add 1) h13 fun n19 =>
  ldI .i64 ((a17.add (s8.2.2.toNat * 3)).add 2) h13 fun n20 =>
  newB [.int .i64 0, .int .i64 0, .int .i64 0] 29 h13 fun a21 h22 =>
  stC a21 (.int .i64 n18) h22 fun h23 =>
  stC (a21.add 1) (.int .i64 n19) h23 fun h24 =>
  stC (a21.add 2) (.int .i64 n20) h24 fun h25 =>
  withJ (σ := (Option Addr) × (Option Addr) × Bool) (fun s26 h28 => -- s26: t5, t7, t11
  withJ (σ := Bool) (fun s29 h31 => -- s29: t140
  cnd s29 (
  R false h31) (
  J15 (s26.1, s26.2.1) h31)) (fun J30 =>
  cnd (!s26.2.2) (
  J30 true h28) (
  cnd s26.1.isNone (
  J30 true h28) (
  CallT Try.prog alloc_Space_Free_no [.pointer s26.1] h28 [.sc (.int .i64)] fun (r32 : Int) h33 =>
  CallT Try.prog ref10_Space_Free_no [.pointer s26.2.1] h33 [.sc (.int .i64)] fun (r34 : Int) h35 =>
  cnd (r32 != r34) (
  J30 true h35) (
  CallT Try.prog alloc_Space_Runs_no [.pointer s26.1] h35 [.sc (.sl)] fun (r36 : Sl) h37 =>
  CallT Try.prog ref10_Space_Runs_no [.pointer s26.2.1] h37 [.sc (.sl)] fun (r38 : Sl) h39 =>
  CallT Try.prog law10_runs_no [.slice r36.a r36.len r36.cap, .slice r38.a r38.len r38.cap] h39 [.sc (.bool)] fun (r40 : Bool) h41 =>
  J30 (!r40) h41))))) (fun J27 =>
  ldI .i64 a21 h25 fun n42 =>
  cnd (n42 == 0) (
  ldI .i64 (a21.add 2) h25 fun n43 =>
  CallT Try.prog alloc_Space_Take_no [.pointer s8.1, .int .i64 n43] h25 [.sc (.int .i64), .sc (.int .i64)] fun (r44 : Int × Int) h45 =>
  ldI .i64 (a21.add 2) h45 fun n46 =>
  CallT Try.prog ref10_Space_Take_no [.pointer s8.2.1, .int .i64 n46] h45 [.sc (.int .i64), .sc (.int .i64)] fun (r47 : Int × Int) h48 =>
  cnd (r44.1 == r47.1) (
  J27 (s8.1, s8.2.1, (r44.2 == r47.2)) h48) (
  J27 (s8.1, s8.2.1, false) h48)) (
  cnd (n42 == 1) (
  ldI .i64 (a21.add 1) h25 fun n49 =>
  ldI .i64 (a21.add 2) h25 fun n50 =>
  ldI .i64 (a21.add 1) h25 fun n51 =>
  ldI .i64 (a21.add 2) h25 fun n52 =>
  CallT Try.prog alloc_Space_Give_no [.pointer s8.1, .int .i64 n49, .int .i64 n50] h25 [.sc (.int .i64)] fun (r53 : Int) h54 =>
  (ldI .i64 (a21.add 2) h54 fun n55 =>
  (.int .i64 n55 : Value) = .int .i64 n52) ∧
  (ldI .i64 (a21.add 1) h54 fun n56 =>
  (.int .i64 n56 : Value) = .int .i64 n51) ∧
  CallT Try.prog ref10_Space_Give_no [.pointer s8.2.1, .int .i64 n51, .int .i64 n52] h54 [.sc (.int .i64)] fun (r57 : Int) h58 =>
  J27 (s8.1, s8.2.1, (r53 == r57)) h58) (
  cnd (n42 == 2) (
  ldI .i64 (a21.add 1) h25 fun n59 =>
  ldI .i64 (a21.add 2) h25 fun n60 =>
  ldI .i64 (a21.add 1) h25 fun n61 =>
  ldI .i64 (a21.add 2) h25 fun n62 =>
  CallT Try.prog alloc_Space_Mark_no [.pointer s8.1, .int .i64 n59, .int .i64 n60] h25 [.sc (.int .i64)] fun (r63 : Int) h64 =>
  (ldI .i64 (a21.add 2) h64 fun n65 =>
  (.int .i64 n65 : Value) = .int .i64 n62) ∧
  (ldI .i64 (a21.add 1) h64 fun n66 =>
  (.int .i64 n66 : Value) = .int .i64 n61) ∧
  CallT Try.prog ref10_Space_Mark_no [.pointer s8.2.1, .int .i64 n61, .int .i64 n62] h64 [.sc (.int .i64)] fun (r67 : Int) h68 =>
  J27 (s8.1, s8.2.1, (r63 == r67)) h68) (
  cnd (n42 == 3) (
  CallT Try.prog alloc_Space_Copy_no [.pointer s8.1] h25 [.sc (.ptr)] fun (r69 : (Option Addr)) h70 =>
  CallT Try.prog ref10_Space_Copy_no [.pointer s8.2.1] h70 [.sc (.ptr)] fun (r71 : (Option Addr)) h72 =>
  J27 (r69, r71, true) h72) (
  J27 (s8.1, s8.2.1, true) h25))))))) (fun J12 =>
  cnd (decide (s8.2.2 < (x_1.len : Int))) (
  cnd (decide (s8.2.2 < 100)) (
  cnd (!s8.1.isNone) (
  J12 (s8.2.2, (decide (s8.2.2 < 100)), s8.1, (!s8.1.isNone)) h10) (
  R true h10)) (
  R true h10)) (
  R true h10))) (r1.1, r3.1, 0) h7) (fun J6 =>
  withJ (σ := Bool) (fun s73 h75 => -- s73: t39
  cnd s73 (
  R false h75) (
  J6 () h75)) (fun J74 =>
  cnd (r1.2 != r3.2) (
  J74 true h4) (
  cnd (!(r1.1.isNone == r3.1.isNone)) (
  J74 true h4) (
  CallT Try.prog law10_awake_no [] h4 [.sc (.bool)] fun (r76 : Bool) h77 =>
  J74 (!r76) h77))))
theorem law10_AllocPlays_eq (x_0 : Int) (x_1 : Sl) (R : Bool → Heap → Prop) (h : Heap) : fnX Try.prog Fns.fns Try.f7 (.s .n (.s .n (.s .n (.j [] (.j [(39, .bool)] .n (.s (.s .n .n) .n)) (.s (.s .n (.b (.l [(5, .ptr), (7, .ptr), (9, .int .i64)] (.j [(45, .int .i64), (46, .bool), (49, .ptr), (50, .bool)] (.s .n (.s .n .n)) (.j [(5, .ptr), (7, .ptr)] (.b (.s .n (.s .n (.j [(5, .ptr), (7, .ptr), (11, .bool)] (.s .n (.b (.s .n (.s (.s .n (.s .n .n)) (.s .n (.s .n (.s .n (.s .n (.s .n (.s (.s .n .n) .n)))))))))) (.j [(140, .bool)] .n (.s (.s .n .n) .n)))))) .n))))) (.s .n .n)))))) [.sc (.bool)] [.int .i64 x_0, .slice x_1.a x_1.len x_1.cap] h R = law10_AllocPlays x_0 x_1 R h := by kernel_rfl
theorem law10_AllocPlays_call (x_0 : Int) (x_1 : Sl) {R : Bool → Heap → Prop} {h : Heap} (hx : law10_AllocPlays x_0 x_1 R h) : CallT Try.prog 7 [.int .i64 x_0, .slice x_1.a x_1.len x_1.cap] h [.sc (.bool)] R :=
  call_of_fnX fnsOk mixed Try.func7 (by kernel_rfl) (by rw [law10_AllocPlays_eq]; exact hx)

/-- stowage/stowagelaw5.DiskPlays (8) -/
def law5_DiskPlays (x_0 : Int) (x_1 : Sl) (R : Bool → Heap → Prop) (h : Heap) : Prop :=
  CallT Try.prog disk_New_no [.int .i64 x_0] h [.sc (.ptr), .sc (.int .i64)] fun (r1 : (Option Addr) × Int) h2 =>
  CallT Try.prog ref5_New_no [.int .i64 x_0] h2 [.sc (.ptr), .sc (.int .i64)] fun (r3 : (Option Addr) × Int) h4 =>
  withJ (σ := Unit) (fun s5 h7 => -- s5: 
  LoopT (σ := (Option Addr) × (Option Addr) × Int) (fun X9 s8 h10 => -- s8: t5, t7, t9
  withJ (σ := Int × Bool × (Option Addr) × Bool) (fun s11 h13 => -- s11: t49, t50, t53, t54
  withJ (σ := (Option Addr) × (Option Addr)) (fun s14 h16 => -- s14: t5, t7
  X9 (s14.1, s14.2, (w64 (s8.2.2 + 1))) h16) (fun J15 =>
  idx x_1.a x_1.len s8.2.2 fun a17 =>
  ldI .i64 (a17.add (s8.2.2.toNat * 6)) h13 fun n18 =>
  ldI .i64 ((a17.add (s8.2.2.toNat * 6)).add 1) h13 fun n19 =>
  ldI .i64 ((a17.add (s8.2.2.toNat * 6)).add 2) h13 fun n20 =>
  ldI .i64 ((a17.add (s8.2.2.toNat * 6)).add 3) h13 fun n21 =>
  ldI .i64 ((a17.add (s8.2.2.toNat * 6)).add 4) h13 fun n22 =>
  ldL ((a17.add (s8.2.2.toNat * 6)).add 5) h13 fun o23 l23 c23 =>
  newB [.int .i64 0, .int .i64 0, .int .i64 0, .int .i64 0, .int .i64 0, .slice none 0 0] 73 h13 fun a24 h25 =>
  stC a24 (.int .i64 n18) h25 fun h26 =>
  stC (a24.add 1) (.int .i64 n19) h26 fun h27 =>
  stC (a24.add 2) (.int .i64 n20) h27 fun h28 =>
  stC (a24.add 3) (.int .i64 n21) h28 fun h29 =>
  stC (a24.add 4) (.int .i64 n22) h29 fun h30 =>
  stC (a24.add 5) (.slice o23 l23 c23) h30 fun h31 =>
  withJ (σ := (Option Addr) × (Option Addr) × Bool) (fun s32 h34 => -- s32: t5, t7, t11
  withJ (σ := Bool) (fun s35 h37 => -- s35: t208
  cnd s35 (
  R false h37) (
  J15 (s32.1, s32.2.1) h37)) (fun J36 =>
  cnd (!s32.2.2) (
  J36 true h34) (
  cnd s32.1.isNone (
  J36 true h34) (
  nn s32.2.1 fun a38 =>
  ldL (a38.add 1) h34 fun o39 l39 c39 =>
  CallT Try.prog disk_Dev_Pending_no [.pointer s32.1] h34 [.sc (.int .i64)] fun (r40 : Int) h41 =>
  (ldL (a38.add 1) h41 fun o42 l42 c42 =>
  (.slice o42 l42 c42 : Value) = .slice o39 l39 c39) ∧
  cnd (r40 != (l39 : Int)) (
  J36 true h41) (
  nn s32.2.1 fun a43 =>
  ldB (a43.add 3) h41 fun b44 =>
  CallT Try.prog disk_Dev_Dead_no [.pointer s32.1] h41 [.sc (.bool)] fun (r45 : Bool) h46 =>
  (ldB (a43.add 3) h46 fun b47 =>
  (.bool b47 : Value) = .bool b44) ∧
  cnd (!(r45 == b44)) (
  J36 true h46) (
  CallT Try.prog disk_Dev_Size_no [.pointer s32.1] h46 [.sc (.int .i64)] fun (r48 : Int) h49 =>
  J36 (r48 != x_0) h49)))))) (fun J33 =>
  ldI .i64 a24 h31 fun n50 =>
  cnd (n50 == 0) (
  ldI .i64 (a24.add 2) h31 fun n51 =>
  ldI .i64 (a24.add 3) h31 fun n52 =>
  CallT Try.prog law5_Sector_no [.int .i64 n51, .int .i64 n52] h31 [.sc (.sl)] fun (r53 : Sl) h54 =>
  ldI .i64 (a24.add 1) h54 fun n55 =>
  ldI .i64 (a24.add 1) h54 fun n56 =>
  b2s r53.a r53.len h54 fun s57 =>
  CallT Try.prog disk_Dev_Write_no [.pointer s8.1, .int .i64 n55, .slice r53.a r53.len r53.cap] h54 [.sc (.int .i64)] fun (r58 : Int) h59 =>
  (b2s r53.a r53.len h59 fun s60 =>
  (.string s60 : Value) = .string s57) ∧
  (ldI .i64 (a24.add 1) h59 fun n61 =>
  (.int .i64 n61 : Value) = .int .i64 n56) ∧
  CallT Try.prog ref5_Dev_Write_no [.pointer s8.2.1, .int .i64 n56, .string s57] h59 [.sc (.int .i64)] fun (r62 : Int) h63 =>
  LoopT (σ := Int) (fun X65 s64 h66 => -- s64: t13
  cnd (decide (s64 < 256)) (
  idx r53.a r53.len s64 fun a67 =>
  stC (a67.add (s64.toNat * 1)) (.int .u8 3) h66 fun h68 =>
  X65 (w64 (s64 + 1)) h68) (
  J33 (s8.1, s8.2.1, (r58 == r62)) h66)) 0 h63) (
  cnd (n50 == 1) (
  ldI .i64 (a24.add 1) h31 fun n69 =>
  CallT Try.prog disk_Dev_Read_no [.pointer s8.1, .int .i64 n69] h31 [.sc (.sl), .sc (.int .i64)] fun (r70 : Sl × Int) h71 =>
  ldI .i64 (a24.add 1) h71 fun n72 =>
  CallT Try.prog ref5_Dev_Read_no [.pointer s8.2.1, .int .i64 n72] h71 [.sc (.str), .sc (.int .i64)] fun (r73 : ByteArray × Int) h74 =>
  withJ (σ := Bool) (fun s75 h77 => -- s75: t11
  LoopT (σ := Int) (fun X79 s78 h80 => -- s78: t18
  cnd (decide (s78 < (r70.1.len : Int))) (
  idx r70.1.a r70.1.len s78 fun a81 =>
  stC (a81.add (s78.toNat * 1)) (.int .u8 4) h80 fun h82 =>
  X79 (w64 (s78 + 1)) h82) (
  J33 (s8.1, s8.2.1, s75) h80)) 0 h77) (fun J76 =>
  b2s r70.1.a r70.1.len h74 fun s83 =>
  cnd (seq s83 r73.1) (
  J76 (r70.2 == r73.2) h74) (
  J76 false h74))) (
  cnd (n50 == 2) (
  CallT Try.prog disk_Dev_Flush_no [.pointer s8.1] h31 [.sc (.int .i64)] fun (r84 : Int) h85 =>
  CallT Try.prog ref5_Dev_Flush_no [.pointer s8.2.1] h85 [.sc (.int .i64)] fun (r86 : Int) h87 =>
  J33 (s8.1, s8.2.1, (r84 == r86)) h87) (
  cnd (n50 == 3) (
  ldL (a24.add 5) h31 fun o88 l88 c88 =>
  CallT Try.prog disk_Dev_Crash_no [.pointer s8.1, .slice o88 l88 c88] h31 [] fun (r89 : Unit) h90 =>
  ldL (a24.add 5) h90 fun o91 l91 c91 =>
  CallT Try.prog ref5_Dev_Crash_no [.pointer s8.2.1, .slice o91 l91 c91] h90 [] fun (r92 : Unit) h93 =>
  J33 (s8.1, s8.2.1, true) h93) (
  cnd (n50 == 4) (
  ldI .i64 (a24.add 2) h31 fun n94 =>
  CallT Try.prog disk_Dev_Fuse_no [.pointer s8.1, .int .i64 n94] h31 [] fun (r95 : Unit) h96 =>
  ldI .i64 (a24.add 2) h96 fun n97 =>
  nn s8.2.1 fun a98 =>
  stC (a98.add 2) (.int .i64 (maxI n97 (-1))) h96 fun h99 =>
  J33 (s8.1, s8.2.1, true) h99) (
  cnd (n50 == 5) (
  CallT Try.prog disk_Dev_Copy_no [.pointer s8.1] h31 [.sc (.ptr)] fun (r100 : (Option Addr)) h101 =>
  CallT Try.prog ref5_Dev_Copy_no [.pointer s8.2.1] h101 [.sc (.ptr)] fun (r102 : (Option Addr)) h103 =>
  J33 (r100, r102, true) h103) (
  cnd (n50 == 6) (
  ldI .i64 (a24.add 4) h31 fun n104 =>
  mkSl [.int .u8 0] 5 1 ((maxI 0 n104).tmod 600) ((maxI 0 n104).tmod 600) h31 fun a105 h106 =>
  ldI .i64 (a24.add 1) h106 fun n107 =>
  ldI .i64 (a24.add 1) h106 fun n108 =>
  b2s (some a105) (((maxI 0 n104).tmod 600).toNat) h106 fun s109 =>
  CallT Try.prog disk_Dev_Write_no [.pointer s8.1, .int .i64 n107, .slice (some a105) (((maxI 0 n104).tmod 600).toNat) (((maxI 0 n104).tmod 600).toNat)] h106 [.sc (.int .i64)] fun (r110 : Int) h111 =>
  (b2s (some a105) (((maxI 0 n104).tmod 600).toNat) h111 fun s112 =>
  (.string s112 : Value) = .string s109) ∧
  (ldI .i64 (a24.add 1) h111 fun n113 =>
  (.int .i64 n113 : Value) = .int .i64 n108) ∧
  CallT Try.prog ref5_Dev_Write_no [.pointer s8.2.1, .int .i64 n108, .string s109] h111 [.sc (.int .i64)] fun (r114 : Int) h115 =>
  J33 (s8.1, s8.2.1, (r110 == r114)) h115) (
  J33 (s8.1, s8.2.1, true) h31)))))))))) (fun J12 =>
  cnd (decide (s8.2.2 < (x_1.len : Int))) (
  cnd (decide (s8.2.2 < 80)) (
  cnd (!s8.1.isNone) (
  J12 (s8.2.2, (decide (s8.2.2 < 80)), s8.1, (!s8.1.isNone)) h10) (
  R true h10)) (
  R true h10)) (
  R true h10))) (r1.1, r3.1, 0) h7) (fun J6 =>
  withJ (σ := Bool) (fun s116 h118 => -- s116: t43
  cnd s116 (
  R false h118) (
  J6 () h118)) (fun J117 =>
  cnd (r1.2 != r3.2) (
  J117 true h4) (
  cnd (!(r1.1.isNone == (r3.2 != 0))) (
  J117 true h4) (
  CallT Try.prog law5_awake_no [] h4 [.sc (.bool)] fun (r119 : Bool) h120 =>
  J117 (!r119) h120))))
theorem law5_DiskPlays_eq (x_0 : Int) (x_1 : Sl) (R : Bool → Heap → Prop) (h : Heap) : fnX Try.prog Fns.fns Try.f8 (.s .n (.s .n (.s .n (.j [] (.j [(43, .bool)] .n (.s (.s .n .n) .n)) (.s (.s .n (.b (.l [(5, .ptr), (7, .ptr), (9, .int .i64)] (.j [(49, .int .i64), (50, .bool), (53, .ptr), (54, .bool)] (.s .n (.s .n .n)) (.j [(5, .ptr), (7, .ptr)] (.b (.s .n (.s .n (.j [(5, .ptr), (7, .ptr), (11, .bool)] (.s .n (.b (.s .n (.s (.s .n (.s .n (.s .n (.b (.l [(13, .int .i64)] (.s (.s .n (.s .n .n)) (.s (.b .n) .n))))))) (.s .n (.s (.s .n (.s .n (.j [(11, .bool)] .n (.s .n (.b (.l [(18, .int .i64)] (.s (.s .n (.s .n .n)) (.s (.b .n) .n)))))))) (.s .n (.s .n (.s .n (.s (.s .n .n) (.s .n (.s (.s .n .n) (.s .n (.s (.s .n .n) (.s .n (.s (.s .n .n) .n)))))))))))))))) (.j [(208, .bool)] .n (.s (.s .n .n) .n)))))) .n))))) (.s .n .n)))))) [.sc (.bool)] [.int .i64 x_0, .slice x_1.a x_1.len x_1.cap] h R = law5_DiskPlays x_0 x_1 R h := by kernel_rfl
theorem law5_DiskPlays_call (x_0 : Int) (x_1 : Sl) {R : Bool → Heap → Prop} {h : Heap} (hx : law5_DiskPlays x_0 x_1 R h) : CallT Try.prog 8 [.int .i64 x_0, .slice x_1.a x_1.len x_1.cap] h [.sc (.bool)] R :=
  call_of_fnX fnsOk mixed Try.func8 (by kernel_rfl) (by rw [law5_DiskPlays_eq]; exact hx)

/-- stowage/stowagelaw5.DiskApart (9) -/
def law5_DiskApart (x_0 : Sl) (x_1 : Sl) (R : Bool → Heap → Prop) (h : Heap) : Prop :=
  CallT Try.prog disk_New_no [.int .i64 8] h [.sc (.ptr), .sc (.int .i64)] fun (r1 : (Option Addr) × Int) h2 =>
  withJ (σ := Unit) (fun s3 h5 => -- s3: 
  LoopT (σ := Int) (fun X7 s6 h8 => -- s6: t7
  withJ (σ := Int × Bool) (fun s9 h11 => -- s9: t31, t32
  idx x_0.a x_0.len s6 fun a12 =>
  ldI .i64 (a12.add (s6.toNat * 1)) h11 fun n13 =>
  CallT Try.prog law5_Sector_no [.int .i64 1, .int .i64 s6] h11 [.sc (.sl)] fun (r14 : Sl) h15 =>
  (ldI .i64 (a12.add (s6.toNat * 1)) h15 fun n16 =>
  (.int .i64 n16 : Value) = .int .i64 n13) ∧
  CallT Try.prog disk_Dev_Write_no [.pointer r1.1, .int .i64 (andI .i64 n13 7), .slice r14.a r14.len r14.cap] h15 [.sc (.int .i64)] fun (r17 : Int) h18 =>
  X7 (w64 (s6 + 1)) h18) (fun J10 =>
  cnd (decide (s6 < (x_0.len : Int))) (
  cnd (decide (s6 < 30)) (
  J10 (s6, (decide (s6 < 30))) h8) (
  CallT Try.prog disk_Dev_Copy_no [.pointer r1.1] h8 [.sc (.ptr)] fun (r19 : (Option Addr)) h20 =>
  CallT Try.prog disk_Dev_Copy_no [.pointer r1.1] h20 [.sc (.ptr)] fun (r21 : (Option Addr)) h22 =>
  withJ (σ := Unit) (fun s23 h25 => -- s23: 
  LoopT (σ := Int) (fun X27 s26 h28 => -- s26: t10
  withJ (σ := Int × Bool) (fun s29 h31 => -- s29: t60, t61
  idx x_1.a x_1.len s26 fun a32 =>
  ldI .i64 (a32.add (s26.toNat * 1)) h31 fun n33 =>
  CallT Try.prog law5_Sector_no [.int .i64 3, .int .i64 s26] h31 [.sc (.sl)] fun (r34 : Sl) h35 =>
  (ldI .i64 (a32.add (s26.toNat * 1)) h35 fun n36 =>
  (.int .i64 n36 : Value) = .int .i64 n33) ∧
  CallT Try.prog disk_Dev_Write_no [.pointer r19, .int .i64 (andI .i64 n33 7), .slice r34.a r34.len r34.cap] h35 [.sc (.int .i64)] fun (r37 : Int) h38 =>
  X27 (w64 (s26 + 1)) h38) (fun J30 =>
  cnd (decide (s26 < (x_1.len : Int))) (
  cnd (decide (s26 < 30)) (
  J30 (s26, (decide (s26 < 30))) h28) (
  CallT Try.prog disk_Dev_Fuse_no [.pointer r19, .int .i64 0] h28 [] fun (r39 : Unit) h40 =>
  CallT Try.prog disk_Dev_Flush_no [.pointer r19] h40 [.sc (.int .i64)] fun (r41 : Int) h42 =>
  LoopT (σ := Int) (fun X44 s43 h45 => -- s43: t11
  cnd (decide (s43 < 8)) (
  withJ (σ := Unit) (fun s46 h48 => -- s46: 
  X44 (w64 (s43 + 1)) h48) (fun J47 =>
  CallT Try.prog disk_Dev_Read_no [.pointer r1.1, .int .i64 s43] h45 [.sc (.sl), .sc (.int .i64)] fun (r49 : Sl × Int) h50 =>
  CallT Try.prog disk_Dev_Read_no [.pointer r21, .int .i64 s43] h50 [.sc (.sl), .sc (.int .i64)] fun (r51 : Sl × Int) h52 =>
  withJ (σ := Bool) (fun s53 h55 => -- s53: t106
  cnd s53 (
  R false h55) (
  J47 () h55)) (fun J54 =>
  cnd (r49.2 != 0) (
  J54 true h52) (
  cnd (r51.2 != 0) (
  J54 true h52) (
  b2s r49.1.a r49.1.len h52 fun s56 =>
  b2s r51.1.a r51.1.len h52 fun s57 =>
  J54 (!seq s56 s57) h52))))) (
  withJ (σ := Bool) (fun s58 h60 => -- s58: t4
  R s58 h60) (fun J59 =>
  CallT Try.prog disk_Dev_Dead_no [.pointer r19] h45 [.sc (.bool)] fun (r61 : Bool) h62 =>
  cnd r61 (
  CallT Try.prog disk_Dev_Dead_no [.pointer r1.1] h62 [.sc (.bool)] fun (r63 : Bool) h64 =>
  cnd (!r63) (
  CallT Try.prog disk_Dev_Pending_no [.pointer r1.1] h64 [.sc (.int .i64)] fun (r65 : Int) h66 =>
  CallT Try.prog disk_Dev_Pending_no [.pointer r21] h66 [.sc (.int .i64)] fun (r67 : Int) h68 =>
  cnd (r65 == r67) (
  CallT Try.prog law5_awake_no [] h68 [.sc (.bool)] fun (r69 : Bool) h70 =>
  J59 r69 h70) (
  J59 false h68)) (
  J59 false h64)) (
  J59 false h62)))) 0 h42)) (
  CallT Try.prog disk_Dev_Fuse_no [.pointer r19, .int .i64 0] h28 [] fun (r71 : Unit) h72 =>
  CallT Try.prog disk_Dev_Flush_no [.pointer r19] h72 [.sc (.int .i64)] fun (r73 : Int) h74 =>
  LoopT (σ := Int) (fun X76 s75 h77 => -- s75: t11
  cnd (decide (s75 < 8)) (
  withJ (σ := Unit) (fun s78 h80 => -- s78: 
  X76 (w64 (s75 + 1)) h80) (fun J79 =>
  CallT Try.prog disk_Dev_Read_no [.pointer r1.1, .int .i64 s75] h77 [.sc (.sl), .sc (.int .i64)] fun (r81 : Sl × Int) h82 =>
  CallT Try.prog disk_Dev_Read_no [.pointer r21, .int .i64 s75] h82 [.sc (.sl), .sc (.int .i64)] fun (r83 : Sl × Int) h84 =>
  withJ (σ := Bool) (fun s85 h87 => -- s85: t106
  cnd s85 (
  R false h87) (
  J79 () h87)) (fun J86 =>
  cnd (r81.2 != 0) (
  J86 true h84) (
  cnd (r83.2 != 0) (
  J86 true h84) (
  b2s r81.1.a r81.1.len h84 fun s88 =>
  b2s r83.1.a r83.1.len h84 fun s89 =>
  J86 (!seq s88 s89) h84))))) (
  withJ (σ := Bool) (fun s90 h92 => -- s90: t4
  R s90 h92) (fun J91 =>
  CallT Try.prog disk_Dev_Dead_no [.pointer r19] h77 [.sc (.bool)] fun (r93 : Bool) h94 =>
  cnd r93 (
  CallT Try.prog disk_Dev_Dead_no [.pointer r1.1] h94 [.sc (.bool)] fun (r95 : Bool) h96 =>
  cnd (!r95) (
  CallT Try.prog disk_Dev_Pending_no [.pointer r1.1] h96 [.sc (.int .i64)] fun (r97 : Int) h98 =>
  CallT Try.prog disk_Dev_Pending_no [.pointer r21] h98 [.sc (.int .i64)] fun (r99 : Int) h100 =>
  cnd (r97 == r99) (
  CallT Try.prog law5_awake_no [] h100 [.sc (.bool)] fun (r101 : Bool) h102 =>
  J91 r101 h102) (
  J91 false h100)) (
  J91 false h96)) (
  J91 false h94)))) 0 h74))) 0 h25) (fun J24 =>
  withJ (σ := Bool) (fun s103 h105 => -- s103: t54
  cnd s103 (
  R false h105) (
  J24 () h105)) (fun J104 =>
  cnd r19.isNone (
  J104 true h22) (
  J104 r21.isNone h22))))) (
  CallT Try.prog disk_Dev_Copy_no [.pointer r1.1] h8 [.sc (.ptr)] fun (r106 : (Option Addr)) h107 =>
  CallT Try.prog disk_Dev_Copy_no [.pointer r1.1] h107 [.sc (.ptr)] fun (r108 : (Option Addr)) h109 =>
  withJ (σ := Unit) (fun s110 h112 => -- s110: 
  LoopT (σ := Int) (fun X114 s113 h115 => -- s113: t10
  withJ (σ := Int × Bool) (fun s116 h118 => -- s116: t60, t61
  idx x_1.a x_1.len s113 fun a119 =>
  ldI .i64 (a119.add (s113.toNat * 1)) h118 fun n120 =>
  CallT Try.prog law5_Sector_no [.int .i64 3, .int .i64 s113] h118 [.sc (.sl)] fun (r121 : Sl) h122 =>
  (ldI .i64 (a119.add (s113.toNat * 1)) h122 fun n123 =>
  (.int .i64 n123 : Value) = .int .i64 n120) ∧
  CallT Try.prog disk_Dev_Write_no [.pointer r106, .int .i64 (andI .i64 n120 7), .slice r121.a r121.len r121.cap] h122 [.sc (.int .i64)] fun (r124 : Int) h125 =>
  X114 (w64 (s113 + 1)) h125) (fun J117 =>
  cnd (decide (s113 < (x_1.len : Int))) (
  cnd (decide (s113 < 30)) (
  J117 (s113, (decide (s113 < 30))) h115) (
  CallT Try.prog disk_Dev_Fuse_no [.pointer r106, .int .i64 0] h115 [] fun (r126 : Unit) h127 =>
  CallT Try.prog disk_Dev_Flush_no [.pointer r106] h127 [.sc (.int .i64)] fun (r128 : Int) h129 =>
  LoopT (σ := Int) (fun X131 s130 h132 => -- s130: t11
  cnd (decide (s130 < 8)) (
  withJ (σ := Unit) (fun s133 h135 => -- s133: 
  X131 (w64 (s130 + 1)) h135) (fun J134 =>
  CallT Try.prog disk_Dev_Read_no [.pointer r1.1, .int .i64 s130] h132 [.sc (.sl), .sc (.int .i64)] fun (r136 : Sl × Int) h137 =>
  CallT Try.prog disk_Dev_Read_no [.pointer r108, .int .i64 s130] h137 [.sc (.sl), .sc (.int .i64)] fun (r138 : Sl × Int) h139 =>
  withJ (σ := Bool) (fun s140 h142 => -- s140: t106
  cnd s140 (
  R false h142) (
  J134 () h142)) (fun J141 =>
  cnd (r136.2 != 0) (
  J141 true h139) (
  cnd (r138.2 != 0) (
  J141 true h139) (
  b2s r136.1.a r136.1.len h139 fun s143 =>
  b2s r138.1.a r138.1.len h139 fun s144 =>
  J141 (!seq s143 s144) h139))))) (
  withJ (σ := Bool) (fun s145 h147 => -- s145: t4
  R s145 h147) (fun J146 =>
  CallT Try.prog disk_Dev_Dead_no [.pointer r106] h132 [.sc (.bool)] fun (r148 : Bool) h149 =>
  cnd r148 (
  CallT Try.prog disk_Dev_Dead_no [.pointer r1.1] h149 [.sc (.bool)] fun (r150 : Bool) h151 =>
  cnd (!r150) (
  CallT Try.prog disk_Dev_Pending_no [.pointer r1.1] h151 [.sc (.int .i64)] fun (r152 : Int) h153 =>
  CallT Try.prog disk_Dev_Pending_no [.pointer r108] h153 [.sc (.int .i64)] fun (r154 : Int) h155 =>
  cnd (r152 == r154) (
  CallT Try.prog law5_awake_no [] h155 [.sc (.bool)] fun (r156 : Bool) h157 =>
  J146 r156 h157) (
  J146 false h155)) (
  J146 false h151)) (
  J146 false h149)))) 0 h129)) (
  CallT Try.prog disk_Dev_Fuse_no [.pointer r106, .int .i64 0] h115 [] fun (r158 : Unit) h159 =>
  CallT Try.prog disk_Dev_Flush_no [.pointer r106] h159 [.sc (.int .i64)] fun (r160 : Int) h161 =>
  LoopT (σ := Int) (fun X163 s162 h164 => -- s162: t11
  cnd (decide (s162 < 8)) (
  withJ (σ := Unit) (fun s165 h167 => -- s165: 
  X163 (w64 (s162 + 1)) h167) (fun J166 =>
  CallT Try.prog disk_Dev_Read_no [.pointer r1.1, .int .i64 s162] h164 [.sc (.sl), .sc (.int .i64)] fun (r168 : Sl × Int) h169 =>
  CallT Try.prog disk_Dev_Read_no [.pointer r108, .int .i64 s162] h169 [.sc (.sl), .sc (.int .i64)] fun (r170 : Sl × Int) h171 =>
  withJ (σ := Bool) (fun s172 h174 => -- s172: t106
  cnd s172 (
  R false h174) (
  J166 () h174)) (fun J173 =>
  cnd (r168.2 != 0) (
  J173 true h171) (
  cnd (r170.2 != 0) (
  J173 true h171) (
  b2s r168.1.a r168.1.len h171 fun s175 =>
  b2s r170.1.a r170.1.len h171 fun s176 =>
  J173 (!seq s175 s176) h171))))) (
  withJ (σ := Bool) (fun s177 h179 => -- s177: t4
  R s177 h179) (fun J178 =>
  CallT Try.prog disk_Dev_Dead_no [.pointer r106] h164 [.sc (.bool)] fun (r180 : Bool) h181 =>
  cnd r180 (
  CallT Try.prog disk_Dev_Dead_no [.pointer r1.1] h181 [.sc (.bool)] fun (r182 : Bool) h183 =>
  cnd (!r182) (
  CallT Try.prog disk_Dev_Pending_no [.pointer r1.1] h183 [.sc (.int .i64)] fun (r184 : Int) h185 =>
  CallT Try.prog disk_Dev_Pending_no [.pointer r108] h185 [.sc (.int .i64)] fun (r186 : Int) h187 =>
  cnd (r184 == r186) (
  CallT Try.prog law5_awake_no [] h187 [.sc (.bool)] fun (r188 : Bool) h189 =>
  J178 r188 h189) (
  J178 false h187)) (
  J178 false h183)) (
  J178 false h181)))) 0 h161))) 0 h112) (fun J111 =>
  withJ (σ := Bool) (fun s190 h192 => -- s190: t54
  cnd s190 (
  R false h192) (
  J111 () h192)) (fun J191 =>
  cnd r106.isNone (
  J191 true h109) (
  J191 r108.isNone h109)))))) 0 h5) (fun J4 =>
  withJ (σ := Bool) (fun s193 h195 => -- s193: t25
  cnd s193 (
  R false h195) (
  J4 () h195)) (fun J194 =>
  cnd r1.1.isNone (
  J194 true h2) (
  J194 (r1.2 != 0) h2)))
theorem law5_DiskApart_eq (x_0 : Sl) (x_1 : Sl) (R : Bool → Heap → Prop) (h : Heap) : fnX Try.prog Fns.fns Try.f9 (.s .n (.s .n (.j [] (.j [(25, .bool)] .n (.s (.s .n .n) .n)) (.s (.s .n (.b (.l [(7, .int .i64)] (.j [(31, .int .i64), (32, .bool)] (.s .n (.s .n .n)) (.s (.b .n) .n))))) (.s .n (.s .n (.j [] (.j [(54, .bool)] .n (.s (.s .n .n) .n)) (.s (.s .n (.b (.l [(10, .int .i64)] (.j [(60, .int .i64), (61, .bool)] (.s .n (.s .n .n)) (.s (.b .n) .n))))) (.s .n (.s .n (.s (.s .n (.b (.l [(11, .int .i64)] (.s (.s .n (.s .n .n)) (.j [] (.b (.s .n (.s .n (.j [(106, .bool)] .n (.s (.s .n .n) .n))))) .n))))) (.j [(4, .bool)] .n .n)))))))))))) [.sc (.bool)] [.slice x_0.a x_0.len x_0.cap, .slice x_1.a x_1.len x_1.cap] h R = law5_DiskApart x_0 x_1 R h := by kernel_rfl
theorem law5_DiskApart_call (x_0 : Sl) (x_1 : Sl) {R : Bool → Heap → Prop} {h : Heap} (hx : law5_DiskApart x_0 x_1 R h) : CallT Try.prog 9 [.slice x_0.a x_0.len x_0.cap, .slice x_1.a x_1.len x_1.cap] h [.sc (.bool)] R :=
  call_of_fnX fnsOk mixed Try.func9 (by kernel_rfl) (by rw [law5_DiskApart_eq]; exact hx)

/-- stowage/stowagelaw5.Sector (19) -/
def law5_Sector (a_0 : Int) (b_1 : Int) (R : Sl → Heap → Prop) (h : Heap) : Prop :=
  mkSl [.int .u8 0] 5 1 256 256 h fun a1 h2 =>
  LoopT (σ := Int) (fun X4 s3 h5 => -- s3: i
  cnd (decide (s3 < 256)) (
  idx (some a1) ((256 : Int).toNat) s3 fun a6 =>
  stC (a6.add (s3.toNat * 1)) (.int .u8 (IntKind.u8.wrap ((w64 ((w64 (a_0 * s3)) + b_1))))) h5 fun h7 =>
  X4 (w64 (s3 + 1)) h7) (
  R (⟨(some a1), (256 : Int).toNat, (256 : Int).toNat⟩ : Sl) h5)) 0 h2
theorem law5_Sector_eq (a_0 : Int) (b_1 : Int) (R : Sl → Heap → Prop) (h : Heap) : fnX Try.prog Fns.fns Try.f19 (.s .n (.s .n (.s (.s .n (.b (.l [(6, .int .i64)] (.s (.s .n (.s .n .n)) (.s (.b .n) .n))))) (.s .n .n)))) [.sc (.sl)] [.int .i64 a_0, .int .i64 b_1] h R = law5_Sector a_0 b_1 R h := by kernel_rfl
theorem law5_Sector_call (a_0 : Int) (b_1 : Int) {R : Sl → Heap → Prop} {h : Heap} (hx : law5_Sector a_0 b_1 R h) : CallT Try.prog 19 [.int .i64 a_0, .int .i64 b_1] h [.sc (.sl)] R :=
  call_of_fnX fnsOk mixed Try.func19 (by kernel_rfl) (by rw [law5_Sector_eq]; exact hx)

/-- stowage/stowagelaw5.awake (24) -/
def law5_awake (R : Bool → Heap → Prop) (h : Heap) : Prop :=
  CallT Try.prog disk_New_no [.int .i64 4] h [.sc (.ptr), .sc (.int .i64)] fun (r1 : (Option Addr) × Int) h2 =>
  withJ (σ := Unit) (fun s3 h5 => -- s3: 
  mkSl [.int .u8 0] 5 1 256 256 h5 fun a6 h7 =>
  idx (some a6) ((256 : Int).toNat) 0 fun a8 =>
  stC (a8.add ((0 : Int).toNat * 1)) (.int .u8 7) h7 fun h9 =>
  CallT Try.prog disk_Dev_Write_no [.pointer r1.1, .int .i64 1, .slice (some a6) ((256 : Int).toNat) ((256 : Int).toNat)] h9 [.sc (.int .i64)] fun (r10 : Int) h11 =>
  CallT Try.prog disk_Dev_Pending_no [.pointer r1.1] h11 [.sc (.int .i64)] fun (r12 : Int) h13 =>
  CallT Try.prog disk_Dev_Crash_no [.pointer r1.1, .slice none 0 0] h13 [] fun (r14 : Unit) h15 =>
  CallT Try.prog disk_Dev_Read_no [.pointer r1.1, .int .i64 1] h15 [.sc (.sl), .sc (.int .i64)] fun (r16 : Sl × Int) h17 =>
  withJ (σ := Bool) (fun s18 h20 => -- s18: t0
  R s18 h20) (fun J19 =>
  cnd (r10 == 0) (
  cnd (r16.2 == 0) (
  cnd (r12 == 1) (
  cnd ((r16.1.len : Int) == 256) (
  idx r16.1.a r16.1.len 0 fun a21 =>
  ldI .u8 (a21.add ((0 : Int).toNat * 1)) h17 fun n22 =>
  cnd (n22 == 0) (
  CallT Try.prog disk_Dev_Size_no [.pointer r1.1] h17 [.sc (.int .i64)] fun (r23 : Int) h24 =>
  J19 (r23 == 4) h24) (
  J19 false h17)) (
  J19 false h17)) (
  J19 false h17)) (
  J19 false h17)) (
  J19 false h17))) (fun J4 =>
  withJ (σ := Bool) (fun s25 h27 => -- s25: t17
  cnd s25 (
  R false h27) (
  J4 () h27)) (fun J26 =>
  cnd r1.1.isNone (
  J26 true h2) (
  J26 (r1.2 != 0) h2)))
theorem law5_awake_eq (R : Bool → Heap → Prop) (h : Heap) : fnX Try.prog Fns.fns Try.f24 (.s .n (.s .n (.j [] (.j [(17, .bool)] .n (.s (.s .n .n) .n)) (.s .n (.s .n (.s .n (.s .n (.s .n (.s .n (.j [(0, .bool)] .n .n)))))))))) [.sc (.bool)] [] h R = law5_awake R h := by kernel_rfl
theorem law5_awake_call {R : Bool → Heap → Prop} {h : Heap} (hx : law5_awake R h) : CallT Try.prog 24 [] h [.sc (.bool)] R :=
  call_of_fnX fnsOk mixed Try.func24 (by kernel_rfl) (by rw [law5_awake_eq]; exact hx)

/-- stowage/stowagelaw10.runs (35) -/
def law10_runs (a_0 : Sl) (b_1 : Sl) (R : Bool → Heap → Prop) (h : Heap) : Prop :=
  cnd ((a_0.len : Int) != (b_1.len : Int)) (
  R false h) (
  LoopT (σ := Int) (fun X2 s1 h3 => -- s1: i
  cnd (decide (s1 < (a_0.len : Int))) (
  withJ (σ := Unit) (fun s4 h6 => -- s4: 
  X2 (w64 (s1 + 1)) h6) (fun J5 =>
  withJ (σ := Bool) (fun s7 h9 => -- s7: t40
  cnd s7 (
  R false h9) (
  J5 () h9)) (fun J8 =>
  idx a_0.a a_0.len s1 fun a10 =>
  inB 2 0 <|
  ldI .i64 ((a10.add (s1.toNat * 2)).add ((0 : Int).toNat * 1)) h3 fun n11 =>
  idx b_1.a b_1.len s1 fun a12 =>
  ldI .i64 (a12.add (s1.toNat * 2)) h3 fun n13 =>
  cnd (n11 != n13) (
  J8 true h3) (
  idx a_0.a a_0.len s1 fun a14 =>
  inB 2 1 <|
  ldI .i64 ((a14.add (s1.toNat * 2)).add ((1 : Int).toNat * 1)) h3 fun n15 =>
  idx b_1.a b_1.len s1 fun a16 =>
  ldI .i64 ((a16.add (s1.toNat * 2)).add 1) h3 fun n17 =>
  J8 (n15 != n17) h3)))) (
  R true h3)) 0 h)
theorem law10_runs_eq (a_0 : Sl) (b_1 : Sl) (R : Bool → Heap → Prop) (h : Heap) : fnX Try.prog Fns.fns Try.f35 (.s .n (.s (.s .n (.s (.s .n .n) .n)) (.s (.s .n (.b (.l [(5, .int .i64)] (.s (.s .n (.s .n .n)) (.j [] (.b (.j [(40, .bool)] .n (.s (.s .n .n) .n))) .n))))) (.s .n .n)))) [.sc (.bool)] [.slice a_0.a a_0.len a_0.cap, .slice b_1.a b_1.len b_1.cap] h R = law10_runs a_0 b_1 R h := by kernel_rfl
theorem law10_runs_call (a_0 : Sl) (b_1 : Sl) {R : Bool → Heap → Prop} {h : Heap} (hx : law10_runs a_0 b_1 R h) : CallT Try.prog 35 [.slice a_0.a a_0.len a_0.cap, .slice b_1.a b_1.len b_1.cap] h [.sc (.bool)] R :=
  call_of_fnX fnsOk mixed Try.func35 (by kernel_rfl) (by rw [law10_runs_eq]; exact hx)

end Go.Proofs.Ytmmoilenemogoaa
