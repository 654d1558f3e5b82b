/- Go functions as short texts over the heap, and that each is what the loaded function comes to (the kernel compares them); written by a program. -/
import Derived.Test.YtmkobpkdodgboaaGBase
set_option linter.unusedVariables false
set_option maxRecDepth 100000
namespace Go.Proofs.Ytmkobpkdodgboaa
open Go D
/-- stowage/stowagelaw6.awake (32) -/
def law6_awake (R : Bool → Heap → Prop) (h : Heap) : Prop :=
  CallT Try.prog disk_New_no [.int .i64 8] h [.sc (.ptr), .sc (.int .i64)] fun (r1 : (Option Addr) × Int) h2 =>
  CallT Try.prog wal_Open_no [.pointer r1.1, .int .i64 2, .int .i64 4, .int .u64 0] h2 [.sc (.ptr), .sc (.sl), .sc (.int .i64)] fun (r3 : (Option Addr) × Sl × Int) h4 =>
  withJ (σ := Unit) (fun s5 h7 => -- s5: 
  newB [.string (⟨#[97]⟩ : ByteArray)] 9 h7 fun a8 h9 =>
  CallT Try.prog wal_Log_Append_no [.pointer r3.1, .slice (some a8) 1 1] h9 [.sc (.int .i64)] fun (r10 : Int) h11 =>
  withJ (σ := Bool) (fun s12 h14 => -- s12: t0
  R s12 h14) (fun J13 =>
  cnd ((r3.2.1.len : Int) == 0) (
  cnd (r10 == 0) (
  CallT Try.prog wal_Log_Next_no [.pointer r3.1] h11 [.sc (.int .u64)] fun (r15 : Int) h16 =>
  cnd (r15 == 1) (
  CallT Try.prog wal_Log_Room_no [.pointer r3.1] h16 [.sc (.int .i64)] fun (r17 : Int) h18 =>
  cnd (r17 == 3) (
  newB [.string (⟨#[97]⟩ : ByteArray)] 9 h18 fun a19 h20 =>
  CallT Try.prog wal_Need_no [.slice (some a19) 1 1] h20 [.sc (.int .i64)] fun (r21 : Int) h22 =>
  J13 (r21 == 1) h22) (
  J13 false h18)) (
  J13 false h16)) (
  J13 false h11)) (
  J13 false h11))) (fun J6 =>
  withJ (σ := Bool) (fun s23 h25 => -- s23: t22
  cnd s23 (
  R false h25) (
  J6 () h25)) (fun J24 =>
  cnd r3.1.isNone (
  J24 true h4) (
  J24 (r3.2.2 != 0) h4)))
theorem law6_awake_eq (R : Bool → Heap → Prop) (h : Heap) : fnX Try.prog Fns.fns Try.f32 (.s .n (.s .n (.s .n (.j [] (.j [(22, .bool)] .n (.s (.s .n .n) .n)) (.s .n (.j [(0, .bool)] .n .n)))))) [.sc (.bool)] [] h R = law6_awake R h := by kernel_rfl
theorem law6_awake_call {R : Bool → Heap → Prop} {h : Heap} (hx : law6_awake R h) : CallT Try.prog 32 [] h [.sc (.bool)] R :=
  call_of_fnX fnsOk mixed Try.func32 (by kernel_rfl) (by rw [law6_awake_eq]; exact hx)

/-- stowage/stowagelaw6.frames (37) -/
def law6_frames (a_0 : Sl) (b_1 : Sl) (R : Bool → Heap → Prop) (h : Heap) : Prop :=
  cnd ((a_0.len : Int) != (b_1.len : Int)) (
  R false h) (
  LoopT (σ := Int) (fun X2 s1 h3 => -- s1: i
  cnd (decide (s1 < (a_0.len : Int))) (
  idx a_0.a a_0.len s1 fun a4 =>
  ldL (a4.add (s1.toNat * 1)) h3 fun o5 l5 c5 =>
  idx b_1.a b_1.len s1 fun a6 =>
  ldL (a6.add (s1.toNat * 1)) h3 fun o7 l7 c7 =>
  CallT Try.prog ref1_SameTexts_no [.slice o5 l5 c5, .slice o7 l7 c7] h3 [.sc (.bool)] fun (r8 : Bool) h9 =>
  cnd (!r8) (
  R false h9) (
  X2 (w64 (s1 + 1)) h9)) (
  R true h3)) 0 h)
theorem law6_frames_eq (a_0 : Sl) (b_1 : Sl) (R : Bool → Heap → Prop) (h : Heap) : fnX Try.prog Fns.fns Try.f37 (.s .n (.s (.s .n (.s (.s .n .n) .n)) (.s (.s .n (.b (.l [(5, .int .i64)] (.s (.s .n (.s .n .n)) (.s (.b (.s .n (.s (.s .n .n) .n))) .n))))) (.s .n .n)))) [.sc (.bool)] [.slice a_0.a a_0.len a_0.cap, .slice b_1.a b_1.len b_1.cap] h R = law6_frames a_0 b_1 R h := by kernel_rfl
theorem law6_frames_call (a_0 : Sl) (b_1 : Sl) {R : Bool → Heap → Prop} {h : Heap} (hx : law6_frames a_0 b_1 R h) : CallT Try.prog 37 [.slice a_0.a a_0.len a_0.cap, .slice b_1.a b_1.len b_1.cap] h [.sc (.bool)] R :=
  call_of_fnX fnsOk mixed Try.func37 (by kernel_rfl) (by rw [law6_frames_eq]; exact hx)

/-- stowage/stowagelaw6.WalCounts (7) -/
def law6_WalCounts (x_0 : Sl) (R : Bool → Heap → Prop) (h : Heap) : Prop :=
  CallT Try.prog disk_New_no [.int .i64 60] h [.sc (.ptr), .sc (.int .i64)] fun (r1 : (Option Addr) × Int) h2 =>
  CallT Try.prog wal_Open_no [.pointer r1.1, .int .i64 1, .int .i64 50, .int .u64 7] h2 [.sc (.ptr), .sc (.sl), .sc (.int .i64)] fun (r3 : (Option Addr) × Sl × Int) h4 =>
  withJ (σ := Unit) (fun s5 h7 => -- s5: 
  LoopT (σ := Sl × Int) (fun X9 s8 h10 => -- s8: t8, t9
  cnd (decide (s8.2 < (x_0.len : Int))) (
  withJ (σ := Sl) (fun s11 h13 => -- s11: t8
  X9 (s11, (w64 (s8.2 + 1))) h13) (fun J12 =>
  idx x_0.a x_0.len s8.2 fun a14 =>
  ldL (a14.add (s8.2.toNat * 1)) h10 fun o15 l15 c15 =>
  CallT Try.prog wal_Log_Room_no [.pointer r3.1] h10 [.sc (.int .i64)] fun (r16 : Int) h17 =>
  (ldL (a14.add (s8.2.toNat * 1)) h17 fun o18 l18 c18 =>
  (.slice o18 l18 c18 : Value) = .slice o15 l15 c15) ∧
  CallT Try.prog wal_Log_Next_no [.pointer r3.1] h17 [.sc (.int .u64)] fun (r19 : Int) h20 =>
  (ldL (a14.add (s8.2.toNat * 1)) h20 fun o21 l21 c21 =>
  (.slice o21 l21 c21 : Value) = .slice o15 l15 c15) ∧
  CallT Try.prog wal_Need_no [.slice o15 l15 c15] h20 [.sc (.int .i64)] fun (r22 : Int) h23 =>
  idx x_0.a x_0.len s8.2 fun a24 =>
  ldL (a24.add (s8.2.toNat * 1)) h23 fun o25 l25 c25 =>
  CallT Try.prog wal_Log_Append_no [.pointer r3.1, .slice o25 l25 c25] h23 [.sc (.int .i64)] fun (r26 : Int) h27 =>
  withJ (σ := Sl) (fun s28 h30 => -- s28: t8
  withJ (σ := Unit) (fun s31 h33 => -- s31: 
  CallT Try.prog wal_Open_no [.pointer r1.1, .int .i64 1, .int .i64 50, .int .u64 7] h33 [.sc (.ptr), .sc (.sl), .sc (.int .i64)] fun (r34 : (Option Addr) × Sl × Int) h35 =>
  withJ (σ := Bool) (fun s36 h38 => -- s36: t161
  cnd s36 (
  R false h38) (
  J12 s28 h38)) (fun J37 =>
  cnd r34.1.isNone (
  J37 true h35) (
  cnd (r34.2.2 != 0) (
  J37 true h35) (
  CallT Try.prog law6_frames_no [.slice r34.2.1.a r34.2.1.len r34.2.1.cap, .slice s28.a s28.len s28.cap] h35 [.sc (.bool)] fun (r39 : Bool) h40 =>
  cnd (!r39) (
  J37 true h40) (
  CallT Try.prog wal_Log_Room_no [.pointer r34.1] h40 [.sc (.int .i64)] fun (r41 : Int) h42 =>
  CallT Try.prog wal_Log_Room_no [.pointer r3.1] h42 [.sc (.int .i64)] fun (r43 : Int) h44 =>
  cnd (r41 != r43) (
  J37 true h44) (
  CallT Try.prog wal_Log_Next_no [.pointer r34.1] h44 [.sc (.int .u64)] fun (r45 : Int) h46 =>
  CallT Try.prog wal_Log_Next_no [.pointer r3.1] h46 [.sc (.int .u64)] fun (r47 : Int) h48 =>
  cnd (r45 != r47) (
  J37 true h48) (
  CallT Try.prog disk_Dev_Pending_no [.pointer r1.1] h48 [.sc (.int .i64)] fun (r49 : Int) h50 =>
  J37 (r49 != 0) h50))))))) (fun J32 =>
  withJ (σ := Bool) (fun s51 h53 => -- s51: t124
  cnd s51 (
  R false h53) (
  J32 () h53)) (fun J52 =>
  cnd (!((r26 == 0) == (decide (r22 ≤ r16)))) (
  J52 true h30) (
  cnd (r26 == 0) (
  CallT Try.prog wal_Log_Room_no [.pointer r3.1] h30 [.sc (.int .i64)] fun (r54 : Int) h55 =>
  cnd (r54 != (w64 (r16 - r22))) (
  J52 true h55) (
  CallT Try.prog wal_Log_Next_no [.pointer r3.1] h55 [.sc (.int .u64)] fun (r56 : Int) h57 =>
  cnd (r56 != (IntKind.u64.wrap (r19 + 1))) (
  J52 true h57) (
  cnd (r26 != 0) (
  cnd (r26 != 60) (
  J52 true h57) (
  CallT Try.prog wal_Log_Room_no [.pointer r3.1] h57 [.sc (.int .i64)] fun (r58 : Int) h59 =>
  cnd (r58 != r16) (
  J52 true h59) (
  CallT Try.prog wal_Log_Next_no [.pointer r3.1] h59 [.sc (.int .u64)] fun (r60 : Int) h61 =>
  J52 (r60 != r19) h61))) (
  J52 false h57)))) (
  cnd (r26 != 0) (
  cnd (r26 != 60) (
  J52 true h30) (
  CallT Try.prog wal_Log_Room_no [.pointer r3.1] h30 [.sc (.int .i64)] fun (r62 : Int) h63 =>
  cnd (r62 != r16) (
  J52 true h63) (
  CallT Try.prog wal_Log_Next_no [.pointer r3.1] h63 [.sc (.int .u64)] fun (r64 : Int) h65 =>
  J52 (r64 != r19) h65))) (
  J52 false h30)))))) (fun J29 =>
  cnd (r26 == 0) (
  idx x_0.a x_0.len s8.2 fun a66 =>
  ldL (a66.add (s8.2.toNat * 1)) h27 fun o67 l67 c67 =>
  newB [.slice o67 l67 c67] 50 h27 fun a68 h69 =>
  ldRow (1 * 1) a68 h69 fun cs73 =>
  app [.slice none 0 0] 50 1 24 s8.1.a s8.1.len s8.1.cap cs73 1 h69 fun o70 c71 h72 =>
  J29 (⟨o70, (s8.1.len + 1), c71⟩ : Sl) h72) (
  J29 s8.1 h27)))) (
  CallT Try.prog wal_Open_no [.pointer r1.1, .int .i64 1, .int .i64 50, .int .u64 8] h10 [.sc (.ptr), .sc (.sl), .sc (.int .i64)] fun (r74 : (Option Addr) × Sl × Int) h75 =>
  withJ (σ := Bool) (fun s76 h78 => -- s76: t2
  R s76 h78) (fun J77 =>
  cnd (r74.2.2 == 0) (
  cnd ((r74.2.1.len : Int) == 0) (
  CallT Try.prog law6_awake_no [] h75 [.sc (.bool)] fun (r79 : Bool) h80 =>
  J77 r79 h80) (
  J77 false h75)) (
  J77 false h75)))) ((⟨none, 0, 0⟩ : Sl), 0) h7) (fun J6 =>
  withJ (σ := Bool) (fun s81 h83 => -- s81: t40
  cnd s81 (
  withJ (σ := Bool) (fun s84 h86 => -- s84: t2
  R s84 h86) (fun J85 =>
  cnd (!r3.1.isNone) (
  cnd (r3.2.2 == 0) (
  CallT Try.prog law6_awake_no [] h83 [.sc (.bool)] fun (r87 : Bool) h88 =>
  J85 r87 h88) (
  J85 false h83)) (
  J85 false h83))) (
  J6 () h83)) (fun J82 =>
  cnd r3.1.isNone (
  J82 true h4) (
  cnd (r3.2.2 != 0) (
  J82 true h4) (
  J82 (decide ((x_0.len : Int) > 30)) h4))))
theorem law6_WalCounts_eq (x_0 : Sl) (R : Bool → Heap → Prop) (h : Heap) : fnX Try.prog Fns.fns Try.f7 (.s .n (.s .n (.s .n (.j [] (.j [(40, .bool)] .n (.s (.j [(2, .bool)] .n .n) .n)) (.s .n (.s (.s .n (.b (.l [(8, .sl), (9, .int .i64)] (.s (.s .n (.s .n .n)) (.j [(8, .sl)] (.b (.s .n (.s .n (.j [(8, .sl)] (.s .n (.s .n .n)) (.j [] (.j [(124, .bool)] .n (.s (.s .n .n) .n)) (.s .n (.j [(161, .bool)] .n (.s (.s .n .n) .n)))))))) .n))))) (.s .n (.j [(2, .bool)] .n .n)))))))) [.sc (.bool)] [.slice x_0.a x_0.len x_0.cap] h R = law6_WalCounts x_0 R h := by kernel_rfl
theorem law6_WalCounts_call (x_0 : Sl) {R : Bool → Heap → Prop} {h : Heap} (hx : law6_WalCounts x_0 R h) : CallT Try.prog 7 [.slice x_0.a x_0.len x_0.cap] h [.sc (.bool)] R :=
  call_of_fnX fnsOk mixed Try.func7 (by kernel_rfl) (by rw [law6_WalCounts_eq]; exact hx)

/-- stowage/stowagelaw6.WalLasts (8) -/
def law6_WalLasts (x_0 : Sl) (x_1 : Int) (x_2 : Sl) (x_3 : Int) (R : Bool → Heap → Prop) (h : Heap) : Prop :=
  withJ (σ := Unit) (fun s1 h3 => -- s1: 
  CallT Try.prog disk_New_no [.int .i64 x_3] h3 [.sc (.ptr), .sc (.int .i64)] fun (r4 : (Option Addr) × Int) h5 =>
  CallT Try.prog wal_Open_no [.pointer r4.1, .int .i64 0, .int .i64 x_3, .int .u64 5] h5 [.sc (.ptr), .sc (.sl), .sc (.int .i64)] fun (r6 : (Option Addr) × Sl × Int) h7 =>
  withJ (σ := Unit) (fun s8 h10 => -- s8: 
  CallT Try.prog disk_Dev_Fuse_no [.pointer r4.1, .int .i64 x_1] h10 [] fun (r11 : Unit) h12 =>
  LoopT (σ := Sl × Sl × Bool × Int) (fun X14 s13 h15 => -- s13: t14, t15, t16, t17
  withJ (σ := Bool × Bool) (fun s16 h18 => -- s16: t63, t64
  withJ (σ := Sl × Sl × Bool) (fun s19 h21 => -- s19: t14, t15, t16
  X14 (s19.1, s19.2.1, s19.2.2, (w64 (s13.2.2.2 + 1))) h21) (fun J20 =>
  idx x_0.a x_0.len s13.2.2.2 fun a22 =>
  ldL (a22.add (s13.2.2.2.toNat * 1)) h18 fun o23 l23 c23 =>
  CallT Try.prog wal_Log_Append_no [.pointer r6.1, .slice o23 l23 c23] h18 [.sc (.int .i64)] fun (r24 : Int) h25 =>
  cnd (r24 == 0) (
  idx x_0.a x_0.len s13.2.2.2 fun a26 =>
  ldL (a26.add (s13.2.2.2.toNat * 1)) h25 fun o27 l27 c27 =>
  newB [.slice o27 l27 c27] 50 h25 fun a28 h29 =>
  ldRow (1 * 1) a28 h29 fun cs33 =>
  app [.slice none 0 0] 50 1 24 s13.1.a s13.1.len s13.1.cap cs33 1 h29 fun o30 c31 h32 =>
  J20 ((⟨o30, (s13.1.len + 1), c31⟩ : Sl), s13.2.1, s13.2.2.1) h32) (
  cnd (r24 == 60) (
  idx x_0.a x_0.len s13.2.2.2 fun a34 =>
  ldL (a34.add (s13.2.2.2.toNat * 1)) h25 fun o35 l35 c35 =>
  CallT Try.prog wal_Log_Room_no [.pointer r6.1] h25 [.sc (.int .i64)] fun (r36 : Int) h37 =>
  (ldL (a34.add (s13.2.2.2.toNat * 1)) h37 fun o38 l38 c38 =>
  (.slice o38 l38 c38 : Value) = .slice o35 l35 c35) ∧
  CallT Try.prog wal_Need_no [.slice o35 l35 c35] h37 [.sc (.int .i64)] fun (r39 : Int) h40 =>
  cnd (decide (r36 ≥ r39)) (
  R false h40) (
  J20 (s13.1, s13.2.1, s13.2.2.1) h40)) (
  idx x_0.a x_0.len s13.2.2.2 fun a41 =>
  ldL (a41.add (s13.2.2.2.toNat * 1)) h25 fun o42 l42 c42 =>
  J20 (s13.1, (⟨o42, l42, c42⟩ : Sl), true) h25)))) (fun J17 =>
  cnd (decide (s13.2.2.2 < (x_0.len : Int))) (
  cnd (!s13.2.2.1) (
  J17 (s13.2.2.1, (!s13.2.2.1)) h15) (
  CallT Try.prog disk_Dev_Crash_no [.pointer r4.1, .slice x_2.a x_2.len x_2.cap] h15 [] fun (r43 : Unit) h44 =>
  CallT Try.prog wal_Open_no [.pointer r4.1, .int .i64 0, .int .i64 x_3, .int .u64 5] h44 [.sc (.ptr), .sc (.sl), .sc (.int .i64)] fun (r45 : (Option Addr) × Sl × Int) h46 =>
  CallT Try.prog wal_Open_no [.pointer r4.1, .int .i64 0, .int .i64 x_3, .int .u64 5] h46 [.sc (.ptr), .sc (.sl), .sc (.int .i64)] fun (r47 : (Option Addr) × Sl × Int) h48 =>
  withJ (σ := Unit) (fun s49 h51 => -- s49: 
  withJ (σ := Sl) (fun s52 h54 => -- s52: t14
  withJ (σ := Bool) (fun s55 h57 => -- s55: t8
  R s55 h57) (fun J56 =>
  CallT Try.prog law6_frames_no [.slice r45.2.1.a r45.2.1.len r45.2.1.cap, .slice s52.a s52.len s52.cap] h54 [.sc (.bool)] fun (r58 : Bool) h59 =>
  cnd r58 (
  CallT Try.prog law6_awake_no [] h59 [.sc (.bool)] fun (r60 : Bool) h61 =>
  J56 r60 h61) (
  J56 false h59))) (fun J53 =>
  withJ (σ := Bool) (fun s62 h64 => -- s62: t135
  cnd s62 (
  newB [.slice s13.2.1.a s13.2.1.len s13.2.1.cap] 50 h64 fun a65 h66 =>
  ldRow (1 * 1) a65 h66 fun cs70 =>
  app [.slice none 0 0] 50 1 24 s13.1.a s13.1.len s13.1.cap cs70 1 h66 fun o67 c68 h69 =>
  J53 (⟨o67, (s13.1.len + 1), c68⟩ : Sl) h69) (
  J53 s13.1 h64)) (fun J63 =>
  cnd s13.2.2.1 (
  J63 ((r45.2.1.len : Int) == (w64 ((s13.1.len : Int) + 1))) h51) (
  J63 false h51)))) (fun J50 =>
  withJ (σ := Bool) (fun s71 h73 => -- s71: t126
  cnd s71 (
  R false h73) (
  J50 () h73)) (fun J72 =>
  cnd (r45.2.2 != 0) (
  J72 true h48) (
  cnd (r47.2.2 != 0) (
  J72 true h48) (
  CallT Try.prog law6_frames_no [.slice r45.2.1.a r45.2.1.len r45.2.1.cap, .slice r47.2.1.a r47.2.1.len r47.2.1.cap] h48 [.sc (.bool)] fun (r74 : Bool) h75 =>
  J72 (!r74) h75)))))) (
  CallT Try.prog disk_Dev_Crash_no [.pointer r4.1, .slice x_2.a x_2.len x_2.cap] h15 [] fun (r76 : Unit) h77 =>
  CallT Try.prog wal_Open_no [.pointer r4.1, .int .i64 0, .int .i64 x_3, .int .u64 5] h77 [.sc (.ptr), .sc (.sl), .sc (.int .i64)] fun (r78 : (Option Addr) × Sl × Int) h79 =>
  CallT Try.prog wal_Open_no [.pointer r4.1, .int .i64 0, .int .i64 x_3, .int .u64 5] h79 [.sc (.ptr), .sc (.sl), .sc (.int .i64)] fun (r80 : (Option Addr) × Sl × Int) h81 =>
  withJ (σ := Unit) (fun s82 h84 => -- s82: 
  withJ (σ := Sl) (fun s85 h87 => -- s85: t14
  withJ (σ := Bool) (fun s88 h90 => -- s88: t8
  R s88 h90) (fun J89 =>
  CallT Try.prog law6_frames_no [.slice r78.2.1.a r78.2.1.len r78.2.1.cap, .slice s85.a s85.len s85.cap] h87 [.sc (.bool)] fun (r91 : Bool) h92 =>
  cnd r91 (
  CallT Try.prog law6_awake_no [] h92 [.sc (.bool)] fun (r93 : Bool) h94 =>
  J89 r93 h94) (
  J89 false h92))) (fun J86 =>
  withJ (σ := Bool) (fun s95 h97 => -- s95: t135
  cnd s95 (
  newB [.slice s13.2.1.a s13.2.1.len s13.2.1.cap] 50 h97 fun a98 h99 =>
  ldRow (1 * 1) a98 h99 fun cs103 =>
  app [.slice none 0 0] 50 1 24 s13.1.a s13.1.len s13.1.cap cs103 1 h99 fun o100 c101 h102 =>
  J86 (⟨o100, (s13.1.len + 1), c101⟩ : Sl) h102) (
  J86 s13.1 h97)) (fun J96 =>
  cnd s13.2.2.1 (
  J96 ((r78.2.1.len : Int) == (w64 ((s13.1.len : Int) + 1))) h84) (
  J96 false h84)))) (fun J83 =>
  withJ (σ := Bool) (fun s104 h106 => -- s104: t126
  cnd s104 (
  R false h106) (
  J83 () h106)) (fun J105 =>
  cnd (r78.2.2 != 0) (
  J105 true h81) (
  cnd (r80.2.2 != 0) (
  J105 true h81) (
  CallT Try.prog law6_frames_no [.slice r78.2.1.a r78.2.1.len r78.2.1.cap, .slice r80.2.1.a r80.2.1.len r80.2.1.cap] h81 [.sc (.bool)] fun (r107 : Bool) h108 =>
  J105 (!r107) h108))))))) ((⟨none, 0, 0⟩ : Sl), (⟨none, 0, 0⟩ : Sl), false, 0) h12) (fun J9 =>
  withJ (σ := Bool) (fun s109 h111 => -- s109: t54
  cnd s109 (
  R false h111) (
  J9 () h111)) (fun J110 =>
  cnd r6.1.isNone (
  J110 true h7) (
  J110 (r6.2.2 != 0) h7)))) (fun J2 =>
  withJ (σ := Bool) (fun s112 h114 => -- s112: t35
  cnd s112 (
  CallT Try.prog law6_awake_no [] h114 [.sc (.bool)] fun (r115 : Bool) h116 =>
  R r115 h116) (
  J2 () h114)) (fun J113 =>
  cnd (decide (x_3 < 1)) (
  J113 true h) (
  cnd (decide (x_3 > 40)) (
  J113 true h) (
  J113 (decide ((x_0.len : Int) > 20)) h))))
theorem law6_WalLasts_eq (x_0 : Sl) (x_1 : Int) (x_2 : Sl) (x_3 : Int) (R : Bool → Heap → Prop) (h : Heap) : fnX Try.prog Fns.fns Try.f8 (.s .n (.j [] (.j [(35, .bool)] .n (.s (.s .n .n) .n)) (.s .n (.s .n (.j [] (.j [(54, .bool)] .n (.s (.s .n .n) .n)) (.s .n (.s .n (.s .n (.s .n (.s (.s .n (.b (.l [(14, .sl), (15, .sl), (16, .bool), (17, .int .i64)] (.j [(63, .bool), (64, .bool)] (.s .n (.s .n .n)) (.j [(14, .sl), (15, .sl), (16, .bool)] (.b (.s .n (.s .n (.b (.s .n (.s .n (.s .n (.s (.s .n (.s (.s .n .n) .n)) (.s .n .n))))))))) .n))))) (.s .n (.s .n (.s .n (.j [] (.j [(126, .bool)] .n (.s (.s .n .n) .n)) (.j [(14, .sl)] (.j [(135, .bool)] .n (.s .n .n)) (.j [(8, .bool)] .n .n)))))))))))))))) [.sc (.bool)] [.slice x_0.a x_0.len x_0.cap, .int .i64 x_1, .slice x_2.a x_2.len x_2.cap, .int .i64 x_3] h R = law6_WalLasts x_0 x_1 x_2 x_3 R h := by kernel_rfl
theorem law6_WalLasts_call (x_0 : Sl) (x_1 : Int) (x_2 : Sl) (x_3 : Int) {R : Bool → Heap → Prop} {h : Heap} (hx : law6_WalLasts x_0 x_1 x_2 x_3 R h) : CallT Try.prog 8 [.slice x_0.a x_0.len x_0.cap, .int .i64 x_1, .slice x_2.a x_2.len x_2.cap, .int .i64 x_3] h [.sc (.bool)] R :=
  call_of_fnX fnsOk mixed Try.func8 (by kernel_rfl) (by rw [law6_WalLasts_eq]; exact hx)

/-- stowage/stowagelaw6.WalGoesOn (9) -/
def law6_WalGoesOn (x_0 : Sl) (x_1 : Sl) (x_2 : Sl) (R : Bool → Heap → Prop) (h : Heap) : Prop :=
  CallT Try.prog disk_New_no [.int .i64 48] h [.sc (.ptr), .sc (.int .i64)] fun (r1 : (Option Addr) × Int) h2 =>
  cnd r1.1.isNone (
  R false h2) (
  LoopT (σ := Sl × Int) (fun X4 s3 h5 => -- s3: t9, t10
  withJ (σ := Int × Bool) (fun s6 h8 => -- s6: t29, t30
  withJ (σ := Sl) (fun s9 h11 => -- s9: t9
  X4 (s9, (w64 (s3.2 + 1))) h11) (fun J10 =>
  CallT Try.prog wal_Open_no [.pointer r1.1, .int .i64 4, .int .i64 40, .int .u64 1] h8 [.sc (.ptr), .sc (.sl), .sc (.int .i64)] fun (r12 : (Option Addr) × Sl × Int) h13 =>
  withJ (σ := Unit) (fun s14 h16 => -- s14: 
  withJ (σ := Unit) (fun s17 h19 => -- s17: 
  idx x_0.a x_0.len s3.2 fun a20 =>
  ldL (a20.add (s3.2.toNat * 1)) h19 fun o21 l21 c21 =>
  CallT Try.prog wal_Log_Append_no [.pointer r12.1, .slice o21 l21 c21] h19 [.sc (.int .i64)] fun (r22 : Int) h23 =>
  CallT Try.prog disk_Dev_Crash_no [.pointer r1.1, .slice x_2.a x_2.len x_2.cap] h23 [] fun (r24 : Unit) h25 =>
  CallT Try.prog wal_Open_no [.pointer r1.1, .int .i64 4, .int .i64 40, .int .u64 1] h25 [.sc (.ptr), .sc (.sl), .sc (.int .i64)] fun (r26 : (Option Addr) × Sl × Int) h27 =>
  withJ (σ := Unit) (fun s28 h30 => -- s28: 
  withJ (σ := Sl) (fun s31 h33 => -- s31: t9
  CallT Try.prog law6_frames_no [.slice r26.2.1.a r26.2.1.len r26.2.1.cap, .slice s31.a s31.len s31.cap] h33 [.sc (.bool)] fun (r34 : Bool) h35 =>
  cnd (!r34) (
  R false h35) (
  J10 s31 h35)) (fun J32 =>
  cnd (decide ((r26.2.1.len : Int) > (s3.1.len : Int))) (
  idx x_0.a x_0.len s3.2 fun a36 =>
  ldL (a36.add (s3.2.toNat * 1)) h30 fun o37 l37 c37 =>
  newB [.slice o37 l37 c37] 50 h30 fun a38 h39 =>
  ldRow (1 * 1) a38 h39 fun cs43 =>
  app [.slice none 0 0] 50 1 24 s3.1.a s3.1.len s3.1.cap cs43 1 h39 fun o40 c41 h42 =>
  J32 (⟨o40, (s3.1.len + 1), c41⟩ : Sl) h42) (
  J32 s3.1 h30))) (fun J29 =>
  withJ (σ := Bool) (fun s44 h46 => -- s44: t123
  cnd s44 (
  R false h46) (
  J29 () h46)) (fun J45 =>
  cnd (r26.2.2 != 0) (
  J45 true h27) (
  cnd (decide ((r26.2.1.len : Int) < (s3.1.len : Int))) (
  J45 true h27) (
  cnd (decide ((r26.2.1.len : Int) > (w64 ((s3.1.len : Int) + 1)))) (
  J45 true h27) (
  cnd (r22 == 0) (
  cnd ((r26.2.1.len : Int) == (s3.1.len : Int)) (
  J45 true h27) (
  cnd (r22 == 60) (
  J45 (decide ((r26.2.1.len : Int) > (s3.1.len : Int))) h27) (
  J45 false h27))) (
  cnd (r22 == 60) (
  J45 (decide ((r26.2.1.len : Int) > (s3.1.len : Int))) h27) (
  J45 false h27)))))))) (fun J18 =>
  cnd (decide (s3.2 < (x_1.len : Int))) (
  idx x_1.a x_1.len s3.2 fun a47 =>
  ldI .i64 (a47.add (s3.2.toNat * 1)) h16 fun n48 =>
  CallT Try.prog disk_Dev_Fuse_no [.pointer r1.1, .int .i64 n48] h16 [] fun (r49 : Unit) h50 =>
  J18 () h50) (
  J18 () h16))) (fun J15 =>
  withJ (σ := Bool) (fun s51 h53 => -- s51: t59
  cnd s51 (
  R false h53) (
  J15 () h53)) (fun J52 =>
  cnd r12.1.isNone (
  J52 true h13) (
  cnd (r12.2.2 != 0) (
  J52 true h13) (
  CallT Try.prog law6_frames_no [.slice r12.2.1.a r12.2.1.len r12.2.1.cap, .slice s3.1.a s3.1.len s3.1.cap] h13 [.sc (.bool)] fun (r54 : Bool) h55 =>
  cnd (!r54) (
  J52 true h55) (
  CallT Try.prog wal_Log_Next_no [.pointer r12.1] h55 [.sc (.int .u64)] fun (r56 : Int) h57 =>
  J52 ((w64 (r56)) != (s3.1.len : Int)) h57))))))) (fun J7 =>
  cnd (decide (s3.2 < (x_0.len : Int))) (
  cnd (decide (s3.2 < 12)) (
  J7 (s3.2, (decide (s3.2 < 12))) h5) (
  CallT Try.prog law6_awake_no [] h5 [.sc (.bool)] fun (r58 : Bool) h59 =>
  R r58 h59)) (
  CallT Try.prog law6_awake_no [] h5 [.sc (.bool)] fun (r60 : Bool) h61 =>
  R r60 h61))) ((⟨none, 0, 0⟩ : Sl), 0) h2)
theorem law6_WalGoesOn_eq (x_0 : Sl) (x_1 : Sl) (x_2 : Sl) (R : Bool → Heap → Prop) (h : Heap) : fnX Try.prog Fns.fns Try.f9 (.s .n (.s .n (.s (.s .n (.s (.s .n .n) .n)) (.s .n (.s (.s .n (.b (.l [(9, .sl), (10, .int .i64)] (.j [(29, .int .i64), (30, .bool)] (.s .n (.s .n .n)) (.j [(9, .sl)] (.b (.s .n (.j [] (.j [(59, .bool)] .n (.s (.s .n .n) .n)) (.j [] (.s .n (.s .n .n)) (.s .n (.s .n (.s .n (.j [] (.j [(123, .bool)] .n (.s (.s .n .n) .n)) (.j [(9, .sl)] (.s .n (.s .n .n)) (.s .n (.s (.s .n .n) .n))))))))))) .n))))) (.s .n .n)))))) [.sc (.bool)] [.slice x_0.a x_0.len x_0.cap, .slice x_1.a x_1.len x_1.cap, .slice x_2.a x_2.len x_2.cap] h R = law6_WalGoesOn x_0 x_1 x_2 R h := by kernel_rfl
theorem law6_WalGoesOn_call (x_0 : Sl) (x_1 : Sl) (x_2 : Sl) {R : Bool → Heap → Prop} {h : Heap} (hx : law6_WalGoesOn x_0 x_1 x_2 R h) : CallT Try.prog 9 [.slice x_0.a x_0.len x_0.cap, .slice x_1.a x_1.len x_1.cap, .slice x_2.a x_2.len x_2.cap] h [.sc (.bool)] R :=
  call_of_fnX fnsOk mixed Try.func9 (by kernel_rfl) (by rw [law6_WalGoesOn_eq]; exact hx)

/-- stowage/stowagelaw6.WalPlays (10) -/
def law6_WalPlays (x_0 : Int) (x_1 : Int) (x_2 : Int) (x_3 : Int) (x_4 : Sl) (R : Bool → Heap → Prop) (h : Heap) : Prop :=
  withJ (σ := Unit) (fun s1 h3 => -- s1: 
  CallT Try.prog disk_New_no [.int .i64 x_0] h3 [.sc (.ptr), .sc (.int .i64)] fun (r4 : (Option Addr) × Int) h5 =>
  CallT Try.prog ref5_New_no [.int .i64 x_0] h5 [.sc (.ptr), .sc (.int .i64)] fun (r6 : (Option Addr) × Int) h7 =>
  CallT Try.prog wal_Open_no [.pointer r4.1, .int .i64 x_1, .int .i64 x_2, .int .u64 x_3] h7 [.sc (.ptr), .sc (.sl), .sc (.int .i64)] fun (r8 : (Option Addr) × Sl × Int) h9 =>
  CallT Try.prog ref6_Open_no [.pointer r6.1, .int .i64 x_1, .int .i64 x_2, .int .u64 x_3] h9 [.sc (.ptr), .sc (.sl), .sc (.int .i64)] fun (r10 : (Option Addr) × Sl × Int) h11 =>
  withJ (σ := Unit) (fun s12 h14 => -- s12: 
  LoopT (σ := Int × (Option Addr) × (Option Addr) × Int) (fun X16 s15 h17 => -- s15: t3, t15, t18, t21
  withJ (σ := Int × Bool × (Option Addr) × Bool) (fun s18 h20 => -- s18: t92, t93, t96, t97
  withJ (σ := Int × (Option Addr) × (Option Addr)) (fun s21 h23 => -- s21: t3, t15, t18
  X16 (s21.1, s21.2.1, s21.2.2, (w64 (s15.2.2.2 + 1))) h23) (fun J22 =>
  idx x_4.a x_4.len s15.2.2.2 fun a24 =>
  ldI .i64 (a24.add (s15.2.2.2.toNat * 5)) h20 fun n25 =>
  ldI .i64 ((a24.add (s15.2.2.2.toNat * 5)).add 1) h20 fun n26 =>
  ldI .i64 ((a24.add (s15.2.2.2.toNat * 5)).add 2) h20 fun n27 =>
  ldL ((a24.add (s15.2.2.2.toNat * 5)).add 3) h20 fun o28 l28 c28 =>
  ldL ((a24.add (s15.2.2.2.toNat * 5)).add 4) h20 fun o29 l29 c29 =>
  newB [.int .i64 0, .int .i64 0, .int .i64 0, .slice none 0 0, .slice none 0 0] 77 h20 fun a30 h31 =>
  stC a30 (.int .i64 n25) h31 fun h32 =>
  stC (a30.add 1) (.int .i64 n26) h32 fun h33 =>
  stC (a30.add 2) (.int .i64 n27) h33 fun h34 =>
  stC (a30.add 3) (.slice o28 l28 c28) h34 fun h35 =>
  stC (a30.add 4) (.slice o29 l29 c29) h35 fun h36 =>
  withJ (σ := Int × (Option Addr) × (Option Addr)) (fun s37 h39 => -- s37: t3, t15, t18
  withJ (σ := Bool) (fun s40 h42 => -- s40: t232
  cnd s40 (
  R false h42) (
  J22 (s37.1, s37.2.1, s37.2.2) h42)) (fun J41 =>
  cnd (!s37.2.1.isNone) (
  nn s37.2.2 fun a43 =>
  ldI .u64 (a43.add 4) h39 fun n44 =>
  CallT Try.prog wal_Log_Next_no [.pointer s37.2.1] h39 [.sc (.int .u64)] fun (r45 : Int) h46 =>
  (ldI .u64 (a43.add 4) h46 fun n47 =>
  (.int .u64 n47 : Value) = .int .u64 n44) ∧
  cnd (r45 != n44) (
  J41 true h46) (
  CallT Try.prog wal_Log_Room_no [.pointer s37.2.1] h46 [.sc (.int .i64)] fun (r48 : Int) h49 =>
  CallT Try.prog ref6_Log_Room_no [.pointer s37.2.2] h49 [.sc (.int .i64)] fun (r50 : Int) h51 =>
  cnd (r48 != r50) (
  J41 true h51) (
  CallT Try.prog law6_Same_no [.pointer r4.1, .pointer r6.1] h51 [.sc (.bool)] fun (r52 : Bool) h53 =>
  J41 (!r52) h53))) (
  CallT Try.prog law6_Same_no [.pointer r4.1, .pointer r6.1] h39 [.sc (.bool)] fun (r54 : Bool) h55 =>
  J41 (!r54) h55))) (fun J38 =>
  ldI .i64 a30 h36 fun n56 =>
  cnd (n56 == 0) (
  withJ (σ := Bool) (fun s57 h59 => -- s57: t178
  cnd s57 (
  R false h59) (
  J38 (s15.1, s15.2.1, s15.2.2.1) h59)) (fun J58 =>
  ldL (a30.add 3) h36 fun o60 l60 c60 =>
  ldL (a30.add 3) h36 fun o61 l61 c61 =>
  CallT Try.prog wal_Log_Append_no [.pointer s15.2.1, .slice o60 l60 c60] h36 [.sc (.int .i64)] fun (r62 : Int) h63 =>
  (ldL (a30.add 3) h63 fun o64 l64 c64 =>
  (.slice o64 l64 c64 : Value) = .slice o61 l61 c61) ∧
  CallT Try.prog ref6_Log_Append_no [.pointer s15.2.2.1, .slice o61 l61 c61] h63 [.sc (.int .i64)] fun (r65 : Int) h66 =>
  cnd (r62 != r65) (
  J58 true h66) (
  ldL (a30.add 3) h66 fun o67 l67 c67 =>
  ldL (a30.add 3) h66 fun o68 l68 c68 =>
  CallT Try.prog wal_Need_no [.slice o67 l67 c67] h66 [.sc (.int .i64)] fun (r69 : Int) h70 =>
  (ldL (a30.add 3) h70 fun o71 l71 c71 =>
  (.slice o71 l71 c71 : Value) = .slice o68 l68 c68) ∧
  CallT Try.prog ref6_Need_no [.slice o68 l68 c68] h70 [.sc (.int .i64)] fun (r72 : Int) h73 =>
  J58 (r69 != r72) h73))) (
  cnd (n56 == 3) (
  ldI .i64 (a30.add 1) h36 fun n74 =>
  CallT Try.prog disk_Dev_Fuse_no [.pointer r4.1, .int .i64 n74] h36 [] fun (r75 : Unit) h76 =>
  ldI .i64 (a30.add 1) h76 fun n77 =>
  nn r6.1 fun a78 =>
  stC (a78.add 2) (.int .i64 (maxI n77 (-1))) h76 fun h79 =>
  J38 (s15.1, s15.2.1, s15.2.2.1) h79) (
  cnd (n56 == 4) (
  ldI .i64 (a30.add 1) h36 fun n80 =>
  ldI .i64 (a30.add 2) h36 fun n81 =>
  CallT Try.prog law5_Sector_no [.int .i64 n80, .int .i64 n81] h36 [.sc (.sl)] fun (r82 : Sl) h83 =>
  ldI .i64 (a30.add 1) h83 fun n84 =>
  CallT Try.prog disk_Dev_Write_no [.pointer r4.1, .int .i64 n84, .slice r82.a r82.len r82.cap] h83 [.sc (.int .i64)] fun (r85 : Int) h86 =>
  ldI .i64 (a30.add 1) h86 fun n87 =>
  b2s r82.a r82.len h86 fun s88 =>
  CallT Try.prog ref5_Dev_Write_no [.pointer r6.1, .int .i64 n87, .string s88] h86 [.sc (.int .i64)] fun (r89 : Int) h90 =>
  J38 (s15.1, s15.2.1, s15.2.2.1) h90) (
  withJ (σ := Unit) (fun s91 h93 => -- s91: 
  withJ (σ := Int) (fun s94 h96 => -- s94: t3
  CallT Try.prog wal_Open_no [.pointer r4.1, .int .i64 x_1, .int .i64 x_2, .int .u64 s94] h96 [.sc (.ptr), .sc (.sl), .sc (.int .i64)] fun (r97 : (Option Addr) × Sl × Int) h98 =>
  CallT Try.prog ref6_Open_no [.pointer r6.1, .int .i64 x_1, .int .i64 x_2, .int .u64 s94] h98 [.sc (.ptr), .sc (.sl), .sc (.int .i64)] fun (r99 : (Option Addr) × Sl × Int) h100 =>
  withJ (σ := Bool) (fun s101 h103 => -- s101: t158
  cnd s101 (
  R false h103) (
  J38 (s94, r97.1, r99.1) h103)) (fun J102 =>
  cnd (r97.2.2 != r99.2.2) (
  J102 true h100) (
  cnd (!(r97.1.isNone == r99.1.isNone)) (
  J102 true h100) (
  CallT Try.prog law6_frames_no [.slice r97.2.1.a r97.2.1.len r97.2.1.cap, .slice r99.2.1.a r99.2.1.len r99.2.1.cap] h100 [.sc (.bool)] fun (r104 : Bool) h105 =>
  J102 (!r104) h105)))) (fun J95 =>
  ldI .i64 a30 h93 fun n106 =>
  cnd (n106 == 5) (
  ldI .i64 (a30.add 1) h93 fun n107 =>
  J95 (IntKind.u64.wrap ((andI .i64 n107 3))) h93) (
  J95 s15.1 h93))) (fun J92 =>
  ldI .i64 a30 h36 fun n108 =>
  cnd (n108 == 2) (
  ldL (a30.add 4) h36 fun o109 l109 c109 =>
  CallT Try.prog disk_Dev_Crash_no [.pointer r4.1, .slice o109 l109 c109] h36 [] fun (r110 : Unit) h111 =>
  ldL (a30.add 4) h111 fun o112 l112 c112 =>
  CallT Try.prog ref5_Dev_Crash_no [.pointer r6.1, .slice o112 l112 c112] h111 [] fun (r113 : Unit) h114 =>
  J92 () h114) (
  J92 () h36)))))))) (fun J19 =>
  cnd (decide (s15.2.2.2 < (x_4.len : Int))) (
  cnd (decide (s15.2.2.2 < 40)) (
  cnd (!s15.2.1.isNone) (
  J19 (s15.2.2.2, (decide (s15.2.2.2 < 40)), s15.2.1, (!s15.2.1.isNone)) h17) (
  R true h17)) (
  R true h17)) (
  R true h17))) (x_3, r8.1, r10.1, 0) h14) (fun J13 =>
  withJ (σ := Bool) (fun s115 h117 => -- s115: t86
  cnd s115 (
  R false h117) (
  J13 () h117)) (fun J116 =>
  cnd (r8.2.2 != r10.2.2) (
  J116 true h11) (
  cnd (!(r8.1.isNone == r10.1.isNone)) (
  J116 true h11) (
  CallT Try.prog law6_frames_no [.slice r8.2.1.a r8.2.1.len r8.2.1.cap, .slice r10.2.1.a r10.2.1.len r10.2.1.cap] h11 [.sc (.bool)] fun (r118 : Bool) h119 =>
  J116 (!r118) h119))))) (fun J2 =>
  withJ (σ := Bool) (fun s120 h122 => -- s120: t33
  cnd s120 (
  withJ (σ := Bool) (fun s123 h125 => -- s123: t10
  R s123 h125) (fun J124 =>
  cnd (decide (x_0 < 1)) (
  CallT Try.prog law6_awake_no [] h122 [.sc (.bool)] fun (r126 : Bool) h127 =>
  J124 r126 h127) (
  cnd (decide (x_0 > 64)) (
  CallT Try.prog law6_awake_no [] h122 [.sc (.bool)] fun (r128 : Bool) h129 =>
  J124 r128 h129) (
  J124 false h122)))) (
  J2 () h122)) (fun J121 =>
  cnd (decide (x_0 < 1)) (
  J121 true h) (
  cnd (decide (x_0 > 64)) (
  J121 true h) (
  CallT Try.prog law6_awake_no [] h [.sc (.bool)] fun (r130 : Bool) h131 =>
  J121 (!r130) h131))))
theorem law6_WalPlays_eq (x_0 : Int) (x_1 : Int) (x_2 : Int) (x_3 : Int) (x_4 : Sl) (R : Bool → Heap → Prop) (h : Heap) : fnX Try.prog Fns.fns Try.f10 (.s .n (.j [] (.j [(33, .bool)] .n (.s (.j [(10, .bool)] .n .n) .n)) (.s .n (.s .n (.s .n (.s .n (.j [] (.j [(86, .bool)] .n (.s (.s .n .n) .n)) (.s (.s .n (.b (.l [(3, .int .u64), (15, .ptr), (18, .ptr), (21, .int .i64)] (.j [(92, .int .i64), (93, .bool), (96, .ptr), (97, .bool)] (.s .n (.s .n .n)) (.j [(3, .int .u64), (15, .ptr), (18, .ptr)] (.b (.s .n (.j [(3, .int .u64), (15, .ptr), (18, .ptr)] (.s .n (.b (.s .n (.s (.j [(178, .bool)] .n (.s (.s .n .n) .n)) (.s .n (.s (.s .n .n) (.s .n (.s (.s .n (.s .n .n)) (.j [] (.s .n (.s (.s .n .n) .n)) (.j [(3, .int .u64)] (.s .n (.s .n .n)) (.s .n (.s .n (.j [(158, .bool)] .n (.s (.s .n .n) .n)))))))))))))) (.j [(232, .bool)] .n (.s (.s .n .n) .n))))) .n))))) (.s .n .n))))))))) [.sc (.bool)] [.int .i64 x_0, .int .i64 x_1, .int .i64 x_2, .int .u64 x_3, .slice x_4.a x_4.len x_4.cap] h R = law6_WalPlays x_0 x_1 x_2 x_3 x_4 R h := by kernel_rfl
theorem law6_WalPlays_call (x_0 : Int) (x_1 : Int) (x_2 : Int) (x_3 : Int) (x_4 : Sl) {R : Bool → Heap → Prop} {h : Heap} (hx : law6_WalPlays x_0 x_1 x_2 x_3 x_4 R h) : CallT Try.prog 10 [.int .i64 x_0, .int .i64 x_1, .int .i64 x_2, .int .u64 x_3, .slice x_4.a x_4.len x_4.cap] h [.sc (.bool)] R :=
  call_of_fnX fnsOk mixed Try.func10 (by kernel_rfl) (by rw [law6_WalPlays_eq]; exact hx)

end Go.Proofs.Ytmkobpkdodgboaa
