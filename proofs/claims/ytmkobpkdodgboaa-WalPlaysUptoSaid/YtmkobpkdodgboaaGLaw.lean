/- Go functions as short texts over the heap, and that each is what the loaded function comes to (the kernel compares them); written by a program. -/
import Derived.Test.YtmkobpkdodgboaaGBase
set_option linter.unusedVariables false
set_option maxRecDepth 100000
namespace Go.Proofs.Ytmkobpkdodgboaa
open Go D
/-- stowage/stowagelaw5.Sector (27) -/
def law5_Sector (a_0 : Int) (b_1 : Int) (R : Sl → Heap → Prop) (h : Heap) : Prop :=
  mkSl [.int .u8 0] 5 1 256 256 h fun a1 h2 =>
  LoopT (σ := Int) (fun X4 s3 h5 => -- s3: i
  cnd (decide (s3 < 256)) (
  idx (some a1) ((256 : Int).toNat) s3 fun a6 =>
  stC (a6.add (s3.toNat * 1)) (.int .u8 (IntKind.u8.wrap ((w64 ((w64 (a_0 * s3)) + b_1))))) h5 fun h7 =>
  X4 (w64 (s3 + 1)) h7) (
  R (⟨(some a1), (256 : Int).toNat, (256 : Int).toNat⟩ : Sl) h5)) 0 h2
theorem law5_Sector_eq (a_0 : Int) (b_1 : Int) (R : Sl → Heap → Prop) (h : Heap) : fnX Try.prog Fns.fns Try.f27 (.s .n (.s .n (.s (.s .n (.b (.l [(6, .int .i64)] (.s (.s .n (.s .n .n)) (.s (.b .n) .n))))) (.s .n .n)))) [.sc (.sl)] [.int .i64 a_0, .int .i64 b_1] h R = law5_Sector a_0 b_1 R h := by kernel_rfl
theorem law5_Sector_call (a_0 : Int) (b_1 : Int) {R : Sl → Heap → Prop} {h : Heap} (hx : law5_Sector a_0 b_1 R h) : CallT Try.prog 27 [.int .i64 a_0, .int .i64 b_1] h [.sc (.sl)] R :=
  call_of_fnX fnsOk mixed Try.func27 (by kernel_rfl) (by rw [law5_Sector_eq]; exact hx)

/-- stowage/stowagelaw6.Same (30) -/
def law6_Same (d_0 : Option Addr) (w_1 : Option Addr) (R : Bool → Heap → Prop) (h : Heap) : Prop :=
  LoopT (σ := Int) (fun X2 s1 h3 => -- s1: i
  nn w_1 fun a4 =>
  ldL a4 h3 fun o5 l5 c5 =>
  cnd (decide (s1 < (l5 : Int))) (
  withJ (σ := Unit) (fun s6 h8 => -- s6: 
  X2 (w64 (s1 + 1)) h8) (fun J7 =>
  CallT Try.prog disk_Dev_Read_no [.pointer d_0, .int .i64 s1] h3 [.sc (.sl), .sc (.int .i64)] fun (r9 : Sl × Int) h10 =>
  CallT Try.prog ref5_Dev_Read_no [.pointer w_1, .int .i64 s1] h10 [.sc (.str), .sc (.int .i64)] fun (r11 : ByteArray × Int) h12 =>
  withJ (σ := Bool) (fun s13 h15 => -- s13: t39
  cnd s13 (
  R false h15) (
  J7 () h15)) (fun J14 =>
  b2s r9.1.a r9.1.len h12 fun s16 =>
  cnd (!seq s16 r11.1) (
  J14 true h12) (
  J14 (r9.2 != r11.2) h12)))) (
  nn w_1 fun a17 =>
  ldL (a17.add 1) h3 fun o18 l18 c18 =>
  CallT Try.prog disk_Dev_Pending_no [.pointer d_0] h3 [.sc (.int .i64)] fun (r19 : Int) h20 =>
  (ldL (a17.add 1) h20 fun o21 l21 c21 =>
  (.slice o21 l21 c21 : Value) = .slice o18 l18 c18) ∧
  R (r19 == (l18 : Int)) h20)) 0 h
theorem law6_Same_eq (d_0 : Option Addr) (w_1 : Option Addr) (R : Bool → Heap → Prop) (h : Heap) : fnX Try.prog Fns.fns Try.f30 (.s .n (.s (.s .n (.b (.l [(5, .int .i64)] (.s (.s .n (.s .n .n)) (.j [] (.b (.s .n (.s .n (.j [(39, .bool)] .n (.s (.s .n .n) .n))))) .n))))) (.s .n .n))) [.sc (.bool)] [.pointer d_0, .pointer w_1] h R = law6_Same d_0 w_1 R h := by kernel_rfl
theorem law6_Same_call (d_0 : Option Addr) (w_1 : Option Addr) {R : Bool → Heap → Prop} {h : Heap} (hx : law6_Same d_0 w_1 R h) : CallT Try.prog 30 [.pointer d_0, .pointer w_1] h [.sc (.bool)] R :=
  call_of_fnX fnsOk mixed Try.func30 (by kernel_rfl) (by rw [law6_Same_eq]; exact hx)

/-- stowage/stowagelaw7.SnapFits (3) -/
def law7_SnapFits (n_0 : Int) (size_1 : Int) (R : Bool → Heap → Prop) (h : Heap) : Prop :=
  withJ (σ := Bool) (fun s1 h3 => -- s1: t4
  R s1 h3) (fun J2 =>
  CallT Try.prog snap_Fits_no [.int .i64 n_0, .int .i64 size_1] h [.sc (.bool)] fun (r4 : Bool) h5 =>
  CallT Try.prog ref7_Fits_no [.int .i64 n_0, .int .i64 size_1] h5 [.sc (.bool)] fun (r6 : Bool) h7 =>
  cnd (r4 == r6) (
  CallT Try.prog law7_awake_no [] h7 [.sc (.bool)] fun (r8 : Bool) h9 =>
  J2 r8 h9) (
  J2 false h7))
theorem law7_SnapFits_eq (n_0 : Int) (size_1 : Int) (R : Bool → Heap → Prop) (h : Heap) : fnX Try.prog Fns.fns Try.f3 (.s .n (.j [(4, .bool)] .n .n)) [.sc (.bool)] [.int .i64 n_0, .int .i64 size_1] h R = law7_SnapFits n_0 size_1 R h := by kernel_rfl
theorem law7_SnapFits_call (n_0 : Int) (size_1 : Int) {R : Bool → Heap → Prop} {h : Heap} (hx : law7_SnapFits n_0 size_1 R h) : CallT Try.prog 3 [.int .i64 n_0, .int .i64 size_1] h [.sc (.bool)] R :=
  call_of_fnX fnsOk mixed Try.func3 (by kernel_rfl) (by rw [law7_SnapFits_eq]; exact hx)

/-- stowage/stowagelaw7.SnapTurns (4) -/
def law7_SnapTurns (x_0 : Sl) (x_1 : Int) (R : Bool → Heap → Prop) (h : Heap) : Prop :=
  CallT Try.prog disk_New_no [.int .i64 24] h [.sc (.ptr), .sc (.int .i64)] fun (r1 : (Option Addr) × Int) h2 =>
  withJ (σ := Unit) (fun s3 h5 => -- s3: 
  LoopT (σ := Int × Int) (fun X7 s6 h8 => -- s6: t7, t8
  cnd (decide (s6.2 < (x_0.len : Int))) (
  withJ (σ := Int) (fun s9 h11 => -- s9: t7
  X7 (s9, (w64 (s6.2 + 1))) h11) (fun J10 =>
  idx x_0.a x_0.len s6.2 fun a12 =>
  ldL (a12.add (s6.2.toNat * 1)) h8 fun o13 l13 c13 =>
  CallT Try.prog snap_Save_no [.pointer r1.1, .int .i64 2, .int .i64 8, .int .u64 s6.1, .slice o13 l13 c13] h8 [.sc (.int .i64)] fun (r14 : Int) h15 =>
  withJ (σ := Unit) (fun s16 h18 => -- s16: 
  cnd (r14 != 0) (
  J10 s6.1 h18) (
  CallT Try.prog snap_Load_no [.pointer r1.1, .int .i64 2, .int .i64 8] h18 [.sc (.sl), .sc (.int .u64), .sc (.int .i64)] fun (r19 : Sl × Int × Int) h20 =>
  withJ (σ := Unit) (fun s21 h23 => -- s21: 
  J10 (IntKind.u64.wrap (s6.1 + 1)) h23) (fun J22 =>
  withJ (σ := Bool) (fun s24 h26 => -- s24: t88
  cnd s24 (
  R false h26) (
  J22 () h26)) (fun J25 =>
  cnd (r19.2.2 != 0) (
  J25 true h20) (
  cnd (r19.2.1 != s6.1) (
  J25 true h20) (
  b2s r19.1.a r19.1.len h20 fun s27 =>
  idx x_0.a x_0.len s6.2 fun a28 =>
  ldL (a28.add (s6.2.toNat * 1)) h20 fun o29 l29 c29 =>
  b2s o29 l29 h20 fun s30 =>
  J25 (!seq s27 s30) h20)))))) (fun J17 =>
  withJ (σ := Bool) (fun s31 h33 => -- s31: t63
  cnd s31 (
  R false h33) (
  J17 () h33)) (fun J32 =>
  idx x_0.a x_0.len s6.2 fun a34 =>
  ldL (a34.add (s6.2.toNat * 1)) h15 fun o35 l35 c35 =>
  CallT Try.prog snap_Fits_no [.int .i64 8, .int .i64 (l35 : Int)] h15 [.sc (.bool)] fun (r36 : Bool) h37 =>
  cnd (!((r14 == 0) == r36)) (
  J32 true h37) (
  cnd (r14 != 0) (
  J32 (r14 != 60) h37) (
  J32 false h37)))))) (
  CallT Try.prog law7_awake_no [] h8 [.sc (.bool)] fun (r38 : Bool) h39 =>
  R r38 h39)) (x_1, 0) h5) (fun J4 =>
  withJ (σ := Bool) (fun s40 h42 => -- s40: t27
  cnd s40 (
  withJ (σ := Bool) (fun s43 h45 => -- s43: t4
  R s43 h45) (fun J44 =>
  cnd (!r1.1.isNone) (
  CallT Try.prog law7_awake_no [] h42 [.sc (.bool)] fun (r46 : Bool) h47 =>
  J44 r46 h47) (
  J44 false h42))) (
  J4 () h42)) (fun J41 =>
  cnd r1.1.isNone (
  J41 true h2) (
  cnd (decide ((x_0.len : Int) > 20)) (
  J41 true h2) (
  J41 (decide (x_1 > 4611686018427387904)) h2))))
theorem law7_SnapTurns_eq (x_0 : Sl) (x_1 : Int) (R : Bool → Heap → Prop) (h : Heap) : fnX Try.prog Fns.fns Try.f4 (.s .n (.s .n (.j [] (.j [(27, .bool)] .n (.s (.j [(4, .bool)] .n .n) .n)) (.s .n (.s (.s .n (.b (.l [(7, .int .u64), (8, .int .i64)] (.s (.s .n (.s .n .n)) (.j [(7, .int .u64)] (.b (.s .n (.j [] (.j [(63, .bool)] .n (.s (.s .n .n) .n)) (.s (.s .n (.s .n .n)) (.s .n (.j [] (.j [(88, .bool)] .n (.s (.s .n .n) .n)) .n)))))) .n))))) (.s .n .n)))))) [.sc (.bool)] [.slice x_0.a x_0.len x_0.cap, .int .u64 x_1] h R = law7_SnapTurns x_0 x_1 R h := by kernel_rfl
theorem law7_SnapTurns_call (x_0 : Sl) (x_1 : Int) {R : Bool → Heap → Prop} {h : Heap} (hx : law7_SnapTurns x_0 x_1 R h) : CallT Try.prog 4 [.slice x_0.a x_0.len x_0.cap, .int .u64 x_1] h [.sc (.bool)] R :=
  call_of_fnX fnsOk mixed Try.func4 (by kernel_rfl) (by rw [law7_SnapTurns_eq]; exact hx)

/-- stowage/stowagelaw7.SnapWhole (5) -/
def law7_SnapWhole (x_0 : Sl) (x_1 : Int) (x_2 : Sl) (R : Bool → Heap → Prop) (h : Heap) : Prop :=
  CallT Try.prog disk_New_no [.int .i64 40] h [.sc (.ptr), .sc (.int .i64)] fun (r1 : (Option Addr) × Int) h2 =>
  withJ (σ := Unit) (fun s3 h5 => -- s3: 
  CallT Try.prog disk_Dev_Fuse_no [.pointer r1.1, .int .i64 x_1] h5 [] fun (r6 : Unit) h7 =>
  withJ (σ := Int) (fun s8 h10 => -- s8: t9
  CallT Try.prog disk_Dev_Crash_no [.pointer r1.1, .slice x_2.a x_2.len x_2.cap] h10 [] fun (r11 : Unit) h12 =>
  CallT Try.prog snap_Load_no [.pointer r1.1, .int .i64 3, .int .i64 10] h12 [.sc (.sl), .sc (.int .u64), .sc (.int .i64)] fun (r13 : Sl × Int × Int) h14 =>
  cnd (r13.2.2 != 0) (
  withJ (σ := Bool) (fun s15 h17 => -- s15: t6
  R s15 h17) (fun J16 =>
  cnd (r13.2.2 == 61) (
  cnd (decide (s8 < 0)) (
  CallT Try.prog law7_awake_no [] h14 [.sc (.bool)] fun (r18 : Bool) h19 =>
  J16 r18 h19) (
  J16 false h14)) (
  J16 false h14))) (
  withJ (σ := Bool) (fun s20 h22 => -- s20: t6
  R s20 h22) (fun J21 =>
  cnd (decide ((w64 (r13.2.1)) ≥ 0)) (
  cnd (decide ((w64 (r13.2.1)) ≥ s8)) (
  cnd (decide ((w64 (r13.2.1)) ≤ (w64 (s8 + 1)))) (
  cnd (decide ((w64 (r13.2.1)) < (x_0.len : Int))) (
  b2s r13.1.a r13.1.len h14 fun s23 =>
  idx x_0.a x_0.len (w64 (r13.2.1)) fun a24 =>
  ldL (a24.add ((w64 (r13.2.1)).toNat * 1)) h14 fun o25 l25 c25 =>
  b2s o25 l25 h14 fun s26 =>
  cnd (seq s23 s26) (
  CallT Try.prog law7_awake_no [] h14 [.sc (.bool)] fun (r27 : Bool) h28 =>
  J21 r27 h28) (
  J21 false h14)) (
  J21 false h14)) (
  J21 false h14)) (
  J21 false h14)) (
  J21 false h14)))) (fun J9 =>
  LoopT (σ := Int × Int) (fun X30 s29 h31 => -- s29: t9, t10
  cnd (decide (s29.2 < (x_0.len : Int))) (
  idx x_0.a x_0.len s29.2 fun a32 =>
  ldL (a32.add (s29.2.toNat * 1)) h31 fun o33 l33 c33 =>
  CallT Try.prog snap_Fits_no [.int .i64 10, .int .i64 (l33 : Int)] h31 [.sc (.bool)] fun (r34 : Bool) h35 =>
  cnd (!r34) (
  CallT Try.prog law7_awake_no [] h35 [.sc (.bool)] fun (r36 : Bool) h37 =>
  R r36 h37) (
  idx x_0.a x_0.len s29.2 fun a38 =>
  ldL (a38.add (s29.2.toNat * 1)) h35 fun o39 l39 c39 =>
  CallT Try.prog snap_Save_no [.pointer r1.1, .int .i64 3, .int .i64 10, .int .u64 (IntKind.u64.wrap (s29.2)), .slice o39 l39 c39] h35 [.sc (.int .i64)] fun (r40 : Int) h41 =>
  cnd (r40 != 0) (
  J9 s29.1 h41) (
  X30 (s29.2, (w64 (s29.2 + 1))) h41))) (
  J9 s29.1 h31)) ((-1), 0) h7)) (fun J4 =>
  withJ (σ := Bool) (fun s42 h44 => -- s42: t25
  cnd s42 (
  withJ (σ := Bool) (fun s45 h47 => -- s45: t6
  R s45 h47) (fun J46 =>
  cnd (!r1.1.isNone) (
  CallT Try.prog law7_awake_no [] h44 [.sc (.bool)] fun (r48 : Bool) h49 =>
  J46 r48 h49) (
  J46 false h44))) (
  J4 () h44)) (fun J43 =>
  cnd r1.1.isNone (
  J43 true h2) (
  J43 (decide ((x_0.len : Int) > 12)) h2)))
theorem law7_SnapWhole_eq (x_0 : Sl) (x_1 : Int) (x_2 : Sl) (R : Bool → Heap → Prop) (h : Heap) : fnX Try.prog Fns.fns Try.f5 (.s .n (.s .n (.j [] (.j [(25, .bool)] .n (.s (.j [(6, .bool)] .n .n) .n)) (.s .n (.s .n (.j [(9, .int .i64)] (.s .n (.b (.l [(9, .int .i64), (10, .int .i64)] (.s (.s .n (.s .n .n)) (.s (.b (.s (.s .n (.s (.s .n .n) .n)) (.s (.s .n (.s .n .n)) .n))) .n))))) (.s .n (.s .n (.s (.s .n (.s (.j [(6, .bool)] .n .n) .n)) (.s .n (.j [(6, .bool)] .n .n))))))))))) [.sc (.bool)] [.slice x_0.a x_0.len x_0.cap, .int .i64 x_1, .slice x_2.a x_2.len x_2.cap] h R = law7_SnapWhole x_0 x_1 x_2 R h := by kernel_rfl
theorem law7_SnapWhole_call (x_0 : Sl) (x_1 : Int) (x_2 : Sl) {R : Bool → Heap → Prop} {h : Heap} (hx : law7_SnapWhole x_0 x_1 x_2 R h) : CallT Try.prog 5 [.slice x_0.a x_0.len x_0.cap, .int .i64 x_1, .slice x_2.a x_2.len x_2.cap] h [.sc (.bool)] R :=
  call_of_fnX fnsOk mixed Try.func5 (by kernel_rfl) (by rw [law7_SnapWhole_eq]; exact hx)

/-- stowage/stowagelaw7.SnapPlays (6) -/
def law7_SnapPlays (x_0 : Int) (x_1 : Int) (x_2 : Int) (x_3 : Sl) (R : Bool → Heap → Prop) (h : Heap) : Prop :=
  withJ (σ := Unit) (fun s1 h3 => -- s1: 
  CallT Try.prog disk_New_no [.int .i64 x_0] h3 [.sc (.ptr), .sc (.int .i64)] fun (r4 : (Option Addr) × Int) h5 =>
  CallT Try.prog ref5_New_no [.int .i64 x_0] h5 [.sc (.ptr), .sc (.int .i64)] fun (r6 : (Option Addr) × Int) h7 =>
  LoopT (σ := Int) (fun X9 s8 h10 => -- s8: t13
  withJ (σ := Int × Bool) (fun s11 h13 => -- s11: t56, t57
  withJ (σ := Unit) (fun s14 h16 => -- s14: 
  X9 (w64 (s8 + 1)) h16) (fun J15 =>
  idx x_3.a x_3.len s8 fun a17 =>
  ldI .i64 (a17.add (s8.toNat * 6)) h13 fun n18 =>
  ldI .i64 ((a17.add (s8.toNat * 6)).add 1) h13 fun n19 =>
  ldI .i64 ((a17.add (s8.toNat * 6)).add 2) h13 fun n20 =>
  ldI .u64 ((a17.add (s8.toNat * 6)).add 3) h13 fun n21 =>
  ldL ((a17.add (s8.toNat * 6)).add 4) h13 fun o22 l22 c22 =>
  ldL ((a17.add (s8.toNat * 6)).add 5) h13 fun o23 l23 c23 =>
  newB [.int .i64 0, .int .i64 0, .int .i64 0, .int .u64 0, .slice none 0 0, .slice none 0 0] 44 h13 fun a24 h25 =>
  stC a24 (.int .i64 n18) h25 fun h26 =>
  stC (a24.add 1) (.int .i64 n19) h26 fun h27 =>
  stC (a24.add 2) (.int .i64 n20) h27 fun h28 =>
  stC (a24.add 3) (.int .u64 n21) h28 fun h29 =>
  stC (a24.add 4) (.slice o22 l22 c22) h29 fun h30 =>
  stC (a24.add 5) (.slice o23 l23 c23) h30 fun h31 =>
  withJ (σ := Bool) (fun s32 h34 => -- s32: t15
  withJ (σ := Bool) (fun s35 h37 => -- s35: t167
  cnd s35 (
  R false h37) (
  J15 () h37)) (fun J36 =>
  cnd (!s32) (
  J36 true h34) (
  CallT Try.prog law6_Same_no [.pointer r4.1, .pointer r6.1] h34 [.sc (.bool)] fun (r38 : Bool) h39 =>
  J36 (!r38) h39))) (fun J33 =>
  ldI .i64 a24 h31 fun n40 =>
  cnd (n40 == 0) (
  ldI .u64 (a24.add 3) h31 fun n41 =>
  ldL (a24.add 4) h31 fun o42 l42 c42 =>
  ldI .u64 (a24.add 3) h31 fun n43 =>
  ldL (a24.add 4) h31 fun o44 l44 c44 =>
  CallT Try.prog snap_Save_no [.pointer r4.1, .int .i64 x_1, .int .i64 x_2, .int .u64 n41, .slice o42 l42 c42] h31 [.sc (.int .i64)] fun (r45 : Int) h46 =>
  (ldL (a24.add 4) h46 fun o47 l47 c47 =>
  (.slice o47 l47 c47 : Value) = .slice o44 l44 c44) ∧
  (ldI .u64 (a24.add 3) h46 fun n48 =>
  (.int .u64 n48 : Value) = .int .u64 n43) ∧
  CallT Try.prog ref7_Save_no [.pointer r6.1, .int .i64 x_1, .int .i64 x_2, .int .u64 n43, .slice o44 l44 c44] h46 [.sc (.int .i64)] fun (r49 : Int) h50 =>
  J33 (r45 == r49) h50) (
  cnd (n40 == 1) (
  CallT Try.prog snap_Load_no [.pointer r4.1, .int .i64 x_1, .int .i64 x_2] h31 [.sc (.sl), .sc (.int .u64), .sc (.int .i64)] fun (r51 : Sl × Int × Int) h52 =>
  CallT Try.prog ref7_Load_no [.pointer r6.1, .int .i64 x_1, .int .i64 x_2] h52 [.agg [.bool, .int .u64, .sl], .sc (.int .i64)] fun (r53 : (Bool × Int × Sl) × Int) h54 =>
  newB [.bool false, .int .u64 0, .slice none 0 0] 47 h54 fun a55 h56 =>
  stC a55 (.bool r53.1.1) h56 fun h57 =>
  stC (a55.add 1) (.int .u64 r53.1.2.1) h57 fun h58 =>
  stC (a55.add 2) (.slice r53.1.2.2.a r53.1.2.2.len r53.1.2.2.cap) h58 fun h59 =>
  b2s r51.1.a r51.1.len h59 fun s60 =>
  ldL (a55.add 2) h59 fun o61 l61 c61 =>
  b2s o61 l61 h59 fun s62 =>
  cnd (seq s60 s62) (
  ldI .u64 (a55.add 1) h59 fun n63 =>
  cnd (r51.2.1 == n63) (
  J33 (r51.2.2 == r53.2) h59) (
  J33 false h59)) (
  J33 false h59)) (
  cnd (n40 == 2) (
  ldL (a24.add 5) h31 fun o64 l64 c64 =>
  CallT Try.prog disk_Dev_Crash_no [.pointer r4.1, .slice o64 l64 c64] h31 [] fun (r65 : Unit) h66 =>
  ldL (a24.add 5) h66 fun o67 l67 c67 =>
  CallT Try.prog ref5_Dev_Crash_no [.pointer r6.1, .slice o67 l67 c67] h66 [] fun (r68 : Unit) h69 =>
  J33 true h69) (
  cnd (n40 == 3) (
  ldI .i64 (a24.add 1) h31 fun n70 =>
  CallT Try.prog disk_Dev_Fuse_no [.pointer r4.1, .int .i64 n70] h31 [] fun (r71 : Unit) h72 =>
  ldI .i64 (a24.add 1) h72 fun n73 =>
  nn r6.1 fun a74 =>
  stC (a74.add 2) (.int .i64 (maxI n73 (-1))) h72 fun h75 =>
  J33 true h75) (
  cnd (n40 == 4) (
  ldI .i64 (a24.add 1) h31 fun n76 =>
  ldI .i64 (a24.add 2) h31 fun n77 =>
  CallT Try.prog law5_Sector_no [.int .i64 n76, .int .i64 n77] h31 [.sc (.sl)] fun (r78 : Sl) h79 =>
  ldI .i64 (a24.add 1) h79 fun n80 =>
  CallT Try.prog disk_Dev_Write_no [.pointer r4.1, .int .i64 n80, .slice r78.a r78.len r78.cap] h79 [.sc (.int .i64)] fun (r81 : Int) h82 =>
  ldI .i64 (a24.add 1) h82 fun n83 =>
  b2s r78.a r78.len h82 fun s84 =>
  CallT Try.prog ref5_Dev_Write_no [.pointer r6.1, .int .i64 n83, .string s84] h82 [.sc (.int .i64)] fun (r85 : Int) h86 =>
  J33 true h86) (
  J33 true h31)))))))) (fun J12 =>
  cnd (decide (s8 < (x_3.len : Int))) (
  cnd (decide (s8 < 40)) (
  J12 (s8, (decide (s8 < 40))) h10) (
  R true h10)) (
  R true h10))) 0 h7) (fun J2 =>
  withJ (σ := Bool) (fun s87 h89 => -- s87: t31
  cnd s87 (
  withJ (σ := Bool) (fun s90 h92 => -- s90: t8
  R s90 h92) (fun J91 =>
  cnd (decide (x_0 < 1)) (
  CallT Try.prog law7_awake_no [] h89 [.sc (.bool)] fun (r93 : Bool) h94 =>
  J91 r93 h94) (
  cnd (decide (x_0 > 40)) (
  CallT Try.prog law7_awake_no [] h89 [.sc (.bool)] fun (r95 : Bool) h96 =>
  J91 r95 h96) (
  J91 false h89)))) (
  J2 () h89)) (fun J88 =>
  cnd (decide (x_0 < 1)) (
  J88 true h) (
  cnd (decide (x_0 > 40)) (
  J88 true h) (
  CallT Try.prog law7_awake_no [] h [.sc (.bool)] fun (r97 : Bool) h98 =>
  J88 (!r97) h98))))
theorem law7_SnapPlays_eq (x_0 : Int) (x_1 : Int) (x_2 : Int) (x_3 : Sl) (R : Bool → Heap → Prop) (h : Heap) : fnX Try.prog Fns.fns Try.f6 (.s .n (.j [] (.j [(31, .bool)] .n (.s (.j [(8, .bool)] .n .n) .n)) (.s .n (.s .n (.s (.s .n (.b (.l [(13, .int .i64)] (.j [(56, .int .i64), (57, .bool)] (.s .n (.s .n .n)) (.j [] (.b (.s .n (.s .n (.j [(15, .bool)] (.s .n (.b (.s .n (.s .n (.s .n (.s (.s .n (.s .n .n)) (.s .n (.s (.s .n .n) (.s .n (.s (.s .n .n) (.s .n (.s (.s .n (.s .n .n)) .n)))))))))))) (.j [(167, .bool)] .n (.s (.s .n .n) .n)))))) .n))))) (.s .n .n)))))) [.sc (.bool)] [.int .i64 x_0, .int .i64 x_1, .int .i64 x_2, .slice x_3.a x_3.len x_3.cap] h R = law7_SnapPlays x_0 x_1 x_2 x_3 R h := by kernel_rfl
theorem law7_SnapPlays_call (x_0 : Int) (x_1 : Int) (x_2 : Int) (x_3 : Sl) {R : Bool → Heap → Prop} {h : Heap} (hx : law7_SnapPlays x_0 x_1 x_2 x_3 R h) : CallT Try.prog 6 [.int .i64 x_0, .int .i64 x_1, .int .i64 x_2, .slice x_3.a x_3.len x_3.cap] h [.sc (.bool)] R :=
  call_of_fnX fnsOk mixed Try.func6 (by kernel_rfl) (by rw [law7_SnapPlays_eq]; exact hx)

/-- stowage/stowagelaw7.awake (17) -/
def law7_awake (R : Bool → Heap → Prop) (h : Heap) : Prop :=
  CallT Try.prog disk_New_no [.int .i64 8] h [.sc (.ptr), .sc (.int .i64)] fun (r1 : (Option Addr) × Int) h2 =>
  CallT Try.prog snap_Load_no [.pointer r1.1, .int .i64 0, .int .i64 4] h2 [.sc (.sl), .sc (.int .u64), .sc (.int .i64)] fun (r3 : Sl × Int × Int) h4 =>
  newB [.int .u8 97, .int .u8 98, .int .u8 99] 5 h4 fun a5 h6 =>
  markS a5 h6 fun h7 =>
  CallT Try.prog snap_Save_no [.pointer r1.1, .int .i64 0, .int .i64 4, .int .u64 1, .slice (some a5) 3 3] h7 [.sc (.int .i64)] fun (r8 : Int) h9 =>
  CallT Try.prog snap_Load_no [.pointer r1.1, .int .i64 0, .int .i64 4] h9 [.sc (.sl), .sc (.int .u64), .sc (.int .i64)] fun (r10 : Sl × Int × Int) h11 =>
  withJ (σ := Bool) (fun s12 h14 => -- s12: t0
  R s12 h14) (fun J13 =>
  cnd (r3.2.2 == 61) (
  cnd (r8 == 0) (
  cnd (r10.2.2 == 0) (
  cnd (r10.2.1 == 1) (
  b2s r10.1.a r10.1.len h11 fun s15 =>
  cnd (seq s15 (⟨#[97, 98, 99]⟩ : ByteArray)) (
  CallT Try.prog snap_Fits_no [.int .i64 2, .int .i64 256] h11 [.sc (.bool)] fun (r16 : Bool) h17 =>
  cnd r16 (
  CallT Try.prog snap_Fits_no [.int .i64 2, .int .i64 257] h17 [.sc (.bool)] fun (r18 : Bool) h19 =>
  J13 (!r18) h19) (
  J13 false h17)) (
  J13 false h11)) (
  J13 false h11)) (
  J13 false h11)) (
  J13 false h11)) (
  J13 false h11))
theorem law7_awake_eq (R : Bool → Heap → Prop) (h : Heap) : fnX Try.prog Fns.fns Try.f17 (.s .n (.s .n (.s .n (.s .n (.s .n (.j [(0, .bool)] .n .n)))))) [.sc (.bool)] [] h R = law7_awake R h := by kernel_rfl
theorem law7_awake_call {R : Bool → Heap → Prop} {h : Heap} (hx : law7_awake R h) : CallT Try.prog 17 [] h [.sc (.bool)] R :=
  call_of_fnX fnsOk mixed Try.func17 (by kernel_rfl) (by rw [law7_awake_eq]; exact hx)

end Go.Proofs.Ytmkobpkdodgboaa
