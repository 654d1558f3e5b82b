/- Go functions as short texts over the heap, and that each is what the loaded function comes to (the kernel compares them); written by a program. -/
import Derived.Test.YtkgocfaajfaidaaGBase
set_option linter.unusedVariables false
set_option maxRecDepth 100000
namespace Go.Proofs.Ytkgocfaajfaidaa
open Go D
/-- stowage/stowagelaw9.KvData (3) -/
def law9_KvData (n_0 : Int) (R : Bool → Heap → Prop) (h : Heap) : Prop :=
  CallT Try.prog kv_Data_no [.int .i64 n_0] h [.sc (.int .i64), .sc (.int .i64)] fun (r1 : Int × Int) h2 =>
  CallT Try.prog ref9_Data_no [.int .i64 n_0] h2 [.sc (.int .i64), .sc (.int .i64)] fun (r3 : Int × Int) h4 =>
  withJ (σ := Bool) (fun s5 h7 => -- s5: t2
  R s5 h7) (fun J6 =>
  cnd (r1.1 == r3.1) (
  cnd (r1.2 == r3.2) (
  CallT Try.prog law9_awake_no [] h4 [.sc (.bool)] fun (r8 : Bool) h9 =>
  J6 r8 h9) (
  J6 false h4)) (
  J6 false h4))
theorem law9_KvData_eq (n_0 : Int) (R : Bool → Heap → Prop) (h : Heap) : fnX Try.prog Fns.fns Try.f3 (.s .n (.s .n (.s .n (.j [(2, .bool)] .n .n)))) [.sc (.bool)] [.int .i64 n_0] h R = law9_KvData n_0 R h := by kernel_rfl
theorem law9_KvData_call (n_0 : Int) {R : Bool → Heap → Prop} {h : Heap} (hx : law9_KvData n_0 R h) : CallT Try.prog 3 [.int .i64 n_0] h [.sc (.bool)] R :=
  call_of_fnX fnsOk mixed Try.func3 (by kernel_rfl) (by rw [law9_KvData_eq]; exact hx)

/-- stowage/stowagelaw9.KvRefuses (4) -/
def law9_KvRefuses (x_0 : Sl) (R : Bool → Heap → Prop) (h : Heap) : Prop :=
  CallT Try.prog disk_New_no [.int .i64 40] h [.sc (.ptr), .sc (.int .i64)] fun (r1 : (Option Addr) × Int) h2 =>
  CallT Try.prog kv_Open_no [.pointer r1.1] h2 [.sc (.ptr), .sc (.int .i64)] fun (r3 : (Option Addr) × Int) h4 =>
  withJ (σ := Unit) (fun s5 h7 => -- s5: 
  LoopT (σ := Int) (fun X9 s8 h10 => -- s8: t7
  cnd (decide (s8 < (x_0.len : Int))) (
  withJ (σ := Unit) (fun s11 h13 => -- s11: 
  X9 (w64 (s8 + 1)) h13) (fun J12 =>
  CallT Try.prog law9_pairs_no [.pointer r3.1] h10 [.sc (.sl)] fun (r14 : Sl) h15 =>
  CallT Try.prog kv_Store_Commits_no [.pointer r3.1] h15 [.sc (.int .i64)] fun (r16 : Int) h17 =>
  idx x_0.a x_0.len s8 fun a18 =>
  ldL (a18.add (s8.toNat * 1)) h17 fun o19 l19 c19 =>
  CallT Try.prog kv_Store_Commit_no [.pointer r3.1, .slice o19 l19 c19] h17 [.sc (.int .i64)] fun (r20 : Int) h21 =>
  withJ (σ := Unit) (fun s22 h24 => -- s22: 
  withJ (σ := Bool) (fun s25 h27 => -- s25: t89
  cnd s25 (
  R false h27) (
  J12 () h27)) (fun J26 =>
  cnd (r20 == 0) (
  CallT Try.prog kv_Store_Commits_no [.pointer r3.1] h24 [.sc (.int .i64)] fun (r28 : Int) h29 =>
  J26 (r28 != (w64 (r16 + 1))) h29) (
  J26 false h24))) (fun J23 =>
  withJ (σ := Bool) (fun s30 h32 => -- s30: t80
  cnd s30 (
  R false h32) (
  J23 () h32)) (fun J31 =>
  cnd (r20 != 0) (
  cnd (r20 != 1) (
  cnd (r20 != 60) (
  J31 true h21) (
  CallT Try.prog law9_pairs_no [.pointer r3.1] h21 [.sc (.sl)] fun (r33 : Sl) h34 =>
  CallT Try.prog law9_equal_no [.slice r33.a r33.len r33.cap, .slice r14.a r14.len r14.cap] h34 [.sc (.bool)] fun (r35 : Bool) h36 =>
  cnd (!r35) (
  J31 true h36) (
  CallT Try.prog kv_Store_Commits_no [.pointer r3.1] h36 [.sc (.int .i64)] fun (r37 : Int) h38 =>
  J31 (r37 != r16) h38))) (
  CallT Try.prog law9_pairs_no [.pointer r3.1] h21 [.sc (.sl)] fun (r39 : Sl) h40 =>
  CallT Try.prog law9_equal_no [.slice r39.a r39.len r39.cap, .slice r14.a r14.len r14.cap] h40 [.sc (.bool)] fun (r41 : Bool) h42 =>
  cnd (!r41) (
  J31 true h42) (
  CallT Try.prog kv_Store_Commits_no [.pointer r3.1] h42 [.sc (.int .i64)] fun (r43 : Int) h44 =>
  J31 (r43 != r16) h44))) (
  J31 false h21))))) (
  CallT Try.prog kv_Open_no [.pointer r1.1] h10 [.sc (.ptr), .sc (.int .i64)] fun (r45 : (Option Addr) × Int) h46 =>
  withJ (σ := Bool) (fun s47 h49 => -- s47: t2
  R s47 h49) (fun J48 =>
  cnd (!r45.1.isNone) (
  cnd (r45.2 == 0) (
  CallT Try.prog law9_pairs_no [.pointer r45.1] h46 [.sc (.sl)] fun (r50 : Sl) h51 =>
  CallT Try.prog law9_pairs_no [.pointer r3.1] h51 [.sc (.sl)] fun (r52 : Sl) h53 =>
  CallT Try.prog law9_equal_no [.slice r50.a r50.len r50.cap, .slice r52.a r52.len r52.cap] h53 [.sc (.bool)] fun (r54 : Bool) h55 =>
  cnd r54 (
  CallT Try.prog law9_awake_no [] h55 [.sc (.bool)] fun (r56 : Bool) h57 =>
  J48 r56 h57) (
  J48 false h55)) (
  J48 false h46)) (
  J48 false h46)))) 0 h7) (fun J6 =>
  withJ (σ := Bool) (fun s58 h60 => -- s58: t32
  cnd s58 (
  withJ (σ := Bool) (fun s61 h63 => -- s61: t2
  R s61 h63) (fun J62 =>
  cnd (!r3.1.isNone) (
  cnd (r3.2 == 0) (
  CallT Try.prog law9_awake_no [] h60 [.sc (.bool)] fun (r64 : Bool) h65 =>
  J62 r64 h65) (
  J62 false h60)) (
  J62 false h60))) (
  J6 () h60)) (fun J59 =>
  cnd r3.1.isNone (
  J59 true h4) (
  cnd (r3.2 != 0) (
  J59 true h4) (
  J59 (decide ((x_0.len : Int) > 30)) h4))))
theorem law9_KvRefuses_eq (x_0 : Sl) (R : Bool → Heap → Prop) (h : Heap) : fnX Try.prog Fns.fns Try.f4 (.s .n (.s .n (.s .n (.j [] (.j [(32, .bool)] .n (.s (.j [(2, .bool)] .n .n) .n)) (.s (.s .n (.b (.l [(7, .int .i64)] (.s (.s .n (.s .n .n)) (.j [] (.b (.s .n (.s .n (.s .n (.j [] (.j [(80, .bool)] .n (.s (.s .n .n) .n)) (.j [(89, .bool)] .n (.s (.s .n .n) .n))))))) .n))))) (.s .n (.j [(2, .bool)] .n .n))))))) [.sc (.bool)] [.slice x_0.a x_0.len x_0.cap] h R = law9_KvRefuses x_0 R h := by kernel_rfl
theorem law9_KvRefuses_call (x_0 : Sl) {R : Bool → Heap → Prop} {h : Heap} (hx : law9_KvRefuses x_0 R h) : CallT Try.prog 4 [.slice x_0.a x_0.len x_0.cap] h [.sc (.bool)] R :=
  call_of_fnX fnsOk mixed Try.func4 (by kernel_rfl) (by rw [law9_KvRefuses_eq]; exact hx)

/-- stowage/stowagelaw9.KvSnapshots (5) -/
def law9_KvSnapshots (x_0 : Sl) (R : Bool → Heap → Prop) (h : Heap) : Prop :=
  newB [.bool false] 4 h fun a1 h2 =>
  CallT Try.prog disk_New_no [.int .i64 200] h2 [.sc (.ptr), .sc (.int .i64)] fun (r3 : (Option Addr) × Int) h4 =>
  CallT Try.prog kv_Open_no [.pointer r3.1] h4 [.sc (.ptr), .sc (.int .i64)] fun (r5 : (Option Addr) × Int) h6 =>
  withJ (σ := Unit) (fun s7 h9 => -- s7: 
  CallT Try.prog kv_Store_Tree_no [.pointer r5.1] h9 [.sc (.ptr)] fun (r10 : (Option Addr)) h11 =>
  cnd r10.isNone (
  stC a1 (.bool false) h11 fun h12 =>
  shutX h.size h12 fun h13 =>
  ldB a1 h13 fun b14 =>
  R b14 h13) (
  LoopT (σ := Int) (fun X16 s15 h17 => -- s15: t8
  cnd (decide (s15 < (x_0.len : Int))) (
  CallT Try.prog law9_pairs_no [.pointer r5.1] h17 [.sc (.sl)] fun (r18 : Sl) h19 =>
  newB [.slice none 0 0] 34 h19 fun a20 h21 =>
  stC a20 (.slice r18.a r18.len r18.cap) h21 fun h22 =>
  CallT Try.prog kv_Store_Tree_no [.pointer r5.1] h22 [.sc (.ptr)] fun (r23 : (Option Addr)) h24 =>
  idx x_0.a x_0.len s15 fun a25 =>
  ldL (a25.add (s15.toNat * 1)) h24 fun o26 l26 c26 =>
  CallT Try.prog kv_Store_Commit_no [.pointer r5.1, .slice o26 l26 c26] h24 [.sc (.int .i64)] fun (r27 : Int) h28 =>
  newB [.int .i64 0] 3 h28 fun a29 h30 =>
  stC a29 (.int .i64 0) h30 fun h31 =>
  CallT Try.prog btree_Tree_From_no [.pointer r23, .string (⟨#[]⟩ : ByteArray)] h31 [.sc (.raw)] fun (r32 : Value) h33 =>
  rngX Try.prog (r32) [.str, .str] (fun (s34 : ByteArray × ByteArray) M35 Q36 h37 =>
  M35 h37 fun h39 =>
  withJ (σ := Unit) (fun s40 h42 => -- s40: 
  ldI .i64 a29 h42 fun n43 =>
  stC a29 (.int .i64 (w64 (n43 + 1))) h42 fun h44 =>
  Q36 .nrm h44) (fun J41 =>
  withJ (σ := Bool) (fun s45 h47 => -- s45: t88
  cnd s45 (
  stC a1 (.bool false) h47 fun h48 =>
  Q36 .ret h48) (
  J41 () h47)) (fun J46 =>
  ldI .i64 a29 h39 fun n49 =>
  ldL a20 h39 fun o50 l50 c50 =>
  cnd (decide (n49 ≥ (l50 : Int))) (
  J46 true h39) (
  ldL a20 h39 fun o51 l51 c51 =>
  ldI .i64 a29 h39 fun n52 =>
  idx o51 l51 n52 fun a53 =>
  ldS (a53.add (n52.toNat * 2)) h39 fun s54 =>
  cnd (!seq s54 s34.1) (
  J46 true h39) (
  ldL a20 h39 fun o55 l55 c55 =>
  ldI .i64 a29 h39 fun n56 =>
  idx o55 l55 n56 fun a57 =>
  ldS ((a57.add (n56.toNat * 2)).add 1) h39 fun s58 =>
  J46 (!seq s58 s34.2) h39))))) (
  fun h59 =>
  ldI .i64 a29 h59 fun n60 =>
  ldL a20 h59 fun o61 l61 c61 =>
  cnd (n60 != (l61 : Int)) (
  stC a1 (.bool false) h59 fun h62 =>
  shutX h.size h62 fun h63 =>
  ldB a1 h63 fun b64 =>
  R b64 h63) (
  X16 (w64 (s15 + 1)) h59)) (
  fun h65 =>
  shutX h.size h65 fun h66 =>
  ldB a1 h66 fun b67 =>
  R b67 h66) [] h33) (
  withJ (σ := Unit) (fun s68 h70 => -- s68: 
  shutX h.size h70 fun h71 =>
  ldB a1 h71 fun b72 =>
  R b72 h71) (fun J69 =>
  CallT Try.prog btree_Tree_Len_no [.pointer r10] h17 [.sc (.int .i64)] fun (r73 : Int) h74 =>
  cnd (r73 == 0) (
  CallT Try.prog law9_awake_no [] h74 [.sc (.bool)] fun (r75 : Bool) h76 =>
  stC a1 (.bool r75) h76 fun h77 =>
  J69 () h77) (
  stC a1 (.bool false) h74 fun h78 =>
  J69 () h78)))) 0 h11)) (fun J8 =>
  withJ (σ := Bool) (fun s79 h81 => -- s79: t33
  cnd s79 (
  withJ (σ := Unit) (fun s82 h84 => -- s82: 
  shutX h.size h84 fun h85 =>
  ldB a1 h85 fun b86 =>
  R b86 h85) (fun J83 =>
  cnd (!r5.1.isNone) (
  cnd (r5.2 == 0) (
  CallT Try.prog law9_awake_no [] h81 [.sc (.bool)] fun (r87 : Bool) h88 =>
  stC a1 (.bool r87) h88 fun h89 =>
  J83 () h89) (
  stC a1 (.bool false) h81 fun h90 =>
  J83 () h90)) (
  stC a1 (.bool false) h81 fun h91 =>
  J83 () h91))) (
  J8 () h81)) (fun J80 =>
  cnd r5.1.isNone (
  J80 true h6) (
  cnd (r5.2 != 0) (
  J80 true h6) (
  J80 (decide ((x_0.len : Int) > 12)) h6))))
theorem law9_KvSnapshots_eq (x_0 : Sl) (R : Bool → Heap → Prop) (h : Heap) : fnX Try.prog Fns.fns Try.f5 (.s .n (.s .n (.s .n (.j [] (.j [(33, .bool)] .n (.s (.j [] .n .n) .n)) (.s .n (.s (.s .n (.s (.s .n .n) .n)) (.s (.s .n (.b (.l [(8, .int .i64)] (.s (.s .n (.s .n .n)) (.s (.b (.s .n (.s .n (.s .n (.s .n (.s (.s .n (.b (.r [.str, .str] (.s .n .n) (.b (.j [] (.j [(88, .bool)] .n (.s (.s .n .n) .n)) .n))))) (.s .n (.s (.s .n .n) .n)))))))) .n))))) (.j [] .n .n)))))))) [.sc (.bool)] [.slice x_0.a x_0.len x_0.cap] h R = law9_KvSnapshots x_0 R h := by kernel_rfl
theorem law9_KvSnapshots_call (x_0 : Sl) {R : Bool → Heap → Prop} {h : Heap} (hx : law9_KvSnapshots x_0 R h) : CallT Try.prog 5 [.slice x_0.a x_0.len x_0.cap] h [.sc (.bool)] R :=
  call_of_fnX fnsOk mixed Try.func5 (by kernel_rfl) (by rw [law9_KvSnapshots_eq]; exact hx)

/-- stowage/stowagelaw9.KvMerges (6) -/
def law9_KvMerges (x_0 : Sl) (R : Bool → Heap → Prop) (h : Heap) : Prop :=
  CallT Try.prog disk_New_no [.int .i64 1024] h [.sc (.ptr), .sc (.int .i64)] fun (r1 : (Option Addr) × Int) h2 =>
  CallT Try.prog disk_New_no [.int .i64 1024] h2 [.sc (.ptr), .sc (.int .i64)] fun (r3 : (Option Addr) × Int) h4 =>
  CallT Try.prog kv_Open_no [.pointer r1.1] h4 [.sc (.ptr), .sc (.int .i64)] fun (r5 : (Option Addr) × Int) h6 =>
  CallT Try.prog kv_Open_no [.pointer r3.1] h6 [.sc (.ptr), .sc (.int .i64)] fun (r7 : (Option Addr) × Int) h8 =>
  withJ (σ := Unit) (fun s9 h11 => -- s9: 
  LoopT (σ := Int) (fun X13 s12 h14 => -- s12: t11
  cnd (decide (s12 < (x_0.len : Int))) (
  withJ (σ := Unit) (fun s15 h17 => -- s15: 
  X13 (w64 (s12 + 1)) h17) (fun J16 =>
  withJ (σ := Bool) (fun s18 h20 => -- s18: t113
  cnd s18 (
  CallT Try.prog law9_awake_no [] h20 [.sc (.bool)] fun (r21 : Bool) h22 =>
  R r21 h22) (
  J16 () h20)) (fun J19 =>
  idx x_0.a x_0.len s12 fun a23 =>
  ldS (a23.add (s12.toNat * 3)) h14 fun s24 =>
  cnd (decide ((s24.size : Int) < 1)) (
  J19 true h14) (
  idx x_0.a x_0.len s12 fun a25 =>
  ldS (a25.add (s12.toNat * 3)) h14 fun s26 =>
  cnd (decide ((s26.size : Int) > 100)) (
  J19 true h14) (
  idx x_0.a x_0.len s12 fun a27 =>
  ldS ((a27.add (s12.toNat * 3)).add 1) h14 fun s28 =>
  cnd (decide ((s28.size : Int) > 600)) (
  J19 true h14) (
  idx x_0.a x_0.len s12 fun a29 =>
  ldB ((a29.add (s12.toNat * 3)).add 2) h14 fun b30 =>
  cnd b30 (
  idx x_0.a x_0.len s12 fun a31 =>
  ldS ((a31.add (s12.toNat * 3)).add 1) h14 fun s32 =>
  J19 (!seq s32 (⟨#[]⟩ : ByteArray)) h14) (
  J19 false h14))))))) (
  CallT Try.prog kv_Store_Commit_no [.pointer r5.1, .slice x_0.a x_0.len x_0.cap] h14 [.sc (.int .i64)] fun (r33 : Int) h34 =>
  LoopT (σ := Int) (fun X36 s35 h37 => -- s35: t13
  cnd (decide (s35 < (x_0.len : Int))) (
  lsl 3 x_0.a x_0.cap s35 (w64 (s35 + 1)) (x_0.cap : Int) fun o38 l38 c38 =>
  CallT Try.prog kv_Store_Commit_no [.pointer r7.1, .slice o38 l38 c38] h37 [.sc (.int .i64)] fun (r39 : Int) h40 =>
  cnd (r39 != 0) (
  R false h40) (
  X36 (w64 (s35 + 1)) h40)) (
  withJ (σ := Bool) (fun s41 h43 => -- s41: t2
  R s41 h43) (fun J42 =>
  cnd (r33 == 0) (
  CallT Try.prog law9_pairs_no [.pointer r5.1] h37 [.sc (.sl)] fun (r44 : Sl) h45 =>
  CallT Try.prog law9_pairs_no [.pointer r7.1] h45 [.sc (.sl)] fun (r46 : Sl) h47 =>
  CallT Try.prog law9_equal_no [.slice r44.a r44.len r44.cap, .slice r46.a r46.len r46.cap] h47 [.sc (.bool)] fun (r48 : Bool) h49 =>
  cnd r48 (
  CallT Try.prog kv_Store_Commits_no [.pointer r5.1] h49 [.sc (.int .i64)] fun (r50 : Int) h51 =>
  cnd (r50 == 1) (
  CallT Try.prog kv_Store_Commits_no [.pointer r7.1] h51 [.sc (.int .i64)] fun (r52 : Int) h53 =>
  cnd (r52 == (x_0.len : Int)) (
  CallT Try.prog law9_awake_no [] h53 [.sc (.bool)] fun (r54 : Bool) h55 =>
  J42 r54 h55) (
  J42 false h53)) (
  J42 false h51)) (
  J42 false h49)) (
  J42 false h37)))) 0 h34)) 0 h11) (fun J10 =>
  withJ (σ := Bool) (fun s56 h58 => -- s56: t50
  cnd s56 (
  withJ (σ := Bool) (fun s59 h61 => -- s59: t2
  R s59 h61) (fun J60 =>
  cnd (!r5.1.isNone) (
  cnd (!r7.1.isNone) (
  cnd (r5.2 == 0) (
  cnd (r7.2 == 0) (
  CallT Try.prog law9_awake_no [] h58 [.sc (.bool)] fun (r62 : Bool) h63 =>
  J60 r62 h63) (
  J60 false h58)) (
  J60 false h58)) (
  J60 false h58)) (
  J60 false h58))) (
  J10 () h58)) (fun J57 =>
  cnd r5.1.isNone (
  J57 true h8) (
  cnd r7.1.isNone (
  J57 true h8) (
  cnd (r5.2 != 0) (
  J57 true h8) (
  cnd (r7.2 != 0) (
  J57 true h8) (
  J57 (decide ((x_0.len : Int) > 40)) h8))))))
theorem law9_KvMerges_eq (x_0 : Sl) (R : Bool → Heap → Prop) (h : Heap) : fnX Try.prog Fns.fns Try.f6 (.s .n (.s .n (.s .n (.s .n (.s .n (.j [] (.j [(50, .bool)] .n (.s (.j [(2, .bool)] .n .n) .n)) (.s (.s .n (.b (.l [(11, .int .i64)] (.s (.s .n (.s .n .n)) (.j [] (.b (.j [(113, .bool)] .n (.s (.s .n .n) .n))) .n))))) (.s .n (.s (.s .n (.b (.l [(13, .int .i64)] (.s (.s .n (.s .n .n)) (.s (.b (.s .n (.s (.s .n .n) .n))) .n))))) (.j [(2, .bool)] .n .n)))))))))) [.sc (.bool)] [.slice x_0.a x_0.len x_0.cap] h R = law9_KvMerges x_0 R h := by kernel_rfl
theorem law9_KvMerges_call (x_0 : Sl) {R : Bool → Heap → Prop} {h : Heap} (hx : law9_KvMerges x_0 R h) : CallT Try.prog 6 [.slice x_0.a x_0.len x_0.cap] h [.sc (.bool)] R :=
  call_of_fnX fnsOk mixed Try.func6 (by kernel_rfl) (by rw [law9_KvMerges_eq]; exact hx)

/-- stowage/stowagelaw9.KvChecks (7) -/
def law9_KvChecks (x_0 : Sl) (R : Bool → Heap → Prop) (h : Heap) : Prop :=
  CallT Try.prog disk_New_no [.int .i64 160] h [.sc (.ptr), .sc (.int .i64)] fun (r1 : (Option Addr) × Int) h2 =>
  CallT Try.prog kv_Open_no [.pointer r1.1] h2 [.sc (.ptr), .sc (.int .i64)] fun (r3 : (Option Addr) × Int) h4 =>
  withJ (σ := Unit) (fun s5 h7 => -- s5: 
  LoopT (σ := Int) (fun X9 s8 h10 => -- s8: t7
  cnd (decide (s8 < (x_0.len : Int))) (
  withJ (σ := Unit) (fun s11 h13 => -- s11: 
  X9 (w64 (s8 + 1)) h13) (fun J12 =>
  idx x_0.a x_0.len s8 fun a14 =>
  ldL (a14.add (s8.toNat * 1)) h10 fun o15 l15 c15 =>
  CallT Try.prog kv_Store_Commit_no [.pointer r3.1, .slice o15 l15 c15] h10 [.sc (.int .i64)] fun (r16 : Int) h17 =>
  CallT Try.prog law9_pairs_no [.pointer r3.1] h17 [.sc (.sl)] fun (r18 : Sl) h19 =>
  CallT Try.prog kv_Store_Commits_no [.pointer r3.1] h19 [.sc (.int .i64)] fun (r20 : Int) h21 =>
  CallT Try.prog kv_Store_Epoch_no [.pointer r3.1] h21 [.sc (.int .i64)] fun (r22 : Int) h23 =>
  CallT Try.prog kv_Store_Checkpoint_no [.pointer r3.1] h23 [.sc (.int .i64)] fun (r24 : Int) h25 =>
  cnd (r24 == 60) (
  withJ (σ := Bool) (fun s26 h28 => -- s26: t75
  cnd s26 (
  R false h28) (
  J12 () h28)) (fun J27 =>
  CallT Try.prog kv_Store_Epoch_no [.pointer r3.1] h25 [.sc (.int .i64)] fun (r29 : Int) h30 =>
  cnd (r29 != r22) (
  J27 true h30) (
  CallT Try.prog law9_pairs_no [.pointer r3.1] h30 [.sc (.sl)] fun (r31 : Sl) h32 =>
  CallT Try.prog law9_equal_no [.slice r31.a r31.len r31.cap, .slice r18.a r18.len r18.cap] h32 [.sc (.bool)] fun (r33 : Bool) h34 =>
  J27 (!r33) h34))) (
  withJ (σ := Unit) (fun s35 h37 => -- s35: 
  CallT Try.prog kv_Open_no [.pointer r1.1] h37 [.sc (.ptr), .sc (.int .i64)] fun (r38 : (Option Addr) × Int) h39 =>
  withJ (σ := Bool) (fun s40 h42 => -- s40: t133
  cnd s40 (
  R false h42) (
  J12 () h42)) (fun J41 =>
  cnd r38.1.isNone (
  J41 true h39) (
  cnd (r38.2 != 0) (
  J41 true h39) (
  CallT Try.prog law9_pairs_no [.pointer r38.1] h39 [.sc (.sl)] fun (r43 : Sl) h44 =>
  CallT Try.prog law9_equal_no [.slice r43.a r43.len r43.cap, .slice r18.a r18.len r18.cap] h44 [.sc (.bool)] fun (r45 : Bool) h46 =>
  cnd (!r45) (
  J41 true h46) (
  CallT Try.prog kv_Store_Commits_no [.pointer r38.1] h46 [.sc (.int .i64)] fun (r47 : Int) h48 =>
  cnd (r47 != r20) (
  J41 true h48) (
  CallT Try.prog kv_Store_Epoch_no [.pointer r38.1] h48 [.sc (.int .i64)] fun (r49 : Int) h50 =>
  J41 (r49 != (w64 (r22 + 1))) h50)))))) (fun J36 =>
  withJ (σ := Bool) (fun s51 h53 => -- s51: t102
  cnd s51 (
  R false h53) (
  J36 () h53)) (fun J52 =>
  cnd (r24 != 0) (
  J52 true h25) (
  CallT Try.prog law9_pairs_no [.pointer r3.1] h25 [.sc (.sl)] fun (r54 : Sl) h55 =>
  CallT Try.prog law9_equal_no [.slice r54.a r54.len r54.cap, .slice r18.a r18.len r18.cap] h55 [.sc (.bool)] fun (r56 : Bool) h57 =>
  cnd (!r56) (
  J52 true h57) (
  CallT Try.prog kv_Store_Commits_no [.pointer r3.1] h57 [.sc (.int .i64)] fun (r58 : Int) h59 =>
  cnd (r58 != r20) (
  J52 true h59) (
  CallT Try.prog kv_Store_Epoch_no [.pointer r3.1] h59 [.sc (.int .i64)] fun (r60 : Int) h61 =>
  cnd (r60 != (w64 (r22 + 1))) (
  J52 true h61) (
  CallT Try.prog kv_Store_Room_no [.pointer r3.1] h61 [.sc (.int .i64)] fun (r62 : Int) h63 =>
  J52 (r62 != 40) h63))))))))) (
  CallT Try.prog law9_awake_no [] h10 [.sc (.bool)] fun (r64 : Bool) h65 =>
  R r64 h65)) 0 h7) (fun J6 =>
  withJ (σ := Bool) (fun s66 h68 => -- s66: t33
  cnd s66 (
  withJ (σ := Bool) (fun s69 h71 => -- s69: t2
  R s69 h71) (fun J70 =>
  cnd (!r3.1.isNone) (
  cnd (r3.2 == 0) (
  CallT Try.prog law9_awake_no [] h68 [.sc (.bool)] fun (r72 : Bool) h73 =>
  J70 r72 h73) (
  J70 false h68)) (
  J70 false h68))) (
  J6 () h68)) (fun J67 =>
  cnd r3.1.isNone (
  J67 true h4) (
  cnd (r3.2 != 0) (
  J67 true h4) (
  J67 (decide ((x_0.len : Int) > 12)) h4))))
theorem law9_KvChecks_eq (x_0 : Sl) (R : Bool → Heap → Prop) (h : Heap) : fnX Try.prog Fns.fns Try.f7 (.s .n (.s .n (.s .n (.j [] (.j [(33, .bool)] .n (.s (.j [(2, .bool)] .n .n) .n)) (.s (.s .n (.b (.l [(7, .int .i64)] (.s (.s .n (.s .n .n)) (.j [] (.b (.s .n (.s .n (.s .n (.s (.s .n (.s (.s (.j [(75, .bool)] .n (.s (.s .n .n) .n)) .n) .n)) (.j [] (.j [(102, .bool)] .n (.s (.s .n .n) .n)) (.s .n (.j [(133, .bool)] .n (.s (.s .n .n) .n))))))))) .n))))) (.s .n .n)))))) [.sc (.bool)] [.slice x_0.a x_0.len x_0.cap] h R = law9_KvChecks x_0 R h := by kernel_rfl
theorem law9_KvChecks_call (x_0 : Sl) {R : Bool → Heap → Prop} {h : Heap} (hx : law9_KvChecks x_0 R h) : CallT Try.prog 7 [.slice x_0.a x_0.len x_0.cap] h [.sc (.bool)] R :=
  call_of_fnX fnsOk mixed Try.func7 (by kernel_rfl) (by rw [law9_KvChecks_eq]; exact hx)

/-- stowage/stowagelaw9.KvAgain (8) -/
def law9_KvAgain (x_0 : Sl) (x_1 : Int) (R : Bool → Heap → Prop) (h : Heap) : Prop :=
  CallT Try.prog disk_New_no [.int .i64 96] h [.sc (.ptr), .sc (.int .i64)] fun (r1 : (Option Addr) × Int) h2 =>
  CallT Try.prog kv_Open_no [.pointer r1.1] h2 [.sc (.ptr), .sc (.int .i64)] fun (r3 : (Option Addr) × Int) h4 =>
  withJ (σ := Unit) (fun s5 h7 => -- s5: 
  LoopT (σ := (Option Addr) × Int) (fun X9 s8 h10 => -- s8: t7, t9
  cnd (decide (s8.2 < (x_0.len : Int))) (
  withJ (σ := (Option Addr)) (fun s11 h13 => -- s11: t7
  X9 (s11, (w64 (s8.2 + 1))) h13) (fun J12 =>
  idx x_0.a x_0.len s8.2 fun a14 =>
  ldL (a14.add (s8.2.toNat * 1)) h10 fun o15 l15 c15 =>
  CallT Try.prog kv_Store_Commit_no [.pointer s8.1, .slice o15 l15 c15] h10 [.sc (.int .i64)] fun (r16 : Int) h17 =>
  withJ (σ := Bool) (fun s18 h20 => -- s18: t64
  cnd s18 (
  CallT Try.prog law9_pairs_no [.pointer s8.1] h20 [.sc (.sl)] fun (r21 : Sl) h22 =>
  CallT Try.prog kv_Store_Commits_no [.pointer s8.1] h22 [.sc (.int .i64)] fun (r23 : Int) h24 =>
  CallT Try.prog disk_Dev_Crash_no [.pointer r1.1, .slice none 0 0] h24 [] fun (r25 : Unit) h26 =>
  CallT Try.prog kv_Open_no [.pointer r1.1] h26 [.sc (.ptr), .sc (.int .i64)] fun (r27 : (Option Addr) × Int) h28 =>
  withJ (σ := Unit) (fun s29 h31 => -- s29: 
  J12 r27.1 h31) (fun J30 =>
  withJ (σ := Bool) (fun s32 h34 => -- s32: t99
  cnd s32 (
  R false h34) (
  J30 () h34)) (fun J33 =>
  cnd r27.1.isNone (
  J33 true h28) (
  cnd (r27.2 != 0) (
  J33 true h28) (
  CallT Try.prog disk_Dev_Pending_no [.pointer r1.1] h28 [.sc (.int .i64)] fun (r35 : Int) h36 =>
  cnd (r35 != 0) (
  J33 true h36) (
  CallT Try.prog kv_Store_Commits_no [.pointer r27.1] h36 [.sc (.int .i64)] fun (r37 : Int) h38 =>
  cnd (r37 != r23) (
  J33 true h38) (
  CallT Try.prog law9_pairs_no [.pointer r27.1] h38 [.sc (.sl)] fun (r39 : Sl) h40 =>
  CallT Try.prog law9_equal_no [.slice r39.a r39.len r39.cap, .slice r21.a r21.len r21.cap] h40 [.sc (.bool)] fun (r41 : Bool) h42 =>
  J33 (!r41) h42))))))) (
  J12 s8.1 h20)) (fun J19 =>
  cnd (decide (x_1 > 0)) (
  neZ x_1 (
  J19 ((s8.2.tmod x_1) == 0) h17)) (
  J19 false h17)))) (
  CallT Try.prog kv_Open_no [.pointer r1.1] h10 [.sc (.ptr), .sc (.int .i64)] fun (r43 : (Option Addr) × Int) h44 =>
  withJ (σ := Bool) (fun s45 h47 => -- s45: t4
  R s45 h47) (fun J46 =>
  cnd (!r43.1.isNone) (
  cnd (r43.2 == 0) (
  CallT Try.prog law9_pairs_no [.pointer r43.1] h44 [.sc (.sl)] fun (r48 : Sl) h49 =>
  CallT Try.prog law9_pairs_no [.pointer s8.1] h49 [.sc (.sl)] fun (r50 : Sl) h51 =>
  CallT Try.prog law9_equal_no [.slice r48.a r48.len r48.cap, .slice r50.a r50.len r50.cap] h51 [.sc (.bool)] fun (r52 : Bool) h53 =>
  cnd r52 (
  CallT Try.prog kv_Store_Commits_no [.pointer r43.1] h53 [.sc (.int .i64)] fun (r54 : Int) h55 =>
  CallT Try.prog kv_Store_Commits_no [.pointer s8.1] h55 [.sc (.int .i64)] fun (r56 : Int) h57 =>
  cnd (r54 == r56) (
  CallT Try.prog kv_Store_Epoch_no [.pointer r43.1] h57 [.sc (.int .i64)] fun (r58 : Int) h59 =>
  CallT Try.prog kv_Store_Epoch_no [.pointer s8.1] h59 [.sc (.int .i64)] fun (r60 : Int) h61 =>
  cnd (r58 == r60) (
  CallT Try.prog law9_awake_no [] h61 [.sc (.bool)] fun (r62 : Bool) h63 =>
  J46 r62 h63) (
  J46 false h61)) (
  J46 false h57)) (
  J46 false h53)) (
  J46 false h44)) (
  J46 false h44)))) (r3.1, 0) h7) (fun J6 =>
  withJ (σ := Bool) (fun s64 h66 => -- s64: t35
  cnd s64 (
  withJ (σ := Bool) (fun s67 h69 => -- s67: t4
  R s67 h69) (fun J68 =>
  cnd (!r3.1.isNone) (
  cnd (r3.2 == 0) (
  CallT Try.prog law9_awake_no [] h66 [.sc (.bool)] fun (r70 : Bool) h71 =>
  J68 r70 h71) (
  J68 false h66)) (
  J68 false h66))) (
  J6 () h66)) (fun J65 =>
  cnd r3.1.isNone (
  J65 true h4) (
  cnd (r3.2 != 0) (
  J65 true h4) (
  J65 (decide ((x_0.len : Int) > 15)) h4))))
theorem law9_KvAgain_eq (x_0 : Sl) (x_1 : Int) (R : Bool → Heap → Prop) (h : Heap) : fnX Try.prog Fns.fns Try.f8 (.s .n (.s .n (.s .n (.j [] (.j [(35, .bool)] .n (.s (.j [(4, .bool)] .n .n) .n)) (.s (.s .n (.b (.l [(7, .ptr), (9, .int .i64)] (.s (.s .n (.s .n .n)) (.j [(7, .ptr)] (.b (.s .n (.j [(64, .bool)] .n (.s (.s .n (.s .n (.s .n (.s .n (.j [] (.j [(99, .bool)] .n (.s (.s .n .n) .n)) .n))))) .n)))) .n))))) (.s .n (.j [(4, .bool)] .n .n))))))) [.sc (.bool)] [.slice x_0.a x_0.len x_0.cap, .int .i64 x_1] h R = law9_KvAgain x_0 x_1 R h := by kernel_rfl
theorem law9_KvAgain_call (x_0 : Sl) (x_1 : Int) {R : Bool → Heap → Prop} {h : Heap} (hx : law9_KvAgain x_0 x_1 R h) : CallT Try.prog 8 [.slice x_0.a x_0.len x_0.cap, .int .i64 x_1] h [.sc (.bool)] R :=
  call_of_fnX fnsOk mixed Try.func8 (by kernel_rfl) (by rw [law9_KvAgain_eq]; exact hx)

/-- stowage/stowagelaw9.KvLasts (9) -/
def law9_KvLasts (x_0 : Sl) (x_1 : Sl) (x_2 : Int) (x_3 : Sl) (x_4 : Int) (R : Bool → Heap → Prop) (h : Heap) : Prop :=
  withJ (σ := Unit) (fun s1 h3 => -- s1: 
  CallT Try.prog disk_New_no [.int .i64 x_4] h3 [.sc (.ptr), .sc (.int .i64)] fun (r4 : (Option Addr) × Int) h5 =>
  CallT Try.prog kv_Open_no [.pointer r4.1] h5 [.sc (.ptr), .sc (.int .i64)] fun (r6 : (Option Addr) × Int) h7 =>
  withJ (σ := Unit) (fun s8 h10 => -- s8: 
  CallT Try.prog disk_Dev_Fuse_no [.pointer r4.1, .int .i64 x_2] h10 [] fun (r11 : Unit) h12 =>
  newB [.slice none 0 0] 34 h12 fun a13 h14 =>
  withJ (σ := Sl × Int) (fun s15 h17 => -- s15: t15, t16
  CallT Try.prog disk_Dev_Crash_no [.pointer r4.1, .slice x_3.a x_3.len x_3.cap] h17 [] fun (r18 : Unit) h19 =>
  CallT Try.prog kv_Open_no [.pointer r4.1] h19 [.sc (.ptr), .sc (.int .i64)] fun (r20 : (Option Addr) × Int) h21 =>
  withJ (σ := Unit) (fun s22 h24 => -- s22: 
  CallT Try.prog kv_Store_Commits_no [.pointer r20.1] h24 [.sc (.int .i64)] fun (r25 : Int) h26 =>
  withJ (σ := Bool) (fun s27 h29 => -- s27: t10
  R s27 h29) (fun J28 =>
  cnd (decide (r25 ≥ s15.2)) (
  cnd (decide (r25 < (s15.1.len : Int))) (
  cnd (decide (r25 ≤ (w64 (s15.2 + 1)))) (
  idx s15.1.a s15.1.len r25 fun a30 =>
  ldL (a30.add (r25.toNat * 1)) h26 fun o31 l31 c31 =>
  CallT Try.prog law9_pairs_no [.pointer r20.1] h26 [.sc (.sl)] fun (r32 : Sl) h33 =>
  (ldL (a30.add (r25.toNat * 1)) h33 fun o34 l34 c34 =>
  (.slice o34 l34 c34 : Value) = .slice o31 l31 c31) ∧
  CallT Try.prog law9_equal_no [.slice r32.a r32.len r32.cap, .slice o31 l31 c31] h33 [.sc (.bool)] fun (r35 : Bool) h36 =>
  cnd r35 (
  CallT Try.prog law9_awake_no [] h36 [.sc (.bool)] fun (r37 : Bool) h38 =>
  J28 r37 h38) (
  J28 false h36)) (
  J28 false h26)) (
  J28 false h26)) (
  J28 false h26))) (fun J23 =>
  withJ (σ := Bool) (fun s39 h41 => -- s39: t152
  cnd s39 (
  R false h41) (
  J23 () h41)) (fun J40 =>
  cnd r20.1.isNone (
  J40 true h21) (
  J40 (r20.2 != 0) h21)))) (fun J16 =>
  LoopT (σ := Sl × Int × Int) (fun X43 s42 h44 => -- s42: t15, t16, t17
  cnd (decide (s42.2.2 < (x_0.len : Int))) (
  withJ (σ := Sl × Int) (fun s45 h47 => -- s45: t15, t16
  X43 (s45.1, s45.2, (w64 (s42.2.2 + 1))) h47) (fun J46 =>
  withJ (σ := Unit) (fun s48 h50 => -- s48: 
  idx s42.1.a s42.1.len (w64 ((s42.1.len : Int) - 1)) fun a51 =>
  ldL (a51.add ((w64 ((s42.1.len : Int) - 1)).toNat * 1)) h50 fun o52 l52 c52 =>
  idx x_0.a x_0.len s42.2.2 fun a53 =>
  ldL (a53.add (s42.2.2.toNat * 1)) h50 fun o54 l54 c54 =>
  CallT Try.prog law9_changes_no [.slice o54 l54 c54] h50 [.sc (.sl)] fun (r55 : Sl) h56 =>
  LoopT (σ := Sl × Int) (fun X58 s57 h59 => -- s57: t19, t21
  cnd (decide (s57.2 < (r55.len : Int))) (
  idx r55.a r55.len s57.2 fun a60 =>
  ldS (a60.add (s57.2.toNat * 3)) h59 fun s61 =>
  ldS ((a60.add (s57.2.toNat * 3)).add 1) h59 fun s62 =>
  ldB ((a60.add (s57.2.toNat * 3)).add 2) h59 fun b63 =>
  CallT Try.prog ref9_With_no [.slice s57.1.a s57.1.len s57.1.cap, .agg #[.string s61, .string s62, .bool b63]] h59 [.sc (.sl)] fun (r64 : Sl) h65 =>
  X58 (r64, (w64 (s57.2 + 1))) h65) (
  idx x_0.a x_0.len s42.2.2 fun a66 =>
  ldL (a66.add (s42.2.2.toNat * 1)) h59 fun o67 l67 c67 =>
  CallT Try.prog kv_Store_Commit_no [.pointer r6.1, .slice o67 l67 c67] h59 [.sc (.int .i64)] fun (r68 : Int) h69 =>
  withJ (σ := Sl) (fun s70 h72 => -- s70: t15
  cnd (r68 == 50) (
  J16 (s70, s42.2.1) h72) (
  withJ (σ := Int) (fun s73 h75 => -- s73: t16
  withJ (σ := Bool) (fun s76 h78 => -- s76: t138
  cnd s76 (
  R false h78) (
  J46 (s70, s73) h78)) (fun J77 =>
  idx s70.a s70.len (w64 ((s70.len : Int) - 1)) fun a79 =>
  ldL (a79.add ((w64 ((s70.len : Int) - 1)).toNat * 1)) h75 fun o80 l80 c80 =>
  CallT Try.prog law9_pairs_no [.pointer r6.1] h75 [.sc (.sl)] fun (r81 : Sl) h82 =>
  (ldL (a79.add ((w64 ((s70.len : Int) - 1)).toNat * 1)) h82 fun o83 l83 c83 =>
  (.slice o83 l83 c83 : Value) = .slice o80 l80 c80) ∧
  CallT Try.prog law9_equal_no [.slice r81.a r81.len r81.cap, .slice o80 l80 c80] h82 [.sc (.bool)] fun (r84 : Bool) h85 =>
  cnd (!r84) (
  J77 true h85) (
  CallT Try.prog kv_Store_Commits_no [.pointer r6.1] h85 [.sc (.int .i64)] fun (r86 : Int) h87 =>
  J77 (r86 != s73) h87))) (fun J74 =>
  cnd (r68 == 0) (
  J74 (w64 (s42.2.1 + 1)) h72) (
  J74 s42.2.1 h72)))) (fun J71 =>
  withJ (σ := Bool) (fun s88 h90 => -- s88: t112
  cnd s88 (
  newB [.slice s57.1.a s57.1.len s57.1.cap] 34 h90 fun a91 h92 =>
  ldRow (1 * 1) a91 h92 fun cs96 =>
  app [.slice none 0 0] 34 1 24 s42.1.a s42.1.len s42.1.cap cs96 1 h92 fun o93 c94 h95 =>
  J71 (⟨o93, (s42.1.len + 1), c94⟩ : Sl) h95) (
  J71 s42.1 h90)) (fun J89 =>
  cnd (r68 == 0) (
  J89 true h69) (
  J89 (r68 == 50) h69))))) ((⟨o52, l52, c52⟩ : Sl), 0) h56) (fun J49 =>
  withJ (σ := Bool) (fun s97 h99 => -- s97: t73
  cnd s97 (
  CallT Try.prog kv_Store_Checkpoint_no [.pointer r6.1] h99 [.sc (.int .i64)] fun (r100 : Int) h101 =>
  cnd (r100 == 50) (
  J16 (s42.1, s42.2.1) h101) (
  J49 () h101)) (
  J49 () h99)) (fun J98 =>
  cnd (decide (s42.2.2 < (x_1.len : Int))) (
  idx x_1.a x_1.len s42.2.2 fun a102 =>
  ldB (a102.add (s42.2.2.toNat * 1)) h44 fun b103 =>
  J98 b103 h44) (
  J98 false h44))))) (
  J16 (s42.1, s42.2.1) h44)) ((⟨(some a13), 1, 1⟩ : Sl), 0, 0) h14)) (fun J9 =>
  withJ (σ := Bool) (fun s104 h106 => -- s104: t53
  cnd s104 (
  R false h106) (
  J9 () h106)) (fun J105 =>
  cnd r6.1.isNone (
  J105 true h7) (
  J105 (r6.2 != 0) h7)))) (fun J2 =>
  withJ (σ := Bool) (fun s107 h109 => -- s107: t36
  cnd s107 (
  CallT Try.prog law9_awake_no [] h109 [.sc (.bool)] fun (r110 : Bool) h111 =>
  R r110 h111) (
  J2 () h109)) (fun J108 =>
  cnd (decide (x_4 < 32)) (
  J108 true h) (
  cnd (decide (x_4 > 200)) (
  J108 true h) (
  J108 (decide ((x_0.len : Int) > 20)) h))))
theorem law9_KvLasts_eq (x_0 : Sl) (x_1 : Sl) (x_2 : Int) (x_3 : Sl) (x_4 : Int) (R : Bool → Heap → Prop) (h : Heap) : fnX Try.prog Fns.fns Try.f9 (.s .n (.j [] (.j [(36, .bool)] .n (.s (.s .n .n) .n)) (.s .n (.s .n (.j [] (.j [(53, .bool)] .n (.s (.s .n .n) .n)) (.s .n (.s .n (.s .n (.j [(15, .sl), (16, .int .i64)] (.s .n (.b (.l [(15, .sl), (16, .int .i64), (17, .int .i64)] (.s (.s .n (.s .n .n)) (.j [(15, .sl), (16, .int .i64)] (.b (.j [] (.j [(73, .bool)] .n (.s (.s .n (.s .n (.s .n .n))) .n)) (.s .n (.s .n (.s (.s .n (.b (.l [(19, .sl), (21, .int .i64)] (.s (.s .n (.s .n .n)) (.s (.b .n) .n))))) (.s .n (.j [(15, .sl)] (.j [(112, .bool)] .n (.s .n .n)) (.s (.s .n (.s .n .n)) (.j [(16, .int .i64)] (.s .n (.s .n .n)) (.j [(138, .bool)] .n (.s (.s .n .n) .n))))))))))) .n))))) (.s .n (.s .n (.j [] (.j [(152, .bool)] .n (.s (.s .n .n) .n)) (.s .n (.j [(10, .bool)] .n .n)))))))))))))) [.sc (.bool)] [.slice x_0.a x_0.len x_0.cap, .slice x_1.a x_1.len x_1.cap, .int .i64 x_2, .slice x_3.a x_3.len x_3.cap, .int .i64 x_4] h R = law9_KvLasts x_0 x_1 x_2 x_3 x_4 R h := by kernel_rfl
theorem law9_KvLasts_call (x_0 : Sl) (x_1 : Sl) (x_2 : Int) (x_3 : Sl) (x_4 : Int) {R : Bool → Heap → Prop} {h : Heap} (hx : law9_KvLasts x_0 x_1 x_2 x_3 x_4 R h) : CallT Try.prog 9 [.slice x_0.a x_0.len x_0.cap, .slice x_1.a x_1.len x_1.cap, .int .i64 x_2, .slice x_3.a x_3.len x_3.cap, .int .i64 x_4] h [.sc (.bool)] R :=
  call_of_fnX fnsOk mixed Try.func9 (by kernel_rfl) (by rw [law9_KvLasts_eq]; exact hx)

/-- stowage/kv.Data (10) -/
def kv_Data (n_0 : Int) (R : Int × Int → Heap → Prop) (h : Heap) : Prop :=
  cnd (decide (n_0 < 0)) (
  R (0, 0) h) (
  R ((w64 ((w64 (n_0.tdiv 8)) * 4)), (w64 (n_0 - (w64 ((w64 (n_0.tdiv 8)) * 4))))) h)
theorem kv_Data_eq (n_0 : Int) (R : Int × Int → Heap → Prop) (h : Heap) : fnX Try.prog Fns.fns Try.f10 (.s .n (.s (.s .n (.s (.s .n .n) .n)) (.s .n (.s .n .n)))) [.sc (.int .i64), .sc (.int .i64)] [.int .i64 n_0] h R = kv_Data n_0 R h := by kernel_rfl
theorem kv_Data_call (n_0 : Int) {R : Int × Int → Heap → Prop} {h : Heap} (hx : kv_Data n_0 R h) : CallT Try.prog 10 [.int .i64 n_0] h [.sc (.int .i64), .sc (.int .i64)] R :=
  call_of_fnX fnsOk mixed Try.func10 (by kernel_rfl) (by rw [kv_Data_eq]; exact hx)

/-- stowage/stowageref9.Data (11) -/
def ref9_Data (n_0 : Int) (R : Int × Int → Heap → Prop) (h : Heap) : Prop :=
  cnd (decide (n_0 < 0)) (
  R (0, 0) h) (
  R ((w64 (4 * (w64 (n_0.tdiv 8)))), (w64 (n_0 - (w64 (4 * (w64 (n_0.tdiv 8))))))) h)
theorem ref9_Data_eq (n_0 : Int) (R : Int × Int → Heap → Prop) (h : Heap) : fnX Try.prog Fns.fns Try.f11 (.s .n (.s (.s .n (.s (.s .n .n) .n)) (.s .n .n))) [.sc (.int .i64), .sc (.int .i64)] [.int .i64 n_0] h R = ref9_Data n_0 R h := by kernel_rfl
theorem ref9_Data_call (n_0 : Int) {R : Int × Int → Heap → Prop} {h : Heap} (hx : ref9_Data n_0 R h) : CallT Try.prog 11 [.int .i64 n_0] h [.sc (.int .i64), .sc (.int .i64)] R :=
  call_of_fnX fnsOk mixed Try.func11 (by kernel_rfl) (by rw [ref9_Data_eq]; exact hx)

/-- stowage/stowagelaw9.awake (12) -/
def law9_awake (R : Bool → Heap → Prop) (h : Heap) : Prop :=
  CallT Try.prog disk_New_no [.int .i64 64] h [.sc (.ptr), .sc (.int .i64)] fun (r1 : (Option Addr) × Int) h2 =>
  CallT Try.prog kv_Open_no [.pointer r1.1] h2 [.sc (.ptr), .sc (.int .i64)] fun (r3 : (Option Addr) × Int) h4 =>
  withJ (σ := Unit) (fun s5 h7 => -- s5: 
  newB [.string (⟨#[97]⟩ : ByteArray), .string (⟨#[49]⟩ : ByteArray), .bool false] 49 h7 fun a8 h9 =>
  CallT Try.prog kv_Store_Commit_no [.pointer r3.1, .slice (some a8) 1 1] h9 [.sc (.int .i64)] fun (r10 : Int) h11 =>
  CallT Try.prog kv_Data_no [.int .i64 64] h11 [.sc (.int .i64), .sc (.int .i64)] fun (r12 : Int × Int) h13 =>
  withJ (σ := Bool) (fun s14 h16 => -- s14: t0
  R s14 h16) (fun J15 =>
  cnd (r10 == 0) (
  CallT Try.prog kv_Store_Commits_no [.pointer r3.1] h13 [.sc (.int .i64)] fun (r17 : Int) h18 =>
  cnd (r17 == 1) (
  CallT Try.prog kv_Store_Room_no [.pointer r3.1] h18 [.sc (.int .i64)] fun (r19 : Int) h20 =>
  cnd (r19 == 15) (
  CallT Try.prog kv_Store_Tree_no [.pointer r3.1] h20 [.sc (.ptr)] fun (r21 : (Option Addr)) h22 =>
  cnd (!r21.isNone) (
  CallT Try.prog kv_Store_Tree_no [.pointer r3.1] h22 [.sc (.ptr)] fun (r23 : (Option Addr)) h24 =>
  CallT Try.prog btree_Tree_Len_no [.pointer r23] h24 [.sc (.int .i64)] fun (r25 : Int) h26 =>
  cnd (r25 == 1) (
  cnd (r12.1 == 32) (
  J15 (r12.2 == 32) h26) (
  J15 false h26)) (
  J15 false h26)) (
  J15 false h22)) (
  J15 false h20)) (
  J15 false h18)) (
  J15 false h13))) (fun J6 =>
  withJ (σ := Bool) (fun s27 h29 => -- s27: t22
  cnd s27 (
  R false h29) (
  J6 () h29)) (fun J28 =>
  cnd r3.1.isNone (
  J28 true h4) (
  J28 (r3.2 != 0) h4)))
theorem law9_awake_eq (R : Bool → Heap → Prop) (h : Heap) : fnX Try.prog Fns.fns Try.f12 (.s .n (.s .n (.s .n (.j [] (.j [(22, .bool)] .n (.s (.s .n .n) .n)) (.s .n (.s .n (.j [(0, .bool)] .n .n))))))) [.sc (.bool)] [] h R = law9_awake R h := by kernel_rfl
theorem law9_awake_call {R : Bool → Heap → Prop} {h : Heap} (hx : law9_awake R h) : CallT Try.prog 12 [] h [.sc (.bool)] R :=
  call_of_fnX fnsOk mixed Try.func12 (by kernel_rfl) (by rw [law9_awake_eq]; exact hx)

/-- stowage/kv.Open (14) -/
def kv_Open (x_0 : Option Addr) (R : (Option Addr) × Int → Heap → Prop) (h : Heap) : Prop :=
  withJ (σ := Unit) (fun s1 h3 => -- s1: 
  CallT Try.prog disk_Dev_Size_no [.pointer x_0] h3 [.sc (.int .i64)] fun (r4 : Int) h5 =>
  CallT Try.prog btree_New_no [] h5 [.sc (.ptr)] fun (r6 : (Option Addr)) h7 =>
  newB [.pointer x_0, .int .i64 (w64 (r4.tdiv 8)), .int .u64 0, .pointer none, .pointer r6, .int .i64 0, .nilIface] 72 h7 fun a8 h9 =>
  ldI .i64 (a8.add 1) h9 fun n10 =>
  CallT Try.prog snap_Load_no [.pointer x_0, .int .i64 0, .int .i64 n10] h9 [.sc (.sl), .sc (.int .u64), .sc (.int .i64)] fun (r11 : Sl × Int × Int) h12 =>
  withJ (σ := Unit) (fun s13 h15 => -- s13: 
  ldI .i64 (a8.add 1) h15 fun n16 =>
  ldI .i64 (a8.add 1) h15 fun n17 =>
  ldI .u64 (a8.add 2) h15 fun n18 =>
  CallT Try.prog wal_Open_no [.pointer x_0, .int .i64 (w64 (2 * n16)), .int .i64 (w64 (2 * n17)), .int .u64 n18] h15 [.sc (.ptr), .sc (.sl), .sc (.int .i64)] fun (r19 : (Option Addr) × Sl × Int) h20 =>
  cnd (r19.2.2 != 0) (
  R (none, r19.2.2) h20) (
  stC (a8.add 3) (.pointer r19.1) h20 fun h21 =>
  LoopT (σ := Int) (fun X23 s22 h24 => -- s22: t83
  cnd (decide (s22 < (r19.2.1.len : Int))) (
  idx r19.2.1.a r19.2.1.len s22 fun a25 =>
  ldL (a25.add (s22.toNat * 1)) h24 fun o26 l26 c26 =>
  LoopT (σ := Int) (fun X28 s27 h29 => -- s27: t89
  cnd (decide (s27 < (l26 : Int))) (
  idx o26 l26 s27 fun a30 =>
  ldS (a30.add (s27.toNat * 1)) h29 fun s31 =>
  CallT Try.prog kv_change_no [.string s31] h29 [.agg [.str, .str, .bool], .sc (.bool)] fun (r32 : (ByteArray × ByteArray × Bool) × Bool) h33 =>
  newB [.string (⟨#[]⟩ : ByteArray), .string (⟨#[]⟩ : ByteArray), .bool false] 49 h33 fun a34 h35 =>
  stC a34 (.string r32.1.1) h35 fun h36 =>
  stC (a34.add 1) (.string r32.1.2.1) h36 fun h37 =>
  stC (a34.add 2) (.bool r32.1.2.2) h37 fun h38 =>
  cnd (!r32.2) (
  R (none, 62) h38) (
  ldP (a8.add 4) h38 fun p39 =>
  ldS a34 h38 fun s40 =>
  ldS (a34.add 1) h38 fun s41 =>
  ldB (a34.add 2) h38 fun b42 =>
  CallT Try.prog kv_apply_no [.pointer p39, .agg #[.string s40, .string s41, .bool b42]] h38 [.sc (.ptr)] fun (r43 : (Option Addr)) h44 =>
  stC (a8.add 4) (.pointer r43) h44 fun h45 =>
  X28 (w64 (s27 + 1)) h45)) (
  ldI .i64 (a8.add 5) h29 fun n46 =>
  stC (a8.add 5) (.int .i64 (w64 (n46 + 1))) h29 fun h47 =>
  X23 (w64 (s22 + 1)) h47)) 0 h24) (
  R ((some a8), 0) h24)) 0 h21)) (fun J14 =>
  cnd (r11.2.2 == 61) (
  J14 () h12) (
  cnd (r11.2.2 == 0) (
  CallT Try.prog kv_Store_restore_no [.pointer (some a8), .slice r11.1.a r11.1.len r11.1.cap] h12 [.sc (.bool)] fun (r48 : Bool) h49 =>
  cnd (!r48) (
  R (none, 62) h49) (
  stC (a8.add 2) (.int .u64 r11.2.1) h49 fun h50 =>
  J14 () h50)) (
  R (none, r11.2.2) h12)))) (fun J2 =>
  withJ (σ := Bool) (fun s51 h53 => -- s51: t22
  cnd s51 (
  R (none, 1) h53) (
  J2 () h53)) (fun J52 =>
  cnd x_0.isNone (
  J52 true h) (
  CallT Try.prog disk_Dev_Size_no [.pointer x_0] h [.sc (.int .i64)] fun (r54 : Int) h55 =>
  J52 (decide (r54 < 32)) h55)))
theorem kv_Open_eq (x_0 : Option Addr) (R : (Option Addr) × Int → Heap → Prop) (h : Heap) : fnX Try.prog Fns.fns Try.f14 (.s .n (.j [] (.j [(22, .bool)] .n (.s (.s .n .n) .n)) (.s .n (.s .n (.j [] (.s .n (.b (.s .n (.s .n (.s .n (.s (.s (.s .n (.s (.s .n .n) .n)) .n) (.s .n .n))))))) (.s .n (.s (.s .n (.s (.s .n .n) .n)) (.s .n (.s (.s .n (.b (.l [(83, .int .i64)] (.s .n (.s (.s .n .n) (.s (.b (.s .n (.s (.s .n (.b (.l [(89, .int .i64)] (.s .n (.s (.s .n .n) (.s (.b (.s .n (.s .n (.s (.s .n (.s (.s .n .n) .n)) .n)))) .n)))))) .n))) .n)))))) (.s .n .n)))))))))) [.sc (.ptr), .sc (.int .i64)] [.pointer x_0] h R = kv_Open x_0 R h := by kernel_rfl
theorem kv_Open_call (x_0 : Option Addr) {R : (Option Addr) × Int → Heap → Prop} {h : Heap} (hx : kv_Open x_0 R h) : CallT Try.prog 14 [.pointer x_0] h [.sc (.ptr), .sc (.int .i64)] R :=
  call_of_fnX fnsOk mixed Try.func14 (by kernel_rfl) (by rw [kv_Open_eq]; exact hx)

/-- stowage/stowagelaw9.pairs (15) -/
def law9_pairs (s_0 : Option Addr) (R : Sl → Heap → Prop) (h : Heap) : Prop :=
  newB [.slice none 0 0] 34 h fun a1 h2 =>
  CallT Try.prog kv_Store_Tree_no [.pointer s_0] h2 [.sc (.ptr)] fun (r3 : (Option Addr)) h4 =>
  CallT Try.prog btree_Tree_From_no [.pointer r3, .string (⟨#[]⟩ : ByteArray)] h4 [.sc (.raw)] fun (r5 : Value) h6 =>
  rngX Try.prog (r5) [.str, .str] (fun (s7 : ByteArray × ByteArray) M8 Q9 h10 =>
  M8 h10 fun h12 =>
  ldL a1 h12 fun o13 l13 c13 =>
  newB [.string s7.1, .string s7.2] 47 h12 fun a14 h15 =>
  ldRow (1 * 2) a14 h15 fun cs19 =>
  app [.string (⟨#[]⟩ : ByteArray), .string (⟨#[]⟩ : ByteArray)] 47 2 32 o13 l13 c13 cs19 1 h15 fun o16 c17 h18 =>
  stC a1 (.slice o16 (l13 + 1) c17) h18 fun h20 =>
  Q9 .nrm h20) (
  fun h21 =>
  ldL a1 h21 fun o22 l22 c22 =>
  shutX h.size h21 fun h23 =>
  R (⟨o22, l22, c22⟩ : Sl) h23) (
  fun _ => False) [] h6
theorem law9_pairs_eq (s_0 : Option Addr) (R : Sl → Heap → Prop) (h : Heap) : fnX Try.prog Fns.fns Try.f15 (.s .n (.s .n (.s (.s .n (.b (.r [.str, .str] (.s .n .n) (.b .n)))) (.s .n .n)))) [.sc (.sl)] [.pointer s_0] h R = law9_pairs s_0 R h := by kernel_rfl
theorem law9_pairs_call (s_0 : Option Addr) {R : Sl → Heap → Prop} {h : Heap} (hx : law9_pairs s_0 R h) : CallT Try.prog 15 [.pointer s_0] h [.sc (.sl)] R :=
  call_of_fnX fnsOk mixed Try.func15 (by kernel_rfl) (by rw [law9_pairs_eq]; exact hx)

/-- (*stowage/kv.Store).Commits (16) -/
def kv_Store_Commits (s_0 : Option Addr) (R : Int → Heap → Prop) (h : Heap) : Prop :=
  nn s_0 fun a1 =>
  ldI .i64 (a1.add 5) h fun n2 =>
  R n2 h
theorem kv_Store_Commits_eq (s_0 : Option Addr) (R : Int → Heap → Prop) (h : Heap) : fnX Try.prog Fns.fns Try.f16 (.s .n (.s .n .n)) [.sc (.int .i64)] [.pointer s_0] h R = kv_Store_Commits s_0 R h := by kernel_rfl
theorem kv_Store_Commits_call (s_0 : Option Addr) {R : Int → Heap → Prop} {h : Heap} (hx : kv_Store_Commits s_0 R h) : CallT Try.prog 16 [.pointer s_0] h [.sc (.int .i64)] R :=
  call_of_fnX fnsOk mixed Try.func16 (by kernel_rfl) (by rw [kv_Store_Commits_eq]; exact hx)

/-- (*stowage/kv.Store).Commit (17) -/
def kv_Store_Commit (x_0 : Option Addr) (x_1 : Sl) (R : Int → Heap → Prop) (h : Heap) : Prop :=
  CallT Try.prog kv_Store_dead_no [.pointer x_0] h [.sc (.bool)] fun (r1 : Bool) h2 =>
  cnd r1 (
  R 50 h2) (
  nn x_0 fun a3 =>
  ldP (a3.add 4) h2 fun p4 =>
  LoopT (σ := Sl × (Option Addr) × Int) (fun X6 s5 h7 => -- s5: t5, t6, t19
  cnd (decide (s5.2.2 < (x_1.len : Int))) (
  idx x_1.a x_1.len s5.2.2 fun a8 =>
  ldS (a8.add (s5.2.2.toNat * 3)) h7 fun s9 =>
  ldS ((a8.add (s5.2.2.toNat * 3)).add 1) h7 fun s10 =>
  ldB ((a8.add (s5.2.2.toNat * 3)).add 2) h7 fun b11 =>
  newB [.string (⟨#[]⟩ : ByteArray), .string (⟨#[]⟩ : ByteArray), .bool false] 49 h7 fun a12 h13 =>
  stC a12 (.string s9) h13 fun h14 =>
  stC (a12.add 1) (.string s10) h14 fun h15 =>
  stC (a12.add 2) (.bool b11) h15 fun h16 =>
  ldS a12 h16 fun s17 =>
  ldS (a12.add 1) h16 fun s18 =>
  ldB (a12.add 2) h16 fun b19 =>
  CallT Try.prog kv_may_no [.agg #[.string s17, .string s18, .bool b19]] h16 [.sc (.bool)] fun (r20 : Bool) h21 =>
  cnd (!r20) (
  R 1 h21) (
  ldS a12 h21 fun s22 =>
  ldS (a12.add 1) h21 fun s23 =>
  ldB (a12.add 2) h21 fun b24 =>
  CallT Try.prog kv_record_no [.agg #[.string s22, .string s23, .bool b24]] h21 [.sc (.str)] fun (r25 : ByteArray) h26 =>
  newB [.string r25] 9 h26 fun a27 h28 =>
  ldRow (1 * 1) a27 h28 fun cs32 =>
  app [.string (⟨#[]⟩ : ByteArray)] 9 1 16 s5.1.a s5.1.len s5.1.cap cs32 1 h28 fun o29 c30 h31 =>
  ldS a12 h31 fun s33 =>
  ldS (a12.add 1) h31 fun s34 =>
  ldB (a12.add 2) h31 fun b35 =>
  CallT Try.prog kv_apply_no [.pointer s5.2.1, .agg #[.string s33, .string s34, .bool b35]] h31 [.sc (.ptr)] fun (r36 : (Option Addr)) h37 =>
  X6 ((⟨o29, (s5.1.len + 1), c30⟩ : Sl), r36, (w64 (s5.2.2 + 1))) h37)) (
  nn x_0 fun a38 =>
  ldI .i64 (a38.add 1) h7 fun n39 =>
  CallT Try.prog kv_size_no [.pointer s5.2.1] h7 [.sc (.int .i64)] fun (r40 : Int) h41 =>
  (ldI .i64 (a38.add 1) h41 fun n42 =>
  (.int .i64 n42 : Value) = .int .i64 n39) ∧
  CallT Try.prog snap_Fits_no [.int .i64 n39, .int .i64 r40] h41 [.sc (.bool)] fun (r43 : Bool) h44 =>
  cnd (!r43) (
  R 60 h44) (
  withJ (σ := Unit) (fun s45 h47 => -- s45: 
  nn x_0 fun a48 =>
  ldP (a48.add 3) h47 fun p49 =>
  CallT Try.prog wal_Log_Append_no [.pointer p49, .slice s5.1.a s5.1.len s5.1.cap] h47 [.sc (.int .i64)] fun (r50 : Int) h51 =>
  CallT Try.prog kv_Store_told_no [.pointer x_0, .int .i64 r50] h51 [.sc (.int .i64)] fun (r52 : Int) h53 =>
  cnd (r52 != 0) (
  R r52 h53) (
  nn x_0 fun a54 =>
  stC (a54.add 4) (.pointer s5.2.1) h53 fun h55 =>
  nn x_0 fun a56 =>
  ldI .i64 (a56.add 5) h55 fun n57 =>
  nn x_0 fun a58 =>
  stC (a58.add 5) (.int .i64 (w64 (n57 + 1))) h55 fun h59 =>
  R 0 h59)) (fun J46 =>
  nn x_0 fun a60 =>
  ldP (a60.add 3) h44 fun p61 =>
  CallT Try.prog wal_Log_Room_no [.pointer p61] h44 [.sc (.int .i64)] fun (r62 : Int) h63 =>
  CallT Try.prog wal_Need_no [.slice s5.1.a s5.1.len s5.1.cap] h63 [.sc (.int .i64)] fun (r64 : Int) h65 =>
  cnd (decide (r62 < r64)) (
  CallT Try.prog kv_Store_Checkpoint_no [.pointer x_0] h65 [.sc (.int .i64)] fun (r66 : Int) h67 =>
  cnd (r66 != 0) (
  R r66 h67) (
  nn x_0 fun a68 =>
  ldP (a68.add 3) h67 fun p69 =>
  CallT Try.prog wal_Log_Room_no [.pointer p69] h67 [.sc (.int .i64)] fun (r70 : Int) h71 =>
  CallT Try.prog wal_Need_no [.slice s5.1.a s5.1.len s5.1.cap] h71 [.sc (.int .i64)] fun (r72 : Int) h73 =>
  cnd (decide (r70 < r72)) (
  R 60 h73) (
  J46 () h73))) (
  J46 () h65))))) ((⟨none, 0, 0⟩ : Sl), p4, 0) h2)
theorem kv_Store_Commit_eq (x_0 : Option Addr) (x_1 : Sl) (R : Int → Heap → Prop) (h : Heap) : fnX Try.prog Fns.fns Try.f17 (.s .n (.s (.s .n (.s (.s .n .n) .n)) (.s .n (.s .n (.s (.s .n (.b (.l [(5, .sl), (6, .ptr), (19, .int .i64)] (.s .n (.s (.s .n .n) (.s (.b (.s .n (.s (.s .n (.s (.s .n .n) .n)) (.s .n .n)))) .n)))))) (.s (.s .n (.s (.s .n .n) .n)) (.j [] (.s .n (.s (.s (.s .n (.s .n (.s (.s .n .n) .n))) (.s .n (.s (.s .n .n) .n))) .n)) (.s (.s .n (.s .n (.s (.s .n .n) .n))) (.s .n (.s .n (.s .n .n))))))))))) [.sc (.int .i64)] [.pointer x_0, .slice x_1.a x_1.len x_1.cap] h R = kv_Store_Commit x_0 x_1 R h := by kernel_rfl
theorem kv_Store_Commit_call (x_0 : Option Addr) (x_1 : Sl) {R : Int → Heap → Prop} {h : Heap} (hx : kv_Store_Commit x_0 x_1 R h) : CallT Try.prog 17 [.pointer x_0, .slice x_1.a x_1.len x_1.cap] h [.sc (.int .i64)] R :=
  call_of_fnX fnsOk mixed Try.func17 (by kernel_rfl) (by rw [kv_Store_Commit_eq]; exact hx)

/-- stowage/stowagelaw9.equal (18) -/
def law9_equal (a_0 : Sl) (b_1 : Sl) (R : Bool → Heap → Prop) (h : Heap) : Prop :=
  cnd ((a_0.len : Int) != (b_1.len : Int)) (
  R false h) (
  LoopT (σ := Int) (fun X2 s1 h3 => -- s1: i
  cnd (decide (s1 < (a_0.len : Int))) (
  idx a_0.a a_0.len s1 fun a4 =>
  ldS (a4.add (s1.toNat * 2)) h3 fun s5 =>
  ldS ((a4.add (s1.toNat * 2)).add 1) h3 fun s6 =>
  idx b_1.a b_1.len s1 fun a7 =>
  ldS (a7.add (s1.toNat * 2)) h3 fun s8 =>
  ldS ((a7.add (s1.toNat * 2)).add 1) h3 fun s9 =>
  cnd (!((seq s5 s8) && ((seq s6 s9) && true))) (
  R false h3) (
  X2 (w64 (s1 + 1)) h3)) (
  R true h3)) 0 h)
theorem law9_equal_eq (a_0 : Sl) (b_1 : Sl) (R : Bool → Heap → Prop) (h : Heap) : fnX Try.prog Fns.fns Try.f18 (.s .n (.s (.s .n (.s (.s .n .n) .n)) (.s (.s .n (.b (.l [(5, .int .i64)] (.s (.s .n (.s .n .n)) (.s (.b (.s .n (.s (.s .n .n) .n))) .n))))) (.s .n .n)))) [.sc (.bool)] [.slice a_0.a a_0.len a_0.cap, .slice b_1.a b_1.len b_1.cap] h R = law9_equal a_0 b_1 R h := by kernel_rfl
theorem law9_equal_call (a_0 : Sl) (b_1 : Sl) {R : Bool → Heap → Prop} {h : Heap} (hx : law9_equal a_0 b_1 R h) : CallT Try.prog 18 [.slice a_0.a a_0.len a_0.cap, .slice b_1.a b_1.len b_1.cap] h [.sc (.bool)] R :=
  call_of_fnX fnsOk mixed Try.func18 (by kernel_rfl) (by rw [law9_equal_eq]; exact hx)

/-- (*stowage/kv.Store).Tree (19) -/
def kv_Store_Tree (s_0 : Option Addr) (R : (Option Addr) → Heap → Prop) (h : Heap) : Prop :=
  nn s_0 fun a1 =>
  ldP (a1.add 4) h fun p2 =>
  R p2 h
theorem kv_Store_Tree_eq (s_0 : Option Addr) (R : (Option Addr) → Heap → Prop) (h : Heap) : fnX Try.prog Fns.fns Try.f19 (.s .n (.s .n .n)) [.sc (.ptr)] [.pointer s_0] h R = kv_Store_Tree s_0 R h := by kernel_rfl
theorem kv_Store_Tree_call (s_0 : Option Addr) {R : (Option Addr) → Heap → Prop} {h : Heap} (hx : kv_Store_Tree s_0 R h) : CallT Try.prog 19 [.pointer s_0] h [.sc (.ptr)] R :=
  call_of_fnX fnsOk mixed Try.func19 (by kernel_rfl) (by rw [kv_Store_Tree_eq]; exact hx)

/-- (*stowage/kv.Store).Epoch (22) -/
def kv_Store_Epoch (s_0 : Option Addr) (R : Int → Heap → Prop) (h : Heap) : Prop :=
  nn s_0 fun a1 =>
  ldI .u64 (a1.add 2) h fun n2 =>
  R (w64 (n2)) h
theorem kv_Store_Epoch_eq (s_0 : Option Addr) (R : Int → Heap → Prop) (h : Heap) : fnX Try.prog Fns.fns Try.f22 (.s .n (.s .n .n)) [.sc (.int .i64)] [.pointer s_0] h R = kv_Store_Epoch s_0 R h := by kernel_rfl
theorem kv_Store_Epoch_call (s_0 : Option Addr) {R : Int → Heap → Prop} {h : Heap} (hx : kv_Store_Epoch s_0 R h) : CallT Try.prog 22 [.pointer s_0] h [.sc (.int .i64)] R :=
  call_of_fnX fnsOk mixed Try.func22 (by kernel_rfl) (by rw [kv_Store_Epoch_eq]; exact hx)

/-- (*stowage/kv.Store).Checkpoint (23) -/
def kv_Store_Checkpoint (s_0 : Option Addr) (R : Int → Heap → Prop) (h : Heap) : Prop :=
  CallT Try.prog kv_Store_dead_no [.pointer s_0] h [.sc (.bool)] fun (r1 : Bool) h2 =>
  cnd r1 (
  R 50 h2) (
  nn s_0 fun a3 =>
  ldP a3 h2 fun p4 =>
  nn s_0 fun a5 =>
  ldI .i64 (a5.add 1) h2 fun n6 =>
  nn s_0 fun a7 =>
  ldI .u64 (a7.add 2) h2 fun n8 =>
  CallT Try.prog kv_Store_state_no [.pointer s_0] h2 [.sc (.sl)] fun (r9 : Sl) h10 =>
  (ldI .u64 (a7.add 2) h10 fun n11 =>
  (.int .u64 n11 : Value) = .int .u64 n8) ∧
  (ldI .i64 (a5.add 1) h10 fun n12 =>
  (.int .i64 n12 : Value) = .int .i64 n6) ∧
  (ldP a3 h10 fun p13 =>
  (.pointer p13 : Value) = .pointer p4) ∧
  CallT Try.prog snap_Save_no [.pointer p4, .int .i64 0, .int .i64 n6, .int .u64 (IntKind.u64.wrap (n8 + 1)), .slice r9.a r9.len r9.cap] h10 [.sc (.int .i64)] fun (r14 : Int) h15 =>
  CallT Try.prog kv_Store_told_no [.pointer s_0, .int .i64 r14] h15 [.sc (.int .i64)] fun (r16 : Int) h17 =>
  cnd (r16 != 0) (
  R r16 h17) (
  nn s_0 fun a18 =>
  ldI .u64 (a18.add 2) h17 fun n19 =>
  nn s_0 fun a20 =>
  stC (a20.add 2) (.int .u64 (IntKind.u64.wrap (n19 + 1))) h17 fun h21 =>
  nn s_0 fun a22 =>
  ldP a22 h21 fun p23 =>
  nn s_0 fun a24 =>
  ldI .i64 (a24.add 1) h21 fun n25 =>
  nn s_0 fun a26 =>
  ldI .i64 (a26.add 1) h21 fun n27 =>
  nn s_0 fun a28 =>
  ldI .u64 (a28.add 2) h21 fun n29 =>
  CallT Try.prog wal_Begin_no [.pointer p23, .int .i64 (w64 (2 * n25)), .int .i64 (w64 (2 * n27)), .int .u64 n29] h21 [.sc (.ptr)] fun (r30 : (Option Addr)) h31 =>
  nn s_0 fun a32 =>
  stC (a32.add 3) (.pointer r30) h31 fun h33 =>
  R 0 h33))
theorem kv_Store_Checkpoint_eq (s_0 : Option Addr) (R : Int → Heap → Prop) (h : Heap) : fnX Try.prog Fns.fns Try.f23 (.s .n (.s (.s .n (.s (.s .n .n) .n)) (.s (.s .n (.s .n (.s (.s .n .n) .n))) (.s .n (.s .n (.s .n .n)))))) [.sc (.int .i64)] [.pointer s_0] h R = kv_Store_Checkpoint s_0 R h := by kernel_rfl
theorem kv_Store_Checkpoint_call (s_0 : Option Addr) {R : Int → Heap → Prop} {h : Heap} (hx : kv_Store_Checkpoint s_0 R h) : CallT Try.prog 23 [.pointer s_0] h [.sc (.int .i64)] R :=
  call_of_fnX fnsOk mixed Try.func23 (by kernel_rfl) (by rw [kv_Store_Checkpoint_eq]; exact hx)

/-- (*stowage/kv.Store).Room (24) -/
def kv_Store_Room (s_0 : Option Addr) (R : Int → Heap → Prop) (h : Heap) : Prop :=
  nn s_0 fun a1 =>
  ldP (a1.add 3) h fun p2 =>
  CallT Try.prog wal_Log_Room_no [.pointer p2] h [.sc (.int .i64)] fun (r3 : Int) h4 =>
  R r3 h4
theorem kv_Store_Room_eq (s_0 : Option Addr) (R : Int → Heap → Prop) (h : Heap) : fnX Try.prog Fns.fns Try.f24 (.s .n (.s .n .n)) [.sc (.int .i64)] [.pointer s_0] h R = kv_Store_Room s_0 R h := by kernel_rfl
theorem kv_Store_Room_call (s_0 : Option Addr) {R : Int → Heap → Prop} {h : Heap} (hx : kv_Store_Room s_0 R h) : CallT Try.prog 24 [.pointer s_0] h [.sc (.int .i64)] R :=
  call_of_fnX fnsOk mixed Try.func24 (by kernel_rfl) (by rw [kv_Store_Room_eq]; exact hx)

/-- stowage/stowagelaw9.changes (28) -/
def law9_changes (l_0 : Sl) (R : Sl → Heap → Prop) (h : Heap) : Prop :=
  LoopT (σ := Sl × Int) (fun X2 s1 h3 => -- s1: out, i
  cnd (decide (s1.2 < (l_0.len : Int))) (
  idx l_0.a l_0.len s1.2 fun a4 =>
  ldS (a4.add (s1.2.toNat * 3)) h3 fun s5 =>
  idx l_0.a l_0.len s1.2 fun a6 =>
  ldS ((a6.add (s1.2.toNat * 3)).add 1) h3 fun s7 =>
  idx l_0.a l_0.len s1.2 fun a8 =>
  ldB ((a8.add (s1.2.toNat * 3)).add 2) h3 fun b9 =>
  newB [.string s5, .string s7, .bool b9] 61 h3 fun a10 h11 =>
  ldRow (1 * 3) a10 h11 fun cs15 =>
  app [.string (⟨#[]⟩ : ByteArray), .string (⟨#[]⟩ : ByteArray), .bool false] 61 3 40 s1.1.a s1.1.len s1.1.cap cs15 1 h11 fun o12 c13 h14 =>
  X2 ((⟨o12, (s1.1.len + 1), c13⟩ : Sl), (w64 (s1.2 + 1))) h14) (
  R s1.1 h3)) ((⟨none, 0, 0⟩ : Sl), 0) h
theorem law9_changes_eq (l_0 : Sl) (R : Sl → Heap → Prop) (h : Heap) : fnX Try.prog Fns.fns Try.f28 (.s .n (.s .n (.s (.s .n (.b (.l [(3, .sl), (4, .int .i64)] (.s (.s .n (.s .n .n)) (.s (.b .n) .n))))) (.s .n .n)))) [.sc (.sl)] [.slice l_0.a l_0.len l_0.cap] h R = law9_changes l_0 R h := by kernel_rfl
theorem law9_changes_call (l_0 : Sl) {R : Sl → Heap → Prop} {h : Heap} (hx : law9_changes l_0 R h) : CallT Try.prog 28 [.slice l_0.a l_0.len l_0.cap] h [.sc (.sl)] R :=
  call_of_fnX fnsOk mixed Try.func28 (by kernel_rfl) (by rw [law9_changes_eq]; exact hx)

/-- stowage/stowageref9.With (29) -/
def ref9_With (l_0 : Sl) (c_1 : ByteArray × ByteArray × Bool) (R : Sl → Heap → Prop) (h : Heap) : Prop :=
  newB [.string c_1.1, .string c_1.2.1, .bool c_1.2.2] 61 h fun a1 h2 =>
  LoopT (σ := Sl × Int) (fun X4 s3 h5 => -- s3: out, i
  withJ (σ := Sl × Int × (Option Addr) × (Option Addr) × ByteArray × (Option Addr) × ByteArray × Bool) (fun s6 h8 => -- s6: t12, t13, t14, t15, t16, t17, t18, t19
  idx l_0.a l_0.len s3.2 fun a9 =>
  ldS (a9.add (s3.2.toNat * 2)) h8 fun s10 =>
  ldS ((a9.add (s3.2.toNat * 2)).add 1) h8 fun s11 =>
  newB [.string s10, .string s11] 47 h8 fun a12 h13 =>
  ldRow (1 * 2) a12 h13 fun cs17 =>
  app [.string (⟨#[]⟩ : ByteArray), .string (⟨#[]⟩ : ByteArray)] 47 2 32 s3.1.a s3.1.len s3.1.cap cs17 1 h13 fun o14 c15 h16 =>
  X4 ((⟨o14, (s3.1.len + 1), c15⟩ : Sl), (w64 (s3.2 + 1))) h16) (fun J7 =>
  cnd (decide (s3.2 < (l_0.len : Int))) (
  idx l_0.a l_0.len s3.2 fun a18 =>
  ldS (a18.add (s3.2.toNat * 2)) h5 fun s19 =>
  ldS a1 h5 fun s20 =>
  cnd (slt s19 s20) (
  J7 (l_0, s3.2, (some (a18.add (s3.2.toNat * 2))), (some (a18.add (s3.2.toNat * 2))), s19, (some a1), s20, (slt s19 s20)) h5) (
  withJ (σ := Sl) (fun s21 h23 => -- s21: out
  withJ (σ := Int) (fun s24 h26 => -- s24: i
  lsl 2 l_0.a l_0.cap s24 (l_0.len : Int) (l_0.cap : Int) fun o27 l27 c27 =>
  rdCells o27 (l27 * 2) h26 fun cs31 =>
  app [.string (⟨#[]⟩ : ByteArray), .string (⟨#[]⟩ : ByteArray)] 47 2 32 s21.a s21.len s21.cap cs31 l27 h26 fun o28 c29 h30 =>
  R (⟨o28, (s21.len + l27), c29⟩ : Sl) h30) (fun J25 =>
  withJ (σ := Bool) (fun s32 h34 => -- s32: t54
  cnd s32 (
  J25 (w64 (s3.2 + 1)) h34) (
  J25 s3.2 h34)) (fun J33 =>
  cnd (decide (s3.2 < (l_0.len : Int))) (
  idx l_0.a l_0.len s3.2 fun a35 =>
  ldS (a35.add (s3.2.toNat * 2)) h23 fun s36 =>
  ldS a1 h23 fun s37 =>
  J33 (seq s36 s37) h23) (
  J33 false h23)))) (fun J22 =>
  ldB (a1.add 2) h5 fun b38 =>
  cnd (!b38) (
  ldS a1 h5 fun s39 =>
  ldS (a1.add 1) h5 fun s40 =>
  newB [.string s39, .string s40] 47 h5 fun a41 h42 =>
  ldRow (1 * 2) a41 h42 fun cs46 =>
  app [.string (⟨#[]⟩ : ByteArray), .string (⟨#[]⟩ : ByteArray)] 47 2 32 s3.1.a s3.1.len s3.1.cap cs46 1 h42 fun o43 c44 h45 =>
  J22 (⟨o43, (s3.1.len + 1), c44⟩ : Sl) h45) (
  J22 s3.1 h5)))) (
  withJ (σ := Sl) (fun s47 h49 => -- s47: out
  withJ (σ := Int) (fun s50 h52 => -- s50: i
  lsl 2 l_0.a l_0.cap s50 (l_0.len : Int) (l_0.cap : Int) fun o53 l53 c53 =>
  rdCells o53 (l53 * 2) h52 fun cs57 =>
  app [.string (⟨#[]⟩ : ByteArray), .string (⟨#[]⟩ : ByteArray)] 47 2 32 s47.a s47.len s47.cap cs57 l53 h52 fun o54 c55 h56 =>
  R (⟨o54, (s47.len + l53), c55⟩ : Sl) h56) (fun J51 =>
  withJ (σ := Bool) (fun s58 h60 => -- s58: t54
  cnd s58 (
  J51 (w64 (s3.2 + 1)) h60) (
  J51 s3.2 h60)) (fun J59 =>
  cnd (decide (s3.2 < (l_0.len : Int))) (
  idx l_0.a l_0.len s3.2 fun a61 =>
  ldS (a61.add (s3.2.toNat * 2)) h49 fun s62 =>
  ldS a1 h49 fun s63 =>
  J59 (seq s62 s63) h49) (
  J59 false h49)))) (fun J48 =>
  ldB (a1.add 2) h5 fun b64 =>
  cnd (!b64) (
  ldS a1 h5 fun s65 =>
  ldS (a1.add 1) h5 fun s66 =>
  newB [.string s65, .string s66] 47 h5 fun a67 h68 =>
  ldRow (1 * 2) a67 h68 fun cs72 =>
  app [.string (⟨#[]⟩ : ByteArray), .string (⟨#[]⟩ : ByteArray)] 47 2 32 s3.1.a s3.1.len s3.1.cap cs72 1 h68 fun o69 c70 h71 =>
  J48 (⟨o69, (s3.1.len + 1), c70⟩ : Sl) h71) (
  J48 s3.1 h5))))) ((⟨none, 0, 0⟩ : Sl), 0) h2
theorem ref9_With_eq (l_0 : Sl) (c_1 : ByteArray × ByteArray × Bool) (R : Sl → Heap → Prop) (h : Heap) : fnX Try.prog Fns.fns Try.f29 (.s .n (.s .n (.s .n (.s (.b (.l [(5, .sl), (6, .int .i64)] (.j [(12, .sl), (13, .int .i64), (14, .ptr), (15, .ptr), (16, .str), (17, .ptr), (18, .str), (19, .bool)] (.s .n (.s .n .n)) (.b (.s .n .n))))) (.j [(5, .sl)] (.s .n (.s .n .n)) (.j [(6, .int .i64)] (.j [(54, .bool)] .n (.s .n .n)) (.s .n .n))))))) [.sc (.sl)] [.slice l_0.a l_0.len l_0.cap, .agg #[.string c_1.1, .string c_1.2.1, .bool c_1.2.2]] h R = ref9_With l_0 c_1 R h := by kernel_rfl
theorem ref9_With_call (l_0 : Sl) (c_1 : ByteArray × ByteArray × Bool) {R : Sl → Heap → Prop} {h : Heap} (hx : ref9_With l_0 c_1 R h) : CallT Try.prog 29 [.slice l_0.a l_0.len l_0.cap, .agg #[.string c_1.1, .string c_1.2.1, .bool c_1.2.2]] h [.sc (.sl)] R :=
  call_of_fnX fnsOk mixed Try.func29 (by kernel_rfl) (by rw [ref9_With_eq]; exact hx)

/-- (*stowage/kv.Store).restore (33) -/
def kv_Store_restore (x_0 : Option Addr) (x_1 : Sl) (R : Bool → Heap → Prop) (h : Heap) : Prop :=
  CallT Try.prog enc_Unpack_no [.slice x_1.a x_1.len x_1.cap] h [.sc (.sl), .sc (.bool)] fun (r1 : Sl × Bool) h2 =>
  withJ (σ := Unit) (fun s3 h5 => -- s3: 
  idx r1.1.a r1.1.len 0 fun a6 =>
  ldS (a6.add ((0 : Int).toNat * 1)) h5 fun s7 =>
  s2b s7 5 h5 fun a8 c9 h10 =>
  CallT Try.prog enc_Get64_no [.slice (some a8) s7.size c9] h10 [.sc (.int .u64), .sc (.bool)] fun (r11 : Int × Bool) h12 =>
  withJ (σ := Unit) (fun s13 h15 => -- s13: 
  nn x_0 fun a16 =>
  stC (a16.add 5) (.int .i64 (w64 (r11.1))) h15 fun h17 =>
  LoopT (σ := Int) (fun X19 s18 h20 => -- s18: t8
  cnd (decide (s18 < (r1.1.len : Int))) (
  withJ (σ := Unit) (fun s21 h23 => -- s21: 
  X19 (w64 (s18 + 2)) h23) (fun J22 =>
  idx r1.1.a r1.1.len s18 fun a24 =>
  ldS (a24.add (s18.toNat * 1)) h20 fun s25 =>
  idx r1.1.a r1.1.len (w64 (s18 + 1)) fun a26 =>
  ldS (a26.add ((w64 (s18 + 1)).toNat * 1)) h20 fun s27 =>
  newB [.string (⟨#[]⟩ : ByteArray), .string (⟨#[]⟩ : ByteArray), .bool false] 49 h20 fun a28 h29 =>
  (ldS (a26.add ((w64 (s18 + 1)).toNat * 1)) h29 fun s30 =>
  (.string s30 : Value) = .string s27) ∧
  (ldS (a24.add (s18.toNat * 1)) h29 fun s31 =>
  (.string s31 : Value) = .string s25) ∧
  stC a28 (.string s25) h29 fun h32 =>
  stC (a28.add 1) (.string s27) h32 fun h33 =>
  stC (a28.add 2) (.bool false) h33 fun h34 =>
  withJ (σ := Unit) (fun s35 h37 => -- s35: 
  nn x_0 fun a38 =>
  ldP (a38.add 4) h37 fun p39 =>
  ldS a28 h37 fun s40 =>
  ldS (a28.add 1) h37 fun s41 =>
  ldB (a28.add 2) h37 fun b42 =>
  CallT Try.prog kv_apply_no [.pointer p39, .agg #[.string s40, .string s41, .bool b42]] h37 [.sc (.ptr)] fun (r43 : (Option Addr)) h44 =>
  nn x_0 fun a45 =>
  stC (a45.add 4) (.pointer r43) h44 fun h46 =>
  J22 () h46) (fun J36 =>
  withJ (σ := Bool) (fun s47 h49 => -- s47: t76
  cnd s47 (
  R false h49) (
  J36 () h49)) (fun J48 =>
  ldS a28 h34 fun s50 =>
  ldS (a28.add 1) h34 fun s51 =>
  ldB (a28.add 2) h34 fun b52 =>
  CallT Try.prog kv_may_no [.agg #[.string s50, .string s51, .bool b52]] h34 [.sc (.bool)] fun (r53 : Bool) h54 =>
  cnd (!r53) (
  J48 true h54) (
  cnd (decide (s18 > 1)) (
  idx r1.1.a r1.1.len (w64 (s18 - 2)) fun a55 =>
  ldS (a55.add ((w64 (s18 - 2)).toNat * 1)) h54 fun s56 =>
  idx r1.1.a r1.1.len s18 fun a57 =>
  ldS (a57.add (s18.toNat * 1)) h54 fun s58 =>
  J48 (!slt s56 s58) h54) (
  J48 false h54)))))) (
  R true h20)) 1 h17) (fun J14 =>
  withJ (σ := Bool) (fun s59 h61 => -- s59: t36
  cnd s59 (
  R false h61) (
  J14 () h61)) (fun J60 =>
  cnd (!r11.2) (
  J60 true h12) (
  J60 (decide (r11.1 > 1000000000000000000)) h12)))) (fun J4 =>
  withJ (σ := Bool) (fun s62 h64 => -- s62: t22
  cnd s62 (
  R false h64) (
  J4 () h64)) (fun J63 =>
  cnd (!r1.2) (
  J63 true h2) (
  J63 (((r1.1.len : Int).tmod 2) == 0) h2)))
theorem kv_Store_restore_eq (x_0 : Option Addr) (x_1 : Sl) (R : Bool → Heap → Prop) (h : Heap) : fnX Try.prog Fns.fns Try.f33 (.s .n (.s .n (.j [] (.j [(22, .bool)] .n (.s (.s .n .n) .n)) (.s .n (.j [] (.j [(36, .bool)] .n (.s (.s .n .n) .n)) (.s .n (.s (.s .n (.b (.l [(8, .int .i64)] (.s (.s .n (.s .n .n)) (.j [] (.b (.s .n (.j [] (.j [(76, .bool)] .n (.s (.s .n .n) .n)) .n))) .n))))) (.s .n .n)))))))) [.sc (.bool)] [.pointer x_0, .slice x_1.a x_1.len x_1.cap] h R = kv_Store_restore x_0 x_1 R h := by kernel_rfl
theorem kv_Store_restore_call (x_0 : Option Addr) (x_1 : Sl) {R : Bool → Heap → Prop} {h : Heap} (hx : kv_Store_restore x_0 x_1 R h) : CallT Try.prog 33 [.pointer x_0, .slice x_1.a x_1.len x_1.cap] h [.sc (.bool)] R :=
  call_of_fnX fnsOk mixed Try.func33 (by kernel_rfl) (by rw [kv_Store_restore_eq]; exact hx)

/-- stowage/kv.change (35) -/
def kv_change (s_0 : ByteArray) (R : (ByteArray × ByteArray × Bool) × Bool → Heap → Prop) (h : Heap) : Prop :=
  newB [.string (⟨#[]⟩ : ByteArray), .string (⟨#[]⟩ : ByteArray), .bool false] 49 h fun a1 h2 =>
  s2b s_0 5 h2 fun a3 c4 h5 =>
  CallT Try.prog enc_Unpack_no [.slice (some a3) s_0.size c4] h5 [.sc (.sl), .sc (.bool)] fun (r6 : Sl × Bool) h7 =>
  newB [.string (⟨#[]⟩ : ByteArray), .string (⟨#[]⟩ : ByteArray), .bool false] 49 h7 fun a8 h9 =>
  withJ (σ := Unit) (fun s10 h12 => -- s10: 
  ldS a8 h12 fun s13 =>
  ldS (a8.add 1) h12 fun s14 =>
  ldB (a8.add 2) h12 fun b15 =>
  ldS a8 h12 fun s16 =>
  ldS (a8.add 1) h12 fun s17 =>
  ldB (a8.add 2) h12 fun b18 =>
  CallT Try.prog kv_may_no [.agg #[.string s16, .string s17, .bool b18]] h12 [.sc (.bool)] fun (r19 : Bool) h20 =>
  (ldS a8 h20 fun s21 =>
  ldS (a8.add 1) h20 fun s22 =>
  ldB (a8.add 2) h20 fun b23 =>
  (.agg #[.string s21, .string s22, .bool b23] : Value) = .agg #[.string s13, .string s14, .bool b15]) ∧
  stC a1 (.string s13) h20 fun h24 =>
  stC (a1.add 1) (.string s14) h24 fun h25 =>
  stC (a1.add 2) (.bool b15) h25 fun h26 =>
  ldS a1 h26 fun s27 =>
  ldS (a1.add 1) h26 fun s28 =>
  ldB (a1.add 2) h26 fun b29 =>
  R ((s27, s28, b29), r19) h26) (fun J11 =>
  withJ (σ := Bool) (fun s30 h32 => -- s30: t14
  cnd s30 (
  idx r6.1.a r6.1.len 1 fun a33 =>
  ldS (a33.add ((1 : Int).toNat * 1)) h32 fun s34 =>
  idx r6.1.a r6.1.len 2 fun a35 =>
  ldS (a35.add ((2 : Int).toNat * 1)) h32 fun s36 =>
  stC a8 (.string s34) h32 fun h37 =>
  stC (a8.add 1) (.string s36) h37 fun h38 =>
  stC (a8.add 2) (.bool false) h38 fun h39 =>
  J11 () h39) (
  withJ (σ := Bool) (fun s40 h42 => -- s40: t34
  cnd s40 (
  idx r6.1.a r6.1.len 1 fun a43 =>
  ldS (a43.add ((1 : Int).toNat * 1)) h42 fun s44 =>
  stC a8 (.string s44) h42 fun h45 =>
  stC (a8.add 1) (.string (⟨#[]⟩ : ByteArray)) h45 fun h46 =>
  stC (a8.add 2) (.bool true) h46 fun h47 =>
  J11 () h47) (
  ldS a8 h42 fun s48 =>
  ldS (a8.add 1) h42 fun s49 =>
  ldB (a8.add 2) h42 fun b50 =>
  stC a1 (.string s48) h42 fun h51 =>
  stC (a1.add 1) (.string s49) h51 fun h52 =>
  stC (a1.add 2) (.bool b50) h52 fun h53 =>
  ldS a1 h53 fun s54 =>
  ldS (a1.add 1) h53 fun s55 =>
  ldB (a1.add 2) h53 fun b56 =>
  R ((s54, s55, b56), false) h53)) (fun J41 =>
  cnd r6.2 (
  cnd ((r6.1.len : Int) == 2) (
  idx r6.1.a r6.1.len 0 fun a57 =>
  ldS (a57.add ((0 : Int).toNat * 1)) h32 fun s58 =>
  J41 (seq s58 (⟨#[45]⟩ : ByteArray)) h32) (
  J41 false h32)) (
  J41 false h32)))) (fun J31 =>
  cnd r6.2 (
  cnd ((r6.1.len : Int) == 3) (
  idx r6.1.a r6.1.len 0 fun a59 =>
  ldS (a59.add ((0 : Int).toNat * 1)) h9 fun s60 =>
  J31 (seq s60 (⟨#[43]⟩ : ByteArray)) h9) (
  J31 false h9)) (
  J31 false h9)))
theorem kv_change_eq (s_0 : ByteArray) (R : (ByteArray × ByteArray × Bool) × Bool → Heap → Prop) (h : Heap) : fnX Try.prog Fns.fns Try.f35 (.s .n (.s .n (.s .n (.j [] (.b (.j [(14, .bool)] .n (.s .n (.j [(34, .bool)] .n (.s .n (.s .n .n)))))) (.s .n .n))))) [.agg [.str, .str, .bool], .sc (.bool)] [.string s_0] h R = kv_change s_0 R h := by kernel_rfl
theorem kv_change_call (s_0 : ByteArray) {R : (ByteArray × ByteArray × Bool) × Bool → Heap → Prop} {h : Heap} (hx : kv_change s_0 R h) : CallT Try.prog 35 [.string s_0] h [.agg [.str, .str, .bool], .sc (.bool)] R :=
  call_of_fnX fnsOk mixed Try.func35 (by kernel_rfl) (by rw [kv_change_eq]; exact hx)

/-- stowage/kv.apply (36) -/
def kv_apply (t_0 : Option Addr) (c_1 : ByteArray × ByteArray × Bool) (R : (Option Addr) → Heap → Prop) (h : Heap) : Prop :=
  newB [.string c_1.1, .string c_1.2.1, .bool c_1.2.2] 49 h fun a1 h2 =>
  ldB (a1.add 2) h2 fun b3 =>
  cnd b3 (
  ldS a1 h2 fun s4 =>
  CallT Try.prog btree_Tree_Del_no [.pointer t_0, .string s4] h2 [.sc (.ptr), .sc (.bool)] fun (r5 : (Option Addr) × Bool) h6 =>
  R r5.1 h6) (
  ldS a1 h2 fun s7 =>
  ldS (a1.add 1) h2 fun s8 =>
  CallT Try.prog btree_Tree_Put_no [.pointer t_0, .string s7, .string s8] h2 [.sc (.ptr)] fun (r9 : (Option Addr)) h10 =>
  R r9 h10)
theorem kv_apply_eq (t_0 : Option Addr) (c_1 : ByteArray × ByteArray × Bool) (R : (Option Addr) → Heap → Prop) (h : Heap) : fnX Try.prog Fns.fns Try.f36 (.s .n (.s (.s .n (.s (.s .n (.s .n .n)) .n)) (.s .n .n))) [.sc (.ptr)] [.pointer t_0, .agg #[.string c_1.1, .string c_1.2.1, .bool c_1.2.2]] h R = kv_apply t_0 c_1 R h := by kernel_rfl
theorem kv_apply_call (t_0 : Option Addr) (c_1 : ByteArray × ByteArray × Bool) {R : (Option Addr) → Heap → Prop} {h : Heap} (hx : kv_apply t_0 c_1 R h) : CallT Try.prog 36 [.pointer t_0, .agg #[.string c_1.1, .string c_1.2.1, .bool c_1.2.2]] h [.sc (.ptr)] R :=
  call_of_fnX fnsOk mixed Try.func36 (by kernel_rfl) (by rw [kv_apply_eq]; exact hx)

/-- (*stowage/kv.Store).dead (37) -/
def kv_Store_dead (s_0 : Option Addr) (R : Bool → Heap → Prop) (h : Heap) : Prop :=
  nn s_0 fun a1 =>
  ldV (a1.add 6) h fun v2 =>
  isT v2 28 (fun v3 =>
  R true h) (
  R false h)
theorem kv_Store_dead_eq (s_0 : Option Addr) (R : Bool → Heap → Prop) (h : Heap) : fnX Try.prog Fns.fns Try.f37 (.s .n (.s .n (.s .n .n))) [.sc (.bool)] [.pointer s_0] h R = kv_Store_dead s_0 R h := by kernel_rfl
theorem kv_Store_dead_call (s_0 : Option Addr) {R : Bool → Heap → Prop} {h : Heap} (hx : kv_Store_dead s_0 R h) : CallT Try.prog 37 [.pointer s_0] h [.sc (.bool)] R :=
  call_of_fnX fnsOk mixed Try.func37 (by kernel_rfl) (by rw [kv_Store_dead_eq]; exact hx)

/-- stowage/kv.may (38) -/
def kv_may (c_0 : ByteArray × ByteArray × Bool) (R : Bool → Heap → Prop) (h : Heap) : Prop :=
  newB [.string c_0.1, .string c_0.2.1, .bool c_0.2.2] 49 h fun a1 h2 =>
  withJ (σ := Bool) (fun s3 h5 => -- s3: t2
  R s3 h5) (fun J4 =>
  ldS a1 h2 fun s6 =>
  cnd (decide ((s6.size : Int) > 0)) (
  ldS a1 h2 fun s7 =>
  cnd (decide ((s7.size : Int) ≤ 2048)) (
  ldS (a1.add 1) h2 fun s8 =>
  cnd (decide ((s8.size : Int) ≤ 65536)) (
  ldB (a1.add 2) h2 fun b9 =>
  cnd b9 (
  ldS (a1.add 1) h2 fun s10 =>
  J4 (!(!seq s10 (⟨#[]⟩ : ByteArray))) h2) (
  J4 (!false) h2)) (
  J4 false h2)) (
  J4 false h2)) (
  J4 false h2))
theorem kv_may_eq (c_0 : ByteArray × ByteArray × Bool) (R : Bool → Heap → Prop) (h : Heap) : fnX Try.prog Fns.fns Try.f38 (.s .n (.j [(2, .bool)] .n .n)) [.sc (.bool)] [.agg #[.string c_0.1, .string c_0.2.1, .bool c_0.2.2]] h R = kv_may c_0 R h := by kernel_rfl
theorem kv_may_call (c_0 : ByteArray × ByteArray × Bool) {R : Bool → Heap → Prop} {h : Heap} (hx : kv_may c_0 R h) : CallT Try.prog 38 [.agg #[.string c_0.1, .string c_0.2.1, .bool c_0.2.2]] h [.sc (.bool)] R :=
  call_of_fnX fnsOk mixed Try.func38 (by kernel_rfl) (by rw [kv_may_eq]; exact hx)

/-- stowage/kv.record (39) -/
def kv_record (c_0 : ByteArray × ByteArray × Bool) (R : ByteArray → Heap → Prop) (h : Heap) : Prop :=
  newB [.string c_0.1, .string c_0.2.1, .bool c_0.2.2] 49 h fun a1 h2 =>
  ldB (a1.add 2) h2 fun b3 =>
  cnd b3 (
  ldS a1 h2 fun s4 =>
  newB [.string (⟨#[45]⟩ : ByteArray), .string s4] 9 h2 fun a5 h6 =>
  CallT Try.prog enc_Pack_no [.slice (some a5) 2 2] h6 [.sc (.sl)] fun (r7 : Sl) h8 =>
  b2s r7.a r7.len h8 fun s9 =>
  R s9 h8) (
  ldS a1 h2 fun s10 =>
  ldS (a1.add 1) h2 fun s11 =>
  newB [.string (⟨#[43]⟩ : ByteArray), .string s10, .string s11] 9 h2 fun a12 h13 =>
  CallT Try.prog enc_Pack_no [.slice (some a12) 3 3] h13 [.sc (.sl)] fun (r14 : Sl) h15 =>
  b2s r14.a r14.len h15 fun s16 =>
  R s16 h15)
theorem kv_record_eq (c_0 : ByteArray × ByteArray × Bool) (R : ByteArray → Heap → Prop) (h : Heap) : fnX Try.prog Fns.fns Try.f39 (.s .n (.s (.s .n (.s (.s .n .n) .n)) (.s .n .n))) [.sc (.str)] [.agg #[.string c_0.1, .string c_0.2.1, .bool c_0.2.2]] h R = kv_record c_0 R h := by kernel_rfl
theorem kv_record_call (c_0 : ByteArray × ByteArray × Bool) {R : ByteArray → Heap → Prop} {h : Heap} (hx : kv_record c_0 R h) : CallT Try.prog 39 [.agg #[.string c_0.1, .string c_0.2.1, .bool c_0.2.2]] h [.sc (.str)] R :=
  call_of_fnX fnsOk mixed Try.func39 (by kernel_rfl) (by rw [kv_record_eq]; exact hx)

/-- stowage/kv.size (41) -/
def kv_size (t_0 : Option Addr) (R : Int → Heap → Prop) (h : Heap) : Prop :=
  newB [.int .i64 0] 3 h fun a1 h2 =>
  stC a1 (.int .i64 12) h2 fun h3 =>
  CallT Try.prog btree_Tree_From_no [.pointer t_0, .string (⟨#[]⟩ : ByteArray)] h3 [.sc (.raw)] fun (r4 : Value) h5 =>
  rngX Try.prog (r4) [.str, .str] (fun (s6 : ByteArray × ByteArray) M7 Q8 h9 =>
  M7 h9 fun h11 =>
  ldI .i64 a1 h11 fun n12 =>
  stC a1 (.int .i64 (w64 (n12 + (w64 ((w64 (8 + (s6.1.size : Int))) + (s6.2.size : Int)))))) h11 fun h13 =>
  Q8 .nrm h13) (
  fun h14 =>
  ldI .i64 a1 h14 fun n15 =>
  shutX h.size h14 fun h16 =>
  R n15 h16) (
  fun _ => False) [] h5
theorem kv_size_eq (t_0 : Option Addr) (R : Int → Heap → Prop) (h : Heap) : fnX Try.prog Fns.fns Try.f41 (.s .n (.s .n (.s (.s .n (.b (.r [.str, .str] (.s .n .n) (.b .n)))) (.s .n .n)))) [.sc (.int .i64)] [.pointer t_0] h R = kv_size t_0 R h := by kernel_rfl
theorem kv_size_call (t_0 : Option Addr) {R : Int → Heap → Prop} {h : Heap} (hx : kv_size t_0 R h) : CallT Try.prog 41 [.pointer t_0] h [.sc (.int .i64)] R :=
  call_of_fnX fnsOk mixed Try.func41 (by kernel_rfl) (by rw [kv_size_eq]; exact hx)

/-- (*stowage/kv.Store).told (44) -/
def kv_Store_told (s_0 : Option Addr) (e_1 : Int) (R : Int → Heap → Prop) (h : Heap) : Prop :=
  withJ (σ := Unit) (fun s1 h3 => -- s1: 
  R e_1 h3) (fun J2 =>
  withJ (σ := Bool) (fun s4 h6 => -- s4: t10
  cnd s4 (
  nn s_0 fun a7 =>
  stC (a7.add 6) (.iface 28 (.int .i64 e_1)) h6 fun h8 =>
  J2 () h8) (
  J2 () h6)) (fun J5 =>
  cnd (e_1 != 0) (
  J5 (e_1 != 60) h) (
  J5 false h)))
theorem kv_Store_told_eq (s_0 : Option Addr) (e_1 : Int) (R : Int → Heap → Prop) (h : Heap) : fnX Try.prog Fns.fns Try.f44 (.s .n (.j [] (.j [(10, .bool)] .n (.s .n .n)) (.s .n .n))) [.sc (.int .i64)] [.pointer s_0, .int .i64 e_1] h R = kv_Store_told s_0 e_1 R h := by kernel_rfl
theorem kv_Store_told_call (s_0 : Option Addr) (e_1 : Int) {R : Int → Heap → Prop} {h : Heap} (hx : kv_Store_told s_0 e_1 R h) : CallT Try.prog 44 [.pointer s_0, .int .i64 e_1] h [.sc (.int .i64)] R :=
  call_of_fnX fnsOk mixed Try.func44 (by kernel_rfl) (by rw [kv_Store_told_eq]; exact hx)

/-- (*stowage/kv.Store).state (48) -/
def kv_Store_state (s_0 : Option Addr) (R : Sl → Heap → Prop) (h : Heap) : Prop :=
  nn s_0 fun a1 =>
  ldI .i64 (a1.add 5) h fun n2 =>
  CallT Try.prog enc_Put64_no [.int .u64 (IntKind.u64.wrap (n2))] h [.sc (.sl)] fun (r3 : Sl) h4 =>
  b2s r3.a r3.len h4 fun s5 =>
  newB [.string s5] 9 h4 fun a6 h7 =>
  newB [.slice none 0 0] 80 h7 fun a8 h9 =>
  stC a8 (.slice (some a6) 1 1) h9 fun h10 =>
  nn s_0 fun a11 =>
  ldP (a11.add 4) h10 fun p12 =>
  CallT Try.prog btree_Tree_From_no [.pointer p12, .string (⟨#[]⟩ : ByteArray)] h10 [.sc (.raw)] fun (r13 : Value) h14 =>
  rngX Try.prog (r13) [.str, .str] (fun (s15 : ByteArray × ByteArray) M16 Q17 h18 =>
  M16 h18 fun h20 =>
  ldL a8 h20 fun o21 l21 c21 =>
  newB [.string s15.1, .string s15.2] 9 h20 fun a22 h23 =>
  ldRow (2 * 1) a22 h23 fun cs27 =>
  app [.string (⟨#[]⟩ : ByteArray)] 9 1 16 o21 l21 c21 cs27 2 h23 fun o24 c25 h26 =>
  stC a8 (.slice o24 (l21 + 2) c25) h26 fun h28 =>
  Q17 .nrm h28) (
  fun h29 =>
  ldL a8 h29 fun o30 l30 c30 =>
  CallT Try.prog enc_Pack_no [.slice o30 l30 c30] h29 [.sc (.sl)] fun (r31 : Sl) h32 =>
  shutX h.size h32 fun h33 =>
  R r31 h33) (
  fun _ => False) [] h14
theorem kv_Store_state_eq (s_0 : Option Addr) (R : Sl → Heap → Prop) (h : Heap) : fnX Try.prog Fns.fns Try.f48 (.s .n (.s .n (.s (.s .n (.b (.r [.str, .str] (.s .n .n) (.b .n)))) (.s .n .n)))) [.sc (.sl)] [.pointer s_0] h R = kv_Store_state s_0 R h := by kernel_rfl
theorem kv_Store_state_call (s_0 : Option Addr) {R : Sl → Heap → Prop} {h : Heap} (hx : kv_Store_state s_0 R h) : CallT Try.prog 48 [.pointer s_0] h [.sc (.sl)] R :=
  call_of_fnX fnsOk mixed Try.func48 (by kernel_rfl) (by rw [kv_Store_state_eq]; exact hx)

end Go.Proofs.Ytkgocfaajfaidaa
