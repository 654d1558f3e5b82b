/- Go functions as short texts over the heap, and that each is what the loaded function comes to (the kernel compares them); written by a program. -/
import Derived.Test.YtjpmjhnjdnbopaaGBase
set_option linter.unusedVariables false
set_option maxRecDepth 100000
namespace Go.Proofs.Ytjpmjhnjdnbopaa
open Go D
/-- stowage/stowageref18.Same (13) -/
def ref18_Same (a_0 : ByteArray × ByteArray × Sl × Sl) (b_1 : ByteArray × ByteArray × Sl × Sl) (R : Bool → Heap → Prop) (h : Heap) : Prop :=
  newB [.string a_0.1, .string a_0.2.1, .slice a_0.2.2.1.a a_0.2.2.1.len a_0.2.2.1.cap, .slice a_0.2.2.2.a a_0.2.2.2.len a_0.2.2.2.cap] 26 h fun a1 h2 =>
  newB [.string b_1.1, .string b_1.2.1, .slice b_1.2.2.1.a b_1.2.2.1.len b_1.2.2.1.cap, .slice b_1.2.2.2.a b_1.2.2.2.len b_1.2.2.2.cap] 26 h2 fun a3 h4 =>
  withJ (σ := Unit) (fun s5 h7 => -- s5: 
  LoopT (σ := Int) (fun X9 s8 h10 => -- s8: i
  ldL (a1.add 2) h10 fun o11 l11 c11 =>
  cnd (decide (s8 < (l11 : Int))) (
  ldL (a1.add 2) h10 fun o12 l12 c12 =>
  idx o12 l12 s8 fun a13 =>
  ldS (a13.add (s8.toNat * 2)) h10 fun s14 =>
  ldS ((a13.add (s8.toNat * 2)).add 1) h10 fun s15 =>
  ldL (a3.add 2) h10 fun o16 l16 c16 =>
  idx o16 l16 s8 fun a17 =>
  ldS (a17.add (s8.toNat * 2)) h10 fun s18 =>
  ldS ((a17.add (s8.toNat * 2)).add 1) h10 fun s19 =>
  cnd (!((seq s14 s18) && ((seq s15 s19) && true))) (
  R false h10) (
  X9 (w64 (s8 + 1)) h10)) (
  R true h10)) 0 h7) (fun J6 =>
  withJ (σ := Bool) (fun s20 h22 => -- s20: t35
  cnd s20 (
  R false h22) (
  J6 () h22)) (fun J21 =>
  ldS a1 h4 fun s23 =>
  ldS a3 h4 fun s24 =>
  cnd (!seq s23 s24) (
  J21 true h4) (
  ldS (a1.add 1) h4 fun s25 =>
  ldS (a3.add 1) h4 fun s26 =>
  cnd (!seq s25 s26) (
  J21 true h4) (
  ldL (a1.add 2) h4 fun o27 l27 c27 =>
  ldL (a3.add 2) h4 fun o28 l28 c28 =>
  cnd ((l27 : Int) != (l28 : Int)) (
  J21 true h4) (
  ldL (a1.add 3) h4 fun o29 l29 c29 =>
  b2s o29 l29 h4 fun s30 =>
  ldL (a3.add 3) h4 fun o31 l31 c31 =>
  b2s o31 l31 h4 fun s32 =>
  J21 (!seq s30 s32) h4)))))
theorem ref18_Same_eq (a_0 : ByteArray × ByteArray × Sl × Sl) (b_1 : ByteArray × ByteArray × Sl × Sl) (R : Bool → Heap → Prop) (h : Heap) : fnX Try.prog Fns.fns Try.f13 (.s .n (.j [] (.j [(35, .bool)] .n (.s (.s .n .n) .n)) (.s (.s .n (.b (.l [(5, .int .i64)] (.s (.s .n (.s .n .n)) (.s (.b (.s .n (.s (.s .n .n) .n))) .n))))) (.s .n .n)))) [.sc (.bool)] [.agg #[.string a_0.1, .string a_0.2.1, .slice a_0.2.2.1.a a_0.2.2.1.len a_0.2.2.1.cap, .slice a_0.2.2.2.a a_0.2.2.2.len a_0.2.2.2.cap], .agg #[.string b_1.1, .string b_1.2.1, .slice b_1.2.2.1.a b_1.2.2.1.len b_1.2.2.1.cap, .slice b_1.2.2.2.a b_1.2.2.2.len b_1.2.2.2.cap]] h R = ref18_Same a_0 b_1 R h := by kernel_rfl
theorem ref18_Same_call (a_0 : ByteArray × ByteArray × Sl × Sl) (b_1 : ByteArray × ByteArray × Sl × Sl) {R : Bool → Heap → Prop} {h : Heap} (hx : ref18_Same a_0 b_1 R h) : CallT Try.prog 13 [.agg #[.string a_0.1, .string a_0.2.1, .slice a_0.2.2.1.a a_0.2.2.1.len a_0.2.2.1.cap, .slice a_0.2.2.2.a a_0.2.2.2.len a_0.2.2.2.cap], .agg #[.string b_1.1, .string b_1.2.1, .slice b_1.2.2.1.a b_1.2.2.1.len b_1.2.2.1.cap, .slice b_1.2.2.2.a b_1.2.2.2.len b_1.2.2.2.cap]] h [.sc (.bool)] R :=
  call_of_fnX fnsOk mixed Try.func13 (by kernel_rfl) (by rw [ref18_Same_eq]; exact hx)

/-- stowage/stowageref16.Parse (15) -/
def ref16_Parse (x_0 : Sl) (R : (Int × Int × ByteArray × ByteArray × Sl × Sl × Int × Bool × Bool) → Heap → Prop) (h : Heap) : Prop :=
  newB [.int .i64 0, .int .i64 0, .string (⟨#[]⟩ : ByteArray), .string (⟨#[]⟩ : ByteArray), .slice none 0 0, .slice none 0 0, .int .i64 0, .bool false, .bool false] 40 h fun a1 h2 =>
  b2s x_0.a x_0.len h2 fun s3 =>
  newB [.string s3, .int .i64 0, .int .i64 0, .int .i64 0, .bool false, .int .i64 0, .slice none 0 0] 64 h2 fun a4 h5 =>
  CallT Try.prog ref16_Reader_first_no [.pointer (some a4)] h5 [.agg [.str, .str, .sl, .sl], .sc (.bool)] fun (r6 : (ByteArray × ByteArray × Sl × Sl) × Bool) h7 =>
  newB [.string (⟨#[]⟩ : ByteArray), .string (⟨#[]⟩ : ByteArray), .slice none 0 0, .slice none 0 0] 26 h7 fun a8 h9 =>
  stC a8 (.string r6.1.1) h9 fun h10 =>
  stC (a8.add 1) (.string r6.1.2.1) h10 fun h11 =>
  stC (a8.add 2) (.slice r6.1.2.2.1.a r6.1.2.2.1.len r6.1.2.2.1.cap) h11 fun h12 =>
  stC (a8.add 3) (.slice r6.1.2.2.2.a r6.1.2.2.2.len r6.1.2.2.2.cap) h12 fun h13 =>
  cnd (!r6.2) (
  CallT Try.prog ref16_Reader_left_no [.pointer (some a4)] h13 [.agg [.int .i64, .int .i64, .str, .str, .sl, .sl, .int .i64, .bool, .bool]] fun (r14 : (Int × Int × ByteArray × ByteArray × Sl × Sl × Int × Bool × Bool)) h15 =>
  stC a1 (.int .i64 r14.1) h15 fun h16 =>
  stC (a1.add 1) (.int .i64 r14.2.1) h16 fun h17 =>
  stC (a1.add 2) (.string r14.2.2.1) h17 fun h18 =>
  stC (a1.add 3) (.string r14.2.2.2.1) h18 fun h19 =>
  stC (a1.add 4) (.slice r14.2.2.2.2.1.a r14.2.2.2.2.1.len r14.2.2.2.2.1.cap) h19 fun h20 =>
  stC (a1.add 5) (.slice r14.2.2.2.2.2.1.a r14.2.2.2.2.2.1.len r14.2.2.2.2.2.1.cap) h20 fun h21 =>
  stC (a1.add 6) (.int .i64 r14.2.2.2.2.2.2.1) h21 fun h22 =>
  stC (a1.add 7) (.bool r14.2.2.2.2.2.2.2.1) h22 fun h23 =>
  stC (a1.add 8) (.bool r14.2.2.2.2.2.2.2.2) h23 fun h24 =>
  ldI .i64 a1 h24 fun n25 =>
  ldI .i64 (a1.add 1) h24 fun n26 =>
  ldS (a1.add 2) h24 fun s27 =>
  ldS (a1.add 3) h24 fun s28 =>
  ldL (a1.add 4) h24 fun o29 l29 c29 =>
  ldL (a1.add 5) h24 fun o30 l30 c30 =>
  ldI .i64 (a1.add 6) h24 fun n31 =>
  ldB (a1.add 7) h24 fun b32 =>
  ldB (a1.add 8) h24 fun b33 =>
  R (n25, n26, s27, s28, (⟨o29, l29, c29⟩ : Sl), (⟨o30, l30, c30⟩ : Sl), n31, b32, b33) h24) (
  CallT Try.prog ref16_Reader_block_no [.pointer (some a4)] h13 [.sc (.sl), .sc (.bool)] fun (r34 : Sl × Bool) h35 =>
  cnd (!r34.2) (
  CallT Try.prog ref16_Reader_left_no [.pointer (some a4)] h35 [.agg [.int .i64, .int .i64, .str, .str, .sl, .sl, .int .i64, .bool, .bool]] fun (r36 : (Int × Int × ByteArray × ByteArray × Sl × Sl × Int × Bool × Bool)) h37 =>
  stC a1 (.int .i64 r36.1) h37 fun h38 =>
  stC (a1.add 1) (.int .i64 r36.2.1) h38 fun h39 =>
  stC (a1.add 2) (.string r36.2.2.1) h39 fun h40 =>
  stC (a1.add 3) (.string r36.2.2.2.1) h40 fun h41 =>
  stC (a1.add 4) (.slice r36.2.2.2.2.1.a r36.2.2.2.2.1.len r36.2.2.2.2.1.cap) h41 fun h42 =>
  stC (a1.add 5) (.slice r36.2.2.2.2.2.1.a r36.2.2.2.2.2.1.len r36.2.2.2.2.2.1.cap) h42 fun h43 =>
  stC (a1.add 6) (.int .i64 r36.2.2.2.2.2.2.1) h43 fun h44 =>
  stC (a1.add 7) (.bool r36.2.2.2.2.2.2.2.1) h44 fun h45 =>
  stC (a1.add 8) (.bool r36.2.2.2.2.2.2.2.2) h45 fun h46 =>
  ldI .i64 a1 h46 fun n47 =>
  ldI .i64 (a1.add 1) h46 fun n48 =>
  ldS (a1.add 2) h46 fun s49 =>
  ldS (a1.add 3) h46 fun s50 =>
  ldL (a1.add 4) h46 fun o51 l51 c51 =>
  ldL (a1.add 5) h46 fun o52 l52 c52 =>
  ldI .i64 (a1.add 6) h46 fun n53 =>
  ldB (a1.add 7) h46 fun b54 =>
  ldB (a1.add 8) h46 fun b55 =>
  R (n47, n48, s49, s50, (⟨o51, l51, c51⟩ : Sl), (⟨o52, l52, c52⟩ : Sl), n53, b54, b55) h46) (
  CallT Try.prog ref16_fit_no [.slice r34.1.a r34.1.len r34.1.cap] h35 [.sc (.int .i64), .sc (.int .i64)] fun (r56 : Int × Int) h57 =>
  cnd (r56.2 != 0) (
  stC (a4.add 5) (.int .i64 r56.2) h57 fun h58 =>
  CallT Try.prog ref16_Reader_left_no [.pointer (some a4)] h58 [.agg [.int .i64, .int .i64, .str, .str, .sl, .sl, .int .i64, .bool, .bool]] fun (r59 : (Int × Int × ByteArray × ByteArray × Sl × Sl × Int × Bool × Bool)) h60 =>
  stC a1 (.int .i64 r59.1) h60 fun h61 =>
  stC (a1.add 1) (.int .i64 r59.2.1) h61 fun h62 =>
  stC (a1.add 2) (.string r59.2.2.1) h62 fun h63 =>
  stC (a1.add 3) (.string r59.2.2.2.1) h63 fun h64 =>
  stC (a1.add 4) (.slice r59.2.2.2.2.1.a r59.2.2.2.2.1.len r59.2.2.2.2.1.cap) h64 fun h65 =>
  stC (a1.add 5) (.slice r59.2.2.2.2.2.1.a r59.2.2.2.2.2.1.len r59.2.2.2.2.2.1.cap) h65 fun h66 =>
  stC (a1.add 6) (.int .i64 r59.2.2.2.2.2.2.1) h66 fun h67 =>
  stC (a1.add 7) (.bool r59.2.2.2.2.2.2.2.1) h67 fun h68 =>
  stC (a1.add 8) (.bool r59.2.2.2.2.2.2.2.2) h68 fun h69 =>
  ldI .i64 a1 h69 fun n70 =>
  ldI .i64 (a1.add 1) h69 fun n71 =>
  ldS (a1.add 2) h69 fun s72 =>
  ldS (a1.add 3) h69 fun s73 =>
  ldL (a1.add 4) h69 fun o74 l74 c74 =>
  ldL (a1.add 5) h69 fun o75 l75 c75 =>
  ldI .i64 (a1.add 6) h69 fun n76 =>
  ldB (a1.add 7) h69 fun b77 =>
  ldB (a1.add 8) h69 fun b78 =>
  R (n70, n71, s72, s73, (⟨o74, l74, c74⟩ : Sl), (⟨o75, l75, c75⟩ : Sl), n76, b77, b78) h69) (
  stC (a8.add 2) (.slice r34.1.a r34.1.len r34.1.cap) h57 fun h79 =>
  withJ (σ := Unit) (fun s80 h82 => -- s80: 
  CallT Try.prog ref16_Get_no [.slice r34.1.a r34.1.len r34.1.cap, .string (⟨#[101, 120, 112, 101, 99, 116]⟩ : ByteArray)] h82 [.sc (.str), .sc (.bool)] fun (r83 : ByteArray × Bool) h84 =>
  withJ (σ := Unit) (fun s85 h87 => -- s85: 
  ldI .i64 a1 h87 fun n88 =>
  ldI .i64 (a1.add 1) h87 fun n89 =>
  ldS (a1.add 2) h87 fun s90 =>
  ldS (a1.add 3) h87 fun s91 =>
  ldL (a1.add 4) h87 fun o92 l92 c92 =>
  ldL (a1.add 5) h87 fun o93 l93 c93 =>
  ldI .i64 (a1.add 6) h87 fun n94 =>
  ldB (a1.add 7) h87 fun b95 =>
  ldB (a1.add 8) h87 fun b96 =>
  R (n88, n89, s90, s91, (⟨o92, l92, c92⟩ : Sl), (⟨o93, l93, c93⟩ : Sl), n94, b95, b96) h87) (fun J86 =>
  ldI .i64 (a4.add 1) h84 fun n97 =>
  ldS a8 h84 fun s98 =>
  ldS (a8.add 1) h84 fun s99 =>
  ldL (a8.add 2) h84 fun o100 l100 c100 =>
  ldL (a8.add 3) h84 fun o101 l101 c101 =>
  CallT Try.prog ref16_closes_no [.slice r34.1.a r34.1.len r34.1.cap] h84 [.sc (.bool)] fun (r102 : Bool) h103 =>
  (ldS a8 h103 fun s104 =>
  ldS (a8.add 1) h103 fun s105 =>
  ldL (a8.add 2) h103 fun o106 l106 c106 =>
  ldL (a8.add 3) h103 fun o107 l107 c107 =>
  (.agg #[.string s104, .string s105, .slice o106 l106 c106, .slice o107 l107 c107] : Value) = .agg #[.string s98, .string s99, .slice o100 l100 c100, .slice o101 l101 c101]) ∧
  (ldI .i64 (a4.add 1) h103 fun n108 =>
  (.int .i64 n108 : Value) = .int .i64 n97) ∧
  cnd r83.2 (
  ldL (a8.add 3) h103 fun o109 l109 c109 =>
  stC a1 (.int .i64 2) h103 fun h110 =>
  stC (a1.add 1) (.int .i64 n97) h110 fun h111 =>
  stC (a1.add 2) (.string s98) h111 fun h112 =>
  stC (a1.add 3) (.string s99) h112 fun h113 =>
  stC (a1.add 4) (.slice o100 l100 c100) h113 fun h114 =>
  stC (a1.add 5) (.slice o101 l101 c101) h114 fun h115 =>
  stC (a1.add 6) (.int .i64 0) h115 fun h116 =>
  stC (a1.add 7) (.bool r102) h116 fun h117 =>
  stC (a1.add 8) (.bool (decide ((l109 : Int) > 0))) h117 fun h118 =>
  J86 () h118) (
  stC a1 (.int .i64 2) h103 fun h119 =>
  stC (a1.add 1) (.int .i64 n97) h119 fun h120 =>
  stC (a1.add 2) (.string s98) h120 fun h121 =>
  stC (a1.add 3) (.string s99) h121 fun h122 =>
  stC (a1.add 4) (.slice o100 l100 c100) h122 fun h123 =>
  stC (a1.add 5) (.slice o101 l101 c101) h123 fun h124 =>
  stC (a1.add 6) (.int .i64 0) h124 fun h125 =>
  stC (a1.add 7) (.bool r102) h125 fun h126 =>
  stC (a1.add 8) (.bool false) h126 fun h127 =>
  J86 () h127))) (fun J81 =>
  cnd (decide (r56.1 < 0)) (
  CallT Try.prog ref16_Reader_chunks_no [.pointer (some a4)] h79 [.sc (.sl), .sc (.bool)] fun (r128 : Sl × Bool) h129 =>
  stC (a8.add 3) (.slice r128.1.a r128.1.len r128.1.cap) h129 fun h130 =>
  cnd (!r128.2) (
  CallT Try.prog ref16_Reader_left_no [.pointer (some a4)] h130 [.agg [.int .i64, .int .i64, .str, .str, .sl, .sl, .int .i64, .bool, .bool]] fun (r131 : (Int × Int × ByteArray × ByteArray × Sl × Sl × Int × Bool × Bool)) h132 =>
  stC a1 (.int .i64 r131.1) h132 fun h133 =>
  stC (a1.add 1) (.int .i64 r131.2.1) h133 fun h134 =>
  stC (a1.add 2) (.string r131.2.2.1) h134 fun h135 =>
  stC (a1.add 3) (.string r131.2.2.2.1) h135 fun h136 =>
  stC (a1.add 4) (.slice r131.2.2.2.2.1.a r131.2.2.2.2.1.len r131.2.2.2.2.1.cap) h136 fun h137 =>
  stC (a1.add 5) (.slice r131.2.2.2.2.2.1.a r131.2.2.2.2.2.1.len r131.2.2.2.2.2.1.cap) h137 fun h138 =>
  stC (a1.add 6) (.int .i64 r131.2.2.2.2.2.2.1) h138 fun h139 =>
  stC (a1.add 7) (.bool r131.2.2.2.2.2.2.2.1) h139 fun h140 =>
  stC (a1.add 8) (.bool r131.2.2.2.2.2.2.2.2) h140 fun h141 =>
  ldI .i64 a1 h141 fun n142 =>
  ldI .i64 (a1.add 1) h141 fun n143 =>
  ldS (a1.add 2) h141 fun s144 =>
  ldS (a1.add 3) h141 fun s145 =>
  ldL (a1.add 4) h141 fun o146 l146 c146 =>
  ldL (a1.add 5) h141 fun o147 l147 c147 =>
  ldI .i64 (a1.add 6) h141 fun n148 =>
  ldB (a1.add 7) h141 fun b149 =>
  ldB (a1.add 8) h141 fun b150 =>
  R (n142, n143, s144, s145, (⟨o146, l146, c146⟩ : Sl), (⟨o147, l147, c147⟩ : Sl), n148, b149, b150) h141) (
  J81 () h130)) (
  ldS a4 h79 fun s151 =>
  ldI .i64 (a4.add 1) h79 fun n152 =>
  cnd (decide ((w64 ((s151.size : Int) - n152)) < r56.1)) (
  stC a1 (.int .i64 1) h79 fun h153 =>
  stC (a1.add 1) (.int .i64 0) h153 fun h154 =>
  stC (a1.add 2) (.string (⟨#[]⟩ : ByteArray)) h154 fun h155 =>
  stC (a1.add 3) (.string (⟨#[]⟩ : ByteArray)) h155 fun h156 =>
  stC (a1.add 4) (.slice none 0 0) h156 fun h157 =>
  stC (a1.add 5) (.slice none 0 0) h157 fun h158 =>
  stC (a1.add 6) (.int .i64 0) h158 fun h159 =>
  stC (a1.add 7) (.bool false) h159 fun h160 =>
  stC (a1.add 8) (.bool false) h160 fun h161 =>
  ldI .i64 a1 h161 fun n162 =>
  ldI .i64 (a1.add 1) h161 fun n163 =>
  ldS (a1.add 2) h161 fun s164 =>
  ldS (a1.add 3) h161 fun s165 =>
  ldL (a1.add 4) h161 fun o166 l166 c166 =>
  ldL (a1.add 5) h161 fun o167 l167 c167 =>
  ldI .i64 (a1.add 6) h161 fun n168 =>
  ldB (a1.add 7) h161 fun b169 =>
  ldB (a1.add 8) h161 fun b170 =>
  R (n162, n163, s164, s165, (⟨o166, l166, c166⟩ : Sl), (⟨o167, l167, c167⟩ : Sl), n168, b169, b170) h161) (
  ldS a4 h79 fun s171 =>
  ldI .i64 (a4.add 1) h79 fun n172 =>
  ldI .i64 (a4.add 1) h79 fun n173 =>
  ssl s171 n172 (w64 (n173 + r56.1)) fun s174 =>
  s2b s174 5 h79 fun a175 c176 h177 =>
  stC (a8.add 3) (.slice (some a175) s174.size c176) h177 fun h178 =>
  ldI .i64 (a4.add 1) h178 fun n179 =>
  stC (a4.add 1) (.int .i64 (w64 (n179 + r56.1))) h178 fun h180 =>
  J81 () h180))))))
theorem ref16_Parse_eq (x_0 : Sl) (R : (Int × Int × ByteArray × ByteArray × Sl × Sl × Int × Bool × Bool) → Heap → Prop) (h : Heap) : fnX Try.prog Fns.fns Try.f15 (.s .n (.s .n (.s .n (.s (.s .n (.s (.s .n .n) .n)) (.s .n (.s (.s .n (.s (.s .n .n) .n)) (.s .n (.s (.s .n (.s (.s .n (.s .n .n)) .n)) (.s .n (.j [] (.s .n (.s (.s .n (.s .n (.s (.s .n .n) .n))) (.s (.s .n (.s (.s .n .n) .n)) (.s .n .n)))) (.s .n (.j [] .n .n)))))))))))) [.agg [.int .i64, .int .i64, .str, .str, .sl, .sl, .int .i64, .bool, .bool]] [.slice x_0.a x_0.len x_0.cap] h R = ref16_Parse x_0 R h := by kernel_rfl
theorem ref16_Parse_call (x_0 : Sl) {R : (Int × Int × ByteArray × ByteArray × Sl × Sl × Int × Bool × Bool) → Heap → Prop} {h : Heap} (hx : ref16_Parse x_0 R h) : CallT Try.prog 15 [.slice x_0.a x_0.len x_0.cap] h [.agg [.int .i64, .int .i64, .str, .str, .sl, .sl, .int .i64, .bool, .bool]] R :=
  call_of_fnX fnsOk mixed Try.func15 (by kernel_rfl) (by rw [ref16_Parse_eq]; exact hx)

/-- stowage/stowageref16.Print (16) -/
def ref16_Print (r_0 : ByteArray × ByteArray × Sl × Sl) (R : Sl → Heap → Prop) (h : Heap) : Prop :=
  newB [.string r_0.1, .string r_0.2.1, .slice r_0.2.2.1.a r_0.2.2.1.len r_0.2.2.1.cap, .slice r_0.2.2.2.a r_0.2.2.2.len r_0.2.2.2.cap] 26 h fun a1 h2 =>
  ldS a1 h2 fun s3 =>
  ((s3.size + (⟨#[32]⟩ : ByteArray).size : Nat) : Int) ≤ 9223372036854775807 ∧
  ldS (a1.add 1) h2 fun s4 =>
  (((s3 ++ (⟨#[32]⟩ : ByteArray)).size + s4.size : Nat) : Int) ≤ 9223372036854775807 ∧
  ((((s3 ++ (⟨#[32]⟩ : ByteArray)) ++ s4).size + (⟨#[32, 72, 84, 84, 80, 47, 49, 46, 49, 13, 10]⟩ : ByteArray).size : Nat) : Int) ≤ 9223372036854775807 ∧
  LoopT (σ := ByteArray × Int) (fun X6 s5 h7 => -- s5: s, i
  ldL (a1.add 2) h7 fun o8 l8 c8 =>
  cnd (decide (s5.2 < (l8 : Int))) (
  ldL (a1.add 2) h7 fun o9 l9 c9 =>
  idx o9 l9 s5.2 fun a10 =>
  ldS (a10.add (s5.2.toNat * 2)) h7 fun s11 =>
  ((s5.1.size + s11.size : Nat) : Int) ≤ 9223372036854775807 ∧
  (((s5.1 ++ s11).size + (⟨#[58, 32]⟩ : ByteArray).size : Nat) : Int) ≤ 9223372036854775807 ∧
  ldL (a1.add 2) h7 fun o12 l12 c12 =>
  idx o12 l12 s5.2 fun a13 =>
  ldS ((a13.add (s5.2.toNat * 2)).add 1) h7 fun s14 =>
  ((((s5.1 ++ s11) ++ (⟨#[58, 32]⟩ : ByteArray)).size + s14.size : Nat) : Int) ≤ 9223372036854775807 ∧
  (((((s5.1 ++ s11) ++ (⟨#[58, 32]⟩ : ByteArray)) ++ s14).size + (⟨#[13, 10]⟩ : ByteArray).size : Nat) : Int) ≤ 9223372036854775807 ∧
  X6 (((((s5.1 ++ s11) ++ (⟨#[58, 32]⟩ : ByteArray)) ++ s14) ++ (⟨#[13, 10]⟩ : ByteArray)), (w64 (s5.2 + 1))) h7) (
  ((s5.1.size + (⟨#[13, 10]⟩ : ByteArray).size : Nat) : Int) ≤ 9223372036854775807 ∧
  s2b (s5.1 ++ (⟨#[13, 10]⟩ : ByteArray)) 5 h7 fun a15 c16 h17 =>
  ldL (a1.add 3) h17 fun o18 l18 c18 =>
  rdCells o18 (l18 * 1) h17 fun cs22 =>
  app [.int .u8 0] 5 1 1 (some a15) ((s5.1 ++ (⟨#[13, 10]⟩ : ByteArray)).size) c16 cs22 l18 h17 fun o19 c20 h21 =>
  R (⟨o19, (((s5.1 ++ (⟨#[13, 10]⟩ : ByteArray)).size) + l18), c20⟩ : Sl) h21)) ((((s3 ++ (⟨#[32]⟩ : ByteArray)) ++ s4) ++ (⟨#[32, 72, 84, 84, 80, 47, 49, 46, 49, 13, 10]⟩ : ByteArray)), 0) h2
theorem ref16_Print_eq (r_0 : ByteArray × ByteArray × Sl × Sl) (R : Sl → Heap → Prop) (h : Heap) : fnX Try.prog Fns.fns Try.f16 (.s .n (.s .n (.s (.s .n (.b (.l [(3, .str), (4, .int .i64)] (.s (.s .n (.s .n .n)) (.s (.b .n) .n))))) (.s .n .n)))) [.sc (.sl)] [.agg #[.string r_0.1, .string r_0.2.1, .slice r_0.2.2.1.a r_0.2.2.1.len r_0.2.2.1.cap, .slice r_0.2.2.2.a r_0.2.2.2.len r_0.2.2.2.cap]] h R = ref16_Print r_0 R h := by kernel_rfl
theorem ref16_Print_call (r_0 : ByteArray × ByteArray × Sl × Sl) {R : Sl → Heap → Prop} {h : Heap} (hx : ref16_Print r_0 R h) : CallT Try.prog 16 [.agg #[.string r_0.1, .string r_0.2.1, .slice r_0.2.2.1.a r_0.2.2.1.len r_0.2.2.1.cap, .slice r_0.2.2.2.a r_0.2.2.2.len r_0.2.2.2.cap]] h [.sc (.sl)] R :=
  call_of_fnX fnsOk mixed Try.func16 (by kernel_rfl) (by rw [ref16_Print_eq]; exact hx)

/-- stowage/stowageref16.Query (18) -/
def ref16_Query (target_0 : ByteArray) (R : ByteArray × Sl → Heap → Prop) (h : Heap) : Prop :=
  CallT Try.prog ref3_Cut_no [.string target_0, .int .u8 63] h [.sc (.str), .sc (.str), .sc (.bool)] fun (r1 : ByteArray × ByteArray × Bool) h2 =>
  CallT Try.prog ref3_Split_no [.string r1.2.1, .int .u8 38] h2 [.sc (.sl)] fun (r3 : Sl) h4 =>
  LoopT (σ := Sl × Int) (fun X6 s5 h7 => -- s5: out, i
  cnd (decide (s5.2 < (r3.len : Int))) (
  withJ (σ := Sl) (fun s8 h10 => -- s8: out
  X6 (s8, (w64 (s5.2 + 1))) h10) (fun J9 =>
  idx r3.a r3.len s5.2 fun a11 =>
  ldS (a11.add (s5.2.toNat * 1)) h7 fun s12 =>
  cnd (!seq s12 (⟨#[]⟩ : ByteArray)) (
  idx r3.a r3.len s5.2 fun a13 =>
  ldS (a13.add (s5.2.toNat * 1)) h7 fun s14 =>
  CallT Try.prog ref3_Cut_no [.string s14, .int .u8 61] h7 [.sc (.str), .sc (.str), .sc (.bool)] fun (r15 : ByteArray × ByteArray × Bool) h16 =>
  newB [.string r15.1, .string r15.2.1] 37 h16 fun a17 h18 =>
  ldRow (1 * 2) a17 h18 fun cs22 =>
  app [.string (⟨#[]⟩ : ByteArray), .string (⟨#[]⟩ : ByteArray)] 37 2 32 s5.1.a s5.1.len s5.1.cap cs22 1 h18 fun o19 c20 h21 =>
  J9 (⟨o19, (s5.1.len + 1), c20⟩ : Sl) h21) (
  J9 s5.1 h7))) (
  R (r1.1, s5.1) h7)) ((⟨none, 0, 0⟩ : Sl), 0) h4
theorem ref16_Query_eq (target_0 : ByteArray) (R : ByteArray × Sl → Heap → Prop) (h : Heap) : fnX Try.prog Fns.fns Try.f18 (.s .n (.s .n (.s .n (.s .n (.s (.s .n (.b (.l [(7, .sl), (9, .int .i64)] (.s (.s .n (.s .n .n)) (.j [(7, .sl)] (.b (.s .n (.s (.s .n .n) .n))) .n))))) (.s .n .n)))))) [.sc (.str), .sc (.sl)] [.string target_0] h R = ref16_Query target_0 R h := by kernel_rfl
theorem ref16_Query_call (target_0 : ByteArray) {R : ByteArray × Sl → Heap → Prop} {h : Heap} (hx : ref16_Query target_0 R h) : CallT Try.prog 18 [.string target_0] h [.sc (.str), .sc (.sl)] R :=
  call_of_fnX fnsOk mixed Try.func18 (by kernel_rfl) (by rw [ref16_Query_eq]; exact hx)

/-- stowage/stowageref16.Get (20) -/
def ref16_Get (l_0 : Sl) (name_1 : ByteArray) (R : ByteArray × Bool → Heap → Prop) (h : Heap) : Prop :=
  CallT Try.prog ref16_All_no [.slice l_0.a l_0.len l_0.cap, .string name_1] h [.sc (.sl)] fun (r1 : Sl) h2 =>
  cnd ((r1.len : Int) == 0) (
  R ((⟨#[]⟩ : ByteArray), false) h2) (
  idx r1.a r1.len 0 fun a3 =>
  ldS (a3.add ((0 : Int).toNat * 1)) h2 fun s4 =>
  R (s4, true) h2)
theorem ref16_Get_eq (l_0 : Sl) (name_1 : ByteArray) (R : ByteArray × Bool → Heap → Prop) (h : Heap) : fnX Try.prog Fns.fns Try.f20 (.s .n (.s .n (.s (.s .n (.s (.s .n .n) .n)) (.s .n .n)))) [.sc (.str), .sc (.bool)] [.slice l_0.a l_0.len l_0.cap, .string name_1] h R = ref16_Get l_0 name_1 R h := by kernel_rfl
theorem ref16_Get_call (l_0 : Sl) (name_1 : ByteArray) {R : ByteArray × Bool → Heap → Prop} {h : Heap} (hx : ref16_Get l_0 name_1 R h) : CallT Try.prog 20 [.slice l_0.a l_0.len l_0.cap, .string name_1] h [.sc (.str), .sc (.bool)] R :=
  call_of_fnX fnsOk mixed Try.func20 (by kernel_rfl) (by rw [ref16_Get_eq]; exact hx)

/-- stowage/stowageref16.All (22) -/
def ref16_All (l_0 : Sl) (name_1 : ByteArray) (R : Sl → Heap → Prop) (h : Heap) : Prop :=
  LoopT (σ := Sl × Int) (fun X2 s1 h3 => -- s1: out, i
  cnd (decide (s1.2 < (l_0.len : Int))) (
  withJ (σ := Sl) (fun s4 h6 => -- s4: out
  X2 (s4, (w64 (s1.2 + 1))) h6) (fun J5 =>
  idx l_0.a l_0.len s1.2 fun a7 =>
  ldS (a7.add (s1.2.toNat * 2)) h3 fun s8 =>
  cnd (seq s8 name_1) (
  idx l_0.a l_0.len s1.2 fun a9 =>
  ldS ((a9.add (s1.2.toNat * 2)).add 1) h3 fun s10 =>
  newB [.string s10] 9 h3 fun a11 h12 =>
  ldRow (1 * 1) a11 h12 fun cs16 =>
  app [.string (⟨#[]⟩ : ByteArray)] 9 1 16 s1.1.a s1.1.len s1.1.cap cs16 1 h12 fun o13 c14 h15 =>
  J5 (⟨o13, (s1.1.len + 1), c14⟩ : Sl) h15) (
  J5 s1.1 h3))) (
  R s1.1 h3)) ((⟨none, 0, 0⟩ : Sl), 0) h
theorem ref16_All_eq (l_0 : Sl) (name_1 : ByteArray) (R : Sl → Heap → Prop) (h : Heap) : fnX Try.prog Fns.fns Try.f22 (.s .n (.s .n (.s (.s .n (.b (.l [(5, .sl), (6, .int .i64)] (.s (.s .n (.s .n .n)) (.j [(5, .sl)] (.b (.s .n (.s .n .n))) .n))))) (.s .n .n)))) [.sc (.sl)] [.slice l_0.a l_0.len l_0.cap, .string name_1] h R = ref16_All l_0 name_1 R h := by kernel_rfl
theorem ref16_All_call (l_0 : Sl) (name_1 : ByteArray) {R : Sl → Heap → Prop} {h : Heap} (hx : ref16_All l_0 name_1 R h) : CallT Try.prog 22 [.slice l_0.a l_0.len l_0.cap, .string name_1] h [.sc (.sl)] R :=
  call_of_fnX fnsOk mixed Try.func22 (by kernel_rfl) (by rw [ref16_All_eq]; exact hx)

/-- (*stowage/stowageref16.Reader).first (28) -/
def ref16_Reader_first (x_0 : Option Addr) (R : (ByteArray × ByteArray × Sl × Sl) × Bool → Heap → Prop) (h : Heap) : Prop :=
  newB [.string (⟨#[]⟩ : ByteArray), .string (⟨#[]⟩ : ByteArray), .slice none 0 0, .slice none 0 0] 26 h fun a1 h2 =>
  CallT Try.prog ref16_Reader_line_no [.pointer x_0, .int .i64 8192, .int .i64 338] h2 [.sc (.str), .sc (.bool)] fun (r3 : ByteArray × Bool) h4 =>
  nn x_0 fun a5 =>
  ldI .i64 (a5.add 1) h4 fun n6 =>
  nn x_0 fun a7 =>
  stC (a7.add 2) (.int .i64 n6) h4 fun h8 =>
  cnd (!r3.2) (
  stC a1 (.string (⟨#[]⟩ : ByteArray)) h8 fun h9 =>
  stC (a1.add 1) (.string (⟨#[]⟩ : ByteArray)) h9 fun h10 =>
  stC (a1.add 2) (.slice none 0 0) h10 fun h11 =>
  stC (a1.add 3) (.slice none 0 0) h11 fun h12 =>
  ldS a1 h12 fun s13 =>
  ldS (a1.add 1) h12 fun s14 =>
  ldL (a1.add 2) h12 fun o15 l15 c15 =>
  ldL (a1.add 3) h12 fun o16 l16 c16 =>
  R ((s13, s14, (⟨o15, l15, c15⟩ : Sl), (⟨o16, l16, c16⟩ : Sl)), false) h12) (
  CallT Try.prog ref3_Split_no [.string r3.1, .int .u8 32] h8 [.sc (.sl)] fun (r17 : Sl) h18 =>
  withJ (σ := Unit) (fun s19 h21 => -- s19: 
  LoopT (σ := Int) (fun X23 s22 h24 => -- s22: t7
  idx r17.a r17.len 1 fun a25 =>
  ldS (a25.add ((1 : Int).toNat * 1)) h24 fun s26 =>
  cnd (decide (s22 < (s26.size : Int))) (
  withJ (σ := Unit) (fun s27 h29 => -- s27: 
  X23 (w64 (s22 + 1)) h29) (fun J28 =>
  withJ (σ := Bool) (fun s30 h32 => -- s30: t74
  cnd s30 (
  nn x_0 fun a33 =>
  stC (a33.add 5) (.int .i64 308) h32 fun h34 =>
  J28 () h34) (
  J28 () h32)) (fun J31 =>
  idx r17.a r17.len 1 fun a35 =>
  ldS (a35.add ((1 : Int).toNat * 1)) h24 fun s36 =>
  sidx s36 s22 fun u37 =>
  cnd (decide ((u37.toNat : Int) < 33)) (
  J31 true h24) (
  idx r17.a r17.len 1 fun a38 =>
  ldS (a38.add ((1 : Int).toNat * 1)) h24 fun s39 =>
  sidx s39 s22 fun u40 =>
  J31 (decide ((u40.toNat : Int) > 126)) h24)))) (
  idx r17.a r17.len 2 fun a41 =>
  ldS (a41.add ((2 : Int).toNat * 1)) h24 fun s42 =>
  withJ (σ := Unit) (fun s43 h45 => -- s43: 
  withJ (σ := Unit) (fun s46 h48 => -- s46: 
  withJ (σ := Unit) (fun s49 h51 => -- s49: 
  idx r17.a r17.len 0 fun a52 =>
  ldS (a52.add ((0 : Int).toNat * 1)) h51 fun s53 =>
  idx r17.a r17.len 1 fun a54 =>
  ldS (a54.add ((1 : Int).toNat * 1)) h51 fun s55 =>
  nn x_0 fun a56 =>
  ldI .i64 (a56.add 5) h51 fun n57 =>
  stC a1 (.string s53) h51 fun h58 =>
  stC (a1.add 1) (.string s55) h58 fun h59 =>
  stC (a1.add 2) (.slice none 0 0) h59 fun h60 =>
  stC (a1.add 3) (.slice none 0 0) h60 fun h61 =>
  (ldI .i64 (a56.add 5) h61 fun n62 =>
  (.int .i64 n62 : Value) = .int .i64 n57) ∧
  ldS a1 h61 fun s63 =>
  ldS (a1.add 1) h61 fun s64 =>
  ldL (a1.add 2) h61 fun o65 l65 c65 =>
  ldL (a1.add 3) h61 fun o66 l66 c66 =>
  R ((s63, s64, (⟨o65, l65, c65⟩ : Sl), (⟨o66, l66, c66⟩ : Sl)), (n57 == 0)) h61) (fun J50 =>
  withJ (σ := Bool) (fun s67 h69 => -- s67: t138
  cnd s67 (
  nn x_0 fun a70 =>
  stC (a70.add 5) (.int .i64 331) h69 fun h71 =>
  J50 () h71) (
  J50 () h69)) (fun J68 =>
  nn x_0 fun a72 =>
  ldI .i64 (a72.add 5) h48 fun n73 =>
  cnd (n73 == 0) (
  idx r17.a r17.len 1 fun a74 =>
  ldS (a74.add ((1 : Int).toNat * 1)) h48 fun s75 =>
  sidx s75 0 fun u76 =>
  cnd ((u76.toNat : Int) != 47) (
  idx r17.a r17.len 1 fun a77 =>
  ldS (a77.add ((1 : Int).toNat * 1)) h48 fun s78 =>
  J68 (!seq s78 (⟨#[42]⟩ : ByteArray)) h48) (
  J68 false h48)) (
  J68 false h48)))) (fun J47 =>
  withJ (σ := Bool) (fun s79 h81 => -- s79: t117
  cnd s79 (
  nn x_0 fun a82 =>
  stC (a82.add 5) (.int .i64 340) h81 fun h83 =>
  J47 () h83) (
  J47 () h81)) (fun J80 =>
  nn x_0 fun a84 =>
  ldI .i64 (a84.add 5) h45 fun n85 =>
  cnd (n85 == 0) (
  J80 (!seq s42 (⟨#[72, 84, 84, 80, 47, 49, 46, 49]⟩ : ByteArray)) h45) (
  J80 false h45)))) (fun J44 =>
  withJ (σ := Bool) (fun s86 h88 => -- s86: t105
  cnd s86 (
  nn x_0 fun a89 =>
  stC (a89.add 5) (.int .i64 308) h88 fun h90 =>
  J44 () h90) (
  J44 () h88)) (fun J87 =>
  cnd ((s42.size : Int) != 8) (
  J87 true h24) (
  ssl s42 0 5 fun s91 =>
  cnd (!seq s91 (⟨#[72, 84, 84, 80, 47]⟩ : ByteArray)) (
  J87 true h24) (
  sidx s42 5 fun u92 =>
  CallT Try.prog ref16_digit_no [.int .u8 (u92.toNat : Int)] h24 [.sc (.bool)] fun (r93 : Bool) h94 =>
  cnd (!r93) (
  J87 true h94) (
  sidx s42 6 fun u95 =>
  cnd ((u95.toNat : Int) != 46) (
  J87 true h94) (
  sidx s42 7 fun u96 =>
  CallT Try.prog ref16_digit_no [.int .u8 (u96.toNat : Int)] h94 [.sc (.bool)] fun (r97 : Bool) h98 =>
  J87 (!r97) h98)))))))) 0 h21) (fun J20 =>
  withJ (σ := Bool) (fun s99 h101 => -- s99: t48
  cnd s99 (
  nn x_0 fun a102 =>
  stC (a102.add 5) (.int .i64 308) h101 fun h103 =>
  stC a1 (.string (⟨#[]⟩ : ByteArray)) h103 fun h104 =>
  stC (a1.add 1) (.string (⟨#[]⟩ : ByteArray)) h104 fun h105 =>
  stC (a1.add 2) (.slice none 0 0) h105 fun h106 =>
  stC (a1.add 3) (.slice none 0 0) h106 fun h107 =>
  ldS a1 h107 fun s108 =>
  ldS (a1.add 1) h107 fun s109 =>
  ldL (a1.add 2) h107 fun o110 l110 c110 =>
  ldL (a1.add 3) h107 fun o111 l111 c111 =>
  R ((s108, s109, (⟨o110, l110, c110⟩ : Sl), (⟨o111, l111, c111⟩ : Sl)), false) h107) (
  J20 () h101)) (fun J100 =>
  cnd ((r17.len : Int) != 3) (
  J100 true h18) (
  idx r17.a r17.len 0 fun a112 =>
  ldS (a112.add ((0 : Int).toNat * 1)) h18 fun s113 =>
  CallT Try.prog ref3_Token_no [.string s113] h18 [.sc (.bool)] fun (r114 : Bool) h115 =>
  cnd (!r114) (
  J100 true h115) (
  idx r17.a r17.len 0 fun a116 =>
  ldS (a116.add ((0 : Int).toNat * 1)) h115 fun s117 =>
  cnd (decide ((s117.size : Int) > 16)) (
  J100 true h115) (
  idx r17.a r17.len 1 fun a118 =>
  ldS (a118.add ((1 : Int).toNat * 1)) h115 fun s119 =>
  J100 (seq s119 (⟨#[]⟩ : ByteArray)) h115))))))
theorem ref16_Reader_first_eq (x_0 : Option Addr) (R : (ByteArray × ByteArray × Sl × Sl) × Bool → Heap → Prop) (h : Heap) : fnX Try.prog Fns.fns Try.f28 (.s .n (.s .n (.s .n (.s (.s .n (.s (.s .n .n) .n)) (.s .n (.j [] (.j [(48, .bool)] .n (.s (.s .n (.s .n .n)) .n)) (.s (.s .n (.b (.l [(7, .int .i64)] (.s (.s .n (.s .n .n)) (.j [] (.b (.j [(74, .bool)] .n (.s .n .n))) .n))))) (.s .n (.j [] (.j [(105, .bool)] .n (.s .n .n)) (.j [] (.j [(117, .bool)] .n (.s .n .n)) (.j [] (.j [(138, .bool)] .n (.s .n .n)) (.s .n .n)))))))))))) [.agg [.str, .str, .sl, .sl], .sc (.bool)] [.pointer x_0] h R = ref16_Reader_first x_0 R h := by kernel_rfl
theorem ref16_Reader_first_call (x_0 : Option Addr) {R : (ByteArray × ByteArray × Sl × Sl) × Bool → Heap → Prop} {h : Heap} (hx : ref16_Reader_first x_0 R h) : CallT Try.prog 28 [.pointer x_0] h [.agg [.str, .str, .sl, .sl], .sc (.bool)] R :=
  call_of_fnX fnsOk mixed Try.func28 (by kernel_rfl) (by rw [ref16_Reader_first_eq]; exact hx)

/-- (*stowage/stowageref16.Reader).left (29) -/
def ref16_Reader_left (r_0 : Option Addr) (R : (Int × Int × ByteArray × ByteArray × Sl × Sl × Int × Bool × Bool) → Heap → Prop) (h : Heap) : Prop :=
  newB [.int .i64 0, .int .i64 0, .string (⟨#[]⟩ : ByteArray), .string (⟨#[]⟩ : ByteArray), .slice none 0 0, .slice none 0 0, .int .i64 0, .bool false, .bool false] 40 h fun a1 h2 =>
  nn r_0 fun a3 =>
  ldI .i64 (a3.add 5) h2 fun n4 =>
  cnd (n4 != 0) (
  nn r_0 fun a5 =>
  ldI .i64 (a5.add 5) h2 fun n6 =>
  stC a1 (.int .i64 3) h2 fun h7 =>
  stC (a1.add 1) (.int .i64 0) h7 fun h8 =>
  stC (a1.add 2) (.string (⟨#[]⟩ : ByteArray)) h8 fun h9 =>
  stC (a1.add 3) (.string (⟨#[]⟩ : ByteArray)) h9 fun h10 =>
  stC (a1.add 4) (.slice none 0 0) h10 fun h11 =>
  stC (a1.add 5) (.slice none 0 0) h11 fun h12 =>
  stC (a1.add 6) (.int .i64 n6) h12 fun h13 =>
  stC (a1.add 7) (.bool true) h13 fun h14 =>
  stC (a1.add 8) (.bool false) h14 fun h15 =>
  ldI .i64 a1 h15 fun n16 =>
  ldI .i64 (a1.add 1) h15 fun n17 =>
  ldS (a1.add 2) h15 fun s18 =>
  ldS (a1.add 3) h15 fun s19 =>
  ldL (a1.add 4) h15 fun o20 l20 c20 =>
  ldL (a1.add 5) h15 fun o21 l21 c21 =>
  ldI .i64 (a1.add 6) h15 fun n22 =>
  ldB (a1.add 7) h15 fun b23 =>
  ldB (a1.add 8) h15 fun b24 =>
  R (n16, n17, s18, s19, (⟨o20, l20, c20⟩ : Sl), (⟨o21, l21, c21⟩ : Sl), n22, b23, b24) h15) (
  stC a1 (.int .i64 1) h2 fun h25 =>
  stC (a1.add 1) (.int .i64 0) h25 fun h26 =>
  stC (a1.add 2) (.string (⟨#[]⟩ : ByteArray)) h26 fun h27 =>
  stC (a1.add 3) (.string (⟨#[]⟩ : ByteArray)) h27 fun h28 =>
  stC (a1.add 4) (.slice none 0 0) h28 fun h29 =>
  stC (a1.add 5) (.slice none 0 0) h29 fun h30 =>
  stC (a1.add 6) (.int .i64 0) h30 fun h31 =>
  stC (a1.add 7) (.bool false) h31 fun h32 =>
  stC (a1.add 8) (.bool false) h32 fun h33 =>
  ldI .i64 a1 h33 fun n34 =>
  ldI .i64 (a1.add 1) h33 fun n35 =>
  ldS (a1.add 2) h33 fun s36 =>
  ldS (a1.add 3) h33 fun s37 =>
  ldL (a1.add 4) h33 fun o38 l38 c38 =>
  ldL (a1.add 5) h33 fun o39 l39 c39 =>
  ldI .i64 (a1.add 6) h33 fun n40 =>
  ldB (a1.add 7) h33 fun b41 =>
  ldB (a1.add 8) h33 fun b42 =>
  R (n34, n35, s36, s37, (⟨o38, l38, c38⟩ : Sl), (⟨o39, l39, c39⟩ : Sl), n40, b41, b42) h33)
theorem ref16_Reader_left_eq (r_0 : Option Addr) (R : (Int × Int × ByteArray × ByteArray × Sl × Sl × Int × Bool × Bool) → Heap → Prop) (h : Heap) : fnX Try.prog Fns.fns Try.f29 (.s .n (.s (.s .n (.s (.s .n .n) .n)) (.s .n .n))) [.agg [.int .i64, .int .i64, .str, .str, .sl, .sl, .int .i64, .bool, .bool]] [.pointer r_0] h R = ref16_Reader_left r_0 R h := by kernel_rfl
theorem ref16_Reader_left_call (r_0 : Option Addr) {R : (Int × Int × ByteArray × ByteArray × Sl × Sl × Int × Bool × Bool) → Heap → Prop} {h : Heap} (hx : ref16_Reader_left r_0 R h) : CallT Try.prog 29 [.pointer r_0] h [.agg [.int .i64, .int .i64, .str, .str, .sl, .sl, .int .i64, .bool, .bool]] R :=
  call_of_fnX fnsOk mixed Try.func29 (by kernel_rfl) (by rw [ref16_Reader_left_eq]; exact hx)

/-- (*stowage/stowageref16.Reader).block (30) -/
def ref16_Reader_block (r_0 : Option Addr) (R : Sl × Bool → Heap → Prop) (h : Heap) : Prop :=
  LoopT (σ := Sl) (fun X2 s1 h3 => -- s1: out
  CallT Try.prog ref16_Reader_header_no [.pointer r_0] h3 [.agg [.str, .str], .sc (.bool)] fun (r4 : (ByteArray × ByteArray) × Bool) h5 =>
  newB [.string (⟨#[]⟩ : ByteArray), .string (⟨#[]⟩ : ByteArray)] 37 h5 fun a6 h7 =>
  stC a6 (.string r4.1.1) h7 fun h8 =>
  stC (a6.add 1) (.string r4.1.2) h8 fun h9 =>
  cnd (!r4.2) (
  R ((⟨none, 0, 0⟩ : Sl), false) h9) (
  ldS a6 h9 fun s10 =>
  cnd (seq s10 (⟨#[]⟩ : ByteArray)) (
  R (s1, true) h9) (
  ldS a6 h9 fun s11 =>
  ldS (a6.add 1) h9 fun s12 =>
  newB [.string s11, .string s12] 37 h9 fun a13 h14 =>
  ldRow (1 * 2) a13 h14 fun cs18 =>
  app [.string (⟨#[]⟩ : ByteArray), .string (⟨#[]⟩ : ByteArray)] 37 2 32 s1.a s1.len s1.cap cs18 1 h14 fun o15 c16 h17 =>
  X2 (⟨o15, (s1.len + 1), c16⟩ : Sl) h17))) (⟨none, 0, 0⟩ : Sl) h
theorem ref16_Reader_block_eq (r_0 : Option Addr) (R : Sl × Bool → Heap → Prop) (h : Heap) : fnX Try.prog Fns.fns Try.f30 (.s .n (.s .n (.b (.l [(4, .sl)] (.b (.s .n (.s (.s .n (.s (.s .n .n) .n)) (.s (.s .n (.s (.s .n .n) .n)) .n)))))))) [.sc (.sl), .sc (.bool)] [.pointer r_0] h R = ref16_Reader_block r_0 R h := by kernel_rfl
theorem ref16_Reader_block_call (r_0 : Option Addr) {R : Sl × Bool → Heap → Prop} {h : Heap} (hx : ref16_Reader_block r_0 R h) : CallT Try.prog 30 [.pointer r_0] h [.sc (.sl), .sc (.bool)] R :=
  call_of_fnX fnsOk mixed Try.func30 (by kernel_rfl) (by rw [ref16_Reader_block_eq]; exact hx)

/-- stowage/stowageref16.fit (31) -/
def ref16_fit (x_0 : Sl) (R : Int × Int → Heap → Prop) (h : Heap) : Prop :=
  CallT Try.prog ref16_All_no [.slice x_0.a x_0.len x_0.cap, .string (⟨#[116, 114, 97, 110, 115, 102, 101, 114, 45, 101, 110, 99, 111, 100, 105, 110, 103]⟩ : ByteArray)] h [.sc (.sl)] fun (r1 : Sl) h2 =>
  CallT Try.prog ref16_All_no [.slice x_0.a x_0.len x_0.cap, .string (⟨#[99, 111, 110, 116, 101, 110, 116, 45, 108, 101, 110, 103, 116, 104]⟩ : ByteArray)] h2 [.sc (.sl)] fun (r3 : Sl) h4 =>
  withJ (σ := Int) (fun s5 h7 => -- s5: t6
  withJ (σ := Int) (fun s8 h10 => -- s8: t6
  CallT Try.prog ref16_Get_no [.slice x_0.a x_0.len x_0.cap, .string (⟨#[101, 120, 112, 101, 99, 116]⟩ : ByteArray)] h10 [.sc (.str), .sc (.bool)] fun (r11 : ByteArray × Bool) h12 =>
  withJ (σ := Unit) (fun s13 h15 => -- s13: 
  R (s8, 0) h15) (fun J14 =>
  withJ (σ := Bool) (fun s16 h18 => -- s16: t79
  cnd s16 (
  R (0, 337) h18) (
  J14 () h18)) (fun J17 =>
  cnd r11.2 (
  CallT Try.prog ref3_Lower_no [.string r11.1] h12 [.sc (.str)] fun (r19 : ByteArray) h20 =>
  J17 (!seq r19 (⟨#[49, 48, 48, 45, 99, 111, 110, 116, 105, 110, 117, 101]⟩ : ByteArray)) h20) (
  J17 false h12)))) (fun J9 =>
  cnd ((r3.len : Int) == 1) (
  idx r3.a r3.len 0 fun a21 =>
  ldS (a21.add ((0 : Int).toNat * 1)) h7 fun s22 =>
  CallT Try.prog ref1_Int_no [.string s22] h7 [.sc (.int .i64), .sc (.bool)] fun (r23 : Int × Bool) h24 =>
  cnd (!r23.2) (
  R (0, 308) h24) (
  cnd (decide (r23.1 > 1048576)) (
  R (0, 324) h24) (
  J9 r23.1 h24))) (
  J9 s5 h7))) (fun J6 =>
  withJ (σ := Bool) (fun s25 h27 => -- s25: t15
  cnd s25 (
  R (0, 308) h27) (
  withJ (σ := Bool) (fun s28 h30 => -- s28: t35
  cnd s28 (
  R (0, 335) h30) (
  cnd (decide ((r3.len : Int) > 1)) (
  R (0, 308) h30) (
  cnd ((r1.len : Int) == 1) (
  J6 (-1) h30) (
  J6 0 h30)))) (fun J29 =>
  cnd ((r1.len : Int) == 1) (
  idx r1.a r1.len 0 fun a31 =>
  ldS (a31.add ((0 : Int).toNat * 1)) h27 fun s32 =>
  CallT Try.prog ref3_Lower_no [.string s32] h27 [.sc (.str)] fun (r33 : ByteArray) h34 =>
  J29 (!seq r33 (⟨#[99, 104, 117, 110, 107, 101, 100]⟩ : ByteArray)) h34) (
  J29 false h27)))) (fun J26 =>
  CallT Try.prog ref16_All_no [.slice x_0.a x_0.len x_0.cap, .string (⟨#[104, 111, 115, 116]⟩ : ByteArray)] h4 [.sc (.sl)] fun (r35 : Sl) h36 =>
  cnd ((r35.len : Int) != 1) (
  J26 true h36) (
  cnd (decide ((r1.len : Int) > 0)) (
  cnd (decide ((r3.len : Int) > 0)) (
  J26 true h36) (
  J26 (decide ((r1.len : Int) > 1)) h36)) (
  J26 (decide ((r1.len : Int) > 1)) h36))))
theorem ref16_fit_eq (x_0 : Sl) (R : Int × Int → Heap → Prop) (h : Heap) : fnX Try.prog Fns.fns Try.f31 (.s .n (.s .n (.s .n (.s .n (.j [(6, .int .i64)] (.b (.j [(15, .bool)] .n (.s (.s .n .n) (.j [(35, .bool)] .n (.s (.s .n .n) (.s .n (.s (.s .n .n) (.s .n (.s .n .n))))))))) (.j [(6, .int .i64)] (.s .n (.s (.s .n (.s (.s .n (.s (.s .n .n) .n)) (.s (.s .n (.s (.s .n .n) .n)) .n))) .n)) (.s .n (.j [] (.j [(79, .bool)] .n (.s (.s .n .n) .n)) (.s .n .n))))))))) [.sc (.int .i64), .sc (.int .i64)] [.slice x_0.a x_0.len x_0.cap] h R = ref16_fit x_0 R h := by kernel_rfl
theorem ref16_fit_call (x_0 : Sl) {R : Int × Int → Heap → Prop} {h : Heap} (hx : ref16_fit x_0 R h) : CallT Try.prog 31 [.slice x_0.a x_0.len x_0.cap] h [.sc (.int .i64), .sc (.int .i64)] R :=
  call_of_fnX fnsOk mixed Try.func31 (by kernel_rfl) (by rw [ref16_fit_eq]; exact hx)

/-- (*stowage/stowageref16.Reader).chunks (32) -/
def ref16_Reader_chunks (x_0 : Option Addr) (R : Sl × Bool → Heap → Prop) (h : Heap) : Prop :=
  LoopT (σ := Sl) (fun X2 s1 h3 => -- s1: t4
  CallT Try.prog ref16_Reader_line_no [.pointer x_0, .int .i64 256, .int .i64 308] h3 [.sc (.str), .sc (.bool)] fun (r4 : ByteArray × Bool) h5 =>
  cnd (!r4.2) (
  R ((⟨none, 0, 0⟩ : Sl), false) h5) (
  CallT Try.prog ref16_size_no [.string r4.1] h5 [.sc (.int .i64)] fun (r6 : Int) h7 =>
  cnd (decide (r6 < 0)) (
  nn x_0 fun a8 =>
  stC (a8.add 5) (.int .i64 308) h7 fun h9 =>
  R ((⟨none, 0, 0⟩ : Sl), false) h9) (
  cnd (decide ((w64 ((s1.len : Int) + r6)) > 1048576)) (
  nn x_0 fun a10 =>
  stC (a10.add 5) (.int .i64 324) h7 fun h11 =>
  R ((⟨none, 0, 0⟩ : Sl), false) h11) (
  cnd (r6 == 0) (
  CallT Try.prog ref16_Reader_block_no [.pointer x_0] h7 [.sc (.sl), .sc (.bool)] fun (r12 : Sl × Bool) h13 =>
  R (s1, r12.2) h13) (
  withJ (σ := Unit) (fun s14 h16 => -- s14: 
  nn x_0 fun a17 =>
  ldS a17 h16 fun s18 =>
  nn x_0 fun a19 =>
  ldI .i64 (a19.add 1) h16 fun n20 =>
  cnd (decide ((w64 ((s18.size : Int) - n20)) < (w64 (r6 + 2)))) (
  nn x_0 fun a21 =>
  stC (a21.add 4) (.bool true) h16 fun h22 =>
  R ((⟨none, 0, 0⟩ : Sl), false) h22) (
  nn x_0 fun a23 =>
  ldS a23 h16 fun s24 =>
  nn x_0 fun a25 =>
  ldI .i64 (a25.add 1) h16 fun n26 =>
  nn x_0 fun a27 =>
  ldI .i64 (a27.add 1) h16 fun n28 =>
  ssl s24 n26 (w64 (n28 + r6)) fun s29 =>
  app [.int .u8 0] 5 1 1 s1.a s1.len s1.cap (bytesV s29) s29.size h16 fun o30 c31 h32 =>
  nn x_0 fun a33 =>
  ldI .i64 (a33.add 1) h32 fun n34 =>
  nn x_0 fun a35 =>
  stC (a35.add 1) (.int .i64 (w64 ((w64 (n34 + r6)) + 2))) h32 fun h36 =>
  X2 (⟨o30, (s1.len + s29.size), c31⟩ : Sl) h36)) (fun J15 =>
  withJ (σ := Bool) (fun s37 h39 => -- s37: t96
  cnd s37 (
  nn x_0 fun a40 =>
  stC (a40.add 5) (.int .i64 308) h39 fun h41 =>
  R ((⟨none, 0, 0⟩ : Sl), false) h41) (
  J15 () h39)) (fun J38 =>
  nn x_0 fun a42 =>
  ldS a42 h7 fun s43 =>
  nn x_0 fun a44 =>
  ldI .i64 (a44.add 1) h7 fun n45 =>
  cnd (decide ((w64 ((s43.size : Int) - n45)) > r6)) (
  nn x_0 fun a46 =>
  ldS a46 h7 fun s47 =>
  nn x_0 fun a48 =>
  ldI .i64 (a48.add 1) h7 fun n49 =>
  sidx s47 (w64 (n49 + r6)) fun u50 =>
  cnd ((u50.toNat : Int) != 13) (
  J38 true h7) (
  nn x_0 fun a51 =>
  ldS a51 h7 fun s52 =>
  nn x_0 fun a53 =>
  ldI .i64 (a53.add 1) h7 fun n54 =>
  cnd (decide ((w64 ((s52.size : Int) - n54)) > (w64 (r6 + 1)))) (
  nn x_0 fun a55 =>
  ldS a55 h7 fun s56 =>
  nn x_0 fun a57 =>
  ldI .i64 (a57.add 1) h7 fun n58 =>
  sidx s56 (w64 ((w64 (n58 + r6)) + 1)) fun u59 =>
  J38 ((u59.toNat : Int) != 10) h7) (
  J38 false h7))) (
  nn x_0 fun a60 =>
  ldS a60 h7 fun s61 =>
  nn x_0 fun a62 =>
  ldI .i64 (a62.add 1) h7 fun n63 =>
  cnd (decide ((w64 ((s61.size : Int) - n63)) > (w64 (r6 + 1)))) (
  nn x_0 fun a64 =>
  ldS a64 h7 fun s65 =>
  nn x_0 fun a66 =>
  ldI .i64 (a66.add 1) h7 fun n67 =>
  sidx s65 (w64 ((w64 (n67 + r6)) + 1)) fun u68 =>
  J38 ((u68.toNat : Int) != 10) h7) (
  J38 false h7))))))))) (⟨none, 0, 0⟩ : Sl) h
theorem ref16_Reader_chunks_eq (x_0 : Option Addr) (R : Sl × Bool → Heap → Prop) (h : Heap) : fnX Try.prog Fns.fns Try.f32 (.s .n (.s .n (.b (.l [(4, .sl)] (.b (.s .n (.s (.s .n (.s (.s .n .n) .n)) (.s .n (.s (.s .n (.s (.s .n (.s .n .n)) .n)) (.s (.s .n (.s (.s .n (.s .n .n)) .n)) (.s (.s .n (.s (.s .n (.s .n .n)) .n)) (.j [] (.j [(96, .bool)] .n (.s (.s .n (.s .n .n)) .n)) (.s (.s .n (.s (.s .n (.s .n .n)) .n)) (.s .n .n)))))))))))))) [.sc (.sl), .sc (.bool)] [.pointer x_0] h R = ref16_Reader_chunks x_0 R h := by kernel_rfl
theorem ref16_Reader_chunks_call (x_0 : Option Addr) {R : Sl × Bool → Heap → Prop} {h : Heap} (hx : ref16_Reader_chunks x_0 R h) : CallT Try.prog 32 [.pointer x_0] h [.sc (.sl), .sc (.bool)] R :=
  call_of_fnX fnsOk mixed Try.func32 (by kernel_rfl) (by rw [ref16_Reader_chunks_eq]; exact hx)

/-- stowage/stowageref16.closes (33) -/
def ref16_closes (l_0 : Sl) (R : Bool → Heap → Prop) (h : Heap) : Prop :=
  CallT Try.prog ref16_All_no [.slice l_0.a l_0.len l_0.cap, .string (⟨#[99, 111, 110, 110, 101, 99, 116, 105, 111, 110]⟩ : ByteArray)] h [.sc (.sl)] fun (r1 : Sl) h2 =>
  LoopT (σ := Int) (fun X4 s3 h5 => -- s3: i
  cnd (decide (s3 < (r1.len : Int))) (
  idx r1.a r1.len s3 fun a6 =>
  ldS (a6.add (s3.toNat * 1)) h5 fun s7 =>
  CallT Try.prog ref3_Split_no [.string s7, .int .u8 44] h5 [.sc (.sl)] fun (r8 : Sl) h9 =>
  LoopT (σ := Int) (fun X11 s10 h12 => -- s10: k
  cnd (decide (s10 < (r8.len : Int))) (
  idx r8.a r8.len s10 fun a13 =>
  ldS (a13.add (s10.toNat * 1)) h12 fun s14 =>
  CallT Try.prog ref3_Trim_no [.string s14] h12 [.sc (.str)] fun (r15 : ByteArray) h16 =>
  CallT Try.prog ref3_Lower_no [.string r15] h16 [.sc (.str)] fun (r17 : ByteArray) h18 =>
  cnd (seq r17 (⟨#[99, 108, 111, 115, 101]⟩ : ByteArray)) (
  R true h18) (
  X11 (w64 (s10 + 1)) h18)) (
  X4 (w64 (s3 + 1)) h12)) 0 h9) (
  R false h5)) 0 h2
theorem ref16_closes_eq (l_0 : Sl) (R : Bool → Heap → Prop) (h : Heap) : fnX Try.prog Fns.fns Try.f33 (.s .n (.s .n (.s (.s .n (.b (.l [(4, .int .i64)] (.s (.s .n (.s .n .n)) (.s (.b (.s .n (.s .n (.b (.l [(6, .int .i64)] (.s (.s .n (.s .n .n)) (.s (.b (.s .n (.s (.s .n .n) .n))) .n))))))) .n))))) (.s .n .n)))) [.sc (.bool)] [.slice l_0.a l_0.len l_0.cap] h R = ref16_closes l_0 R h := by kernel_rfl
theorem ref16_closes_call (l_0 : Sl) {R : Bool → Heap → Prop} {h : Heap} (hx : ref16_closes l_0 R h) : CallT Try.prog 33 [.slice l_0.a l_0.len l_0.cap] h [.sc (.bool)] R :=
  call_of_fnX fnsOk mixed Try.func33 (by kernel_rfl) (by rw [ref16_closes_eq]; exact hx)

/-- stowage/stowageref3.Cut (35) -/
def ref3_Cut (s_0 : ByteArray) (c_1 : Int) (R : ByteArray × ByteArray × Bool → Heap → Prop) (h : Heap) : Prop :=
  LoopT (σ := Int) (fun X2 s1 h3 => -- s1: i
  cnd (decide (s1 < (s_0.size : Int))) (
  sidx s_0 s1 fun u4 =>
  cnd ((u4.toNat : Int) == c_1) (
  ssl s_0 0 s1 fun s5 =>
  ssl s_0 (w64 (s1 + 1)) (s_0.size : Int) fun s6 =>
  R (s5, s6, true) h3) (
  X2 (w64 (s1 + 1)) h3)) (
  R (s_0, (⟨#[]⟩ : ByteArray), false) h3)) 0 h
theorem ref3_Cut_eq (s_0 : ByteArray) (c_1 : Int) (R : ByteArray × ByteArray × Bool → Heap → Prop) (h : Heap) : fnX Try.prog Fns.fns Try.f35 (.s .n (.s (.s .n (.b (.l [(7, .int .i64)] (.s (.s .n (.s .n .n)) (.s (.b (.s .n (.s (.s .n .n) .n))) .n))))) (.s .n .n))) [.sc (.str), .sc (.str), .sc (.bool)] [.string s_0, .int .u8 c_1] h R = ref3_Cut s_0 c_1 R h := by kernel_rfl
theorem ref3_Cut_call (s_0 : ByteArray) (c_1 : Int) {R : ByteArray × ByteArray × Bool → Heap → Prop} {h : Heap} (hx : ref3_Cut s_0 c_1 R h) : CallT Try.prog 35 [.string s_0, .int .u8 c_1] h [.sc (.str), .sc (.str), .sc (.bool)] R :=
  call_of_fnX fnsOk mixed Try.func35 (by kernel_rfl) (by rw [ref3_Cut_eq]; exact hx)

/-- stowage/stowageref3.Split (36) -/
def ref3_Split (s_0 : ByteArray) (sep_1 : Int) (R : Sl → Heap → Prop) (h : Heap) : Prop :=
  LoopT (σ := Sl × Int × Int) (fun X2 s1 h3 => -- s1: out, from, i
  cnd (decide (s1.2.2 < (s_0.size : Int))) (
  withJ (σ := Sl × Int) (fun s4 h6 => -- s4: out, from
  X2 (s4.1, s4.2, (w64 (s1.2.2 + 1))) h6) (fun J5 =>
  sidx s_0 s1.2.2 fun u7 =>
  cnd ((u7.toNat : Int) == sep_1) (
  ssl s_0 s1.2.1 s1.2.2 fun s8 =>
  newB [.string s8] 9 h3 fun a9 h10 =>
  ldRow (1 * 1) a9 h10 fun cs14 =>
  app [.string (⟨#[]⟩ : ByteArray)] 9 1 16 s1.1.a s1.1.len s1.1.cap cs14 1 h10 fun o11 c12 h13 =>
  J5 ((⟨o11, (s1.1.len + 1), c12⟩ : Sl), (w64 (s1.2.2 + 1))) h13) (
  J5 (s1.1, s1.2.1) h3))) (
  ssl s_0 s1.2.1 (s_0.size : Int) fun s15 =>
  newB [.string s15] 9 h3 fun a16 h17 =>
  ldRow (1 * 1) a16 h17 fun cs21 =>
  app [.string (⟨#[]⟩ : ByteArray)] 9 1 16 s1.1.a s1.1.len s1.1.cap cs21 1 h17 fun o18 c19 h20 =>
  R (⟨o18, (s1.1.len + 1), c19⟩ : Sl) h20)) ((⟨none, 0, 0⟩ : Sl), 0, 0) h
theorem ref3_Split_eq (s_0 : ByteArray) (sep_1 : Int) (R : Sl → Heap → Prop) (h : Heap) : fnX Try.prog Fns.fns Try.f36 (.s .n (.s .n (.s .n (.s (.s .n (.b (.l [(5, .sl), (6, .int .i64), (7, .int .i64)] (.s (.s .n (.s .n .n)) (.j [(5, .sl), (6, .int .i64)] (.b (.s .n (.s (.s .n .n) .n))) .n))))) (.s .n .n))))) [.sc (.sl)] [.string s_0, .int .u8 sep_1] h R = ref3_Split s_0 sep_1 R h := by kernel_rfl
theorem ref3_Split_call (s_0 : ByteArray) (sep_1 : Int) {R : Sl → Heap → Prop} {h : Heap} (hx : ref3_Split s_0 sep_1 R h) : CallT Try.prog 36 [.string s_0, .int .u8 sep_1] h [.sc (.sl)] R :=
  call_of_fnX fnsOk mixed Try.func36 (by kernel_rfl) (by rw [ref3_Split_eq]; exact hx)

/-- (*stowage/stowageref16.Reader).line (45) -/
def ref16_Reader_line (x_0 : Option Addr) (x_1 : Int) (x_2 : Int) (R : ByteArray × Bool → Heap → Prop) (h : Heap) : Prop :=
  nn x_0 fun a1 =>
  ldS a1 h fun s2 =>
  nn x_0 fun a3 =>
  ldI .i64 (a3.add 1) h fun n4 =>
  CallT Try.prog ref16_end_no [.string s2, .int .i64 n4] h [.sc (.int .i64)] fun (r5 : Int) h6 =>
  withJ (σ := Unit) (fun s7 h9 => -- s7: 
  cnd (decide (r5 < 0)) (
  nn x_0 fun a10 =>
  stC (a10.add 4) (.bool true) h9 fun h11 =>
  R ((⟨#[]⟩ : ByteArray), false) h11) (
  nn x_0 fun a12 =>
  ldS a12 h9 fun s13 =>
  nn x_0 fun a14 =>
  ldI .i64 (a14.add 1) h9 fun n15 =>
  ssl s13 n15 r5 fun s16 =>
  nn x_0 fun a17 =>
  stC (a17.add 1) (.int .i64 (w64 (r5 + 2))) h9 fun h18 =>
  CallT Try.prog ref16_bare_no [.string s16] h18 [.sc (.bool)] fun (r19 : Bool) h20 =>
  cnd r19 (
  nn x_0 fun a21 =>
  stC (a21.add 5) (.int .i64 308) h20 fun h22 =>
  R ((⟨#[]⟩ : ByteArray), false) h22) (
  R (s16, true) h20))) (fun J8 =>
  withJ (σ := Bool) (fun s23 h25 => -- s23: t45
  cnd s23 (
  nn x_0 fun a26 =>
  stC (a26.add 5) (.int .i64 x_2) h25 fun h27 =>
  R ((⟨#[]⟩ : ByteArray), false) h27) (
  J8 () h25)) (fun J24 =>
  nn x_0 fun a28 =>
  ldI .i64 (a28.add 1) h6 fun n29 =>
  cnd (decide (r5 > (w64 (n29 + x_1)))) (
  J24 true h6) (
  cnd (decide (r5 < 0)) (
  nn x_0 fun a30 =>
  ldS a30 h6 fun s31 =>
  nn x_0 fun a32 =>
  ldI .i64 (a32.add 1) h6 fun n33 =>
  J24 (decide ((w64 ((s31.size : Int) - n33)) ≥ (w64 (x_1 + 2)))) h6) (
  J24 false h6))))
theorem ref16_Reader_line_eq (x_0 : Option Addr) (x_1 : Int) (x_2 : Int) (R : ByteArray × Bool → Heap → Prop) (h : Heap) : fnX Try.prog Fns.fns Try.f45 (.s .n (.s .n (.j [] (.j [(45, .bool)] .n (.s (.s .n (.s .n .n)) .n)) (.s (.s .n (.s (.s .n (.s .n .n)) .n)) (.s .n (.s .n (.s (.s .n (.s (.s .n (.s .n .n)) .n)) (.s .n .n)))))))) [.sc (.str), .sc (.bool)] [.pointer x_0, .int .i64 x_1, .int .i64 x_2] h R = ref16_Reader_line x_0 x_1 x_2 R h := by kernel_rfl
theorem ref16_Reader_line_call (x_0 : Option Addr) (x_1 : Int) (x_2 : Int) {R : ByteArray × Bool → Heap → Prop} {h : Heap} (hx : ref16_Reader_line x_0 x_1 x_2 R h) : CallT Try.prog 45 [.pointer x_0, .int .i64 x_1, .int .i64 x_2] h [.sc (.str), .sc (.bool)] R :=
  call_of_fnX fnsOk mixed Try.func45 (by kernel_rfl) (by rw [ref16_Reader_line_eq]; exact hx)

/-- stowage/stowageref3.Token (46) -/
def ref3_Token (s_0 : ByteArray) (R : Bool → Heap → Prop) (h : Heap) : Prop :=
  LoopT (σ := Int) (fun X2 s1 h3 => -- s1: i
  cnd (decide (s1 < (s_0.size : Int))) (
  withJ (σ := Unit) (fun s4 h6 => -- s4: 
  X2 (w64 (s1 + 1)) h6) (fun J5 =>
  withJ (σ := Bool) (fun s7 h9 => -- s7: t21
  cnd s7 (
  R false h9) (
  J5 () h9)) (fun J8 =>
  sidx s_0 s1 fun u10 =>
  CallT Try.prog ref3_Alnum_no [.int .u8 (u10.toNat : Int)] h3 [.sc (.bool)] fun (r11 : Bool) h12 =>
  cnd (!r11) (
  sidx s_0 s1 fun u13 =>
  CallT Try.prog ref3_in_no [.string (⟨#[33, 35, 36, 37, 38, 39, 42, 43, 45, 46, 94, 95, 96, 124, 126]⟩ : ByteArray), .int .u8 (u13.toNat : Int)] h12 [.sc (.bool)] fun (r14 : Bool) h15 =>
  J8 (!r14) h15) (
  J8 false h12)))) (
  R (decide ((s_0.size : Int) > 0)) h3)) 0 h
theorem ref3_Token_eq (s_0 : ByteArray) (R : Bool → Heap → Prop) (h : Heap) : fnX Try.prog Fns.fns Try.f46 (.s .n (.s (.s .n (.b (.l [(3, .int .i64)] (.s (.s .n (.s .n .n)) (.j [] (.b (.j [(21, .bool)] .n (.s (.s .n .n) .n))) .n))))) (.s .n .n))) [.sc (.bool)] [.string s_0] h R = ref3_Token s_0 R h := by kernel_rfl
theorem ref3_Token_call (s_0 : ByteArray) {R : Bool → Heap → Prop} {h : Heap} (hx : ref3_Token s_0 R h) : CallT Try.prog 46 [.string s_0] h [.sc (.bool)] R :=
  call_of_fnX fnsOk mixed Try.func46 (by kernel_rfl) (by rw [ref3_Token_eq]; exact hx)

/-- stowage/stowageref16.digit (47) -/
def ref16_digit (c_0 : Int) (R : Bool → Heap → Prop) (h : Heap) : Prop :=
  withJ (σ := Bool) (fun s1 h3 => -- s1: t2
  R s1 h3) (fun J2 =>
  cnd (decide (c_0 ≥ 48)) (
  J2 (decide (c_0 ≤ 57)) h) (
  J2 false h))
theorem ref16_digit_eq (c_0 : Int) (R : Bool → Heap → Prop) (h : Heap) : fnX Try.prog Fns.fns Try.f47 (.s .n (.j [(2, .bool)] .n .n)) [.sc (.bool)] [.int .u8 c_0] h R = ref16_digit c_0 R h := by kernel_rfl
theorem ref16_digit_call (c_0 : Int) {R : Bool → Heap → Prop} {h : Heap} (hx : ref16_digit c_0 R h) : CallT Try.prog 47 [.int .u8 c_0] h [.sc (.bool)] R :=
  call_of_fnX fnsOk mixed Try.func47 (by kernel_rfl) (by rw [ref16_digit_eq]; exact hx)

/-- (*stowage/stowageref16.Reader).header (48) -/
def ref16_Reader_header (x_0 : Option Addr) (R : (ByteArray × ByteArray) × Bool → Heap → Prop) (h : Heap) : Prop :=
  newB [.string (⟨#[]⟩ : ByteArray), .string (⟨#[]⟩ : ByteArray)] 37 h fun a1 h2 =>
  nn x_0 fun a3 =>
  ldS a3 h2 fun s4 =>
  nn x_0 fun a5 =>
  ldI .i64 (a5.add 1) h2 fun n6 =>
  CallT Try.prog ref16_end_no [.string s4, .int .i64 n6] h2 [.sc (.int .i64)] fun (r7 : Int) h8 =>
  nn x_0 fun a9 =>
  ldS a9 h8 fun s10 =>
  nn x_0 fun a11 =>
  ldI .i64 (a11.add 1) h8 fun n12 =>
  withJ (σ := Int) (fun s13 h15 => -- s13: t5
  withJ (σ := Bool) (fun s16 h18 => -- s16: t6
  withJ (σ := Unit) (fun s19 h21 => -- s19: 
  cnd (decide (r7 < 0)) (
  nn x_0 fun a22 =>
  stC (a22.add 4) (.bool true) h21 fun h23 =>
  stC a1 (.string (⟨#[]⟩ : ByteArray)) h23 fun h24 =>
  stC (a1.add 1) (.string (⟨#[]⟩ : ByteArray)) h24 fun h25 =>
  ldS a1 h25 fun s26 =>
  ldS (a1.add 1) h25 fun s27 =>
  R ((s26, s27), false) h25) (
  nn x_0 fun a28 =>
  ldS a28 h21 fun s29 =>
  nn x_0 fun a30 =>
  ldI .i64 (a30.add 1) h21 fun n31 =>
  ssl s29 n31 r7 fun s32 =>
  nn x_0 fun a33 =>
  stC (a33.add 1) (.int .i64 (w64 (r7 + 2))) h21 fun h34 =>
  nn x_0 fun a35 =>
  ldI .i64 (a35.add 2) h34 fun n36 =>
  nn x_0 fun a37 =>
  stC (a37.add 2) (.int .i64 (w64 (n36 + s13))) h34 fun h38 =>
  cnd (seq s32 (⟨#[]⟩ : ByteArray)) (
  stC a1 (.string (⟨#[]⟩ : ByteArray)) h38 fun h39 =>
  stC (a1.add 1) (.string (⟨#[]⟩ : ByteArray)) h39 fun h40 =>
  ldS a1 h40 fun s41 =>
  ldS (a1.add 1) h40 fun s42 =>
  R ((s41, s42), true) h40) (
  nn x_0 fun a43 =>
  ldI .i64 (a43.add 3) h38 fun n44 =>
  nn x_0 fun a45 =>
  stC (a45.add 3) (.int .i64 (w64 (n44 + 1))) h38 fun h46 =>
  CallT Try.prog ref3_Cut_no [.string s32, .int .u8 58] h46 [.sc (.str), .sc (.str), .sc (.bool)] fun (r47 : ByteArray × ByteArray × Bool) h48 =>
  withJ (σ := Unit) (fun s49 h51 => -- s49: 
  CallT Try.prog ref3_Lower_no [.string r47.1] h51 [.sc (.str)] fun (r52 : ByteArray) h53 =>
  CallT Try.prog ref3_Trim_no [.string r47.2.1] h53 [.sc (.str)] fun (r54 : ByteArray) h55 =>
  stC a1 (.string r52) h55 fun h56 =>
  stC (a1.add 1) (.string r54) h56 fun h57 =>
  ldS a1 h57 fun s58 =>
  ldS (a1.add 1) h57 fun s59 =>
  R ((s58, s59), true) h57) (fun J50 =>
  withJ (σ := Bool) (fun s60 h62 => -- s60: t135
  cnd s60 (
  nn x_0 fun a63 =>
  stC (a63.add 5) (.int .i64 308) h62 fun h64 =>
  stC a1 (.string (⟨#[]⟩ : ByteArray)) h64 fun h65 =>
  stC (a1.add 1) (.string (⟨#[]⟩ : ByteArray)) h65 fun h66 =>
  ldS a1 h66 fun s67 =>
  ldS (a1.add 1) h66 fun s68 =>
  R ((s67, s68), false) h66) (
  J50 () h62)) (fun J61 =>
  CallT Try.prog ref16_bare_no [.string s32] h48 [.sc (.bool)] fun (r69 : Bool) h70 =>
  cnd r69 (
  J61 true h70) (
  cnd (!r47.2.2) (
  J61 true h70) (
  CallT Try.prog ref3_Token_no [.string r47.1] h70 [.sc (.bool)] fun (r71 : Bool) h72 =>
  cnd (!r71) (
  J61 true h72) (
  CallT Try.prog ref3_Value_no [.string r47.2.1] h72 [.sc (.bool)] fun (r73 : Bool) h74 =>
  J61 (!r73) h74)))))))) (fun J20 =>
  withJ (σ := Bool) (fun s75 h77 => -- s75: t69
  cnd s75 (
  nn x_0 fun a78 =>
  stC (a78.add 5) (.int .i64 339) h77 fun h79 =>
  stC a1 (.string (⟨#[]⟩ : ByteArray)) h79 fun h80 =>
  stC (a1.add 1) (.string (⟨#[]⟩ : ByteArray)) h80 fun h81 =>
  ldS a1 h81 fun s82 =>
  ldS (a1.add 1) h81 fun s83 =>
  R ((s82, s83), false) h81) (
  J20 () h77)) (fun J76 =>
  nn x_0 fun a84 =>
  ldI .i64 (a84.add 2) h18 fun n85 =>
  cnd (decide ((w64 (n85 + s13)) > 65536)) (
  J76 true h18) (
  cnd (decide (r7 ≥ 0)) (
  cnd s16 (
  nn x_0 fun a86 =>
  ldI .i64 (a86.add 3) h18 fun n87 =>
  J76 (n87 == 100) h18) (
  J76 false h18)) (
  J76 false h18))))) (fun J17 =>
  cnd (decide (r7 < 0)) (
  J17 true h15) (
  nn x_0 fun a88 =>
  ldI .i64 (a88.add 1) h15 fun n89 =>
  J17 (decide (r7 > n89)) h15))) (fun J14 =>
  cnd (decide (r7 ≥ 0)) (
  nn x_0 fun a90 =>
  ldI .i64 (a90.add 1) h8 fun n91 =>
  J14 (w64 ((w64 (r7 + 2)) - n91)) h8) (
  J14 (w64 ((s10.size : Int) - n12)) h8))
theorem ref16_Reader_header_eq (x_0 : Option Addr) (R : (ByteArray × ByteArray) × Bool → Heap → Prop) (h : Heap) : fnX Try.prog Fns.fns Try.f48 (.s .n (.s .n (.s .n (.j [(5, .int .i64)] (.s .n (.s .n .n)) (.j [(6, .bool)] .n (.j [] (.j [(69, .bool)] .n (.s (.s .n (.s .n .n)) .n)) (.s (.s .n (.s (.s .n (.s .n .n)) .n)) (.s .n (.s .n (.s .n (.s (.s .n (.s (.s .n .n) .n)) (.s .n (.s .n (.j [] (.j [(135, .bool)] .n (.s (.s .n (.s .n .n)) .n)) (.s .n .n))))))))))))))) [.agg [.str, .str], .sc (.bool)] [.pointer x_0] h R = ref16_Reader_header x_0 R h := by kernel_rfl
theorem ref16_Reader_header_call (x_0 : Option Addr) {R : (ByteArray × ByteArray) × Bool → Heap → Prop} {h : Heap} (hx : ref16_Reader_header x_0 R h) : CallT Try.prog 48 [.pointer x_0] h [.agg [.str, .str], .sc (.bool)] R :=
  call_of_fnX fnsOk mixed Try.func48 (by kernel_rfl) (by rw [ref16_Reader_header_eq]; exact hx)

/-- stowage/stowageref3.Lower (49) -/
def ref3_Lower (s_0 : ByteArray) (R : ByteArray → Heap → Prop) (h : Heap) : Prop :=
  LoopT (σ := Sl × Int) (fun X2 s1 h3 => -- s1: out, i
  cnd (decide (s1.2 < (s_0.size : Int))) (
  withJ (σ := Sl) (fun s4 h6 => -- s4: out
  X2 (s4, (w64 (s1.2 + 1))) h6) (fun J5 =>
  sidx s_0 s1.2 fun u7 =>
  withJ (σ := Int) (fun s8 h10 => -- s8: c
  newB [.int .u8 s8] 5 h10 fun a11 h12 =>
  ldRow (1 * 1) a11 h12 fun cs16 =>
  app [.int .u8 0] 5 1 1 s1.1.a s1.1.len s1.1.cap cs16 1 h12 fun o13 c14 h15 =>
  J5 (⟨o13, (s1.1.len + 1), c14⟩ : Sl) h15) (fun J9 =>
  withJ (σ := Bool) (fun s17 h19 => -- s17: t20
  cnd s17 (
  J9 (IntKind.u8.wrap ((u7.toNat : Int) + 32)) h19) (
  J9 (u7.toNat : Int) h19)) (fun J18 =>
  cnd (decide ((u7.toNat : Int) ≥ 65)) (
  J18 (decide ((u7.toNat : Int) ≤ 90)) h3) (
  J18 false h3))))) (
  b2s s1.1.a s1.1.len h3 fun s20 =>
  R s20 h3)) ((⟨none, 0, 0⟩ : Sl), 0) h
theorem ref3_Lower_eq (s_0 : ByteArray) (R : ByteArray → Heap → Prop) (h : Heap) : fnX Try.prog Fns.fns Try.f49 (.s .n (.s .n (.s (.s .n (.b (.l [(3, .sl), (4, .int .i64)] (.s (.s .n (.s .n .n)) (.j [(3, .sl)] (.b (.s .n (.j [(5, .int .u8)] (.j [(20, .bool)] .n (.s .n .n)) .n))) .n))))) (.s .n .n)))) [.sc (.str)] [.string s_0] h R = ref3_Lower s_0 R h := by kernel_rfl
theorem ref3_Lower_call (s_0 : ByteArray) {R : ByteArray → Heap → Prop} {h : Heap} (hx : ref3_Lower s_0 R h) : CallT Try.prog 49 [.string s_0] h [.sc (.str)] R :=
  call_of_fnX fnsOk mixed Try.func49 (by kernel_rfl) (by rw [ref3_Lower_eq]; exact hx)

/-- stowage/stowageref1.Int (50) -/
def ref1_Int (s_0 : ByteArray) (R : Int × Bool → Heap → Prop) (h : Heap) : Prop :=
  withJ (σ := Unit) (fun s1 h3 => -- s1: 
  LoopT (σ := Int × Int) (fun X5 s4 h6 => -- s4: n, i
  cnd (decide (s4.2 < (s_0.size : Int))) (
  withJ (σ := Int) (fun s7 h9 => -- s7: n
  X5 (s7, (w64 (s4.2 + 1))) h9) (fun J8 =>
  withJ (σ := Unit) (fun s10 h12 => -- s10: 
  sidx s_0 s4.2 fun u13 =>
  J8 (w64 ((w64 (10 * s4.1)) + (w64 ((IntKind.u8.wrap ((u13.toNat : Int) - 48)))))) h12) (fun J11 =>
  withJ (σ := Bool) (fun s14 h16 => -- s14: t39
  cnd s14 (
  R (0, false) h16) (
  J11 () h16)) (fun J15 =>
  sidx s_0 s4.2 fun u17 =>
  cnd (decide ((u17.toNat : Int) < 48)) (
  J15 true h6) (
  sidx s_0 s4.2 fun u18 =>
  J15 (decide ((u18.toNat : Int) > 57)) h6))))) (
  R (s4.1, true) h6)) (0, 0) h3) (fun J2 =>
  withJ (σ := Bool) (fun s19 h21 => -- s19: t23
  cnd s19 (
  R (0, false) h21) (
  J2 () h21)) (fun J20 =>
  cnd ((s_0.size : Int) == 0) (
  J20 true h) (
  cnd (decide ((s_0.size : Int) > 18)) (
  J20 true h) (
  sidx s_0 0 fun u22 =>
  cnd ((u22.toNat : Int) == 48) (
  J20 (decide ((s_0.size : Int) > 1)) h) (
  J20 false h)))))
theorem ref1_Int_eq (s_0 : ByteArray) (R : Int × Bool → Heap → Prop) (h : Heap) : fnX Try.prog Fns.fns Try.f50 (.s .n (.j [] (.j [(23, .bool)] .n (.s (.s .n .n) .n)) (.s .n (.s (.s .n (.b (.l [(4, .int .i64), (5, .int .i64)] (.s (.s .n (.s .n .n)) (.j [(4, .int .i64)] (.b (.j [] (.j [(39, .bool)] .n (.s (.s .n .n) .n)) .n)) .n))))) (.s .n .n))))) [.sc (.int .i64), .sc (.bool)] [.string s_0] h R = ref1_Int s_0 R h := by kernel_rfl
theorem ref1_Int_call (s_0 : ByteArray) {R : Int × Bool → Heap → Prop} {h : Heap} (hx : ref1_Int s_0 R h) : CallT Try.prog 50 [.string s_0] h [.sc (.int .i64), .sc (.bool)] R :=
  call_of_fnX fnsOk mixed Try.func50 (by kernel_rfl) (by rw [ref1_Int_eq]; exact hx)

/-- stowage/stowageref16.size (51) -/
def ref16_size (s_0 : ByteArray) (R : Int → Heap → Prop) (h : Heap) : Prop :=
  CallT Try.prog ref3_Cut_no [.string s_0, .int .u8 59] h [.sc (.str), .sc (.str), .sc (.bool)] fun (r1 : ByteArray × ByteArray × Bool) h2 =>
  withJ (σ := Unit) (fun s3 h5 => -- s3: 
  LoopT (σ := Int × Int) (fun X7 s6 h8 => -- s6: n, i
  cnd (decide (s6.2 < (r1.1.size : Int))) (
  sidx r1.1 s6.2 fun u9 =>
  CallT Try.prog ref3_Digit_no [.int .u8 (u9.toNat : Int)] h8 [.sc (.int .i64)] fun (r10 : Int) h11 =>
  cnd (decide (r10 < 0)) (
  R (-1) h11) (
  X7 ((w64 ((w64 (16 * s6.1)) + r10)), (w64 (s6.2 + 1))) h11)) (
  R s6.1 h8)) (0, 0) h5) (fun J4 =>
  withJ (σ := Bool) (fun s12 h14 => -- s12: t27
  cnd s12 (
  R (-1) h14) (
  J4 () h14)) (fun J13 =>
  cnd (decide ((r1.1.size : Int) < 1)) (
  J13 true h2) (
  cnd (decide ((r1.1.size : Int) > 8)) (
  J13 true h2) (
  CallT Try.prog ref3_Value_no [.string r1.2.1] h2 [.sc (.bool)] fun (r15 : Bool) h16 =>
  J13 (!r15) h16))))
theorem ref16_size_eq (s_0 : ByteArray) (R : Int → Heap → Prop) (h : Heap) : fnX Try.prog Fns.fns Try.f51 (.s .n (.s .n (.j [] (.j [(27, .bool)] .n (.s (.s .n .n) .n)) (.s .n (.s (.s .n (.b (.l [(6, .int .i64), (7, .int .i64)] (.s (.s .n (.s .n .n)) (.s (.b (.s .n (.s (.s .n (.s (.s .n .n) .n)) .n))) .n))))) (.s .n .n)))))) [.sc (.int .i64)] [.string s_0] h R = ref16_size s_0 R h := by kernel_rfl
theorem ref16_size_call (s_0 : ByteArray) {R : Int → Heap → Prop} {h : Heap} (hx : ref16_size s_0 R h) : CallT Try.prog 51 [.string s_0] h [.sc (.int .i64)] R :=
  call_of_fnX fnsOk mixed Try.func51 (by kernel_rfl) (by rw [ref16_size_eq]; exact hx)

/-- stowage/stowageref3.Trim (52) -/
def ref3_Trim (s_0 : ByteArray) (R : ByteArray → Heap → Prop) (h : Heap) : Prop :=
  LoopT (σ := ByteArray) (fun X2 s1 h3 => -- s1: s
  withJ (σ := ByteArray × Int × Bool × Bool × Bool) (fun s4 h6 => -- s4: t7, t8, t9, t10, t14
  ssl s1 1 (s1.size : Int) fun s7 =>
  X2 s7 h6) (fun J5 =>
  cnd (decide ((s1.size : Int) > 0)) (
  sidx s1 0 fun u8 =>
  cnd ((u8.toNat : Int) == 32) (
  J5 (s1, (u8.toNat : Int), ((u8.toNat : Int) == 32), true, true) h3) (
  sidx s1 0 fun u9 =>
  cnd ((u9.toNat : Int) == 9) (
  J5 (s1, (u8.toNat : Int), ((u8.toNat : Int) == 32), false, ((u9.toNat : Int) == 9)) h3) (
  LoopT (σ := ByteArray) (fun X11 s10 h12 => -- s10: s
  withJ (σ := ByteArray × ByteArray × Int × Int × Int × Bool × Bool × Bool) (fun s13 h15 => -- s13: t22, t23, t24, t25, t26, t27, t28, t35
  ssl s10 0 (w64 ((s10.size : Int) - 1)) fun s16 =>
  X11 s16 h15) (fun J14 =>
  cnd (decide ((s10.size : Int) > 0)) (
  sidx s10 (w64 ((s10.size : Int) - 1)) fun u17 =>
  cnd ((u17.toNat : Int) == 32) (
  J14 (s10, s10, (s10.size : Int), (w64 ((s10.size : Int) - 1)), (u17.toNat : Int), ((u17.toNat : Int) == 32), true, true) h12) (
  sidx s10 (w64 ((s10.size : Int) - 1)) fun u18 =>
  cnd ((u18.toNat : Int) == 9) (
  J14 (s10, s10, (s10.size : Int), (w64 ((s10.size : Int) - 1)), (u17.toNat : Int), ((u17.toNat : Int) == 32), false, ((u18.toNat : Int) == 9)) h12) (
  R s10 h12))) (
  R s10 h12))) s1 h3))) (
  LoopT (σ := ByteArray) (fun X20 s19 h21 => -- s19: s
  withJ (σ := ByteArray × ByteArray × Int × Int × Int × Bool × Bool × Bool) (fun s22 h24 => -- s22: t22, t23, t24, t25, t26, t27, t28, t35
  ssl s19 0 (w64 ((s19.size : Int) - 1)) fun s25 =>
  X20 s25 h24) (fun J23 =>
  cnd (decide ((s19.size : Int) > 0)) (
  sidx s19 (w64 ((s19.size : Int) - 1)) fun u26 =>
  cnd ((u26.toNat : Int) == 32) (
  J23 (s19, s19, (s19.size : Int), (w64 ((s19.size : Int) - 1)), (u26.toNat : Int), ((u26.toNat : Int) == 32), true, true) h21) (
  sidx s19 (w64 ((s19.size : Int) - 1)) fun u27 =>
  cnd ((u27.toNat : Int) == 9) (
  J23 (s19, s19, (s19.size : Int), (w64 ((s19.size : Int) - 1)), (u26.toNat : Int), ((u26.toNat : Int) == 32), false, ((u27.toNat : Int) == 9)) h21) (
  R s19 h21))) (
  R s19 h21))) s1 h3))) s_0 h
theorem ref3_Trim_eq (s_0 : ByteArray) (R : ByteArray → Heap → Prop) (h : Heap) : fnX Try.prog Fns.fns Try.f52 (.s .n (.s (.b (.l [(0, .str)] (.j [(7, .str), (8, .int .u8), (9, .bool), (10, .bool), (14, .bool)] (.s .n (.s .n .n)) (.b .n)))) (.s (.b (.l [(0, .str)] (.j [(22, .str), (23, .str), (24, .int .i64), (25, .int .i64), (26, .int .u8), (27, .bool), (28, .bool), (35, .bool)] (.s .n (.s .n .n)) (.b .n)))) (.s .n .n)))) [.sc (.str)] [.string s_0] h R = ref3_Trim s_0 R h := by kernel_rfl
theorem ref3_Trim_call (s_0 : ByteArray) {R : ByteArray → Heap → Prop} {h : Heap} (hx : ref3_Trim s_0 R h) : CallT Try.prog 52 [.string s_0] h [.sc (.str)] R :=
  call_of_fnX fnsOk mixed Try.func52 (by kernel_rfl) (by rw [ref3_Trim_eq]; exact hx)

/-- stowage/stowageref16.end (64) -/
def ref16_end (s_0 : ByteArray) (from_1 : Int) (R : Int → Heap → Prop) (h : Heap) : Prop :=
  LoopT (σ := Int) (fun X2 s1 h3 => -- s1: i
  cnd (decide ((w64 (s1 + 1)) < (s_0.size : Int))) (
  withJ (σ := Unit) (fun s4 h6 => -- s4: 
  X2 (w64 (s1 + 1)) h6) (fun J5 =>
  withJ (σ := Bool) (fun s7 h9 => -- s7: t24
  cnd s7 (
  R s1 h9) (
  J5 () h9)) (fun J8 =>
  sidx s_0 s1 fun u10 =>
  cnd ((u10.toNat : Int) == 13) (
  sidx s_0 (w64 (s1 + 1)) fun u11 =>
  J8 ((u11.toNat : Int) == 10) h3) (
  J8 false h3)))) (
  R (-1) h3)) from_1 h
theorem ref16_end_eq (s_0 : ByteArray) (from_1 : Int) (R : Int → Heap → Prop) (h : Heap) : fnX Try.prog Fns.fns Try.f64 (.s .n (.s (.s .n (.b (.l [(5, .int .i64)] (.s (.s .n (.s .n .n)) (.j [] (.b (.j [(24, .bool)] .n (.s (.s .n .n) .n))) .n))))) (.s .n .n))) [.sc (.int .i64)] [.string s_0, .int .i64 from_1] h R = ref16_end s_0 from_1 R h := by kernel_rfl
theorem ref16_end_call (s_0 : ByteArray) (from_1 : Int) {R : Int → Heap → Prop} {h : Heap} (hx : ref16_end s_0 from_1 R h) : CallT Try.prog 64 [.string s_0, .int .i64 from_1] h [.sc (.int .i64)] R :=
  call_of_fnX fnsOk mixed Try.func64 (by kernel_rfl) (by rw [ref16_end_eq]; exact hx)

/-- stowage/stowageref16.bare (65) -/
def ref16_bare (s_0 : ByteArray) (R : Bool → Heap → Prop) (h : Heap) : Prop :=
  LoopT (σ := Int) (fun X2 s1 h3 => -- s1: i
  cnd (decide (s1 < (s_0.size : Int))) (
  withJ (σ := Unit) (fun s4 h6 => -- s4: 
  X2 (w64 (s1 + 1)) h6) (fun J5 =>
  withJ (σ := Bool) (fun s7 h9 => -- s7: t19
  cnd s7 (
  R true h9) (
  J5 () h9)) (fun J8 =>
  sidx s_0 s1 fun u10 =>
  cnd ((u10.toNat : Int) == 13) (
  J8 true h3) (
  sidx s_0 s1 fun u11 =>
  J8 ((u11.toNat : Int) == 10) h3)))) (
  R false h3)) 0 h
theorem ref16_bare_eq (s_0 : ByteArray) (R : Bool → Heap → Prop) (h : Heap) : fnX Try.prog Fns.fns Try.f65 (.s .n (.s (.s .n (.b (.l [(3, .int .i64)] (.s (.s .n (.s .n .n)) (.j [] (.b (.j [(19, .bool)] .n (.s (.s .n .n) .n))) .n))))) (.s .n .n))) [.sc (.bool)] [.string s_0] h R = ref16_bare s_0 R h := by kernel_rfl
theorem ref16_bare_call (s_0 : ByteArray) {R : Bool → Heap → Prop} {h : Heap} (hx : ref16_bare s_0 R h) : CallT Try.prog 65 [.string s_0] h [.sc (.bool)] R :=
  call_of_fnX fnsOk mixed Try.func65 (by kernel_rfl) (by rw [ref16_bare_eq]; exact hx)

/-- stowage/stowageref3.Alnum (66) -/
def ref3_Alnum (c_0 : Int) (R : Bool → Heap → Prop) (h : Heap) : Prop :=
  withJ (σ := Bool) (fun s1 h3 => -- s1: t2
  R s1 h3) (fun J2 =>
  cnd (decide (c_0 ≥ 65)) (
  cnd (decide (c_0 ≤ 90)) (
  J2 true h) (
  cnd (decide (c_0 ≥ 97)) (
  cnd (decide (c_0 ≤ 122)) (
  J2 true h) (
  cnd (decide (c_0 ≥ 48)) (
  J2 (decide (c_0 ≤ 57)) h) (
  J2 false h))) (
  cnd (decide (c_0 ≥ 48)) (
  J2 (decide (c_0 ≤ 57)) h) (
  J2 false h)))) (
  cnd (decide (c_0 ≥ 97)) (
  cnd (decide (c_0 ≤ 122)) (
  J2 true h) (
  cnd (decide (c_0 ≥ 48)) (
  J2 (decide (c_0 ≤ 57)) h) (
  J2 false h))) (
  cnd (decide (c_0 ≥ 48)) (
  J2 (decide (c_0 ≤ 57)) h) (
  J2 false h))))
theorem ref3_Alnum_eq (c_0 : Int) (R : Bool → Heap → Prop) (h : Heap) : fnX Try.prog Fns.fns Try.f66 (.s .n (.j [(2, .bool)] .n .n)) [.sc (.bool)] [.int .u8 c_0] h R = ref3_Alnum c_0 R h := by kernel_rfl
theorem ref3_Alnum_call (c_0 : Int) {R : Bool → Heap → Prop} {h : Heap} (hx : ref3_Alnum c_0 R h) : CallT Try.prog 66 [.int .u8 c_0] h [.sc (.bool)] R :=
  call_of_fnX fnsOk mixed Try.func66 (by kernel_rfl) (by rw [ref3_Alnum_eq]; exact hx)

/-- stowage/stowageref3.in (67) -/
def ref3_in (s_0 : ByteArray) (c_1 : Int) (R : Bool → Heap → Prop) (h : Heap) : Prop :=
  LoopT (σ := Int) (fun X2 s1 h3 => -- s1: i
  cnd (decide (s1 < (s_0.size : Int))) (
  sidx s_0 s1 fun u4 =>
  cnd ((u4.toNat : Int) == c_1) (
  R true h3) (
  X2 (w64 (s1 + 1)) h3)) (
  R false h3)) 0 h
theorem ref3_in_eq (s_0 : ByteArray) (c_1 : Int) (R : Bool → Heap → Prop) (h : Heap) : fnX Try.prog Fns.fns Try.f67 (.s .n (.s (.s .n (.b (.l [(5, .int .i64)] (.s (.s .n (.s .n .n)) (.s (.b (.s .n (.s (.s .n .n) .n))) .n))))) (.s .n .n))) [.sc (.bool)] [.string s_0, .int .u8 c_1] h R = ref3_in s_0 c_1 R h := by kernel_rfl
theorem ref3_in_call (s_0 : ByteArray) (c_1 : Int) {R : Bool → Heap → Prop} {h : Heap} (hx : ref3_in s_0 c_1 R h) : CallT Try.prog 67 [.string s_0, .int .u8 c_1] h [.sc (.bool)] R :=
  call_of_fnX fnsOk mixed Try.func67 (by kernel_rfl) (by rw [ref3_in_eq]; exact hx)

/-- stowage/stowageref3.Value (68) -/
def ref3_Value (s_0 : ByteArray) (R : Bool → Heap → Prop) (h : Heap) : Prop :=
  LoopT (σ := Int) (fun X2 s1 h3 => -- s1: i
  cnd (decide (s1 < (s_0.size : Int))) (
  withJ (σ := Unit) (fun s4 h6 => -- s4: 
  X2 (w64 (s1 + 1)) h6) (fun J5 =>
  withJ (σ := Bool) (fun s7 h9 => -- s7: t25
  cnd s7 (
  R false h9) (
  J5 () h9)) (fun J8 =>
  sidx s_0 s1 fun u10 =>
  cnd ((u10.toNat : Int) != 9) (
  sidx s_0 s1 fun u11 =>
  cnd (decide ((u11.toNat : Int) < 32)) (
  J8 true h3) (
  sidx s_0 s1 fun u12 =>
  J8 ((u12.toNat : Int) == 127) h3)) (
  J8 false h3)))) (
  R true h3)) 0 h
theorem ref3_Value_eq (s_0 : ByteArray) (R : Bool → Heap → Prop) (h : Heap) : fnX Try.prog Fns.fns Try.f68 (.s .n (.s (.s .n (.b (.l [(3, .int .i64)] (.s (.s .n (.s .n .n)) (.j [] (.b (.j [(25, .bool)] .n (.s (.s .n .n) .n))) .n))))) (.s .n .n))) [.sc (.bool)] [.string s_0] h R = ref3_Value s_0 R h := by kernel_rfl
theorem ref3_Value_call (s_0 : ByteArray) {R : Bool → Heap → Prop} {h : Heap} (hx : ref3_Value s_0 R h) : CallT Try.prog 68 [.string s_0] h [.sc (.bool)] R :=
  call_of_fnX fnsOk mixed Try.func68 (by kernel_rfl) (by rw [ref3_Value_eq]; exact hx)

/-- stowage/stowageref3.Digit (69) -/
def ref3_Digit (c_0 : Int) (R : Int → Heap → Prop) (h : Heap) : Prop :=
  withJ (σ := Unit) (fun s1 h3 => -- s1: 
  R (-1) h3) (fun J2 =>
  withJ (σ := Bool) (fun s4 h6 => -- s4: t3
  cnd s4 (
  R (w64 ((IntKind.u8.wrap (c_0 - 48)))) h6) (
  withJ (σ := Bool) (fun s7 h9 => -- s7: t13
  cnd s7 (
  R (w64 ((w64 ((IntKind.u8.wrap (c_0 - 97)))) + 10)) h9) (
  withJ (σ := Bool) (fun s10 h12 => -- s10: t24
  cnd s10 (
  R (w64 ((w64 ((IntKind.u8.wrap (c_0 - 65)))) + 10)) h12) (
  J2 () h12)) (fun J11 =>
  cnd (decide (c_0 ≥ 65)) (
  J11 (decide (c_0 ≤ 70)) h9) (
  J11 false h9)))) (fun J8 =>
  cnd (decide (c_0 ≥ 97)) (
  J8 (decide (c_0 ≤ 102)) h6) (
  J8 false h6)))) (fun J5 =>
  cnd (decide (c_0 ≥ 48)) (
  J5 (decide (c_0 ≤ 57)) h) (
  J5 false h)))
theorem ref3_Digit_eq (c_0 : Int) (R : Int → Heap → Prop) (h : Heap) : fnX Try.prog Fns.fns Try.f69 (.s .n (.j [] (.b (.j [(3, .bool)] .n (.s (.s .n .n) (.j [(13, .bool)] .n (.s (.s .n .n) (.j [(24, .bool)] .n (.s (.s .n .n) .n))))))) (.s .n .n))) [.sc (.int .i64)] [.int .u8 c_0] h R = ref3_Digit c_0 R h := by kernel_rfl
theorem ref3_Digit_call (c_0 : Int) {R : Int → Heap → Prop} {h : Heap} (hx : ref3_Digit c_0 R h) : CallT Try.prog 69 [.int .u8 c_0] h [.sc (.int .i64)] R :=
  call_of_fnX fnsOk mixed Try.func69 (by kernel_rfl) (by rw [ref3_Digit_eq]; exact hx)

end Go.Proofs.Ytjpmjhnjdnbopaa
