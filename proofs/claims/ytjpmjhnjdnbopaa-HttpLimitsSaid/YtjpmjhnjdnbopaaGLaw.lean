/- Go functions as short texts over the heap, and that each is what the loaded function comes to (the kernel compares them); written by a program. -/
import Derived.Test.YtjpmjhnjdnbopaaGBase
set_option linter.unusedVariables false
set_option maxRecDepth 100000
namespace Go.Proofs.Ytjpmjhnjdnbopaa
open Go D
/-- stowage/stowagelaw16.HttpCuts (3) -/
def law16_HttpCuts (x_0 : Sl) (x_1 : Int) (R : Bool → Heap → Prop) (h : Heap) : Prop :=
  withJ (σ := Unit) (fun s1 h3 => -- s1: 
  CallT Try.prog http_Parse_no [.slice x_0.a x_0.len x_0.cap] h3 [.agg [.int .i64, .int .i64, .str, .str, .sl, .sl, .int .i64, .bool, .bool]] fun (r4 : (Int × Int × ByteArray × ByteArray × Sl × Sl × Int × Bool × Bool)) h5 =>
  newB [.int .i64 0, .int .i64 0, .string (⟨#[]⟩ : ByteArray), .string (⟨#[]⟩ : ByteArray), .slice none 0 0, .slice none 0 0, .int .i64 0, .bool false, .bool false] 29 h5 fun a6 h7 =>
  stC a6 (.int .i64 r4.1) h7 fun h8 =>
  stC (a6.add 1) (.int .i64 r4.2.1) h8 fun h9 =>
  stC (a6.add 2) (.string r4.2.2.1) h9 fun h10 =>
  stC (a6.add 3) (.string r4.2.2.2.1) h10 fun h11 =>
  stC (a6.add 4) (.slice r4.2.2.2.2.1.a r4.2.2.2.2.1.len r4.2.2.2.2.1.cap) h11 fun h12 =>
  stC (a6.add 5) (.slice r4.2.2.2.2.2.1.a r4.2.2.2.2.2.1.len r4.2.2.2.2.2.1.cap) h12 fun h13 =>
  stC (a6.add 6) (.int .i64 r4.2.2.2.2.2.2.1) h13 fun h14 =>
  stC (a6.add 7) (.bool r4.2.2.2.2.2.2.2.1) h14 fun h15 =>
  stC (a6.add 8) (.bool r4.2.2.2.2.2.2.2.2) h15 fun h16 =>
  lsl 1 x_0.a x_0.cap 0 x_1 (x_0.cap : Int) fun o17 l17 c17 =>
  CallT Try.prog http_Parse_no [.slice o17 l17 c17] h16 [.agg [.int .i64, .int .i64, .str, .str, .sl, .sl, .int .i64, .bool, .bool]] fun (r18 : (Int × Int × ByteArray × ByteArray × Sl × Sl × Int × Bool × Bool)) h19 =>
  newB [.int .i64 0, .int .i64 0, .string (⟨#[]⟩ : ByteArray), .string (⟨#[]⟩ : ByteArray), .slice none 0 0, .slice none 0 0, .int .i64 0, .bool false, .bool false] 29 h19 fun a20 h21 =>
  stC a20 (.int .i64 r18.1) h21 fun h22 =>
  stC (a20.add 1) (.int .i64 r18.2.1) h22 fun h23 =>
  stC (a20.add 2) (.string r18.2.2.1) h23 fun h24 =>
  stC (a20.add 3) (.string r18.2.2.2.1) h24 fun h25 =>
  stC (a20.add 4) (.slice r18.2.2.2.2.1.a r18.2.2.2.2.1.len r18.2.2.2.2.1.cap) h25 fun h26 =>
  stC (a20.add 5) (.slice r18.2.2.2.2.2.1.a r18.2.2.2.2.2.1.len r18.2.2.2.2.2.1.cap) h26 fun h27 =>
  stC (a20.add 6) (.int .i64 r18.2.2.2.2.2.2.1) h27 fun h28 =>
  stC (a20.add 7) (.bool r18.2.2.2.2.2.2.2.1) h28 fun h29 =>
  stC (a20.add 8) (.bool r18.2.2.2.2.2.2.2.2) h29 fun h30 =>
  ldI .i64 a20 h30 fun n31 =>
  cnd (n31 == 1) (
  withJ (σ := Bool) (fun s32 h34 => -- s32: t4
  R s32 h34) (fun J33 =>
  ldI .i64 (a20.add 1) h30 fun n35 =>
  cnd (n35 == 0) (
  ldI .i64 a6 h30 fun n36 =>
  cnd (n36 != 2) (
  CallT Try.prog law16_awake_no [] h30 [.sc (.bool)] fun (r37 : Bool) h38 =>
  J33 r37 h38) (
  ldI .i64 (a6.add 1) h30 fun n39 =>
  cnd (decide (n39 > x_1)) (
  CallT Try.prog law16_awake_no [] h30 [.sc (.bool)] fun (r40 : Bool) h41 =>
  J33 r40 h41) (
  J33 false h30))) (
  J33 false h30))) (
  cnd (n31 == 2) (
  withJ (σ := Bool) (fun s42 h44 => -- s42: t4
  R s42 h44) (fun J43 =>
  ldI .i64 a6 h30 fun n45 =>
  cnd (n45 == 2) (
  ldI .i64 (a6.add 1) h30 fun n46 =>
  ldI .i64 (a20.add 1) h30 fun n47 =>
  cnd (n46 == n47) (
  ldI .i64 (a20.add 1) h30 fun n48 =>
  cnd (decide (n48 ≤ x_1)) (
  ldS (a6.add 2) h30 fun s49 =>
  ldS ((a6.add 2).add 1) h30 fun s50 =>
  ldL ((a6.add 2).add 2) h30 fun o51 l51 c51 =>
  ldL ((a6.add 2).add 3) h30 fun o52 l52 c52 =>
  ldS (a20.add 2) h30 fun s53 =>
  ldS ((a20.add 2).add 1) h30 fun s54 =>
  ldL ((a20.add 2).add 2) h30 fun o55 l55 c55 =>
  ldL ((a20.add 2).add 3) h30 fun o56 l56 c56 =>
  CallT Try.prog ref18_Same_no [.agg #[.string s49, .string s50, .slice o51 l51 c51, .slice o52 l52 c52], .agg #[.string s53, .string s54, .slice o55 l55 c55, .slice o56 l56 c56]] h30 [.sc (.bool)] fun (r57 : Bool) h58 =>
  cnd r57 (
  ldB (a6.add 7) h58 fun b59 =>
  ldB (a20.add 7) h58 fun b60 =>
  cnd (b59 == b60) (
  ldB (a6.add 8) h58 fun b61 =>
  ldB (a20.add 8) h58 fun b62 =>
  cnd (b61 == b62) (
  CallT Try.prog law16_awake_no [] h58 [.sc (.bool)] fun (r63 : Bool) h64 =>
  J43 r63 h64) (
  J43 false h58)) (
  J43 false h58)) (
  J43 false h58)) (
  J43 false h30)) (
  J43 false h30)) (
  J43 false h30))) (
  cnd (n31 == 3) (
  withJ (σ := Bool) (fun s65 h67 => -- s65: t4
  R s65 h67) (fun J66 =>
  ldI .i64 a6 h30 fun n68 =>
  cnd (n68 == 3) (
  ldI .i64 (a6.add 6) h30 fun n69 =>
  ldI .i64 (a20.add 6) h30 fun n70 =>
  cnd (n69 == n70) (
  CallT Try.prog law16_awake_no [] h30 [.sc (.bool)] fun (r71 : Bool) h72 =>
  J66 r71 h72) (
  J66 false h30)) (
  J66 false h30))) (
  R false h30)))) (fun J2 =>
  withJ (σ := Bool) (fun s73 h75 => -- s73: t14
  cnd s73 (
  CallT Try.prog law16_awake_no [] h75 [.sc (.bool)] fun (r76 : Bool) h77 =>
  R r76 h77) (
  J2 () h75)) (fun J74 =>
  cnd (decide (x_1 < 0)) (
  J74 true h) (
  J74 (decide (x_1 > (x_0.len : Int))) h)))
theorem law16_HttpCuts_eq (x_0 : Sl) (x_1 : Int) (R : Bool → Heap → Prop) (h : Heap) : fnX Try.prog Fns.fns Try.f3 (.s .n (.j [] (.j [(14, .bool)] .n (.s (.s .n .n) .n)) (.s .n (.s .n (.s (.s .n (.b (.s .n (.s (.j [(4, .bool)] .n .n) (.s .n (.s (.j [(4, .bool)] .n .n) (.s .n (.s (.j [(4, .bool)] .n .n) .n)))))))) (.s .n .n)))))) [.sc (.bool)] [.slice x_0.a x_0.len x_0.cap, .int .i64 x_1] h R = law16_HttpCuts x_0 x_1 R h := by kernel_rfl
theorem law16_HttpCuts_call (x_0 : Sl) (x_1 : Int) {R : Bool → Heap → Prop} {h : Heap} (hx : law16_HttpCuts x_0 x_1 R h) : CallT Try.prog 3 [.slice x_0.a x_0.len x_0.cap, .int .i64 x_1] h [.sc (.bool)] R :=
  call_of_fnX fnsOk mixed Try.func3 (by kernel_rfl) (by rw [law16_HttpCuts_eq]; exact hx)

/-- stowage/stowagelaw16.HttpChunks (4) -/
def law16_HttpChunks (x_0 : Sl) (x_1 : Bool) (x_2 : Bool) (R : Bool → Heap → Prop) (h : Heap) : Prop :=
  newB [.int .u8 80, .int .u8 85, .int .u8 84, .int .u8 32, .int .u8 47, .int .u8 98, .int .u8 47, .int .u8 107, .int .u8 32, .int .u8 72, .int .u8 84, .int .u8 84, .int .u8 80, .int .u8 47, .int .u8 49, .int .u8 46, .int .u8 49, .int .u8 13, .int .u8 10, .int .u8 72, .int .u8 111, .int .u8 115, .int .u8 116, .int .u8 58, .int .u8 32, .int .u8 97, .int .u8 13, .int .u8 10, .int .u8 84, .int .u8 114, .int .u8 97, .int .u8 110, .int .u8 115, .int .u8 102, .int .u8 101, .int .u8 114, .int .u8 45, .int .u8 69, .int .u8 110, .int .u8 99, .int .u8 111, .int .u8 100, .int .u8 105, .int .u8 110, .int .u8 103, .int .u8 58, .int .u8 32, .int .u8 67, .int .u8 104, .int .u8 117, .int .u8 110, .int .u8 107, .int .u8 101, .int .u8 100, .int .u8 13, .int .u8 10, .int .u8 13, .int .u8 10] 5 h fun a1 h2 =>
  markS a1 h2 fun h3 =>
  withJ (σ := ByteArray) (fun s4 h6 => -- s4: t9
  LoopT (σ := Sl × Sl × Int) (fun X8 s7 h9 => -- s7: t7, t8, t10
  withJ (σ := Int × Bool) (fun s10 h12 => -- s10: t22, t23
  withJ (σ := Sl × Sl) (fun s13 h15 => -- s13: t7, t8
  X8 (s13.1, s13.2, (w64 (s7.2.2 + 1))) h15) (fun J14 =>
  idx x_0.a x_0.len s7.2.2 fun a16 =>
  ldL (a16.add (s7.2.2.toNat * 1)) h12 fun o17 l17 c17 =>
  withJ (σ := Int × Bool) (fun s18 h20 => -- s18: t35, t36
  sidx s4 (w64 ((l17 : Int).tdiv 256)) fun u21 =>
  sidx s4 ((w64 ((l17 : Int).tdiv 16)).tmod 16) fun u22 =>
  sidx s4 ((l17 : Int).tmod 16) fun u23 =>
  newB [.int .u8 (u21.toNat : Int), .int .u8 (u22.toNat : Int), .int .u8 (u23.toNat : Int)] 5 h20 fun a24 h25 =>
  ldRow (3 * 1) a24 h25 fun cs29 =>
  app [.int .u8 0] 5 1 1 s7.1.a s7.1.len s7.1.cap cs29 3 h25 fun o26 c27 h28 =>
  withJ (σ := Sl) (fun s30 h32 => -- s30: t7
  newB [.int .u8 13, .int .u8 10] 5 h32 fun a33 h34 =>
  ldRow (2 * 1) a33 h34 fun cs38 =>
  app [.int .u8 0] 5 1 1 s30.a s30.len s30.cap cs38 2 h34 fun o35 c36 h37 =>
  idx x_0.a x_0.len s7.2.2 fun a39 =>
  ldL (a39.add (s7.2.2.toNat * 1)) h37 fun o40 l40 c40 =>
  rdCells o40 (l40 * 1) h37 fun cs44 =>
  app [.int .u8 0] 5 1 1 o35 (s30.len + 2) c36 cs44 l40 h37 fun o41 c42 h43 =>
  newB [.int .u8 13, .int .u8 10] 5 h43 fun a45 h46 =>
  ldRow (2 * 1) a45 h46 fun cs50 =>
  app [.int .u8 0] 5 1 1 o41 ((s30.len + 2) + l40) c42 cs50 2 h46 fun o47 c48 h49 =>
  idx x_0.a x_0.len s7.2.2 fun a51 =>
  ldL (a51.add (s7.2.2.toNat * 1)) h49 fun o52 l52 c52 =>
  rdCells o52 (l52 * 1) h49 fun cs56 =>
  app [.int .u8 0] 5 1 1 s7.2.1.a s7.2.1.len s7.2.1.cap cs56 l52 h49 fun o53 c54 h55 =>
  J14 ((⟨o47, (((s30.len + 2) + l40) + 2), c48⟩ : Sl), (⟨o53, (s7.2.1.len + l52), c54⟩ : Sl)) h55) (fun J31 =>
  cnd ((s7.2.2.tmod 2) == 1) (
  app [.int .u8 0] 5 1 1 o26 (s7.1.len + 3) c27 (bytesV (⟨#[59, 120, 61, 121]⟩ : ByteArray)) ((⟨#[59, 120, 61, 121]⟩ : ByteArray).size) h28 fun o57 c58 h59 =>
  J31 (⟨o57, ((s7.1.len + 3) + ((⟨#[59, 120, 61, 121]⟩ : ByteArray).size)), c58⟩ : Sl) h59) (
  J31 (⟨o26, (s7.1.len + 3), c27⟩ : Sl) h28))) (fun J19 =>
  cnd ((l17 : Int) == 0) (
  J14 (s7.1, s7.2.1) h12) (
  cnd (decide ((l17 : Int) > 300)) (
  J14 (s7.1, s7.2.1) h12) (
  J19 ((l17 : Int), (decide ((l17 : Int) > 300))) h12))))) (fun J11 =>
  cnd (decide (s7.2.2 < (x_0.len : Int))) (
  cnd (decide (s7.2.2 < 20)) (
  J11 (s7.2.2, (decide (s7.2.2 < 20))) h9) (
  app [.int .u8 0] 5 1 1 s7.1.a s7.1.len s7.1.cap (bytesV (⟨#[48, 13, 10]⟩ : ByteArray)) ((⟨#[48, 13, 10]⟩ : ByteArray).size) h9 fun o60 c61 h62 =>
  withJ (σ := Sl) (fun s63 h65 => -- s63: t7
  newB [.int .u8 13, .int .u8 10] 5 h65 fun a66 h67 =>
  ldRow (2 * 1) a66 h67 fun cs71 =>
  app [.int .u8 0] 5 1 1 s63.a s63.len s63.cap cs71 2 h67 fun o68 c69 h70 =>
  CallT Try.prog http_Parse_no [.slice o68 (s63.len + 2) c69] h70 [.agg [.int .i64, .int .i64, .str, .str, .sl, .sl, .int .i64, .bool, .bool]] fun (r72 : (Int × Int × ByteArray × ByteArray × Sl × Sl × Int × Bool × Bool)) h73 =>
  newB [.int .i64 0, .int .i64 0, .string (⟨#[]⟩ : ByteArray), .string (⟨#[]⟩ : ByteArray), .slice none 0 0, .slice none 0 0, .int .i64 0, .bool false, .bool false] 29 h73 fun a74 h75 =>
  stC a74 (.int .i64 r72.1) h75 fun h76 =>
  stC (a74.add 1) (.int .i64 r72.2.1) h76 fun h77 =>
  stC (a74.add 2) (.string r72.2.2.1) h77 fun h78 =>
  stC (a74.add 3) (.string r72.2.2.2.1) h78 fun h79 =>
  stC (a74.add 4) (.slice r72.2.2.2.2.1.a r72.2.2.2.2.1.len r72.2.2.2.2.1.cap) h79 fun h80 =>
  stC (a74.add 5) (.slice r72.2.2.2.2.2.1.a r72.2.2.2.2.2.1.len r72.2.2.2.2.2.1.cap) h80 fun h81 =>
  stC (a74.add 6) (.int .i64 r72.2.2.2.2.2.2.1) h81 fun h82 =>
  stC (a74.add 7) (.bool r72.2.2.2.2.2.2.2.1) h82 fun h83 =>
  stC (a74.add 8) (.bool r72.2.2.2.2.2.2.2.2) h83 fun h84 =>
  CallT Try.prog http_Parse_no [.slice s63.a s63.len s63.cap] h84 [.agg [.int .i64, .int .i64, .str, .str, .sl, .sl, .int .i64, .bool, .bool]] fun (r85 : (Int × Int × ByteArray × ByteArray × Sl × Sl × Int × Bool × Bool)) h86 =>
  newB [.int .i64 0, .int .i64 0, .string (⟨#[]⟩ : ByteArray), .string (⟨#[]⟩ : ByteArray), .slice none 0 0, .slice none 0 0, .int .i64 0, .bool false, .bool false] 29 h86 fun a87 h88 =>
  stC a87 (.int .i64 r85.1) h88 fun h89 =>
  stC (a87.add 1) (.int .i64 r85.2.1) h89 fun h90 =>
  stC (a87.add 2) (.string r85.2.2.1) h90 fun h91 =>
  stC (a87.add 3) (.string r85.2.2.2.1) h91 fun h92 =>
  stC (a87.add 4) (.slice r85.2.2.2.2.1.a r85.2.2.2.2.1.len r85.2.2.2.2.1.cap) h92 fun h93 =>
  stC (a87.add 5) (.slice r85.2.2.2.2.2.1.a r85.2.2.2.2.2.1.len r85.2.2.2.2.2.1.cap) h93 fun h94 =>
  stC (a87.add 6) (.int .i64 r85.2.2.2.2.2.2.1) h94 fun h95 =>
  stC (a87.add 7) (.bool r85.2.2.2.2.2.2.2.1) h95 fun h96 =>
  stC (a87.add 8) (.bool r85.2.2.2.2.2.2.2.2) h96 fun h97 =>
  withJ (σ := Bool) (fun s98 h100 => -- s98: t6
  R s98 h100) (fun J99 =>
  ldI .i64 a74 h97 fun n101 =>
  cnd (n101 == 2) (
  ldI .i64 (a74.add 1) h97 fun n102 =>
  cnd (n102 == (w64 ((s63.len : Int) + 2))) (
  ldL ((a74.add 2).add 3) h97 fun o103 l103 c103 =>
  b2s o103 l103 h97 fun s104 =>
  b2s s7.2.1.a s7.2.1.len h97 fun s105 =>
  cnd (seq s104 s105) (
  ldL ((a74.add 2).add 2) h97 fun o106 l106 c106 =>
  cnd ((l106 : Int) == 2) (
  ldI .i64 a87 h97 fun n107 =>
  cnd (n107 == 1) (
  CallT Try.prog law16_awake_no [] h97 [.sc (.bool)] fun (r108 : Bool) h109 =>
  J99 r108 h109) (
  J99 false h97)) (
  J99 false h97)) (
  J99 false h97)) (
  J99 false h97)) (
  J99 false h97))) (fun J64 =>
  cnd x_2 (
  app [.int .u8 0] 5 1 1 o60 (s7.1.len + ((⟨#[48, 13, 10]⟩ : ByteArray).size)) c61 (bytesV (⟨#[120, 45, 115, 117, 109, 58, 32, 49, 13, 10]⟩ : ByteArray)) ((⟨#[120, 45, 115, 117, 109, 58, 32, 49, 13, 10]⟩ : ByteArray).size) h62 fun o110 c111 h112 =>
  J64 (⟨o110, ((s7.1.len + ((⟨#[48, 13, 10]⟩ : ByteArray).size)) + ((⟨#[120, 45, 115, 117, 109, 58, 32, 49, 13, 10]⟩ : ByteArray).size)), c111⟩ : Sl) h112) (
  J64 (⟨o60, (s7.1.len + ((⟨#[48, 13, 10]⟩ : ByteArray).size)), c61⟩ : Sl) h62)))) (
  app [.int .u8 0] 5 1 1 s7.1.a s7.1.len s7.1.cap (bytesV (⟨#[48, 13, 10]⟩ : ByteArray)) ((⟨#[48, 13, 10]⟩ : ByteArray).size) h9 fun o113 c114 h115 =>
  withJ (σ := Sl) (fun s116 h118 => -- s116: t7
  newB [.int .u8 13, .int .u8 10] 5 h118 fun a119 h120 =>
  ldRow (2 * 1) a119 h120 fun cs124 =>
  app [.int .u8 0] 5 1 1 s116.a s116.len s116.cap cs124 2 h120 fun o121 c122 h123 =>
  CallT Try.prog http_Parse_no [.slice o121 (s116.len + 2) c122] h123 [.agg [.int .i64, .int .i64, .str, .str, .sl, .sl, .int .i64, .bool, .bool]] fun (r125 : (Int × Int × ByteArray × ByteArray × Sl × Sl × Int × Bool × Bool)) h126 =>
  newB [.int .i64 0, .int .i64 0, .string (⟨#[]⟩ : ByteArray), .string (⟨#[]⟩ : ByteArray), .slice none 0 0, .slice none 0 0, .int .i64 0, .bool false, .bool false] 29 h126 fun a127 h128 =>
  stC a127 (.int .i64 r125.1) h128 fun h129 =>
  stC (a127.add 1) (.int .i64 r125.2.1) h129 fun h130 =>
  stC (a127.add 2) (.string r125.2.2.1) h130 fun h131 =>
  stC (a127.add 3) (.string r125.2.2.2.1) h131 fun h132 =>
  stC (a127.add 4) (.slice r125.2.2.2.2.1.a r125.2.2.2.2.1.len r125.2.2.2.2.1.cap) h132 fun h133 =>
  stC (a127.add 5) (.slice r125.2.2.2.2.2.1.a r125.2.2.2.2.2.1.len r125.2.2.2.2.2.1.cap) h133 fun h134 =>
  stC (a127.add 6) (.int .i64 r125.2.2.2.2.2.2.1) h134 fun h135 =>
  stC (a127.add 7) (.bool r125.2.2.2.2.2.2.2.1) h135 fun h136 =>
  stC (a127.add 8) (.bool r125.2.2.2.2.2.2.2.2) h136 fun h137 =>
  CallT Try.prog http_Parse_no [.slice s116.a s116.len s116.cap] h137 [.agg [.int .i64, .int .i64, .str, .str, .sl, .sl, .int .i64, .bool, .bool]] fun (r138 : (Int × Int × ByteArray × ByteArray × Sl × Sl × Int × Bool × Bool)) h139 =>
  newB [.int .i64 0, .int .i64 0, .string (⟨#[]⟩ : ByteArray), .string (⟨#[]⟩ : ByteArray), .slice none 0 0, .slice none 0 0, .int .i64 0, .bool false, .bool false] 29 h139 fun a140 h141 =>
  stC a140 (.int .i64 r138.1) h141 fun h142 =>
  stC (a140.add 1) (.int .i64 r138.2.1) h142 fun h143 =>
  stC (a140.add 2) (.string r138.2.2.1) h143 fun h144 =>
  stC (a140.add 3) (.string r138.2.2.2.1) h144 fun h145 =>
  stC (a140.add 4) (.slice r138.2.2.2.2.1.a r138.2.2.2.2.1.len r138.2.2.2.2.1.cap) h145 fun h146 =>
  stC (a140.add 5) (.slice r138.2.2.2.2.2.1.a r138.2.2.2.2.2.1.len r138.2.2.2.2.2.1.cap) h146 fun h147 =>
  stC (a140.add 6) (.int .i64 r138.2.2.2.2.2.2.1) h147 fun h148 =>
  stC (a140.add 7) (.bool r138.2.2.2.2.2.2.2.1) h148 fun h149 =>
  stC (a140.add 8) (.bool r138.2.2.2.2.2.2.2.2) h149 fun h150 =>
  withJ (σ := Bool) (fun s151 h153 => -- s151: t6
  R s151 h153) (fun J152 =>
  ldI .i64 a127 h150 fun n154 =>
  cnd (n154 == 2) (
  ldI .i64 (a127.add 1) h150 fun n155 =>
  cnd (n155 == (w64 ((s116.len : Int) + 2))) (
  ldL ((a127.add 2).add 3) h150 fun o156 l156 c156 =>
  b2s o156 l156 h150 fun s157 =>
  b2s s7.2.1.a s7.2.1.len h150 fun s158 =>
  cnd (seq s157 s158) (
  ldL ((a127.add 2).add 2) h150 fun o159 l159 c159 =>
  cnd ((l159 : Int) == 2) (
  ldI .i64 a140 h150 fun n160 =>
  cnd (n160 == 1) (
  CallT Try.prog law16_awake_no [] h150 [.sc (.bool)] fun (r161 : Bool) h162 =>
  J152 r161 h162) (
  J152 false h150)) (
  J152 false h150)) (
  J152 false h150)) (
  J152 false h150)) (
  J152 false h150))) (fun J117 =>
  cnd x_2 (
  app [.int .u8 0] 5 1 1 o113 (s7.1.len + ((⟨#[48, 13, 10]⟩ : ByteArray).size)) c114 (bytesV (⟨#[120, 45, 115, 117, 109, 58, 32, 49, 13, 10]⟩ : ByteArray)) ((⟨#[120, 45, 115, 117, 109, 58, 32, 49, 13, 10]⟩ : ByteArray).size) h115 fun o163 c164 h165 =>
  J117 (⟨o163, ((s7.1.len + ((⟨#[48, 13, 10]⟩ : ByteArray).size)) + ((⟨#[120, 45, 115, 117, 109, 58, 32, 49, 13, 10]⟩ : ByteArray).size)), c164⟩ : Sl) h165) (
  J117 (⟨o113, (s7.1.len + ((⟨#[48, 13, 10]⟩ : ByteArray).size)), c114⟩ : Sl) h115))))) ((⟨(some a1), 58, 58⟩ : Sl), (⟨none, 0, 0⟩ : Sl), 0) h6) (fun J5 =>
  cnd x_1 (
  J5 (⟨#[48, 49, 50, 51, 52, 53, 54, 55, 56, 57, 65, 66, 67, 68, 69, 70]⟩ : ByteArray) h3) (
  J5 (⟨#[48, 49, 50, 51, 52, 53, 54, 55, 56, 57, 97, 98, 99, 100, 101, 102]⟩ : ByteArray) h3))
theorem law16_HttpChunks_eq (x_0 : Sl) (x_1 : Bool) (x_2 : Bool) (R : Bool → Heap → Prop) (h : Heap) : fnX Try.prog Fns.fns Try.f4 (.s .n (.s .n (.s .n (.s .n (.j [(9, .str)] (.s .n (.s .n .n)) (.s (.s .n (.b (.l [(7, .sl), (8, .sl), (10, .int .i64)] (.j [(22, .int .i64), (23, .bool)] (.s .n (.s .n .n)) (.j [(7, .sl), (8, .sl)] (.b (.s .n (.j [(35, .int .i64), (36, .bool)] (.s .n (.s .n .n)) (.s .n (.j [(7, .sl)] (.s .n (.s .n .n)) (.s .n (.s .n (.s .n .n)))))))) .n))))) (.s .n (.j [(7, .sl)] (.s .n (.s .n .n)) (.s .n (.s .n (.j [(6, .bool)] .n .n))))))))))) [.sc (.bool)] [.slice x_0.a x_0.len x_0.cap, .bool x_1, .bool x_2] h R = law16_HttpChunks x_0 x_1 x_2 R h := by kernel_rfl
theorem law16_HttpChunks_call (x_0 : Sl) (x_1 : Bool) (x_2 : Bool) {R : Bool → Heap → Prop} {h : Heap} (hx : law16_HttpChunks x_0 x_1 x_2 R h) : CallT Try.prog 4 [.slice x_0.a x_0.len x_0.cap, .bool x_1, .bool x_2] h [.sc (.bool)] R :=
  call_of_fnX fnsOk mixed Try.func4 (by kernel_rfl) (by rw [law16_HttpChunks_eq]; exact hx)

/-- stowage/stowagelaw16.HttpLimits (5) -/
def law16_HttpLimits (x_0 : Int) (x_1 : Int) (x_2 : Int) (R : Bool → Heap → Prop) (h : Heap) : Prop :=
  withJ (σ := Unit) (fun s1 h3 => -- s1: 
  newB [.int .u8 71, .int .u8 69, .int .u8 84, .int .u8 32, .int .u8 47] 5 h3 fun a4 h5 =>
  markS a4 h5 fun h6 =>
  LoopT (σ := Sl) (fun X8 s7 h9 => -- s7: t7
  cnd (decide ((s7.len : Int) < (w64 (x_0 - 9)))) (
  newB [.int .u8 120] 5 h9 fun a10 h11 =>
  ldRow (1 * 1) a10 h11 fun cs15 =>
  app [.int .u8 0] 5 1 1 s7.a s7.len s7.cap cs15 1 h11 fun o12 c13 h14 =>
  X8 (⟨o12, (s7.len + 1), c13⟩ : Sl) h14) (
  app [.int .u8 0] 5 1 1 s7.a s7.len s7.cap (bytesV (⟨#[32, 72, 84, 84, 80, 47, 49, 46, 49, 13, 10, 104, 111, 115, 116, 58, 32, 97, 13, 10]⟩ : ByteArray)) ((⟨#[32, 72, 84, 84, 80, 47, 49, 46, 49, 13, 10, 104, 111, 115, 116, 58, 32, 97, 13, 10]⟩ : ByteArray).size) h9 fun o16 c17 h18 =>
  LoopT (σ := Sl × Int) (fun X20 s19 h21 => -- s19: t7, t9
  cnd (decide (s19.2 < x_1)) (
  app [.int .u8 0] 5 1 1 s19.1.a s19.1.len s19.1.cap (bytesV (⟨#[97, 58, 32, 98, 13, 10]⟩ : ByteArray)) ((⟨#[97, 58, 32, 98, 13, 10]⟩ : ByteArray).size) h21 fun o22 c23 h24 =>
  X20 ((⟨o22, (s19.1.len + ((⟨#[97, 58, 32, 98, 13, 10]⟩ : ByteArray).size)), c23⟩ : Sl), (w64 (s19.2 + 1))) h24) (
  LoopT (σ := Int × ByteArray) (fun X26 s25 h27 => -- s25: t10, t11
  newB [.int .u8 (IntKind.u8.wrap (48 + (IntKind.u8.wrap ((s25.1.tmod 10)))))] 5 h27 fun a28 h29 =>
  b2s (some a28) 1 h29 fun s30 =>
  ((s30.size + s25.2.size : Nat) : Int) ≤ 9223372036854775807 ∧
  cnd ((w64 (s25.1.tdiv 10)) == 0) (
  (((⟨#[99, 111, 110, 116, 101, 110, 116, 45, 108, 101, 110, 103, 116, 104, 58, 32]⟩ : ByteArray).size + (s30 ++ s25.2).size : Nat) : Int) ≤ 9223372036854775807 ∧
  ((((⟨#[99, 111, 110, 116, 101, 110, 116, 45, 108, 101, 110, 103, 116, 104, 58, 32]⟩ : ByteArray) ++ (s30 ++ s25.2)).size + (⟨#[13, 10, 13, 10]⟩ : ByteArray).size : Nat) : Int) ≤ 9223372036854775807 ∧
  app [.int .u8 0] 5 1 1 s19.1.a s19.1.len s19.1.cap (bytesV (((⟨#[99, 111, 110, 116, 101, 110, 116, 45, 108, 101, 110, 103, 116, 104, 58, 32]⟩ : ByteArray) ++ (s30 ++ s25.2)) ++ (⟨#[13, 10, 13, 10]⟩ : ByteArray))) ((((⟨#[99, 111, 110, 116, 101, 110, 116, 45, 108, 101, 110, 103, 116, 104, 58, 32]⟩ : ByteArray) ++ (s30 ++ s25.2)) ++ (⟨#[13, 10, 13, 10]⟩ : ByteArray)).size) h29 fun o31 c32 h33 =>
  CallT Try.prog http_Parse_no [.slice o31 (s19.1.len + ((((⟨#[99, 111, 110, 116, 101, 110, 116, 45, 108, 101, 110, 103, 116, 104, 58, 32]⟩ : ByteArray) ++ (s30 ++ s25.2)) ++ (⟨#[13, 10, 13, 10]⟩ : ByteArray)).size)) c32] h33 [.agg [.int .i64, .int .i64, .str, .str, .sl, .sl, .int .i64, .bool, .bool]] fun (r34 : (Int × Int × ByteArray × ByteArray × Sl × Sl × Int × Bool × Bool)) h35 =>
  newB [.int .i64 0, .int .i64 0, .string (⟨#[]⟩ : ByteArray), .string (⟨#[]⟩ : ByteArray), .slice none 0 0, .slice none 0 0, .int .i64 0, .bool false, .bool false] 29 h35 fun a36 h37 =>
  stC a36 (.int .i64 r34.1) h37 fun h38 =>
  stC (a36.add 1) (.int .i64 r34.2.1) h38 fun h39 =>
  stC (a36.add 2) (.string r34.2.2.1) h39 fun h40 =>
  stC (a36.add 3) (.string r34.2.2.2.1) h40 fun h41 =>
  stC (a36.add 4) (.slice r34.2.2.2.2.1.a r34.2.2.2.2.1.len r34.2.2.2.2.1.cap) h41 fun h42 =>
  stC (a36.add 5) (.slice r34.2.2.2.2.2.1.a r34.2.2.2.2.2.1.len r34.2.2.2.2.2.1.cap) h42 fun h43 =>
  stC (a36.add 6) (.int .i64 r34.2.2.2.2.2.2.1) h43 fun h44 =>
  stC (a36.add 7) (.bool r34.2.2.2.2.2.2.2.1) h44 fun h45 =>
  stC (a36.add 8) (.bool r34.2.2.2.2.2.2.2.2) h45 fun h46 =>
  cnd (decide ((w64 ((s7.len : Int) + 9)) > 8192)) (
  withJ (σ := Bool) (fun s47 h49 => -- s47: t6
  R s47 h49) (fun J48 =>
  ldI .i64 (a36.add 6) h46 fun n50 =>
  cnd (n50 == 338) (
  CallT Try.prog law16_awake_no [] h46 [.sc (.bool)] fun (r51 : Bool) h52 =>
  J48 r51 h52) (
  J48 false h46))) (
  cnd (decide ((w64 ((maxI x_1 1) + 1)) > 100)) (
  withJ (σ := Bool) (fun s53 h55 => -- s53: t6
  R s53 h55) (fun J54 =>
  ldI .i64 (a36.add 6) h46 fun n56 =>
  cnd (n56 == 339) (
  CallT Try.prog law16_awake_no [] h46 [.sc (.bool)] fun (r57 : Bool) h58 =>
  J54 r57 h58) (
  J54 false h46))) (
  cnd (decide (x_2 > 1048576)) (
  withJ (σ := Bool) (fun s59 h61 => -- s59: t6
  R s59 h61) (fun J60 =>
  ldI .i64 (a36.add 6) h46 fun n62 =>
  cnd (n62 == 324) (
  CallT Try.prog law16_awake_no [] h46 [.sc (.bool)] fun (r63 : Bool) h64 =>
  J60 r63 h64) (
  J60 false h46))) (
  cnd (decide (x_2 > 0)) (
  withJ (σ := Bool) (fun s65 h67 => -- s65: t6
  R s65 h67) (fun J66 =>
  ldI .i64 a36 h46 fun n68 =>
  cnd (n68 == 1) (
  CallT Try.prog law16_awake_no [] h46 [.sc (.bool)] fun (r69 : Bool) h70 =>
  J66 r69 h70) (
  J66 false h46))) (
  withJ (σ := Bool) (fun s71 h73 => -- s71: t6
  R s71 h73) (fun J72 =>
  ldI .i64 a36 h46 fun n74 =>
  cnd (n74 == 2) (
  ldI .i64 (a36.add 1) h46 fun n75 =>
  cnd (n75 == ((s19.1.len + ((((⟨#[99, 111, 110, 116, 101, 110, 116, 45, 108, 101, 110, 103, 116, 104, 58, 32]⟩ : ByteArray) ++ (s30 ++ s25.2)) ++ (⟨#[13, 10, 13, 10]⟩ : ByteArray)).size)) : Int)) (
  CallT Try.prog law16_awake_no [] h46 [.sc (.bool)] fun (r76 : Bool) h77 =>
  J72 r76 h77) (
  J72 false h46)) (
  J72 false h46))))))) (
  X26 ((w64 (s25.1.tdiv 10)), (s30 ++ s25.2)) h29)) (x_2, (⟨#[]⟩ : ByteArray)) h21)) ((⟨o16, (s7.len + ((⟨#[32, 72, 84, 84, 80, 47, 49, 46, 49, 13, 10, 104, 111, 115, 116, 58, 32, 97, 13, 10]⟩ : ByteArray).size)), c17⟩ : Sl), 1) h18)) (⟨(some a4), 5, 5⟩ : Sl) h6) (fun J2 =>
  withJ (σ := Bool) (fun s78 h80 => -- s78: t34
  cnd s78 (
  CallT Try.prog law16_awake_no [] h80 [.sc (.bool)] fun (r81 : Bool) h82 =>
  R r81 h82) (
  J2 () h80)) (fun J79 =>
  cnd (decide (x_0 < 1)) (
  J79 true h) (
  cnd (decide (x_0 > 9000)) (
  J79 true h) (
  cnd (decide (x_1 < 0)) (
  J79 true h) (
  cnd (decide (x_1 > 110)) (
  J79 true h) (
  cnd (decide (x_2 < 0)) (
  J79 true h) (
  J79 (decide (x_2 > 2097152)) h)))))))
theorem law16_HttpLimits_eq (x_0 : Int) (x_1 : Int) (x_2 : Int) (R : Bool → Heap → Prop) (h : Heap) : fnX Try.prog Fns.fns Try.f5 (.s .n (.j [] (.j [(34, .bool)] .n (.s (.s .n .n) .n)) (.s .n (.s (.b (.l [(7, .sl)] (.s (.s .n (.s .n .n)) (.b .n)))) (.s .n (.s .n (.s (.s .n (.b (.l [(7, .sl), (9, .int .i64)] (.s (.s .n (.s .n .n)) (.s (.b .n) .n))))) (.s .n (.s .n (.s (.b (.l [(10, .int .i64), (11, .str)] (.b (.s .n (.s .n (.s .n (.s .n .n))))))) (.s .n (.s .n (.s (.b (.s .n (.s (.j [(6, .bool)] .n .n) (.s .n (.s (.j [(6, .bool)] .n .n) (.s .n (.s (.j [(6, .bool)] .n .n) (.s .n (.s (.j [(6, .bool)] .n .n) .n))))))))) (.j [(6, .bool)] .n .n)))))))))))))) [.sc (.bool)] [.int .i64 x_0, .int .i64 x_1, .int .i64 x_2] h R = law16_HttpLimits x_0 x_1 x_2 R h := by kernel_rfl
theorem law16_HttpLimits_call (x_0 : Int) (x_1 : Int) (x_2 : Int) {R : Bool → Heap → Prop} {h : Heap} (hx : law16_HttpLimits x_0 x_1 x_2 R h) : CallT Try.prog 5 [.int .i64 x_0, .int .i64 x_1, .int .i64 x_2] h [.sc (.bool)] R :=
  call_of_fnX fnsOk mixed Try.func5 (by kernel_rfl) (by rw [law16_HttpLimits_eq]; exact hx)

/-- stowage/stowagelaw16.HttpLent (6) -/
def law16_HttpLent (x_0 : Sl) (R : Bool → Heap → Prop) (h : Heap) : Prop :=
  newB [] 5 h fun a1 h2 =>
  rdCells x_0.a (x_0.len * 1) h2 fun cs6 =>
  app [.int .u8 0] 5 1 1 (some a1) 0 0 cs6 x_0.len h2 fun o3 c4 h5 =>
  newB [.int .u8 77] 5 h5 fun a7 h8 =>
  ldRow (1 * 1) a7 h8 fun cs12 =>
  app [.int .u8 0] 5 1 1 o3 (0 + x_0.len) c4 cs12 1 h8 fun o9 c10 h11 =>
  lsl 1 o9 c10 0 (x_0.len : Int) (c10 : Int) fun o13 l13 c13 =>
  CallT Try.prog http_Parse_no [.slice o13 l13 c13] h11 [.agg [.int .i64, .int .i64, .str, .str, .sl, .sl, .int .i64, .bool, .bool]] fun (r14 : (Int × Int × ByteArray × ByteArray × Sl × Sl × Int × Bool × Bool)) h15 =>
  newB [.int .i64 0, .int .i64 0, .string (⟨#[]⟩ : ByteArray), .string (⟨#[]⟩ : ByteArray), .slice none 0 0, .slice none 0 0, .int .i64 0, .bool false, .bool false] 29 h15 fun a16 h17 =>
  stC a16 (.int .i64 r14.1) h17 fun h18 =>
  stC (a16.add 1) (.int .i64 r14.2.1) h18 fun h19 =>
  stC (a16.add 2) (.string r14.2.2.1) h19 fun h20 =>
  stC (a16.add 3) (.string r14.2.2.2.1) h20 fun h21 =>
  stC (a16.add 4) (.slice r14.2.2.2.2.1.a r14.2.2.2.2.1.len r14.2.2.2.2.1.cap) h21 fun h22 =>
  stC (a16.add 5) (.slice r14.2.2.2.2.2.1.a r14.2.2.2.2.2.1.len r14.2.2.2.2.2.1.cap) h22 fun h23 =>
  stC (a16.add 6) (.int .i64 r14.2.2.2.2.2.2.1) h23 fun h24 =>
  stC (a16.add 7) (.bool r14.2.2.2.2.2.2.2.1) h24 fun h25 =>
  stC (a16.add 8) (.bool r14.2.2.2.2.2.2.2.2) h25 fun h26 =>
  lsl 1 o9 c10 0 (x_0.len : Int) (c10 : Int) fun o27 l27 c27 =>
  CallT Try.prog http_Parse_no [.slice o27 l27 c27] h26 [.agg [.int .i64, .int .i64, .str, .str, .sl, .sl, .int .i64, .bool, .bool]] fun (r28 : (Int × Int × ByteArray × ByteArray × Sl × Sl × Int × Bool × Bool)) h29 =>
  newB [.int .i64 0, .int .i64 0, .string (⟨#[]⟩ : ByteArray), .string (⟨#[]⟩ : ByteArray), .slice none 0 0, .slice none 0 0, .int .i64 0, .bool false, .bool false] 29 h29 fun a30 h31 =>
  stC a30 (.int .i64 r28.1) h31 fun h32 =>
  stC (a30.add 1) (.int .i64 r28.2.1) h32 fun h33 =>
  stC (a30.add 2) (.string r28.2.2.1) h33 fun h34 =>
  stC (a30.add 3) (.string r28.2.2.2.1) h34 fun h35 =>
  stC (a30.add 4) (.slice r28.2.2.2.2.1.a r28.2.2.2.2.1.len r28.2.2.2.2.1.cap) h35 fun h36 =>
  stC (a30.add 5) (.slice r28.2.2.2.2.2.1.a r28.2.2.2.2.2.1.len r28.2.2.2.2.2.1.cap) h36 fun h37 =>
  stC (a30.add 6) (.int .i64 r28.2.2.2.2.2.2.1) h37 fun h38 =>
  stC (a30.add 7) (.bool r28.2.2.2.2.2.2.2.1) h38 fun h39 =>
  stC (a30.add 8) (.bool r28.2.2.2.2.2.2.2.2) h39 fun h40 =>
  LoopT (σ := Int) (fun X42 s41 h43 => -- s41: t6
  ldL ((a16.add 2).add 2) h43 fun o44 l44 c44 =>
  cnd (decide (s41 < (l44 : Int))) (
  ldL ((a16.add 2).add 2) h43 fun o45 l45 c45 =>
  idx o45 l45 s41 fun a46 =>
  stC (a46.add (s41.toNat * 2)) (.string (⟨#[122]⟩ : ByteArray)) h43 fun h47 =>
  stC ((a46.add (s41.toNat * 2)).add 1) (.string (⟨#[]⟩ : ByteArray)) h47 fun h48 =>
  X42 (w64 (s41 + 1)) h48) (
  LoopT (σ := Int) (fun X50 s49 h51 => -- s49: t7
  ldL ((a16.add 2).add 3) h51 fun o52 l52 c52 =>
  cnd (decide (s49 < (l52 : Int))) (
  ldL ((a16.add 2).add 3) h51 fun o53 l53 c53 =>
  idx o53 l53 s49 fun a54 =>
  stC (a54.add (s49.toNat * 1)) (.int .u8 1) h51 fun h55 =>
  X50 (w64 (s49 + 1)) h55) (
  withJ (σ := Unit) (fun s56 h58 => -- s56: 
  LoopT (σ := Int) (fun X60 s59 h61 => -- s59: t8
  cnd (decide (s59 < (x_0.len : Int))) (
  idx o9 ((0 + x_0.len) + 1) s59 fun a62 =>
  stC (a62.add (s59.toNat * 1)) (.int .u8 0) h61 fun h63 =>
  X60 (w64 (s59 + 1)) h63) (
  withJ (σ := Bool) (fun s64 h66 => -- s64: t2
  R s64 h66) (fun J65 =>
  ldI .i64 a30 h61 fun n67 =>
  ldI .i64 (a30.add 1) h61 fun n68 =>
  ldS (a30.add 2) h61 fun s69 =>
  ldS (a30.add 3) h61 fun s70 =>
  ldL (a30.add 4) h61 fun o71 l71 c71 =>
  ldL (a30.add 5) h61 fun o72 l72 c72 =>
  ldI .i64 (a30.add 6) h61 fun n73 =>
  ldB (a30.add 7) h61 fun b74 =>
  ldB (a30.add 8) h61 fun b75 =>
  CallT Try.prog ref16_Parse_no [.slice x_0.a x_0.len x_0.cap] h61 [.agg [.int .i64, .int .i64, .str, .str, .sl, .sl, .int .i64, .bool, .bool]] fun (r76 : (Int × Int × ByteArray × ByteArray × Sl × Sl × Int × Bool × Bool)) h77 =>
  (ldI .i64 a30 h77 fun n78 =>
  ldI .i64 (a30.add 1) h77 fun n79 =>
  ldS (a30.add 2) h77 fun s80 =>
  ldS (a30.add 3) h77 fun s81 =>
  ldL (a30.add 4) h77 fun o82 l82 c82 =>
  ldL (a30.add 5) h77 fun o83 l83 c83 =>
  ldI .i64 (a30.add 6) h77 fun n84 =>
  ldB (a30.add 7) h77 fun b85 =>
  ldB (a30.add 8) h77 fun b86 =>
  (.agg #[.int .i64 n78, .int .i64 n79, .string s80, .string s81, .slice o82 l82 c82, .slice o83 l83 c83, .int .i64 n84, .bool b85, .bool b86] : Value) = .agg #[.int .i64 n67, .int .i64 n68, .string s69, .string s70, .slice o71 l71 c71, .slice o72 l72 c72, .int .i64 n73, .bool b74, .bool b75]) ∧
  CallT Try.prog law16_Same_no [.agg #[.int .i64 n67, .int .i64 n68, .string s69, .string s70, .slice o71 l71 c71, .slice o72 l72 c72, .int .i64 n73, .bool b74, .bool b75], .agg #[.int .i64 r76.1, .int .i64 r76.2.1, .string r76.2.2.1, .string r76.2.2.2.1, .slice r76.2.2.2.2.1.a r76.2.2.2.2.1.len r76.2.2.2.2.1.cap, .slice r76.2.2.2.2.2.1.a r76.2.2.2.2.2.1.len r76.2.2.2.2.2.1.cap, .int .i64 r76.2.2.2.2.2.2.1, .bool r76.2.2.2.2.2.2.2.1, .bool r76.2.2.2.2.2.2.2.2]] h77 [.sc (.bool)] fun (r87 : Bool) h88 =>
  cnd r87 (
  CallT Try.prog law16_awake_no [] h88 [.sc (.bool)] fun (r89 : Bool) h90 =>
  J65 r89 h90) (
  J65 false h88)))) 0 h58) (fun J57 =>
  withJ (σ := Bool) (fun s91 h93 => -- s91: t66
  cnd s91 (
  R false h93) (
  J57 () h93)) (fun J92 =>
  lsl 1 o9 c10 0 (x_0.len : Int) (c10 : Int) fun o94 l94 c94 =>
  b2s o94 l94 h51 fun s95 =>
  b2s x_0.a x_0.len h51 fun s96 =>
  cnd (!seq s95 s96) (
  J92 true h51) (
  idx o9 ((0 + x_0.len) + 1) (x_0.len : Int) fun a97 =>
  ldI .u8 (a97.add ((x_0.len : Int).toNat * 1)) h51 fun n98 =>
  J92 (n98 != 77) h51))))) 0 h43)) 0 h40
theorem law16_HttpLent_eq (x_0 : Sl) (R : Bool → Heap → Prop) (h : Heap) : fnX Try.prog Fns.fns Try.f6 (.s .n (.s .n (.s .n (.s .n (.s (.s .n (.b (.l [(6, .int .i64)] (.s (.s .n (.s .n .n)) (.s (.b .n) .n))))) (.s (.s .n (.b (.l [(7, .int .i64)] (.s (.s .n (.s .n .n)) (.s (.b .n) .n))))) (.j [] (.j [(66, .bool)] .n (.s (.s .n .n) .n)) (.s (.s .n (.b (.l [(8, .int .i64)] (.s (.s .n (.s .n .n)) (.s (.b .n) .n))))) (.j [(2, .bool)] .n .n))))))))) [.sc (.bool)] [.slice x_0.a x_0.len x_0.cap] h R = law16_HttpLent x_0 R h := by kernel_rfl
theorem law16_HttpLent_call (x_0 : Sl) {R : Bool → Heap → Prop} {h : Heap} (hx : law16_HttpLent x_0 R h) : CallT Try.prog 6 [.slice x_0.a x_0.len x_0.cap] h [.sc (.bool)] R :=
  call_of_fnX fnsOk mixed Try.func6 (by kernel_rfl) (by rw [law16_HttpLent_eq]; exact hx)

/-- stowage/stowagelaw16.HttpPipes (7) -/
def law16_HttpPipes (x_0 : Sl) (R : Bool → Heap → Prop) (h : Heap) : Prop :=
  LoopT (σ := Sl × Sl × Int) (fun X2 s1 h3 => -- s1: t3, t4, t5
  withJ (σ := Int × Bool) (fun s4 h6 => -- s4: t15, t16
  withJ (σ := Sl × Sl) (fun s7 h9 => -- s7: t3, t4
  X2 (s7.1, s7.2, (w64 (s1.2.2 + 1))) h9) (fun J8 =>
  idx x_0.a x_0.len s1.2.2 fun a10 =>
  ldS (a10.add (s1.2.2.toNat * 4)) h6 fun s11 =>
  ldS ((a10.add (s1.2.2.toNat * 4)).add 1) h6 fun s12 =>
  ldL ((a10.add (s1.2.2.toNat * 4)).add 2) h6 fun o13 l13 c13 =>
  ldL ((a10.add (s1.2.2.toNat * 4)).add 3) h6 fun o14 l14 c14 =>
  CallT Try.prog ref16_Print_no [.agg #[.string s11, .string s12, .slice o13 l13 c13, .slice o14 l14 c14]] h6 [.sc (.sl)] fun (r15 : Sl) h16 =>
  CallT Try.prog ref16_Parse_no [.slice r15.a r15.len r15.cap] h16 [.agg [.int .i64, .int .i64, .str, .str, .sl, .sl, .int .i64, .bool, .bool]] fun (r17 : (Int × Int × ByteArray × ByteArray × Sl × Sl × Int × Bool × Bool)) h18 =>
  newB [.int .i64 0, .int .i64 0, .string (⟨#[]⟩ : ByteArray), .string (⟨#[]⟩ : ByteArray), .slice none 0 0, .slice none 0 0, .int .i64 0, .bool false, .bool false] 40 h18 fun a19 h20 =>
  stC a19 (.int .i64 r17.1) h20 fun h21 =>
  stC (a19.add 1) (.int .i64 r17.2.1) h21 fun h22 =>
  stC (a19.add 2) (.string r17.2.2.1) h22 fun h23 =>
  stC (a19.add 3) (.string r17.2.2.2.1) h23 fun h24 =>
  stC (a19.add 4) (.slice r17.2.2.2.2.1.a r17.2.2.2.2.1.len r17.2.2.2.2.1.cap) h24 fun h25 =>
  stC (a19.add 5) (.slice r17.2.2.2.2.2.1.a r17.2.2.2.2.2.1.len r17.2.2.2.2.2.1.cap) h25 fun h26 =>
  stC (a19.add 6) (.int .i64 r17.2.2.2.2.2.2.1) h26 fun h27 =>
  stC (a19.add 7) (.bool r17.2.2.2.2.2.2.2.1) h27 fun h28 =>
  stC (a19.add 8) (.bool r17.2.2.2.2.2.2.2.2) h28 fun h29 =>
  withJ (σ := Bool) (fun s30 h32 => -- s30: t41
  cnd s30 (
  rdCells r15.a (r15.len * 1) h32 fun cs36 =>
  app [.int .u8 0] 5 1 1 s1.1.a s1.1.len s1.1.cap cs36 r15.len h32 fun o33 c34 h35 =>
  ldS (a19.add 2) h35 fun s37 =>
  ldS ((a19.add 2).add 1) h35 fun s38 =>
  ldL ((a19.add 2).add 2) h35 fun o39 l39 c39 =>
  ldL ((a19.add 2).add 3) h35 fun o40 l40 c40 =>
  newB [.string s37, .string s38, .slice o39 l39 c39, .slice o40 l40 c40] 26 h35 fun a41 h42 =>
  ldRow (1 * 4) a41 h42 fun cs46 =>
  app [.string (⟨#[]⟩ : ByteArray), .string (⟨#[]⟩ : ByteArray), .slice none 0 0, .slice none 0 0] 26 4 80 s1.2.1.a s1.2.1.len s1.2.1.cap cs46 1 h42 fun o43 c44 h45 =>
  J8 ((⟨o33, (s1.1.len + r15.len), c34⟩ : Sl), (⟨o43, (s1.2.1.len + 1), c44⟩ : Sl)) h45) (
  J8 (s1.1, s1.2.1) h32)) (fun J31 =>
  ldI .i64 a19 h29 fun n47 =>
  cnd (n47 == 2) (
  ldI .i64 (a19.add 1) h29 fun n48 =>
  cnd (n48 == (r15.len : Int)) (
  J31 (decide ((r15.len : Int) < 5000)) h29) (
  J31 false h29)) (
  J31 false h29)))) (fun J5 =>
  cnd (decide (s1.2.2 < (x_0.len : Int))) (
  cnd (decide (s1.2.2 < 10)) (
  J5 (s1.2.2, (decide (s1.2.2 < 10))) h3) (
  LoopT (σ := Sl × Int) (fun X50 s49 h51 => -- s49: t3, t8
  cnd (decide (s49.2 < (s1.2.1.len : Int))) (
  withJ (σ := Sl) (fun s52 h54 => -- s52: t3
  X50 (s52, (w64 (s49.2 + 1))) h54) (fun J53 =>
  CallT Try.prog http_Parse_no [.slice s49.1.a s49.1.len s49.1.cap] h51 [.agg [.int .i64, .int .i64, .str, .str, .sl, .sl, .int .i64, .bool, .bool]] fun (r55 : (Int × Int × ByteArray × ByteArray × Sl × Sl × Int × Bool × Bool)) h56 =>
  newB [.int .i64 0, .int .i64 0, .string (⟨#[]⟩ : ByteArray), .string (⟨#[]⟩ : ByteArray), .slice none 0 0, .slice none 0 0, .int .i64 0, .bool false, .bool false] 29 h56 fun a57 h58 =>
  stC a57 (.int .i64 r55.1) h58 fun h59 =>
  stC (a57.add 1) (.int .i64 r55.2.1) h59 fun h60 =>
  stC (a57.add 2) (.string r55.2.2.1) h60 fun h61 =>
  stC (a57.add 3) (.string r55.2.2.2.1) h61 fun h62 =>
  stC (a57.add 4) (.slice r55.2.2.2.2.1.a r55.2.2.2.2.1.len r55.2.2.2.2.1.cap) h62 fun h63 =>
  stC (a57.add 5) (.slice r55.2.2.2.2.2.1.a r55.2.2.2.2.2.1.len r55.2.2.2.2.2.1.cap) h63 fun h64 =>
  stC (a57.add 6) (.int .i64 r55.2.2.2.2.2.2.1) h64 fun h65 =>
  stC (a57.add 7) (.bool r55.2.2.2.2.2.2.2.1) h65 fun h66 =>
  stC (a57.add 8) (.bool r55.2.2.2.2.2.2.2.2) h66 fun h67 =>
  withJ (σ := Unit) (fun s68 h70 => -- s68: 
  ldI .i64 (a57.add 1) h70 fun n71 =>
  lsl 1 s49.1.a s49.1.cap n71 (s49.1.len : Int) (s49.1.cap : Int) fun o72 l72 c72 =>
  J53 (⟨o72, l72, c72⟩ : Sl) h70) (fun J69 =>
  withJ (σ := Bool) (fun s73 h75 => -- s73: t82
  cnd s73 (
  R false h75) (
  J69 () h75)) (fun J74 =>
  ldI .i64 a57 h67 fun n76 =>
  cnd (n76 != 2) (
  J74 true h67) (
  ldS (a57.add 2) h67 fun s77 =>
  ldS ((a57.add 2).add 1) h67 fun s78 =>
  ldL ((a57.add 2).add 2) h67 fun o79 l79 c79 =>
  ldL ((a57.add 2).add 3) h67 fun o80 l80 c80 =>
  idx s1.2.1.a s1.2.1.len s49.2 fun a81 =>
  ldS (a81.add (s49.2.toNat * 4)) h67 fun s82 =>
  ldS ((a81.add (s49.2.toNat * 4)).add 1) h67 fun s83 =>
  ldL ((a81.add (s49.2.toNat * 4)).add 2) h67 fun o84 l84 c84 =>
  ldL ((a81.add (s49.2.toNat * 4)).add 3) h67 fun o85 l85 c85 =>
  CallT Try.prog ref18_Same_no [.agg #[.string s77, .string s78, .slice o79 l79 c79, .slice o80 l80 c80], .agg #[.string s82, .string s83, .slice o84 l84 c84, .slice o85 l85 c85]] h67 [.sc (.bool)] fun (r86 : Bool) h87 =>
  cnd (!r86) (
  J74 true h87) (
  ldI .i64 (a57.add 1) h87 fun n88 =>
  cnd (decide (n88 < 1)) (
  J74 true h87) (
  ldI .i64 (a57.add 1) h87 fun n89 =>
  J74 (decide (n89 > (s49.1.len : Int))) h87))))))) (
  withJ (σ := Bool) (fun s90 h92 => -- s90: t2
  R s90 h92) (fun J91 =>
  cnd ((s49.1.len : Int) == 0) (
  CallT Try.prog http_Parse_no [.slice none 0 0] h51 [.agg [.int .i64, .int .i64, .str, .str, .sl, .sl, .int .i64, .bool, .bool]] fun (r93 : (Int × Int × ByteArray × ByteArray × Sl × Sl × Int × Bool × Bool)) h94 =>
  cnd (r93.1 == 1) (
  CallT Try.prog law16_awake_no [] h94 [.sc (.bool)] fun (r95 : Bool) h96 =>
  J91 r95 h96) (
  J91 false h94)) (
  J91 false h51)))) (s1.1, 0) h3)) (
  LoopT (σ := Sl × Int) (fun X98 s97 h99 => -- s97: t3, t8
  cnd (decide (s97.2 < (s1.2.1.len : Int))) (
  withJ (σ := Sl) (fun s100 h102 => -- s100: t3
  X98 (s100, (w64 (s97.2 + 1))) h102) (fun J101 =>
  CallT Try.prog http_Parse_no [.slice s97.1.a s97.1.len s97.1.cap] h99 [.agg [.int .i64, .int .i64, .str, .str, .sl, .sl, .int .i64, .bool, .bool]] fun (r103 : (Int × Int × ByteArray × ByteArray × Sl × Sl × Int × Bool × Bool)) h104 =>
  newB [.int .i64 0, .int .i64 0, .string (⟨#[]⟩ : ByteArray), .string (⟨#[]⟩ : ByteArray), .slice none 0 0, .slice none 0 0, .int .i64 0, .bool false, .bool false] 29 h104 fun a105 h106 =>
  stC a105 (.int .i64 r103.1) h106 fun h107 =>
  stC (a105.add 1) (.int .i64 r103.2.1) h107 fun h108 =>
  stC (a105.add 2) (.string r103.2.2.1) h108 fun h109 =>
  stC (a105.add 3) (.string r103.2.2.2.1) h109 fun h110 =>
  stC (a105.add 4) (.slice r103.2.2.2.2.1.a r103.2.2.2.2.1.len r103.2.2.2.2.1.cap) h110 fun h111 =>
  stC (a105.add 5) (.slice r103.2.2.2.2.2.1.a r103.2.2.2.2.2.1.len r103.2.2.2.2.2.1.cap) h111 fun h112 =>
  stC (a105.add 6) (.int .i64 r103.2.2.2.2.2.2.1) h112 fun h113 =>
  stC (a105.add 7) (.bool r103.2.2.2.2.2.2.2.1) h113 fun h114 =>
  stC (a105.add 8) (.bool r103.2.2.2.2.2.2.2.2) h114 fun h115 =>
  withJ (σ := Unit) (fun s116 h118 => -- s116: 
  ldI .i64 (a105.add 1) h118 fun n119 =>
  lsl 1 s97.1.a s97.1.cap n119 (s97.1.len : Int) (s97.1.cap : Int) fun o120 l120 c120 =>
  J101 (⟨o120, l120, c120⟩ : Sl) h118) (fun J117 =>
  withJ (σ := Bool) (fun s121 h123 => -- s121: t82
  cnd s121 (
  R false h123) (
  J117 () h123)) (fun J122 =>
  ldI .i64 a105 h115 fun n124 =>
  cnd (n124 != 2) (
  J122 true h115) (
  ldS (a105.add 2) h115 fun s125 =>
  ldS ((a105.add 2).add 1) h115 fun s126 =>
  ldL ((a105.add 2).add 2) h115 fun o127 l127 c127 =>
  ldL ((a105.add 2).add 3) h115 fun o128 l128 c128 =>
  idx s1.2.1.a s1.2.1.len s97.2 fun a129 =>
  ldS (a129.add (s97.2.toNat * 4)) h115 fun s130 =>
  ldS ((a129.add (s97.2.toNat * 4)).add 1) h115 fun s131 =>
  ldL ((a129.add (s97.2.toNat * 4)).add 2) h115 fun o132 l132 c132 =>
  ldL ((a129.add (s97.2.toNat * 4)).add 3) h115 fun o133 l133 c133 =>
  CallT Try.prog ref18_Same_no [.agg #[.string s125, .string s126, .slice o127 l127 c127, .slice o128 l128 c128], .agg #[.string s130, .string s131, .slice o132 l132 c132, .slice o133 l133 c133]] h115 [.sc (.bool)] fun (r134 : Bool) h135 =>
  cnd (!r134) (
  J122 true h135) (
  ldI .i64 (a105.add 1) h135 fun n136 =>
  cnd (decide (n136 < 1)) (
  J122 true h135) (
  ldI .i64 (a105.add 1) h135 fun n137 =>
  J122 (decide (n137 > (s97.1.len : Int))) h135))))))) (
  withJ (σ := Bool) (fun s138 h140 => -- s138: t2
  R s138 h140) (fun J139 =>
  cnd ((s97.1.len : Int) == 0) (
  CallT Try.prog http_Parse_no [.slice none 0 0] h99 [.agg [.int .i64, .int .i64, .str, .str, .sl, .sl, .int .i64, .bool, .bool]] fun (r141 : (Int × Int × ByteArray × ByteArray × Sl × Sl × Int × Bool × Bool)) h142 =>
  cnd (r141.1 == 1) (
  CallT Try.prog law16_awake_no [] h142 [.sc (.bool)] fun (r143 : Bool) h144 =>
  J139 r143 h144) (
  J139 false h142)) (
  J139 false h99)))) (s1.1, 0) h3))) ((⟨none, 0, 0⟩ : Sl), (⟨none, 0, 0⟩ : Sl), 0) h
theorem law16_HttpPipes_eq (x_0 : Sl) (R : Bool → Heap → Prop) (h : Heap) : fnX Try.prog Fns.fns Try.f7 (.s .n (.s .n (.s .n (.s (.s .n (.b (.l [(3, .sl), (4, .sl), (5, .int .i64)] (.j [(15, .int .i64), (16, .bool)] (.s .n (.s .n .n)) (.j [(3, .sl), (4, .sl)] (.b (.s .n (.s .n (.j [(41, .bool)] .n (.s (.s .n .n) .n))))) .n))))) (.s (.s .n (.b (.l [(3, .sl), (8, .int .i64)] (.s (.s .n (.s .n .n)) (.j [(3, .sl)] (.b (.s .n (.j [] (.j [(82, .bool)] .n (.s (.s .n .n) .n)) .n))) .n))))) (.j [(2, .bool)] .n .n)))))) [.sc (.bool)] [.slice x_0.a x_0.len x_0.cap] h R = law16_HttpPipes x_0 R h := by kernel_rfl
theorem law16_HttpPipes_call (x_0 : Sl) {R : Bool → Heap → Prop} {h : Heap} (hx : law16_HttpPipes x_0 R h) : CallT Try.prog 7 [.slice x_0.a x_0.len x_0.cap] h [.sc (.bool)] R :=
  call_of_fnX fnsOk mixed Try.func7 (by kernel_rfl) (by rw [law16_HttpPipes_eq]; exact hx)

/-- stowage/stowagelaw16.HttpCase (8) -/
def law16_HttpCase (x_0 : ByteArray) (x_1 : Bool) (x_2 : Int) (R : Bool → Heap → Prop) (h : Heap) : Prop :=
  cnd (decide ((x_0.size : Int) > 1000)) (
  CallT Try.prog law16_awake_no [] h [.sc (.bool)] fun (r1 : Bool) h2 =>
  R r1 h2) (
  LoopT (σ := Int) (fun X4 s3 h5 => -- s3: t7
  cnd (decide (s3 < (x_0.size : Int))) (
  withJ (σ := Unit) (fun s6 h8 => -- s6: 
  X4 (w64 (s3 + 1)) h8) (fun J7 =>
  withJ (σ := Bool) (fun s9 h11 => -- s9: t31
  cnd s9 (
  CallT Try.prog law16_awake_no [] h11 [.sc (.bool)] fun (r12 : Bool) h13 =>
  R r12 h13) (
  J7 () h11)) (fun J10 =>
  sidx x_0 s3 fun u14 =>
  cnd ((u14.toNat : Int) == 13) (
  J10 true h5) (
  sidx x_0 s3 fun u15 =>
  J10 ((u15.toNat : Int) == 10) h5)))) (
  withJ (σ := ByteArray) (fun s16 h18 => -- s16: t8
  newB [.string (⟨#[]⟩ : ByteArray), .string (⟨#[32]⟩ : ByteArray), .string (⟨#[9, 32]⟩ : ByteArray), .string (⟨#[32, 32, 9]⟩ : ByteArray)] 9 h18 fun a19 h20 =>
  idx (some a19) 4 (andI .i64 x_2 3) fun a21 =>
  ldS (a21.add ((andI .i64 x_2 3).toNat * 1)) h20 fun s22 =>
  (((⟨#[71, 69, 84, 32, 47, 32, 72, 84, 84, 80, 47, 49, 46, 49, 13, 10, 72, 79, 83, 84, 58, 97, 13, 10]⟩ : ByteArray).size + s16.size : Nat) : Int) ≤ 9223372036854775807 ∧
  ((((⟨#[71, 69, 84, 32, 47, 32, 72, 84, 84, 80, 47, 49, 46, 49, 13, 10, 72, 79, 83, 84, 58, 97, 13, 10]⟩ : ByteArray) ++ s16).size + (⟨#[58]⟩ : ByteArray).size : Nat) : Int) ≤ 9223372036854775807 ∧
  (((((⟨#[71, 69, 84, 32, 47, 32, 72, 84, 84, 80, 47, 49, 46, 49, 13, 10, 72, 79, 83, 84, 58, 97, 13, 10]⟩ : ByteArray) ++ s16) ++ (⟨#[58]⟩ : ByteArray)).size + s22.size : Nat) : Int) ≤ 9223372036854775807 ∧
  ((((((⟨#[71, 69, 84, 32, 47, 32, 72, 84, 84, 80, 47, 49, 46, 49, 13, 10, 72, 79, 83, 84, 58, 97, 13, 10]⟩ : ByteArray) ++ s16) ++ (⟨#[58]⟩ : ByteArray)) ++ s22).size + x_0.size : Nat) : Int) ≤ 9223372036854775807 ∧
  (((((((⟨#[71, 69, 84, 32, 47, 32, 72, 84, 84, 80, 47, 49, 46, 49, 13, 10, 72, 79, 83, 84, 58, 97, 13, 10]⟩ : ByteArray) ++ s16) ++ (⟨#[58]⟩ : ByteArray)) ++ s22) ++ x_0).size + s22.size : Nat) : Int) ≤ 9223372036854775807 ∧
  ((((((((⟨#[71, 69, 84, 32, 47, 32, 72, 84, 84, 80, 47, 49, 46, 49, 13, 10, 72, 79, 83, 84, 58, 97, 13, 10]⟩ : ByteArray) ++ s16) ++ (⟨#[58]⟩ : ByteArray)) ++ s22) ++ x_0) ++ s22).size + (⟨#[13, 10, 13, 10]⟩ : ByteArray).size : Nat) : Int) ≤ 9223372036854775807 ∧
  s2b (((((((⟨#[71, 69, 84, 32, 47, 32, 72, 84, 84, 80, 47, 49, 46, 49, 13, 10, 72, 79, 83, 84, 58, 97, 13, 10]⟩ : ByteArray) ++ s16) ++ (⟨#[58]⟩ : ByteArray)) ++ s22) ++ x_0) ++ s22) ++ (⟨#[13, 10, 13, 10]⟩ : ByteArray)) 5 h20 fun a23 c24 h25 =>
  CallT Try.prog http_Parse_no [.slice (some a23) ((((((((⟨#[71, 69, 84, 32, 47, 32, 72, 84, 84, 80, 47, 49, 46, 49, 13, 10, 72, 79, 83, 84, 58, 97, 13, 10]⟩ : ByteArray) ++ s16) ++ (⟨#[58]⟩ : ByteArray)) ++ s22) ++ x_0) ++ s22) ++ (⟨#[13, 10, 13, 10]⟩ : ByteArray)).size) c24] h25 [.agg [.int .i64, .int .i64, .str, .str, .sl, .sl, .int .i64, .bool, .bool]] fun (r26 : (Int × Int × ByteArray × ByteArray × Sl × Sl × Int × Bool × Bool)) h27 =>
  newB [.int .i64 0, .int .i64 0, .string (⟨#[]⟩ : ByteArray), .string (⟨#[]⟩ : ByteArray), .slice none 0 0, .slice none 0 0, .int .i64 0, .bool false, .bool false] 29 h27 fun a28 h29 =>
  stC a28 (.int .i64 r26.1) h29 fun h30 =>
  stC (a28.add 1) (.int .i64 r26.2.1) h30 fun h31 =>
  stC (a28.add 2) (.string r26.2.2.1) h31 fun h32 =>
  stC (a28.add 3) (.string r26.2.2.2.1) h32 fun h33 =>
  stC (a28.add 4) (.slice r26.2.2.2.2.1.a r26.2.2.2.2.1.len r26.2.2.2.2.1.cap) h33 fun h34 =>
  stC (a28.add 5) (.slice r26.2.2.2.2.2.1.a r26.2.2.2.2.2.1.len r26.2.2.2.2.2.1.cap) h34 fun h35 =>
  stC (a28.add 6) (.int .i64 r26.2.2.2.2.2.2.1) h35 fun h36 =>
  stC (a28.add 7) (.bool r26.2.2.2.2.2.2.2.1) h36 fun h37 =>
  stC (a28.add 8) (.bool r26.2.2.2.2.2.2.2.2) h37 fun h38 =>
  (((⟨#[71, 69, 84, 32, 47, 32, 72, 84, 84, 80, 47, 49, 46, 49, 13, 10, 104, 111, 115, 116, 58, 32, 97, 13, 10, 120, 45, 97, 109, 122, 45, 109, 101, 116, 97, 45, 97, 58, 32]⟩ : ByteArray).size + x_0.size : Nat) : Int) ≤ 9223372036854775807 ∧
  ((((⟨#[71, 69, 84, 32, 47, 32, 72, 84, 84, 80, 47, 49, 46, 49, 13, 10, 104, 111, 115, 116, 58, 32, 97, 13, 10, 120, 45, 97, 109, 122, 45, 109, 101, 116, 97, 45, 97, 58, 32]⟩ : ByteArray) ++ x_0).size + (⟨#[13, 10, 13, 10]⟩ : ByteArray).size : Nat) : Int) ≤ 9223372036854775807 ∧
  s2b (((⟨#[71, 69, 84, 32, 47, 32, 72, 84, 84, 80, 47, 49, 46, 49, 13, 10, 104, 111, 115, 116, 58, 32, 97, 13, 10, 120, 45, 97, 109, 122, 45, 109, 101, 116, 97, 45, 97, 58, 32]⟩ : ByteArray) ++ x_0) ++ (⟨#[13, 10, 13, 10]⟩ : ByteArray)) 5 h38 fun a39 c40 h41 =>
  CallT Try.prog http_Parse_no [.slice (some a39) ((((⟨#[71, 69, 84, 32, 47, 32, 72, 84, 84, 80, 47, 49, 46, 49, 13, 10, 104, 111, 115, 116, 58, 32, 97, 13, 10, 120, 45, 97, 109, 122, 45, 109, 101, 116, 97, 45, 97, 58, 32]⟩ : ByteArray) ++ x_0) ++ (⟨#[13, 10, 13, 10]⟩ : ByteArray)).size) c40] h41 [.agg [.int .i64, .int .i64, .str, .str, .sl, .sl, .int .i64, .bool, .bool]] fun (r42 : (Int × Int × ByteArray × ByteArray × Sl × Sl × Int × Bool × Bool)) h43 =>
  newB [.int .i64 0, .int .i64 0, .string (⟨#[]⟩ : ByteArray), .string (⟨#[]⟩ : ByteArray), .slice none 0 0, .slice none 0 0, .int .i64 0, .bool false, .bool false] 29 h43 fun a44 h45 =>
  stC a44 (.int .i64 r42.1) h45 fun h46 =>
  stC (a44.add 1) (.int .i64 r42.2.1) h46 fun h47 =>
  stC (a44.add 2) (.string r42.2.2.1) h47 fun h48 =>
  stC (a44.add 3) (.string r42.2.2.2.1) h48 fun h49 =>
  stC (a44.add 4) (.slice r42.2.2.2.2.1.a r42.2.2.2.2.1.len r42.2.2.2.2.1.cap) h49 fun h50 =>
  stC (a44.add 5) (.slice r42.2.2.2.2.2.1.a r42.2.2.2.2.2.1.len r42.2.2.2.2.2.1.cap) h50 fun h51 =>
  stC (a44.add 6) (.int .i64 r42.2.2.2.2.2.2.1) h51 fun h52 =>
  stC (a44.add 7) (.bool r42.2.2.2.2.2.2.2.1) h52 fun h53 =>
  stC (a44.add 8) (.bool r42.2.2.2.2.2.2.2.2) h53 fun h54 =>
  withJ (σ := Bool) (fun s55 h57 => -- s55: t6
  R s55 h57) (fun J56 =>
  ldI .i64 a28 h54 fun n58 =>
  ldI .i64 a44 h54 fun n59 =>
  cnd (n58 == n59) (
  ldS (a28.add 2) h54 fun s60 =>
  ldS ((a28.add 2).add 1) h54 fun s61 =>
  ldL ((a28.add 2).add 2) h54 fun o62 l62 c62 =>
  ldL ((a28.add 2).add 3) h54 fun o63 l63 c63 =>
  ldS (a44.add 2) h54 fun s64 =>
  ldS ((a44.add 2).add 1) h54 fun s65 =>
  ldL ((a44.add 2).add 2) h54 fun o66 l66 c66 =>
  ldL ((a44.add 2).add 3) h54 fun o67 l67 c67 =>
  CallT Try.prog ref18_Same_no [.agg #[.string s60, .string s61, .slice o62 l62 c62, .slice o63 l63 c63], .agg #[.string s64, .string s65, .slice o66 l66 c66, .slice o67 l67 c67]] h54 [.sc (.bool)] fun (r68 : Bool) h69 =>
  cnd r68 (
  ldI .i64 (a28.add 6) h69 fun n70 =>
  ldI .i64 (a44.add 6) h69 fun n71 =>
  cnd (n70 == n71) (
  CallT Try.prog law16_awake_no [] h69 [.sc (.bool)] fun (r72 : Bool) h73 =>
  J56 r72 h73) (
  J56 false h69)) (
  J56 false h69)) (
  J56 false h54))) (fun J17 =>
  cnd x_1 (
  J17 (⟨#[88, 45, 65, 109, 122, 45, 77, 69, 84, 65, 45, 97]⟩ : ByteArray) h5) (
  J17 (⟨#[120, 45, 97, 109, 122, 45, 109, 101, 116, 97, 45, 97]⟩ : ByteArray) h5)))) 0 h)
theorem law16_HttpCase_eq (x_0 : ByteArray) (x_1 : Bool) (x_2 : Int) (R : Bool → Heap → Prop) (h : Heap) : fnX Try.prog Fns.fns Try.f8 (.s .n (.s (.s .n (.s (.s .n .n) .n)) (.s (.s .n (.b (.l [(7, .int .i64)] (.s (.s .n (.s .n .n)) (.j [] (.b (.j [(31, .bool)] .n (.s (.s .n .n) .n))) .n))))) (.s .n (.j [(8, .str)] (.s .n (.s .n .n)) (.s .n (.s .n (.s .n (.j [(6, .bool)] .n .n))))))))) [.sc (.bool)] [.string x_0, .bool x_1, .int .i64 x_2] h R = law16_HttpCase x_0 x_1 x_2 R h := by kernel_rfl
theorem law16_HttpCase_call (x_0 : ByteArray) (x_1 : Bool) (x_2 : Int) {R : Bool → Heap → Prop} {h : Heap} (hx : law16_HttpCase x_0 x_1 x_2 R h) : CallT Try.prog 8 [.string x_0, .bool x_1, .int .i64 x_2] h [.sc (.bool)] R :=
  call_of_fnX fnsOk mixed Try.func8 (by kernel_rfl) (by rw [law16_HttpCase_eq]; exact hx)

/-- stowage/stowagelaw16.HttpQueries (9) -/
def law16_HttpQueries (x_0 : ByteArray) (x_1 : Sl) (x_2 : ByteArray) (R : Bool → Heap → Prop) (h : Heap) : Prop :=
  CallT Try.prog http_Query_no [.string x_0] h [.sc (.str), .sc (.sl)] fun (r1 : ByteArray × Sl) h2 =>
  CallT Try.prog ref16_Query_no [.string x_0] h2 [.sc (.str), .sc (.sl)] fun (r3 : ByteArray × Sl) h4 =>
  CallT Try.prog http_Get_no [.slice x_1.a x_1.len x_1.cap, .string x_2] h4 [.sc (.str), .sc (.bool)] fun (r5 : ByteArray × Bool) h6 =>
  CallT Try.prog ref16_Get_no [.slice x_1.a x_1.len x_1.cap, .string x_2] h6 [.sc (.str), .sc (.bool)] fun (r7 : ByteArray × Bool) h8 =>
  CallT Try.prog http_All_no [.slice x_1.a x_1.len x_1.cap, .string x_2] h8 [.sc (.sl)] fun (r9 : Sl) h10 =>
  CallT Try.prog ref16_All_no [.slice x_1.a x_1.len x_1.cap, .string x_2] h10 [.sc (.sl)] fun (r11 : Sl) h12 =>
  withJ (σ := Unit) (fun s13 h15 => -- s13: 
  LoopT (σ := Int) (fun X17 s16 h18 => -- s16: t17
  cnd (decide (s16 < (r1.2.len : Int))) (
  idx r1.2.a r1.2.len s16 fun a19 =>
  ldS (a19.add (s16.toNat * 2)) h18 fun s20 =>
  ldS ((a19.add (s16.toNat * 2)).add 1) h18 fun s21 =>
  idx r3.2.a r3.2.len s16 fun a22 =>
  ldS (a22.add (s16.toNat * 2)) h18 fun s23 =>
  ldS ((a22.add (s16.toNat * 2)).add 1) h18 fun s24 =>
  cnd (!((seq s20 s23) && ((seq s21 s24) && true))) (
  R false h18) (
  X17 (w64 (s16 + 1)) h18)) (
  LoopT (σ := Int) (fun X26 s25 h27 => -- s25: t18
  cnd (decide (s25 < (r9.len : Int))) (
  idx r9.a r9.len s25 fun a28 =>
  ldS (a28.add (s25.toNat * 1)) h27 fun s29 =>
  idx r11.a r11.len s25 fun a30 =>
  ldS (a30.add (s25.toNat * 1)) h27 fun s31 =>
  cnd (!seq s29 s31) (
  R false h27) (
  X26 (w64 (s25 + 1)) h27)) (
  CallT Try.prog law16_awake_no [] h27 [.sc (.bool)] fun (r32 : Bool) h33 =>
  R r32 h33)) 0 h18)) 0 h15) (fun J14 =>
  withJ (σ := Bool) (fun s34 h36 => -- s34: t73
  cnd s34 (
  R false h36) (
  J14 () h36)) (fun J35 =>
  cnd (!seq r1.1 r3.1) (
  J35 true h12) (
  cnd ((r1.2.len : Int) != (r3.2.len : Int)) (
  J35 true h12) (
  cnd (!seq r5.1 r7.1) (
  J35 true h12) (
  cnd (!(r5.2 == r7.2)) (
  J35 true h12) (
  J35 ((r9.len : Int) != (r11.len : Int)) h12))))))
theorem law16_HttpQueries_eq (x_0 : ByteArray) (x_1 : Sl) (x_2 : ByteArray) (R : Bool → Heap → Prop) (h : Heap) : fnX Try.prog Fns.fns Try.f9 (.s .n (.s .n (.s .n (.s .n (.s .n (.s .n (.s .n (.j [] (.j [(73, .bool)] .n (.s (.s .n .n) .n)) (.s (.s .n (.b (.l [(17, .int .i64)] (.s (.s .n (.s .n .n)) (.s (.b (.s .n (.s (.s .n .n) .n))) .n))))) (.s (.s .n (.b (.l [(18, .int .i64)] (.s (.s .n (.s .n .n)) (.s (.b (.s .n (.s (.s .n .n) .n))) .n))))) (.s .n .n))))))))))) [.sc (.bool)] [.string x_0, .slice x_1.a x_1.len x_1.cap, .string x_2] h R = law16_HttpQueries x_0 x_1 x_2 R h := by kernel_rfl
theorem law16_HttpQueries_call (x_0 : ByteArray) (x_1 : Sl) (x_2 : ByteArray) {R : Bool → Heap → Prop} {h : Heap} (hx : law16_HttpQueries x_0 x_1 x_2 R h) : CallT Try.prog 9 [.string x_0, .slice x_1.a x_1.len x_1.cap, .string x_2] h [.sc (.bool)] R :=
  call_of_fnX fnsOk mixed Try.func9 (by kernel_rfl) (by rw [law16_HttpQueries_eq]; exact hx)

/-- stowage/stowagelaw16.HttpBack (10) -/
def law16_HttpBack (r_0 : ByteArray × ByteArray × Sl × Sl) (more_1 : Sl) (R : Bool → Heap → Prop) (h : Heap) : Prop :=
  newB [.string r_0.1, .string r_0.2.1, .slice r_0.2.2.1.a r_0.2.2.1.len r_0.2.2.1.cap, .slice r_0.2.2.2.a r_0.2.2.2.len r_0.2.2.2.cap] 26 h fun a1 h2 =>
  ldS a1 h2 fun s3 =>
  ldS (a1.add 1) h2 fun s4 =>
  ldL (a1.add 2) h2 fun o5 l5 c5 =>
  ldL (a1.add 3) h2 fun o6 l6 c6 =>
  CallT Try.prog http_Print_no [.agg #[.string s3, .string s4, .slice o5 l5 c5, .slice o6 l6 c6]] h2 [.sc (.sl)] fun (r7 : Sl) h8 =>
  b2s r7.a r7.len h8 fun s9 =>
  ldS a1 h8 fun s10 =>
  ldS (a1.add 1) h8 fun s11 =>
  ldL (a1.add 2) h8 fun o12 l12 c12 =>
  ldL (a1.add 3) h8 fun o13 l13 c13 =>
  CallT Try.prog ref16_Print_no [.agg #[.string s10, .string s11, .slice o12 l12 c12, .slice o13 l13 c13]] h8 [.sc (.sl)] fun (r14 : Sl) h15 =>
  (b2s r7.a r7.len h15 fun s16 =>
  (.string s16 : Value) = .string s9) ∧
  b2s r14.a r14.len h15 fun s17 =>
  cnd (!seq s9 s17) (
  R false h15) (
  CallT Try.prog ref16_Parse_no [.slice r7.a r7.len r7.cap] h15 [.agg [.int .i64, .int .i64, .str, .str, .sl, .sl, .int .i64, .bool, .bool]] fun (r18 : (Int × Int × ByteArray × ByteArray × Sl × Sl × Int × Bool × Bool)) h19 =>
  newB [.int .i64 0, .int .i64 0, .string (⟨#[]⟩ : ByteArray), .string (⟨#[]⟩ : ByteArray), .slice none 0 0, .slice none 0 0, .int .i64 0, .bool false, .bool false] 40 h19 fun a20 h21 =>
  stC a20 (.int .i64 r18.1) h21 fun h22 =>
  stC (a20.add 1) (.int .i64 r18.2.1) h22 fun h23 =>
  stC (a20.add 2) (.string r18.2.2.1) h23 fun h24 =>
  stC (a20.add 3) (.string r18.2.2.2.1) h24 fun h25 =>
  stC (a20.add 4) (.slice r18.2.2.2.2.1.a r18.2.2.2.2.1.len r18.2.2.2.2.1.cap) h25 fun h26 =>
  stC (a20.add 5) (.slice r18.2.2.2.2.2.1.a r18.2.2.2.2.2.1.len r18.2.2.2.2.2.1.cap) h26 fun h27 =>
  stC (a20.add 6) (.int .i64 r18.2.2.2.2.2.2.1) h27 fun h28 =>
  stC (a20.add 7) (.bool r18.2.2.2.2.2.2.2.1) h28 fun h29 =>
  stC (a20.add 8) (.bool r18.2.2.2.2.2.2.2.2) h29 fun h30 =>
  withJ (σ := Unit) (fun s31 h33 => -- s31: 
  newB [] 5 h33 fun a34 h35 =>
  rdCells r7.a (r7.len * 1) h35 fun cs39 =>
  app [.int .u8 0] 5 1 1 (some a34) 0 0 cs39 r7.len h35 fun o36 c37 h38 =>
  rdCells more_1.a (more_1.len * 1) h38 fun cs43 =>
  app [.int .u8 0] 5 1 1 o36 (0 + r7.len) c37 cs43 more_1.len h38 fun o40 c41 h42 =>
  CallT Try.prog http_Parse_no [.slice o40 ((0 + r7.len) + more_1.len) c41] h42 [.agg [.int .i64, .int .i64, .str, .str, .sl, .sl, .int .i64, .bool, .bool]] fun (r44 : (Int × Int × ByteArray × ByteArray × Sl × Sl × Int × Bool × Bool)) h45 =>
  newB [.int .i64 0, .int .i64 0, .string (⟨#[]⟩ : ByteArray), .string (⟨#[]⟩ : ByteArray), .slice none 0 0, .slice none 0 0, .int .i64 0, .bool false, .bool false] 29 h45 fun a46 h47 =>
  stC a46 (.int .i64 r44.1) h47 fun h48 =>
  stC (a46.add 1) (.int .i64 r44.2.1) h48 fun h49 =>
  stC (a46.add 2) (.string r44.2.2.1) h49 fun h50 =>
  stC (a46.add 3) (.string r44.2.2.2.1) h50 fun h51 =>
  stC (a46.add 4) (.slice r44.2.2.2.2.1.a r44.2.2.2.2.1.len r44.2.2.2.2.1.cap) h51 fun h52 =>
  stC (a46.add 5) (.slice r44.2.2.2.2.2.1.a r44.2.2.2.2.2.1.len r44.2.2.2.2.2.1.cap) h52 fun h53 =>
  stC (a46.add 6) (.int .i64 r44.2.2.2.2.2.2.1) h53 fun h54 =>
  stC (a46.add 7) (.bool r44.2.2.2.2.2.2.2.1) h54 fun h55 =>
  stC (a46.add 8) (.bool r44.2.2.2.2.2.2.2.2) h55 fun h56 =>
  withJ (σ := Bool) (fun s57 h59 => -- s57: t4
  R s57 h59) (fun J58 =>
  ldI .i64 a46 h56 fun n60 =>
  cnd (n60 == 2) (
  ldI .i64 (a46.add 1) h56 fun n61 =>
  cnd (n61 == (r7.len : Int)) (
  ldS (a46.add 2) h56 fun s62 =>
  ldS ((a46.add 2).add 1) h56 fun s63 =>
  ldL ((a46.add 2).add 2) h56 fun o64 l64 c64 =>
  ldL ((a46.add 2).add 3) h56 fun o65 l65 c65 =>
  ldS a1 h56 fun s66 =>
  ldS (a1.add 1) h56 fun s67 =>
  ldL (a1.add 2) h56 fun o68 l68 c68 =>
  ldL (a1.add 3) h56 fun o69 l69 c69 =>
  CallT Try.prog ref18_Same_no [.agg #[.string s62, .string s63, .slice o64 l64 c64, .slice o65 l65 c65], .agg #[.string s66, .string s67, .slice o68 l68 c68, .slice o69 l69 c69]] h56 [.sc (.bool)] fun (r70 : Bool) h71 =>
  cnd r70 (
  CallT Try.prog law16_awake_no [] h71 [.sc (.bool)] fun (r72 : Bool) h73 =>
  J58 r72 h73) (
  J58 false h71)) (
  J58 false h56)) (
  J58 false h56))) (fun J32 =>
  withJ (σ := Bool) (fun s74 h76 => -- s74: t27
  cnd s74 (
  CallT Try.prog law16_awake_no [] h76 [.sc (.bool)] fun (r77 : Bool) h78 =>
  R r77 h78) (
  J32 () h76)) (fun J75 =>
  ldI .i64 a20 h30 fun n79 =>
  cnd (n79 != 2) (
  J75 true h30) (
  ldS (a20.add 2) h30 fun s80 =>
  ldS ((a20.add 2).add 1) h30 fun s81 =>
  ldL ((a20.add 2).add 2) h30 fun o82 l82 c82 =>
  ldL ((a20.add 2).add 3) h30 fun o83 l83 c83 =>
  ldS a1 h30 fun s84 =>
  ldS (a1.add 1) h30 fun s85 =>
  ldL (a1.add 2) h30 fun o86 l86 c86 =>
  ldL (a1.add 3) h30 fun o87 l87 c87 =>
  CallT Try.prog ref18_Same_no [.agg #[.string s80, .string s81, .slice o82 l82 c82, .slice o83 l83 c83], .agg #[.string s84, .string s85, .slice o86 l86 c86, .slice o87 l87 c87]] h30 [.sc (.bool)] fun (r88 : Bool) h89 =>
  J75 (!r88) h89))))
theorem law16_HttpBack_eq (r_0 : ByteArray × ByteArray × Sl × Sl) (more_1 : Sl) (R : Bool → Heap → Prop) (h : Heap) : fnX Try.prog Fns.fns Try.f10 (.s .n (.s .n (.s (.s .n (.s (.s .n .n) .n)) (.s .n (.j [] (.j [(27, .bool)] .n (.s (.s .n .n) .n)) (.s .n (.j [(4, .bool)] .n .n))))))) [.sc (.bool)] [.agg #[.string r_0.1, .string r_0.2.1, .slice r_0.2.2.1.a r_0.2.2.1.len r_0.2.2.1.cap, .slice r_0.2.2.2.a r_0.2.2.2.len r_0.2.2.2.cap], .slice more_1.a more_1.len more_1.cap] h R = law16_HttpBack r_0 more_1 R h := by kernel_rfl
theorem law16_HttpBack_call (r_0 : ByteArray × ByteArray × Sl × Sl) (more_1 : Sl) {R : Bool → Heap → Prop} {h : Heap} (hx : law16_HttpBack r_0 more_1 R h) : CallT Try.prog 10 [.agg #[.string r_0.1, .string r_0.2.1, .slice r_0.2.2.1.a r_0.2.2.1.len r_0.2.2.1.cap, .slice r_0.2.2.2.a r_0.2.2.2.len r_0.2.2.2.cap], .slice more_1.a more_1.len more_1.cap] h [.sc (.bool)] R :=
  call_of_fnX fnsOk mixed Try.func10 (by kernel_rfl) (by rw [law16_HttpBack_eq]; exact hx)

/-- stowage/stowagelaw16.awake (11) -/
def law16_awake (R : Bool → Heap → Prop) (h : Heap) : Prop :=
  newB [.int .u8 71, .int .u8 69, .int .u8 84, .int .u8 32, .int .u8 47, .int .u8 32, .int .u8 72, .int .u8 84, .int .u8 84, .int .u8 80, .int .u8 47, .int .u8 49, .int .u8 46, .int .u8 49, .int .u8 13, .int .u8 10, .int .u8 72, .int .u8 111, .int .u8 115, .int .u8 116, .int .u8 58, .int .u8 32, .int .u8 97, .int .u8 13, .int .u8 10, .int .u8 13, .int .u8 10, .int .u8 109, .int .u8 111, .int .u8 114, .int .u8 101] 5 h fun a1 h2 =>
  markS a1 h2 fun h3 =>
  CallT Try.prog http_Parse_no [.slice (some a1) 31 31] h3 [.agg [.int .i64, .int .i64, .str, .str, .sl, .sl, .int .i64, .bool, .bool]] fun (r4 : (Int × Int × ByteArray × ByteArray × Sl × Sl × Int × Bool × Bool)) h5 =>
  newB [.int .i64 0, .int .i64 0, .string (⟨#[]⟩ : ByteArray), .string (⟨#[]⟩ : ByteArray), .slice none 0 0, .slice none 0 0, .int .i64 0, .bool false, .bool false] 29 h5 fun a6 h7 =>
  stC a6 (.int .i64 r4.1) h7 fun h8 =>
  stC (a6.add 1) (.int .i64 r4.2.1) h8 fun h9 =>
  stC (a6.add 2) (.string r4.2.2.1) h9 fun h10 =>
  stC (a6.add 3) (.string r4.2.2.2.1) h10 fun h11 =>
  stC (a6.add 4) (.slice r4.2.2.2.2.1.a r4.2.2.2.2.1.len r4.2.2.2.2.1.cap) h11 fun h12 =>
  stC (a6.add 5) (.slice r4.2.2.2.2.2.1.a r4.2.2.2.2.2.1.len r4.2.2.2.2.2.1.cap) h12 fun h13 =>
  stC (a6.add 6) (.int .i64 r4.2.2.2.2.2.2.1) h13 fun h14 =>
  stC (a6.add 7) (.bool r4.2.2.2.2.2.2.2.1) h14 fun h15 =>
  stC (a6.add 8) (.bool r4.2.2.2.2.2.2.2.2) h15 fun h16 =>
  newB [.int .u8 71, .int .u8 69, .int .u8 84, .int .u8 32, .int .u8 47, .int .u8 32, .int .u8 72, .int .u8 84, .int .u8 84, .int .u8 80, .int .u8 47, .int .u8 49, .int .u8 46, .int .u8 48, .int .u8 13, .int .u8 10] 5 h16 fun a17 h18 =>
  markS a17 h18 fun h19 =>
  CallT Try.prog http_Parse_no [.slice (some a17) 16 16] h19 [.agg [.int .i64, .int .i64, .str, .str, .sl, .sl, .int .i64, .bool, .bool]] fun (r20 : (Int × Int × ByteArray × ByteArray × Sl × Sl × Int × Bool × Bool)) h21 =>
  newB [.int .i64 0, .int .i64 0, .string (⟨#[]⟩ : ByteArray), .string (⟨#[]⟩ : ByteArray), .slice none 0 0, .slice none 0 0, .int .i64 0, .bool false, .bool false] 29 h21 fun a22 h23 =>
  stC a22 (.int .i64 r20.1) h23 fun h24 =>
  stC (a22.add 1) (.int .i64 r20.2.1) h24 fun h25 =>
  stC (a22.add 2) (.string r20.2.2.1) h25 fun h26 =>
  stC (a22.add 3) (.string r20.2.2.2.1) h26 fun h27 =>
  stC (a22.add 4) (.slice r20.2.2.2.2.1.a r20.2.2.2.2.1.len r20.2.2.2.2.1.cap) h27 fun h28 =>
  stC (a22.add 5) (.slice r20.2.2.2.2.2.1.a r20.2.2.2.2.2.1.len r20.2.2.2.2.2.1.cap) h28 fun h29 =>
  stC (a22.add 6) (.int .i64 r20.2.2.2.2.2.2.1) h29 fun h30 =>
  stC (a22.add 7) (.bool r20.2.2.2.2.2.2.2.1) h30 fun h31 =>
  stC (a22.add 8) (.bool r20.2.2.2.2.2.2.2.2) h31 fun h32 =>
  newB [.int .u8 71, .int .u8 69] 5 h32 fun a33 h34 =>
  markS a33 h34 fun h35 =>
  CallT Try.prog http_Parse_no [.slice (some a33) 2 2] h35 [.agg [.int .i64, .int .i64, .str, .str, .sl, .sl, .int .i64, .bool, .bool]] fun (r36 : (Int × Int × ByteArray × ByteArray × Sl × Sl × Int × Bool × Bool)) h37 =>
  newB [.int .i64 0, .int .i64 0, .string (⟨#[]⟩ : ByteArray), .string (⟨#[]⟩ : ByteArray), .slice none 0 0, .slice none 0 0, .int .i64 0, .bool false, .bool false] 29 h37 fun a38 h39 =>
  stC a38 (.int .i64 r36.1) h39 fun h40 =>
  stC (a38.add 1) (.int .i64 r36.2.1) h40 fun h41 =>
  stC (a38.add 2) (.string r36.2.2.1) h41 fun h42 =>
  stC (a38.add 3) (.string r36.2.2.2.1) h42 fun h43 =>
  stC (a38.add 4) (.slice r36.2.2.2.2.1.a r36.2.2.2.2.1.len r36.2.2.2.2.1.cap) h43 fun h44 =>
  stC (a38.add 5) (.slice r36.2.2.2.2.2.1.a r36.2.2.2.2.2.1.len r36.2.2.2.2.2.1.cap) h44 fun h45 =>
  stC (a38.add 6) (.int .i64 r36.2.2.2.2.2.2.1) h45 fun h46 =>
  stC (a38.add 7) (.bool r36.2.2.2.2.2.2.2.1) h46 fun h47 =>
  stC (a38.add 8) (.bool r36.2.2.2.2.2.2.2.2) h47 fun h48 =>
  withJ (σ := Bool) (fun s49 h51 => -- s49: t0
  R s49 h51) (fun J50 =>
  ldI .i64 a6 h48 fun n52 =>
  cnd (n52 == 2) (
  ldI .i64 (a6.add 1) h48 fun n53 =>
  cnd (n53 == 27) (
  ldS ((a6.add 2).add 1) h48 fun s54 =>
  cnd (seq s54 (⟨#[47]⟩ : ByteArray)) (
  ldL ((a6.add 2).add 2) h48 fun o55 l55 c55 =>
  cnd ((l55 : Int) == 1) (
  ldI .i64 a22 h48 fun n56 =>
  cnd (n56 == 3) (
  ldI .i64 (a22.add 6) h48 fun n57 =>
  cnd (n57 == 340) (
  ldI .i64 a38 h48 fun n58 =>
  J50 (n58 == 1) h48) (
  J50 false h48)) (
  J50 false h48)) (
  J50 false h48)) (
  J50 false h48)) (
  J50 false h48)) (
  J50 false h48))
theorem law16_awake_eq (R : Bool → Heap → Prop) (h : Heap) : fnX Try.prog Fns.fns Try.f11 (.s .n (.s .n (.s .n (.s .n (.j [(0, .bool)] .n .n))))) [.sc (.bool)] [] h R = law16_awake R h := by kernel_rfl
theorem law16_awake_call {R : Bool → Heap → Prop} {h : Heap} (hx : law16_awake R h) : CallT Try.prog 11 [] h [.sc (.bool)] R :=
  call_of_fnX fnsOk mixed Try.func11 (by kernel_rfl) (by rw [law16_awake_eq]; exact hx)

/-- stowage/stowagelaw16.Same (14) -/
def law16_Same (a_0 : Int × Int × ByteArray × ByteArray × Sl × Sl × Int × Bool × Bool) (b_1 : Int × Int × ByteArray × ByteArray × Sl × Sl × Int × Bool × Bool) (R : Bool → Heap → Prop) (h : Heap) : Prop :=
  newB [.int .i64 a_0.1, .int .i64 a_0.2.1, .string a_0.2.2.1, .string a_0.2.2.2.1, .slice a_0.2.2.2.2.1.a a_0.2.2.2.2.1.len a_0.2.2.2.2.1.cap, .slice a_0.2.2.2.2.2.1.a a_0.2.2.2.2.2.1.len a_0.2.2.2.2.2.1.cap, .int .i64 a_0.2.2.2.2.2.2.1, .bool a_0.2.2.2.2.2.2.2.1, .bool a_0.2.2.2.2.2.2.2.2] 29 h fun a1 h2 =>
  newB [.int .i64 b_1.1, .int .i64 b_1.2.1, .string b_1.2.2.1, .string b_1.2.2.2.1, .slice b_1.2.2.2.2.1.a b_1.2.2.2.2.1.len b_1.2.2.2.2.1.cap, .slice b_1.2.2.2.2.2.1.a b_1.2.2.2.2.2.1.len b_1.2.2.2.2.2.1.cap, .int .i64 b_1.2.2.2.2.2.2.1, .bool b_1.2.2.2.2.2.2.2.1, .bool b_1.2.2.2.2.2.2.2.2] 40 h2 fun a3 h4 =>
  withJ (σ := Bool) (fun s5 h7 => -- s5: t4
  R s5 h7) (fun J6 =>
  ldI .i64 a1 h4 fun n8 =>
  ldI .i64 a3 h4 fun n9 =>
  cnd (n8 == n9) (
  ldI .i64 (a1.add 1) h4 fun n10 =>
  ldI .i64 (a3.add 1) h4 fun n11 =>
  cnd (n10 == n11) (
  ldS (a1.add 2) h4 fun s12 =>
  ldS ((a1.add 2).add 1) h4 fun s13 =>
  ldL ((a1.add 2).add 2) h4 fun o14 l14 c14 =>
  ldL ((a1.add 2).add 3) h4 fun o15 l15 c15 =>
  ldS (a3.add 2) h4 fun s16 =>
  ldS ((a3.add 2).add 1) h4 fun s17 =>
  ldL ((a3.add 2).add 2) h4 fun o18 l18 c18 =>
  ldL ((a3.add 2).add 3) h4 fun o19 l19 c19 =>
  CallT Try.prog ref18_Same_no [.agg #[.string s12, .string s13, .slice o14 l14 c14, .slice o15 l15 c15], .agg #[.string s16, .string s17, .slice o18 l18 c18, .slice o19 l19 c19]] h4 [.sc (.bool)] fun (r20 : Bool) h21 =>
  cnd r20 (
  ldI .i64 (a1.add 6) h21 fun n22 =>
  ldI .i64 (a3.add 6) h21 fun n23 =>
  cnd (n22 == n23) (
  ldB (a1.add 7) h21 fun b24 =>
  ldB (a3.add 7) h21 fun b25 =>
  cnd (b24 == b25) (
  ldB (a1.add 8) h21 fun b26 =>
  ldB (a3.add 8) h21 fun b27 =>
  J6 (b26 == b27) h21) (
  J6 false h21)) (
  J6 false h21)) (
  J6 false h21)) (
  J6 false h4)) (
  J6 false h4))
theorem law16_Same_eq (a_0 : Int × Int × ByteArray × ByteArray × Sl × Sl × Int × Bool × Bool) (b_1 : Int × Int × ByteArray × ByteArray × Sl × Sl × Int × Bool × Bool) (R : Bool → Heap → Prop) (h : Heap) : fnX Try.prog Fns.fns Try.f14 (.s .n (.j [(4, .bool)] .n .n)) [.sc (.bool)] [.agg #[.int .i64 a_0.1, .int .i64 a_0.2.1, .string a_0.2.2.1, .string a_0.2.2.2.1, .slice a_0.2.2.2.2.1.a a_0.2.2.2.2.1.len a_0.2.2.2.2.1.cap, .slice a_0.2.2.2.2.2.1.a a_0.2.2.2.2.2.1.len a_0.2.2.2.2.2.1.cap, .int .i64 a_0.2.2.2.2.2.2.1, .bool a_0.2.2.2.2.2.2.2.1, .bool a_0.2.2.2.2.2.2.2.2], .agg #[.int .i64 b_1.1, .int .i64 b_1.2.1, .string b_1.2.2.1, .string b_1.2.2.2.1, .slice b_1.2.2.2.2.1.a b_1.2.2.2.2.1.len b_1.2.2.2.2.1.cap, .slice b_1.2.2.2.2.2.1.a b_1.2.2.2.2.2.1.len b_1.2.2.2.2.2.1.cap, .int .i64 b_1.2.2.2.2.2.2.1, .bool b_1.2.2.2.2.2.2.2.1, .bool b_1.2.2.2.2.2.2.2.2]] h R = law16_Same a_0 b_1 R h := by kernel_rfl
theorem law16_Same_call (a_0 : Int × Int × ByteArray × ByteArray × Sl × Sl × Int × Bool × Bool) (b_1 : Int × Int × ByteArray × ByteArray × Sl × Sl × Int × Bool × Bool) {R : Bool → Heap → Prop} {h : Heap} (hx : law16_Same a_0 b_1 R h) : CallT Try.prog 14 [.agg #[.int .i64 a_0.1, .int .i64 a_0.2.1, .string a_0.2.2.1, .string a_0.2.2.2.1, .slice a_0.2.2.2.2.1.a a_0.2.2.2.2.1.len a_0.2.2.2.2.1.cap, .slice a_0.2.2.2.2.2.1.a a_0.2.2.2.2.2.1.len a_0.2.2.2.2.2.1.cap, .int .i64 a_0.2.2.2.2.2.2.1, .bool a_0.2.2.2.2.2.2.2.1, .bool a_0.2.2.2.2.2.2.2.2], .agg #[.int .i64 b_1.1, .int .i64 b_1.2.1, .string b_1.2.2.1, .string b_1.2.2.2.1, .slice b_1.2.2.2.2.1.a b_1.2.2.2.2.1.len b_1.2.2.2.2.1.cap, .slice b_1.2.2.2.2.2.1.a b_1.2.2.2.2.2.1.len b_1.2.2.2.2.2.1.cap, .int .i64 b_1.2.2.2.2.2.2.1, .bool b_1.2.2.2.2.2.2.2.1, .bool b_1.2.2.2.2.2.2.2.2]] h [.sc (.bool)] R :=
  call_of_fnX fnsOk mixed Try.func14 (by kernel_rfl) (by rw [law16_Same_eq]; exact hx)

end Go.Proofs.Ytjpmjhnjdnbopaa
