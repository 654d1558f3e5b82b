/- Go functions as short texts over the heap, and that each is what the loaded function comes to (the kernel compares them); written by a program. -/
import Derived.Test.YtjpmjhnjdnbopaaGBase
set_option linter.unusedVariables false
set_option maxRecDepth 100000
namespace Go.Proofs.Ytjpmjhnjdnbopaa
open Go D
/-- stowage/http.Parse (12) -/
def http_Parse (x_0 : Sl) (R : (Int × Int × ByteArray × ByteArray × Sl × Sl × Int × Bool × Bool) → Heap → Prop) (h : Heap) : Prop :=
  newB [.int .i64 0, .int .i64 0, .string (⟨#[]⟩ : ByteArray), .string (⟨#[]⟩ : ByteArray), .slice none 0 0, .slice none 0 0, .int .i64 0, .bool false, .bool false] 29 h fun a1 h2 =>
  b2s x_0.a x_0.len h2 fun s3 =>
  newB [.string s3, .int .i64 0, .int .i64 0, .int .i64 0, .int .i64 0] 57 h2 fun a4 h5 =>
  CallT Try.prog http_reader_request_no [.pointer (some a4)] h5 [.agg [.str, .str, .sl, .sl], .sc (.bool)] fun (r6 : (ByteArray × ByteArray × Sl × Sl) × Bool) h7 =>
  newB [.string (⟨#[]⟩ : ByteArray), .string (⟨#[]⟩ : ByteArray), .slice none 0 0, .slice none 0 0] 26 h7 fun a8 h9 =>
  stC a8 (.string r6.1.1) h9 fun h10 =>
  stC (a8.add 1) (.string r6.1.2.1) h10 fun h11 =>
  stC (a8.add 2) (.slice r6.1.2.2.1.a r6.1.2.2.1.len r6.1.2.2.1.cap) h11 fun h12 =>
  stC (a8.add 3) (.slice r6.1.2.2.2.a r6.1.2.2.2.len r6.1.2.2.2.cap) h12 fun h13 =>
  ldI .i64 (a4.add 4) h13 fun n14 =>
  cnd (n14 != 0) (
  ldI .i64 (a4.add 4) h13 fun n15 =>
  stC a1 (.int .i64 3) h13 fun h16 =>
  stC (a1.add 1) (.int .i64 0) h16 fun h17 =>
  stC (a1.add 2) (.string (⟨#[]⟩ : ByteArray)) h17 fun h18 =>
  stC (a1.add 3) (.string (⟨#[]⟩ : ByteArray)) h18 fun h19 =>
  stC (a1.add 4) (.slice none 0 0) h19 fun h20 =>
  stC (a1.add 5) (.slice none 0 0) h20 fun h21 =>
  stC (a1.add 6) (.int .i64 n15) h21 fun h22 =>
  stC (a1.add 7) (.bool true) h22 fun h23 =>
  stC (a1.add 8) (.bool false) h23 fun h24 =>
  ldI .i64 a1 h24 fun n25 =>
  ldI .i64 (a1.add 1) h24 fun n26 =>
  ldS (a1.add 2) h24 fun s27 =>
  ldS (a1.add 3) h24 fun s28 =>
  ldL (a1.add 4) h24 fun o29 l29 c29 =>
  ldL (a1.add 5) h24 fun o30 l30 c30 =>
  ldI .i64 (a1.add 6) h24 fun n31 =>
  ldB (a1.add 7) h24 fun b32 =>
  ldB (a1.add 8) h24 fun b33 =>
  R (n25, n26, s27, s28, (⟨o29, l29, c29⟩ : Sl), (⟨o30, l30, c30⟩ : Sl), n31, b32, b33) h24) (
  cnd (!r6.2) (
  stC a1 (.int .i64 1) h13 fun h34 =>
  stC (a1.add 1) (.int .i64 0) h34 fun h35 =>
  stC (a1.add 2) (.string (⟨#[]⟩ : ByteArray)) h35 fun h36 =>
  stC (a1.add 3) (.string (⟨#[]⟩ : ByteArray)) h36 fun h37 =>
  stC (a1.add 4) (.slice none 0 0) h37 fun h38 =>
  stC (a1.add 5) (.slice none 0 0) h38 fun h39 =>
  stC (a1.add 6) (.int .i64 0) h39 fun h40 =>
  stC (a1.add 7) (.bool false) h40 fun h41 =>
  stC (a1.add 8) (.bool false) h41 fun h42 =>
  ldI .i64 a1 h42 fun n43 =>
  ldI .i64 (a1.add 1) h42 fun n44 =>
  ldS (a1.add 2) h42 fun s45 =>
  ldS (a1.add 3) h42 fun s46 =>
  ldL (a1.add 4) h42 fun o47 l47 c47 =>
  ldL (a1.add 5) h42 fun o48 l48 c48 =>
  ldI .i64 (a1.add 6) h42 fun n49 =>
  ldB (a1.add 7) h42 fun b50 =>
  ldB (a1.add 8) h42 fun b51 =>
  R (n43, n44, s45, s46, (⟨o47, l47, c47⟩ : Sl), (⟨o48, l48, c48⟩ : Sl), n49, b50, b51) h42) (
  ldI .i64 (a4.add 1) h13 fun n52 =>
  ldS a8 h13 fun s53 =>
  ldS (a8.add 1) h13 fun s54 =>
  ldL (a8.add 2) h13 fun o55 l55 c55 =>
  ldL (a8.add 3) h13 fun o56 l56 c56 =>
  newB [.int .i64 0, .int .i64 0, .string (⟨#[]⟩ : ByteArray), .string (⟨#[]⟩ : ByteArray), .slice none 0 0, .slice none 0 0, .int .i64 0, .bool false, .bool false] 29 h13 fun a57 h58 =>
  (ldS a8 h58 fun s59 =>
  ldS (a8.add 1) h58 fun s60 =>
  ldL (a8.add 2) h58 fun o61 l61 c61 =>
  ldL (a8.add 3) h58 fun o62 l62 c62 =>
  (.agg #[.string s59, .string s60, .slice o61 l61 c61, .slice o62 l62 c62] : Value) = .agg #[.string s53, .string s54, .slice o55 l55 c55, .slice o56 l56 c56]) ∧
  (ldI .i64 (a4.add 1) h58 fun n63 =>
  (.int .i64 n63 : Value) = .int .i64 n52) ∧
  stC a57 (.int .i64 2) h58 fun h64 =>
  stC (a57.add 1) (.int .i64 n52) h64 fun h65 =>
  stC (a57.add 2) (.string s53) h65 fun h66 =>
  stC (a57.add 3) (.string s54) h66 fun h67 =>
  stC (a57.add 4) (.slice o55 l55 c55) h67 fun h68 =>
  stC (a57.add 5) (.slice o56 l56 c56) h68 fun h69 =>
  stC (a57.add 6) (.int .i64 0) h69 fun h70 =>
  stC (a57.add 7) (.bool false) h70 fun h71 =>
  stC (a57.add 8) (.bool false) h71 fun h72 =>
  ldL (a8.add 2) h72 fun o73 l73 c73 =>
  CallT Try.prog http_All_no [.slice o73 l73 c73, .string (⟨#[99, 111, 110, 110, 101, 99, 116, 105, 111, 110]⟩ : ByteArray)] h72 [.sc (.sl)] fun (r74 : Sl) h75 =>
  LoopT (σ := Int) (fun X77 s76 h78 => -- s76: t47
  cnd (decide (s76 < (r74.len : Int))) (
  idx r74.a r74.len s76 fun a79 =>
  ldS (a79.add (s76.toNat * 1)) h78 fun s80 =>
  CallT Try.prog chars_Split_no [.string s80, .int .u8 44] h78 [.sc (.sl)] fun (r81 : Sl) h82 =>
  LoopT (σ := Int) (fun X84 s83 h85 => -- s83: t54
  cnd (decide (s83 < (r81.len : Int))) (
  withJ (σ := Unit) (fun s86 h88 => -- s86: 
  X84 (w64 (s83 + 1)) h88) (fun J87 =>
  idx r81.a r81.len s83 fun a89 =>
  ldS (a89.add (s83.toNat * 1)) h85 fun s90 =>
  ldB (a57.add 7) h85 fun b91 =>
  cnd b91 (
  stC (a57.add 7) (.bool true) h85 fun h92 =>
  J87 () h92) (
  CallT Try.prog chars_Trim_no [.string s90] h85 [.sc (.str)] fun (r93 : ByteArray) h94 =>
  CallT Try.prog chars_Lower_no [.string r93] h94 [.sc (.str)] fun (r95 : ByteArray) h96 =>
  stC (a57.add 7) (.bool (seq r95 (⟨#[99, 108, 111, 115, 101]⟩ : ByteArray))) h96 fun h97 =>
  J87 () h97))) (
  X77 (w64 (s76 + 1)) h85)) 0 h82) (
  ldL (a8.add 2) h78 fun o98 l98 c98 =>
  CallT Try.prog http_Get_no [.slice o98 l98 c98, .string (⟨#[101, 120, 112, 101, 99, 116]⟩ : ByteArray)] h78 [.sc (.str), .sc (.bool)] fun (r99 : ByteArray × Bool) h100 =>
  withJ (σ := Unit) (fun s101 h103 => -- s101: 
  ldI .i64 a57 h103 fun n104 =>
  ldI .i64 (a57.add 1) h103 fun n105 =>
  ldS (a57.add 2) h103 fun s106 =>
  ldS (a57.add 3) h103 fun s107 =>
  ldL (a57.add 4) h103 fun o108 l108 c108 =>
  ldL (a57.add 5) h103 fun o109 l109 c109 =>
  ldI .i64 (a57.add 6) h103 fun n110 =>
  ldB (a57.add 7) h103 fun b111 =>
  ldB (a57.add 8) h103 fun b112 =>
  stC a1 (.int .i64 n104) h103 fun h113 =>
  stC (a1.add 1) (.int .i64 n105) h113 fun h114 =>
  stC (a1.add 2) (.string s106) h114 fun h115 =>
  stC (a1.add 3) (.string s107) h115 fun h116 =>
  stC (a1.add 4) (.slice o108 l108 c108) h116 fun h117 =>
  stC (a1.add 5) (.slice o109 l109 c109) h117 fun h118 =>
  stC (a1.add 6) (.int .i64 n110) h118 fun h119 =>
  stC (a1.add 7) (.bool b111) h119 fun h120 =>
  stC (a1.add 8) (.bool b112) h120 fun h121 =>
  ldI .i64 a1 h121 fun n122 =>
  ldI .i64 (a1.add 1) h121 fun n123 =>
  ldS (a1.add 2) h121 fun s124 =>
  ldS (a1.add 3) h121 fun s125 =>
  ldL (a1.add 4) h121 fun o126 l126 c126 =>
  ldL (a1.add 5) h121 fun o127 l127 c127 =>
  ldI .i64 (a1.add 6) h121 fun n128 =>
  ldB (a1.add 7) h121 fun b129 =>
  ldB (a1.add 8) h121 fun b130 =>
  R (n122, n123, s124, s125, (⟨o126, l126, c126⟩ : Sl), (⟨o127, l127, c127⟩ : Sl), n128, b129, b130) h121) (fun J102 =>
  cnd r99.2 (
  ldL (a8.add 3) h100 fun o131 l131 c131 =>
  stC (a57.add 8) (.bool (decide ((l131 : Int) > 0))) h100 fun h132 =>
  J102 () h132) (
  stC (a57.add 8) (.bool false) h100 fun h133 =>
  J102 () h133)))) 0 h75))
theorem http_Parse_eq (x_0 : Sl) (R : (Int × Int × ByteArray × ByteArray × Sl × Sl × Int × Bool × Bool) → Heap → Prop) (h : Heap) : fnX Try.prog Fns.fns Try.f12 (.s .n (.s .n (.s .n (.s (.b (.s .n (.s (.s .n .n) (.s .n (.s (.s .n .n) .n))))) (.s .n (.s (.s .n (.b (.l [(47, .int .i64)] (.s .n (.s (.s .n .n) (.s (.b (.s .n (.s .n (.b (.l [(54, .int .i64)] (.s .n (.s (.s .n .n) (.j [] (.b (.s .n .n)) .n)))))))) .n)))))) (.s .n (.j [] .n (.s .n .n))))))))) [.agg [.int .i64, .int .i64, .str, .str, .sl, .sl, .int .i64, .bool, .bool]] [.slice x_0.a x_0.len x_0.cap] h R = http_Parse x_0 R h := by kernel_rfl
theorem http_Parse_call (x_0 : Sl) {R : (Int × Int × ByteArray × ByteArray × Sl × Sl × Int × Bool × Bool) → Heap → Prop} {h : Heap} (hx : http_Parse x_0 R h) : CallT Try.prog 12 [.slice x_0.a x_0.len x_0.cap] h [.agg [.int .i64, .int .i64, .str, .str, .sl, .sl, .int .i64, .bool, .bool]] R :=
  call_of_fnX fnsOk mixed Try.func12 (by kernel_rfl) (by rw [http_Parse_eq]; exact hx)

/-- stowage/http.Query (17) -/
def http_Query (target_0 : ByteArray) (R : ByteArray × Sl → Heap → Prop) (h : Heap) : Prop :=
  CallT Try.prog strings_Cut_no [.string target_0, .string (⟨#[63]⟩ : ByteArray)] h [.sc (.str), .sc (.str), .sc (.bool)] fun (r1 : ByteArray × ByteArray × Bool) h2 =>
  CallT Try.prog chars_Split_no [.string r1.2.1, .int .u8 38] h2 [.sc (.sl)] fun (r3 : Sl) h4 =>
  LoopT (σ := Sl × Int) (fun X6 s5 h7 => -- s5: l, t20
  cnd (decide (s5.2 < (r3.len : Int))) (
  withJ (σ := Sl) (fun s8 h10 => -- s8: l
  X6 (s8, (w64 (s5.2 + 1))) h10) (fun J9 =>
  idx r3.a r3.len s5.2 fun a11 =>
  ldS (a11.add (s5.2.toNat * 1)) h7 fun s12 =>
  cnd (!seq s12 (⟨#[]⟩ : ByteArray)) (
  CallT Try.prog strings_Cut_no [.string s12, .string (⟨#[61]⟩ : ByteArray)] h7 [.sc (.str), .sc (.str), .sc (.bool)] fun (r13 : ByteArray × ByteArray × Bool) h14 =>
  newB [.string r13.1, .string r13.2.1] 37 h14 fun a15 h16 =>
  ldRow (1 * 2) a15 h16 fun cs20 =>
  app [.string (⟨#[]⟩ : ByteArray), .string (⟨#[]⟩ : ByteArray)] 37 2 32 s5.1.a s5.1.len s5.1.cap cs20 1 h16 fun o17 c18 h19 =>
  J9 (⟨o17, (s5.1.len + 1), c18⟩ : Sl) h19) (
  J9 s5.1 h7))) (
  lsl 2 s5.1.a s5.1.cap 0 (s5.1.len : Int) (s5.1.len : Int) fun o21 l21 c21 =>
  R (r1.1, (⟨o21, l21, c21⟩ : Sl)) h7)) ((⟨none, 0, 0⟩ : Sl), 0) h4
theorem http_Query_eq (target_0 : ByteArray) (R : ByteArray × Sl → Heap → Prop) (h : Heap) : fnX Try.prog Fns.fns Try.f17 (.s .n (.s .n (.s (.s .n (.b (.l [(3, .sl), (20, .int .i64)] (.s .n (.s (.s .n .n) (.j [(3, .sl)] (.b (.s .n (.s .n (.s (.s .n .n) .n)))) .n)))))) (.s .n .n)))) [.sc (.str), .sc (.sl)] [.string target_0] h R = http_Query target_0 R h := by kernel_rfl
theorem http_Query_call (target_0 : ByteArray) {R : ByteArray × Sl → Heap → Prop} {h : Heap} (hx : http_Query target_0 R h) : CallT Try.prog 17 [.string target_0] h [.sc (.str), .sc (.sl)] R :=
  call_of_fnX fnsOk mixed Try.func17 (by kernel_rfl) (by rw [http_Query_eq]; exact hx)

/-- stowage/http.Get (19) -/
def http_Get (l_0 : Sl) (name_1 : ByteArray) (R : ByteArray × Bool → Heap → Prop) (h : Heap) : Prop :=
  LoopT (σ := Int) (fun X2 s1 h3 => -- s1: t10
  cnd (decide (s1 < (l_0.len : Int))) (
  idx l_0.a l_0.len s1 fun a4 =>
  ldS (a4.add (s1.toNat * 2)) h3 fun s5 =>
  ldS ((a4.add (s1.toNat * 2)).add 1) h3 fun s6 =>
  newB [.string (⟨#[]⟩ : ByteArray), .string (⟨#[]⟩ : ByteArray)] 37 h3 fun a7 h8 =>
  stC a7 (.string s5) h8 fun h9 =>
  stC (a7.add 1) (.string s6) h9 fun h10 =>
  ldS a7 h10 fun s11 =>
  cnd (seq s11 name_1) (
  ldS (a7.add 1) h10 fun s12 =>
  R (s12, true) h10) (
  X2 (w64 (s1 + 1)) h10)) (
  R ((⟨#[]⟩ : ByteArray), false) h3)) 0 h
theorem http_Get_eq (l_0 : Sl) (name_1 : ByteArray) (R : ByteArray × Bool → Heap → Prop) (h : Heap) : fnX Try.prog Fns.fns Try.f19 (.s .n (.s (.s .n (.b (.l [(10, .int .i64)] (.s .n (.s (.s .n .n) (.s (.b (.s .n (.s .n (.s (.s .n .n) .n)))) .n)))))) (.s .n .n))) [.sc (.str), .sc (.bool)] [.slice l_0.a l_0.len l_0.cap, .string name_1] h R = http_Get l_0 name_1 R h := by kernel_rfl
theorem http_Get_call (l_0 : Sl) (name_1 : ByteArray) {R : ByteArray × Bool → Heap → Prop} {h : Heap} (hx : http_Get l_0 name_1 R h) : CallT Try.prog 19 [.slice l_0.a l_0.len l_0.cap, .string name_1] h [.sc (.str), .sc (.bool)] R :=
  call_of_fnX fnsOk mixed Try.func19 (by kernel_rfl) (by rw [http_Get_eq]; exact hx)

/-- stowage/http.All (21) -/
def http_All (l_0 : Sl) (name_1 : ByteArray) (R : Sl → Heap → Prop) (h : Heap) : Prop :=
  LoopT (σ := Sl × Int) (fun X2 s1 h3 => -- s1: out, t10
  cnd (decide (s1.2 < (l_0.len : Int))) (
  withJ (σ := Sl) (fun s4 h6 => -- s4: out
  X2 (s4, (w64 (s1.2 + 1))) h6) (fun J5 =>
  idx l_0.a l_0.len s1.2 fun a7 =>
  ldS (a7.add (s1.2.toNat * 2)) h3 fun s8 =>
  ldS ((a7.add (s1.2.toNat * 2)).add 1) h3 fun s9 =>
  newB [.string (⟨#[]⟩ : ByteArray), .string (⟨#[]⟩ : ByteArray)] 37 h3 fun a10 h11 =>
  stC a10 (.string s8) h11 fun h12 =>
  stC (a10.add 1) (.string s9) h12 fun h13 =>
  ldS a10 h13 fun s14 =>
  cnd (seq s14 name_1) (
  ldS (a10.add 1) h13 fun s15 =>
  newB [.string s15] 9 h13 fun a16 h17 =>
  ldRow (1 * 1) a16 h17 fun cs21 =>
  app [.string (⟨#[]⟩ : ByteArray)] 9 1 16 s1.1.a s1.1.len s1.1.cap cs21 1 h17 fun o18 c19 h20 =>
  J5 (⟨o18, (s1.1.len + 1), c19⟩ : Sl) h20) (
  J5 s1.1 h13))) (
  lsl 1 s1.1.a s1.1.cap 0 (s1.1.len : Int) (s1.1.len : Int) fun o22 l22 c22 =>
  R (⟨o22, l22, c22⟩ : Sl) h3)) ((⟨none, 0, 0⟩ : Sl), 0) h
theorem http_All_eq (l_0 : Sl) (name_1 : ByteArray) (R : Sl → Heap → Prop) (h : Heap) : fnX Try.prog Fns.fns Try.f21 (.s .n (.s .n (.s (.s .n (.b (.l [(5, .sl), (10, .int .i64)] (.s .n (.s (.s .n .n) (.j [(5, .sl)] (.b (.s .n (.s .n (.s .n .n)))) .n)))))) (.s .n .n)))) [.sc (.sl)] [.slice l_0.a l_0.len l_0.cap, .string name_1] h R = http_All l_0 name_1 R h := by kernel_rfl
theorem http_All_call (l_0 : Sl) (name_1 : ByteArray) {R : Sl → Heap → Prop} {h : Heap} (hx : http_All l_0 name_1 R h) : CallT Try.prog 21 [.slice l_0.a l_0.len l_0.cap, .string name_1] h [.sc (.sl)] R :=
  call_of_fnX fnsOk mixed Try.func21 (by kernel_rfl) (by rw [http_All_eq]; exact hx)

/-- stowage/http.Print (23) -/
def http_Print (r_0 : ByteArray × ByteArray × Sl × Sl) (R : Sl → Heap → Prop) (h : Heap) : Prop :=
  newB [.string r_0.1, .string r_0.2.1, .slice r_0.2.2.1.a r_0.2.2.1.len r_0.2.2.1.cap, .slice r_0.2.2.2.a r_0.2.2.2.len r_0.2.2.2.cap] 26 h fun a1 h2 =>
  newB [.pointer none, .slice none 0 0] 78 h2 fun a3 h4 =>
  ldS a1 h4 fun s5 =>
  ((s5.size + (⟨#[32]⟩ : ByteArray).size : Nat) : Int) ≤ 9223372036854775807 ∧
  ldS (a1.add 1) h4 fun s6 =>
  (((s5 ++ (⟨#[32]⟩ : ByteArray)).size + s6.size : Nat) : Int) ≤ 9223372036854775807 ∧
  ((((s5 ++ (⟨#[32]⟩ : ByteArray)) ++ s6).size + (⟨#[32, 72, 84, 84, 80, 47, 49, 46, 49, 13, 10]⟩ : ByteArray).size : Nat) : Int) ≤ 9223372036854775807 ∧
  CallT Try.prog strings_Builder_WriteString_no [.pointer (some a3), .string (((s5 ++ (⟨#[32]⟩ : ByteArray)) ++ s6) ++ (⟨#[32, 72, 84, 84, 80, 47, 49, 46, 49, 13, 10]⟩ : ByteArray))] h4 [.sc (.int .i64), .sc (.raw)] fun (r7 : Int × Value) h8 =>
  ldL (a1.add 2) h8 fun o9 l9 c9 =>
  LoopT (σ := Int) (fun X11 s10 h12 => -- s10: t17
  cnd (decide (s10 < (l9 : Int))) (
  idx o9 l9 s10 fun a13 =>
  ldS (a13.add (s10.toNat * 2)) h12 fun s14 =>
  ldS ((a13.add (s10.toNat * 2)).add 1) h12 fun s15 =>
  newB [.string (⟨#[]⟩ : ByteArray), .string (⟨#[]⟩ : ByteArray)] 37 h12 fun a16 h17 =>
  stC a16 (.string s14) h17 fun h18 =>
  stC (a16.add 1) (.string s15) h18 fun h19 =>
  ldS a16 h19 fun s20 =>
  ((s20.size + (⟨#[58, 32]⟩ : ByteArray).size : Nat) : Int) ≤ 9223372036854775807 ∧
  ldS (a16.add 1) h19 fun s21 =>
  (((s20 ++ (⟨#[58, 32]⟩ : ByteArray)).size + s21.size : Nat) : Int) ≤ 9223372036854775807 ∧
  ((((s20 ++ (⟨#[58, 32]⟩ : ByteArray)) ++ s21).size + (⟨#[13, 10]⟩ : ByteArray).size : Nat) : Int) ≤ 9223372036854775807 ∧
  CallT Try.prog strings_Builder_WriteString_no [.pointer (some a3), .string (((s20 ++ (⟨#[58, 32]⟩ : ByteArray)) ++ s21) ++ (⟨#[13, 10]⟩ : ByteArray))] h19 [.sc (.int .i64), .sc (.raw)] fun (r22 : Int × Value) h23 =>
  X11 (w64 (s10 + 1)) h23) (
  CallT Try.prog strings_Builder_WriteString_no [.pointer (some a3), .string (⟨#[13, 10]⟩ : ByteArray)] h12 [.sc (.int .i64), .sc (.raw)] fun (r24 : Int × Value) h25 =>
  ldL (a1.add 3) h25 fun o26 l26 c26 =>
  CallT Try.prog strings_Builder_Write_no [.pointer (some a3), .slice o26 l26 c26] h25 [.sc (.int .i64), .sc (.raw)] fun (r27 : Int × Value) h28 =>
  CallT Try.prog strings_Builder_String_no [.pointer (some a3)] h28 [.sc (.str)] fun (r29 : ByteArray) h30 =>
  s2b r29 5 h30 fun a31 c32 h33 =>
  R (⟨(some a31), r29.size, c32⟩ : Sl) h33)) 0 h8
theorem http_Print_eq (r_0 : ByteArray × ByteArray × Sl × Sl) (R : Sl → Heap → Prop) (h : Heap) : fnX Try.prog Fns.fns Try.f23 (.s .n (.s .n (.s .n (.s (.s .n (.b (.l [(17, .int .i64)] (.s .n (.s (.s .n .n) (.s (.b (.s .n .n)) .n)))))) (.s .n (.s .n (.s .n .n))))))) [.sc (.sl)] [.agg #[.string r_0.1, .string r_0.2.1, .slice r_0.2.2.1.a r_0.2.2.1.len r_0.2.2.1.cap, .slice r_0.2.2.2.a r_0.2.2.2.len r_0.2.2.2.cap]] h R = http_Print r_0 R h := by kernel_rfl
theorem http_Print_call (r_0 : ByteArray × ByteArray × Sl × Sl) {R : Sl → Heap → Prop} {h : Heap} (hx : http_Print r_0 R h) : CallT Try.prog 23 [.agg #[.string r_0.1, .string r_0.2.1, .slice r_0.2.2.1.a r_0.2.2.1.len r_0.2.2.1.cap, .slice r_0.2.2.2.a r_0.2.2.2.len r_0.2.2.2.cap]] h [.sc (.sl)] R :=
  call_of_fnX fnsOk mixed Try.func23 (by kernel_rfl) (by rw [http_Print_eq]; exact hx)

/-- (*stowage/http.reader).request (24) -/
def http_reader_request (x_0 : Option Addr) (R : (ByteArray × ByteArray × Sl × Sl) × Bool → Heap → Prop) (h : Heap) : Prop :=
  newB [.string (⟨#[]⟩ : ByteArray), .string (⟨#[]⟩ : ByteArray), .slice none 0 0, .slice none 0 0] 26 h fun a1 h2 =>
  CallT Try.prog http_reader_begin_no [.pointer x_0] h2 [.sc (.str), .sc (.str), .sc (.bool)] fun (r3 : ByteArray × ByteArray × Bool) h4 =>
  stC a1 (.string r3.1) h4 fun h5 =>
  stC (a1.add 1) (.string r3.2.1) h5 fun h6 =>
  cnd (!r3.2.2) (
  ldS a1 h6 fun s7 =>
  ldS (a1.add 1) h6 fun s8 =>
  ldL (a1.add 2) h6 fun o9 l9 c9 =>
  ldL (a1.add 3) h6 fun o10 l10 c10 =>
  stC a1 (.string s7) h6 fun h11 =>
  stC (a1.add 1) (.string s8) h11 fun h12 =>
  stC (a1.add 2) (.slice o9 l9 c9) h12 fun h13 =>
  stC (a1.add 3) (.slice o10 l10 c10) h13 fun h14 =>
  ldS a1 h14 fun s15 =>
  ldS (a1.add 1) h14 fun s16 =>
  ldL (a1.add 2) h14 fun o17 l17 c17 =>
  ldL (a1.add 3) h14 fun o18 l18 c18 =>
  R ((s15, s16, (⟨o17, l17, c17⟩ : Sl), (⟨o18, l18, c18⟩ : Sl)), false) h14) (
  CallT Try.prog http_reader_headers_no [.pointer x_0] h6 [.sc (.sl), .sc (.bool)] fun (r19 : Sl × Bool) h20 =>
  stC (a1.add 2) (.slice r19.1.a r19.1.len r19.1.cap) h20 fun h21 =>
  cnd (!r19.2) (
  ldS a1 h21 fun s22 =>
  ldS (a1.add 1) h21 fun s23 =>
  ldL (a1.add 2) h21 fun o24 l24 c24 =>
  ldL (a1.add 3) h21 fun o25 l25 c25 =>
  stC a1 (.string s22) h21 fun h26 =>
  stC (a1.add 1) (.string s23) h26 fun h27 =>
  stC (a1.add 2) (.slice o24 l24 c24) h27 fun h28 =>
  stC (a1.add 3) (.slice o25 l25 c25) h28 fun h29 =>
  ldS a1 h29 fun s30 =>
  ldS (a1.add 1) h29 fun s31 =>
  ldL (a1.add 2) h29 fun o32 l32 c32 =>
  ldL (a1.add 3) h29 fun o33 l33 c33 =>
  R ((s30, s31, (⟨o32, l32, c32⟩ : Sl), (⟨o33, l33, c33⟩ : Sl)), false) h29) (
  ldL (a1.add 2) h21 fun o34 l34 c34 =>
  CallT Try.prog http_check_no [.slice o34 l34 c34] h21 [.sc (.int .i64), .sc (.int .i64)] fun (r35 : Int × Int) h36 =>
  cnd (r35.2 != 0) (
  nn x_0 fun a37 =>
  stC (a37.add 4) (.int .i64 r35.2) h36 fun h38 =>
  ldS a1 h38 fun s39 =>
  ldS (a1.add 1) h38 fun s40 =>
  ldL (a1.add 2) h38 fun o41 l41 c41 =>
  ldL (a1.add 3) h38 fun o42 l42 c42 =>
  stC a1 (.string s39) h38 fun h43 =>
  stC (a1.add 1) (.string s40) h43 fun h44 =>
  stC (a1.add 2) (.slice o41 l41 c41) h44 fun h45 =>
  stC (a1.add 3) (.slice o42 l42 c42) h45 fun h46 =>
  ldS a1 h46 fun s47 =>
  ldS (a1.add 1) h46 fun s48 =>
  ldL (a1.add 2) h46 fun o49 l49 c49 =>
  ldL (a1.add 3) h46 fun o50 l50 c50 =>
  R ((s47, s48, (⟨o49, l49, c49⟩ : Sl), (⟨o50, l50, c50⟩ : Sl)), false) h46) (
  cnd (decide (r35.1 < 0)) (
  CallT Try.prog http_reader_pieces_no [.pointer x_0] h36 [.sc (.sl), .sc (.bool)] fun (r51 : Sl × Bool) h52 =>
  stC (a1.add 3) (.slice r51.1.a r51.1.len r51.1.cap) h52 fun h53 =>
  ldS a1 h53 fun s54 =>
  ldS (a1.add 1) h53 fun s55 =>
  ldL (a1.add 2) h53 fun o56 l56 c56 =>
  ldL (a1.add 3) h53 fun o57 l57 c57 =>
  stC a1 (.string s54) h53 fun h58 =>
  stC (a1.add 1) (.string s55) h58 fun h59 =>
  stC (a1.add 2) (.slice o56 l56 c56) h59 fun h60 =>
  stC (a1.add 3) (.slice o57 l57 c57) h60 fun h61 =>
  ldS a1 h61 fun s62 =>
  ldS (a1.add 1) h61 fun s63 =>
  ldL (a1.add 2) h61 fun o64 l64 c64 =>
  ldL (a1.add 3) h61 fun o65 l65 c65 =>
  R ((s62, s63, (⟨o64, l64, c64⟩ : Sl), (⟨o65, l65, c65⟩ : Sl)), r51.2) h61) (
  nn x_0 fun a66 =>
  ldS a66 h36 fun s67 =>
  nn x_0 fun a68 =>
  ldI .i64 (a68.add 1) h36 fun n69 =>
  cnd (decide ((w64 ((s67.size : Int) - n69)) < r35.1)) (
  ldS a1 h36 fun s70 =>
  ldS (a1.add 1) h36 fun s71 =>
  ldL (a1.add 2) h36 fun o72 l72 c72 =>
  ldL (a1.add 3) h36 fun o73 l73 c73 =>
  stC a1 (.string s70) h36 fun h74 =>
  stC (a1.add 1) (.string s71) h74 fun h75 =>
  stC (a1.add 2) (.slice o72 l72 c72) h75 fun h76 =>
  stC (a1.add 3) (.slice o73 l73 c73) h76 fun h77 =>
  ldS a1 h77 fun s78 =>
  ldS (a1.add 1) h77 fun s79 =>
  ldL (a1.add 2) h77 fun o80 l80 c80 =>
  ldL (a1.add 3) h77 fun o81 l81 c81 =>
  R ((s78, s79, (⟨o80, l80, c80⟩ : Sl), (⟨o81, l81, c81⟩ : Sl)), false) h77) (
  nn x_0 fun a82 =>
  ldS a82 h36 fun s83 =>
  nn x_0 fun a84 =>
  ldI .i64 (a84.add 1) h36 fun n85 =>
  nn x_0 fun a86 =>
  ldI .i64 (a86.add 1) h36 fun n87 =>
  ssl s83 n85 (w64 (n87 + r35.1)) fun s88 =>
  s2b s88 5 h36 fun a89 c90 h91 =>
  stC (a1.add 3) (.slice (some a89) s88.size c90) h91 fun h92 =>
  nn x_0 fun a93 =>
  ldI .i64 (a93.add 1) h92 fun n94 =>
  nn x_0 fun a95 =>
  stC (a95.add 1) (.int .i64 (w64 (n94 + r35.1))) h92 fun h96 =>
  ldS a1 h96 fun s97 =>
  ldS (a1.add 1) h96 fun s98 =>
  ldL (a1.add 2) h96 fun o99 l99 c99 =>
  ldL (a1.add 3) h96 fun o100 l100 c100 =>
  stC a1 (.string s97) h96 fun h101 =>
  stC (a1.add 1) (.string s98) h101 fun h102 =>
  stC (a1.add 2) (.slice o99 l99 c99) h102 fun h103 =>
  stC (a1.add 3) (.slice o100 l100 c100) h103 fun h104 =>
  ldS a1 h104 fun s105 =>
  ldS (a1.add 1) h104 fun s106 =>
  ldL (a1.add 2) h104 fun o107 l107 c107 =>
  ldL (a1.add 3) h104 fun o108 l108 c108 =>
  R ((s105, s106, (⟨o107, l107, c107⟩ : Sl), (⟨o108, l108, c108⟩ : Sl)), true) h104)))))
theorem http_reader_request_eq (x_0 : Option Addr) (R : (ByteArray × ByteArray × Sl × Sl) × Bool → Heap → Prop) (h : Heap) : fnX Try.prog Fns.fns Try.f24 (.s .n (.s (.s .n (.s .n (.s (.s .n .n) .n))) (.s (.s .n (.s .n (.s (.s .n .n) .n))) (.s .n (.s (.s .n (.s (.s .n (.s .n .n)) .n)) (.s (.s .n (.s (.s .n (.s .n .n)) .n)) (.s (.s .n (.s (.s .n .n) .n)) (.s .n (.s .n (.s .n .n)))))))))) [.agg [.str, .str, .sl, .sl], .sc (.bool)] [.pointer x_0] h R = http_reader_request x_0 R h := by kernel_rfl
theorem http_reader_request_call (x_0 : Option Addr) {R : (ByteArray × ByteArray × Sl × Sl) × Bool → Heap → Prop} {h : Heap} (hx : http_reader_request x_0 R h) : CallT Try.prog 24 [.pointer x_0] h [.agg [.str, .str, .sl, .sl], .sc (.bool)] R :=
  call_of_fnX fnsOk mixed Try.func24 (by kernel_rfl) (by rw [http_reader_request_eq]; exact hx)

/-- stowage/chars.Split (25) -/
def chars_Split (s_0 : ByteArray) (sep_1 : Int) (R : Sl → Heap → Prop) (h : Heap) : Prop :=
  LoopT (σ := Sl × Int × Int) (fun X2 s1 h3 => -- s1: out, from, t10
  cnd (decide (s1.2.2 < (s_0.size : Int))) (
  withJ (σ := Sl × Int) (fun s4 h6 => -- s4: out, from
  X2 (s4.1, s4.2, (w64 (s1.2.2 + 1))) h6) (fun J5 =>
  sidx s_0 s1.2.2 fun u7 =>
  cnd ((u7.toNat : Int) == sep_1) (
  ssl s_0 s1.2.1 s1.2.2 fun s8 =>
  newB [.string s8] 9 h3 fun a9 h10 =>
  ldRow (1 * 1) a9 h10 fun cs14 =>
  app [.string (⟨#[]⟩ : ByteArray)] 9 1 16 s1.1.a s1.1.len s1.1.cap cs14 1 h10 fun o11 c12 h13 =>
  J5 ((⟨o11, (s1.1.len + 1), c12⟩ : Sl), (w64 (s1.2.2 + 1))) h13) (
  J5 (s1.1, s1.2.1) h3))) (
  ssl s_0 s1.2.1 (s_0.size : Int) fun s15 =>
  newB [.string s15] 9 h3 fun a16 h17 =>
  ldRow (1 * 1) a16 h17 fun cs21 =>
  app [.string (⟨#[]⟩ : ByteArray)] 9 1 16 s1.1.a s1.1.len s1.1.cap cs21 1 h17 fun o18 c19 h20 =>
  lsl 1 o18 c19 0 ((s1.1.len + 1) : Int) ((s1.1.len + 1) : Int) fun o22 l22 c22 =>
  R (⟨o22, l22, c22⟩ : Sl) h20)) ((⟨none, 0, 0⟩ : Sl), 0, 0) h
theorem chars_Split_eq (s_0 : ByteArray) (sep_1 : Int) (R : Sl → Heap → Prop) (h : Heap) : fnX Try.prog Fns.fns Try.f25 (.s .n (.s .n (.s .n (.s (.s .n (.b (.l [(5, .sl), (6, .int .i64), (10, .int .i64)] (.s .n (.s (.s .n .n) (.j [(5, .sl), (6, .int .i64)] (.b (.s .n (.s .n (.s (.s .n .n) .n)))) .n)))))) (.s .n (.s .n .n)))))) [.sc (.sl)] [.string s_0, .int .u8 sep_1] h R = chars_Split s_0 sep_1 R h := by kernel_rfl
theorem chars_Split_call (s_0 : ByteArray) (sep_1 : Int) {R : Sl → Heap → Prop} {h : Heap} (hx : chars_Split s_0 sep_1 R h) : CallT Try.prog 25 [.string s_0, .int .u8 sep_1] h [.sc (.sl)] R :=
  call_of_fnX fnsOk mixed Try.func25 (by kernel_rfl) (by rw [chars_Split_eq]; exact hx)

/-- stowage/chars.Lower (26) -/
def chars_Lower (s_0 : ByteArray) (R : ByteArray → Heap → Prop) (h : Heap) : Prop :=
  s2b s_0 5 h fun a1 c2 h3 =>
  LoopT (σ := Int) (fun X5 s4 h6 => -- s4: t10
  cnd (decide (s4 < (s_0.size : Int))) (
  withJ (σ := Unit) (fun s7 h9 => -- s7: 
  X5 (w64 (s4 + 1)) h9) (fun J8 =>
  idx (some a1) s_0.size s4 fun a10 =>
  ldI .u8 (a10.add (s4.toNat * 1)) h6 fun n11 =>
  withJ (σ := Bool) (fun s12 h14 => -- s12: t20
  cnd s12 (
  idx (some a1) s_0.size s4 fun a15 =>
  stC (a15.add (s4.toNat * 1)) (.int .u8 (IntKind.u8.wrap (n11 + 32))) h14 fun h16 =>
  J8 () h16) (
  J8 () h14)) (fun J13 =>
  cnd (decide (n11 ≥ 65)) (
  J13 (decide (n11 ≤ 90)) h6) (
  J13 false h6)))) (
  b2s (some a1) s_0.size h6 fun s17 =>
  R s17 h6)) 0 h3
theorem chars_Lower_eq (s_0 : ByteArray) (R : ByteArray → Heap → Prop) (h : Heap) : fnX Try.prog Fns.fns Try.f26 (.s .n (.s .n (.s (.s .n (.b (.l [(10, .int .i64)] (.s .n (.s (.s .n .n) (.j [] (.b (.s .n (.j [(20, .bool)] .n (.s .n .n)))) .n)))))) (.s .n .n)))) [.sc (.str)] [.string s_0] h R = chars_Lower s_0 R h := by kernel_rfl
theorem chars_Lower_call (s_0 : ByteArray) {R : ByteArray → Heap → Prop} {h : Heap} (hx : chars_Lower s_0 R h) : CallT Try.prog 26 [.string s_0] h [.sc (.str)] R :=
  call_of_fnX fnsOk mixed Try.func26 (by kernel_rfl) (by rw [chars_Lower_eq]; exact hx)

/-- stowage/chars.Trim (27) -/
def chars_Trim (s_0 : ByteArray) (R : ByteArray → Heap → Prop) (h : Heap) : Prop :=
  LoopT (σ := ByteArray) (fun X2 s1 h3 => -- s1: s
  withJ (σ := ByteArray × Int × Bool) (fun s4 h6 => -- s4: t6, t7, t8
  ssl s1 1 (s1.size : Int) fun s7 =>
  X2 s7 h6) (fun J5 =>
  cnd (!seq s1 (⟨#[]⟩ : ByteArray)) (
  sidx s1 0 fun u8 =>
  CallT Try.prog chars_blank_no [.int .u8 (u8.toNat : Int)] h3 [.sc (.bool)] fun (r9 : Bool) h10 =>
  cnd r9 (
  J5 (s1, (u8.toNat : Int), r9) h10) (
  LoopT (σ := ByteArray) (fun X12 s11 h13 => -- s11: s
  withJ (σ := ByteArray × ByteArray × Int × Int × Int × Bool) (fun s14 h16 => -- s14: t15, t16, t17, t18, t19, t20
  ssl s11 0 (w64 ((s11.size : Int) - 1)) fun s17 =>
  X12 s17 h16) (fun J15 =>
  cnd (!seq s11 (⟨#[]⟩ : ByteArray)) (
  sidx s11 (w64 ((s11.size : Int) - 1)) fun u18 =>
  CallT Try.prog chars_blank_no [.int .u8 (u18.toNat : Int)] h13 [.sc (.bool)] fun (r19 : Bool) h20 =>
  cnd r19 (
  J15 (s11, s11, (s11.size : Int), (w64 ((s11.size : Int) - 1)), (u18.toNat : Int), r19) h20) (
  R s11 h20)) (
  R s11 h13))) s1 h10)) (
  LoopT (σ := ByteArray) (fun X22 s21 h23 => -- s21: s
  withJ (σ := ByteArray × ByteArray × Int × Int × Int × Bool) (fun s24 h26 => -- s24: t15, t16, t17, t18, t19, t20
  ssl s21 0 (w64 ((s21.size : Int) - 1)) fun s27 =>
  X22 s27 h26) (fun J25 =>
  cnd (!seq s21 (⟨#[]⟩ : ByteArray)) (
  sidx s21 (w64 ((s21.size : Int) - 1)) fun u28 =>
  CallT Try.prog chars_blank_no [.int .u8 (u28.toNat : Int)] h23 [.sc (.bool)] fun (r29 : Bool) h30 =>
  cnd r29 (
  J25 (s21, s21, (s21.size : Int), (w64 ((s21.size : Int) - 1)), (u28.toNat : Int), r29) h30) (
  R s21 h30)) (
  R s21 h23))) s1 h3))) s_0 h
theorem chars_Trim_eq (s_0 : ByteArray) (R : ByteArray → Heap → Prop) (h : Heap) : fnX Try.prog Fns.fns Try.f27 (.s .n (.s (.b (.l [(0, .str)] (.j [(6, .str), (7, .int .u8), (8, .bool)] (.s .n (.s .n .n)) (.b .n)))) (.s (.b (.l [(0, .str)] (.j [(15, .str), (16, .str), (17, .int .i64), (18, .int .i64), (19, .int .u8), (20, .bool)] (.s .n (.s .n .n)) (.b .n)))) (.s .n .n)))) [.sc (.str)] [.string s_0] h R = chars_Trim s_0 R h := by kernel_rfl
theorem chars_Trim_call (s_0 : ByteArray) {R : ByteArray → Heap → Prop} {h : Heap} (hx : chars_Trim s_0 R h) : CallT Try.prog 27 [.string s_0] h [.sc (.str)] R :=
  call_of_fnX fnsOk mixed Try.func27 (by kernel_rfl) (by rw [chars_Trim_eq]; exact hx)

/-- (*stowage/http.reader).begin (40) -/
def http_reader_begin (x_0 : Option Addr) (R : ByteArray × ByteArray × Bool → Heap → Prop) (h : Heap) : Prop :=
  CallT Try.prog http_reader_line_no [.pointer x_0, .int .i64 8192, .int .i64 338] h [.sc (.str), .sc (.bool)] fun (r1 : ByteArray × Bool) h2 =>
  cnd (!r1.2) (
  R ((⟨#[]⟩ : ByteArray), (⟨#[]⟩ : ByteArray), false) h2) (
  CallT Try.prog chars_Split_no [.string r1.1, .int .u8 32] h2 [.sc (.sl)] fun (r3 : Sl) h4 =>
  withJ (σ := Unit) (fun s5 h7 => -- s5: 
  idx r3.a r3.len 2 fun a8 =>
  ldS (a8.add ((2 : Int).toNat * 1)) h7 fun s9 =>
  CallT Try.prog http_version_no [.string s9] h7 [.sc (.int .i64)] fun (r10 : Int) h11 =>
  nn x_0 fun a12 =>
  stC (a12.add 4) (.int .i64 r10) h11 fun h13 =>
  withJ (σ := Unit) (fun s14 h16 => -- s14: 
  idx r3.a r3.len 0 fun a17 =>
  ldS (a17.add ((0 : Int).toNat * 1)) h16 fun s18 =>
  idx r3.a r3.len 1 fun a19 =>
  ldS (a19.add ((1 : Int).toNat * 1)) h16 fun s20 =>
  nn x_0 fun a21 =>
  ldI .i64 (a21.add 4) h16 fun n22 =>
  R (s18, s20, (n22 == 0)) h16) (fun J15 =>
  withJ (σ := Bool) (fun s23 h25 => -- s23: t67
  cnd s23 (
  nn x_0 fun a26 =>
  stC (a26.add 4) (.int .i64 331) h25 fun h27 =>
  J15 () h27) (
  J15 () h25)) (fun J24 =>
  nn x_0 fun a28 =>
  ldI .i64 (a28.add 4) h13 fun n29 =>
  cnd (n29 == 0) (
  idx r3.a r3.len 1 fun a30 =>
  ldS (a30.add ((1 : Int).toNat * 1)) h13 fun s31 =>
  sidx s31 0 fun u32 =>
  cnd ((u32.toNat : Int) != 47) (
  idx r3.a r3.len 1 fun a33 =>
  ldS (a33.add ((1 : Int).toNat * 1)) h13 fun s34 =>
  J24 (!seq s34 (⟨#[42]⟩ : ByteArray)) h13) (
  J24 false h13)) (
  J24 false h13)))) (fun J6 =>
  withJ (σ := Bool) (fun s35 h37 => -- s35: t39
  cnd s35 (
  nn x_0 fun a38 =>
  stC (a38.add 4) (.int .i64 308) h37 fun h39 =>
  R ((⟨#[]⟩ : ByteArray), (⟨#[]⟩ : ByteArray), false) h39) (
  J6 () h37)) (fun J36 =>
  cnd ((r3.len : Int) != 3) (
  J36 true h4) (
  idx r3.a r3.len 0 fun a40 =>
  ldS (a40.add ((0 : Int).toNat * 1)) h4 fun s41 =>
  CallT Try.prog chars_Token_no [.string s41] h4 [.sc (.bool)] fun (r42 : Bool) h43 =>
  cnd (!r42) (
  J36 true h43) (
  idx r3.a r3.len 0 fun a44 =>
  ldS (a44.add ((0 : Int).toNat * 1)) h43 fun s45 =>
  cnd (decide ((s45.size : Int) > 16)) (
  J36 true h43) (
  idx r3.a r3.len 1 fun a46 =>
  ldS (a46.add ((1 : Int).toNat * 1)) h43 fun s47 =>
  CallT Try.prog http_target_no [.string s47] h43 [.sc (.bool)] fun (r48 : Bool) h49 =>
  J36 (!r48) h49))))))
theorem http_reader_begin_eq (x_0 : Option Addr) (R : ByteArray × ByteArray × Bool → Heap → Prop) (h : Heap) : fnX Try.prog Fns.fns Try.f40 (.s .n (.s .n (.s (.s .n (.s (.s .n .n) .n)) (.s .n (.j [] (.j [(39, .bool)] .n (.s (.s .n (.s .n .n)) .n)) (.s .n (.j [] (.j [(67, .bool)] .n (.s .n .n)) (.s .n .n)))))))) [.sc (.str), .sc (.str), .sc (.bool)] [.pointer x_0] h R = http_reader_begin x_0 R h := by kernel_rfl
theorem http_reader_begin_call (x_0 : Option Addr) {R : ByteArray × ByteArray × Bool → Heap → Prop} {h : Heap} (hx : http_reader_begin x_0 R h) : CallT Try.prog 40 [.pointer x_0] h [.sc (.str), .sc (.str), .sc (.bool)] R :=
  call_of_fnX fnsOk mixed Try.func40 (by kernel_rfl) (by rw [http_reader_begin_eq]; exact hx)

/-- (*stowage/http.reader).headers (41) -/
def http_reader_headers (x_0 : Option Addr) (R : Sl × Bool → Heap → Prop) (h : Heap) : Prop :=
  withJ (σ := Unit) (fun s1 h3 => -- s1: 
  R ((⟨none, 0, 0⟩ : Sl), false) h3) (fun J2 =>
  LoopT (σ := Sl) (fun X5 s4 h6 => -- s4: t2
  nn x_0 fun a7 =>
  ldS a7 h6 fun s8 =>
  nn x_0 fun a9 =>
  ldI .i64 (a9.add 1) h6 fun n10 =>
  ssl s8 n10 (s8.size : Int) fun s11 =>
  CallT Try.prog strings_Index_no [.string s11, .string (⟨#[13, 10]⟩ : ByteArray)] h6 [.sc (.int .i64)] fun (r12 : Int) h13 =>
  withJ (σ := Sl) (fun s14 h16 => -- s14: t2
  ssl s11 0 r12 fun s17 =>
  CallT Try.prog strings_Cut_no [.string s17, .string (⟨#[58]⟩ : ByteArray)] h16 [.sc (.str), .sc (.str), .sc (.bool)] fun (r18 : ByteArray × ByteArray × Bool) h19 =>
  withJ (σ := Unit) (fun s20 h22 => -- s20: 
  nn x_0 fun a23 =>
  ldI .i64 (a23.add 1) h22 fun n24 =>
  nn x_0 fun a25 =>
  stC (a25.add 1) (.int .i64 (w64 (n24 + (w64 (r12 + 2))))) h22 fun h26 =>
  nn x_0 fun a27 =>
  ldI .i64 (a27.add 2) h26 fun n28 =>
  nn x_0 fun a29 =>
  stC (a29.add 2) (.int .i64 (w64 (n28 + 1))) h26 fun h30 =>
  CallT Try.prog chars_Lower_no [.string r18.1] h30 [.sc (.str)] fun (r31 : ByteArray) h32 =>
  CallT Try.prog chars_Trim_no [.string r18.2.1] h32 [.sc (.str)] fun (r33 : ByteArray) h34 =>
  newB [.string r31, .string r33] 37 h34 fun a35 h36 =>
  ldRow (1 * 2) a35 h36 fun cs40 =>
  app [.string (⟨#[]⟩ : ByteArray), .string (⟨#[]⟩ : ByteArray)] 37 2 32 s14.a s14.len s14.cap cs40 1 h36 fun o37 c38 h39 =>
  X5 (⟨o37, (s14.len + 1), c38⟩ : Sl) h39) (fun J21 =>
  withJ (σ := Bool) (fun s41 h43 => -- s41: t111
  cnd s41 (
  nn x_0 fun a44 =>
  stC (a44.add 4) (.int .i64 308) h43 fun h45 =>
  J2 () h45) (
  J21 () h43)) (fun J42 =>
  CallT Try.prog strings_ContainsAny_no [.string s17, .string (⟨#[13, 10]⟩ : ByteArray)] h19 [.sc (.bool)] fun (r46 : Bool) h47 =>
  cnd r46 (
  J42 true h47) (
  cnd (!r18.2.2) (
  J42 true h47) (
  CallT Try.prog chars_Token_no [.string r18.1] h47 [.sc (.bool)] fun (r48 : Bool) h49 =>
  cnd (!r48) (
  J42 true h49) (
  CallT Try.prog chars_Value_no [.string r18.2.1] h49 [.sc (.bool)] fun (r50 : Bool) h51 =>
  J42 (!r50) h51)))))) (fun J15 =>
  withJ (σ := Bool) (fun s52 h54 => -- s52: t21
  cnd s52 (
  nn x_0 fun a55 =>
  stC (a55.add 4) (.int .i64 339) h54 fun h56 =>
  J2 () h56) (
  cnd (decide (r12 < 0)) (
  J2 () h54) (
  cnd (r12 == 0) (
  nn x_0 fun a57 =>
  ldI .i64 (a57.add 1) h54 fun n58 =>
  nn x_0 fun a59 =>
  stC (a59.add 1) (.int .i64 (w64 (n58 + 2))) h54 fun h60 =>
  lsl 2 s4.a s4.cap 0 (s4.len : Int) (s4.len : Int) fun o61 l61 c61 =>
  R ((⟨o61, l61, c61⟩ : Sl), true) h60) (
  J15 s4 h54)))) (fun J53 =>
  withJ (σ := Bool) (fun s62 h64 => -- s62: t21
  cnd s62 (
  J53 s62 h64) (
  withJ (σ := Bool) (fun s65 h67 => -- s65: t21
  cnd s65 (
  J53 s65 h67) (
  cnd (decide (r12 > 0)) (
  nn x_0 fun a68 =>
  ldI .i64 (a68.add 2) h67 fun n69 =>
  J53 (n69 == 100) h67) (
  J53 false h67))) (fun J66 =>
  cnd (decide (r12 ≥ 0)) (
  nn x_0 fun a70 =>
  ldI .i64 (a70.add 1) h64 fun n71 =>
  nn x_0 fun a72 =>
  ldI .i64 (a72.add 3) h64 fun n73 =>
  J66 (decide ((w64 ((w64 ((w64 (n71 - n73)) + r12)) + 2)) > 65536)) h64) (
  J66 false h64)))) (fun J63 =>
  cnd (decide (r12 < 0)) (
  nn x_0 fun a74 =>
  ldI .i64 (a74.add 1) h13 fun n75 =>
  nn x_0 fun a76 =>
  ldI .i64 (a76.add 3) h13 fun n77 =>
  J63 (decide ((w64 ((w64 (n75 - n77)) + (s11.size : Int))) > 65536)) h13) (
  J63 false h13))))) (⟨none, 0, 0⟩ : Sl) h)
theorem http_reader_headers_eq (x_0 : Option Addr) (R : Sl × Bool → Heap → Prop) (h : Heap) : fnX Try.prog Fns.fns Try.f41 (.s .n (.b (.s .n (.j [] (.b (.l [(2, .sl)] (.b (.s .n (.s .n (.j [(2, .sl)] (.b (.j [(21, .bool)] (.j [(21, .bool)] .n (.s .n (.j [(21, .bool)] .n (.s .n .n)))) (.s (.s .n .n) (.s .n (.s .n (.s .n (.s (.s .n (.s .n .n)) .n))))))) (.s .n (.s .n (.j [] (.j [(111, .bool)] .n (.s (.s .n .n) .n)) (.s .n (.s .n .n))))))))))) (.s .n .n))))) [.sc (.sl), .sc (.bool)] [.pointer x_0] h R = http_reader_headers x_0 R h := by kernel_rfl
theorem http_reader_headers_call (x_0 : Option Addr) {R : Sl × Bool → Heap → Prop} {h : Heap} (hx : http_reader_headers x_0 R h) : CallT Try.prog 41 [.pointer x_0] h [.sc (.sl), .sc (.bool)] R :=
  call_of_fnX fnsOk mixed Try.func41 (by kernel_rfl) (by rw [http_reader_headers_eq]; exact hx)

/-- stowage/http.check (42) -/
def http_check (x_0 : Sl) (R : Int × Int → Heap → Prop) (h : Heap) : Prop :=
  CallT Try.prog http_All_no [.slice x_0.a x_0.len x_0.cap, .string (⟨#[116, 114, 97, 110, 115, 102, 101, 114, 45, 101, 110, 99, 111, 100, 105, 110, 103]⟩ : ByteArray)] h [.sc (.sl)] fun (r1 : Sl) h2 =>
  CallT Try.prog http_All_no [.slice x_0.a x_0.len x_0.cap, .string (⟨#[99, 111, 110, 116, 101, 110, 116, 45, 108, 101, 110, 103, 116, 104]⟩ : ByteArray)] h2 [.sc (.sl)] fun (r3 : Sl) h4 =>
  withJ (σ := Int) (fun s5 h7 => -- s5: t6
  withJ (σ := Unit) (fun s8 h10 => -- s8: 
  cnd ((r1.len : Int) == 1) (
  R ((-1), 0) h10) (
  R (s5, 0) h10)) (fun J9 =>
  CallT Try.prog http_Get_no [.slice x_0.a x_0.len x_0.cap, .string (⟨#[101, 120, 112, 101, 99, 116]⟩ : ByteArray)] h7 [.sc (.str), .sc (.bool)] fun (r11 : ByteArray × Bool) h12 =>
  withJ (σ := Bool) (fun s13 h15 => -- s13: t73
  cnd s13 (
  R (0, 337) h15) (
  J9 () h15)) (fun J14 =>
  cnd r11.2 (
  CallT Try.prog chars_Lower_no [.string r11.1] h12 [.sc (.str)] fun (r16 : ByteArray) h17 =>
  J14 (!seq r16 (⟨#[49, 48, 48, 45, 99, 111, 110, 116, 105, 110, 117, 101]⟩ : ByteArray)) h17) (
  J14 false h12)))) (fun J6 =>
  withJ (σ := Bool) (fun s18 h20 => -- s18: t15
  cnd s18 (
  R (0, 308) h20) (
  withJ (σ := Bool) (fun s21 h23 => -- s21: t31
  cnd s21 (
  R (0, 335) h23) (
  cnd (decide ((r3.len : Int) > 0)) (
  idx r3.a r3.len 0 fun a24 =>
  ldS (a24.add ((0 : Int).toNat * 1)) h23 fun s25 =>
  CallT Try.prog enc_Int_no [.string s25] h23 [.sc (.int .i64), .sc (.bool)] fun (r26 : Int × Bool) h27 =>
  withJ (σ := Unit) (fun s28 h30 => -- s28: 
  cnd (decide (r26.1 > 1048576)) (
  R (0, 324) h30) (
  J6 r26.1 h30)) (fun J29 =>
  withJ (σ := Bool) (fun s31 h33 => -- s31: t59
  cnd s31 (
  R (0, 308) h33) (
  J29 () h33)) (fun J32 =>
  cnd (!r26.2) (
  J32 true h27) (
  J32 (decide ((r3.len : Int) > 1)) h27)))) (
  J6 0 h23))) (fun J22 =>
  cnd ((r1.len : Int) == 1) (
  idx r1.a r1.len 0 fun a34 =>
  ldS (a34.add ((0 : Int).toNat * 1)) h20 fun s35 =>
  CallT Try.prog chars_Lower_no [.string s35] h20 [.sc (.str)] fun (r36 : ByteArray) h37 =>
  J22 (!seq r36 (⟨#[99, 104, 117, 110, 107, 101, 100]⟩ : ByteArray)) h37) (
  J22 false h20)))) (fun J19 =>
  CallT Try.prog http_All_no [.slice x_0.a x_0.len x_0.cap, .string (⟨#[104, 111, 115, 116]⟩ : ByteArray)] h4 [.sc (.sl)] fun (r38 : Sl) h39 =>
  cnd ((r38.len : Int) != 1) (
  J19 ((r38.len : Int) != 1) h39) (
  withJ (σ := Bool) (fun s40 h42 => -- s40: t15
  cnd s40 (
  J19 s40 h42) (
  J19 (decide ((r1.len : Int) > 1)) h42)) (fun J41 =>
  cnd (decide ((r1.len : Int) > 0)) (
  J41 (decide ((r3.len : Int) > 0)) h39) (
  J41 false h39)))))
theorem http_check_eq (x_0 : Sl) (R : Int × Int → Heap → Prop) (h : Heap) : fnX Try.prog Fns.fns Try.f42 (.s .n (.s .n (.s .n (.j [(6, .int .i64)] (.b (.j [(15, .bool)] (.s .n (.s .n (.j [(15, .bool)] .n (.s .n .n)))) (.s (.s .n .n) (.j [(31, .bool)] .n (.s (.s .n .n) (.s .n (.s (.s .n (.j [] (.j [(59, .bool)] .n (.s (.s .n .n) .n)) (.s (.s .n (.s (.s .n .n) .n)) .n))) .n))))))) (.j [] (.s .n (.j [(73, .bool)] .n (.s (.s .n .n) .n))) (.s (.s .n (.s (.s .n .n) .n)) (.s .n .n))))))) [.sc (.int .i64), .sc (.int .i64)] [.slice x_0.a x_0.len x_0.cap] h R = http_check x_0 R h := by kernel_rfl
theorem http_check_call (x_0 : Sl) {R : Int × Int → Heap → Prop} {h : Heap} (hx : http_check x_0 R h) : CallT Try.prog 42 [.slice x_0.a x_0.len x_0.cap] h [.sc (.int .i64), .sc (.int .i64)] R :=
  call_of_fnX fnsOk mixed Try.func42 (by kernel_rfl) (by rw [http_check_eq]; exact hx)

/-- (*stowage/http.reader).pieces (43) -/
def http_reader_pieces (x_0 : Option Addr) (R : Sl × Bool → Heap → Prop) (h : Heap) : Prop :=
  LoopT (σ := Sl) (fun X2 s1 h3 => -- s1: t2
  nn x_0 fun a4 =>
  ldI .i64 (a4.add 1) h3 fun n5 =>
  CallT Try.prog http_reader_line_no [.pointer x_0, .int .i64 256, .int .i64 308] h3 [.sc (.str), .sc (.bool)] fun (r6 : ByteArray × Bool) h7 =>
  cnd (!r6.2) (
  R ((⟨none, 0, 0⟩ : Sl), false) h7) (
  CallT Try.prog http_size_no [.string r6.1] h7 [.sc (.int .i64), .sc (.bool)] fun (r8 : Int × Bool) h9 =>
  cnd (!r8.2) (
  nn x_0 fun a10 =>
  stC (a10.add 4) (.int .i64 308) h9 fun h11 =>
  R ((⟨none, 0, 0⟩ : Sl), false) h11) (
  cnd (decide (r8.1 > (w64 (1048576 - (s1.len : Int))))) (
  nn x_0 fun a12 =>
  stC (a12.add 4) (.int .i64 324) h9 fun h13 =>
  R ((⟨none, 0, 0⟩ : Sl), false) h13) (
  cnd (r8.1 == 0) (
  nn x_0 fun a14 =>
  ldI .i64 (a14.add 3) h9 fun n15 =>
  nn x_0 fun a16 =>
  ldI .i64 (a16.add 1) h9 fun n17 =>
  nn x_0 fun a18 =>
  stC (a18.add 3) (.int .i64 (w64 (n15 + (w64 (n17 - n5))))) h9 fun h19 =>
  CallT Try.prog http_reader_headers_no [.pointer x_0] h19 [.sc (.sl), .sc (.bool)] fun (r20 : Sl × Bool) h21 =>
  R (s1, r20.2) h21) (
  nn x_0 fun a22 =>
  ldS a22 h9 fun s23 =>
  nn x_0 fun a24 =>
  ldI .i64 (a24.add 1) h9 fun n25 =>
  ssl s23 n25 (s23.size : Int) fun s26 =>
  withJ (σ := Sl) (fun s27 h29 => -- s27: t2
  cnd (decide ((s26.size : Int) < (w64 (r8.1 + 2)))) (
  R ((⟨none, 0, 0⟩ : Sl), false) h29) (
  ssl s26 0 r8.1 fun s30 =>
  app [.int .u8 0] 5 1 1 s27.a s27.len s27.cap (bytesV s30) s30.size h29 fun o31 c32 h33 =>
  nn x_0 fun a34 =>
  ldI .i64 (a34.add 1) h33 fun n35 =>
  nn x_0 fun a36 =>
  stC (a36.add 1) (.int .i64 (w64 (n35 + (w64 (r8.1 + 2))))) h33 fun h37 =>
  nn x_0 fun a38 =>
  ldI .i64 (a38.add 3) h37 fun n39 =>
  nn x_0 fun a40 =>
  ldI .i64 (a40.add 1) h37 fun n41 =>
  nn x_0 fun a42 =>
  stC (a42.add 3) (.int .i64 (w64 (n39 + (w64 (n41 - n5))))) h37 fun h43 =>
  X2 (⟨o31, (s27.len + s30.size), c32⟩ : Sl) h43)) (fun J28 =>
  withJ (σ := Bool) (fun s44 h46 => -- s44: t97
  cnd s44 (
  nn x_0 fun a47 =>
  stC (a47.add 4) (.int .i64 308) h46 fun h48 =>
  R ((⟨none, 0, 0⟩ : Sl), false) h48) (
  J28 s1 h46)) (fun J45 =>
  cnd (decide ((s26.size : Int) > r8.1)) (
  sidx s26 r8.1 fun u49 =>
  cnd ((u49.toNat : Int) != 13) (
  J45 true h9) (
  cnd (decide ((s26.size : Int) > (w64 (r8.1 + 1)))) (
  sidx s26 (w64 (r8.1 + 1)) fun u50 =>
  J45 ((u50.toNat : Int) != 10) h9) (
  J45 false h9))) (
  cnd (decide ((s26.size : Int) > (w64 (r8.1 + 1)))) (
  sidx s26 (w64 (r8.1 + 1)) fun u51 =>
  J45 ((u51.toNat : Int) != 10) h9) (
  J45 false h9))))))))) (⟨none, 0, 0⟩ : Sl) h
theorem http_reader_pieces_eq (x_0 : Option Addr) (R : Sl × Bool → Heap → Prop) (h : Heap) : fnX Try.prog Fns.fns Try.f43 (.s .n (.b (.l [(2, .sl)] (.b (.s .n (.s .n (.s (.s .n (.s (.s .n .n) .n)) (.s .n (.s (.b (.s .n (.s (.s .n (.s .n .n)) (.s .n (.s (.s .n (.s .n .n)) (.s .n (.s (.s .n (.s .n (.s .n .n))) .n))))))) (.s .n (.j [(2, .sl)] (.j [(97, .bool)] .n (.s (.s .n (.s .n .n)) .n)) (.s (.s .n (.s (.s .n .n) .n)) (.s .n (.s .n .n)))))))))))))) [.sc (.sl), .sc (.bool)] [.pointer x_0] h R = http_reader_pieces x_0 R h := by kernel_rfl
theorem http_reader_pieces_call (x_0 : Option Addr) {R : Sl × Bool → Heap → Prop} {h : Heap} (hx : http_reader_pieces x_0 R h) : CallT Try.prog 43 [.pointer x_0] h [.sc (.sl), .sc (.bool)] R :=
  call_of_fnX fnsOk mixed Try.func43 (by kernel_rfl) (by rw [http_reader_pieces_eq]; exact hx)

/-- stowage/chars.blank (44) -/
def chars_blank (c_0 : Int) (R : Bool → Heap → Prop) (h : Heap) : Prop :=
  withJ (σ := Bool) (fun s1 h3 => -- s1: t2
  R s1 h3) (fun J2 =>
  cnd (c_0 == 32) (
  J2 true h) (
  J2 (c_0 == 9) h))
theorem chars_blank_eq (c_0 : Int) (R : Bool → Heap → Prop) (h : Heap) : fnX Try.prog Fns.fns Try.f44 (.s .n (.j [(2, .bool)] .n .n)) [.sc (.bool)] [.int .u8 c_0] h R = chars_blank c_0 R h := by kernel_rfl
theorem chars_blank_call (c_0 : Int) {R : Bool → Heap → Prop} {h : Heap} (hx : chars_blank c_0 R h) : CallT Try.prog 44 [.int .u8 c_0] h [.sc (.bool)] R :=
  call_of_fnX fnsOk mixed Try.func44 (by kernel_rfl) (by rw [chars_blank_eq]; exact hx)

/-- (*stowage/http.reader).line (55) -/
def http_reader_line (r_0 : Option Addr) (bound_1 : Int) (long_2 : Int) (R : ByteArray × Bool → Heap → Prop) (h : Heap) : Prop :=
  nn r_0 fun a1 =>
  ldS a1 h fun s2 =>
  nn r_0 fun a3 =>
  ldI .i64 (a3.add 1) h fun n4 =>
  ssl s2 n4 (s2.size : Int) fun s5 =>
  CallT Try.prog strings_Index_no [.string s5, .string (⟨#[13, 10]⟩ : ByteArray)] h [.sc (.int .i64)] fun (r6 : Int) h7 =>
  withJ (σ := Unit) (fun s8 h10 => -- s8: 
  cnd (decide (r6 < 0)) (
  R ((⟨#[]⟩ : ByteArray), false) h10) (
  nn r_0 fun a11 =>
  ldI .i64 (a11.add 1) h10 fun n12 =>
  nn r_0 fun a13 =>
  stC (a13.add 1) (.int .i64 (w64 (n12 + (w64 (r6 + 2))))) h10 fun h14 =>
  ssl s5 0 r6 fun s15 =>
  CallT Try.prog strings_ContainsAny_no [.string s15, .string (⟨#[13, 10]⟩ : ByteArray)] h14 [.sc (.bool)] fun (r16 : Bool) h17 =>
  cnd r16 (
  nn r_0 fun a18 =>
  stC (a18.add 4) (.int .i64 308) h17 fun h19 =>
  R ((⟨#[]⟩ : ByteArray), false) h19) (
  ssl s5 0 r6 fun s20 =>
  R (s20, true) h17))) (fun J9 =>
  withJ (σ := Bool) (fun s21 h23 => -- s21: t34
  cnd s21 (
  nn r_0 fun a24 =>
  stC (a24.add 4) (.int .i64 long_2) h23 fun h25 =>
  R ((⟨#[]⟩ : ByteArray), false) h25) (
  J9 () h23)) (fun J22 =>
  cnd (decide (r6 > bound_1)) (
  J22 true h7) (
  cnd (decide (r6 < 0)) (
  J22 (decide ((s5.size : Int) ≥ (w64 (bound_1 + 2)))) h7) (
  J22 false h7))))
theorem http_reader_line_eq (r_0 : Option Addr) (bound_1 : Int) (long_2 : Int) (R : ByteArray × Bool → Heap → Prop) (h : Heap) : fnX Try.prog Fns.fns Try.f55 (.s .n (.s .n (.s .n (.j [] (.j [(34, .bool)] .n (.s (.s .n (.s .n .n)) .n)) (.s (.s .n (.s (.s .n .n) .n)) (.s .n (.s (.s .n (.s (.s .n (.s .n .n)) .n)) (.s .n .n)))))))) [.sc (.str), .sc (.bool)] [.pointer r_0, .int .i64 bound_1, .int .i64 long_2] h R = http_reader_line r_0 bound_1 long_2 R h := by kernel_rfl
theorem http_reader_line_call (r_0 : Option Addr) (bound_1 : Int) (long_2 : Int) {R : ByteArray × Bool → Heap → Prop} {h : Heap} (hx : http_reader_line r_0 bound_1 long_2 R h) : CallT Try.prog 55 [.pointer r_0, .int .i64 bound_1, .int .i64 long_2] h [.sc (.str), .sc (.bool)] R :=
  call_of_fnX fnsOk mixed Try.func55 (by kernel_rfl) (by rw [http_reader_line_eq]; exact hx)

/-- stowage/chars.Token (56) -/
def chars_Token (s_0 : ByteArray) (R : Bool → Heap → Prop) (h : Heap) : Prop :=
  LoopT (σ := Int) (fun X2 s1 h3 => -- s1: t6
  cnd (decide (s1 < (s_0.size : Int))) (
  withJ (σ := Unit) (fun s4 h6 => -- s4: 
  X2 (w64 (s1 + 1)) h6) (fun J5 =>
  withJ (σ := Bool) (fun s7 h9 => -- s7: t20
  cnd s7 (
  R false h9) (
  J5 () h9)) (fun J8 =>
  sidx s_0 s1 fun u10 =>
  CallT Try.prog chars_letter_no [.int .u8 (u10.toNat : Int)] h3 [.sc (.bool)] fun (r11 : Bool) h12 =>
  cnd (!r11) (
  sidx s_0 s1 fun u13 =>
  CallT Try.prog strings_IndexByte_no [.string (⟨#[33, 35, 36, 37, 38, 39, 42, 43, 45, 46, 94, 95, 96, 124, 126]⟩ : ByteArray), .int .u8 (u13.toNat : Int)] h12 [.sc (.int .i64)] fun (r14 : Int) h15 =>
  J8 (decide (r14 < 0)) h15) (
  J8 false h12)))) (
  R (!seq s_0 (⟨#[]⟩ : ByteArray)) h3)) 0 h
theorem chars_Token_eq (s_0 : ByteArray) (R : Bool → Heap → Prop) (h : Heap) : fnX Try.prog Fns.fns Try.f56 (.s .n (.s (.s .n (.b (.l [(6, .int .i64)] (.s .n (.s (.s .n .n) (.j [] (.b (.s .n (.j [(20, .bool)] .n (.s (.s .n .n) .n)))) .n)))))) (.s .n .n))) [.sc (.bool)] [.string s_0] h R = chars_Token s_0 R h := by kernel_rfl
theorem chars_Token_call (s_0 : ByteArray) {R : Bool → Heap → Prop} {h : Heap} (hx : chars_Token s_0 R h) : CallT Try.prog 56 [.string s_0] h [.sc (.bool)] R :=
  call_of_fnX fnsOk mixed Try.func56 (by kernel_rfl) (by rw [chars_Token_eq]; exact hx)

/-- stowage/http.target (57) -/
def http_target (s_0 : ByteArray) (R : Bool → Heap → Prop) (h : Heap) : Prop :=
  LoopT (σ := Int) (fun X2 s1 h3 => -- s1: t6
  cnd (decide (s1 < (s_0.size : Int))) (
  withJ (σ := Unit) (fun s4 h6 => -- s4: 
  X2 (w64 (s1 + 1)) h6) (fun J5 =>
  withJ (σ := Bool) (fun s7 h9 => -- s7: t18
  cnd s7 (
  R false h9) (
  J5 () h9)) (fun J8 =>
  sidx s_0 s1 fun u10 =>
  cnd (decide ((u10.toNat : Int) < 33)) (
  J8 true h3) (
  sidx s_0 s1 fun u11 =>
  J8 (decide ((u11.toNat : Int) > 126)) h3)))) (
  R (!seq s_0 (⟨#[]⟩ : ByteArray)) h3)) 0 h
theorem http_target_eq (s_0 : ByteArray) (R : Bool → Heap → Prop) (h : Heap) : fnX Try.prog Fns.fns Try.f57 (.s .n (.s (.s .n (.b (.l [(6, .int .i64)] (.s .n (.s (.s .n .n) (.j [] (.b (.s .n (.j [(18, .bool)] .n (.s (.s .n .n) .n)))) .n)))))) (.s .n .n))) [.sc (.bool)] [.string s_0] h R = http_target s_0 R h := by kernel_rfl
theorem http_target_call (s_0 : ByteArray) {R : Bool → Heap → Prop} {h : Heap} (hx : http_target s_0 R h) : CallT Try.prog 57 [.string s_0] h [.sc (.bool)] R :=
  call_of_fnX fnsOk mixed Try.func57 (by kernel_rfl) (by rw [http_target_eq]; exact hx)

/-- stowage/http.version (58) -/
def http_version (s_0 : ByteArray) (R : Int → Heap → Prop) (h : Heap) : Prop :=
  withJ (σ := Unit) (fun s1 h3 => -- s1: 
  cnd (!seq s_0 (⟨#[72, 84, 84, 80, 47, 49, 46, 49]⟩ : ByteArray)) (
  R 340 h3) (
  R 0 h3)) (fun J2 =>
  withJ (σ := Bool) (fun s4 h6 => -- s4: t30
  cnd s4 (
  R 308 h6) (
  J2 () h6)) (fun J5 =>
  cnd ((s_0.size : Int) != 8) (
  J5 true h) (
  ssl s_0 0 5 fun s7 =>
  cnd (!seq s7 (⟨#[72, 84, 84, 80, 47]⟩ : ByteArray)) (
  J5 true h) (
  sidx s_0 5 fun u8 =>
  CallT Try.prog http_version_1_no [.int .u8 (u8.toNat : Int)] h [.sc (.bool)] fun (r9 : Bool) h10 =>
  cnd (!r9) (
  J5 true h10) (
  sidx s_0 6 fun u11 =>
  cnd ((u11.toNat : Int) != 46) (
  J5 true h10) (
  sidx s_0 7 fun u12 =>
  CallT Try.prog http_version_1_no [.int .u8 (u12.toNat : Int)] h10 [.sc (.bool)] fun (r13 : Bool) h14 =>
  J5 (!r13) h14))))))
theorem http_version_eq (s_0 : ByteArray) (R : Int → Heap → Prop) (h : Heap) : fnX Try.prog Fns.fns Try.f58 (.s .n (.s .n (.j [] (.j [(30, .bool)] .n (.s (.s .n .n) .n)) (.s (.s .n (.s (.s .n .n) .n)) (.s .n .n))))) [.sc (.int .i64)] [.string s_0] h R = http_version s_0 R h := by kernel_rfl
theorem http_version_call (s_0 : ByteArray) {R : Int → Heap → Prop} {h : Heap} (hx : http_version s_0 R h) : CallT Try.prog 58 [.string s_0] h [.sc (.int .i64)] R :=
  call_of_fnX fnsOk mixed Try.func58 (by kernel_rfl) (by rw [http_version_eq]; exact hx)

/-- stowage/chars.Value (61) -/
def chars_Value (s_0 : ByteArray) (R : Bool → Heap → Prop) (h : Heap) : Prop :=
  LoopT (σ := Int) (fun X2 s1 h3 => -- s1: t6
  cnd (decide (s1 < (s_0.size : Int))) (
  withJ (σ := Unit) (fun s4 h6 => -- s4: 
  X2 (w64 (s1 + 1)) h6) (fun J5 =>
  withJ (σ := Bool) (fun s7 h9 => -- s7: t24
  cnd s7 (
  R false h9) (
  J5 () h9)) (fun J8 =>
  sidx s_0 s1 fun u10 =>
  cnd (decide ((u10.toNat : Int) < 32)) (
  sidx s_0 s1 fun u11 =>
  cnd ((u11.toNat : Int) != 9) (
  J8 true h3) (
  sidx s_0 s1 fun u12 =>
  J8 ((u12.toNat : Int) == 127) h3)) (
  sidx s_0 s1 fun u13 =>
  J8 ((u13.toNat : Int) == 127) h3)))) (
  R true h3)) 0 h
theorem chars_Value_eq (s_0 : ByteArray) (R : Bool → Heap → Prop) (h : Heap) : fnX Try.prog Fns.fns Try.f61 (.s .n (.s (.s .n (.b (.l [(6, .int .i64)] (.s .n (.s (.s .n .n) (.j [] (.b (.s .n (.j [(24, .bool)] .n (.s (.s .n .n) .n)))) .n)))))) (.s .n .n))) [.sc (.bool)] [.string s_0] h R = chars_Value s_0 R h := by kernel_rfl
theorem chars_Value_call (s_0 : ByteArray) {R : Bool → Heap → Prop} {h : Heap} (hx : chars_Value s_0 R h) : CallT Try.prog 61 [.string s_0] h [.sc (.bool)] R :=
  call_of_fnX fnsOk mixed Try.func61 (by kernel_rfl) (by rw [chars_Value_eq]; exact hx)

/-- stowage/enc.Int (62) -/
def enc_Int (s_0 : ByteArray) (R : Int × Bool → Heap → Prop) (h : Heap) : Prop :=
  withJ (σ := Unit) (fun s1 h3 => -- s1: 
  LoopT (σ := Int × Int) (fun X5 s4 h6 => -- s4: n, t26
  cnd (decide (s4.2 < (s_0.size : Int))) (
  withJ (σ := Int) (fun s7 h9 => -- s7: n
  X5 (s7, (w64 (s4.2 + 1))) h9) (fun J8 =>
  withJ (σ := Unit) (fun s10 h12 => -- s10: 
  sidx s_0 s4.2 fun u13 =>
  J8 (w64 ((w64 (10 * s4.1)) + (w64 ((IntKind.u8.wrap ((u13.toNat : Int) - 48)))))) h12) (fun J11 =>
  withJ (σ := Bool) (fun s14 h16 => -- s14: t38
  cnd s14 (
  R (0, false) h16) (
  J11 () h16)) (fun J15 =>
  sidx s_0 s4.2 fun u17 =>
  cnd (decide ((u17.toNat : Int) < 48)) (
  J15 true h6) (
  sidx s_0 s4.2 fun u18 =>
  J15 (decide ((u18.toNat : Int) > 57)) h6))))) (
  R (s4.1, true) h6)) (0, 0) h3) (fun J2 =>
  withJ (σ := Bool) (fun s19 h21 => -- s19: t23
  cnd s19 (
  R (0, false) h21) (
  J2 () h21)) (fun J20 =>
  cnd (decide ((s_0.size : Int) < 1)) (
  J20 true h) (
  cnd (decide ((s_0.size : Int) > 18)) (
  J20 true h) (
  cnd (decide ((s_0.size : Int) > 1)) (
  sidx s_0 0 fun u22 =>
  J20 ((u22.toNat : Int) == 48) h) (
  J20 false h)))))
theorem enc_Int_eq (s_0 : ByteArray) (R : Int × Bool → Heap → Prop) (h : Heap) : fnX Try.prog Fns.fns Try.f62 (.s .n (.j [] (.j [(23, .bool)] .n (.s (.s .n .n) .n)) (.s .n (.s (.s .n (.b (.l [(4, .int .i64), (26, .int .i64)] (.s .n (.s (.s .n .n) (.j [(4, .int .i64)] (.b (.s .n (.j [] (.j [(38, .bool)] .n (.s (.s .n .n) .n)) .n))) .n)))))) (.s .n .n))))) [.sc (.int .i64), .sc (.bool)] [.string s_0] h R = enc_Int s_0 R h := by kernel_rfl
theorem enc_Int_call (s_0 : ByteArray) {R : Int × Bool → Heap → Prop} {h : Heap} (hx : enc_Int s_0 R h) : CallT Try.prog 62 [.string s_0] h [.sc (.int .i64), .sc (.bool)] R :=
  call_of_fnX fnsOk mixed Try.func62 (by kernel_rfl) (by rw [enc_Int_eq]; exact hx)

/-- stowage/http.size (63) -/
def http_size (s_0 : ByteArray) (R : Int × Bool → Heap → Prop) (h : Heap) : Prop :=
  CallT Try.prog strings_Cut_no [.string s_0, .string (⟨#[59]⟩ : ByteArray)] h [.sc (.str), .sc (.str), .sc (.bool)] fun (r1 : ByteArray × ByteArray × Bool) h2 =>
  withJ (σ := Unit) (fun s3 h5 => -- s3: 
  LoopT (σ := Int × Int) (fun X7 s6 h8 => -- s6: n, t33
  cnd (decide (s6.2 < (r1.1.size : Int))) (
  withJ (σ := Int) (fun s9 h11 => -- s9: n
  X7 (s9, (w64 (s6.2 + 1))) h11) (fun J10 =>
  sidx r1.1 s6.2 fun u12 =>
  CallT Try.prog strings_IndexByte_no [.string (⟨#[48, 49, 50, 51, 52, 53, 54, 55, 56, 57, 97, 98, 99, 100, 101, 102]⟩ : ByteArray), .int .u8 (orI .u8 (u12.toNat : Int) 32)] h8 [.sc (.int .i64)] fun (r13 : Int) h14 =>
  withJ (σ := Unit) (fun s15 h17 => -- s15: 
  J10 (orI .i64 (shlI .i64 s6.1 4) r13) h17) (fun J16 =>
  withJ (σ := Bool) (fun s18 h20 => -- s18: t48
  cnd s18 (
  R (0, false) h20) (
  J16 () h20)) (fun J19 =>
  cnd (decide (r13 < 0)) (
  J19 true h14) (
  sidx r1.1 s6.2 fun u21 =>
  J19 (decide ((u21.toNat : Int) < 48)) h14))))) (
  R (s6.1, true) h8)) (0, 0) h5) (fun J4 =>
  withJ (σ := Bool) (fun s22 h24 => -- s22: t30
  cnd s22 (
  R (0, false) h24) (
  J4 () h24)) (fun J23 =>
  cnd (decide ((r1.1.size : Int) < 1)) (
  J23 true h2) (
  cnd (decide ((r1.1.size : Int) > 8)) (
  J23 true h2) (
  cnd r1.2.2 (
  CallT Try.prog chars_Value_no [.string r1.2.1] h2 [.sc (.bool)] fun (r25 : Bool) h26 =>
  J23 (!r25) h26) (
  J23 false h2)))))
theorem http_size_eq (s_0 : ByteArray) (R : Int × Bool → Heap → Prop) (h : Heap) : fnX Try.prog Fns.fns Try.f63 (.s .n (.s .n (.j [] (.j [(30, .bool)] .n (.s (.s .n .n) .n)) (.s .n (.s (.s .n (.b (.l [(6, .int .i64), (33, .int .i64)] (.s .n (.s (.s .n .n) (.j [(6, .int .i64)] (.b (.s .n (.s .n (.j [] (.j [(48, .bool)] .n (.s (.s .n .n) .n)) .n)))) .n)))))) (.s .n .n)))))) [.sc (.int .i64), .sc (.bool)] [.string s_0] h R = http_size s_0 R h := by kernel_rfl
theorem http_size_call (s_0 : ByteArray) {R : Int × Bool → Heap → Prop} {h : Heap} (hx : http_size s_0 R h) : CallT Try.prog 63 [.string s_0] h [.sc (.int .i64), .sc (.bool)] R :=
  call_of_fnX fnsOk mixed Try.func63 (by kernel_rfl) (by rw [http_size_eq]; exact hx)

/-- stowage/chars.letter (72) -/
def chars_letter (c_0 : Int) (R : Bool → Heap → Prop) (h : Heap) : Prop :=
  withJ (σ := Bool) (fun s1 h3 => -- s1: t2
  R s1 h3) (fun J2 =>
  cnd (decide (c_0 ≥ 65)) (
  cnd (decide (c_0 ≤ 90)) (
  J2 true h) (
  cnd (decide (c_0 ≥ 97)) (
  cnd (decide (c_0 ≤ 122)) (
  J2 true h) (
  cnd (decide (c_0 ≥ 48)) (
  J2 (decide (c_0 ≤ 57)) h) (
  J2 false h))) (
  cnd (decide (c_0 ≥ 48)) (
  J2 (decide (c_0 ≤ 57)) h) (
  J2 false h)))) (
  cnd (decide (c_0 ≥ 97)) (
  cnd (decide (c_0 ≤ 122)) (
  J2 true h) (
  cnd (decide (c_0 ≥ 48)) (
  J2 (decide (c_0 ≤ 57)) h) (
  J2 false h))) (
  cnd (decide (c_0 ≥ 48)) (
  J2 (decide (c_0 ≤ 57)) h) (
  J2 false h))))
theorem chars_letter_eq (c_0 : Int) (R : Bool → Heap → Prop) (h : Heap) : fnX Try.prog Fns.fns Try.f72 (.s .n (.j [(2, .bool)] .n .n)) [.sc (.bool)] [.int .u8 c_0] h R = chars_letter c_0 R h := by kernel_rfl
theorem chars_letter_call (c_0 : Int) {R : Bool → Heap → Prop} {h : Heap} (hx : chars_letter c_0 R h) : CallT Try.prog 72 [.int .u8 c_0] h [.sc (.bool)] R :=
  call_of_fnX fnsOk mixed Try.func72 (by kernel_rfl) (by rw [chars_letter_eq]; exact hx)

/-- stowage/http.version$1 (74) -/
def http_version_1 (c_0 : Int) (R : Bool → Heap → Prop) (h : Heap) : Prop :=
  withJ (σ := Bool) (fun s1 h3 => -- s1: t2
  R s1 h3) (fun J2 =>
  cnd (decide (c_0 ≥ 48)) (
  J2 (decide (c_0 ≤ 57)) h) (
  J2 false h))
theorem http_version_1_eq (c_0 : Int) (R : Bool → Heap → Prop) (h : Heap) : fnX Try.prog Fns.fns Try.f74 (.s .n (.j [(2, .bool)] .n .n)) [.sc (.bool)] [.int .u8 c_0] h R = http_version_1 c_0 R h := by kernel_rfl
theorem http_version_1_call (c_0 : Int) {R : Bool → Heap → Prop} {h : Heap} (hx : http_version_1 c_0 R h) : CallT Try.prog 74 [.int .u8 c_0] h [.sc (.bool)] R :=
  call_of_fnX fnsOk mixed Try.func74 (by kernel_rfl) (by rw [http_version_1_eq]; exact hx)

end Go.Proofs.Ytjpmjhnjdnbopaa
