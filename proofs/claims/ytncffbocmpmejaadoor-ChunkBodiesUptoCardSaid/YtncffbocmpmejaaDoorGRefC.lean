/- Go functions as short texts over the heap, and that each is what the loaded function comes to (the kernel compares them); written by a program. -/
import Derived.Test.YtncffbocmpmejaaDoorGBase
set_option linter.unusedVariables false
set_option maxRecDepth 100000
namespace Go.Proofs.YtncffbocmpmejaaDoor
open Go D
/-- stowage/stowageref19.Decode (10) -/
def ref19_Decode (x_0 : ByteArray × ByteArray × ByteArray × ByteArray × Sl × ByteArray) (x_1 : Sl) (x_2 : Int) (R : Sl × Int → Heap → Prop) (h : Heap) : Prop :=
  newB [.string x_0.1, .string x_0.2.1, .string x_0.2.2.1, .string x_0.2.2.2.1, .slice x_0.2.2.2.2.1.a x_0.2.2.2.2.1.len x_0.2.2.2.2.1.cap, .string x_0.2.2.2.2.2] 30 h fun a1 h2 =>
  newB [.slice x_1.a x_1.len x_1.cap, .int .i64 0, .int .i64 0] 53 h2 fun a3 h4 =>
  ldS (a1.add 3) h4 fun s5 =>
  LoopT (σ := ByteArray × Sl) (fun X7 s6 h8 => -- s6: t9, t10
  CallT Tryd.prog ref19_Reader_size_no [.pointer (some a3)] h8 [.sc (.int .i64)] fun (r9 : Int) h10 =>
  CallT Tryd.prog ref19_Reader_eat_no [.pointer (some a3), .string (⟨#[59, 99, 104, 117, 110, 107, 45, 115, 105, 103, 110, 97, 116, 117, 114, 101, 61]⟩ : ByteArray)] h10 [] fun (r11 : Unit) h12 =>
  CallT Tryd.prog ref19_Reader_name_no [.pointer (some a3)] h12 [.sc (.str)] fun (r13 : ByteArray) h14 =>
  CallT Tryd.prog ref19_Reader_eat_no [.pointer (some a3), .string (⟨#[13, 10]⟩ : ByteArray)] h14 [] fun (r15 : Unit) h16 =>
  ldI .i64 (a3.add 2) h16 fun n17 =>
  cnd (n17 != 0) (
  ldI .i64 (a3.add 2) h16 fun n18 =>
  R ((⟨none, 0, 0⟩ : Sl), n18) h16) (
  ldI .i64 (a3.add 1) h16 fun n19 =>
  cnd (decide (r9 > (w64 ((x_1.len : Int) - n19)))) (
  R ((⟨none, 0, 0⟩ : Sl), 307) h16) (
  ldI .i64 (a3.add 1) h16 fun n20 =>
  ldI .i64 (a3.add 1) h16 fun n21 =>
  lsl 1 x_1.a x_1.cap n20 (w64 (n21 + r9)) (x_1.cap : Int) fun o22 l22 c22 =>
  ldI .i64 (a3.add 1) h16 fun n23 =>
  stC (a3.add 1) (.int .i64 (w64 (n23 + r9))) h16 fun h24 =>
  CallT Tryd.prog ref19_Reader_eat_no [.pointer (some a3), .string (⟨#[13, 10]⟩ : ByteArray)] h24 [] fun (r25 : Unit) h26 =>
  withJ (σ := Unit) (fun s27 h29 => -- s27: 
  ldI .i64 (a3.add 2) h29 fun n30 =>
  cnd (n30 != 0) (
  ldI .i64 (a3.add 2) h29 fun n31 =>
  R ((⟨none, 0, 0⟩ : Sl), n31) h29) (
  ldS a1 h29 fun s32 =>
  ldS (a1.add 1) h29 fun s33 =>
  ldS (a1.add 2) h29 fun s34 =>
  ldS (a1.add 3) h29 fun s35 =>
  ldL (a1.add 4) h29 fun o36 l36 c36 =>
  ldS (a1.add 5) h29 fun s37 =>
  CallT Tryd.prog ref19_Sign_no [.agg #[.string s32, .string s33, .string s34, .string s35, .slice o36 l36 c36, .string s37], .string s6.1, .slice o22 l22 c22] h29 [.sc (.str)] fun (r38 : ByteArray) h39 =>
  cnd (!seq r38 r13) (
  R ((⟨none, 0, 0⟩ : Sl), 301) h39) (
  rdCells o22 (l22 * 1) h39 fun cs43 =>
  app [.int .u8 0] 5 1 1 s6.2.a s6.2.len s6.2.cap cs43 l22 h39 fun o40 c41 h42 =>
  cnd (r9 == 0) (
  cnd (((s6.2.len + l22) : Int) != x_2) (
  R ((⟨none, 0, 0⟩ : Sl), 307) h42) (
  R ((⟨o40, (s6.2.len + l22), c41⟩ : Sl), 0) h42)) (
  X7 (r13, (⟨o40, (s6.2.len + l22), c41⟩ : Sl)) h42)))) (fun J28 =>
  withJ (σ := Bool) (fun s44 h46 => -- s44: t85
  cnd s44 (
  stC (a3.add 2) (.int .i64 308) h46 fun h47 =>
  J28 () h47) (
  J28 () h46)) (fun J45 =>
  ldI .i64 (a3.add 2) h26 fun n48 =>
  cnd (n48 == 0) (
  cnd (r9 == 0) (
  ldI .i64 (a3.add 1) h26 fun n49 =>
  J45 (n49 != (x_1.len : Int)) h26) (
  J45 false h26)) (
  J45 false h26)))))) (s5, (⟨none, 0, 0⟩ : Sl)) h4
theorem ref19_Decode_eq (x_0 : ByteArray × ByteArray × ByteArray × ByteArray × Sl × ByteArray) (x_1 : Sl) (x_2 : Int) (R : Sl × Int → Heap → Prop) (h : Heap) : fnX Tryd.prog Fns.fns Tryd.f10 (.s .n (.s .n (.s .n (.s .n (.s (.b (.l [(9, .str), (10, .sl)] (.b (.s .n (.s .n (.s .n (.s .n (.s (.s .n (.s (.s .n .n) .n)) (.s (.s .n (.s (.s .n .n) .n)) (.s .n (.s .n (.s .n (.j [] (.j [(85, .bool)] .n (.s .n .n)) (.s (.s .n (.s (.s .n .n) .n)) (.s (.s .n (.s (.s .n .n) .n)) (.s .n (.s .n (.s .n (.s .n .n))))))))))))))))))) (.s (.s .n (.s (.s .n .n) .n)) (.s .n .n))))))) [.sc (.sl), .sc (.int .i64)] [.agg #[.string x_0.1, .string x_0.2.1, .string x_0.2.2.1, .string x_0.2.2.2.1, .slice x_0.2.2.2.2.1.a x_0.2.2.2.2.1.len x_0.2.2.2.2.1.cap, .string x_0.2.2.2.2.2], .slice x_1.a x_1.len x_1.cap, .int .i64 x_2] h R = ref19_Decode x_0 x_1 x_2 R h := by kernel_rfl
theorem ref19_Decode_call (x_0 : ByteArray × ByteArray × ByteArray × ByteArray × Sl × ByteArray) (x_1 : Sl) (x_2 : Int) {R : Sl × Int → Heap → Prop} {h : Heap} (hx : ref19_Decode x_0 x_1 x_2 R h) : CallT Tryd.prog 10 [.agg #[.string x_0.1, .string x_0.2.1, .string x_0.2.2.1, .string x_0.2.2.2.1, .slice x_0.2.2.2.2.1.a x_0.2.2.2.2.1.len x_0.2.2.2.2.1.cap, .string x_0.2.2.2.2.2], .slice x_1.a x_1.len x_1.cap, .int .i64 x_2] h [.sc (.sl), .sc (.int .i64)] R :=
  call_of_fnX fnsOk mixed Tryd.func10 (by kernel_rfl) (by rw [ref19_Decode_eq]; exact hx)

/-- stowage/stowageref19.Sign (13) -/
def ref19_Sign (w_0 : ByteArray × ByteArray × ByteArray × ByteArray × Sl × ByteArray) (last_1 : ByteArray) (data_2 : Sl) (R : ByteArray → Heap → Prop) (h : Heap) : Prop :=
  newB [.string w_0.1, .string w_0.2.1, .string w_0.2.2.1, .string w_0.2.2.2.1, .slice w_0.2.2.2.2.1.a w_0.2.2.2.2.1.len w_0.2.2.2.2.1.cap, .string w_0.2.2.2.2.2] 30 h fun a1 h2 =>
  ldS (a1.add 1) h2 fun s3 =>
  (((⟨#[65, 87, 83, 52, 45, 72, 77, 65, 67, 45, 83, 72, 65, 50, 53, 54, 45, 80, 65, 89, 76, 79, 65, 68, 10]⟩ : ByteArray).size + s3.size : Nat) : Int) ≤ 9223372036854775807 ∧
  ((((⟨#[65, 87, 83, 52, 45, 72, 77, 65, 67, 45, 83, 72, 65, 50, 53, 54, 45, 80, 65, 89, 76, 79, 65, 68, 10]⟩ : ByteArray) ++ s3).size + (⟨#[10]⟩ : ByteArray).size : Nat) : Int) ≤ 9223372036854775807 ∧
  ldS (a1.add 2) h2 fun s4 =>
  (((((⟨#[65, 87, 83, 52, 45, 72, 77, 65, 67, 45, 83, 72, 65, 50, 53, 54, 45, 80, 65, 89, 76, 79, 65, 68, 10]⟩ : ByteArray) ++ s3) ++ (⟨#[10]⟩ : ByteArray)).size + s4.size : Nat) : Int) ≤ 9223372036854775807 ∧
  ((((((⟨#[65, 87, 83, 52, 45, 72, 77, 65, 67, 45, 83, 72, 65, 50, 53, 54, 45, 80, 65, 89, 76, 79, 65, 68, 10]⟩ : ByteArray) ++ s3) ++ (⟨#[10]⟩ : ByteArray)) ++ s4).size + (⟨#[10]⟩ : ByteArray).size : Nat) : Int) ≤ 9223372036854775807 ∧
  (((((((⟨#[65, 87, 83, 52, 45, 72, 77, 65, 67, 45, 83, 72, 65, 50, 53, 54, 45, 80, 65, 89, 76, 79, 65, 68, 10]⟩ : ByteArray) ++ s3) ++ (⟨#[10]⟩ : ByteArray)) ++ s4) ++ (⟨#[10]⟩ : ByteArray)).size + last_1.size : Nat) : Int) ≤ 9223372036854775807 ∧
  ((((((((⟨#[65, 87, 83, 52, 45, 72, 77, 65, 67, 45, 83, 72, 65, 50, 53, 54, 45, 80, 65, 89, 76, 79, 65, 68, 10]⟩ : ByteArray) ++ s3) ++ (⟨#[10]⟩ : ByteArray)) ++ s4) ++ (⟨#[10]⟩ : ByteArray)) ++ last_1).size + (⟨#[10]⟩ : ByteArray).size : Nat) : Int) ≤ 9223372036854775807 ∧
  b2s data_2.a data_2.len h2 fun s5 =>
  CallT Tryd.prog ref18_Sum_no [.string (⟨#[]⟩ : ByteArray)] h2 [.sc (.str)] fun (r6 : ByteArray) h7 =>
  (b2s data_2.a data_2.len h7 fun s8 =>
  (.string s8 : Value) = .string s5) ∧
  (ldS (a1.add 2) h7 fun s9 =>
  (.string s9 : Value) = .string s4) ∧
  (ldS (a1.add 1) h7 fun s10 =>
  (.string s10 : Value) = .string s3) ∧
  (((((((((⟨#[65, 87, 83, 52, 45, 72, 77, 65, 67, 45, 83, 72, 65, 50, 53, 54, 45, 80, 65, 89, 76, 79, 65, 68, 10]⟩ : ByteArray) ++ s3) ++ (⟨#[10]⟩ : ByteArray)) ++ s4) ++ (⟨#[10]⟩ : ByteArray)) ++ last_1) ++ (⟨#[10]⟩ : ByteArray)).size + r6.size : Nat) : Int) ≤ 9223372036854775807 ∧
  ((((((((((⟨#[65, 87, 83, 52, 45, 72, 77, 65, 67, 45, 83, 72, 65, 50, 53, 54, 45, 80, 65, 89, 76, 79, 65, 68, 10]⟩ : ByteArray) ++ s3) ++ (⟨#[10]⟩ : ByteArray)) ++ s4) ++ (⟨#[10]⟩ : ByteArray)) ++ last_1) ++ (⟨#[10]⟩ : ByteArray)) ++ r6).size + (⟨#[10]⟩ : ByteArray).size : Nat) : Int) ≤ 9223372036854775807 ∧
  CallT Tryd.prog ref18_Sum_no [.string s5] h7 [.sc (.str)] fun (r11 : ByteArray) h12 =>
  (ldS (a1.add 2) h12 fun s13 =>
  (.string s13 : Value) = .string s4) ∧
  (ldS (a1.add 1) h12 fun s14 =>
  (.string s14 : Value) = .string s3) ∧
  (((((((((((⟨#[65, 87, 83, 52, 45, 72, 77, 65, 67, 45, 83, 72, 65, 50, 53, 54, 45, 80, 65, 89, 76, 79, 65, 68, 10]⟩ : ByteArray) ++ s3) ++ (⟨#[10]⟩ : ByteArray)) ++ s4) ++ (⟨#[10]⟩ : ByteArray)) ++ last_1) ++ (⟨#[10]⟩ : ByteArray)) ++ r6) ++ (⟨#[10]⟩ : ByteArray)).size + r11.size : Nat) : Int) ≤ 9223372036854775807 ∧
  ldL (a1.add 4) h12 fun o15 l15 c15 =>
  s2b ((((((((((⟨#[65, 87, 83, 52, 45, 72, 77, 65, 67, 45, 83, 72, 65, 50, 53, 54, 45, 80, 65, 89, 76, 79, 65, 68, 10]⟩ : ByteArray) ++ s3) ++ (⟨#[10]⟩ : ByteArray)) ++ s4) ++ (⟨#[10]⟩ : ByteArray)) ++ last_1) ++ (⟨#[10]⟩ : ByteArray)) ++ r6) ++ (⟨#[10]⟩ : ByteArray)) ++ r11) 5 h12 fun a16 c17 h18 =>
  CallT Tryd.prog ref2_HMAC_no [.slice o15 l15 c15, .slice (some a16) (((((((((((⟨#[65, 87, 83, 52, 45, 72, 77, 65, 67, 45, 83, 72, 65, 50, 53, 54, 45, 80, 65, 89, 76, 79, 65, 68, 10]⟩ : ByteArray) ++ s3) ++ (⟨#[10]⟩ : ByteArray)) ++ s4) ++ (⟨#[10]⟩ : ByteArray)) ++ last_1) ++ (⟨#[10]⟩ : ByteArray)) ++ r6) ++ (⟨#[10]⟩ : ByteArray)) ++ r11).size) c17] h18 [.sc (.sl)] fun (r19 : Sl) h20 =>
  CallT Tryd.prog ref1_Hex_no [.slice r19.a r19.len r19.cap] h20 [.sc (.str)] fun (r21 : ByteArray) h22 =>
  R r21 h22
theorem ref19_Sign_eq (w_0 : ByteArray × ByteArray × ByteArray × ByteArray × Sl × ByteArray) (last_1 : ByteArray) (data_2 : Sl) (R : ByteArray → Heap → Prop) (h : Heap) : fnX Tryd.prog Fns.fns Tryd.f13 (.s .n (.s .n (.s .n .n))) [.sc (.str)] [.agg #[.string w_0.1, .string w_0.2.1, .string w_0.2.2.1, .string w_0.2.2.2.1, .slice w_0.2.2.2.2.1.a w_0.2.2.2.2.1.len w_0.2.2.2.2.1.cap, .string w_0.2.2.2.2.2], .string last_1, .slice data_2.a data_2.len data_2.cap] h R = ref19_Sign w_0 last_1 data_2 R h := by kernel_rfl
theorem ref19_Sign_call (w_0 : ByteArray × ByteArray × ByteArray × ByteArray × Sl × ByteArray) (last_1 : ByteArray) (data_2 : Sl) {R : ByteArray → Heap → Prop} {h : Heap} (hx : ref19_Sign w_0 last_1 data_2 R h) : CallT Tryd.prog 13 [.agg #[.string w_0.1, .string w_0.2.1, .string w_0.2.2.1, .string w_0.2.2.2.1, .slice w_0.2.2.2.2.1.a w_0.2.2.2.2.1.len w_0.2.2.2.2.1.cap, .string w_0.2.2.2.2.2], .string last_1, .slice data_2.a data_2.len data_2.cap] h [.sc (.str)] R :=
  call_of_fnX fnsOk mixed Tryd.func13 (by kernel_rfl) (by rw [ref19_Sign_eq]; exact hx)

/-- stowage/stowageref19.Encode (16) -/
def ref19_Encode (w_0 : ByteArray × ByteArray × ByteArray × ByteArray × Sl × ByteArray) (data_1 : Sl) (sizes_2 : Sl) (R : Sl → Heap → Prop) (h : Heap) : Prop :=
  newB [.string w_0.1, .string w_0.2.1, .string w_0.2.2.1, .string w_0.2.2.2.1, .slice w_0.2.2.2.2.1.a w_0.2.2.2.2.1.len w_0.2.2.2.2.1.cap, .string w_0.2.2.2.2.2] 30 h fun a1 h2 =>
  ldS (a1.add 3) h2 fun s3 =>
  LoopT (σ := Sl × Sl × ByteArray × Int) (fun X5 s4 h6 => -- s4: data, out, last, i
  withJ (σ := Sl × Sl × ByteArray) (fun s7 h9 => -- s7: data, out, last
  X5 (s7.1, s7.2.1, s7.2.2, (w64 (s4.2.2.2 + 1))) h9) (fun J8 =>
  withJ (σ := Int) (fun s10 h12 => -- s10: n
  ldS a1 h12 fun s13 =>
  ldS (a1.add 1) h12 fun s14 =>
  ldS (a1.add 2) h12 fun s15 =>
  ldS (a1.add 3) h12 fun s16 =>
  ldL (a1.add 4) h12 fun o17 l17 c17 =>
  ldS (a1.add 5) h12 fun s18 =>
  lsl 1 s4.1.a s4.1.cap 0 s10 (s4.1.cap : Int) fun o19 l19 c19 =>
  CallT Tryd.prog ref19_Sign_no [.agg #[.string s13, .string s14, .string s15, .string s16, .slice o17 l17 c17, .string s18], .string s4.2.2.1, .slice o19 l19 c19] h12 [.sc (.str)] fun (r20 : ByteArray) h21 =>
  CallT Tryd.prog ref19_hex_no [.int .i64 s10] h21 [.sc (.str)] fun (r22 : ByteArray) h23 =>
  ((r22.size + (⟨#[59, 99, 104, 117, 110, 107, 45, 115, 105, 103, 110, 97, 116, 117, 114, 101, 61]⟩ : ByteArray).size : Nat) : Int) ≤ 9223372036854775807 ∧
  (((r22 ++ (⟨#[59, 99, 104, 117, 110, 107, 45, 115, 105, 103, 110, 97, 116, 117, 114, 101, 61]⟩ : ByteArray)).size + r20.size : Nat) : Int) ≤ 9223372036854775807 ∧
  ((((r22 ++ (⟨#[59, 99, 104, 117, 110, 107, 45, 115, 105, 103, 110, 97, 116, 117, 114, 101, 61]⟩ : ByteArray)) ++ r20).size + (⟨#[13, 10]⟩ : ByteArray).size : Nat) : Int) ≤ 9223372036854775807 ∧
  app [.int .u8 0] 5 1 1 s4.2.1.a s4.2.1.len s4.2.1.cap (bytesV (((r22 ++ (⟨#[59, 99, 104, 117, 110, 107, 45, 115, 105, 103, 110, 97, 116, 117, 114, 101, 61]⟩ : ByteArray)) ++ r20) ++ (⟨#[13, 10]⟩ : ByteArray))) ((((r22 ++ (⟨#[59, 99, 104, 117, 110, 107, 45, 115, 105, 103, 110, 97, 116, 117, 114, 101, 61]⟩ : ByteArray)) ++ r20) ++ (⟨#[13, 10]⟩ : ByteArray)).size) h23 fun o24 c25 h26 =>
  lsl 1 s4.1.a s4.1.cap 0 s10 (s4.1.cap : Int) fun o27 l27 c27 =>
  rdCells o27 (l27 * 1) h26 fun cs31 =>
  app [.int .u8 0] 5 1 1 o24 (s4.2.1.len + ((((r22 ++ (⟨#[59, 99, 104, 117, 110, 107, 45, 115, 105, 103, 110, 97, 116, 117, 114, 101, 61]⟩ : ByteArray)) ++ r20) ++ (⟨#[13, 10]⟩ : ByteArray)).size)) c25 cs31 l27 h26 fun o28 c29 h30 =>
  newB [.int .u8 13, .int .u8 10] 5 h30 fun a32 h33 =>
  ldRow (2 * 1) a32 h33 fun cs37 =>
  app [.int .u8 0] 5 1 1 o28 ((s4.2.1.len + ((((r22 ++ (⟨#[59, 99, 104, 117, 110, 107, 45, 115, 105, 103, 110, 97, 116, 117, 114, 101, 61]⟩ : ByteArray)) ++ r20) ++ (⟨#[13, 10]⟩ : ByteArray)).size)) + l27) c29 cs37 2 h33 fun o34 c35 h36 =>
  cnd (s10 == 0) (
  R (⟨o34, (((s4.2.1.len + ((((r22 ++ (⟨#[59, 99, 104, 117, 110, 107, 45, 115, 105, 103, 110, 97, 116, 117, 114, 101, 61]⟩ : ByteArray)) ++ r20) ++ (⟨#[13, 10]⟩ : ByteArray)).size)) + l27) + 2), c35⟩ : Sl) h36) (
  lsl 1 s4.1.a s4.1.cap s10 (s4.1.len : Int) (s4.1.cap : Int) fun o38 l38 c38 =>
  J8 ((⟨o38, l38, c38⟩ : Sl), (⟨o34, (((s4.2.1.len + ((((r22 ++ (⟨#[59, 99, 104, 117, 110, 107, 45, 115, 105, 103, 110, 97, 116, 117, 114, 101, 61]⟩ : ByteArray)) ++ r20) ++ (⟨#[13, 10]⟩ : ByteArray)).size)) + l27) + 2), c35⟩ : Sl), r20) h36)) (fun J11 =>
  withJ (σ := Bool) (fun s39 h41 => -- s39: t24
  cnd s39 (
  idx sizes_2.a sizes_2.len s4.2.2.2 fun a42 =>
  ldI .i64 (a42.add (s4.2.2.2.toNat * 1)) h41 fun n43 =>
  cnd (decide (n43 < 1)) (
  J8 (s4.1, s4.2.1, s4.2.2.1) h41) (
  idx sizes_2.a sizes_2.len s4.2.2.2 fun a44 =>
  ldI .i64 (a44.add (s4.2.2.2.toNat * 1)) h41 fun n45 =>
  J11 (minI (s4.1.len : Int) n45) h41)) (
  J11 (s4.1.len : Int) h41)) (fun J40 =>
  cnd (decide (s4.2.2.2 < (sizes_2.len : Int))) (
  J40 (decide ((s4.1.len : Int) > 0)) h6) (
  J40 false h6))))) (data_1, (⟨none, 0, 0⟩ : Sl), s3, 0) h2
theorem ref19_Encode_eq (w_0 : ByteArray × ByteArray × ByteArray × ByteArray × Sl × ByteArray) (data_1 : Sl) (sizes_2 : Sl) (R : Sl → Heap → Prop) (h : Heap) : fnX Tryd.prog Fns.fns Tryd.f16 (.s .n (.s .n (.s .n (.s .n (.b (.l [(1, .sl), (7, .sl), (8, .str), (9, .int .i64)] (.j [(1, .sl), (7, .sl), (8, .str)] (.b (.s .n (.j [(10, .int .i64)] (.j [(24, .bool)] .n (.s (.s (.s .n (.s .n .n)) .n) .n)) (.s .n (.s .n (.s .n (.s .n (.s (.s .n (.s (.s .n .n) .n)) .n)))))))) .n))))))) [.sc (.sl)] [.agg #[.string w_0.1, .string w_0.2.1, .string w_0.2.2.1, .string w_0.2.2.2.1, .slice w_0.2.2.2.2.1.a w_0.2.2.2.2.1.len w_0.2.2.2.2.1.cap, .string w_0.2.2.2.2.2], .slice data_1.a data_1.len data_1.cap, .slice sizes_2.a sizes_2.len sizes_2.cap] h R = ref19_Encode w_0 data_1 sizes_2 R h := by kernel_rfl
theorem ref19_Encode_call (w_0 : ByteArray × ByteArray × ByteArray × ByteArray × Sl × ByteArray) (data_1 : Sl) (sizes_2 : Sl) {R : Sl → Heap → Prop} {h : Heap} (hx : ref19_Encode w_0 data_1 sizes_2 R h) : CallT Tryd.prog 16 [.agg #[.string w_0.1, .string w_0.2.1, .string w_0.2.2.1, .string w_0.2.2.2.1, .slice w_0.2.2.2.2.1.a w_0.2.2.2.2.1.len w_0.2.2.2.2.1.cap, .string w_0.2.2.2.2.2], .slice data_1.a data_1.len data_1.cap, .slice sizes_2.a sizes_2.len sizes_2.cap] h [.sc (.sl)] R :=
  call_of_fnX fnsOk mixed Tryd.func16 (by kernel_rfl) (by rw [ref19_Encode_eq]; exact hx)

/-- stowage/stowageref19.Body (18) -/
def ref19_Body (w_0 : ByteArray × ByteArray × ByteArray × ByteArray × Sl × ByteArray) (r_1 : ByteArray × ByteArray × Sl × Sl) (R : Sl × Int → Heap → Prop) (h : Heap) : Prop :=
  newB [.string w_0.1, .string w_0.2.1, .string w_0.2.2.1, .string w_0.2.2.2.1, .slice w_0.2.2.2.2.1.a w_0.2.2.2.2.1.len w_0.2.2.2.2.1.cap, .string w_0.2.2.2.2.2] 30 h fun a1 h2 =>
  newB [.string r_1.1, .string r_1.2.1, .slice r_1.2.2.1.a r_1.2.2.1.len r_1.2.2.1.cap, .slice r_1.2.2.2.a r_1.2.2.2.len r_1.2.2.2.cap] 45 h2 fun a3 h4 =>
  ldS (a1.add 5) h4 fun s5 =>
  cnd (!seq s5 (⟨#[83, 84, 82, 69, 65, 77, 73, 78, 71, 45, 65, 87, 83, 52, 45, 72, 77, 65, 67, 45, 83, 72, 65, 50, 53, 54, 45, 80, 65, 89, 76, 79, 65, 68]⟩ : ByteArray)) (
  ldL (a3.add 3) h4 fun o6 l6 c6 =>
  R ((⟨o6, l6, c6⟩ : Sl), 0) h4) (
  ldL (a3.add 2) h4 fun o7 l7 c7 =>
  CallT Tryd.prog ref16_All_no [.slice o7 l7 c7, .string (⟨#[120, 45, 97, 109, 122, 45, 100, 101, 99, 111, 100, 101, 100, 45, 99, 111, 110, 116, 101, 110, 116, 45, 108, 101, 110, 103, 116, 104]⟩ : ByteArray)] h4 [.sc (.sl)] fun (r8 : Sl) h9 =>
  cnd ((r8.len : Int) != 1) (
  R ((⟨none, 0, 0⟩ : Sl), 319) h9) (
  idx r8.a r8.len 0 fun a10 =>
  ldS (a10.add ((0 : Int).toNat * 1)) h9 fun s11 =>
  CallT Tryd.prog ref1_Int_no [.string s11] h9 [.sc (.int .i64), .sc (.bool)] fun (r12 : Int × Bool) h13 =>
  withJ (σ := Unit) (fun s14 h16 => -- s14: 
  ldS a1 h16 fun s17 =>
  ldS (a1.add 1) h16 fun s18 =>
  ldS (a1.add 2) h16 fun s19 =>
  ldS (a1.add 3) h16 fun s20 =>
  ldL (a1.add 4) h16 fun o21 l21 c21 =>
  ldS (a1.add 5) h16 fun s22 =>
  ldL (a3.add 3) h16 fun o23 l23 c23 =>
  CallT Tryd.prog ref19_Decode_no [.agg #[.string s17, .string s18, .string s19, .string s20, .slice o21 l21 c21, .string s22], .slice o23 l23 c23, .int .i64 r12.1] h16 [.sc (.sl), .sc (.int .i64)] fun (r24 : Sl × Int) h25 =>
  R (r24.1, r24.2) h25) (fun J15 =>
  withJ (σ := Bool) (fun s26 h28 => -- s26: t32
  cnd s26 (
  R ((⟨none, 0, 0⟩ : Sl), 319) h28) (
  J15 () h28)) (fun J27 =>
  cnd (!r12.2) (
  J27 true h13) (
  J27 (decide (r12.1 > 1048576)) h13)))))
theorem ref19_Body_eq (w_0 : ByteArray × ByteArray × ByteArray × ByteArray × Sl × ByteArray) (r_1 : ByteArray × ByteArray × Sl × Sl) (R : Sl × Int → Heap → Prop) (h : Heap) : fnX Tryd.prog Fns.fns Tryd.f18 (.s .n (.s (.s .n (.s (.s .n .n) .n)) (.s .n (.s (.s .n (.s (.s .n .n) .n)) (.s .n (.j [] (.j [(32, .bool)] .n (.s (.s .n .n) .n)) (.s .n .n))))))) [.sc (.sl), .sc (.int .i64)] [.agg #[.string w_0.1, .string w_0.2.1, .string w_0.2.2.1, .string w_0.2.2.2.1, .slice w_0.2.2.2.2.1.a w_0.2.2.2.2.1.len w_0.2.2.2.2.1.cap, .string w_0.2.2.2.2.2], .agg #[.string r_1.1, .string r_1.2.1, .slice r_1.2.2.1.a r_1.2.2.1.len r_1.2.2.1.cap, .slice r_1.2.2.2.a r_1.2.2.2.len r_1.2.2.2.cap]] h R = ref19_Body w_0 r_1 R h := by kernel_rfl
theorem ref19_Body_call (w_0 : ByteArray × ByteArray × ByteArray × ByteArray × Sl × ByteArray) (r_1 : ByteArray × ByteArray × Sl × Sl) {R : Sl × Int → Heap → Prop} {h : Heap} (hx : ref19_Body w_0 r_1 R h) : CallT Tryd.prog 18 [.agg #[.string w_0.1, .string w_0.2.1, .string w_0.2.2.1, .string w_0.2.2.2.1, .slice w_0.2.2.2.2.1.a w_0.2.2.2.2.1.len w_0.2.2.2.2.1.cap, .string w_0.2.2.2.2.2], .agg #[.string r_1.1, .string r_1.2.1, .slice r_1.2.2.1.a r_1.2.2.1.len r_1.2.2.1.cap, .slice r_1.2.2.2.a r_1.2.2.2.len r_1.2.2.2.cap]] h [.sc (.sl), .sc (.int .i64)] R :=
  call_of_fnX fnsOk mixed Tryd.func18 (by kernel_rfl) (by rw [ref19_Body_eq]; exact hx)

/-- (*stowage/stowageref19.Reader).size (20) -/
def ref19_Reader_size (x_0 : Option Addr) (R : Int → Heap → Prop) (h : Heap) : Prop :=
  LoopT (σ := Int × Int) (fun X2 s1 h3 => -- s1: t3, t4
  withJ (σ := (Option Addr) × (Option Addr) × (Option Addr) × Int × (Option Addr) × (Option Addr) × (Option Addr) × Sl × Int × Bool × (Option Addr) × (Option Addr) × (Option Addr) × Sl × (Option Addr) × (Option Addr) × (Option Addr) × Int × (Option Addr) × Int × Bool) (fun s4 h6 => -- s4: t8, t9, t10, t11, t12, t13, t14, t15, t16, t17, t20, t21, t22, t23, t24, t25, t26, t27, t28, t29, t30
  nn x_0 fun a7 =>
  ldL a7 h6 fun o8 l8 c8 =>
  nn x_0 fun a9 =>
  ldI .i64 (a9.add 1) h6 fun n10 =>
  idx o8 l8 n10 fun a11 =>
  ldI .u8 (a11.add (n10.toNat * 1)) h6 fun n12 =>
  CallT Tryd.prog ref3_Digit_no [.int .u8 n12] h6 [.sc (.int .i64)] fun (r13 : Int) h14 =>
  nn x_0 fun a15 =>
  ldI .i64 (a15.add 1) h14 fun n16 =>
  nn x_0 fun a17 =>
  stC (a17.add 1) (.int .i64 (w64 (n16 + 1))) h14 fun h18 =>
  X2 ((w64 ((w64 (16 * s1.1)) + r13)), (w64 (s1.2 + 1))) h18) (fun J5 =>
  cnd (decide (s1.2 < 8)) (
  nn x_0 fun a19 =>
  ldI .i64 (a19.add 1) h3 fun n20 =>
  nn x_0 fun a21 =>
  ldL a21 h3 fun o22 l22 c22 =>
  cnd (decide (n20 < (l22 : Int))) (
  nn x_0 fun a23 =>
  ldL a23 h3 fun o24 l24 c24 =>
  nn x_0 fun a25 =>
  ldI .i64 (a25.add 1) h3 fun n26 =>
  idx o24 l24 n26 fun a27 =>
  ldI .u8 (a27.add (n26.toNat * 1)) h3 fun n28 =>
  CallT Tryd.prog ref19_digit_no [.int .u8 n28] h3 [.sc (.bool)] fun (r29 : Bool) h30 =>
  cnd r29 (
  J5 (x_0, (some a19), (some (a19.add 1)), n20, x_0, (some a21), (some a21), (⟨o22, l22, c22⟩ : Sl), (l22 : Int), (decide (n20 < (l22 : Int))), x_0, (some a23), (some a23), (⟨o24, l24, c24⟩ : Sl), x_0, (some a25), (some (a25.add 1)), n26, (some (a27.add (n26.toNat * 1))), n28, r29) h30) (
  withJ (σ := Unit) (fun s31 h33 => -- s31: 
  R s1.1 h33) (fun J32 =>
  nn x_0 fun a34 =>
  ldI .i64 (a34.add 1) h30 fun n35 =>
  nn x_0 fun a36 =>
  ldL a36 h30 fun o37 l37 c37 =>
  cnd (n35 == (l37 : Int)) (
  nn x_0 fun a38 =>
  stC (a38.add 2) (.int .i64 307) h30 fun h39 =>
  J32 () h39) (
  cnd (s1.2 == 0) (
  nn x_0 fun a40 =>
  stC (a40.add 2) (.int .i64 308) h30 fun h41 =>
  J32 () h41) (
  J32 () h30))))) (
  withJ (σ := Unit) (fun s42 h44 => -- s42: 
  R s1.1 h44) (fun J43 =>
  nn x_0 fun a45 =>
  ldI .i64 (a45.add 1) h3 fun n46 =>
  nn x_0 fun a47 =>
  ldL a47 h3 fun o48 l48 c48 =>
  cnd (n46 == (l48 : Int)) (
  nn x_0 fun a49 =>
  stC (a49.add 2) (.int .i64 307) h3 fun h50 =>
  J43 () h50) (
  cnd (s1.2 == 0) (
  nn x_0 fun a51 =>
  stC (a51.add 2) (.int .i64 308) h3 fun h52 =>
  J43 () h52) (
  J43 () h3))))) (
  withJ (σ := Unit) (fun s53 h55 => -- s53: 
  R s1.1 h55) (fun J54 =>
  nn x_0 fun a56 =>
  ldI .i64 (a56.add 1) h3 fun n57 =>
  nn x_0 fun a58 =>
  ldL a58 h3 fun o59 l59 c59 =>
  cnd (n57 == (l59 : Int)) (
  nn x_0 fun a60 =>
  stC (a60.add 2) (.int .i64 307) h3 fun h61 =>
  J54 () h61) (
  cnd (s1.2 == 0) (
  nn x_0 fun a62 =>
  stC (a62.add 2) (.int .i64 308) h3 fun h63 =>
  J54 () h63) (
  J54 () h3)))))) (0, 0) h
theorem ref19_Reader_size_eq (x_0 : Option Addr) (R : Int → Heap → Prop) (h : Heap) : fnX Tryd.prog Fns.fns Tryd.f20 (.s .n (.s .n (.s .n (.s (.b (.l [(3, .int .i64), (4, .int .i64)] (.j [(8, .ptr), (9, .ptr), (10, .ptr), (11, .int .i64), (12, .ptr), (13, .ptr), (14, .ptr), (15, .sl), (16, .int .i64), (17, .bool), (20, .ptr), (21, .ptr), (22, .ptr), (23, .sl), (24, .ptr), (25, .ptr), (26, .ptr), (27, .int .i64), (28, .ptr), (29, .int .u8), (30, .bool)] (.s .n (.s .n .n)) (.b (.s .n (.s .n .n)))))) (.j [] (.s .n (.s .n (.s .n (.s .n .n)))) (.s .n .n)))))) [.sc (.int .i64)] [.pointer x_0] h R = ref19_Reader_size x_0 R h := by kernel_rfl
theorem ref19_Reader_size_call (x_0 : Option Addr) {R : Int → Heap → Prop} {h : Heap} (hx : ref19_Reader_size x_0 R h) : CallT Tryd.prog 20 [.pointer x_0] h [.sc (.int .i64)] R :=
  call_of_fnX fnsOk mixed Tryd.func20 (by kernel_rfl) (by rw [ref19_Reader_size_eq]; exact hx)

/-- (*stowage/stowageref19.Reader).eat (21) -/
def ref19_Reader_eat (r_0 : Option Addr) (s_1 : ByteArray) (R : Unit → Heap → Prop) (h : Heap) : Prop :=
  LoopT (σ := Int) (fun X2 s1 h3 => -- s1: i
  withJ (σ := (Option Addr) × (Option Addr) × (Option Addr) × Int × Bool) (fun s4 h6 => -- s4: t10, t11, t12, t13, t14
  withJ (σ := Unit) (fun s7 h9 => -- s7: 
  X2 (w64 (s1 + 1)) h9) (fun J8 =>
  nn r_0 fun a10 =>
  ldI .i64 (a10.add 1) h6 fun n11 =>
  nn r_0 fun a12 =>
  ldL a12 h6 fun o13 l13 c13 =>
  cnd (n11 == (l13 : Int)) (
  nn r_0 fun a14 =>
  stC (a14.add 2) (.int .i64 307) h6 fun h15 =>
  J8 () h15) (
  nn r_0 fun a16 =>
  ldL a16 h6 fun o17 l17 c17 =>
  nn r_0 fun a18 =>
  ldI .i64 (a18.add 1) h6 fun n19 =>
  idx o17 l17 n19 fun a20 =>
  ldI .u8 (a20.add (n19.toNat * 1)) h6 fun n21 =>
  sidx s_1 s1 fun u22 =>
  cnd (n21 != (u22.toNat : Int)) (
  nn r_0 fun a23 =>
  stC (a23.add 2) (.int .i64 308) h6 fun h24 =>
  J8 () h24) (
  nn r_0 fun a25 =>
  ldI .i64 (a25.add 1) h6 fun n26 =>
  nn r_0 fun a27 =>
  stC (a27.add 1) (.int .i64 (w64 (n26 + 1))) h6 fun h28 =>
  J8 () h28)))) (fun J5 =>
  cnd (decide (s1 < (s_1.size : Int))) (
  nn r_0 fun a29 =>
  ldI .i64 (a29.add 2) h3 fun n30 =>
  cnd (n30 == 0) (
  J5 (r_0, (some a29), (some (a29.add 2)), n30, (n30 == 0)) h3) (
  R () h3)) (
  R () h3))) 0 h
theorem ref19_Reader_eat_eq (r_0 : Option Addr) (s_1 : ByteArray) (R : Unit → Heap → Prop) (h : Heap) : fnX Tryd.prog Fns.fns Tryd.f21 (.s .n (.b (.l [(4, .int .i64)] (.j [(10, .ptr), (11, .ptr), (12, .ptr), (13, .int .i64), (14, .bool)] (.s .n (.s .n .n)) (.j [] (.b (.b (.s .n (.s .n (.s .n (.s .n .n)))))) .n))))) [] [.pointer r_0, .string s_1] h R = ref19_Reader_eat r_0 s_1 R h := by kernel_rfl
theorem ref19_Reader_eat_call (r_0 : Option Addr) (s_1 : ByteArray) {R : Unit → Heap → Prop} {h : Heap} (hx : ref19_Reader_eat r_0 s_1 R h) : CallT Tryd.prog 21 [.pointer r_0, .string s_1] h [] R :=
  call_of_fnX fnsOk mixed Tryd.func21 (by kernel_rfl) (by rw [ref19_Reader_eat_eq]; exact hx)

/-- (*stowage/stowageref19.Reader).name (22) -/
def ref19_Reader_name (x_0 : Option Addr) (R : ByteArray → Heap → Prop) (h : Heap) : Prop :=
  nn x_0 fun a1 =>
  ldI .i64 (a1.add 1) h fun n2 =>
  LoopT (σ := Int) (fun X4 s3 h5 => -- s3: t4
  withJ (σ := (Option Addr) × (Option Addr) × (Option Addr) × Int × Bool) (fun s6 h8 => -- s6: t12, t13, t14, t15, t16
  withJ (σ := Unit) (fun s9 h11 => -- s9: 
  X4 (w64 (s3 + 1)) h11) (fun J10 =>
  nn x_0 fun a12 =>
  ldI .i64 (a12.add 1) h8 fun n13 =>
  nn x_0 fun a14 =>
  ldL a14 h8 fun o15 l15 c15 =>
  cnd (n13 == (l15 : Int)) (
  nn x_0 fun a16 =>
  stC (a16.add 2) (.int .i64 307) h8 fun h17 =>
  J10 () h17) (
  nn x_0 fun a18 =>
  ldL a18 h8 fun o19 l19 c19 =>
  nn x_0 fun a20 =>
  ldI .i64 (a20.add 1) h8 fun n21 =>
  idx o19 l19 n21 fun a22 =>
  ldI .u8 (a22.add (n21.toNat * 1)) h8 fun n23 =>
  CallT Tryd.prog ref19_digit_no [.int .u8 n23] h8 [.sc (.bool)] fun (r24 : Bool) h25 =>
  cnd (!r24) (
  nn x_0 fun a26 =>
  stC (a26.add 2) (.int .i64 308) h25 fun h27 =>
  J10 () h27) (
  nn x_0 fun a28 =>
  ldI .i64 (a28.add 1) h25 fun n29 =>
  nn x_0 fun a30 =>
  stC (a30.add 1) (.int .i64 (w64 (n29 + 1))) h25 fun h31 =>
  J10 () h31)))) (fun J7 =>
  cnd (decide (s3 < 64)) (
  nn x_0 fun a32 =>
  ldI .i64 (a32.add 2) h5 fun n33 =>
  cnd (n33 == 0) (
  J7 (x_0, (some a32), (some (a32.add 2)), n33, (n33 == 0)) h5) (
  nn x_0 fun a34 =>
  ldL a34 h5 fun o35 l35 c35 =>
  nn x_0 fun a36 =>
  ldI .i64 (a36.add 1) h5 fun n37 =>
  lsl 1 o35 c35 n2 n37 (c35 : Int) fun o38 l38 c38 =>
  b2s o38 l38 h5 fun s39 =>
  R s39 h5)) (
  nn x_0 fun a40 =>
  ldL a40 h5 fun o41 l41 c41 =>
  nn x_0 fun a42 =>
  ldI .i64 (a42.add 1) h5 fun n43 =>
  lsl 1 o41 c41 n2 n43 (c41 : Int) fun o44 l44 c44 =>
  b2s o44 l44 h5 fun s45 =>
  R s45 h5))) 0 h
theorem ref19_Reader_name_eq (x_0 : Option Addr) (R : ByteArray → Heap → Prop) (h : Heap) : fnX Tryd.prog Fns.fns Tryd.f22 (.s .n (.s .n (.s (.s .n (.b (.l [(4, .int .i64)] (.j [(12, .ptr), (13, .ptr), (14, .ptr), (15, .int .i64), (16, .bool)] (.s .n (.s .n .n)) (.j [] (.b (.b (.s .n (.s .n (.s .n (.s .n .n)))))) .n))))) (.s .n .n)))) [.sc (.str)] [.pointer x_0] h R = ref19_Reader_name x_0 R h := by kernel_rfl
theorem ref19_Reader_name_call (x_0 : Option Addr) {R : ByteArray → Heap → Prop} {h : Heap} (hx : ref19_Reader_name x_0 R h) : CallT Tryd.prog 22 [.pointer x_0] h [.sc (.str)] R :=
  call_of_fnX fnsOk mixed Tryd.func22 (by kernel_rfl) (by rw [ref19_Reader_name_eq]; exact hx)

/-- stowage/stowageref19.hex (35) -/
def ref19_hex (n_0 : Int) (R : ByteArray → Heap → Prop) (h : Heap) : Prop :=
  LoopT (σ := Int × ByteArray) (fun X2 s1 h3 => -- s1: n, s
  cnd (decide (s1.1 > 15)) (
  ssl (⟨#[48, 49, 50, 51, 52, 53, 54, 55, 56, 57, 97, 98, 99, 100, 101, 102]⟩ : ByteArray) (s1.1.tmod 16) (w64 ((s1.1.tmod 16) + 1)) fun s4 =>
  ((s4.size + s1.2.size : Nat) : Int) ≤ 9223372036854775807 ∧
  X2 ((w64 (s1.1.tdiv 16)), (s4 ++ s1.2)) h3) (
  ssl (⟨#[48, 49, 50, 51, 52, 53, 54, 55, 56, 57, 97, 98, 99, 100, 101, 102]⟩ : ByteArray) s1.1 (w64 (s1.1 + 1)) fun s5 =>
  ((s5.size + s1.2.size : Nat) : Int) ≤ 9223372036854775807 ∧
  R (s5 ++ s1.2) h3)) (n_0, (⟨#[]⟩ : ByteArray)) h
theorem ref19_hex_eq (n_0 : Int) (R : ByteArray → Heap → Prop) (h : Heap) : fnX Tryd.prog Fns.fns Tryd.f35 (.s .n (.s .n (.s (.b (.l [(0, .int .i64), (3, .str)] (.s (.s .n (.s .n .n)) (.b (.s .n .n))))) (.s .n .n)))) [.sc (.str)] [.int .i64 n_0] h R = ref19_hex n_0 R h := by kernel_rfl
theorem ref19_hex_call (n_0 : Int) {R : ByteArray → Heap → Prop} {h : Heap} (hx : ref19_hex n_0 R h) : CallT Tryd.prog 35 [.int .i64 n_0] h [.sc (.str)] R :=
  call_of_fnX fnsOk mixed Tryd.func35 (by kernel_rfl) (by rw [ref19_hex_eq]; exact hx)

/-- stowage/stowageref19.digit (43) -/
def ref19_digit (c_0 : Int) (R : Bool → Heap → Prop) (h : Heap) : Prop :=
  withJ (σ := Bool) (fun s1 h3 => -- s1: t2
  R s1 h3) (fun J2 =>
  cnd (decide (c_0 ≥ 48)) (
  cnd (decide (c_0 ≤ 57)) (
  J2 true h) (
  cnd (decide (c_0 ≥ 97)) (
  J2 (decide (c_0 ≤ 102)) h) (
  J2 false h))) (
  cnd (decide (c_0 ≥ 97)) (
  J2 (decide (c_0 ≤ 102)) h) (
  J2 false h)))
theorem ref19_digit_eq (c_0 : Int) (R : Bool → Heap → Prop) (h : Heap) : fnX Tryd.prog Fns.fns Tryd.f43 (.s .n (.j [(2, .bool)] .n .n)) [.sc (.bool)] [.int .u8 c_0] h R = ref19_digit c_0 R h := by kernel_rfl
theorem ref19_digit_call (c_0 : Int) {R : Bool → Heap → Prop} {h : Heap} (hx : ref19_digit c_0 R h) : CallT Tryd.prog 43 [.int .u8 c_0] h [.sc (.bool)] R :=
  call_of_fnX fnsOk mixed Tryd.func43 (by kernel_rfl) (by rw [ref19_digit_eq]; exact hx)

/-- stowage/stowageref18.Sum (27) -/
def ref18_Sum (s_0 : ByteArray) (R : ByteArray → Heap → Prop) (h : Heap) : Prop :=
  s2b s_0 5 h fun a1 c2 h3 =>
  CallT Tryd.prog ref2_SHA256_no [.slice (some a1) s_0.size c2] h3 [.sc (.sl)] fun (r4 : Sl) h5 =>
  CallT Tryd.prog ref1_Hex_no [.slice r4.a r4.len r4.cap] h5 [.sc (.str)] fun (r6 : ByteArray) h7 =>
  R r6 h7
theorem ref18_Sum_eq (s_0 : ByteArray) (R : ByteArray → Heap → Prop) (h : Heap) : fnX Tryd.prog Fns.fns Tryd.f27 (.s .n (.s .n .n)) [.sc (.str)] [.string s_0] h R = ref18_Sum s_0 R h := by kernel_rfl
theorem ref18_Sum_call (s_0 : ByteArray) {R : ByteArray → Heap → Prop} {h : Heap} (hx : ref18_Sum s_0 R h) : CallT Tryd.prog 27 [.string s_0] h [.sc (.str)] R :=
  call_of_fnX fnsOk mixed Tryd.func27 (by kernel_rfl) (by rw [ref18_Sum_eq]; exact hx)

/-- stowage/stowageref1.Hex (28) -/
def ref1_Hex (b_0 : Sl) (R : ByteArray → Heap → Prop) (h : Heap) : Prop :=
  LoopT (σ := ByteArray × Int) (fun X2 s1 h3 => -- s1: s, i
  cnd (decide (s1.2 < (b_0.len : Int))) (
  idx b_0.a b_0.len s1.2 fun a4 =>
  ldI .u8 (a4.add (s1.2.toNat * 1)) h3 fun n5 =>
  idx b_0.a b_0.len s1.2 fun a6 =>
  ldI .u8 (a6.add (s1.2.toNat * 1)) h3 fun n7 =>
  CallT Tryd.prog ref1_digit_no [.int .i64 (w64 ((w64 (n5)).tdiv 16))] h3 [.sc (.str)] fun (r8 : ByteArray) h9 =>
  (ldI .u8 (a6.add (s1.2.toNat * 1)) h9 fun n10 =>
  (.int .u8 n10 : Value) = .int .u8 n7) ∧
  ((s1.1.size + r8.size : Nat) : Int) ≤ 9223372036854775807 ∧
  CallT Tryd.prog ref1_digit_no [.int .i64 ((w64 (n7)).tmod 16)] h9 [.sc (.str)] fun (r11 : ByteArray) h12 =>
  (((s1.1 ++ r8).size + r11.size : Nat) : Int) ≤ 9223372036854775807 ∧
  X2 (((s1.1 ++ r8) ++ r11), (w64 (s1.2 + 1))) h12) (
  R s1.1 h3)) ((⟨#[]⟩ : ByteArray), 0) h
theorem ref1_Hex_eq (b_0 : Sl) (R : ByteArray → Heap → Prop) (h : Heap) : fnX Tryd.prog Fns.fns Tryd.f28 (.s .n (.s .n (.s (.s .n (.b (.l [(3, .str), (4, .int .i64)] (.s (.s .n (.s .n .n)) (.s (.b .n) .n))))) (.s .n .n)))) [.sc (.str)] [.slice b_0.a b_0.len b_0.cap] h R = ref1_Hex b_0 R h := by kernel_rfl
theorem ref1_Hex_call (b_0 : Sl) {R : ByteArray → Heap → Prop} {h : Heap} (hx : ref1_Hex b_0 R h) : CallT Tryd.prog 28 [.slice b_0.a b_0.len b_0.cap] h [.sc (.str)] R :=
  call_of_fnX fnsOk mixed Tryd.func28 (by kernel_rfl) (by rw [ref1_Hex_eq]; exact hx)

/-- stowage/stowageref1.digit (50) -/
def ref1_digit (n_0 : Int) (R : ByteArray → Heap → Prop) (h : Heap) : Prop :=
  ssl (⟨#[48, 49, 50, 51, 52, 53, 54, 55, 56, 57, 97, 98, 99, 100, 101, 102]⟩ : ByteArray) n_0 (w64 (n_0 + 1)) fun s1 =>
  R s1 h
theorem ref1_digit_eq (n_0 : Int) (R : ByteArray → Heap → Prop) (h : Heap) : fnX Tryd.prog Fns.fns Tryd.f50 (.s .n (.s .n .n)) [.sc (.str)] [.int .i64 n_0] h R = ref1_digit n_0 R h := by kernel_rfl
theorem ref1_digit_call (n_0 : Int) {R : ByteArray → Heap → Prop} {h : Heap} (hx : ref1_digit n_0 R h) : CallT Tryd.prog 50 [.int .i64 n_0] h [.sc (.str)] R :=
  call_of_fnX fnsOk mixed Tryd.func50 (by kernel_rfl) (by rw [ref1_digit_eq]; exact hx)

/-- stowage/stowageref16.All (38) -/
def ref16_All (l_0 : Sl) (name_1 : ByteArray) (R : Sl → Heap → Prop) (h : Heap) : Prop :=
  LoopT (σ := Sl × Int) (fun X2 s1 h3 => -- s1: out, i
  cnd (decide (s1.2 < (l_0.len : Int))) (
  withJ (σ := Sl) (fun s4 h6 => -- s4: out
  X2 (s4, (w64 (s1.2 + 1))) h6) (fun J5 =>
  idx l_0.a l_0.len s1.2 fun a7 =>
  ldS (a7.add (s1.2.toNat * 2)) h3 fun s8 =>
  cnd (seq s8 name_1) (
  idx l_0.a l_0.len s1.2 fun a9 =>
  ldS ((a9.add (s1.2.toNat * 2)).add 1) h3 fun s10 =>
  newB [.string s10] 9 h3 fun a11 h12 =>
  ldRow (1 * 1) a11 h12 fun cs16 =>
  app [.string (⟨#[]⟩ : ByteArray)] 9 1 16 s1.1.a s1.1.len s1.1.cap cs16 1 h12 fun o13 c14 h15 =>
  J5 (⟨o13, (s1.1.len + 1), c14⟩ : Sl) h15) (
  J5 s1.1 h3))) (
  R s1.1 h3)) ((⟨none, 0, 0⟩ : Sl), 0) h
theorem ref16_All_eq (l_0 : Sl) (name_1 : ByteArray) (R : Sl → Heap → Prop) (h : Heap) : fnX Tryd.prog Fns.fns Tryd.f38 (.s .n (.s .n (.s (.s .n (.b (.l [(5, .sl), (6, .int .i64)] (.s (.s .n (.s .n .n)) (.j [(5, .sl)] (.b (.s .n (.s .n .n))) .n))))) (.s .n .n)))) [.sc (.sl)] [.slice l_0.a l_0.len l_0.cap, .string name_1] h R = ref16_All l_0 name_1 R h := by kernel_rfl
theorem ref16_All_call (l_0 : Sl) (name_1 : ByteArray) {R : Sl → Heap → Prop} {h : Heap} (hx : ref16_All l_0 name_1 R h) : CallT Tryd.prog 38 [.slice l_0.a l_0.len l_0.cap, .string name_1] h [.sc (.sl)] R :=
  call_of_fnX fnsOk mixed Tryd.func38 (by kernel_rfl) (by rw [ref16_All_eq]; exact hx)

/-- stowage/stowageref1.Int (39) -/
def ref1_Int (s_0 : ByteArray) (R : Int × Bool → Heap → Prop) (h : Heap) : Prop :=
  withJ (σ := Unit) (fun s1 h3 => -- s1: 
  LoopT (σ := Int × Int) (fun X5 s4 h6 => -- s4: n, i
  cnd (decide (s4.2 < (s_0.size : Int))) (
  withJ (σ := Int) (fun s7 h9 => -- s7: n
  X5 (s7, (w64 (s4.2 + 1))) h9) (fun J8 =>
  withJ (σ := Unit) (fun s10 h12 => -- s10: 
  sidx s_0 s4.2 fun u13 =>
  J8 (w64 ((w64 (10 * s4.1)) + (w64 ((IntKind.u8.wrap ((u13.toNat : Int) - 48)))))) h12) (fun J11 =>
  withJ (σ := Bool) (fun s14 h16 => -- s14: t39
  cnd s14 (
  R (0, false) h16) (
  J11 () h16)) (fun J15 =>
  sidx s_0 s4.2 fun u17 =>
  cnd (decide ((u17.toNat : Int) < 48)) (
  J15 true h6) (
  sidx s_0 s4.2 fun u18 =>
  J15 (decide ((u18.toNat : Int) > 57)) h6))))) (
  R (s4.1, true) h6)) (0, 0) h3) (fun J2 =>
  withJ (σ := Bool) (fun s19 h21 => -- s19: t23
  cnd s19 (
  R (0, false) h21) (
  J2 () h21)) (fun J20 =>
  cnd ((s_0.size : Int) == 0) (
  J20 true h) (
  cnd (decide ((s_0.size : Int) > 18)) (
  J20 true h) (
  sidx s_0 0 fun u22 =>
  cnd ((u22.toNat : Int) == 48) (
  J20 (decide ((s_0.size : Int) > 1)) h) (
  J20 false h)))))
theorem ref1_Int_eq (s_0 : ByteArray) (R : Int × Bool → Heap → Prop) (h : Heap) : fnX Tryd.prog Fns.fns Tryd.f39 (.s .n (.j [] (.j [(23, .bool)] .n (.s (.s .n .n) .n)) (.s .n (.s (.s .n (.b (.l [(4, .int .i64), (5, .int .i64)] (.s (.s .n (.s .n .n)) (.j [(4, .int .i64)] (.b (.j [] (.j [(39, .bool)] .n (.s (.s .n .n) .n)) .n)) .n))))) (.s .n .n))))) [.sc (.int .i64), .sc (.bool)] [.string s_0] h R = ref1_Int s_0 R h := by kernel_rfl
theorem ref1_Int_call (s_0 : ByteArray) {R : Int × Bool → Heap → Prop} {h : Heap} (hx : ref1_Int s_0 R h) : CallT Tryd.prog 39 [.string s_0] h [.sc (.int .i64), .sc (.bool)] R :=
  call_of_fnX fnsOk mixed Tryd.func39 (by kernel_rfl) (by rw [ref1_Int_eq]; exact hx)

/-- stowage/stowageref3.Digit (44) -/
def ref3_Digit (c_0 : Int) (R : Int → Heap → Prop) (h : Heap) : Prop :=
  withJ (σ := Unit) (fun s1 h3 => -- s1: 
  R (-1) h3) (fun J2 =>
  withJ (σ := Bool) (fun s4 h6 => -- s4: t3
  cnd s4 (
  R (w64 ((IntKind.u8.wrap (c_0 - 48)))) h6) (
  withJ (σ := Bool) (fun s7 h9 => -- s7: t13
  cnd s7 (
  R (w64 ((w64 ((IntKind.u8.wrap (c_0 - 97)))) + 10)) h9) (
  withJ (σ := Bool) (fun s10 h12 => -- s10: t24
  cnd s10 (
  R (w64 ((w64 ((IntKind.u8.wrap (c_0 - 65)))) + 10)) h12) (
  J2 () h12)) (fun J11 =>
  cnd (decide (c_0 ≥ 65)) (
  J11 (decide (c_0 ≤ 70)) h9) (
  J11 false h9)))) (fun J8 =>
  cnd (decide (c_0 ≥ 97)) (
  J8 (decide (c_0 ≤ 102)) h6) (
  J8 false h6)))) (fun J5 =>
  cnd (decide (c_0 ≥ 48)) (
  J5 (decide (c_0 ≤ 57)) h) (
  J5 false h)))
theorem ref3_Digit_eq (c_0 : Int) (R : Int → Heap → Prop) (h : Heap) : fnX Tryd.prog Fns.fns Tryd.f44 (.s .n (.j [] (.b (.j [(3, .bool)] .n (.s (.s .n .n) (.j [(13, .bool)] .n (.s (.s .n .n) (.j [(24, .bool)] .n (.s (.s .n .n) .n))))))) (.s .n .n))) [.sc (.int .i64)] [.int .u8 c_0] h R = ref3_Digit c_0 R h := by kernel_rfl
theorem ref3_Digit_call (c_0 : Int) {R : Int → Heap → Prop} {h : Heap} (hx : ref3_Digit c_0 R h) : CallT Tryd.prog 44 [.int .u8 c_0] h [.sc (.int .i64)] R :=
  call_of_fnX fnsOk mixed Tryd.func44 (by kernel_rfl) (by rw [ref3_Digit_eq]; exact hx)

end Go.Proofs.YtncffbocmpmejaaDoor
