/- Go functions as short texts over the heap, and that each is what the loaded function comes to (the kernel compares them); written by a program. -/
import Derived.Test.YtncffbocmpmejaaDoorGBase
set_option linter.unusedVariables false
set_option maxRecDepth 100000
namespace Go.Proofs.YtncffbocmpmejaaDoor
open Go D
/-- stowage/chunk.Decode (9) -/
def chunk_Decode (w_0 : ByteArray × ByteArray × ByteArray × ByteArray × Sl × ByteArray) (body_1 : Sl) (size_2 : Int) (R : Sl × Int → Heap → Prop) (h : Heap) : Prop :=
  newB [.string w_0.1, .string w_0.2.1, .string w_0.2.2.1, .string w_0.2.2.2.1, .slice w_0.2.2.2.2.1.a w_0.2.2.2.2.1.len w_0.2.2.2.2.1.cap, .string w_0.2.2.2.2.2] 24 h fun a1 h2 =>
  ldS (a1.add 3) h2 fun s3 =>
  b2s body_1.a body_1.len h2 fun s4 =>
  LoopT (σ := Sl × ByteArray × ByteArray) (fun X6 s5 h7 => -- s5: out, last, s
  CallT Tryd.prog chunk_piece_no [.string s5.2.2] h7 [.sc (.str), .sc (.str), .sc (.str), .sc (.int .i64)] fun (r8 : ByteArray × ByteArray × ByteArray × Int) h9 =>
  cnd (r8.2.2.2 != 0) (
  R ((⟨none, 0, 0⟩ : Sl), r8.2.2.2) h9) (
  ldS a1 h9 fun s10 =>
  ldS (a1.add 1) h9 fun s11 =>
  ldS (a1.add 2) h9 fun s12 =>
  ldS (a1.add 3) h9 fun s13 =>
  ldL (a1.add 4) h9 fun o14 l14 c14 =>
  ldS (a1.add 5) h9 fun s15 =>
  s2b r8.2.1 5 h9 fun a16 c17 h18 =>
  CallT Tryd.prog chunk_Sign_no [.agg #[.string s10, .string s11, .string s12, .string s13, .slice o14 l14 c14, .string s15], .string s5.2.1, .slice (some a16) r8.2.1.size c17] h18 [.sc (.str)] fun (r19 : ByteArray) h20 =>
  cnd (!seq r19 r8.1) (
  R ((⟨none, 0, 0⟩ : Sl), 301) h20) (
  cnd (seq r8.2.1 (⟨#[]⟩ : ByteArray)) (
  cnd ((s5.1.len : Int) != size_2) (
  R ((⟨none, 0, 0⟩ : Sl), 307) h20) (
  lsl 1 s5.1.a s5.1.cap 0 (s5.1.len : Int) (s5.1.len : Int) fun o21 l21 c21 =>
  R ((⟨o21, l21, c21⟩ : Sl), 0) h20)) (
  app [.int .u8 0] 5 1 1 s5.1.a s5.1.len s5.1.cap (bytesV r8.2.1) r8.2.1.size h20 fun o22 c23 h24 =>
  X6 ((⟨o22, (s5.1.len + r8.2.1.size), c23⟩ : Sl), r8.1, r8.2.2.1) h24)))) ((⟨none, 0, 0⟩ : Sl), s3, s4) h2
theorem chunk_Decode_eq (w_0 : ByteArray × ByteArray × ByteArray × ByteArray × Sl × ByteArray) (body_1 : Sl) (size_2 : Int) (R : Sl × Int → Heap → Prop) (h : Heap) : fnX Tryd.prog Fns.fns Tryd.f9 (.s .n (.b (.s .n (.s .n (.s .n (.s .n (.s (.b (.l [(8, .sl), (9, .str), (10, .str)] (.b (.s .n (.s (.s .n (.s (.s .n .n) .n)) (.s (.s .n (.s (.s .n .n) .n)) (.s (.s .n (.s .n .n)) (.s .n .n)))))))) (.s (.s .n (.s (.s .n .n) .n)) (.s .n .n))))))))) [.sc (.sl), .sc (.int .i64)] [.agg #[.string w_0.1, .string w_0.2.1, .string w_0.2.2.1, .string w_0.2.2.2.1, .slice w_0.2.2.2.2.1.a w_0.2.2.2.2.1.len w_0.2.2.2.2.1.cap, .string w_0.2.2.2.2.2], .slice body_1.a body_1.len body_1.cap, .int .i64 size_2] h R = chunk_Decode w_0 body_1 size_2 R h := by kernel_rfl
theorem chunk_Decode_call (w_0 : ByteArray × ByteArray × ByteArray × ByteArray × Sl × ByteArray) (body_1 : Sl) (size_2 : Int) {R : Sl × Int → Heap → Prop} {h : Heap} (hx : chunk_Decode w_0 body_1 size_2 R h) : CallT Tryd.prog 9 [.agg #[.string w_0.1, .string w_0.2.1, .string w_0.2.2.1, .string w_0.2.2.2.1, .slice w_0.2.2.2.2.1.a w_0.2.2.2.2.1.len w_0.2.2.2.2.1.cap, .string w_0.2.2.2.2.2], .slice body_1.a body_1.len body_1.cap, .int .i64 size_2] h [.sc (.sl), .sc (.int .i64)] R :=
  call_of_fnX fnsOk mixed Tryd.func9 (by kernel_rfl) (by rw [chunk_Decode_eq]; exact hx)

/-- stowage/chunk.Sign (12) -/
def chunk_Sign (w_0 : ByteArray × ByteArray × ByteArray × ByteArray × Sl × ByteArray) (last_1 : ByteArray) (data_2 : Sl) (R : ByteArray → Heap → Prop) (h : Heap) : Prop :=
  newB [.string w_0.1, .string w_0.2.1, .string w_0.2.2.1, .string w_0.2.2.2.1, .slice w_0.2.2.2.2.1.a w_0.2.2.2.2.1.len w_0.2.2.2.2.1.cap, .string w_0.2.2.2.2.2] 24 h fun a1 h2 =>
  ldS (a1.add 1) h2 fun s3 =>
  ldS (a1.add 2) h2 fun s4 =>
  CallT Tryd.prog hash_SHA256_no [.slice none 0 0] h2 [.sc (.sl)] fun (r5 : Sl) h6 =>
  (ldS (a1.add 2) h6 fun s7 =>
  (.string s7 : Value) = .string s4) ∧
  (ldS (a1.add 1) h6 fun s8 =>
  (.string s8 : Value) = .string s3) ∧
  CallT Tryd.prog enc_Hex_no [.slice r5.a r5.len r5.cap] h6 [.sc (.str)] fun (r9 : ByteArray) h10 =>
  (ldS (a1.add 2) h10 fun s11 =>
  (.string s11 : Value) = .string s4) ∧
  (ldS (a1.add 1) h10 fun s12 =>
  (.string s12 : Value) = .string s3) ∧
  CallT Tryd.prog hash_SHA256_no [.slice data_2.a data_2.len data_2.cap] h10 [.sc (.sl)] fun (r13 : Sl) h14 =>
  (ldS (a1.add 2) h14 fun s15 =>
  (.string s15 : Value) = .string s4) ∧
  (ldS (a1.add 1) h14 fun s16 =>
  (.string s16 : Value) = .string s3) ∧
  CallT Tryd.prog enc_Hex_no [.slice r13.a r13.len r13.cap] h14 [.sc (.str)] fun (r17 : ByteArray) h18 =>
  (ldS (a1.add 2) h18 fun s19 =>
  (.string s19 : Value) = .string s4) ∧
  (ldS (a1.add 1) h18 fun s20 =>
  (.string s20 : Value) = .string s3) ∧
  newB [.string (⟨#[65, 87, 83, 52, 45, 72, 77, 65, 67, 45, 83, 72, 65, 50, 53, 54, 45, 80, 65, 89, 76, 79, 65, 68]⟩ : ByteArray), .string s3, .string s4, .string last_1, .string r9, .string r17] 9 h18 fun a21 h22 =>
  CallT Tryd.prog strings_Join_no [.slice (some a21) 6 6, .string (⟨#[10]⟩ : ByteArray)] h22 [.sc (.str)] fun (r23 : ByteArray) h24 =>
  ldL (a1.add 4) h24 fun o25 l25 c25 =>
  s2b r23 5 h24 fun a26 c27 h28 =>
  CallT Tryd.prog hash_HMAC_no [.slice o25 l25 c25, .slice (some a26) r23.size c27] h28 [.sc (.sl)] fun (r29 : Sl) h30 =>
  CallT Tryd.prog enc_Hex_no [.slice r29.a r29.len r29.cap] h30 [.sc (.str)] fun (r31 : ByteArray) h32 =>
  R r31 h32
theorem chunk_Sign_eq (w_0 : ByteArray × ByteArray × ByteArray × ByteArray × Sl × ByteArray) (last_1 : ByteArray) (data_2 : Sl) (R : ByteArray → Heap → Prop) (h : Heap) : fnX Tryd.prog Fns.fns Tryd.f12 (.s .n (.s .n (.s .n .n))) [.sc (.str)] [.agg #[.string w_0.1, .string w_0.2.1, .string w_0.2.2.1, .string w_0.2.2.2.1, .slice w_0.2.2.2.2.1.a w_0.2.2.2.2.1.len w_0.2.2.2.2.1.cap, .string w_0.2.2.2.2.2], .string last_1, .slice data_2.a data_2.len data_2.cap] h R = chunk_Sign w_0 last_1 data_2 R h := by kernel_rfl
theorem chunk_Sign_call (w_0 : ByteArray × ByteArray × ByteArray × ByteArray × Sl × ByteArray) (last_1 : ByteArray) (data_2 : Sl) {R : ByteArray → Heap → Prop} {h : Heap} (hx : chunk_Sign w_0 last_1 data_2 R h) : CallT Tryd.prog 12 [.agg #[.string w_0.1, .string w_0.2.1, .string w_0.2.2.1, .string w_0.2.2.2.1, .slice w_0.2.2.2.2.1.a w_0.2.2.2.2.1.len w_0.2.2.2.2.1.cap, .string w_0.2.2.2.2.2], .string last_1, .slice data_2.a data_2.len data_2.cap] h [.sc (.str)] R :=
  call_of_fnX fnsOk mixed Tryd.func12 (by kernel_rfl) (by rw [chunk_Sign_eq]; exact hx)

/-- stowage/chunk.Encode (15) -/
def chunk_Encode (w_0 : ByteArray × ByteArray × ByteArray × ByteArray × Sl × ByteArray) (data_1 : Sl) (sizes_2 : Sl) (R : Sl → Heap → Prop) (h : Heap) : Prop :=
  newB [.string w_0.1, .string w_0.2.1, .string w_0.2.2.1, .string w_0.2.2.2.1, .slice w_0.2.2.2.2.1.a w_0.2.2.2.2.1.len w_0.2.2.2.2.1.cap, .string w_0.2.2.2.2.2] 24 h fun a1 h2 =>
  newB [.pointer none, .slice none 0 0] 65 h2 fun a3 h4 =>
  ldS (a1.add 3) h4 fun s5 =>
  newB [.string (⟨#[]⟩ : ByteArray)] 9 h4 fun a6 h7 =>
  stC a6 (.string s5) h7 fun h8 =>
  LoopT (σ := Sl × Int) (fun X10 s9 h11 => -- s9: data, t17
  cnd (decide (s9.2 < (sizes_2.len : Int))) (
  withJ (σ := Sl) (fun s12 h14 => -- s12: data
  X10 (s12, (w64 (s9.2 + 1))) h14) (fun J13 =>
  idx sizes_2.a sizes_2.len s9.2 fun a15 =>
  ldI .i64 (a15.add (s9.2.toNat * 1)) h11 fun n16 =>
  withJ (σ := Sl × Int × Bool) (fun s17 h19 => -- s17: t24, t25, t26
  lsl 1 s9.1.a s9.1.cap 0 (minI n16 (s9.1.len : Int)) (s9.1.cap : Int) fun o20 l20 c20 =>
  CallT Tryd.prog chunk_Encode_1_no [.slice o20 l20 c20, .pointer (some a1), .pointer (some a6), .pointer (some a3)] h19 [] fun (r21 : Unit) h22 =>
  lsl 1 s9.1.a s9.1.cap (minI n16 (s9.1.len : Int)) (s9.1.len : Int) (s9.1.cap : Int) fun o23 l23 c23 =>
  J13 (⟨o23, l23, c23⟩ : Sl) h22) (fun J18 =>
  cnd (decide (n16 < 1)) (
  J13 s9.1 h11) (
  cnd ((s9.1.len : Int) == 0) (
  J13 s9.1 h11) (
  J18 (s9.1, (s9.1.len : Int), ((s9.1.len : Int) == 0)) h11))))) (
  withJ (σ := Unit) (fun s24 h26 => -- s24: 
  CallT Tryd.prog chunk_Encode_1_no [.slice none 0 0, .pointer (some a1), .pointer (some a6), .pointer (some a3)] h26 [] fun (r27 : Unit) h28 =>
  CallT Tryd.prog strings_Builder_String_no [.pointer (some a3)] h28 [.sc (.str)] fun (r29 : ByteArray) h30 =>
  s2b r29 5 h30 fun a31 c32 h33 =>
  R (⟨(some a31), r29.size, c32⟩ : Sl) h33) (fun J25 =>
  cnd (decide ((s9.1.len : Int) > 0)) (
  CallT Tryd.prog chunk_Encode_1_no [.slice s9.1.a s9.1.len s9.1.cap, .pointer (some a1), .pointer (some a6), .pointer (some a3)] h11 [] fun (r34 : Unit) h35 =>
  J25 () h35) (
  J25 () h11)))) (data_1, 0) h8
theorem chunk_Encode_eq (w_0 : ByteArray × ByteArray × ByteArray × ByteArray × Sl × ByteArray) (data_1 : Sl) (sizes_2 : Sl) (R : Sl → Heap → Prop) (h : Heap) : fnX Tryd.prog Fns.fns Tryd.f15 (.s .n (.s .n (.s .n (.s .n (.s (.s .n (.b (.l [(1, .sl), (17, .int .i64)] (.s .n (.s (.s .n .n) (.j [(1, .sl)] (.b (.s .n (.j [(24, .sl), (25, .int .i64), (26, .bool)] (.s .n (.s .n .n)) (.s .n (.s .n .n))))) .n)))))) (.j [] (.s .n (.s .n .n)) (.s .n (.s .n .n)))))))) [.sc (.sl)] [.agg #[.string w_0.1, .string w_0.2.1, .string w_0.2.2.1, .string w_0.2.2.2.1, .slice w_0.2.2.2.2.1.a w_0.2.2.2.2.1.len w_0.2.2.2.2.1.cap, .string w_0.2.2.2.2.2], .slice data_1.a data_1.len data_1.cap, .slice sizes_2.a sizes_2.len sizes_2.cap] h R = chunk_Encode w_0 data_1 sizes_2 R h := by kernel_rfl
theorem chunk_Encode_call (w_0 : ByteArray × ByteArray × ByteArray × ByteArray × Sl × ByteArray) (data_1 : Sl) (sizes_2 : Sl) {R : Sl → Heap → Prop} {h : Heap} (hx : chunk_Encode w_0 data_1 sizes_2 R h) : CallT Tryd.prog 15 [.agg #[.string w_0.1, .string w_0.2.1, .string w_0.2.2.1, .string w_0.2.2.2.1, .slice w_0.2.2.2.2.1.a w_0.2.2.2.2.1.len w_0.2.2.2.2.1.cap, .string w_0.2.2.2.2.2], .slice data_1.a data_1.len data_1.cap, .slice sizes_2.a sizes_2.len sizes_2.cap] h [.sc (.sl)] R :=
  call_of_fnX fnsOk mixed Tryd.func15 (by kernel_rfl) (by rw [chunk_Encode_eq]; exact hx)

/-- stowage/chunk.Encode$1 (30) -/
def chunk_Encode_1 (d_0 : Sl) (free_0 : Option Addr) (free_1 : Option Addr) (free_2 : Option Addr) (R : Unit → Heap → Prop) (h : Heap) : Prop :=
  nn free_0 fun a1 =>
  ldS a1 h fun s2 =>
  ldS (a1.add 1) h fun s3 =>
  ldS (a1.add 2) h fun s4 =>
  ldS (a1.add 3) h fun s5 =>
  ldL (a1.add 4) h fun o6 l6 c6 =>
  ldS (a1.add 5) h fun s7 =>
  nn free_1 fun a8 =>
  ldS a8 h fun s9 =>
  CallT Tryd.prog chunk_Sign_no [.agg #[.string s2, .string s3, .string s4, .string s5, .slice o6 l6 c6, .string s7], .string s9, .slice d_0.a d_0.len d_0.cap] h [.sc (.str)] fun (r10 : ByteArray) h11 =>
  nn free_1 fun a12 =>
  stC a12 (.string r10) h11 fun h13 =>
  newB [.int .u8 (IntKind.u8.wrap ((shrI .i64 (d_0.len : Int) 24))), .int .u8 (IntKind.u8.wrap ((shrI .i64 (d_0.len : Int) 16))), .int .u8 (IntKind.u8.wrap ((shrI .i64 (d_0.len : Int) 8))), .int .u8 (IntKind.u8.wrap ((d_0.len : Int)))] 5 h13 fun a14 h15 =>
  CallT Tryd.prog enc_Hex_no [.slice (some a14) 4 4] h15 [.sc (.str)] fun (r16 : ByteArray) h17 =>
  CallT Tryd.prog strings_TrimLeft_no [.string r16, .string (⟨#[48]⟩ : ByteArray)] h17 [.sc (.str)] fun (r18 : ByteArray) h19 =>
  withJ (σ := ByteArray) (fun s20 h22 => -- s20: n
  ((s20.size + (⟨#[59, 99, 104, 117, 110, 107, 45, 115, 105, 103, 110, 97, 116, 117, 114, 101, 61]⟩ : ByteArray).size : Nat) : Int) ≤ 9223372036854775807 ∧
  nn free_1 fun a23 =>
  ldS a23 h22 fun s24 =>
  (((s20 ++ (⟨#[59, 99, 104, 117, 110, 107, 45, 115, 105, 103, 110, 97, 116, 117, 114, 101, 61]⟩ : ByteArray)).size + s24.size : Nat) : Int) ≤ 9223372036854775807 ∧
  ((((s20 ++ (⟨#[59, 99, 104, 117, 110, 107, 45, 115, 105, 103, 110, 97, 116, 117, 114, 101, 61]⟩ : ByteArray)) ++ s24).size + (⟨#[13, 10]⟩ : ByteArray).size : Nat) : Int) ≤ 9223372036854775807 ∧
  CallT Tryd.prog strings_Builder_WriteString_no [.pointer free_2, .string (((s20 ++ (⟨#[59, 99, 104, 117, 110, 107, 45, 115, 105, 103, 110, 97, 116, 117, 114, 101, 61]⟩ : ByteArray)) ++ s24) ++ (⟨#[13, 10]⟩ : ByteArray))] h22 [.sc (.int .i64), .sc (.raw)] fun (r25 : Int × Value) h26 =>
  CallT Tryd.prog strings_Builder_Write_no [.pointer free_2, .slice d_0.a d_0.len d_0.cap] h26 [.sc (.int .i64), .sc (.raw)] fun (r27 : Int × Value) h28 =>
  CallT Tryd.prog strings_Builder_WriteString_no [.pointer free_2, .string (⟨#[13, 10]⟩ : ByteArray)] h28 [.sc (.int .i64), .sc (.raw)] fun (r29 : Int × Value) h30 =>
  R () h30) (fun J21 =>
  cnd (seq r18 (⟨#[]⟩ : ByteArray)) (
  J21 (⟨#[48]⟩ : ByteArray) h19) (
  J21 r18 h19))
theorem chunk_Encode_1_eq (d_0 : Sl) (free_0 : Option Addr) (free_1 : Option Addr) (free_2 : Option Addr) (R : Unit → Heap → Prop) (h : Heap) : fnX Tryd.prog Fns.fns Tryd.f30 (.s .n (.s .n (.j [(5, .str)] (.s .n (.s .n .n)) (.s .n (.s .n .n))))) [] [.slice d_0.a d_0.len d_0.cap, .pointer free_0, .pointer free_1, .pointer free_2] h R = chunk_Encode_1 d_0 free_0 free_1 free_2 R h := by kernel_rfl
theorem chunk_Encode_1_call (d_0 : Sl) (free_0 : Option Addr) (free_1 : Option Addr) (free_2 : Option Addr) {R : Unit → Heap → Prop} {h : Heap} (hx : chunk_Encode_1 d_0 free_0 free_1 free_2 R h) : CallT Tryd.prog 30 [.slice d_0.a d_0.len d_0.cap, .pointer free_0, .pointer free_1, .pointer free_2] h [] R :=
  call_of_fnX fnsOk mixed Tryd.func30 (by kernel_rfl) (by rw [chunk_Encode_1_eq]; exact hx)

/-- stowage/chunk.Body (17) -/
def chunk_Body (w_0 : ByteArray × ByteArray × ByteArray × ByteArray × Sl × ByteArray) (r_1 : ByteArray × ByteArray × Sl × Sl) (R : Sl × Int → Heap → Prop) (h : Heap) : Prop :=
  newB [.string w_0.1, .string w_0.2.1, .string w_0.2.2.1, .string w_0.2.2.2.1, .slice w_0.2.2.2.2.1.a w_0.2.2.2.2.1.len w_0.2.2.2.2.1.cap, .string w_0.2.2.2.2.2] 24 h fun a1 h2 =>
  newB [.string r_1.1, .string r_1.2.1, .slice r_1.2.2.1.a r_1.2.2.1.len r_1.2.2.1.cap, .slice r_1.2.2.2.a r_1.2.2.2.len r_1.2.2.2.cap] 45 h2 fun a3 h4 =>
  ldS (a1.add 5) h4 fun s5 =>
  cnd (!seq s5 (⟨#[83, 84, 82, 69, 65, 77, 73, 78, 71, 45, 65, 87, 83, 52, 45, 72, 77, 65, 67, 45, 83, 72, 65, 50, 53, 54, 45, 80, 65, 89, 76, 79, 65, 68]⟩ : ByteArray)) (
  ldL (a3.add 3) h4 fun o6 l6 c6 =>
  rdCells o6 (l6 * 1) h4 fun cs10 =>
  app [.int .u8 0] 5 1 1 none 0 0 cs10 l6 h4 fun o7 c8 h9 =>
  R ((⟨o7, (0 + l6), c8⟩ : Sl), 0) h9) (
  ldL (a3.add 2) h4 fun o11 l11 c11 =>
  CallT Tryd.prog http_All_no [.slice o11 l11 c11, .string (⟨#[120, 45, 97, 109, 122, 45, 100, 101, 99, 111, 100, 101, 100, 45, 99, 111, 110, 116, 101, 110, 116, 45, 108, 101, 110, 103, 116, 104]⟩ : ByteArray)] h4 [.sc (.sl)] fun (r12 : Sl) h13 =>
  cnd ((r12.len : Int) != 1) (
  R ((⟨none, 0, 0⟩ : Sl), 319) h13) (
  idx r12.a r12.len 0 fun a14 =>
  ldS (a14.add ((0 : Int).toNat * 1)) h13 fun s15 =>
  CallT Tryd.prog enc_Int_no [.string s15] h13 [.sc (.int .i64), .sc (.bool)] fun (r16 : Int × Bool) h17 =>
  withJ (σ := Unit) (fun s18 h20 => -- s18: 
  ldS a1 h20 fun s21 =>
  ldS (a1.add 1) h20 fun s22 =>
  ldS (a1.add 2) h20 fun s23 =>
  ldS (a1.add 3) h20 fun s24 =>
  ldL (a1.add 4) h20 fun o25 l25 c25 =>
  ldS (a1.add 5) h20 fun s26 =>
  ldL (a3.add 3) h20 fun o27 l27 c27 =>
  CallT Tryd.prog chunk_Decode_no [.agg #[.string s21, .string s22, .string s23, .string s24, .slice o25 l25 c25, .string s26], .slice o27 l27 c27, .int .i64 r16.1] h20 [.sc (.sl), .sc (.int .i64)] fun (r28 : Sl × Int) h29 =>
  R (r28.1, r28.2) h29) (fun J19 =>
  withJ (σ := Bool) (fun s30 h32 => -- s30: t33
  cnd s30 (
  R ((⟨none, 0, 0⟩ : Sl), 319) h32) (
  J19 () h32)) (fun J31 =>
  cnd (!r16.2) (
  J31 true h17) (
  J31 (decide (r16.1 > 1048576)) h17)))))
theorem chunk_Body_eq (w_0 : ByteArray × ByteArray × ByteArray × ByteArray × Sl × ByteArray) (r_1 : ByteArray × ByteArray × Sl × Sl) (R : Sl × Int → Heap → Prop) (h : Heap) : fnX Tryd.prog Fns.fns Tryd.f17 (.s .n (.s (.s .n (.s (.s .n .n) .n)) (.s .n (.s (.s .n (.s (.s .n .n) .n)) (.s .n (.j [] (.j [(33, .bool)] .n (.s (.s .n .n) .n)) (.s .n .n))))))) [.sc (.sl), .sc (.int .i64)] [.agg #[.string w_0.1, .string w_0.2.1, .string w_0.2.2.1, .string w_0.2.2.2.1, .slice w_0.2.2.2.2.1.a w_0.2.2.2.2.1.len w_0.2.2.2.2.1.cap, .string w_0.2.2.2.2.2], .agg #[.string r_1.1, .string r_1.2.1, .slice r_1.2.2.1.a r_1.2.2.1.len r_1.2.2.1.cap, .slice r_1.2.2.2.a r_1.2.2.2.len r_1.2.2.2.cap]] h R = chunk_Body w_0 r_1 R h := by kernel_rfl
theorem chunk_Body_call (w_0 : ByteArray × ByteArray × ByteArray × ByteArray × Sl × ByteArray) (r_1 : ByteArray × ByteArray × Sl × Sl) {R : Sl × Int → Heap → Prop} {h : Heap} (hx : chunk_Body w_0 r_1 R h) : CallT Tryd.prog 17 [.agg #[.string w_0.1, .string w_0.2.1, .string w_0.2.2.1, .string w_0.2.2.2.1, .slice w_0.2.2.2.2.1.a w_0.2.2.2.2.1.len w_0.2.2.2.2.1.cap, .string w_0.2.2.2.2.2], .agg #[.string r_1.1, .string r_1.2.1, .slice r_1.2.2.1.a r_1.2.2.1.len r_1.2.2.1.cap, .slice r_1.2.2.2.a r_1.2.2.2.len r_1.2.2.2.cap]] h [.sc (.sl), .sc (.int .i64)] R :=
  call_of_fnX fnsOk mixed Tryd.func17 (by kernel_rfl) (by rw [chunk_Body_eq]; exact hx)

/-- stowage/chunk.piece (19) -/
def chunk_piece (x_0 : ByteArray) (R : ByteArray × ByteArray × ByteArray × Int → Heap → Prop) (h : Heap) : Prop :=
  CallT Tryd.prog chunk_digits_no [.string x_0, .int .i64 8] h [.sc (.int .i64)] fun (r1 : Int) h2 =>
  ssl x_0 0 r1 fun s3 =>
  s2b s3 5 h2 fun a4 c5 h6 =>
  LoopT (σ := Int × Int) (fun X8 s7 h9 => -- s7: t7, t18
  cnd (decide (s7.2 < (s3.size : Int))) (
  idx (some a4) s3.size s7.2 fun a10 =>
  ldI .u8 (a10.add (s7.2.toNat * 1)) h9 fun n11 =>
  CallT Tryd.prog strings_IndexByte_no [.string (⟨#[48, 49, 50, 51, 52, 53, 54, 55, 56, 57, 97, 98, 99, 100, 101, 102]⟩ : ByteArray), .int .u8 n11] h9 [.sc (.int .i64)] fun (r12 : Int) h13 =>
  X8 ((orI .i64 (shlI .i64 s7.1 4) r12), (w64 (s7.2 + 1))) h13) (
  withJ (σ := Unit) (fun s14 h16 => -- s14: 
  ssl x_0 r1 (x_0.size : Int) fun s17 =>
  CallT Tryd.prog chunk_eat_no [.string s17, .string (⟨#[59, 99, 104, 117, 110, 107, 45, 115, 105, 103, 110, 97, 116, 117, 114, 101, 61]⟩ : ByteArray)] h16 [.sc (.str), .sc (.int .i64)] fun (r18 : ByteArray × Int) h19 =>
  cnd (r18.2 != 0) (
  R ((⟨#[]⟩ : ByteArray), (⟨#[]⟩ : ByteArray), (⟨#[]⟩ : ByteArray), r18.2) h19) (
  CallT Tryd.prog chunk_digits_no [.string r18.1, .int .i64 64] h19 [.sc (.int .i64)] fun (r20 : Int) h21 =>
  withJ (σ := ByteArray) (fun s22 h24 => -- s22: t4
  cnd (decide (r20 < 64)) (
  R ((⟨#[]⟩ : ByteArray), (⟨#[]⟩ : ByteArray), (⟨#[]⟩ : ByteArray), 307) h24) (
  ssl s22 0 64 fun s25 =>
  ssl s22 64 (s22.size : Int) fun s26 =>
  CallT Tryd.prog chunk_eat_no [.string s26, .string (⟨#[13, 10]⟩ : ByteArray)] h24 [.sc (.str), .sc (.int .i64)] fun (r27 : ByteArray × Int) h28 =>
  cnd (r27.2 != 0) (
  R ((⟨#[]⟩ : ByteArray), (⟨#[]⟩ : ByteArray), (⟨#[]⟩ : ByteArray), r27.2) h28) (
  cnd (decide ((r27.1.size : Int) < s7.1)) (
  R ((⟨#[]⟩ : ByteArray), (⟨#[]⟩ : ByteArray), (⟨#[]⟩ : ByteArray), 307) h28) (
  ssl r27.1 0 s7.1 fun s29 =>
  ssl r27.1 s7.1 (r27.1.size : Int) fun s30 =>
  CallT Tryd.prog chunk_eat_no [.string s30, .string (⟨#[13, 10]⟩ : ByteArray)] h28 [.sc (.str), .sc (.int .i64)] fun (r31 : ByteArray × Int) h32 =>
  withJ (σ := Int) (fun s33 h35 => -- s33: t5
  cnd (s33 != 0) (
  R ((⟨#[]⟩ : ByteArray), (⟨#[]⟩ : ByteArray), (⟨#[]⟩ : ByteArray), s33) h35) (
  R (s25, s29, r31.1, 0) h35)) (fun J34 =>
  withJ (σ := Bool) (fun s36 h38 => -- s36: t90
  cnd s36 (
  J34 308 h38) (
  J34 r31.2 h38)) (fun J37 =>
  cnd (r31.2 == 0) (
  cnd (s7.1 == 0) (
  J37 (!seq r31.1 (⟨#[]⟩ : ByteArray)) h32) (
  J37 false h32)) (
  J37 false h32))))))) (fun J23 =>
  withJ (σ := Bool) (fun s39 h41 => -- s39: t53
  cnd s39 (
  R ((⟨#[]⟩ : ByteArray), (⟨#[]⟩ : ByteArray), (⟨#[]⟩ : ByteArray), 308) h41) (
  J23 r18.1 h41)) (fun J40 =>
  cnd (decide (r20 < 64)) (
  J40 (decide (r20 < (r18.1.size : Int))) h21) (
  J40 false h21))))) (fun J15 =>
  withJ (σ := Bool) (fun s42 h44 => -- s42: t33
  cnd s42 (
  R ((⟨#[]⟩ : ByteArray), (⟨#[]⟩ : ByteArray), (⟨#[]⟩ : ByteArray), 308) h44) (
  J15 () h44)) (fun J43 =>
  cnd (r1 == 0) (
  J43 (!seq x_0 (⟨#[]⟩ : ByteArray)) h9) (
  J43 false h9))))) (0, 0) h6
theorem chunk_piece_eq (x_0 : ByteArray) (R : ByteArray × ByteArray × ByteArray × Int → Heap → Prop) (h : Heap) : fnX Tryd.prog Fns.fns Tryd.f19 (.s .n (.s .n (.s .n (.s (.s .n (.b (.l [(7, .int .i64), (18, .int .i64)] (.s .n (.s (.s .n .n) (.s (.b (.s .n .n)) .n)))))) (.j [] (.j [(33, .bool)] .n (.s (.s .n .n) .n)) (.s .n (.s (.s .n (.s (.s .n .n) .n)) (.s .n (.j [(4, .str)] (.j [(53, .bool)] .n (.s (.s .n .n) .n)) (.s (.s .n (.s (.s .n .n) .n)) (.s .n (.s .n (.s (.s .n (.s (.s .n .n) .n)) (.s (.s .n (.s (.s .n .n) .n)) (.s .n (.s .n (.j [(5, .int .i64)] (.j [(90, .bool)] .n (.s .n .n)) (.s (.s .n (.s (.s .n .n) .n)) (.s .n .n))))))))))))))))))) [.sc (.str), .sc (.str), .sc (.str), .sc (.int .i64)] [.string x_0] h R = chunk_piece x_0 R h := by kernel_rfl
theorem chunk_piece_call (x_0 : ByteArray) {R : ByteArray × ByteArray × ByteArray × Int → Heap → Prop} {h : Heap} (hx : chunk_piece x_0 R h) : CallT Tryd.prog 19 [.string x_0] h [.sc (.str), .sc (.str), .sc (.str), .sc (.int .i64)] R :=
  call_of_fnX fnsOk mixed Tryd.func19 (by kernel_rfl) (by rw [chunk_piece_eq]; exact hx)

/-- stowage/chunk.digits (40) -/
def chunk_digits (s_0 : ByteArray) (most_1 : Int) (R : Int → Heap → Prop) (h : Heap) : Prop :=
  LoopT (σ := Int) (fun X2 s1 h3 => -- s1: n
  withJ (σ := Int × Int × Bool × ByteArray × Int × Int × Int × Bool) (fun s4 h6 => -- s4: t11, t12, t13, t16, t17, t18, t19, t20
  X2 (w64 (s1 + 1)) h6) (fun J5 =>
  cnd (decide (s1 < (s_0.size : Int))) (
  cnd (decide (s1 < most_1)) (
  sidx s_0 s1 fun u7 =>
  CallT Tryd.prog strings_IndexByte_no [.string (⟨#[48, 49, 50, 51, 52, 53, 54, 55, 56, 57, 97, 98, 99, 100, 101, 102]⟩ : ByteArray), .int .u8 (u7.toNat : Int)] h3 [.sc (.int .i64)] fun (r8 : Int) h9 =>
  cnd (decide (r8 ≥ 0)) (
  J5 (s1, most_1, (decide (s1 < most_1)), s_0, s1, (u7.toNat : Int), r8, (decide (r8 ≥ 0))) h9) (
  R s1 h9)) (
  R s1 h3)) (
  R s1 h3))) 0 h
theorem chunk_digits_eq (s_0 : ByteArray) (most_1 : Int) (R : Int → Heap → Prop) (h : Heap) : fnX Tryd.prog Fns.fns Tryd.f40 (.s .n (.s .n (.s (.b (.l [(5, .int .i64)] (.j [(11, .int .i64), (12, .int .i64), (13, .bool), (16, .str), (17, .int .i64), (18, .int .u8), (19, .int .i64), (20, .bool)] (.s .n (.s .n .n)) (.b .n)))) (.s .n .n)))) [.sc (.int .i64)] [.string s_0, .int .i64 most_1] h R = chunk_digits s_0 most_1 R h := by kernel_rfl
theorem chunk_digits_call (s_0 : ByteArray) (most_1 : Int) {R : Int → Heap → Prop} {h : Heap} (hx : chunk_digits s_0 most_1 R h) : CallT Tryd.prog 40 [.string s_0, .int .i64 most_1] h [.sc (.int .i64)] R :=
  call_of_fnX fnsOk mixed Tryd.func40 (by kernel_rfl) (by rw [chunk_digits_eq]; exact hx)

/-- stowage/chunk.eat (42) -/
def chunk_eat (s_0 : ByteArray) (begin_1 : ByteArray) (R : ByteArray × Int → Heap → Prop) (h : Heap) : Prop :=
  CallT Tryd.prog strings_CutPrefix_no [.string s_0, .string begin_1] h [.sc (.str), .sc (.bool)] fun (r1 : ByteArray × Bool) h2 =>
  cnd r1.2 (
  R (r1.1, 0) h2) (
  CallT Tryd.prog strings_HasPrefix_no [.string begin_1, .string s_0] h2 [.sc (.bool)] fun (r3 : Bool) h4 =>
  cnd r3 (
  R ((⟨#[]⟩ : ByteArray), 307) h4) (
  R ((⟨#[]⟩ : ByteArray), 308) h4))
theorem chunk_eat_eq (s_0 : ByteArray) (begin_1 : ByteArray) (R : ByteArray × Int → Heap → Prop) (h : Heap) : fnX Tryd.prog Fns.fns Tryd.f42 (.s .n (.s (.s .n (.s .n (.s (.s .n .n) .n))) (.s (.s .n (.s (.s .n .n) .n)) (.s .n .n)))) [.sc (.str), .sc (.int .i64)] [.string s_0, .string begin_1] h R = chunk_eat s_0 begin_1 R h := by kernel_rfl
theorem chunk_eat_call (s_0 : ByteArray) (begin_1 : ByteArray) {R : ByteArray × Int → Heap → Prop} {h : Heap} (hx : chunk_eat s_0 begin_1 R h) : CallT Tryd.prog 42 [.string s_0, .string begin_1] h [.sc (.str), .sc (.int .i64)] R :=
  call_of_fnX fnsOk mixed Tryd.func42 (by kernel_rfl) (by rw [chunk_eat_eq]; exact hx)

/-- stowage/http.All (36) -/
def http_All (l_0 : Sl) (name_1 : ByteArray) (R : Sl → Heap → Prop) (h : Heap) : Prop :=
  LoopT (σ := Sl × Int) (fun X2 s1 h3 => -- s1: out, t10
  cnd (decide (s1.2 < (l_0.len : Int))) (
  withJ (σ := Sl) (fun s4 h6 => -- s4: out
  X2 (s4, (w64 (s1.2 + 1))) h6) (fun J5 =>
  idx l_0.a l_0.len s1.2 fun a7 =>
  ldS (a7.add (s1.2.toNat * 2)) h3 fun s8 =>
  ldS ((a7.add (s1.2.toNat * 2)).add 1) h3 fun s9 =>
  newB [.string (⟨#[]⟩ : ByteArray), .string (⟨#[]⟩ : ByteArray)] 101 h3 fun a10 h11 =>
  stC a10 (.string s8) h11 fun h12 =>
  stC (a10.add 1) (.string s9) h12 fun h13 =>
  ldS a10 h13 fun s14 =>
  cnd (seq s14 name_1) (
  ldS (a10.add 1) h13 fun s15 =>
  newB [.string s15] 9 h13 fun a16 h17 =>
  ldRow (1 * 1) a16 h17 fun cs21 =>
  app [.string (⟨#[]⟩ : ByteArray)] 9 1 16 s1.1.a s1.1.len s1.1.cap cs21 1 h17 fun o18 c19 h20 =>
  J5 (⟨o18, (s1.1.len + 1), c19⟩ : Sl) h20) (
  J5 s1.1 h13))) (
  lsl 1 s1.1.a s1.1.cap 0 (s1.1.len : Int) (s1.1.len : Int) fun o22 l22 c22 =>
  R (⟨o22, l22, c22⟩ : Sl) h3)) ((⟨none, 0, 0⟩ : Sl), 0) h
theorem http_All_eq (l_0 : Sl) (name_1 : ByteArray) (R : Sl → Heap → Prop) (h : Heap) : fnX Tryd.prog Fns.fns Tryd.f36 (.s .n (.s .n (.s (.s .n (.b (.l [(5, .sl), (10, .int .i64)] (.s .n (.s (.s .n .n) (.j [(5, .sl)] (.b (.s .n (.s .n (.s .n .n)))) .n)))))) (.s .n .n)))) [.sc (.sl)] [.slice l_0.a l_0.len l_0.cap, .string name_1] h R = http_All l_0 name_1 R h := by kernel_rfl
theorem http_All_call (l_0 : Sl) (name_1 : ByteArray) {R : Sl → Heap → Prop} {h : Heap} (hx : http_All l_0 name_1 R h) : CallT Tryd.prog 36 [.slice l_0.a l_0.len l_0.cap, .string name_1] h [.sc (.sl)] R :=
  call_of_fnX fnsOk mixed Tryd.func36 (by kernel_rfl) (by rw [http_All_eq]; exact hx)

/-- stowage/enc.Int (37) -/
def enc_Int (s_0 : ByteArray) (R : Int × Bool → Heap → Prop) (h : Heap) : Prop :=
  withJ (σ := Unit) (fun s1 h3 => -- s1: 
  LoopT (σ := Int × Int) (fun X5 s4 h6 => -- s4: n, t26
  cnd (decide (s4.2 < (s_0.size : Int))) (
  withJ (σ := Int) (fun s7 h9 => -- s7: n
  X5 (s7, (w64 (s4.2 + 1))) h9) (fun J8 =>
  withJ (σ := Unit) (fun s10 h12 => -- s10: 
  sidx s_0 s4.2 fun u13 =>
  J8 (w64 ((w64 (10 * s4.1)) + (w64 ((IntKind.u8.wrap ((u13.toNat : Int) - 48)))))) h12) (fun J11 =>
  withJ (σ := Bool) (fun s14 h16 => -- s14: t38
  cnd s14 (
  R (0, false) h16) (
  J11 () h16)) (fun J15 =>
  sidx s_0 s4.2 fun u17 =>
  cnd (decide ((u17.toNat : Int) < 48)) (
  J15 true h6) (
  sidx s_0 s4.2 fun u18 =>
  J15 (decide ((u18.toNat : Int) > 57)) h6))))) (
  R (s4.1, true) h6)) (0, 0) h3) (fun J2 =>
  withJ (σ := Bool) (fun s19 h21 => -- s19: t23
  cnd s19 (
  R (0, false) h21) (
  J2 () h21)) (fun J20 =>
  cnd (decide ((s_0.size : Int) < 1)) (
  J20 true h) (
  cnd (decide ((s_0.size : Int) > 18)) (
  J20 true h) (
  cnd (decide ((s_0.size : Int) > 1)) (
  sidx s_0 0 fun u22 =>
  J20 ((u22.toNat : Int) == 48) h) (
  J20 false h)))))
theorem enc_Int_eq (s_0 : ByteArray) (R : Int × Bool → Heap → Prop) (h : Heap) : fnX Tryd.prog Fns.fns Tryd.f37 (.s .n (.j [] (.j [(23, .bool)] .n (.s (.s .n .n) .n)) (.s .n (.s (.s .n (.b (.l [(4, .int .i64), (26, .int .i64)] (.s .n (.s (.s .n .n) (.j [(4, .int .i64)] (.b (.s .n (.j [] (.j [(38, .bool)] .n (.s (.s .n .n) .n)) .n))) .n)))))) (.s .n .n))))) [.sc (.int .i64), .sc (.bool)] [.string s_0] h R = enc_Int s_0 R h := by kernel_rfl
theorem enc_Int_call (s_0 : ByteArray) {R : Int × Bool → Heap → Prop} {h : Heap} (hx : enc_Int s_0 R h) : CallT Tryd.prog 37 [.string s_0] h [.sc (.int .i64), .sc (.bool)] R :=
  call_of_fnX fnsOk mixed Tryd.func37 (by kernel_rfl) (by rw [enc_Int_eq]; exact hx)

end Go.Proofs.YtncffbocmpmejaaDoor
