/- Go functions as short texts over the heap, and that each is what the loaded function comes to (the kernel compares them); written by a program. -/
import Derived.Test.YtncffbocmpmejaaDoorGBase
set_option linter.unusedVariables false
set_option maxRecDepth 100000
namespace Go.Proofs.YtncffbocmpmejaaDoor
open Go D
/-- stowage/stowagelaw19.ChunkDecodes (3) -/
def law19_ChunkDecodes (w_0 : ByteArray × ByteArray × ByteArray × ByteArray × Sl × ByteArray) (b_1 : Sl) (size_2 : Int) (R : Bool → Heap → Prop) (h : Heap) : Prop :=
  newB [.string w_0.1, .string w_0.2.1, .string w_0.2.2.1, .string w_0.2.2.2.1, .slice w_0.2.2.2.2.1.a w_0.2.2.2.2.1.len w_0.2.2.2.2.1.cap, .string w_0.2.2.2.2.2] 24 h fun a1 h2 =>
  ldS a1 h2 fun s3 =>
  ldS (a1.add 1) h2 fun s4 =>
  ldS (a1.add 2) h2 fun s5 =>
  ldS (a1.add 3) h2 fun s6 =>
  ldL (a1.add 4) h2 fun o7 l7 c7 =>
  ldS (a1.add 5) h2 fun s8 =>
  CallT Tryd.prog chunk_Decode_no [.agg #[.string s3, .string s4, .string s5, .string s6, .slice o7 l7 c7, .string s8], .slice b_1.a b_1.len b_1.cap, .int .i64 size_2] h2 [.sc (.sl), .sc (.int .i64)] fun (r9 : Sl × Int) h10 =>
  ldS a1 h10 fun s11 =>
  ldS (a1.add 1) h10 fun s12 =>
  ldS (a1.add 2) h10 fun s13 =>
  ldS (a1.add 3) h10 fun s14 =>
  ldL (a1.add 4) h10 fun o15 l15 c15 =>
  ldS (a1.add 5) h10 fun s16 =>
  CallT Tryd.prog law19_To_no [.agg #[.string s11, .string s12, .string s13, .string s14, .slice o15 l15 c15, .string s16]] h10 [.agg [.str, .str, .str, .str, .sl, .str]] fun (r17 : (ByteArray × ByteArray × ByteArray × ByteArray × Sl × ByteArray)) h18 =>
  CallT Tryd.prog ref19_Decode_no [.agg #[.string r17.1, .string r17.2.1, .string r17.2.2.1, .string r17.2.2.2.1, .slice r17.2.2.2.2.1.a r17.2.2.2.2.1.len r17.2.2.2.2.1.cap, .string r17.2.2.2.2.2], .slice b_1.a b_1.len b_1.cap, .int .i64 size_2] h18 [.sc (.sl), .sc (.int .i64)] fun (r19 : Sl × Int) h20 =>
  withJ (σ := Bool) (fun s21 h23 => -- s21: t6
  R s21 h23) (fun J22 =>
  b2s r9.1.a r9.1.len h20 fun s24 =>
  b2s r19.1.a r19.1.len h20 fun s25 =>
  cnd (seq s24 s25) (
  cnd (r9.2 == r19.2) (
  ldS a1 h20 fun s26 =>
  ldS (a1.add 1) h20 fun s27 =>
  ldS (a1.add 2) h20 fun s28 =>
  ldS (a1.add 3) h20 fun s29 =>
  ldL (a1.add 4) h20 fun o30 l30 c30 =>
  ldS (a1.add 5) h20 fun s31 =>
  ldS a1 h20 fun s32 =>
  ldS (a1.add 1) h20 fun s33 =>
  ldS (a1.add 2) h20 fun s34 =>
  ldS (a1.add 3) h20 fun s35 =>
  ldL (a1.add 4) h20 fun o36 l36 c36 =>
  ldS (a1.add 5) h20 fun s37 =>
  CallT Tryd.prog chunk_Sign_no [.agg #[.string s26, .string s27, .string s28, .string s29, .slice o30 l30 c30, .string s31], .string (⟨#[108]⟩ : ByteArray), .slice b_1.a b_1.len b_1.cap] h20 [.sc (.str)] fun (r38 : ByteArray) h39 =>
  (ldS a1 h39 fun s40 =>
  ldS (a1.add 1) h39 fun s41 =>
  ldS (a1.add 2) h39 fun s42 =>
  ldS (a1.add 3) h39 fun s43 =>
  ldL (a1.add 4) h39 fun o44 l44 c44 =>
  ldS (a1.add 5) h39 fun s45 =>
  (.agg #[.string s40, .string s41, .string s42, .string s43, .slice o44 l44 c44, .string s45] : Value) = .agg #[.string s32, .string s33, .string s34, .string s35, .slice o36 l36 c36, .string s37]) ∧
  CallT Tryd.prog law19_To_no [.agg #[.string s32, .string s33, .string s34, .string s35, .slice o36 l36 c36, .string s37]] h39 [.agg [.str, .str, .str, .str, .sl, .str]] fun (r46 : (ByteArray × ByteArray × ByteArray × ByteArray × Sl × ByteArray)) h47 =>
  CallT Tryd.prog ref19_Sign_no [.agg #[.string r46.1, .string r46.2.1, .string r46.2.2.1, .string r46.2.2.2.1, .slice r46.2.2.2.2.1.a r46.2.2.2.2.1.len r46.2.2.2.2.1.cap, .string r46.2.2.2.2.2], .string (⟨#[108]⟩ : ByteArray), .slice b_1.a b_1.len b_1.cap] h47 [.sc (.str)] fun (r48 : ByteArray) h49 =>
  cnd (seq r38 r48) (
  CallT Tryd.prog law19_awake_no [] h49 [.sc (.bool)] fun (r50 : Bool) h51 =>
  J22 r50 h51) (
  J22 false h49)) (
  J22 false h20)) (
  J22 false h20))
theorem law19_ChunkDecodes_eq (w_0 : ByteArray × ByteArray × ByteArray × ByteArray × Sl × ByteArray) (b_1 : Sl) (size_2 : Int) (R : Bool → Heap → Prop) (h : Heap) : fnX Tryd.prog Fns.fns Tryd.f3 (.s .n (.s .n (.s .n (.j [(6, .bool)] .n .n)))) [.sc (.bool)] [.agg #[.string w_0.1, .string w_0.2.1, .string w_0.2.2.1, .string w_0.2.2.2.1, .slice w_0.2.2.2.2.1.a w_0.2.2.2.2.1.len w_0.2.2.2.2.1.cap, .string w_0.2.2.2.2.2], .slice b_1.a b_1.len b_1.cap, .int .i64 size_2] h R = law19_ChunkDecodes w_0 b_1 size_2 R h := by kernel_rfl
theorem law19_ChunkDecodes_call (w_0 : ByteArray × ByteArray × ByteArray × ByteArray × Sl × ByteArray) (b_1 : Sl) (size_2 : Int) {R : Bool → Heap → Prop} {h : Heap} (hx : law19_ChunkDecodes w_0 b_1 size_2 R h) : CallT Tryd.prog 3 [.agg #[.string w_0.1, .string w_0.2.1, .string w_0.2.2.1, .string w_0.2.2.2.1, .slice w_0.2.2.2.2.1.a w_0.2.2.2.2.1.len w_0.2.2.2.2.1.cap, .string w_0.2.2.2.2.2], .slice b_1.a b_1.len b_1.cap, .int .i64 size_2] h [.sc (.bool)] R :=
  call_of_fnX fnsOk mixed Tryd.func3 (by kernel_rfl) (by rw [law19_ChunkDecodes_eq]; exact hx)

/-- stowage/stowagelaw19.ChunkEncodes (4) -/
def law19_ChunkEncodes (w_0 : ByteArray × ByteArray × ByteArray × ByteArray × Sl × ByteArray) (data_1 : Sl) (sizes_2 : Sl) (R : Bool → Heap → Prop) (h : Heap) : Prop :=
  newB [.string w_0.1, .string w_0.2.1, .string w_0.2.2.1, .string w_0.2.2.2.1, .slice w_0.2.2.2.2.1.a w_0.2.2.2.2.1.len w_0.2.2.2.2.1.cap, .string w_0.2.2.2.2.2] 24 h fun a1 h2 =>
  withJ (σ := Bool) (fun s3 h5 => -- s3: t6
  R s3 h5) (fun J4 =>
  ldS a1 h2 fun s6 =>
  ldS (a1.add 1) h2 fun s7 =>
  ldS (a1.add 2) h2 fun s8 =>
  ldS (a1.add 3) h2 fun s9 =>
  ldL (a1.add 4) h2 fun o10 l10 c10 =>
  ldS (a1.add 5) h2 fun s11 =>
  ldS a1 h2 fun s12 =>
  ldS (a1.add 1) h2 fun s13 =>
  ldS (a1.add 2) h2 fun s14 =>
  ldS (a1.add 3) h2 fun s15 =>
  ldL (a1.add 4) h2 fun o16 l16 c16 =>
  ldS (a1.add 5) h2 fun s17 =>
  CallT Tryd.prog chunk_Encode_no [.agg #[.string s6, .string s7, .string s8, .string s9, .slice o10 l10 c10, .string s11], .slice data_1.a data_1.len data_1.cap, .slice sizes_2.a sizes_2.len sizes_2.cap] h2 [.sc (.sl)] fun (r18 : Sl) h19 =>
  (ldS a1 h19 fun s20 =>
  ldS (a1.add 1) h19 fun s21 =>
  ldS (a1.add 2) h19 fun s22 =>
  ldS (a1.add 3) h19 fun s23 =>
  ldL (a1.add 4) h19 fun o24 l24 c24 =>
  ldS (a1.add 5) h19 fun s25 =>
  (.agg #[.string s20, .string s21, .string s22, .string s23, .slice o24 l24 c24, .string s25] : Value) = .agg #[.string s12, .string s13, .string s14, .string s15, .slice o16 l16 c16, .string s17]) ∧
  b2s r18.a r18.len h19 fun s26 =>
  CallT Tryd.prog law19_To_no [.agg #[.string s12, .string s13, .string s14, .string s15, .slice o16 l16 c16, .string s17]] h19 [.agg [.str, .str, .str, .str, .sl, .str]] fun (r27 : (ByteArray × ByteArray × ByteArray × ByteArray × Sl × ByteArray)) h28 =>
  (b2s r18.a r18.len h28 fun s29 =>
  (.string s29 : Value) = .string s26) ∧
  CallT Tryd.prog ref19_Encode_no [.agg #[.string r27.1, .string r27.2.1, .string r27.2.2.1, .string r27.2.2.2.1, .slice r27.2.2.2.2.1.a r27.2.2.2.2.1.len r27.2.2.2.2.1.cap, .string r27.2.2.2.2.2], .slice data_1.a data_1.len data_1.cap, .slice sizes_2.a sizes_2.len sizes_2.cap] h28 [.sc (.sl)] fun (r30 : Sl) h31 =>
  (b2s r18.a r18.len h31 fun s32 =>
  (.string s32 : Value) = .string s26) ∧
  b2s r30.a r30.len h31 fun s33 =>
  cnd (seq s26 s33) (
  CallT Tryd.prog law19_awake_no [] h31 [.sc (.bool)] fun (r34 : Bool) h35 =>
  J4 r34 h35) (
  J4 false h31))
theorem law19_ChunkEncodes_eq (w_0 : ByteArray × ByteArray × ByteArray × ByteArray × Sl × ByteArray) (data_1 : Sl) (sizes_2 : Sl) (R : Bool → Heap → Prop) (h : Heap) : fnX Tryd.prog Fns.fns Tryd.f4 (.s .n (.j [(6, .bool)] .n .n)) [.sc (.bool)] [.agg #[.string w_0.1, .string w_0.2.1, .string w_0.2.2.1, .string w_0.2.2.2.1, .slice w_0.2.2.2.2.1.a w_0.2.2.2.2.1.len w_0.2.2.2.2.1.cap, .string w_0.2.2.2.2.2], .slice data_1.a data_1.len data_1.cap, .slice sizes_2.a sizes_2.len sizes_2.cap] h R = law19_ChunkEncodes w_0 data_1 sizes_2 R h := by kernel_rfl
theorem law19_ChunkEncodes_call (w_0 : ByteArray × ByteArray × ByteArray × ByteArray × Sl × ByteArray) (data_1 : Sl) (sizes_2 : Sl) {R : Bool → Heap → Prop} {h : Heap} (hx : law19_ChunkEncodes w_0 data_1 sizes_2 R h) : CallT Tryd.prog 4 [.agg #[.string w_0.1, .string w_0.2.1, .string w_0.2.2.1, .string w_0.2.2.2.1, .slice w_0.2.2.2.2.1.a w_0.2.2.2.2.1.len w_0.2.2.2.2.1.cap, .string w_0.2.2.2.2.2], .slice data_1.a data_1.len data_1.cap, .slice sizes_2.a sizes_2.len sizes_2.cap] h [.sc (.bool)] R :=
  call_of_fnX fnsOk mixed Tryd.func4 (by kernel_rfl) (by rw [law19_ChunkEncodes_eq]; exact hx)

/-- stowage/stowagelaw19.ChunkBack (5) -/
def law19_ChunkBack (x_0 : ByteArray × ByteArray × ByteArray × ByteArray × Sl × ByteArray) (x_1 : Sl) (x_2 : Sl) (x_3 : Int) (x_4 : Int) (R : Bool → Heap → Prop) (h : Heap) : Prop :=
  newB [.string x_0.1, .string x_0.2.1, .string x_0.2.2.1, .string x_0.2.2.2.1, .slice x_0.2.2.2.2.1.a x_0.2.2.2.2.1.len x_0.2.2.2.2.1.cap, .string x_0.2.2.2.2.2] 24 h fun a1 h2 =>
  withJ (σ := Unit) (fun s3 h5 => -- s3: 
  ldS a1 h5 fun s6 =>
  ldS (a1.add 1) h5 fun s7 =>
  ldS (a1.add 2) h5 fun s8 =>
  ldS (a1.add 3) h5 fun s9 =>
  ldL (a1.add 4) h5 fun o10 l10 c10 =>
  ldS (a1.add 5) h5 fun s11 =>
  CallT Tryd.prog chunk_Encode_no [.agg #[.string s6, .string s7, .string s8, .string s9, .slice o10 l10 c10, .string s11], .slice x_1.a x_1.len x_1.cap, .slice x_2.a x_2.len x_2.cap] h5 [.sc (.sl)] fun (r12 : Sl) h13 =>
  ldS a1 h13 fun s14 =>
  ldS (a1.add 1) h13 fun s15 =>
  ldS (a1.add 2) h13 fun s16 =>
  ldS (a1.add 3) h13 fun s17 =>
  ldL (a1.add 4) h13 fun o18 l18 c18 =>
  ldS (a1.add 5) h13 fun s19 =>
  CallT Tryd.prog chunk_Decode_no [.agg #[.string s14, .string s15, .string s16, .string s17, .slice o18 l18 c18, .string s19], .slice r12.a r12.len r12.cap, .int .i64 (x_1.len : Int)] h13 [.sc (.sl), .sc (.int .i64)] fun (r20 : Sl × Int) h21 =>
  ldS a1 h21 fun s22 =>
  ldS (a1.add 1) h21 fun s23 =>
  ldS (a1.add 2) h21 fun s24 =>
  ldS (a1.add 3) h21 fun s25 =>
  ldL (a1.add 4) h21 fun o26 l26 c26 =>
  ldS (a1.add 5) h21 fun s27 =>
  CallT Tryd.prog chunk_Decode_no [.agg #[.string s22, .string s23, .string s24, .string s25, .slice o26 l26 c26, .string s27], .slice r12.a r12.len r12.cap, .int .i64 (w64 ((x_1.len : Int) + 1))] h21 [.sc (.sl), .sc (.int .i64)] fun (r28 : Sl × Int) h29 =>
  withJ (σ := Unit) (fun s30 h32 => -- s30: 
  LoopT (σ := Int) (fun X34 s33 h35 => -- s33: t16
  withJ (σ := Sl × Int × (Option Addr) × Int × Bool) (fun s36 h38 => -- s36: t70, t71, t72, t73, t74
  X34 (w64 (s33 + 1)) h38) (fun J37 =>
  cnd (decide (s33 < (r12.len : Int))) (
  idx r12.a r12.len s33 fun a39 =>
  ldI .u8 (a39.add (s33.toNat * 1)) h35 fun n40 =>
  cnd (n40 != 61) (
  J37 (r12, s33, (some (a39.add (s33.toNat * 1))), n40, (n40 != 61)) h35) (
  withJ (σ := Unit) (fun s41 h43 => -- s41: 
  newB [] 5 h43 fun a44 h45 =>
  rdCells r12.a (r12.len * 1) h45 fun cs49 =>
  app [.int .u8 0] 5 1 1 (some a44) 0 0 cs49 r12.len h45 fun o46 c47 h48 =>
  idx o46 (0 + r12.len) (w64 ((w64 (s33 + 1)) + (andI .i64 x_3 63))) fun a50 =>
  ldI .u8 (a50.add ((w64 ((w64 (s33 + 1)) + (andI .i64 x_3 63))).toNat * 1)) h48 fun n51 =>
  idx o46 (0 + r12.len) (w64 ((w64 (s33 + 1)) + (andI .i64 x_3 63))) fun a52 =>
  stC (a52.add ((w64 ((w64 (s33 + 1)) + (andI .i64 x_3 63))).toNat * 1)) (.int .u8 (xorI .u8 n51 x_4)) h48 fun h53 =>
  withJ (σ := Bool) (fun s54 h56 => -- s54: t19
  ldS a1 h56 fun s57 =>
  ldS (a1.add 1) h56 fun s58 =>
  ldS (a1.add 2) h56 fun s59 =>
  ldS (a1.add 3) h56 fun s60 =>
  ldL (a1.add 4) h56 fun o61 l61 c61 =>
  ldS (a1.add 5) h56 fun s62 =>
  CallT Tryd.prog chunk_Decode_no [.agg #[.string s57, .string s58, .string s59, .string s60, .slice o61 l61 c61, .string s62], .slice o46 (0 + r12.len) c47, .int .i64 (x_1.len : Int)] h56 [.sc (.sl), .sc (.int .i64)] fun (r63 : Sl × Int) h64 =>
  cnd s54 (
  withJ (σ := Bool) (fun s65 h67 => -- s65: t10
  R s65 h67) (fun J66 =>
  cnd (r63.2 == 301) (
  cnd ((r63.1.len : Int) == 0) (
  CallT Tryd.prog law19_awake_no [] h64 [.sc (.bool)] fun (r68 : Bool) h69 =>
  J66 r68 h69) (
  J66 false h64)) (
  J66 false h64))) (
  withJ (σ := Bool) (fun s70 h72 => -- s70: t10
  R s70 h72) (fun J71 =>
  cnd (r63.2 == 308) (
  cnd ((r63.1.len : Int) == 0) (
  CallT Tryd.prog law19_awake_no [] h64 [.sc (.bool)] fun (r73 : Bool) h74 =>
  J71 r73 h74) (
  J71 false h64)) (
  J71 false h64)))) (fun J55 =>
  idx o46 (0 + r12.len) (w64 ((w64 (s33 + 1)) + (andI .i64 x_3 63))) fun a75 =>
  ldI .u8 (a75.add ((w64 ((w64 (s33 + 1)) + (andI .i64 x_3 63))).toNat * 1)) h53 fun n76 =>
  cnd (decide (n76 ≥ 48)) (
  idx o46 (0 + r12.len) (w64 ((w64 (s33 + 1)) + (andI .i64 x_3 63))) fun a77 =>
  ldI .u8 (a77.add ((w64 ((w64 (s33 + 1)) + (andI .i64 x_3 63))).toNat * 1)) h53 fun n78 =>
  cnd (decide (n78 ≤ 57)) (
  J55 true h53) (
  idx o46 (0 + r12.len) (w64 ((w64 (s33 + 1)) + (andI .i64 x_3 63))) fun a79 =>
  ldI .u8 (a79.add ((w64 ((w64 (s33 + 1)) + (andI .i64 x_3 63))).toNat * 1)) h53 fun n80 =>
  cnd (decide (n80 ≥ 97)) (
  idx o46 (0 + r12.len) (w64 ((w64 (s33 + 1)) + (andI .i64 x_3 63))) fun a81 =>
  ldI .u8 (a81.add ((w64 ((w64 (s33 + 1)) + (andI .i64 x_3 63))).toNat * 1)) h53 fun n82 =>
  J55 (decide (n82 ≤ 102)) h53) (
  J55 false h53))) (
  idx o46 (0 + r12.len) (w64 ((w64 (s33 + 1)) + (andI .i64 x_3 63))) fun a83 =>
  ldI .u8 (a83.add ((w64 ((w64 (s33 + 1)) + (andI .i64 x_3 63))).toNat * 1)) h53 fun n84 =>
  cnd (decide (n84 ≥ 97)) (
  idx o46 (0 + r12.len) (w64 ((w64 (s33 + 1)) + (andI .i64 x_3 63))) fun a85 =>
  ldI .u8 (a85.add ((w64 ((w64 (s33 + 1)) + (andI .i64 x_3 63))).toNat * 1)) h53 fun n86 =>
  J55 (decide (n86 ≤ 102)) h53) (
  J55 false h53)))) (fun J42 =>
  withJ (σ := Bool) (fun s87 h89 => -- s87: t86
  cnd s87 (
  withJ (σ := Bool) (fun s90 h92 => -- s90: t10
  R s90 h92) (fun J91 =>
  cnd (x_4 == 0) (
  CallT Tryd.prog law19_awake_no [] h89 [.sc (.bool)] fun (r93 : Bool) h94 =>
  J91 r93 h94) (
  J91 false h89))) (
  J42 () h89)) (fun J88 =>
  cnd (x_4 == 0) (
  J88 true h35) (
  J88 (decide ((w64 (s33 + 65)) > (r12.len : Int))) h35))))) (
  withJ (σ := Unit) (fun s95 h97 => -- s95: 
  newB [] 5 h97 fun a98 h99 =>
  rdCells r12.a (r12.len * 1) h99 fun cs103 =>
  app [.int .u8 0] 5 1 1 (some a98) 0 0 cs103 r12.len h99 fun o100 c101 h102 =>
  idx o100 (0 + r12.len) (w64 ((w64 (s33 + 1)) + (andI .i64 x_3 63))) fun a104 =>
  ldI .u8 (a104.add ((w64 ((w64 (s33 + 1)) + (andI .i64 x_3 63))).toNat * 1)) h102 fun n105 =>
  idx o100 (0 + r12.len) (w64 ((w64 (s33 + 1)) + (andI .i64 x_3 63))) fun a106 =>
  stC (a106.add ((w64 ((w64 (s33 + 1)) + (andI .i64 x_3 63))).toNat * 1)) (.int .u8 (xorI .u8 n105 x_4)) h102 fun h107 =>
  withJ (σ := Bool) (fun s108 h110 => -- s108: t19
  ldS a1 h110 fun s111 =>
  ldS (a1.add 1) h110 fun s112 =>
  ldS (a1.add 2) h110 fun s113 =>
  ldS (a1.add 3) h110 fun s114 =>
  ldL (a1.add 4) h110 fun o115 l115 c115 =>
  ldS (a1.add 5) h110 fun s116 =>
  CallT Tryd.prog chunk_Decode_no [.agg #[.string s111, .string s112, .string s113, .string s114, .slice o115 l115 c115, .string s116], .slice o100 (0 + r12.len) c101, .int .i64 (x_1.len : Int)] h110 [.sc (.sl), .sc (.int .i64)] fun (r117 : Sl × Int) h118 =>
  cnd s108 (
  withJ (σ := Bool) (fun s119 h121 => -- s119: t10
  R s119 h121) (fun J120 =>
  cnd (r117.2 == 301) (
  cnd ((r117.1.len : Int) == 0) (
  CallT Tryd.prog law19_awake_no [] h118 [.sc (.bool)] fun (r122 : Bool) h123 =>
  J120 r122 h123) (
  J120 false h118)) (
  J120 false h118))) (
  withJ (σ := Bool) (fun s124 h126 => -- s124: t10
  R s124 h126) (fun J125 =>
  cnd (r117.2 == 308) (
  cnd ((r117.1.len : Int) == 0) (
  CallT Tryd.prog law19_awake_no [] h118 [.sc (.bool)] fun (r127 : Bool) h128 =>
  J125 r127 h128) (
  J125 false h118)) (
  J125 false h118)))) (fun J109 =>
  idx o100 (0 + r12.len) (w64 ((w64 (s33 + 1)) + (andI .i64 x_3 63))) fun a129 =>
  ldI .u8 (a129.add ((w64 ((w64 (s33 + 1)) + (andI .i64 x_3 63))).toNat * 1)) h107 fun n130 =>
  cnd (decide (n130 ≥ 48)) (
  idx o100 (0 + r12.len) (w64 ((w64 (s33 + 1)) + (andI .i64 x_3 63))) fun a131 =>
  ldI .u8 (a131.add ((w64 ((w64 (s33 + 1)) + (andI .i64 x_3 63))).toNat * 1)) h107 fun n132 =>
  cnd (decide (n132 ≤ 57)) (
  J109 true h107) (
  idx o100 (0 + r12.len) (w64 ((w64 (s33 + 1)) + (andI .i64 x_3 63))) fun a133 =>
  ldI .u8 (a133.add ((w64 ((w64 (s33 + 1)) + (andI .i64 x_3 63))).toNat * 1)) h107 fun n134 =>
  cnd (decide (n134 ≥ 97)) (
  idx o100 (0 + r12.len) (w64 ((w64 (s33 + 1)) + (andI .i64 x_3 63))) fun a135 =>
  ldI .u8 (a135.add ((w64 ((w64 (s33 + 1)) + (andI .i64 x_3 63))).toNat * 1)) h107 fun n136 =>
  J109 (decide (n136 ≤ 102)) h107) (
  J109 false h107))) (
  idx o100 (0 + r12.len) (w64 ((w64 (s33 + 1)) + (andI .i64 x_3 63))) fun a137 =>
  ldI .u8 (a137.add ((w64 ((w64 (s33 + 1)) + (andI .i64 x_3 63))).toNat * 1)) h107 fun n138 =>
  cnd (decide (n138 ≥ 97)) (
  idx o100 (0 + r12.len) (w64 ((w64 (s33 + 1)) + (andI .i64 x_3 63))) fun a139 =>
  ldI .u8 (a139.add ((w64 ((w64 (s33 + 1)) + (andI .i64 x_3 63))).toNat * 1)) h107 fun n140 =>
  J109 (decide (n140 ≤ 102)) h107) (
  J109 false h107)))) (fun J96 =>
  withJ (σ := Bool) (fun s141 h143 => -- s141: t86
  cnd s141 (
  withJ (σ := Bool) (fun s144 h146 => -- s144: t10
  R s144 h146) (fun J145 =>
  cnd (x_4 == 0) (
  CallT Tryd.prog law19_awake_no [] h143 [.sc (.bool)] fun (r147 : Bool) h148 =>
  J145 r147 h148) (
  J145 false h143))) (
  J96 () h143)) (fun J142 =>
  cnd (x_4 == 0) (
  J142 true h35) (
  J142 (decide ((w64 (s33 + 65)) > (r12.len : Int))) h35)))))) 0 h32) (fun J31 =>
  withJ (σ := Bool) (fun s149 h151 => -- s149: t64
  cnd s149 (
  R false h151) (
  J31 () h151)) (fun J150 =>
  cnd (r20.2 != 0) (
  J150 true h29) (
  b2s r20.1.a r20.1.len h29 fun s152 =>
  b2s x_1.a x_1.len h29 fun s153 =>
  cnd (!seq s152 s153) (
  J150 true h29) (
  J150 (r28.2 != 307) h29))))) (fun J4 =>
  withJ (σ := Bool) (fun s154 h156 => -- s154: t29
  cnd s154 (
  CallT Tryd.prog law19_awake_no [] h156 [.sc (.bool)] fun (r157 : Bool) h158 =>
  R r157 h158) (
  J4 () h156)) (fun J155 =>
  cnd (decide ((x_1.len : Int) > 3000)) (
  J155 true h2) (
  J155 (decide ((x_2.len : Int) > 40)) h2)))
theorem law19_ChunkBack_eq (x_0 : ByteArray × ByteArray × ByteArray × ByteArray × Sl × ByteArray) (x_1 : Sl) (x_2 : Sl) (x_3 : Int) (x_4 : Int) (R : Bool → Heap → Prop) (h : Heap) : fnX Tryd.prog Fns.fns Tryd.f5 (.s .n (.j [] (.j [(29, .bool)] .n (.s (.s .n .n) .n)) (.s .n (.s .n (.s .n (.j [] (.j [(64, .bool)] .n (.s (.s .n .n) .n)) (.s .n (.s (.b (.l [(16, .int .i64)] (.j [(70, .sl), (71, .int .i64), (72, .ptr), (73, .int .u8), (74, .bool)] (.s .n (.s .n .n)) (.b .n)))) (.j [] (.j [(86, .bool)] .n (.s (.j [(10, .bool)] .n .n) .n)) (.s .n (.s .n (.s .n (.j [(19, .bool)] .n (.s .n (.s (.s .n (.s (.j [(10, .bool)] .n .n) .n)) (.j [(10, .bool)] .n .n)))))))))))))))) [.sc (.bool)] [.agg #[.string x_0.1, .string x_0.2.1, .string x_0.2.2.1, .string x_0.2.2.2.1, .slice x_0.2.2.2.2.1.a x_0.2.2.2.2.1.len x_0.2.2.2.2.1.cap, .string x_0.2.2.2.2.2], .slice x_1.a x_1.len x_1.cap, .slice x_2.a x_2.len x_2.cap, .int .i64 x_3, .int .u8 x_4] h R = law19_ChunkBack x_0 x_1 x_2 x_3 x_4 R h := by kernel_rfl
theorem law19_ChunkBack_call (x_0 : ByteArray × ByteArray × ByteArray × ByteArray × Sl × ByteArray) (x_1 : Sl) (x_2 : Sl) (x_3 : Int) (x_4 : Int) {R : Bool → Heap → Prop} {h : Heap} (hx : law19_ChunkBack x_0 x_1 x_2 x_3 x_4 R h) : CallT Tryd.prog 5 [.agg #[.string x_0.1, .string x_0.2.1, .string x_0.2.2.1, .string x_0.2.2.2.1, .slice x_0.2.2.2.2.1.a x_0.2.2.2.2.1.len x_0.2.2.2.2.1.cap, .string x_0.2.2.2.2.2], .slice x_1.a x_1.len x_1.cap, .slice x_2.a x_2.len x_2.cap, .int .i64 x_3, .int .u8 x_4] h [.sc (.bool)] R :=
  call_of_fnX fnsOk mixed Tryd.func5 (by kernel_rfl) (by rw [law19_ChunkBack_eq]; exact hx)

/-- stowage/stowagelaw19.ChunkEnds (6) -/
def law19_ChunkEnds (x_0 : ByteArray × ByteArray × ByteArray × ByteArray × Sl × ByteArray) (x_1 : Sl) (x_2 : Sl) (x_3 : Int) (R : Bool → Heap → Prop) (h : Heap) : Prop :=
  newB [.string x_0.1, .string x_0.2.1, .string x_0.2.2.1, .string x_0.2.2.2.1, .slice x_0.2.2.2.2.1.a x_0.2.2.2.2.1.len x_0.2.2.2.2.1.cap, .string x_0.2.2.2.2.2] 24 h fun a1 h2 =>
  withJ (σ := Unit) (fun s3 h5 => -- s3: 
  ldS a1 h5 fun s6 =>
  ldS (a1.add 1) h5 fun s7 =>
  ldS (a1.add 2) h5 fun s8 =>
  ldS (a1.add 3) h5 fun s9 =>
  ldL (a1.add 4) h5 fun o10 l10 c10 =>
  ldS (a1.add 5) h5 fun s11 =>
  CallT Tryd.prog chunk_Encode_no [.agg #[.string s6, .string s7, .string s8, .string s9, .slice o10 l10 c10, .string s11], .slice x_1.a x_1.len x_1.cap, .slice x_2.a x_2.len x_2.cap] h5 [.sc (.sl)] fun (r12 : Sl) h13 =>
  cnd ((r12.len : Int) == 0) (
  R false h13) (
  ldS a1 h13 fun s14 =>
  ldS (a1.add 1) h13 fun s15 =>
  ldS (a1.add 2) h13 fun s16 =>
  ldS (a1.add 3) h13 fun s17 =>
  ldL (a1.add 4) h13 fun o18 l18 c18 =>
  ldS (a1.add 5) h13 fun s19 =>
  neZ (r12.len : Int) (
  neZ (r12.len : Int) (
  lsl 1 r12.a r12.cap 0 ((w64 ((x_3.tmod (r12.len : Int)) + (r12.len : Int))).tmod (r12.len : Int)) (r12.cap : Int) fun o20 l20 c20 =>
  CallT Tryd.prog chunk_Decode_no [.agg #[.string s14, .string s15, .string s16, .string s17, .slice o18 l18 c18, .string s19], .slice o20 l20 c20, .int .i64 (x_1.len : Int)] h13 [.sc (.sl), .sc (.int .i64)] fun (r21 : Sl × Int) h22 =>
  withJ (σ := Int) (fun s23 h25 => -- s23: t13
  withJ (σ := Bool) (fun s26 h28 => -- s26: t8
  R s26 h28) (fun J27 =>
  cnd (r21.2 == 307) (
  cnd ((r21.1.len : Int) == 0) (
  cnd (s23 == 308) (
  CallT Tryd.prog law19_awake_no [] h25 [.sc (.bool)] fun (r29 : Bool) h30 =>
  J27 r29 h30) (
  J27 false h25)) (
  J27 false h25)) (
  J27 false h25))) (fun J24 =>
  ldS a1 h22 fun s31 =>
  ldS (a1.add 1) h22 fun s32 =>
  ldS (a1.add 2) h22 fun s33 =>
  ldS (a1.add 3) h22 fun s34 =>
  ldL (a1.add 4) h22 fun o35 l35 c35 =>
  ldS (a1.add 5) h22 fun s36 =>
  (newB [] 5 h22 fun a37 h38 =>
  (ldS a1 h38 fun s39 =>
  ldS (a1.add 1) h38 fun s40 =>
  ldS (a1.add 2) h38 fun s41 =>
  ldS (a1.add 3) h38 fun s42 =>
  ldL (a1.add 4) h38 fun o43 l43 c43 =>
  ldS (a1.add 5) h38 fun s44 =>
  (.agg #[.string s39, .string s40, .string s41, .string s42, .slice o43 l43 c43, .string s44] : Value) = .agg #[.string s31, .string s32, .string s33, .string s34, .slice o35 l35 c35, .string s36]) ∧
  (rdCells r12.a (r12.len * 1) h38 fun cs48 =>
  app [.int .u8 0] 5 1 1 (some a37) 0 0 cs48 r12.len h38 fun o45 c46 h47 =>
  (ldS a1 h47 fun s49 =>
  ldS (a1.add 1) h47 fun s50 =>
  ldS (a1.add 2) h47 fun s51 =>
  ldS (a1.add 3) h47 fun s52 =>
  ldL (a1.add 4) h47 fun o53 l53 c53 =>
  ldS (a1.add 5) h47 fun s54 =>
  (.agg #[.string s49, .string s50, .string s51, .string s52, .slice o53 l53 c53, .string s54] : Value) = .agg #[.string s31, .string s32, .string s33, .string s34, .slice o35 l35 c35, .string s36]) ∧
  newB [.int .u8 120] 5 h47 fun a55 h56 =>
  (ldS a1 h56 fun s57 =>
  ldS (a1.add 1) h56 fun s58 =>
  ldS (a1.add 2) h56 fun s59 =>
  ldS (a1.add 3) h56 fun s60 =>
  ldL (a1.add 4) h56 fun o61 l61 c61 =>
  ldS (a1.add 5) h56 fun s62 =>
  (.agg #[.string s57, .string s58, .string s59, .string s60, .slice o61 l61 c61, .string s62] : Value) = .agg #[.string s31, .string s32, .string s33, .string s34, .slice o35 l35 c35, .string s36]) ∧
  ldRow (1 * 1) a55 h56 fun cs66 =>
  app [.int .u8 0] 5 1 1 o45 (0 + r12.len) c46 cs66 1 h56 fun o63 c64 h65 =>
  (ldS a1 h65 fun s67 =>
  ldS (a1.add 1) h65 fun s68 =>
  ldS (a1.add 2) h65 fun s69 =>
  ldS (a1.add 3) h65 fun s70 =>
  ldL (a1.add 4) h65 fun o71 l71 c71 =>
  ldS (a1.add 5) h65 fun s72 =>
  (.agg #[.string s67, .string s68, .string s69, .string s70, .slice o71 l71 c71, .string s72] : Value) = .agg #[.string s31, .string s32, .string s33, .string s34, .slice o35 l35 c35, .string s36]) ∧
  CallT Tryd.prog chunk_Decode_no [.agg #[.string s31, .string s32, .string s33, .string s34, .slice o35 l35 c35, .string s36], .slice o63 ((0 + r12.len) + 1) c64, .int .i64 (x_1.len : Int)] h65 [.sc (.sl), .sc (.int .i64)] fun (r73 : Sl × Int) h74 =>
  J24 r73.2 h74) ∧
  (newB [.int .u8 120] 5 h38 fun a75 h76 =>
  (ldS a1 h76 fun s77 =>
  ldS (a1.add 1) h76 fun s78 =>
  ldS (a1.add 2) h76 fun s79 =>
  ldS (a1.add 3) h76 fun s80 =>
  ldL (a1.add 4) h76 fun o81 l81 c81 =>
  ldS (a1.add 5) h76 fun s82 =>
  (.agg #[.string s77, .string s78, .string s79, .string s80, .slice o81 l81 c81, .string s82] : Value) = .agg #[.string s31, .string s32, .string s33, .string s34, .slice o35 l35 c35, .string s36]) ∧
  rdCells r12.a (r12.len * 1) h76 fun cs86 =>
  app [.int .u8 0] 5 1 1 (some a37) 0 0 cs86 r12.len h76 fun o83 c84 h85 =>
  (ldS a1 h85 fun s87 =>
  ldS (a1.add 1) h85 fun s88 =>
  ldS (a1.add 2) h85 fun s89 =>
  ldS (a1.add 3) h85 fun s90 =>
  ldL (a1.add 4) h85 fun o91 l91 c91 =>
  ldS (a1.add 5) h85 fun s92 =>
  (.agg #[.string s87, .string s88, .string s89, .string s90, .slice o91 l91 c91, .string s92] : Value) = .agg #[.string s31, .string s32, .string s33, .string s34, .slice o35 l35 c35, .string s36]) ∧
  ldRow (1 * 1) a75 h85 fun cs96 =>
  app [.int .u8 0] 5 1 1 o83 (0 + r12.len) c84 cs96 1 h85 fun o93 c94 h95 =>
  (ldS a1 h95 fun s97 =>
  ldS (a1.add 1) h95 fun s98 =>
  ldS (a1.add 2) h95 fun s99 =>
  ldS (a1.add 3) h95 fun s100 =>
  ldL (a1.add 4) h95 fun o101 l101 c101 =>
  ldS (a1.add 5) h95 fun s102 =>
  (.agg #[.string s97, .string s98, .string s99, .string s100, .slice o101 l101 c101, .string s102] : Value) = .agg #[.string s31, .string s32, .string s33, .string s34, .slice o35 l35 c35, .string s36]) ∧
  CallT Tryd.prog chunk_Decode_no [.agg #[.string s31, .string s32, .string s33, .string s34, .slice o35 l35 c35, .string s36], .slice o93 ((0 + r12.len) + 1) c94, .int .i64 (x_1.len : Int)] h95 [.sc (.sl), .sc (.int .i64)] fun (r103 : Sl × Int) h104 =>
  J24 r103.2 h104)) ∧
  (newB [.int .u8 120] 5 h22 fun a105 h106 =>
  (ldS a1 h106 fun s107 =>
  ldS (a1.add 1) h106 fun s108 =>
  ldS (a1.add 2) h106 fun s109 =>
  ldS (a1.add 3) h106 fun s110 =>
  ldL (a1.add 4) h106 fun o111 l111 c111 =>
  ldS (a1.add 5) h106 fun s112 =>
  (.agg #[.string s107, .string s108, .string s109, .string s110, .slice o111 l111 c111, .string s112] : Value) = .agg #[.string s31, .string s32, .string s33, .string s34, .slice o35 l35 c35, .string s36]) ∧
  newB [] 5 h106 fun a113 h114 =>
  (ldS a1 h114 fun s115 =>
  ldS (a1.add 1) h114 fun s116 =>
  ldS (a1.add 2) h114 fun s117 =>
  ldS (a1.add 3) h114 fun s118 =>
  ldL (a1.add 4) h114 fun o119 l119 c119 =>
  ldS (a1.add 5) h114 fun s120 =>
  (.agg #[.string s115, .string s116, .string s117, .string s118, .slice o119 l119 c119, .string s120] : Value) = .agg #[.string s31, .string s32, .string s33, .string s34, .slice o35 l35 c35, .string s36]) ∧
  rdCells r12.a (r12.len * 1) h114 fun cs124 =>
  app [.int .u8 0] 5 1 1 (some a113) 0 0 cs124 r12.len h114 fun o121 c122 h123 =>
  (ldS a1 h123 fun s125 =>
  ldS (a1.add 1) h123 fun s126 =>
  ldS (a1.add 2) h123 fun s127 =>
  ldS (a1.add 3) h123 fun s128 =>
  ldL (a1.add 4) h123 fun o129 l129 c129 =>
  ldS (a1.add 5) h123 fun s130 =>
  (.agg #[.string s125, .string s126, .string s127, .string s128, .slice o129 l129 c129, .string s130] : Value) = .agg #[.string s31, .string s32, .string s33, .string s34, .slice o35 l35 c35, .string s36]) ∧
  ldRow (1 * 1) a105 h123 fun cs134 =>
  app [.int .u8 0] 5 1 1 o121 (0 + r12.len) c122 cs134 1 h123 fun o131 c132 h133 =>
  (ldS a1 h133 fun s135 =>
  ldS (a1.add 1) h133 fun s136 =>
  ldS (a1.add 2) h133 fun s137 =>
  ldS (a1.add 3) h133 fun s138 =>
  ldL (a1.add 4) h133 fun o139 l139 c139 =>
  ldS (a1.add 5) h133 fun s140 =>
  (.agg #[.string s135, .string s136, .string s137, .string s138, .slice o139 l139 c139, .string s140] : Value) = .agg #[.string s31, .string s32, .string s33, .string s34, .slice o35 l35 c35, .string s36]) ∧
  CallT Tryd.prog chunk_Decode_no [.agg #[.string s31, .string s32, .string s33, .string s34, .slice o35 l35 c35, .string s36], .slice o131 ((0 + r12.len) + 1) c132, .int .i64 (x_1.len : Int)] h133 [.sc (.sl), .sc (.int .i64)] fun (r141 : Sl × Int) h142 =>
  J24 r141.2 h142)))))) (fun J4 =>
  withJ (σ := Bool) (fun s143 h145 => -- s143: t21
  cnd s143 (
  CallT Tryd.prog law19_awake_no [] h145 [.sc (.bool)] fun (r146 : Bool) h147 =>
  R r146 h147) (
  J4 () h145)) (fun J144 =>
  cnd (decide ((x_1.len : Int) > 2000)) (
  J144 true h2) (
  J144 (decide ((x_2.len : Int) > 40)) h2)))
theorem law19_ChunkEnds_eq (x_0 : ByteArray × ByteArray × ByteArray × ByteArray × Sl × ByteArray) (x_1 : Sl) (x_2 : Sl) (x_3 : Int) (R : Bool → Heap → Prop) (h : Heap) : fnX Tryd.prog Fns.fns Tryd.f6 (.s .n (.j [] (.j [(21, .bool)] .n (.s (.s .n .n) .n)) (.s .n (.s (.s .n (.s (.s .n .n) .n)) (.s .n (.j [(13, .int .i64)] .n (.j [(8, .bool)] .n .n))))))) [.sc (.bool)] [.agg #[.string x_0.1, .string x_0.2.1, .string x_0.2.2.1, .string x_0.2.2.2.1, .slice x_0.2.2.2.2.1.a x_0.2.2.2.2.1.len x_0.2.2.2.2.1.cap, .string x_0.2.2.2.2.2], .slice x_1.a x_1.len x_1.cap, .slice x_2.a x_2.len x_2.cap, .int .i64 x_3] h R = law19_ChunkEnds x_0 x_1 x_2 x_3 R h := by kernel_rfl
theorem law19_ChunkEnds_call (x_0 : ByteArray × ByteArray × ByteArray × ByteArray × Sl × ByteArray) (x_1 : Sl) (x_2 : Sl) (x_3 : Int) {R : Bool → Heap → Prop} {h : Heap} (hx : law19_ChunkEnds x_0 x_1 x_2 x_3 R h) : CallT Tryd.prog 6 [.agg #[.string x_0.1, .string x_0.2.1, .string x_0.2.2.1, .string x_0.2.2.2.1, .slice x_0.2.2.2.2.1.a x_0.2.2.2.2.1.len x_0.2.2.2.2.1.cap, .string x_0.2.2.2.2.2], .slice x_1.a x_1.len x_1.cap, .slice x_2.a x_2.len x_2.cap, .int .i64 x_3] h [.sc (.bool)] R :=
  call_of_fnX fnsOk mixed Tryd.func6 (by kernel_rfl) (by rw [law19_ChunkEnds_eq]; exact hx)

/-- stowage/stowagelaw19.ChunkCuts (7) -/
def law19_ChunkCuts (x_0 : ByteArray × ByteArray × ByteArray × ByteArray × Sl × ByteArray) (x_1 : Sl) (x_2 : Sl) (x_3 : Sl) (R : Bool → Heap → Prop) (h : Heap) : Prop :=
  newB [.string x_0.1, .string x_0.2.1, .string x_0.2.2.1, .string x_0.2.2.2.1, .slice x_0.2.2.2.2.1.a x_0.2.2.2.2.1.len x_0.2.2.2.2.1.cap, .string x_0.2.2.2.2.2] 24 h fun a1 h2 =>
  withJ (σ := Unit) (fun s3 h5 => -- s3: 
  ldS a1 h5 fun s6 =>
  ldS (a1.add 1) h5 fun s7 =>
  ldS (a1.add 2) h5 fun s8 =>
  ldS (a1.add 3) h5 fun s9 =>
  ldL (a1.add 4) h5 fun o10 l10 c10 =>
  ldS (a1.add 5) h5 fun s11 =>
  ldS a1 h5 fun s12 =>
  ldS (a1.add 1) h5 fun s13 =>
  ldS (a1.add 2) h5 fun s14 =>
  ldS (a1.add 3) h5 fun s15 =>
  ldL (a1.add 4) h5 fun o16 l16 c16 =>
  ldS (a1.add 5) h5 fun s17 =>
  CallT Tryd.prog chunk_Encode_no [.agg #[.string s12, .string s13, .string s14, .string s15, .slice o16 l16 c16, .string s17], .slice x_1.a x_1.len x_1.cap, .slice x_2.a x_2.len x_2.cap] h5 [.sc (.sl)] fun (r18 : Sl) h19 =>
  (ldS a1 h19 fun s20 =>
  ldS (a1.add 1) h19 fun s21 =>
  ldS (a1.add 2) h19 fun s22 =>
  ldS (a1.add 3) h19 fun s23 =>
  ldL (a1.add 4) h19 fun o24 l24 c24 =>
  ldS (a1.add 5) h19 fun s25 =>
  (.agg #[.string s20, .string s21, .string s22, .string s23, .slice o24 l24 c24, .string s25] : Value) = .agg #[.string s6, .string s7, .string s8, .string s9, .slice o10 l10 c10, .string s11]) ∧
  CallT Tryd.prog chunk_Decode_no [.agg #[.string s6, .string s7, .string s8, .string s9, .slice o10 l10 c10, .string s11], .slice r18.a r18.len r18.cap, .int .i64 (x_1.len : Int)] h19 [.sc (.sl), .sc (.int .i64)] fun (r26 : Sl × Int) h27 =>
  ldS a1 h27 fun s28 =>
  ldS (a1.add 1) h27 fun s29 =>
  ldS (a1.add 2) h27 fun s30 =>
  ldS (a1.add 3) h27 fun s31 =>
  ldL (a1.add 4) h27 fun o32 l32 c32 =>
  ldS (a1.add 5) h27 fun s33 =>
  ldS a1 h27 fun s34 =>
  ldS (a1.add 1) h27 fun s35 =>
  ldS (a1.add 2) h27 fun s36 =>
  ldS (a1.add 3) h27 fun s37 =>
  ldL (a1.add 4) h27 fun o38 l38 c38 =>
  ldS (a1.add 5) h27 fun s39 =>
  CallT Tryd.prog chunk_Encode_no [.agg #[.string s34, .string s35, .string s36, .string s37, .slice o38 l38 c38, .string s39], .slice x_1.a x_1.len x_1.cap, .slice x_3.a x_3.len x_3.cap] h27 [.sc (.sl)] fun (r40 : Sl) h41 =>
  (ldS a1 h41 fun s42 =>
  ldS (a1.add 1) h41 fun s43 =>
  ldS (a1.add 2) h41 fun s44 =>
  ldS (a1.add 3) h41 fun s45 =>
  ldL (a1.add 4) h41 fun o46 l46 c46 =>
  ldS (a1.add 5) h41 fun s47 =>
  (.agg #[.string s42, .string s43, .string s44, .string s45, .slice o46 l46 c46, .string s47] : Value) = .agg #[.string s28, .string s29, .string s30, .string s31, .slice o32 l32 c32, .string s33]) ∧
  CallT Tryd.prog chunk_Decode_no [.agg #[.string s28, .string s29, .string s30, .string s31, .slice o32 l32 c32, .string s33], .slice r40.a r40.len r40.cap, .int .i64 (x_1.len : Int)] h41 [.sc (.sl), .sc (.int .i64)] fun (r48 : Sl × Int) h49 =>
  withJ (σ := Bool) (fun s50 h52 => -- s50: t8
  R s50 h52) (fun J51 =>
  cnd (r26.2 == 0) (
  cnd (r48.2 == 0) (
  b2s r26.1.a r26.1.len h49 fun s53 =>
  b2s x_1.a x_1.len h49 fun s54 =>
  cnd (seq s53 s54) (
  b2s r48.1.a r48.1.len h49 fun s55 =>
  b2s x_1.a x_1.len h49 fun s56 =>
  cnd (seq s55 s56) (
  CallT Tryd.prog law19_awake_no [] h49 [.sc (.bool)] fun (r57 : Bool) h58 =>
  J51 r57 h58) (
  J51 false h49)) (
  J51 false h49)) (
  J51 false h49)) (
  J51 false h49))) (fun J4 =>
  withJ (σ := Bool) (fun s59 h61 => -- s59: t25
  cnd s59 (
  CallT Tryd.prog law19_awake_no [] h61 [.sc (.bool)] fun (r62 : Bool) h63 =>
  R r62 h63) (
  J4 () h61)) (fun J60 =>
  cnd (decide ((x_1.len : Int) > 3000)) (
  J60 true h2) (
  cnd (decide ((x_2.len : Int) > 60)) (
  J60 true h2) (
  J60 (decide ((x_3.len : Int) > 60)) h2))))
theorem law19_ChunkCuts_eq (x_0 : ByteArray × ByteArray × ByteArray × ByteArray × Sl × ByteArray) (x_1 : Sl) (x_2 : Sl) (x_3 : Sl) (R : Bool → Heap → Prop) (h : Heap) : fnX Tryd.prog Fns.fns Tryd.f7 (.s .n (.j [] (.j [(25, .bool)] .n (.s (.s .n .n) .n)) (.s .n (.s .n (.j [(8, .bool)] .n .n))))) [.sc (.bool)] [.agg #[.string x_0.1, .string x_0.2.1, .string x_0.2.2.1, .string x_0.2.2.2.1, .slice x_0.2.2.2.2.1.a x_0.2.2.2.2.1.len x_0.2.2.2.2.1.cap, .string x_0.2.2.2.2.2], .slice x_1.a x_1.len x_1.cap, .slice x_2.a x_2.len x_2.cap, .slice x_3.a x_3.len x_3.cap] h R = law19_ChunkCuts x_0 x_1 x_2 x_3 R h := by kernel_rfl
theorem law19_ChunkCuts_call (x_0 : ByteArray × ByteArray × ByteArray × ByteArray × Sl × ByteArray) (x_1 : Sl) (x_2 : Sl) (x_3 : Sl) {R : Bool → Heap → Prop} {h : Heap} (hx : law19_ChunkCuts x_0 x_1 x_2 x_3 R h) : CallT Tryd.prog 7 [.agg #[.string x_0.1, .string x_0.2.1, .string x_0.2.2.1, .string x_0.2.2.2.1, .slice x_0.2.2.2.2.1.a x_0.2.2.2.2.1.len x_0.2.2.2.2.1.cap, .string x_0.2.2.2.2.2], .slice x_1.a x_1.len x_1.cap, .slice x_2.a x_2.len x_2.cap, .slice x_3.a x_3.len x_3.cap] h [.sc (.bool)] R :=
  call_of_fnX fnsOk mixed Tryd.func7 (by kernel_rfl) (by rw [law19_ChunkCuts_eq]; exact hx)

/-- stowage/stowagelaw19.ChunkBodies (8) -/
def law19_ChunkBodies (w_0 : ByteArray × ByteArray × ByteArray × ByteArray × Sl × ByteArray) (r_1 : ByteArray × ByteArray × Sl × Sl) (R : Bool → Heap → Prop) (h : Heap) : Prop :=
  newB [.string w_0.1, .string w_0.2.1, .string w_0.2.2.1, .string w_0.2.2.2.1, .slice w_0.2.2.2.2.1.a w_0.2.2.2.2.1.len w_0.2.2.2.2.1.cap, .string w_0.2.2.2.2.2] 24 h fun a1 h2 =>
  newB [.string r_1.1, .string r_1.2.1, .slice r_1.2.2.1.a r_1.2.2.1.len r_1.2.2.1.cap, .slice r_1.2.2.2.a r_1.2.2.2.len r_1.2.2.2.cap] 45 h2 fun a3 h4 =>
  ldS a1 h4 fun s5 =>
  ldS (a1.add 1) h4 fun s6 =>
  ldS (a1.add 2) h4 fun s7 =>
  ldS (a1.add 3) h4 fun s8 =>
  ldL (a1.add 4) h4 fun o9 l9 c9 =>
  ldS (a1.add 5) h4 fun s10 =>
  ldS a3 h4 fun s11 =>
  ldS (a3.add 1) h4 fun s12 =>
  ldL (a3.add 2) h4 fun o13 l13 c13 =>
  ldL (a3.add 3) h4 fun o14 l14 c14 =>
  CallT Tryd.prog chunk_Body_no [.agg #[.string s5, .string s6, .string s7, .string s8, .slice o9 l9 c9, .string s10], .agg #[.string s11, .string s12, .slice o13 l13 c13, .slice o14 l14 c14]] h4 [.sc (.sl), .sc (.int .i64)] fun (r15 : Sl × Int) h16 =>
  ldS a1 h16 fun s17 =>
  ldS (a1.add 1) h16 fun s18 =>
  ldS (a1.add 2) h16 fun s19 =>
  ldS (a1.add 3) h16 fun s20 =>
  ldL (a1.add 4) h16 fun o21 l21 c21 =>
  ldS (a1.add 5) h16 fun s22 =>
  ldS a3 h16 fun s23 =>
  ldS (a3.add 1) h16 fun s24 =>
  ldL (a3.add 2) h16 fun o25 l25 c25 =>
  ldL (a3.add 3) h16 fun o26 l26 c26 =>
  CallT Tryd.prog law19_To_no [.agg #[.string s17, .string s18, .string s19, .string s20, .slice o21 l21 c21, .string s22]] h16 [.agg [.str, .str, .str, .str, .sl, .str]] fun (r27 : (ByteArray × ByteArray × ByteArray × ByteArray × Sl × ByteArray)) h28 =>
  (ldS a3 h28 fun s29 =>
  ldS (a3.add 1) h28 fun s30 =>
  ldL (a3.add 2) h28 fun o31 l31 c31 =>
  ldL (a3.add 3) h28 fun o32 l32 c32 =>
  (.agg #[.string s29, .string s30, .slice o31 l31 c31, .slice o32 l32 c32] : Value) = .agg #[.string s23, .string s24, .slice o25 l25 c25, .slice o26 l26 c26]) ∧
  CallT Tryd.prog ref19_Body_no [.agg #[.string r27.1, .string r27.2.1, .string r27.2.2.1, .string r27.2.2.2.1, .slice r27.2.2.2.2.1.a r27.2.2.2.2.1.len r27.2.2.2.2.1.cap, .string r27.2.2.2.2.2], .agg #[.string s23, .string s24, .slice o25 l25 c25, .slice o26 l26 c26]] h28 [.sc (.sl), .sc (.int .i64)] fun (r33 : Sl × Int) h34 =>
  withJ (σ := Bool) (fun s35 h37 => -- s35: t4
  R s35 h37) (fun J36 =>
  b2s r15.1.a r15.1.len h34 fun s38 =>
  b2s r33.1.a r33.1.len h34 fun s39 =>
  cnd (seq s38 s39) (
  cnd (r15.2 == r33.2) (
  CallT Tryd.prog law19_awake_no [] h34 [.sc (.bool)] fun (r40 : Bool) h41 =>
  J36 r40 h41) (
  J36 false h34)) (
  J36 false h34))
theorem law19_ChunkBodies_eq (w_0 : ByteArray × ByteArray × ByteArray × ByteArray × Sl × ByteArray) (r_1 : ByteArray × ByteArray × Sl × Sl) (R : Bool → Heap → Prop) (h : Heap) : fnX Tryd.prog Fns.fns Tryd.f8 (.s .n (.s .n (.s .n (.j [(4, .bool)] .n .n)))) [.sc (.bool)] [.agg #[.string w_0.1, .string w_0.2.1, .string w_0.2.2.1, .string w_0.2.2.2.1, .slice w_0.2.2.2.2.1.a w_0.2.2.2.2.1.len w_0.2.2.2.2.1.cap, .string w_0.2.2.2.2.2], .agg #[.string r_1.1, .string r_1.2.1, .slice r_1.2.2.1.a r_1.2.2.1.len r_1.2.2.1.cap, .slice r_1.2.2.2.a r_1.2.2.2.len r_1.2.2.2.cap]] h R = law19_ChunkBodies w_0 r_1 R h := by kernel_rfl
theorem law19_ChunkBodies_call (w_0 : ByteArray × ByteArray × ByteArray × ByteArray × Sl × ByteArray) (r_1 : ByteArray × ByteArray × Sl × Sl) {R : Bool → Heap → Prop} {h : Heap} (hx : law19_ChunkBodies w_0 r_1 R h) : CallT Tryd.prog 8 [.agg #[.string w_0.1, .string w_0.2.1, .string w_0.2.2.1, .string w_0.2.2.2.1, .slice w_0.2.2.2.2.1.a w_0.2.2.2.2.1.len w_0.2.2.2.2.1.cap, .string w_0.2.2.2.2.2], .agg #[.string r_1.1, .string r_1.2.1, .slice r_1.2.2.1.a r_1.2.2.1.len r_1.2.2.1.cap, .slice r_1.2.2.2.a r_1.2.2.2.len r_1.2.2.2.cap]] h [.sc (.bool)] R :=
  call_of_fnX fnsOk mixed Tryd.func8 (by kernel_rfl) (by rw [law19_ChunkBodies_eq]; exact hx)

/-- stowage/stowagelaw19.To (11) -/
def law19_To (w_0 : ByteArray × ByteArray × ByteArray × ByteArray × Sl × ByteArray) (R : (ByteArray × ByteArray × ByteArray × ByteArray × Sl × ByteArray) → Heap → Prop) (h : Heap) : Prop :=
  newB [.string w_0.1, .string w_0.2.1, .string w_0.2.2.1, .string w_0.2.2.2.1, .slice w_0.2.2.2.2.1.a w_0.2.2.2.2.1.len w_0.2.2.2.2.1.cap, .string w_0.2.2.2.2.2] 24 h fun a1 h2 =>
  newB [.string (⟨#[]⟩ : ByteArray), .string (⟨#[]⟩ : ByteArray), .string (⟨#[]⟩ : ByteArray), .string (⟨#[]⟩ : ByteArray), .slice none 0 0, .string (⟨#[]⟩ : ByteArray)] 30 h2 fun a3 h4 =>
  ldS a1 h4 fun s5 =>
  ldS (a1.add 1) h4 fun s6 =>
  ldS (a1.add 2) h4 fun s7 =>
  ldS (a1.add 3) h4 fun s8 =>
  ldL (a1.add 4) h4 fun o9 l9 c9 =>
  ldS (a1.add 5) h4 fun s10 =>
  stC a3 (.string s5) h4 fun h11 =>
  stC (a3.add 1) (.string s6) h11 fun h12 =>
  stC (a3.add 2) (.string s7) h12 fun h13 =>
  stC (a3.add 3) (.string s8) h13 fun h14 =>
  stC (a3.add 4) (.slice o9 l9 c9) h14 fun h15 =>
  stC (a3.add 5) (.string s10) h15 fun h16 =>
  ldS a3 h16 fun s17 =>
  ldS (a3.add 1) h16 fun s18 =>
  ldS (a3.add 2) h16 fun s19 =>
  ldS (a3.add 3) h16 fun s20 =>
  ldL (a3.add 4) h16 fun o21 l21 c21 =>
  ldS (a3.add 5) h16 fun s22 =>
  R (s17, s18, s19, s20, (⟨o21, l21, c21⟩ : Sl), s22) h16
theorem law19_To_eq (w_0 : ByteArray × ByteArray × ByteArray × ByteArray × Sl × ByteArray) (R : (ByteArray × ByteArray × ByteArray × ByteArray × Sl × ByteArray) → Heap → Prop) (h : Heap) : fnX Tryd.prog Fns.fns Tryd.f11 (.s .n (.s .n .n)) [.agg [.str, .str, .str, .str, .sl, .str]] [.agg #[.string w_0.1, .string w_0.2.1, .string w_0.2.2.1, .string w_0.2.2.2.1, .slice w_0.2.2.2.2.1.a w_0.2.2.2.2.1.len w_0.2.2.2.2.1.cap, .string w_0.2.2.2.2.2]] h R = law19_To w_0 R h := by kernel_rfl
theorem law19_To_call (w_0 : ByteArray × ByteArray × ByteArray × ByteArray × Sl × ByteArray) {R : (ByteArray × ByteArray × ByteArray × ByteArray × Sl × ByteArray) → Heap → Prop} {h : Heap} (hx : law19_To w_0 R h) : CallT Tryd.prog 11 [.agg #[.string w_0.1, .string w_0.2.1, .string w_0.2.2.1, .string w_0.2.2.2.1, .slice w_0.2.2.2.2.1.a w_0.2.2.2.2.1.len w_0.2.2.2.2.1.cap, .string w_0.2.2.2.2.2]] h [.agg [.str, .str, .str, .str, .sl, .str]] R :=
  call_of_fnX fnsOk mixed Tryd.func11 (by kernel_rfl) (by rw [law19_To_eq]; exact hx)

/-- stowage/stowagelaw19.awake (14) -/
def law19_awake (R : Bool → Heap → Prop) (h : Heap) : Prop :=
  newB [.int .u8 107] 5 h fun a1 h2 =>
  markS a1 h2 fun h3 =>
  newB [.string (⟨#[]⟩ : ByteArray), .string (⟨#[]⟩ : ByteArray), .string (⟨#[]⟩ : ByteArray), .string (⟨#[]⟩ : ByteArray), .slice none 0 0, .string (⟨#[]⟩ : ByteArray)] 24 h3 fun a4 h5 =>
  stC a4 (.string (⟨#[]⟩ : ByteArray)) h5 fun h6 =>
  stC (a4.add 1) (.string (⟨#[50, 48, 49, 51, 48, 53, 50, 52, 84, 48, 48, 48, 48, 48, 48, 90]⟩ : ByteArray)) h6 fun h7 =>
  stC (a4.add 2) (.string (⟨#[120]⟩ : ByteArray)) h7 fun h8 =>
  stC (a4.add 3) (.string (⟨#[121]⟩ : ByteArray)) h8 fun h9 =>
  stC (a4.add 4) (.slice (some a1) 1 1) h9 fun h10 =>
  stC (a4.add 5) (.string (⟨#[]⟩ : ByteArray)) h10 fun h11 =>
  ldS a4 h11 fun s12 =>
  ldS (a4.add 1) h11 fun s13 =>
  ldS (a4.add 2) h11 fun s14 =>
  ldS (a4.add 3) h11 fun s15 =>
  ldL (a4.add 4) h11 fun o16 l16 c16 =>
  ldS (a4.add 5) h11 fun s17 =>
  newB [.int .u8 97, .int .u8 98, .int .u8 99] 5 h11 fun a18 h19 =>
  markS a18 h19 fun h20 =>
  CallT Tryd.prog chunk_Encode_no [.agg #[.string s12, .string s13, .string s14, .string s15, .slice o16 l16 c16, .string s17], .slice (some a18) 3 3, .slice none 0 0] h20 [.sc (.sl)] fun (r21 : Sl) h22 =>
  ldS a4 h22 fun s23 =>
  ldS (a4.add 1) h22 fun s24 =>
  ldS (a4.add 2) h22 fun s25 =>
  ldS (a4.add 3) h22 fun s26 =>
  ldL (a4.add 4) h22 fun o27 l27 c27 =>
  ldS (a4.add 5) h22 fun s28 =>
  CallT Tryd.prog chunk_Decode_no [.agg #[.string s23, .string s24, .string s25, .string s26, .slice o27 l27 c27, .string s28], .slice r21.a r21.len r21.cap, .int .i64 3] h22 [.sc (.sl), .sc (.int .i64)] fun (r29 : Sl × Int) h30 =>
  ldS a4 h30 fun s31 =>
  ldS (a4.add 1) h30 fun s32 =>
  ldS (a4.add 2) h30 fun s33 =>
  ldS (a4.add 3) h30 fun s34 =>
  ldL (a4.add 4) h30 fun o35 l35 c35 =>
  ldS (a4.add 5) h30 fun s36 =>
  CallT Tryd.prog chunk_Decode_no [.agg #[.string s31, .string s32, .string s33, .string s34, .slice o35 l35 c35, .string s36], .slice none 0 0, .int .i64 0] h30 [.sc (.sl), .sc (.int .i64)] fun (r37 : Sl × Int) h38 =>
  withJ (σ := Bool) (fun s39 h41 => -- s39: t0
  R s39 h41) (fun J40 =>
  cnd (r29.2 == 0) (
  cnd (r37.2 == 307) (
  b2s r29.1.a r29.1.len h38 fun s42 =>
  cnd (seq s42 (⟨#[97, 98, 99]⟩ : ByteArray)) (
  ldS a4 h38 fun s43 =>
  ldS (a4.add 1) h38 fun s44 =>
  ldS (a4.add 2) h38 fun s45 =>
  ldS (a4.add 3) h38 fun s46 =>
  ldL (a4.add 4) h38 fun o47 l47 c47 =>
  ldS (a4.add 5) h38 fun s48 =>
  CallT Tryd.prog chunk_Sign_no [.agg #[.string s43, .string s44, .string s45, .string s46, .slice o47 l47 c47, .string s48], .string (⟨#[]⟩ : ByteArray), .slice none 0 0] h38 [.sc (.str)] fun (r49 : ByteArray) h50 =>
  J40 ((r49.size : Int) == 64) h50) (
  J40 false h38)) (
  J40 false h38)) (
  J40 false h38))
theorem law19_awake_eq (R : Bool → Heap → Prop) (h : Heap) : fnX Tryd.prog Fns.fns Tryd.f14 (.s .n (.s .n (.s .n (.s .n (.s .n (.j [(0, .bool)] .n .n)))))) [.sc (.bool)] [] h R = law19_awake R h := by kernel_rfl
theorem law19_awake_call {R : Bool → Heap → Prop} {h : Heap} (hx : law19_awake R h) : CallT Tryd.prog 14 [] h [.sc (.bool)] R :=
  call_of_fnX fnsOk mixed Tryd.func14 (by kernel_rfl) (by rw [law19_awake_eq]; exact hx)

end Go.Proofs.YtncffbocmpmejaaDoor
