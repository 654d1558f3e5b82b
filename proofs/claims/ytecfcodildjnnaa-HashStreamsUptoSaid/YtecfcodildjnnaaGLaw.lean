/- Go functions as short texts over the heap, and that each is what the loaded function comes to (the kernel compares them); written by a program. -/
import Derived.Test.YtecfcodildjnnaaGBase
set_option linter.unusedVariables false
set_option maxRecDepth 100000
namespace Go.Proofs.Ytecfcodildjnnaa
open Go D
/-- stowage/stowagelaw2.HashSums (3) -/
def law2_HashSums (b_0 : Sl) (R : Bool → Heap → Prop) (h : Heap) : Prop :=
  withJ (σ := Bool) (fun s1 h3 => -- s1: t2
  R s1 h3) (fun J2 =>
  CallT Try.prog hash_MD5_no [.slice b_0.a b_0.len b_0.cap] h [.sc (.sl)] fun (r4 : Sl) h5 =>
  CallT Try.prog ref2_MD5_no [.slice b_0.a b_0.len b_0.cap] h5 [.sc (.sl)] fun (r6 : Sl) h7 =>
  CallT Try.prog law1_Same_no [.slice r4.a r4.len r4.cap, .slice r6.a r6.len r6.cap] h7 [.sc (.bool)] fun (r8 : Bool) h9 =>
  cnd r8 (
  CallT Try.prog hash_SHA256_no [.slice b_0.a b_0.len b_0.cap] h9 [.sc (.sl)] fun (r10 : Sl) h11 =>
  CallT Try.prog ref2_SHA256_no [.slice b_0.a b_0.len b_0.cap] h11 [.sc (.sl)] fun (r12 : Sl) h13 =>
  CallT Try.prog law1_Same_no [.slice r10.a r10.len r10.cap, .slice r12.a r12.len r12.cap] h13 [.sc (.bool)] fun (r14 : Bool) h15 =>
  cnd r14 (
  CallT Try.prog hash_CRC_no [.slice b_0.a b_0.len b_0.cap] h15 [.sc (.int .u32)] fun (r16 : Int) h17 =>
  CallT Try.prog ref2_CRC_no [.slice b_0.a b_0.len b_0.cap] h17 [.sc (.int .u32)] fun (r18 : Int) h19 =>
  cnd (r16 == r18) (
  CallT Try.prog law2_awake_no [] h19 [.sc (.bool)] fun (r20 : Bool) h21 =>
  J2 r20 h21) (
  J2 false h19)) (
  J2 false h15)) (
  J2 false h9))
theorem law2_HashSums_eq (b_0 : Sl) (R : Bool → Heap → Prop) (h : Heap) : fnX Try.prog Fns.fns Try.f3 (.s .n (.j [(2, .bool)] .n .n)) [.sc (.bool)] [.slice b_0.a b_0.len b_0.cap] h R = law2_HashSums b_0 R h := by kernel_rfl
theorem law2_HashSums_call (b_0 : Sl) {R : Bool → Heap → Prop} {h : Heap} (hx : law2_HashSums b_0 R h) : CallT Try.prog 3 [.slice b_0.a b_0.len b_0.cap] h [.sc (.bool)] R :=
  call_of_fnX fnsOk mixed Try.func3 (by kernel_rfl) (by rw [law2_HashSums_eq]; exact hx)

/-- stowage/stowagelaw2.HashBursts (4) -/
def law2_HashBursts (x_0 : Sl) (x_1 : Int) (x_2 : Int) (R : Bool → Heap → Prop) (h : Heap) : Prop :=
  withJ (σ := Unit) (fun s1 h3 => -- s1: 
  newB [] 5 h3 fun a4 h5 =>
  rdCells x_0.a (x_0.len * 1) h5 fun cs9 =>
  app [.int .u8 0] 5 1 1 (some a4) 0 0 cs9 x_0.len h5 fun o6 c7 h8 =>
  LoopT (σ := Bool × Int) (fun X11 s10 h12 => -- s10: t9, t10
  cnd (decide (s10.2 < 32)) (
  withJ (σ := Bool) (fun s13 h15 => -- s13: t9
  X11 (s13, (w64 (s10.2 + 1))) h15) (fun J14 =>
  neZ (w64 (8 * ((0 + x_0.len) : Int))) (
  neZ (w64 (8 * ((0 + x_0.len) : Int))) (
  withJ (σ := Bool) (fun s16 h18 => -- s16: t49
  cnd s16 (
  idx o6 (0 + x_0.len) (w64 ((w64 (((w64 ((x_1.tmod (w64 (8 * ((0 + x_0.len) : Int)))) + (w64 (8 * ((0 + x_0.len) : Int))))).tmod (w64 (8 * ((0 + x_0.len) : Int)))) + s10.2)).tdiv 8)) fun a19 =>
  ldI .u8 (a19.add ((w64 ((w64 (((w64 ((x_1.tmod (w64 (8 * ((0 + x_0.len) : Int)))) + (w64 (8 * ((0 + x_0.len) : Int))))).tmod (w64 (8 * ((0 + x_0.len) : Int)))) + s10.2)).tdiv 8)).toNat * 1)) h18 fun n20 =>
  geZ ((w64 (((w64 ((x_1.tmod (w64 (8 * ((0 + x_0.len) : Int)))) + (w64 (8 * ((0 + x_0.len) : Int))))).tmod (w64 (8 * ((0 + x_0.len) : Int)))) + s10.2)).tmod 8) (
  idx o6 (0 + x_0.len) (w64 ((w64 (((w64 ((x_1.tmod (w64 (8 * ((0 + x_0.len) : Int)))) + (w64 (8 * ((0 + x_0.len) : Int))))).tmod (w64 (8 * ((0 + x_0.len) : Int)))) + s10.2)).tdiv 8)) fun a21 =>
  stC (a21.add ((w64 ((w64 (((w64 ((x_1.tmod (w64 (8 * ((0 + x_0.len) : Int)))) + (w64 (8 * ((0 + x_0.len) : Int))))).tmod (w64 (8 * ((0 + x_0.len) : Int)))) + s10.2)).tdiv 8)).toNat * 1)) (.int .u8 (xorI .u8 n20 (shlI .u8 1 ((w64 (((w64 ((x_1.tmod (w64 (8 * ((0 + x_0.len) : Int)))) + (w64 (8 * ((0 + x_0.len) : Int))))).tmod (w64 (8 * ((0 + x_0.len) : Int)))) + s10.2)).tmod 8)))) h18 fun h22 =>
  J14 true h22)) (
  J14 s10.1 h18)) (fun J17 =>
  geZ s10.2 (
  cnd ((andI .u32 (shrI .u32 x_2 s10.2) 1) == 1) (
  J17 (decide ((w64 (((w64 ((x_1.tmod (w64 (8 * ((0 + x_0.len) : Int)))) + (w64 (8 * ((0 + x_0.len) : Int))))).tmod (w64 (8 * ((0 + x_0.len) : Int)))) + s10.2)) < (w64 (8 * ((0 + x_0.len) : Int))))) h12) (
  J17 false h12))))))) (
  withJ (σ := Bool) (fun s23 h25 => -- s23: t6
  R s23 h25) (fun J24 =>
  CallT Try.prog hash_CRC_no [.slice x_0.a x_0.len x_0.cap] h12 [.sc (.int .u32)] fun (r26 : Int) h27 =>
  CallT Try.prog hash_CRC_no [.slice o6 (0 + x_0.len) c7] h27 [.sc (.int .u32)] fun (r28 : Int) h29 =>
  cnd (s10.1 == (r26 != r28)) (
  CallT Try.prog law2_awake_no [] h29 [.sc (.bool)] fun (r30 : Bool) h31 =>
  J24 r30 h31) (
  J24 false h29)))) (false, 0) h8) (fun J2 =>
  withJ (σ := Bool) (fun s32 h34 => -- s32: t19
  cnd s32 (
  CallT Try.prog law2_awake_no [] h34 [.sc (.bool)] fun (r35 : Bool) h36 =>
  R r35 h36) (
  J2 () h34)) (fun J33 =>
  cnd ((x_0.len : Int) == 0) (
  J33 true h) (
  J33 (decide ((x_0.len : Int) > 5000)) h)))
theorem law2_HashBursts_eq (x_0 : Sl) (x_1 : Int) (x_2 : Int) (R : Bool → Heap → Prop) (h : Heap) : fnX Try.prog Fns.fns Try.f4 (.s .n (.j [] (.j [(19, .bool)] .n (.s (.s .n .n) .n)) (.s .n (.s .n (.s .n (.s (.s .n (.b (.l [(9, .bool), (10, .int .i64)] (.s (.s .n (.s .n .n)) (.j [(9, .bool)] (.b (.s .n (.j [(49, .bool)] .n (.s (.s .n .n) .n)))) .n))))) (.j [(6, .bool)] .n .n))))))) [.sc (.bool)] [.slice x_0.a x_0.len x_0.cap, .int .i64 x_1, .int .u32 x_2] h R = law2_HashBursts x_0 x_1 x_2 R h := by kernel_rfl
theorem law2_HashBursts_call (x_0 : Sl) (x_1 : Int) (x_2 : Int) {R : Bool → Heap → Prop} {h : Heap} (hx : law2_HashBursts x_0 x_1 x_2 R h) : CallT Try.prog 4 [.slice x_0.a x_0.len x_0.cap, .int .i64 x_1, .int .u32 x_2] h [.sc (.bool)] R :=
  call_of_fnX fnsOk mixed Try.func4 (by kernel_rfl) (by rw [law2_HashBursts_eq]; exact hx)

/-- stowage/stowagelaw2.HashKeys (6) -/
def law2_HashKeys (x_0 : Sl) (x_1 : Sl) (x_2 : Int) (R : Bool → Heap → Prop) (h : Heap) : Prop :=
  cnd (decide ((x_0.len : Int) > 2000)) (
  CallT Try.prog law2_awake_no [] h [.sc (.bool)] fun (r1 : Bool) h2 =>
  R r1 h2) (
  cnd (decide ((x_0.len : Int) > 64)) (
  withJ (σ := Bool) (fun s3 h5 => -- s3: t6
  R s3 h5) (fun J4 =>
  CallT Try.prog hash_HMAC_no [.slice x_0.a x_0.len x_0.cap, .slice x_1.a x_1.len x_1.cap] h [.sc (.sl)] fun (r6 : Sl) h7 =>
  b2s r6.a r6.len h7 fun s8 =>
  CallT Try.prog hash_SHA256_no [.slice x_0.a x_0.len x_0.cap] h7 [.sc (.sl)] fun (r9 : Sl) h10 =>
  (b2s r6.a r6.len h10 fun s11 =>
  (.string s11 : Value) = .string s8) ∧
  CallT Try.prog hash_HMAC_no [.slice r9.a r9.len r9.cap, .slice x_1.a x_1.len x_1.cap] h10 [.sc (.sl)] fun (r12 : Sl) h13 =>
  (b2s r6.a r6.len h13 fun s14 =>
  (.string s14 : Value) = .string s8) ∧
  b2s r12.a r12.len h13 fun s15 =>
  cnd (seq s8 s15) (
  CallT Try.prog law2_awake_no [] h13 [.sc (.bool)] fun (r16 : Bool) h17 =>
  J4 r16 h17) (
  J4 false h13))) (
  newB [] 5 h fun a18 h19 =>
  rdCells x_0.a (x_0.len * 1) h19 fun cs23 =>
  app [.int .u8 0] 5 1 1 (some a18) 0 0 cs23 x_0.len h19 fun o20 c21 h22 =>
  LoopT (σ := Sl × Int) (fun X25 s24 h26 => -- s24: t7, t8
  withJ (σ := Sl × Int × Bool) (fun s27 h29 => -- s27: t36, t37, t38
  newB [.int .u8 0] 5 h29 fun a30 h31 =>
  ldRow (1 * 1) a30 h31 fun cs35 =>
  app [.int .u8 0] 5 1 1 s24.1.a s24.1.len s24.1.cap cs35 1 h31 fun o32 c33 h34 =>
  X25 ((⟨o32, (s24.1.len + 1), c33⟩ : Sl), (w64 (s24.2 + 1))) h34) (fun J28 =>
  cnd (decide (s24.2 < x_2)) (
  cnd (decide ((s24.1.len : Int) < 64)) (
  J28 (s24.1, (s24.1.len : Int), (decide ((s24.1.len : Int) < 64))) h26) (
  withJ (σ := Bool) (fun s36 h38 => -- s36: t6
  R s36 h38) (fun J37 =>
  CallT Try.prog hash_HMAC_no [.slice x_0.a x_0.len x_0.cap, .slice x_1.a x_1.len x_1.cap] h26 [.sc (.sl)] fun (r39 : Sl) h40 =>
  b2s r39.a r39.len h40 fun s41 =>
  CallT Try.prog hash_HMAC_no [.slice s24.1.a s24.1.len s24.1.cap, .slice x_1.a x_1.len x_1.cap] h40 [.sc (.sl)] fun (r42 : Sl) h43 =>
  (b2s r39.a r39.len h43 fun s44 =>
  (.string s44 : Value) = .string s41) ∧
  b2s r42.a r42.len h43 fun s45 =>
  cnd (seq s41 s45) (
  CallT Try.prog hash_HMAC_no [.slice x_0.a x_0.len x_0.cap, .slice x_1.a x_1.len x_1.cap] h43 [.sc (.sl)] fun (r46 : Sl) h47 =>
  cnd ((r46.len : Int) == 32) (
  CallT Try.prog hash_MD5_no [.slice x_1.a x_1.len x_1.cap] h47 [.sc (.sl)] fun (r48 : Sl) h49 =>
  cnd ((r48.len : Int) == 16) (
  CallT Try.prog law2_awake_no [] h49 [.sc (.bool)] fun (r50 : Bool) h51 =>
  J37 r50 h51) (
  J37 false h49)) (
  J37 false h47)) (
  J37 false h43)))) (
  withJ (σ := Bool) (fun s52 h54 => -- s52: t6
  R s52 h54) (fun J53 =>
  CallT Try.prog hash_HMAC_no [.slice x_0.a x_0.len x_0.cap, .slice x_1.a x_1.len x_1.cap] h26 [.sc (.sl)] fun (r55 : Sl) h56 =>
  b2s r55.a r55.len h56 fun s57 =>
  CallT Try.prog hash_HMAC_no [.slice s24.1.a s24.1.len s24.1.cap, .slice x_1.a x_1.len x_1.cap] h56 [.sc (.sl)] fun (r58 : Sl) h59 =>
  (b2s r55.a r55.len h59 fun s60 =>
  (.string s60 : Value) = .string s57) ∧
  b2s r58.a r58.len h59 fun s61 =>
  cnd (seq s57 s61) (
  CallT Try.prog hash_HMAC_no [.slice x_0.a x_0.len x_0.cap, .slice x_1.a x_1.len x_1.cap] h59 [.sc (.sl)] fun (r62 : Sl) h63 =>
  cnd ((r62.len : Int) == 32) (
  CallT Try.prog hash_MD5_no [.slice x_1.a x_1.len x_1.cap] h63 [.sc (.sl)] fun (r64 : Sl) h65 =>
  cnd ((r64.len : Int) == 16) (
  CallT Try.prog law2_awake_no [] h65 [.sc (.bool)] fun (r66 : Bool) h67 =>
  J53 r66 h67) (
  J53 false h65)) (
  J53 false h63)) (
  J53 false h59))))) ((⟨o20, (0 + x_0.len), c21⟩ : Sl), 0) h22))
theorem law2_HashKeys_eq (x_0 : Sl) (x_1 : Sl) (x_2 : Int) (R : Bool → Heap → Prop) (h : Heap) : fnX Try.prog Fns.fns Try.f6 (.s .n (.s (.s .n (.s (.s .n .n) .n)) (.s (.s .n (.s (.j [(6, .bool)] .n .n) .n)) (.s .n (.s (.s .n (.b (.l [(7, .sl), (8, .int .i64)] (.j [(36, .sl), (37, .int .i64), (38, .bool)] (.s .n (.s .n .n)) (.s (.b .n) .n))))) (.j [(6, .bool)] .n .n)))))) [.sc (.bool)] [.slice x_0.a x_0.len x_0.cap, .slice x_1.a x_1.len x_1.cap, .int .i64 x_2] h R = law2_HashKeys x_0 x_1 x_2 R h := by kernel_rfl
theorem law2_HashKeys_call (x_0 : Sl) (x_1 : Sl) (x_2 : Int) {R : Bool → Heap → Prop} {h : Heap} (hx : law2_HashKeys x_0 x_1 x_2 R h) : CallT Try.prog 6 [.slice x_0.a x_0.len x_0.cap, .slice x_1.a x_1.len x_1.cap, .int .i64 x_2] h [.sc (.bool)] R :=
  call_of_fnX fnsOk mixed Try.func6 (by kernel_rfl) (by rw [law2_HashKeys_eq]; exact hx)

/-- stowage/stowagelaw2.HashMacs (7) -/
def law2_HashMacs (key_0 : Sl) (b_1 : Sl) (R : Bool → Heap → Prop) (h : Heap) : Prop :=
  withJ (σ := Bool) (fun s1 h3 => -- s1: t4
  R s1 h3) (fun J2 =>
  CallT Try.prog hash_HMAC_no [.slice key_0.a key_0.len key_0.cap, .slice b_1.a b_1.len b_1.cap] h [.sc (.sl)] fun (r4 : Sl) h5 =>
  CallT Try.prog ref2_HMAC_no [.slice key_0.a key_0.len key_0.cap, .slice b_1.a b_1.len b_1.cap] h5 [.sc (.sl)] fun (r6 : Sl) h7 =>
  CallT Try.prog law1_Same_no [.slice r4.a r4.len r4.cap, .slice r6.a r6.len r6.cap] h7 [.sc (.bool)] fun (r8 : Bool) h9 =>
  cnd r8 (
  CallT Try.prog law2_awake_no [] h9 [.sc (.bool)] fun (r10 : Bool) h11 =>
  J2 r10 h11) (
  J2 false h9))
theorem law2_HashMacs_eq (key_0 : Sl) (b_1 : Sl) (R : Bool → Heap → Prop) (h : Heap) : fnX Try.prog Fns.fns Try.f7 (.s .n (.j [(4, .bool)] .n .n)) [.sc (.bool)] [.slice key_0.a key_0.len key_0.cap, .slice b_1.a b_1.len b_1.cap] h R = law2_HashMacs key_0 b_1 R h := by kernel_rfl
theorem law2_HashMacs_call (key_0 : Sl) (b_1 : Sl) {R : Bool → Heap → Prop} {h : Heap} (hx : law2_HashMacs key_0 b_1 R h) : CallT Try.prog 7 [.slice key_0.a key_0.len key_0.cap, .slice b_1.a b_1.len b_1.cap] h [.sc (.bool)] R :=
  call_of_fnX fnsOk mixed Try.func7 (by kernel_rfl) (by rw [law2_HashMacs_eq]; exact hx)

/-- stowage/stowagelaw2.awake (15) -/
def law2_awake (R : Bool → Heap → Prop) (h : Heap) : Prop :=
  CallT Try.prog hash_New_no [.int .i64 1] h [.sc (.ptr), .sc (.int .i64)] fun (r1 : (Option Addr) × Int) h2 =>
  withJ (σ := Unit) (fun s3 h5 => -- s3: 
  newB [.int .u8 97] 5 h5 fun a6 h7 =>
  markS a6 h7 fun h8 =>
  CallT Try.prog hash_Stream_Write_no [.pointer r1.1, .slice (some a6) 1 1] h8 [] fun (r9 : Unit) h10 =>
  withJ (σ := Bool) (fun s11 h13 => -- s11: t0
  R s11 h13) (fun J12 =>
  CallT Try.prog hash_MD5_no [.slice none 0 0] h10 [.sc (.sl)] fun (r14 : Sl) h15 =>
  CallT Try.prog enc_Hex_no [.slice r14.a r14.len r14.cap] h15 [.sc (.str)] fun (r16 : ByteArray) h17 =>
  cnd (seq r16 (⟨#[100, 52, 49, 100, 56, 99, 100, 57, 56, 102, 48, 48, 98, 50, 48, 52, 101, 57, 56, 48, 48, 57, 57, 56, 101, 99, 102, 56, 52, 50, 55, 101]⟩ : ByteArray)) (
  newB [.int .u8 97, .int .u8 98, .int .u8 99] 5 h17 fun a18 h19 =>
  markS a18 h19 fun h20 =>
  CallT Try.prog hash_SHA256_no [.slice (some a18) 3 3] h20 [.sc (.sl)] fun (r21 : Sl) h22 =>
  CallT Try.prog enc_Hex_no [.slice r21.a r21.len r21.cap] h22 [.sc (.str)] fun (r23 : ByteArray) h24 =>
  cnd (seq r23 (⟨#[98, 97, 55, 56, 49, 54, 98, 102, 56, 102, 48, 49, 99, 102, 101, 97, 52, 49, 52, 49, 52, 48, 100, 101, 53, 100, 97, 101, 50, 50, 50, 51, 98, 48, 48, 51, 54, 49, 97, 51, 57, 54, 49, 55, 55, 97, 57, 99, 98, 52, 49, 48, 102, 102, 54, 49, 102, 50, 48, 48, 49, 53, 97, 100]⟩ : ByteArray)) (
  newB [.int .u8 49, .int .u8 50, .int .u8 51, .int .u8 52, .int .u8 53, .int .u8 54, .int .u8 55, .int .u8 56, .int .u8 57] 5 h24 fun a25 h26 =>
  markS a25 h26 fun h27 =>
  CallT Try.prog hash_CRC_no [.slice (some a25) 9 9] h27 [.sc (.int .u32)] fun (r28 : Int) h29 =>
  cnd (r28 == 3808858755) (
  CallT Try.prog hash_Stream_Size_no [.pointer r1.1] h29 [.sc (.int .i64)] fun (r30 : Int) h31 =>
  J12 (r30 == 1) h31) (
  J12 false h29)) (
  J12 false h24)) (
  J12 false h17))) (fun J4 =>
  withJ (σ := Bool) (fun s32 h34 => -- s32: t12
  cnd s32 (
  R false h34) (
  J4 () h34)) (fun J33 =>
  cnd r1.1.isNone (
  J33 true h2) (
  J33 (r1.2 != 0) h2)))
theorem law2_awake_eq (R : Bool → Heap → Prop) (h : Heap) : fnX Try.prog Fns.fns Try.f15 (.s .n (.s .n (.j [] (.j [(12, .bool)] .n (.s (.s .n .n) .n)) (.s .n (.j [(0, .bool)] .n .n))))) [.sc (.bool)] [] h R = law2_awake R h := by kernel_rfl
theorem law2_awake_call {R : Bool → Heap → Prop} {h : Heap} (hx : law2_awake R h) : CallT Try.prog 15 [] h [.sc (.bool)] R :=
  call_of_fnX fnsOk mixed Try.func15 (by kernel_rfl) (by rw [law2_awake_eq]; exact hx)

/-- stowage/stowagelaw1.Same (8) -/
def law1_Same (a_0 : Sl) (b_1 : Sl) (R : Bool → Heap → Prop) (h : Heap) : Prop :=
  b2s a_0.a a_0.len h fun s1 =>
  b2s b_1.a b_1.len h fun s2 =>
  R (seq s1 s2) h
theorem law1_Same_eq (a_0 : Sl) (b_1 : Sl) (R : Bool → Heap → Prop) (h : Heap) : fnX Try.prog Fns.fns Try.f8 (.s .n (.s .n .n)) [.sc (.bool)] [.slice a_0.a a_0.len a_0.cap, .slice b_1.a b_1.len b_1.cap] h R = law1_Same a_0 b_1 R h := by kernel_rfl
theorem law1_Same_call (a_0 : Sl) (b_1 : Sl) {R : Bool → Heap → Prop} {h : Heap} (hx : law1_Same a_0 b_1 R h) : CallT Try.prog 8 [.slice a_0.a a_0.len a_0.cap, .slice b_1.a b_1.len b_1.cap] h [.sc (.bool)] R :=
  call_of_fnX fnsOk mixed Try.func8 (by kernel_rfl) (by rw [law1_Same_eq]; exact hx)

end Go.Proofs.Ytecfcodildjnnaa
