/- Go functions as short texts over the heap, and that each is what the loaded function comes to (the kernel compares them); written by a program. -/
import Derived.Test.YtmkobpkdodgboaaGBase
set_option linter.unusedVariables false
set_option maxRecDepth 100000
namespace Go.Proofs.Ytmkobpkdodgboaa
open Go D
/-- stowage/stowageref5.New (23) -/
def ref5_New (n_0 : Int) (R : (Option Addr) × Int → Heap → Prop) (h : Heap) : Prop :=
  withJ (σ := Unit) (fun s1 h3 => -- s1: 
  newB [.slice none 0 0, .slice none 0 0, .int .i64 (-1), .bool false] 53 h3 fun a4 h5 =>
  CallT Try.prog ref5_blank_no [] h5 [.sc (.str)] fun (r6 : ByteArray) h7 =>
  LoopT (σ := Int) (fun X9 s8 h10 => -- s8: i
  cnd (decide (s8 < n_0)) (
  ldL a4 h10 fun o11 l11 c11 =>
  newB [.string r6] 9 h10 fun a12 h13 =>
  ldRow (1 * 1) a12 h13 fun cs17 =>
  app [.string (⟨#[]⟩ : ByteArray)] 9 1 16 o11 l11 c11 cs17 1 h13 fun o14 c15 h16 =>
  stC a4 (.slice o14 (l11 + 1) c15) h16 fun h18 =>
  X9 (w64 (s8 + 1)) h18) (
  R ((some a4), 0) h10)) 0 h7) (fun J2 =>
  withJ (σ := Bool) (fun s19 h21 => -- s19: t12
  cnd s19 (
  R (none, 1) h21) (
  J2 () h21)) (fun J20 =>
  cnd (decide (n_0 < 1)) (
  J20 true h) (
  J20 (decide (n_0 > 4096)) h)))
theorem ref5_New_eq (n_0 : Int) (R : (Option Addr) × Int → Heap → Prop) (h : Heap) : fnX Try.prog Fns.fns Try.f23 (.s .n (.j [] (.j [(12, .bool)] .n (.s (.s .n .n) .n)) (.s .n (.s .n (.s (.s .n (.b (.l [(6, .int .i64)] (.s (.s .n (.s .n .n)) (.s (.b .n) .n))))) (.s .n .n)))))) [.sc (.ptr), .sc (.int .i64)] [.int .i64 n_0] h R = ref5_New n_0 R h := by kernel_rfl
theorem ref5_New_call (n_0 : Int) {R : (Option Addr) × Int → Heap → Prop} {h : Heap} (hx : ref5_New n_0 R h) : CallT Try.prog 23 [.int .i64 n_0] h [.sc (.ptr), .sc (.int .i64)] R :=
  call_of_fnX fnsOk mixed Try.func23 (by kernel_rfl) (by rw [ref5_New_eq]; exact hx)

/-- stowage/stowageref5.blank (56) -/
def ref5_blank (R : ByteArray → Heap → Prop) (h : Heap) : Prop :=
  mkSl [.int .u8 0] 5 1 256 256 h fun a1 h2 =>
  b2s (some a1) ((256 : Int).toNat) h2 fun s3 =>
  R s3 h2
theorem ref5_blank_eq (R : ByteArray → Heap → Prop) (h : Heap) : fnX Try.prog Fns.fns Try.f56 (.s .n (.s .n .n)) [.sc (.str)] [] h R = ref5_blank R h := by kernel_rfl
theorem ref5_blank_call {R : ByteArray → Heap → Prop} {h : Heap} (hx : ref5_blank R h) : CallT Try.prog 56 [] h [.sc (.str)] R :=
  call_of_fnX fnsOk mixed Try.func56 (by kernel_rfl) (by rw [ref5_blank_eq]; exact hx)

/-- (*stowage/stowageref5.Dev).burn (64) -/
def ref5_Dev_burn (d_0 : Option Addr) (R : Int → Heap → Prop) (h : Heap) : Prop :=
  nn d_0 fun a1 =>
  ldI .i64 (a1.add 2) h fun n2 =>
  cnd (n2 == 0) (
  nn d_0 fun a3 =>
  stC (a3.add 3) (.bool true) h fun h4 =>
  R 50 h4) (
  withJ (σ := Unit) (fun s5 h7 => -- s5: 
  R 0 h7) (fun J6 =>
  nn d_0 fun a8 =>
  ldI .i64 (a8.add 2) h fun n9 =>
  cnd (decide (n9 > 0)) (
  nn d_0 fun a10 =>
  ldI .i64 (a10.add 2) h fun n11 =>
  nn d_0 fun a12 =>
  stC (a12.add 2) (.int .i64 (w64 (n11 - 1))) h fun h13 =>
  J6 () h13) (
  J6 () h)))
theorem ref5_Dev_burn_eq (d_0 : Option Addr) (R : Int → Heap → Prop) (h : Heap) : fnX Try.prog Fns.fns Try.f64 (.s .n (.s (.s .n (.s (.s .n (.s .n .n)) .n)) (.j [] (.s .n (.s .n .n)) (.s .n .n)))) [.sc (.int .i64)] [.pointer d_0] h R = ref5_Dev_burn d_0 R h := by kernel_rfl
theorem ref5_Dev_burn_call (d_0 : Option Addr) {R : Int → Heap → Prop} {h : Heap} (hx : ref5_Dev_burn d_0 R h) : CallT Try.prog 64 [.pointer d_0] h [.sc (.int .i64)] R :=
  call_of_fnX fnsOk mixed Try.func64 (by kernel_rfl) (by rw [ref5_Dev_burn_eq]; exact hx)

/-- (*stowage/stowageref5.Dev).Write (29) -/
def ref5_Dev_Write (d_0 : Option Addr) (i_1 : Int) (b_2 : ByteArray) (R : Int → Heap → Prop) (h : Heap) : Prop :=
  nn d_0 fun a1 =>
  ldB (a1.add 3) h fun b2 =>
  cnd b2 (
  R 50 h) (
  withJ (σ := Unit) (fun s3 h5 => -- s3: 
  CallT Try.prog ref5_Dev_burn_no [.pointer d_0] h5 [.sc (.int .i64)] fun (r6 : Int) h7 =>
  cnd (r6 != 0) (
  R r6 h7) (
  nn d_0 fun a8 =>
  ldL (a8.add 1) h7 fun o9 l9 c9 =>
  newB [.int .i64 i_1, .string b_2] 113 h7 fun a10 h11 =>
  ldRow (1 * 2) a10 h11 fun cs15 =>
  app [.int .i64 0, .string (⟨#[]⟩ : ByteArray)] 113 2 24 o9 l9 c9 cs15 1 h11 fun o12 c13 h14 =>
  nn d_0 fun a16 =>
  stC (a16.add 1) (.slice o12 (l9 + 1) c13) h14 fun h17 =>
  R 0 h17)) (fun J4 =>
  withJ (σ := Bool) (fun s18 h20 => -- s18: t27
  cnd s18 (
  R 1 h20) (
  J4 () h20)) (fun J19 =>
  cnd (decide (i_1 < 0)) (
  J19 true h) (
  nn d_0 fun a21 =>
  ldL a21 h fun o22 l22 c22 =>
  cnd (decide (i_1 ≥ (l22 : Int))) (
  J19 true h) (
  J19 ((b_2.size : Int) != 256) h)))))
theorem ref5_Dev_Write_eq (d_0 : Option Addr) (i_1 : Int) (b_2 : ByteArray) (R : Int → Heap → Prop) (h : Heap) : fnX Try.prog Fns.fns Try.f29 (.s .n (.s (.s .n (.s (.s .n .n) .n)) (.j [] (.j [(27, .bool)] .n (.s (.s .n .n) .n)) (.s (.s .n (.s .n (.s (.s .n .n) .n))) (.s .n (.s .n .n)))))) [.sc (.int .i64)] [.pointer d_0, .int .i64 i_1, .string b_2] h R = ref5_Dev_Write d_0 i_1 b_2 R h := by kernel_rfl
theorem ref5_Dev_Write_call (d_0 : Option Addr) (i_1 : Int) (b_2 : ByteArray) {R : Int → Heap → Prop} {h : Heap} (hx : ref5_Dev_Write d_0 i_1 b_2 R h) : CallT Try.prog 29 [.pointer d_0, .int .i64 i_1, .string b_2] h [.sc (.int .i64)] R :=
  call_of_fnX fnsOk mixed Try.func29 (by kernel_rfl) (by rw [ref5_Dev_Write_eq]; exact hx)

/-- (*stowage/stowageref5.Dev).Read (65) -/
def ref5_Dev_Read (d_0 : Option Addr) (i_1 : Int) (R : ByteArray × Int → Heap → Prop) (h : Heap) : Prop :=
  nn d_0 fun a1 =>
  ldB (a1.add 3) h fun b2 =>
  cnd b2 (
  R ((⟨#[]⟩ : ByteArray), 50) h) (
  withJ (σ := Unit) (fun s3 h5 => -- s3: 
  nn d_0 fun a6 =>
  ldL a6 h5 fun o7 l7 c7 =>
  idx o7 l7 i_1 fun a8 =>
  ldS (a8.add (i_1.toNat * 1)) h5 fun s9 =>
  LoopT (σ := ByteArray × Int) (fun X11 s10 h12 => -- s10: s, k
  nn d_0 fun a13 =>
  ldL (a13.add 1) h12 fun o14 l14 c14 =>
  cnd (decide (s10.2 < (l14 : Int))) (
  withJ (σ := ByteArray) (fun s15 h17 => -- s15: s
  X11 (s15, (w64 (s10.2 + 1))) h17) (fun J16 =>
  nn d_0 fun a18 =>
  ldL (a18.add 1) h12 fun o19 l19 c19 =>
  idx o19 l19 s10.2 fun a20 =>
  ldI .i64 (a20.add (s10.2.toNat * 2)) h12 fun n21 =>
  cnd (n21 == i_1) (
  nn d_0 fun a22 =>
  ldL (a22.add 1) h12 fun o23 l23 c23 =>
  idx o23 l23 s10.2 fun a24 =>
  ldS ((a24.add (s10.2.toNat * 2)).add 1) h12 fun s25 =>
  J16 s25 h12) (
  J16 s10.1 h12))) (
  R (s10.1, 0) h12)) (s9, 0) h5) (fun J4 =>
  withJ (σ := Bool) (fun s26 h28 => -- s26: t22
  cnd s26 (
  R ((⟨#[]⟩ : ByteArray), 1) h28) (
  J4 () h28)) (fun J27 =>
  cnd (decide (i_1 < 0)) (
  J27 true h) (
  nn d_0 fun a29 =>
  ldL a29 h fun o30 l30 c30 =>
  J27 (decide (i_1 ≥ (l30 : Int))) h))))
theorem ref5_Dev_Read_eq (d_0 : Option Addr) (i_1 : Int) (R : ByteArray × Int → Heap → Prop) (h : Heap) : fnX Try.prog Fns.fns Try.f65 (.s .n (.s (.s .n (.s (.s .n .n) .n)) (.j [] (.j [(22, .bool)] .n (.s (.s .n .n) .n)) (.s .n (.s (.s .n (.b (.l [(6, .str), (7, .int .i64)] (.s (.s .n (.s .n .n)) (.j [(6, .str)] (.b (.s .n (.s .n .n))) .n))))) (.s .n .n)))))) [.sc (.str), .sc (.int .i64)] [.pointer d_0, .int .i64 i_1] h R = ref5_Dev_Read d_0 i_1 R h := by kernel_rfl
theorem ref5_Dev_Read_call (d_0 : Option Addr) (i_1 : Int) {R : ByteArray × Int → Heap → Prop} {h : Heap} (hx : ref5_Dev_Read d_0 i_1 R h) : CallT Try.prog 65 [.pointer d_0, .int .i64 i_1] h [.sc (.str), .sc (.int .i64)] R :=
  call_of_fnX fnsOk mixed Try.func65 (by kernel_rfl) (by rw [ref5_Dev_Read_eq]; exact hx)

/-- (*stowage/stowageref5.Dev).Flush (59) -/
def ref5_Dev_Flush (d_0 : Option Addr) (R : Int → Heap → Prop) (h : Heap) : Prop :=
  nn d_0 fun a1 =>
  ldB (a1.add 3) h fun b2 =>
  cnd b2 (
  R 50 h) (
  CallT Try.prog ref5_Dev_burn_no [.pointer d_0] h [.sc (.int .i64)] fun (r3 : Int) h4 =>
  cnd (r3 != 0) (
  R r3 h4) (
  LoopT (σ := Int) (fun X6 s5 h7 => -- s5: k
  nn d_0 fun a8 =>
  ldL (a8.add 1) h7 fun o9 l9 c9 =>
  cnd (decide (s5 < (l9 : Int))) (
  nn d_0 fun a10 =>
  ldL a10 h7 fun o11 l11 c11 =>
  nn d_0 fun a12 =>
  ldL (a12.add 1) h7 fun o13 l13 c13 =>
  idx o13 l13 s5 fun a14 =>
  ldI .i64 (a14.add (s5.toNat * 2)) h7 fun n15 =>
  nn d_0 fun a16 =>
  ldL (a16.add 1) h7 fun o17 l17 c17 =>
  idx o17 l17 s5 fun a18 =>
  ldS ((a18.add (s5.toNat * 2)).add 1) h7 fun s19 =>
  idx o11 l11 n15 fun a20 =>
  stC (a20.add (n15.toNat * 1)) (.string s19) h7 fun h21 =>
  X6 (w64 (s5 + 1)) h21) (
  nn d_0 fun a22 =>
  stC (a22.add 1) (.slice none 0 0) h7 fun h23 =>
  R 0 h23)) 0 h4))
theorem ref5_Dev_Flush_eq (d_0 : Option Addr) (R : Int → Heap → Prop) (h : Heap) : fnX Try.prog Fns.fns Try.f59 (.s .n (.s (.s .n (.s (.s .n .n) .n)) (.s (.s .n (.s .n (.s (.s .n .n) .n))) (.s (.s .n (.b (.l [(4, .int .i64)] (.s (.s .n (.s .n .n)) (.s (.b .n) .n))))) (.s .n (.s .n .n)))))) [.sc (.int .i64)] [.pointer d_0] h R = ref5_Dev_Flush d_0 R h := by kernel_rfl
theorem ref5_Dev_Flush_call (d_0 : Option Addr) {R : Int → Heap → Prop} {h : Heap} (hx : ref5_Dev_Flush d_0 R h) : CallT Try.prog 59 [.pointer d_0] h [.sc (.int .i64)] R :=
  call_of_fnX fnsOk mixed Try.func59 (by kernel_rfl) (by rw [ref5_Dev_Flush_eq]; exact hx)

/-- (*stowage/stowageref5.Dev).Crash (26) -/
def ref5_Dev_Crash (d_0 : Option Addr) (keep_1 : Sl) (R : Unit → Heap → Prop) (h : Heap) : Prop :=
  LoopT (σ := Int) (fun X2 s1 h3 => -- s1: k
  nn d_0 fun a4 =>
  ldL (a4.add 1) h3 fun o5 l5 c5 =>
  cnd (decide (s1 < (l5 : Int))) (
  withJ (σ := Unit) (fun s6 h8 => -- s6: 
  X2 (w64 (s1 + 1)) h8) (fun J7 =>
  withJ (σ := Bool) (fun s9 h11 => -- s9: t23
  cnd s9 (
  nn d_0 fun a12 =>
  ldL a12 h11 fun o13 l13 c13 =>
  nn d_0 fun a14 =>
  ldL (a14.add 1) h11 fun o15 l15 c15 =>
  idx o15 l15 s1 fun a16 =>
  ldI .i64 (a16.add (s1.toNat * 2)) h11 fun n17 =>
  nn d_0 fun a18 =>
  ldL (a18.add 1) h11 fun o19 l19 c19 =>
  idx o19 l19 s1 fun a20 =>
  ldS ((a20.add (s1.toNat * 2)).add 1) h11 fun s21 =>
  idx o13 l13 n17 fun a22 =>
  stC (a22.add (n17.toNat * 1)) (.string s21) h11 fun h23 =>
  J7 () h23) (
  J7 () h11)) (fun J10 =>
  cnd (decide (s1 < (keep_1.len : Int))) (
  idx keep_1.a keep_1.len s1 fun a24 =>
  ldB (a24.add (s1.toNat * 1)) h3 fun b25 =>
  J10 b25 h3) (
  J10 false h3)))) (
  nn d_0 fun a26 =>
  stC (a26.add 1) (.slice none 0 0) h3 fun h27 =>
  nn d_0 fun a28 =>
  stC (a28.add 3) (.bool false) h27 fun h29 =>
  nn d_0 fun a30 =>
  stC (a30.add 2) (.int .i64 (-1)) h29 fun h31 =>
  R () h31)) 0 h
theorem ref5_Dev_Crash_eq (d_0 : Option Addr) (keep_1 : Sl) (R : Unit → Heap → Prop) (h : Heap) : fnX Try.prog Fns.fns Try.f26 (.s (.s .n (.b (.l [(4, .int .i64)] (.s (.s .n (.s .n .n)) (.j [] (.b (.j [(23, .bool)] .n (.s .n .n))) .n))))) (.s .n (.s .n .n))) [] [.pointer d_0, .slice keep_1.a keep_1.len keep_1.cap] h R = ref5_Dev_Crash d_0 keep_1 R h := by kernel_rfl
theorem ref5_Dev_Crash_call (d_0 : Option Addr) (keep_1 : Sl) {R : Unit → Heap → Prop} {h : Heap} (hx : ref5_Dev_Crash d_0 keep_1 R h) : CallT Try.prog 26 [.pointer d_0, .slice keep_1.a keep_1.len keep_1.cap] h [] R :=
  call_of_fnX fnsOk mixed Try.func26 (by kernel_rfl) (by rw [ref5_Dev_Crash_eq]; exact hx)

/-- stowage/stowageref1.Put64 (91) -/
def ref1_Put64 (n_0 : Int) (R : Sl → Heap → Prop) (h : Heap) : Prop :=
  CallT Try.prog ref1_Four_no [.int .u32 (IntKind.u32.wrap ((shrI .u64 n_0 32)))] h [.sc (.sl)] fun (r1 : Sl) h2 =>
  rdCells r1.a (r1.len * 1) h2 fun cs6 =>
  app [.int .u8 0] 5 1 1 none 0 0 cs6 r1.len h2 fun o3 c4 h5 =>
  CallT Try.prog ref1_Four_no [.int .u32 (IntKind.u32.wrap (n_0))] h5 [.sc (.sl)] fun (r7 : Sl) h8 =>
  rdCells r7.a (r7.len * 1) h8 fun cs12 =>
  app [.int .u8 0] 5 1 1 o3 (0 + r1.len) c4 cs12 r7.len h8 fun o9 c10 h11 =>
  R (⟨o9, ((0 + r1.len) + r7.len), c10⟩ : Sl) h11
theorem ref1_Put64_eq (n_0 : Int) (R : Sl → Heap → Prop) (h : Heap) : fnX Try.prog Fns.fns Try.f91 (.s .n (.s .n (.s .n (.s .n .n)))) [.sc (.sl)] [.int .u64 n_0] h R = ref1_Put64 n_0 R h := by kernel_rfl
theorem ref1_Put64_call (n_0 : Int) {R : Sl → Heap → Prop} {h : Heap} (hx : ref1_Put64 n_0 R h) : CallT Try.prog 91 [.int .u64 n_0] h [.sc (.sl)] R :=
  call_of_fnX fnsOk mixed Try.func91 (by kernel_rfl) (by rw [ref1_Put64_eq]; exact hx)

/-- stowage/stowageref1.Four (92) -/
def ref1_Four (n_0 : Int) (R : Sl → Heap → Prop) (h : Heap) : Prop :=
  newB [.int .u8 (IntKind.u8.wrap ((shrI .u32 n_0 24))), .int .u8 (IntKind.u8.wrap ((shrI .u32 n_0 16))), .int .u8 (IntKind.u8.wrap ((shrI .u32 n_0 8))), .int .u8 (IntKind.u8.wrap (n_0))] 5 h fun a1 h2 =>
  R (⟨(some a1), 4, 4⟩ : Sl) h2
theorem ref1_Four_eq (n_0 : Int) (R : Sl → Heap → Prop) (h : Heap) : fnX Try.prog Fns.fns Try.f92 (.s .n (.s .n .n)) [.sc (.sl)] [.int .u32 n_0] h R = ref1_Four n_0 R h := by kernel_rfl
theorem ref1_Four_call (n_0 : Int) {R : Sl → Heap → Prop} {h : Heap} (hx : ref1_Four n_0 R h) : CallT Try.prog 92 [.int .u32 n_0] h [.sc (.sl)] R :=
  call_of_fnX fnsOk mixed Try.func92 (by kernel_rfl) (by rw [ref1_Four_eq]; exact hx)

/-- stowage/stowageref1.Get64 (94) -/
def ref1_Get64 (b_0 : Sl) (R : Int × Bool → Heap → Prop) (h : Heap) : Prop :=
  cnd ((b_0.len : Int) != 8) (
  R (0, false) h) (
  LoopT (σ := Int × Int) (fun X2 s1 h3 => -- s1: n, i
  cnd (decide (s1.2 < 8)) (
  idx b_0.a b_0.len s1.2 fun a4 =>
  ldI .u8 (a4.add (s1.2.toNat * 1)) h3 fun n5 =>
  X2 ((IntKind.u64.wrap ((IntKind.u64.wrap (256 * s1.1)) + (IntKind.u64.wrap (n5)))), (w64 (s1.2 + 1))) h3) (
  R (s1.1, true) h3)) (0, 0) h)
theorem ref1_Get64_eq (b_0 : Sl) (R : Int × Bool → Heap → Prop) (h : Heap) : fnX Try.prog Fns.fns Try.f94 (.s .n (.s (.s .n (.s (.s .n .n) .n)) (.s .n (.s (.s .n (.b (.l [(4, .int .u64), (5, .int .i64)] (.s (.s .n (.s .n .n)) (.s (.b .n) .n))))) (.s .n .n))))) [.sc (.int .u64), .sc (.bool)] [.slice b_0.a b_0.len b_0.cap] h R = ref1_Get64 b_0 R h := by kernel_rfl
theorem ref1_Get64_call (b_0 : Sl) {R : Int × Bool → Heap → Prop} {h : Heap} (hx : ref1_Get64 b_0 R h) : CallT Try.prog 94 [.slice b_0.a b_0.len b_0.cap] h [.sc (.int .u64), .sc (.bool)] R :=
  call_of_fnX fnsOk mixed Try.func94 (by kernel_rfl) (by rw [ref1_Get64_eq]; exact hx)

/-- stowage/stowageref6.Part (58) -/
def ref6_Part (b_0 : Sl) (i_1 : Int) (R : ByteArray → Heap → Prop) (h : Heap) : Prop :=
  LoopT (σ := Sl × Int) (fun X2 s1 h3 => -- s1: out, k
  cnd (decide (s1.2 < (w64 ((w64 (256 * i_1)) + 256)))) (
  withJ (σ := Sl) (fun s4 h6 => -- s4: out
  X2 (s4, (w64 (s1.2 + 1))) h6) (fun J5 =>
  cnd (decide (s1.2 < (b_0.len : Int))) (
  idx b_0.a b_0.len s1.2 fun a7 =>
  ldI .u8 (a7.add (s1.2.toNat * 1)) h3 fun n8 =>
  newB [.int .u8 n8] 5 h3 fun a9 h10 =>
  ldRow (1 * 1) a9 h10 fun cs14 =>
  app [.int .u8 0] 5 1 1 s1.1.a s1.1.len s1.1.cap cs14 1 h10 fun o11 c12 h13 =>
  J5 (⟨o11, (s1.1.len + 1), c12⟩ : Sl) h13) (
  newB [.int .u8 0] 5 h3 fun a15 h16 =>
  ldRow (1 * 1) a15 h16 fun cs20 =>
  app [.int .u8 0] 5 1 1 s1.1.a s1.1.len s1.1.cap cs20 1 h16 fun o17 c18 h19 =>
  J5 (⟨o17, (s1.1.len + 1), c18⟩ : Sl) h19))) (
  b2s s1.1.a s1.1.len h3 fun s21 =>
  R s21 h3)) ((⟨none, 0, 0⟩ : Sl), (w64 (256 * i_1))) h
theorem ref6_Part_eq (b_0 : Sl) (i_1 : Int) (R : ByteArray → Heap → Prop) (h : Heap) : fnX Try.prog Fns.fns Try.f58 (.s .n (.s .n (.s (.s .n (.b (.l [(5, .sl), (6, .int .i64)] (.s (.s .n (.s .n .n)) (.j [(5, .sl)] (.b (.s .n (.s .n .n))) .n))))) (.s .n .n)))) [.sc (.str)] [.slice b_0.a b_0.len b_0.cap, .int .i64 i_1] h R = ref6_Part b_0 i_1 R h := by kernel_rfl
theorem ref6_Part_call (b_0 : Sl) (i_1 : Int) {R : ByteArray → Heap → Prop} {h : Heap} (hx : ref6_Part b_0 i_1 R h) : CallT Try.prog 58 [.slice b_0.a b_0.len b_0.cap, .int .i64 i_1] h [.sc (.str)] R :=
  call_of_fnX fnsOk mixed Try.func58 (by kernel_rfl) (by rw [ref6_Part_eq]; exact hx)

/-- stowage/stowageref7.Fits (16) -/
def ref7_Fits (n_0 : Int) (size_1 : Int) (R : Bool → Heap → Prop) (h : Heap) : Prop :=
  withJ (σ := Bool) (fun s1 h3 => -- s1: t4
  R s1 h3) (fun J2 =>
  cnd (decide (n_0 ≥ 1)) (
  cnd (decide (size_1 ≥ 0)) (
  cnd (size_1 == 0) (
  J2 true h) (
  J2 (decide ((w64 ((w64 ((w64 (size_1 - 1)).tdiv 256)) + 1)) ≤ (w64 (n_0 - 1)))) h)) (
  J2 false h)) (
  J2 false h))
theorem ref7_Fits_eq (n_0 : Int) (size_1 : Int) (R : Bool → Heap → Prop) (h : Heap) : fnX Try.prog Fns.fns Try.f16 (.s .n (.j [(4, .bool)] .n .n)) [.sc (.bool)] [.int .i64 n_0, .int .i64 size_1] h R = ref7_Fits n_0 size_1 R h := by kernel_rfl
theorem ref7_Fits_call (n_0 : Int) (size_1 : Int) {R : Bool → Heap → Prop} {h : Heap} (hx : ref7_Fits n_0 size_1 R h) : CallT Try.prog 16 [.int .i64 n_0, .int .i64 size_1] h [.sc (.bool)] R :=
  call_of_fnX fnsOk mixed Try.func16 (by kernel_rfl) (by rw [ref7_Fits_eq]; exact hx)

/-- stowage/stowageref7.region (57) -/
def ref7_region (d_0 : Option Addr) (from_1 : Int) (n_2 : Int) (R : Bool → Heap → Prop) (h : Heap) : Prop :=
  withJ (σ := Bool) (fun s1 h3 => -- s1: t6
  R s1 h3) (fun J2 =>
  cnd (decide (n_2 ≥ 1)) (
  nn d_0 fun a4 =>
  ldL a4 h fun o5 l5 c5 =>
  cnd (decide (n_2 ≤ (w64 ((l5 : Int).tdiv 2)))) (
  cnd (decide (from_1 ≥ 0)) (
  nn d_0 fun a6 =>
  ldL a6 h fun o7 l7 c7 =>
  J2 (decide (from_1 ≤ (w64 ((l7 : Int) - (w64 (2 * n_2)))))) h) (
  J2 false h)) (
  J2 false h)) (
  J2 false h))
theorem ref7_region_eq (d_0 : Option Addr) (from_1 : Int) (n_2 : Int) (R : Bool → Heap → Prop) (h : Heap) : fnX Try.prog Fns.fns Try.f57 (.s .n (.j [(6, .bool)] .n .n)) [.sc (.bool)] [.pointer d_0, .int .i64 from_1, .int .i64 n_2] h R = ref7_region d_0 from_1 n_2 R h := by kernel_rfl
theorem ref7_region_call (d_0 : Option Addr) (from_1 : Int) (n_2 : Int) {R : Bool → Heap → Prop} {h : Heap} (hx : ref7_region d_0 from_1 n_2 R h) : CallT Try.prog 57 [.pointer d_0, .int .i64 from_1, .int .i64 n_2] h [.sc (.bool)] R :=
  call_of_fnX fnsOk mixed Try.func57 (by kernel_rfl) (by rw [ref7_region_eq]; exact hx)

/-- stowage/stowageref7.head (60) -/
def ref7_head (epoch_0 : Int) (state_1 : Sl) (R : Sl → Heap → Prop) (h : Heap) : Prop :=
  CallT Try.prog ref1_Put64_no [.int .u64 epoch_0] h [.sc (.sl)] fun (r1 : Sl) h2 =>
  rdCells r1.a (r1.len * 1) h2 fun cs6 =>
  app [.int .u8 0] 5 1 1 none 0 0 cs6 r1.len h2 fun o3 c4 h5 =>
  CallT Try.prog ref1_Put64_no [.int .u64 (IntKind.u64.wrap ((state_1.len : Int)))] h5 [.sc (.sl)] fun (r7 : Sl) h8 =>
  rdCells r7.a (r7.len * 1) h8 fun cs12 =>
  app [.int .u8 0] 5 1 1 o3 (0 + r1.len) c4 cs12 r7.len h8 fun o9 c10 h11 =>
  rdCells o9 (((0 + r1.len) + r7.len) * 1) h11 fun cs16 =>
  app [.int .u8 0] 5 1 1 none 0 0 cs16 ((0 + r1.len) + r7.len) h11 fun o13 c14 h15 =>
  rdCells state_1.a (state_1.len * 1) h15 fun cs20 =>
  app [.int .u8 0] 5 1 1 o13 (0 + ((0 + r1.len) + r7.len)) c14 cs20 state_1.len h15 fun o17 c18 h19 =>
  newB [.int .u8 83, .int .u8 78, .int .u8 65, .int .u8 80] 5 h19 fun a21 h22 =>
  markS a21 h22 fun h23 =>
  CallT Try.prog ref2_CRC_no [.slice o17 ((0 + ((0 + r1.len) + r7.len)) + state_1.len) c18] h23 [.sc (.int .u32)] fun (r24 : Int) h25 =>
  CallT Try.prog ref1_Four_no [.int .u32 r24] h25 [.sc (.sl)] fun (r26 : Sl) h27 =>
  rdCells r26.a (r26.len * 1) h27 fun cs31 =>
  app [.int .u8 0] 5 1 1 (some a21) 4 4 cs31 r26.len h27 fun o28 c29 h30 =>
  rdCells o9 (((0 + r1.len) + r7.len) * 1) h30 fun cs35 =>
  app [.int .u8 0] 5 1 1 o28 (4 + r26.len) c29 cs35 ((0 + r1.len) + r7.len) h30 fun o32 c33 h34 =>
  R (⟨o32, ((4 + r26.len) + ((0 + r1.len) + r7.len)), c33⟩ : Sl) h34
theorem ref7_head_eq (epoch_0 : Int) (state_1 : Sl) (R : Sl → Heap → Prop) (h : Heap) : fnX Try.prog Fns.fns Try.f60 (.s .n (.s .n (.s .n (.s .n (.s .n (.s .n (.s .n (.s .n (.s .n (.s .n .n)))))))))) [.sc (.sl)] [.int .u64 epoch_0, .slice state_1.a state_1.len state_1.cap] h R = ref7_head epoch_0 state_1 R h := by kernel_rfl
theorem ref7_head_call (epoch_0 : Int) (state_1 : Sl) {R : Sl → Heap → Prop} {h : Heap} (hx : ref7_head epoch_0 state_1 R h) : CallT Try.prog 60 [.int .u64 epoch_0, .slice state_1.a state_1.len state_1.cap] h [.sc (.sl)] R :=
  call_of_fnX fnsOk mixed Try.func60 (by kernel_rfl) (by rw [ref7_head_eq]; exact hx)

/-- stowage/stowageref7.Save (24) -/
def ref7_Save (x_0 : Option Addr) (x_1 : Int) (x_2 : Int) (x_3 : Int) (x_4 : Sl) (R : Int → Heap → Prop) (h : Heap) : Prop :=
  CallT Try.prog ref7_region_no [.pointer x_0, .int .i64 x_1, .int .i64 x_2] h [.sc (.bool)] fun (r1 : Bool) h2 =>
  cnd (!r1) (
  R 1 h2) (
  CallT Try.prog ref7_Fits_no [.int .i64 x_2, .int .i64 (x_4.len : Int)] h2 [.sc (.bool)] fun (r3 : Bool) h4 =>
  cnd (!r3) (
  R 60 h4) (
  LoopT (σ := Int) (fun X6 s5 h7 => -- s5: t12
  cnd (decide ((w64 (256 * s5)) < (x_4.len : Int))) (
  CallT Try.prog ref6_Part_no [.slice x_4.a x_4.len x_4.cap, .int .i64 s5] h7 [.sc (.str)] fun (r8 : ByteArray) h9 =>
  CallT Try.prog ref5_Dev_Write_no [.pointer x_0, .int .i64 (w64 ((w64 ((w64 (x_1 + (w64 ((w64 ((x_3.tmod 2))) * x_2)))) + 1)) + s5)), .string r8] h9 [.sc (.int .i64)] fun (r10 : Int) h11 =>
  cnd (r10 != 0) (
  R r10 h11) (
  X6 (w64 (s5 + 1)) h11)) (
  CallT Try.prog ref5_Dev_Flush_no [.pointer x_0] h7 [.sc (.int .i64)] fun (r12 : Int) h13 =>
  cnd (r12 != 0) (
  R r12 h13) (
  CallT Try.prog ref7_head_no [.int .u64 x_3, .slice x_4.a x_4.len x_4.cap] h13 [.sc (.sl)] fun (r14 : Sl) h15 =>
  CallT Try.prog ref6_Part_no [.slice r14.a r14.len r14.cap, .int .i64 0] h15 [.sc (.str)] fun (r16 : ByteArray) h17 =>
  CallT Try.prog ref5_Dev_Write_no [.pointer x_0, .int .i64 (w64 (x_1 + (w64 ((w64 ((x_3.tmod 2))) * x_2)))), .string r16] h17 [.sc (.int .i64)] fun (r18 : Int) h19 =>
  cnd (r18 != 0) (
  R r18 h19) (
  CallT Try.prog ref5_Dev_Flush_no [.pointer x_0] h19 [.sc (.int .i64)] fun (r20 : Int) h21 =>
  R r20 h21)))) 0 h4))
theorem ref7_Save_eq (x_0 : Option Addr) (x_1 : Int) (x_2 : Int) (x_3 : Int) (x_4 : Sl) (R : Int → Heap → Prop) (h : Heap) : fnX Try.prog Fns.fns Try.f24 (.s .n (.s (.s .n (.s (.s .n .n) .n)) (.s (.s .n (.s (.s .n .n) .n)) (.s .n (.s (.s .n (.b (.l [(12, .int .i64)] (.s (.s .n (.s .n .n)) (.s (.b (.s .n (.s .n (.s (.s .n .n) .n)))) .n))))) (.s (.s .n (.s .n (.s (.s .n .n) .n))) (.s (.s .n (.s .n (.s (.s .n .n) .n))) (.s .n .n)))))))) [.sc (.int .i64)] [.pointer x_0, .int .i64 x_1, .int .i64 x_2, .int .u64 x_3, .slice x_4.a x_4.len x_4.cap] h R = ref7_Save x_0 x_1 x_2 x_3 x_4 R h := by kernel_rfl
theorem ref7_Save_call (x_0 : Option Addr) (x_1 : Int) (x_2 : Int) (x_3 : Int) (x_4 : Sl) {R : Int → Heap → Prop} {h : Heap} (hx : ref7_Save x_0 x_1 x_2 x_3 x_4 R h) : CallT Try.prog 24 [.pointer x_0, .int .i64 x_1, .int .i64 x_2, .int .u64 x_3, .slice x_4.a x_4.len x_4.cap] h [.sc (.int .i64)] R :=
  call_of_fnX fnsOk mixed Try.func24 (by kernel_rfl) (by rw [ref7_Save_eq]; exact hx)

/-- stowage/stowageref7.read (61) -/
def ref7_read (x_0 : Option Addr) (x_1 : Int) (x_2 : Int) (x_3 : Int) (R : (Bool × Int × Sl) × Int → Heap → Prop) (h : Heap) : Prop :=
  newB [.bool false, .int .u64 0, .slice none 0 0] 47 h fun a1 h2 =>
  CallT Try.prog ref5_Dev_Read_no [.pointer x_0, .int .i64 x_1] h2 [.sc (.str), .sc (.int .i64)] fun (r3 : ByteArray × Int) h4 =>
  cnd (r3.2 != 0) (
  stC a1 (.bool false) h4 fun h5 =>
  stC (a1.add 1) (.int .u64 0) h5 fun h6 =>
  stC (a1.add 2) (.slice none 0 0) h6 fun h7 =>
  ldB a1 h7 fun b8 =>
  ldI .u64 (a1.add 1) h7 fun n9 =>
  ldL (a1.add 2) h7 fun o10 l10 c10 =>
  R ((b8, n9, (⟨o10, l10, c10⟩ : Sl)), r3.2) h7) (
  ssl r3.1 8 16 fun s11 =>
  s2b s11 5 h4 fun a12 c13 h14 =>
  CallT Try.prog ref1_Get64_no [.slice (some a12) s11.size c13] h14 [.sc (.int .u64), .sc (.bool)] fun (r15 : Int × Bool) h16 =>
  ssl r3.1 16 24 fun s17 =>
  s2b s17 5 h16 fun a18 c19 h20 =>
  CallT Try.prog ref1_Get64_no [.slice (some a18) s17.size c19] h20 [.sc (.int .u64), .sc (.bool)] fun (r21 : Int × Bool) h22 =>
  withJ (σ := Unit) (fun s23 h25 => -- s23: 
  LoopT (σ := Sl × Int) (fun X27 s26 h28 => -- s26: t16, t17
  cnd (decide ((w64 (256 * s26.2)) < (w64 (r21.1)))) (
  CallT Try.prog ref5_Dev_Read_no [.pointer x_0, .int .i64 (w64 ((w64 (x_1 + 1)) + s26.2))] h28 [.sc (.str), .sc (.int .i64)] fun (r29 : ByteArray × Int) h30 =>
  cnd (r29.2 != 0) (
  stC a1 (.bool false) h30 fun h31 =>
  stC (a1.add 1) (.int .u64 0) h31 fun h32 =>
  stC (a1.add 2) (.slice none 0 0) h32 fun h33 =>
  ldB a1 h33 fun b34 =>
  ldI .u64 (a1.add 1) h33 fun n35 =>
  ldL (a1.add 2) h33 fun o36 l36 c36 =>
  R ((b34, n35, (⟨o36, l36, c36⟩ : Sl)), r29.2) h33) (
  app [.int .u8 0] 5 1 1 s26.1.a s26.1.len s26.1.cap (bytesV r29.1) r29.1.size h30 fun o37 c38 h39 =>
  X27 ((⟨o37, (s26.1.len + r29.1.size), c38⟩ : Sl), (w64 (s26.2 + 1))) h39)) (
  lsl 1 s26.1.a s26.1.cap 0 (w64 (r21.1)) (s26.1.cap : Int) fun o40 l40 c40 =>
  ssl r3.1 0 24 fun s41 =>
  CallT Try.prog ref7_head_no [.int .u64 r15.1, .slice o40 l40 c40] h28 [.sc (.sl)] fun (r42 : Sl) h43 =>
  b2s r42.a r42.len h43 fun s44 =>
  cnd (!seq s44 s41) (
  stC a1 (.bool false) h43 fun h45 =>
  stC (a1.add 1) (.int .u64 0) h45 fun h46 =>
  stC (a1.add 2) (.slice none 0 0) h46 fun h47 =>
  ldB a1 h47 fun b48 =>
  ldI .u64 (a1.add 1) h47 fun n49 =>
  ldL (a1.add 2) h47 fun o50 l50 c50 =>
  R ((b48, n49, (⟨o50, l50, c50⟩ : Sl)), 0) h47) (
  stC a1 (.bool true) h43 fun h51 =>
  stC (a1.add 1) (.int .u64 r15.1) h51 fun h52 =>
  stC (a1.add 2) (.slice o40 l40 c40) h52 fun h53 =>
  ldB a1 h53 fun b54 =>
  ldI .u64 (a1.add 1) h53 fun n55 =>
  ldL (a1.add 2) h53 fun o56 l56 c56 =>
  R ((b54, n55, (⟨o56, l56, c56⟩ : Sl)), 0) h53))) ((⟨none, 0, 0⟩ : Sl), 0) h25) (fun J24 =>
  withJ (σ := Bool) (fun s57 h59 => -- s57: t63
  cnd s57 (
  stC a1 (.bool false) h59 fun h60 =>
  stC (a1.add 1) (.int .u64 0) h60 fun h61 =>
  stC (a1.add 2) (.slice none 0 0) h61 fun h62 =>
  ldB a1 h62 fun b63 =>
  ldI .u64 (a1.add 1) h62 fun n64 =>
  ldL (a1.add 2) h62 fun o65 l65 c65 =>
  R ((b63, n64, (⟨o65, l65, c65⟩ : Sl)), 0) h62) (
  J24 () h59)) (fun J58 =>
  ssl r3.1 0 4 fun s66 =>
  cnd (!seq s66 (⟨#[83, 78, 65, 80]⟩ : ByteArray)) (
  J58 true h22) (
  cnd ((r15.1.tmod 2) != x_3) (
  J58 true h22) (
  cnd (decide (r21.1 > 1099511627776)) (
  J58 true h22) (
  CallT Try.prog ref7_Fits_no [.int .i64 x_2, .int .i64 (w64 (r21.1))] h22 [.sc (.bool)] fun (r67 : Bool) h68 =>
  J58 (!r67) h68))))))
theorem ref7_read_eq (x_0 : Option Addr) (x_1 : Int) (x_2 : Int) (x_3 : Int) (R : (Bool × Int × Sl) × Int → Heap → Prop) (h : Heap) : fnX Try.prog Fns.fns Try.f61 (.s .n (.s .n (.s (.s .n (.s (.s .n .n) .n)) (.s .n (.s .n (.j [] (.j [(63, .bool)] .n (.s (.s .n .n) .n)) (.s .n (.s (.s .n (.b (.l [(16, .sl), (17, .int .i64)] (.s (.s .n (.s .n .n)) (.s (.b (.s .n (.s (.s .n (.s (.s .n .n) .n)) .n))) .n))))) (.s .n (.s (.s .n (.s (.s .n .n) .n)) (.s .n .n))))))))))) [.agg [.bool, .int .u64, .sl], .sc (.int .i64)] [.pointer x_0, .int .i64 x_1, .int .i64 x_2, .int .u64 x_3] h R = ref7_read x_0 x_1 x_2 x_3 R h := by kernel_rfl
theorem ref7_read_call (x_0 : Option Addr) (x_1 : Int) (x_2 : Int) (x_3 : Int) {R : (Bool × Int × Sl) × Int → Heap → Prop} {h : Heap} (hx : ref7_read x_0 x_1 x_2 x_3 R h) : CallT Try.prog 61 [.pointer x_0, .int .i64 x_1, .int .i64 x_2, .int .u64 x_3] h [.agg [.bool, .int .u64, .sl], .sc (.int .i64)] R :=
  call_of_fnX fnsOk mixed Try.func61 (by kernel_rfl) (by rw [ref7_read_eq]; exact hx)

/-- stowage/stowageref7.Load (25) -/
def ref7_Load (x_0 : Option Addr) (x_1 : Int) (x_2 : Int) (R : (Bool × Int × Sl) × Int → Heap → Prop) (h : Heap) : Prop :=
  newB [.bool false, .int .u64 0, .slice none 0 0] 47 h fun a1 h2 =>
  CallT Try.prog ref7_region_no [.pointer x_0, .int .i64 x_1, .int .i64 x_2] h2 [.sc (.bool)] fun (r3 : Bool) h4 =>
  cnd (!r3) (
  stC a1 (.bool false) h4 fun h5 =>
  stC (a1.add 1) (.int .u64 0) h5 fun h6 =>
  stC (a1.add 2) (.slice none 0 0) h6 fun h7 =>
  ldB a1 h7 fun b8 =>
  ldI .u64 (a1.add 1) h7 fun n9 =>
  ldL (a1.add 2) h7 fun o10 l10 c10 =>
  R ((b8, n9, (⟨o10, l10, c10⟩ : Sl)), 1) h7) (
  CallT Try.prog ref7_read_no [.pointer x_0, .int .i64 x_1, .int .i64 x_2, .int .u64 0] h4 [.agg [.bool, .int .u64, .sl], .sc (.int .i64)] fun (r11 : (Bool × Int × Sl) × Int) h12 =>
  newB [.bool false, .int .u64 0, .slice none 0 0] 47 h12 fun a13 h14 =>
  stC a13 (.bool r11.1.1) h14 fun h15 =>
  stC (a13.add 1) (.int .u64 r11.1.2.1) h15 fun h16 =>
  stC (a13.add 2) (.slice r11.1.2.2.a r11.1.2.2.len r11.1.2.2.cap) h16 fun h17 =>
  cnd (r11.2 != 0) (
  stC a1 (.bool false) h17 fun h18 =>
  stC (a1.add 1) (.int .u64 0) h18 fun h19 =>
  stC (a1.add 2) (.slice none 0 0) h19 fun h20 =>
  ldB a1 h20 fun b21 =>
  ldI .u64 (a1.add 1) h20 fun n22 =>
  ldL (a1.add 2) h20 fun o23 l23 c23 =>
  R ((b21, n22, (⟨o23, l23, c23⟩ : Sl)), r11.2) h20) (
  CallT Try.prog ref7_read_no [.pointer x_0, .int .i64 (w64 (x_1 + x_2)), .int .i64 x_2, .int .u64 1] h17 [.agg [.bool, .int .u64, .sl], .sc (.int .i64)] fun (r24 : (Bool × Int × Sl) × Int) h25 =>
  newB [.bool false, .int .u64 0, .slice none 0 0] 47 h25 fun a26 h27 =>
  stC a26 (.bool r24.1.1) h27 fun h28 =>
  stC (a26.add 1) (.int .u64 r24.1.2.1) h28 fun h29 =>
  stC (a26.add 2) (.slice r24.1.2.2.a r24.1.2.2.len r24.1.2.2.cap) h29 fun h30 =>
  cnd (r24.2 != 0) (
  stC a1 (.bool false) h30 fun h31 =>
  stC (a1.add 1) (.int .u64 0) h31 fun h32 =>
  stC (a1.add 2) (.slice none 0 0) h32 fun h33 =>
  ldB a1 h33 fun b34 =>
  ldI .u64 (a1.add 1) h33 fun n35 =>
  ldL (a1.add 2) h33 fun o36 l36 c36 =>
  R ((b34, n35, (⟨o36, l36, c36⟩ : Sl)), r24.2) h33) (
  withJ (σ := Unit) (fun s37 h39 => -- s37: 
  withJ (σ := Unit) (fun s40 h42 => -- s40: 
  ldB a13 h42 fun b43 =>
  ldI .u64 (a13.add 1) h42 fun n44 =>
  ldL (a13.add 2) h42 fun o45 l45 c45 =>
  stC a1 (.bool b43) h42 fun h46 =>
  stC (a1.add 1) (.int .u64 n44) h46 fun h47 =>
  stC (a1.add 2) (.slice o45 l45 c45) h47 fun h48 =>
  ldB a1 h48 fun b49 =>
  ldI .u64 (a1.add 1) h48 fun n50 =>
  ldL (a1.add 2) h48 fun o51 l51 c51 =>
  R ((b49, n50, (⟨o51, l51, c51⟩ : Sl)), 0) h48) (fun J41 =>
  withJ (σ := Bool) (fun s52 h54 => -- s52: t63
  cnd s52 (
  ldB a26 h54 fun b55 =>
  ldI .u64 (a26.add 1) h54 fun n56 =>
  ldL (a26.add 2) h54 fun o57 l57 c57 =>
  stC a1 (.bool b55) h54 fun h58 =>
  stC (a1.add 1) (.int .u64 n56) h58 fun h59 =>
  stC (a1.add 2) (.slice o57 l57 c57) h59 fun h60 =>
  ldB a1 h60 fun b61 =>
  ldI .u64 (a1.add 1) h60 fun n62 =>
  ldL (a1.add 2) h60 fun o63 l63 c63 =>
  R ((b61, n62, (⟨o63, l63, c63⟩ : Sl)), 0) h60) (
  J41 () h54)) (fun J53 =>
  ldB a13 h39 fun b64 =>
  cnd (!b64) (
  J53 true h39) (
  ldB a26 h39 fun b65 =>
  cnd b65 (
  ldI .u64 (a26.add 1) h39 fun n66 =>
  ldI .u64 (a13.add 1) h39 fun n67 =>
  J53 (decide (n66 > n67)) h39) (
  J53 false h39))))) (fun J38 =>
  withJ (σ := Bool) (fun s68 h70 => -- s68: t48
  cnd s68 (
  stC a1 (.bool false) h70 fun h71 =>
  stC (a1.add 1) (.int .u64 0) h71 fun h72 =>
  stC (a1.add 2) (.slice none 0 0) h72 fun h73 =>
  ldB a1 h73 fun b74 =>
  ldI .u64 (a1.add 1) h73 fun n75 =>
  ldL (a1.add 2) h73 fun o76 l76 c76 =>
  R ((b74, n75, (⟨o76, l76, c76⟩ : Sl)), 61) h73) (
  J38 () h70)) (fun J69 =>
  ldB a13 h30 fun b77 =>
  cnd (!b77) (
  ldB a26 h30 fun b78 =>
  J69 (!b78) h30) (
  J69 false h30))))))
theorem ref7_Load_eq (x_0 : Option Addr) (x_1 : Int) (x_2 : Int) (R : (Bool × Int × Sl) × Int → Heap → Prop) (h : Heap) : fnX Try.prog Fns.fns Try.f25 (.s .n (.s (.s .n (.s (.s .n .n) .n)) (.s .n (.s (.s .n (.s (.s .n .n) .n)) (.s .n (.s (.s .n (.s (.s .n .n) .n)) (.j [] (.j [(48, .bool)] .n (.s (.s .n .n) .n)) (.j [] (.j [(63, .bool)] .n (.s (.s .n .n) .n)) (.s .n .n))))))))) [.agg [.bool, .int .u64, .sl], .sc (.int .i64)] [.pointer x_0, .int .i64 x_1, .int .i64 x_2] h R = ref7_Load x_0 x_1 x_2 R h := by kernel_rfl
theorem ref7_Load_call (x_0 : Option Addr) (x_1 : Int) (x_2 : Int) {R : (Bool × Int × Sl) × Int → Heap → Prop} {h : Heap} (hx : ref7_Load x_0 x_1 x_2 R h) : CallT Try.prog 25 [.pointer x_0, .int .i64 x_1, .int .i64 x_2] h [.agg [.bool, .int .u64, .sl], .sc (.int .i64)] R :=
  call_of_fnX fnsOk mixed Try.func25 (by kernel_rfl) (by rw [ref7_Load_eq]; exact hx)

end Go.Proofs.Ytmkobpkdodgboaa
