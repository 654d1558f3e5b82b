/- Go functions as short texts over the heap, and that each is what the loaded function comes to (the kernel compares them); written by a program. -/
import Derived.Test.YtecfcodildjnnaaGBase
set_option linter.unusedVariables false
set_option maxRecDepth 100000
namespace Go.Proofs.Ytecfcodildjnnaa
open Go D
/-- stowage/hash.MD5 (9) -/
def hash_MD5 (x_0 : Sl) (R : Sl → Heap → Prop) (h : Heap) : Prop :=
  newB [.int .u32 0, .int .u32 0, .int .u32 0, .int .u32 0] 41 h fun a1 h2 =>
  stC a1 (.int .u32 1732584193) h2 fun h3 =>
  stC (a1.add 1) (.int .u32 4023233417) h3 fun h4 =>
  stC (a1.add 2) (.int .u32 2562383102) h4 fun h5 =>
  stC (a1.add 3) (.int .u32 271733878) h5 fun h6 =>
  mkSl [.int .u32 0] 25 4 64 64 h6 fun a7 h8 =>
  LoopT (σ := Int) (fun X10 s9 h11 => -- s9: t14
  cnd (decide (s9 < ((64 : Int).toNat : Int))) (
  CallT Try.prog hash_mdSine_no [.int .i64 s9] h11 [.sc (.int .u32)] fun (r12 : Int) h13 =>
  idx (some a7) ((64 : Int).toNat) s9 fun a14 =>
  stC (a14.add (s9.toNat * 1)) (.int .u32 r12) h13 fun h15 =>
  X10 (w64 (s9 + 1)) h15) (
  CallT Try.prog hash_filled_no [.slice x_0.a x_0.len x_0.cap, .bool false] h11 [.sc (.sl)] fun (r16 : Sl) h17 =>
  LoopT (σ := Sl) (fun X19 s18 h20 => -- s18: t0
  cnd (decide ((s18.len : Int) ≥ 64)) (
  ldI .u32 a1 h20 fun n21 =>
  ldI .u32 (a1.add 1) h20 fun n22 =>
  ldI .u32 (a1.add 2) h20 fun n23 =>
  ldI .u32 (a1.add 3) h20 fun n24 =>
  lsl 1 s18.a s18.cap 0 64 (s18.cap : Int) fun o25 l25 c25 =>
  CallT Try.prog hash_mdBlock_no [.agg #[.int .u32 n21, .int .u32 n22, .int .u32 n23, .int .u32 n24], .slice o25 l25 c25, .slice (some a7) ((64 : Int).toNat) ((64 : Int).toNat)] h20 [.agg [.int .u32, .int .u32, .int .u32, .int .u32]] fun (r26 : (Int × Int × Int × Int)) h27 =>
  stC a1 (.int .u32 r26.1) h27 fun h28 =>
  stC (a1.add 1) (.int .u32 r26.2.1) h28 fun h29 =>
  stC (a1.add 2) (.int .u32 r26.2.2.1) h29 fun h30 =>
  stC (a1.add 3) (.int .u32 r26.2.2.2) h30 fun h31 =>
  lsl 1 s18.a s18.cap 64 (s18.len : Int) (s18.cap : Int) fun o32 l32 c32 =>
  X19 (⟨o32, l32, c32⟩ : Sl) h31) (
  LoopT (σ := Sl) (fun X34 s33 h35 => -- s33: t6
  cnd (decide ((s33.len : Int) > 0)) (
  ldI .u32 a1 h35 fun n36 =>
  ldI .u32 (a1.add 1) h35 fun n37 =>
  ldI .u32 (a1.add 2) h35 fun n38 =>
  ldI .u32 (a1.add 3) h35 fun n39 =>
  lsl 1 s33.a s33.cap 0 64 (s33.cap : Int) fun o40 l40 c40 =>
  CallT Try.prog hash_mdBlock_no [.agg #[.int .u32 n36, .int .u32 n37, .int .u32 n38, .int .u32 n39], .slice o40 l40 c40, .slice (some a7) ((64 : Int).toNat) ((64 : Int).toNat)] h35 [.agg [.int .u32, .int .u32, .int .u32, .int .u32]] fun (r41 : (Int × Int × Int × Int)) h42 =>
  stC a1 (.int .u32 r41.1) h42 fun h43 =>
  stC (a1.add 1) (.int .u32 r41.2.1) h43 fun h44 =>
  stC (a1.add 2) (.int .u32 r41.2.2.1) h44 fun h45 =>
  stC (a1.add 3) (.int .u32 r41.2.2.2) h45 fun h46 =>
  lsl 1 s33.a s33.cap 64 (s33.len : Int) (s33.cap : Int) fun o47 l47 c47 =>
  X34 (⟨o47, l47, c47⟩ : Sl) h46) (
  mkSl [.int .u8 0] 5 1 0 16 h35 fun a48 h49 =>
  ldI .u32 a1 h49 fun n50 =>
  ldI .u32 (a1.add 1) h49 fun n51 =>
  ldI .u32 (a1.add 2) h49 fun n52 =>
  ldI .u32 (a1.add 3) h49 fun n53 =>
  LoopT (σ := Sl × Int) (fun X55 s54 h56 => -- s54: t7, t47
  cnd (decide (s54.2 < 4)) (
  inB 4 s54.2 (aidxI .u32 [.int .u32 n50, .int .u32 n51, .int .u32 n52, .int .u32 n53] s54.2 fun v57 =>
  newB [.int .u8 (IntKind.u8.wrap (v57)), .int .u8 (IntKind.u8.wrap ((shrI .u32 v57 8))), .int .u8 (IntKind.u8.wrap ((shrI .u32 v57 16))), .int .u8 (IntKind.u8.wrap ((shrI .u32 v57 24)))] 5 h56 fun a58 h59 =>
  ldRow (4 * 1) a58 h59 fun cs63 =>
  app [.int .u8 0] 5 1 1 s54.1.a s54.1.len s54.1.cap cs63 4 h59 fun o60 c61 h62 =>
  X55 ((⟨o60, (s54.1.len + 4), c61⟩ : Sl), (w64 (s54.2 + 1))) h62)) (
  R s54.1 h56)) ((⟨(some a48), (0 : Int).toNat, (16 : Int).toNat⟩ : Sl), 0) h49)) r16 h20)) x_0 h17)) 0 h8
theorem hash_MD5_eq (x_0 : Sl) (R : Sl → Heap → Prop) (h : Heap) : fnX Try.prog Fns.fns Try.f9 (.s .n (.s .n (.s .n (.s (.s .n (.b (.l [(14, .int .i64)] (.s .n (.s (.s .n .n) (.s (.b (.s .n .n)) .n)))))) (.s .n (.s (.b (.l [(0, .sl)] (.s (.s .n (.s .n .n)) (.s (.b .n) .n)))) (.s (.b (.l [(6, .sl)] (.s (.s .n (.s .n .n)) (.s (.b .n) .n)))) (.s .n (.s (.s .n (.b (.l [(7, .sl), (47, .int .i64)] (.s .n (.s (.s .n .n) (.s (.b (.s .n .n)) .n)))))) (.s .n .n)))))))))) [.sc (.sl)] [.slice x_0.a x_0.len x_0.cap] h R = hash_MD5 x_0 R h := by kernel_rfl
theorem hash_MD5_call (x_0 : Sl) {R : Sl → Heap → Prop} {h : Heap} (hx : hash_MD5 x_0 R h) : CallT Try.prog 9 [.slice x_0.a x_0.len x_0.cap] h [.sc (.sl)] R :=
  call_of_fnX fnsOk mixed Try.func9 (by kernel_rfl) (by rw [hash_MD5_eq]; exact hx)

/-- stowage/hash.SHA256 (11) -/
def hash_SHA256 (b_0 : Sl) (R : Sl → Heap → Prop) (h : Heap) : Prop :=
  newB [.int .u32 0, .int .u32 0, .int .u32 0, .int .u32 0, .int .u32 0, .int .u32 0, .int .u32 0, .int .u32 0] 50 h fun a1 h2 =>
  stC a1 (.int .u32 1779033703) h2 fun h3 =>
  stC (a1.add 1) (.int .u32 3144134277) h3 fun h4 =>
  stC (a1.add 2) (.int .u32 1013904242) h4 fun h5 =>
  stC (a1.add 3) (.int .u32 2773480762) h5 fun h6 =>
  stC (a1.add 4) (.int .u32 1359893119) h6 fun h7 =>
  stC (a1.add 5) (.int .u32 2600822924) h7 fun h8 =>
  stC (a1.add 6) (.int .u32 528734635) h8 fun h9 =>
  stC (a1.add 7) (.int .u32 1541459225) h9 fun h10 =>
  CallT Try.prog hash_shaWords_no [] h10 [.sc (.raw)] fun (r11 : Value) h12 =>
  newB (List.replicate 64 (.int .u32 0 : Value)) 51 h12 fun a13 h14 =>
  agD r11 fun cs16 =>
  cs16.length = 64 ∧ stRow cs16 a13 h14 fun h15 =>
  CallT Try.prog hash_filled_no [.slice b_0.a b_0.len b_0.cap, .bool true] h15 [.sc (.sl)] fun (r17 : Sl) h18 =>
  LoopT (σ := Sl) (fun X20 s19 h21 => -- s19: b
  cnd (decide ((s19.len : Int) ≥ 64)) (
  ldI .u32 a1 h21 fun n22 =>
  ldI .u32 (a1.add 1) h21 fun n23 =>
  ldI .u32 (a1.add 2) h21 fun n24 =>
  ldI .u32 (a1.add 3) h21 fun n25 =>
  ldI .u32 (a1.add 4) h21 fun n26 =>
  ldI .u32 (a1.add 5) h21 fun n27 =>
  ldI .u32 (a1.add 6) h21 fun n28 =>
  ldI .u32 (a1.add 7) h21 fun n29 =>
  lsl 1 s19.a s19.cap 0 64 (s19.cap : Int) fun o30 l30 c30 =>
  CallT Try.prog hash_shaBlock_no [.agg #[.int .u32 n22, .int .u32 n23, .int .u32 n24, .int .u32 n25, .int .u32 n26, .int .u32 n27, .int .u32 n28, .int .u32 n29], .slice o30 l30 c30, .pointer (some a13)] h21 [.agg [.int .u32, .int .u32, .int .u32, .int .u32, .int .u32, .int .u32, .int .u32, .int .u32]] fun (r31 : (Int × Int × Int × Int × Int × Int × Int × Int)) h32 =>
  stC a1 (.int .u32 r31.1) h32 fun h33 =>
  stC (a1.add 1) (.int .u32 r31.2.1) h33 fun h34 =>
  stC (a1.add 2) (.int .u32 r31.2.2.1) h34 fun h35 =>
  stC (a1.add 3) (.int .u32 r31.2.2.2.1) h35 fun h36 =>
  stC (a1.add 4) (.int .u32 r31.2.2.2.2.1) h36 fun h37 =>
  stC (a1.add 5) (.int .u32 r31.2.2.2.2.2.1) h37 fun h38 =>
  stC (a1.add 6) (.int .u32 r31.2.2.2.2.2.2.1) h38 fun h39 =>
  stC (a1.add 7) (.int .u32 r31.2.2.2.2.2.2.2) h39 fun h40 =>
  lsl 1 s19.a s19.cap 64 (s19.len : Int) (s19.cap : Int) fun o41 l41 c41 =>
  X20 (⟨o41, l41, c41⟩ : Sl) h40) (
  LoopT (σ := Sl) (fun X43 s42 h44 => -- s42: tail
  cnd (decide ((s42.len : Int) > 0)) (
  ldI .u32 a1 h44 fun n45 =>
  ldI .u32 (a1.add 1) h44 fun n46 =>
  ldI .u32 (a1.add 2) h44 fun n47 =>
  ldI .u32 (a1.add 3) h44 fun n48 =>
  ldI .u32 (a1.add 4) h44 fun n49 =>
  ldI .u32 (a1.add 5) h44 fun n50 =>
  ldI .u32 (a1.add 6) h44 fun n51 =>
  ldI .u32 (a1.add 7) h44 fun n52 =>
  lsl 1 s42.a s42.cap 0 64 (s42.cap : Int) fun o53 l53 c53 =>
  CallT Try.prog hash_shaBlock_no [.agg #[.int .u32 n45, .int .u32 n46, .int .u32 n47, .int .u32 n48, .int .u32 n49, .int .u32 n50, .int .u32 n51, .int .u32 n52], .slice o53 l53 c53, .pointer (some a13)] h44 [.agg [.int .u32, .int .u32, .int .u32, .int .u32, .int .u32, .int .u32, .int .u32, .int .u32]] fun (r54 : (Int × Int × Int × Int × Int × Int × Int × Int)) h55 =>
  stC a1 (.int .u32 r54.1) h55 fun h56 =>
  stC (a1.add 1) (.int .u32 r54.2.1) h56 fun h57 =>
  stC (a1.add 2) (.int .u32 r54.2.2.1) h57 fun h58 =>
  stC (a1.add 3) (.int .u32 r54.2.2.2.1) h58 fun h59 =>
  stC (a1.add 4) (.int .u32 r54.2.2.2.2.1) h59 fun h60 =>
  stC (a1.add 5) (.int .u32 r54.2.2.2.2.2.1) h60 fun h61 =>
  stC (a1.add 6) (.int .u32 r54.2.2.2.2.2.2.1) h61 fun h62 =>
  stC (a1.add 7) (.int .u32 r54.2.2.2.2.2.2.2) h62 fun h63 =>
  lsl 1 s42.a s42.cap 64 (s42.len : Int) (s42.cap : Int) fun o64 l64 c64 =>
  X43 (⟨o64, l64, c64⟩ : Sl) h63) (
  mkSl [.int .u8 0] 5 1 0 32 h44 fun a65 h66 =>
  ldI .u32 a1 h66 fun n67 =>
  ldI .u32 (a1.add 1) h66 fun n68 =>
  ldI .u32 (a1.add 2) h66 fun n69 =>
  ldI .u32 (a1.add 3) h66 fun n70 =>
  ldI .u32 (a1.add 4) h66 fun n71 =>
  ldI .u32 (a1.add 5) h66 fun n72 =>
  ldI .u32 (a1.add 6) h66 fun n73 =>
  ldI .u32 (a1.add 7) h66 fun n74 =>
  LoopT (σ := Sl × Int) (fun X76 s75 h77 => -- s75: out, t33
  cnd (decide (s75.2 < 8)) (
  inB 8 s75.2 (aidxI .u32 [.int .u32 n67, .int .u32 n68, .int .u32 n69, .int .u32 n70, .int .u32 n71, .int .u32 n72, .int .u32 n73, .int .u32 n74] s75.2 fun v78 =>
  newB [.int .u8 (IntKind.u8.wrap ((shrI .u32 v78 24))), .int .u8 (IntKind.u8.wrap ((shrI .u32 v78 16))), .int .u8 (IntKind.u8.wrap ((shrI .u32 v78 8))), .int .u8 (IntKind.u8.wrap (v78))] 5 h77 fun a79 h80 =>
  ldRow (4 * 1) a79 h80 fun cs84 =>
  app [.int .u8 0] 5 1 1 s75.1.a s75.1.len s75.1.cap cs84 4 h80 fun o81 c82 h83 =>
  X76 ((⟨o81, (s75.1.len + 4), c82⟩ : Sl), (w64 (s75.2 + 1))) h83)) (
  R s75.1 h77)) ((⟨(some a65), (0 : Int).toNat, (32 : Int).toNat⟩ : Sl), 0) h66)) r17 h21)) b_0 h18
theorem hash_SHA256_eq (b_0 : Sl) (R : Sl → Heap → Prop) (h : Heap) : fnX Try.prog Fns.fns Try.f11 (.s .n (.s .n (.s .n (.s .n (.s (.b (.l [(0, .sl)] (.s (.s .n (.s .n .n)) (.s (.b .n) .n)))) (.s (.b (.l [(5, .sl)] (.s (.s .n (.s .n .n)) (.s (.b .n) .n)))) (.s .n (.s (.s .n (.b (.l [(6, .sl), (33, .int .i64)] (.s .n (.s (.s .n .n) (.s (.b (.s .n .n)) .n)))))) (.s .n .n))))))))) [.sc (.sl)] [.slice b_0.a b_0.len b_0.cap] h R = hash_SHA256 b_0 R h := by kernel_rfl
theorem hash_SHA256_call (b_0 : Sl) {R : Sl → Heap → Prop} {h : Heap} (hx : hash_SHA256 b_0 R h) : CallT Try.prog 11 [.slice b_0.a b_0.len b_0.cap] h [.sc (.sl)] R :=
  call_of_fnX fnsOk mixed Try.func11 (by kernel_rfl) (by rw [hash_SHA256_eq]; exact hx)

/-- stowage/hash.CRC (13) -/
def hash_CRC (b_0 : Sl) (R : Int → Heap → Prop) (h : Heap) : Prop :=
  LoopT (σ := Int × Int) (fun X2 s1 h3 => -- s1: u, t8
  cnd (decide (s1.2 < (b_0.len : Int))) (
  idx b_0.a b_0.len s1.2 fun a4 =>
  ldI .u8 (a4.add (s1.2.toNat * 1)) h3 fun n5 =>
  LoopT (σ := Int × Int) (fun X7 s6 h8 => -- s6: u, t16
  cnd (decide (s6.2 < 8)) (
  X7 ((xorI .u32 (shrI .u32 s6.1 1) (andI .u32 2197175160 (IntKind.u32.wrap (0 - (andI .u32 s6.1 1))))), (w64 (s6.2 + 1))) h8) (
  X2 (s6.1, (w64 (s1.2 + 1))) h8)) ((xorI .u32 s1.1 (IntKind.u32.wrap (n5))), 0) h3) (
  R (xorI .u32 IntKind.u32.max s1.1) h3)) (4294967295, 0) h
theorem hash_CRC_eq (b_0 : Sl) (R : Int → Heap → Prop) (h : Heap) : fnX Try.prog Fns.fns Try.f13 (.s .n (.s .n (.s (.s .n (.b (.l [(3, .int .u32), (8, .int .i64)] (.s .n (.s (.s .n .n) (.s (.b (.s .n (.s .n (.s .n (.b (.l [(3, .int .u32), (16, .int .i64)] (.s .n (.s (.s .n .n) (.s (.b .n) .n))))))))) .n)))))) (.s .n .n)))) [.sc (.int .u32)] [.slice b_0.a b_0.len b_0.cap] h R = hash_CRC b_0 R h := by kernel_rfl
theorem hash_CRC_call (b_0 : Sl) {R : Int → Heap → Prop} {h : Heap} (hx : hash_CRC b_0 R h) : CallT Try.prog 13 [.slice b_0.a b_0.len b_0.cap] h [.sc (.int .u32)] R :=
  call_of_fnX fnsOk mixed Try.func13 (by kernel_rfl) (by rw [hash_CRC_eq]; exact hx)

/-- stowage/hash.New (16) -/
def hash_New (kind_0 : Int) (R : (Option Addr) × Int → Heap → Prop) (h : Heap) : Prop :=
  cnd (kind_0 == 1) (
  newB [.iface 58 (.agg #[]), .slice none 0 0] 62 h fun a1 h2 =>
  R ((some a1), 0) h2) (
  cnd (kind_0 == 2) (
  newB [.iface 63 (.agg #[]), .slice none 0 0] 62 h fun a3 h4 =>
  R ((some a3), 0) h4) (
  R (none, 1) h))
theorem hash_New_eq (kind_0 : Int) (R : (Option Addr) × Int → Heap → Prop) (h : Heap) : fnX Try.prog Fns.fns Try.f16 (.s .n (.s (.s .n (.b (.s .n (.s (.s .n .n) (.s .n (.s (.s .n .n) .n)))))) (.s .n .n))) [.sc (.ptr), .sc (.int .i64)] [.int .i64 kind_0] h R = hash_New kind_0 R h := by kernel_rfl
theorem hash_New_call (kind_0 : Int) {R : (Option Addr) × Int → Heap → Prop} {h : Heap} (hx : hash_New kind_0 R h) : CallT Try.prog 16 [.int .i64 kind_0] h [.sc (.ptr), .sc (.int .i64)] R :=
  call_of_fnX fnsOk mixed Try.func16 (by kernel_rfl) (by rw [hash_New_eq]; exact hx)

/-- (*stowage/hash.Stream).Write (17) -/
def hash_Stream_Write (s_0 : Option Addr) (b_1 : Sl) (R : Unit → Heap → Prop) (h : Heap) : Prop :=
  nn s_0 fun a1 =>
  ldL (a1.add 1) h fun o2 l2 c2 =>
  rdCells b_1.a (b_1.len * 1) h fun cs6 =>
  app [.int .u8 0] 5 1 1 o2 l2 c2 cs6 b_1.len h fun o3 c4 h5 =>
  nn s_0 fun a7 =>
  stC (a7.add 1) (.slice o3 (l2 + b_1.len) c4) h5 fun h8 =>
  R () h8
theorem hash_Stream_Write_eq (s_0 : Option Addr) (b_1 : Sl) (R : Unit → Heap → Prop) (h : Heap) : fnX Try.prog Fns.fns Try.f17 .n [] [.pointer s_0, .slice b_1.a b_1.len b_1.cap] h R = hash_Stream_Write s_0 b_1 R h := by kernel_rfl
theorem hash_Stream_Write_call (s_0 : Option Addr) (b_1 : Sl) {R : Unit → Heap → Prop} {h : Heap} (hx : hash_Stream_Write s_0 b_1 R h) : CallT Try.prog 17 [.pointer s_0, .slice b_1.a b_1.len b_1.cap] h [] R :=
  call_of_fnX fnsOk mixed Try.func17 (by kernel_rfl) (by rw [hash_Stream_Write_eq]; exact hx)

/-- (*stowage/hash.Stream).Size (19) -/
def hash_Stream_Size (s_0 : Option Addr) (R : Int → Heap → Prop) (h : Heap) : Prop :=
  nn s_0 fun a1 =>
  ldL (a1.add 1) h fun o2 l2 c2 =>
  R (l2 : Int) h
theorem hash_Stream_Size_eq (s_0 : Option Addr) (R : Int → Heap → Prop) (h : Heap) : fnX Try.prog Fns.fns Try.f19 (.s .n (.s .n .n)) [.sc (.int .i64)] [.pointer s_0] h R = hash_Stream_Size s_0 R h := by kernel_rfl
theorem hash_Stream_Size_call (s_0 : Option Addr) {R : Int → Heap → Prop} {h : Heap} (hx : hash_Stream_Size s_0 R h) : CallT Try.prog 19 [.pointer s_0] h [.sc (.int .i64)] R :=
  call_of_fnX fnsOk mixed Try.func19 (by kernel_rfl) (by rw [hash_Stream_Size_eq]; exact hx)

/-- stowage/hash.HMAC (20) -/
def hash_HMAC (key_0 : Sl) (b_1 : Sl) (R : Sl → Heap → Prop) (h : Heap) : Prop :=
  withJ (σ := Sl) (fun s1 h3 => -- s1: key
  withJ (σ := Sl × Sl) (fun s4 h6 => -- s4: in, out
  rdCells s1.a ((Nat.min s1.len s4.1.len) * 1) h6 fun cs8 =>
  wrRow cs8 s4.1.a h6 fun h7 =>
  rdCells s1.a ((Nat.min s1.len s4.2.len) * 1) h7 fun cs10 =>
  wrRow cs10 s4.2.a h7 fun h9 =>
  LoopT (σ := Int) (fun X12 s11 h13 => -- s11: t24
  cnd (decide (s11 < 64)) (
  idx s4.1.a s4.1.len s11 fun a14 =>
  ldI .u8 (a14.add (s11.toNat * 1)) h13 fun n15 =>
  idx s4.1.a s4.1.len s11 fun a16 =>
  stC (a16.add (s11.toNat * 1)) (.int .u8 (xorI .u8 n15 54)) h13 fun h17 =>
  idx s4.2.a s4.2.len s11 fun a18 =>
  ldI .u8 (a18.add (s11.toNat * 1)) h17 fun n19 =>
  idx s4.2.a s4.2.len s11 fun a20 =>
  stC (a20.add (s11.toNat * 1)) (.int .u8 (xorI .u8 n19 92)) h17 fun h21 =>
  X12 (w64 (s11 + 1)) h21) (
  rdCells b_1.a (b_1.len * 1) h13 fun cs25 =>
  app [.int .u8 0] 5 1 1 s4.1.a s4.1.len s4.1.cap cs25 b_1.len h13 fun o22 c23 h24 =>
  CallT Try.prog hash_SHA256_no [.slice o22 (s4.1.len + b_1.len) c23] h24 [.sc (.sl)] fun (r26 : Sl) h27 =>
  rdCells r26.a (r26.len * 1) h27 fun cs31 =>
  app [.int .u8 0] 5 1 1 s4.2.a s4.2.len s4.2.cap cs31 r26.len h27 fun o28 c29 h30 =>
  CallT Try.prog hash_SHA256_no [.slice o28 (s4.2.len + r26.len) c29] h30 [.sc (.sl)] fun (r32 : Sl) h33 =>
  R r32 h33)) 0 h9) (fun J5 =>
  (mkSl [.int .u8 0] 5 1 64 (w64 (64 + (b_1.len : Int))) h3 fun a34 h35 =>
  (mkSl [.int .u8 0] 5 1 64 96 h35 fun a36 h37 =>
  J5 ((⟨(some a34), (64 : Int).toNat, (w64 (64 + (b_1.len : Int))).toNat⟩ : Sl), (⟨(some a36), (64 : Int).toNat, (96 : Int).toNat⟩ : Sl)) h37) ∧
  (mkSl [.int .u8 0] 5 1 64 96 h35 fun a38 h39 =>
  J5 ((⟨(some a34), (64 : Int).toNat, (w64 (64 + (b_1.len : Int))).toNat⟩ : Sl), (⟨(some a38), (64 : Int).toNat, (96 : Int).toNat⟩ : Sl)) h39)) ∧
  (mkSl [.int .u8 0] 5 1 64 96 h3 fun a40 h41 =>
  mkSl [.int .u8 0] 5 1 64 (w64 (64 + (b_1.len : Int))) h41 fun a42 h43 =>
  J5 ((⟨(some a42), (64 : Int).toNat, (w64 (64 + (b_1.len : Int))).toNat⟩ : Sl), (⟨(some a40), (64 : Int).toNat, (96 : Int).toNat⟩ : Sl)) h43))) (fun J2 =>
  cnd (decide ((key_0.len : Int) > 64)) (
  CallT Try.prog hash_SHA256_no [.slice key_0.a key_0.len key_0.cap] h [.sc (.sl)] fun (r44 : Sl) h45 =>
  J2 r44 h45) (
  J2 key_0 h))
theorem hash_HMAC_eq (key_0 : Sl) (b_1 : Sl) (R : Sl → Heap → Prop) (h : Heap) : fnX Try.prog Fns.fns Try.f20 (.s .n (.j [(0, .sl)] (.s .n (.s .n .n)) (.j [(5, .sl), (6, .sl)] .n (.s .n (.s .n (.s (.s .n (.b (.l [(24, .int .i64)] (.s .n (.s (.s .n .n) (.s (.b (.s .n (.s .n .n))) .n)))))) (.s .n .n))))))) [.sc (.sl)] [.slice key_0.a key_0.len key_0.cap, .slice b_1.a b_1.len b_1.cap] h R = hash_HMAC key_0 b_1 R h := by kernel_rfl
theorem hash_HMAC_call (key_0 : Sl) (b_1 : Sl) {R : Sl → Heap → Prop} {h : Heap} (hx : hash_HMAC key_0 b_1 R h) : CallT Try.prog 20 [.slice key_0.a key_0.len key_0.cap, .slice b_1.a b_1.len b_1.cap] h [.sc (.sl)] R :=
  call_of_fnX fnsOk mixed Try.func20 (by kernel_rfl) (by rw [hash_HMAC_eq]; exact hx)

/-- stowage/hash.mdSine (22) -/
def hash_mdSine (i_0 : Int) (R : Int → Heap → Prop) (h : Heap) : Prop :=
  newB (List.replicate 64 (.int .u32 0 : Value)) 51 h fun a1 h2 =>
  ([.int .u32 3614090360, .int .u32 3905402710, .int .u32 606105819, .int .u32 3250441966, .int .u32 4118548399, .int .u32 1200080426, .int .u32 2821735955, .int .u32 4249261313, .int .u32 1770035416, .int .u32 2336552879, .int .u32 4294925233, .int .u32 2304563134, .int .u32 1804603682, .int .u32 4254626195, .int .u32 2792965006, .int .u32 1236535329, .int .u32 4129170786, .int .u32 3225465664, .int .u32 643717713, .int .u32 3921069994, .int .u32 3593408605, .int .u32 38016083, .int .u32 3634488961, .int .u32 3889429448, .int .u32 568446438, .int .u32 3275163606, .int .u32 4107603335, .int .u32 1163531501, .int .u32 2850285829, .int .u32 4243563512, .int .u32 1735328473, .int .u32 2368359562, .int .u32 4294588738, .int .u32 2272392833, .int .u32 1839030562, .int .u32 4259657740, .int .u32 2763975236, .int .u32 1272893353, .int .u32 4139469664, .int .u32 3200236656, .int .u32 681279174, .int .u32 3936430074, .int .u32 3572445317, .int .u32 76029189, .int .u32 3654602809, .int .u32 3873151461, .int .u32 530742520, .int .u32 3299628645, .int .u32 4096336452, .int .u32 1126891415, .int .u32 2878612391, .int .u32 4237533241, .int .u32 1700485571, .int .u32 2399980690, .int .u32 4293915773, .int .u32 2240044497, .int .u32 1873313359, .int .u32 4264355552, .int .u32 2734768916, .int .u32 1309151649, .int .u32 4149444226, .int .u32 3174756917, .int .u32 718787259, .int .u32 3951481745] : List Value).length = 64 ∧ stRow [.int .u32 3614090360, .int .u32 3905402710, .int .u32 606105819, .int .u32 3250441966, .int .u32 4118548399, .int .u32 1200080426, .int .u32 2821735955, .int .u32 4249261313, .int .u32 1770035416, .int .u32 2336552879, .int .u32 4294925233, .int .u32 2304563134, .int .u32 1804603682, .int .u32 4254626195, .int .u32 2792965006, .int .u32 1236535329, .int .u32 4129170786, .int .u32 3225465664, .int .u32 643717713, .int .u32 3921069994, .int .u32 3593408605, .int .u32 38016083, .int .u32 3634488961, .int .u32 3889429448, .int .u32 568446438, .int .u32 3275163606, .int .u32 4107603335, .int .u32 1163531501, .int .u32 2850285829, .int .u32 4243563512, .int .u32 1735328473, .int .u32 2368359562, .int .u32 4294588738, .int .u32 2272392833, .int .u32 1839030562, .int .u32 4259657740, .int .u32 2763975236, .int .u32 1272893353, .int .u32 4139469664, .int .u32 3200236656, .int .u32 681279174, .int .u32 3936430074, .int .u32 3572445317, .int .u32 76029189, .int .u32 3654602809, .int .u32 3873151461, .int .u32 530742520, .int .u32 3299628645, .int .u32 4096336452, .int .u32 1126891415, .int .u32 2878612391, .int .u32 4237533241, .int .u32 1700485571, .int .u32 2399980690, .int .u32 4293915773, .int .u32 2240044497, .int .u32 1873313359, .int .u32 4264355552, .int .u32 2734768916, .int .u32 1309151649, .int .u32 4149444226, .int .u32 3174756917, .int .u32 718787259, .int .u32 3951481745] a1 h2 fun h3 =>
  inB 64 i_0 (
  ldI .u32 (a1.add (i_0.toNat * 1)) h3 fun n4 =>
  R n4 h3)
theorem hash_mdSine_eq (i_0 : Int) (R : Int → Heap → Prop) (h : Heap) : fnX Try.prog Fns.fns Try.f22 (.s .n (.s .n (.s .n .n))) [.sc (.int .u32)] [.int .i64 i_0] h R = hash_mdSine i_0 R h := by kernel_rfl
theorem hash_mdSine_call (i_0 : Int) {R : Int → Heap → Prop} {h : Heap} (hx : hash_mdSine i_0 R h) : CallT Try.prog 22 [.int .i64 i_0] h [.sc (.int .u32)] R :=
  call_of_fnX fnsOk mixed Try.func22 (by kernel_rfl) (by rw [hash_mdSine_eq]; exact hx)

/-- stowage/hash.filled (23) -/
def hash_filled (b_0 : Sl) (high_1 : Bool) (R : Sl → Heap → Prop) (h : Heap) : Prop :=
  lsl 1 b_0.a b_0.cap (w64 ((w64 ((b_0.len : Int).tdiv 64)) * 64)) (b_0.len : Int) (b_0.cap : Int) fun o1 l1 c1 =>
  mkSl [.int .u8 0] 5 1 0 128 h fun a2 h3 =>
  rdCells o1 (l1 * 1) h3 fun cs7 =>
  app [.int .u8 0] 5 1 1 (some a2) ((0 : Int).toNat) ((128 : Int).toNat) cs7 l1 h3 fun o4 c5 h6 =>
  newB [.int .u8 128] 5 h6 fun a8 h9 =>
  ldRow (1 * 1) a8 h9 fun cs13 =>
  app [.int .u8 0] 5 1 1 o4 (((0 : Int).toNat) + l1) c5 cs13 1 h9 fun o10 c11 h12 =>
  LoopT (σ := Sl) (fun X15 s14 h16 => -- s14: out
  cnd (((s14.len : Int).tmod 64) != 56) (
  newB [.int .u8 0] 5 h16 fun a17 h18 =>
  ldRow (1 * 1) a17 h18 fun cs22 =>
  app [.int .u8 0] 5 1 1 s14.a s14.len s14.cap cs22 1 h18 fun o19 c20 h21 =>
  X15 (⟨o19, (s14.len + 1), c20⟩ : Sl) h21) (
  LoopT (σ := Sl × Int) (fun X24 s23 h25 => -- s23: out, t32
  cnd (decide (s23.2 < 8)) (
  withJ (σ := Sl) (fun s26 h28 => -- s26: out
  X24 (s26, (w64 (s23.2 + 1))) h28) (fun J27 =>
  withJ (σ := Int) (fun s29 h31 => -- s29: s
  geZ s29 (
  newB [.int .u8 (IntKind.u8.wrap ((shrI .u64 (IntKind.u64.wrap ((IntKind.u64.wrap ((b_0.len : Int))) * 8)) s29)))] 5 h31 fun a32 h33 =>
  ldRow (1 * 1) a32 h33 fun cs37 =>
  app [.int .u8 0] 5 1 1 s23.1.a s23.1.len s23.1.cap cs37 1 h33 fun o34 c35 h36 =>
  J27 (⟨o34, (s23.1.len + 1), c35⟩ : Sl) h36)) (fun J30 =>
  cnd high_1 (
  J30 (w64 (56 - (w64 (8 * s23.2)))) h25) (
  J30 (w64 (8 * s23.2)) h25)))) (
  R s23.1 h25)) (s14, 0) h16)) (⟨o10, ((((0 : Int).toNat) + l1) + 1), c11⟩ : Sl) h12
theorem hash_filled_eq (b_0 : Sl) (high_1 : Bool) (R : Sl → Heap → Prop) (h : Heap) : fnX Try.prog Fns.fns Try.f23 (.s .n (.s .n (.s .n (.s (.b (.l [(6, .sl)] (.s (.s .n (.s .n .n)) (.b .n)))) (.s .n (.s (.s .n (.b (.l [(6, .sl), (32, .int .i64)] (.s .n (.s (.s .n .n) (.j [(6, .sl)] (.b (.s .n (.s .n (.j [(9, .int .i64)] (.s .n (.s .n .n)) .n)))) .n)))))) (.s .n .n))))))) [.sc (.sl)] [.slice b_0.a b_0.len b_0.cap, .bool high_1] h R = hash_filled b_0 high_1 R h := by kernel_rfl
theorem hash_filled_call (b_0 : Sl) (high_1 : Bool) {R : Sl → Heap → Prop} {h : Heap} (hx : hash_filled b_0 high_1 R h) : CallT Try.prog 23 [.slice b_0.a b_0.len b_0.cap, .bool high_1] h [.sc (.sl)] R :=
  call_of_fnX fnsOk mixed Try.func23 (by kernel_rfl) (by rw [hash_filled_eq]; exact hx)

/-- stowage/hash.mdBlock (24) -/
def hash_mdBlock (x_0 : Int × Int × Int × Int) (x_1 : Sl) (x_2 : Sl) (R : (Int × Int × Int × Int) → Heap → Prop) (h : Heap) : Prop :=
  newB [.int .u32 x_0.1, .int .u32 x_0.2.1, .int .u32 x_0.2.2.1, .int .u32 x_0.2.2.2] 41 h fun a1 h2 =>
  newB [.int .u32 0, .int .u32 0, .int .u32 0, .int .u32 0] 41 h2 fun a3 h4 =>
  newB (List.replicate 16 (.int .u32 0 : Value)) 66 h4 fun a5 h6 =>
  LoopT (σ := Int) (fun X8 s7 h9 => -- s7: t16
  cnd (decide (s7 < 16)) (
  idx x_1.a x_1.len (w64 (4 * s7)) fun a10 =>
  ldI .u8 (a10.add ((w64 (4 * s7)).toNat * 1)) h9 fun n11 =>
  idx x_1.a x_1.len (w64 ((w64 (4 * s7)) + 1)) fun a12 =>
  ldI .u8 (a12.add ((w64 ((w64 (4 * s7)) + 1)).toNat * 1)) h9 fun n13 =>
  idx x_1.a x_1.len (w64 ((w64 (4 * s7)) + 2)) fun a14 =>
  ldI .u8 (a14.add ((w64 ((w64 (4 * s7)) + 2)).toNat * 1)) h9 fun n15 =>
  idx x_1.a x_1.len (w64 ((w64 (4 * s7)) + 3)) fun a16 =>
  ldI .u8 (a16.add ((w64 ((w64 (4 * s7)) + 3)).toNat * 1)) h9 fun n17 =>
  inB 16 s7 (
  stC (a5.add (s7.toNat * 1)) (.int .u32 (orI .u32 (orI .u32 (orI .u32 (IntKind.u32.wrap (n11)) (shlI .u32 (IntKind.u32.wrap (n13)) 8)) (shlI .u32 (IntKind.u32.wrap (n15)) 16)) (shlI .u32 (IntKind.u32.wrap (n17)) 24))) h9 fun h18 =>
  X8 (w64 (s7 + 1)) h18)) (
  inB 4 0 (
  ldI .u32 (a1.add ((0 : Int).toNat * 1)) h9 fun n19 =>
  inB 4 1 (
  ldI .u32 (a1.add ((1 : Int).toNat * 1)) h9 fun n20 =>
  inB 4 2 (
  ldI .u32 (a1.add ((2 : Int).toNat * 1)) h9 fun n21 =>
  inB 4 3 (
  ldI .u32 (a1.add ((3 : Int).toNat * 1)) h9 fun n22 =>
  LoopT (σ := Int × Int × Int × Int × Int) (fun X24 s23 h25 => -- s23: t9, t10, t11, t12, t63
  cnd (decide (s23.2.2.2.2 < 64)) (
  withJ (σ := Int × Int × Int × Int) (fun s26 h28 => -- s26: t9, t10, t11, t12
  X24 (s26.1, s26.2.1, s26.2.2.1, s26.2.2.2, (w64 (s23.2.2.2.2 + 1))) h28) (fun J27 =>
  withJ (σ := Int × Int) (fun s29 h31 => -- s29: t14, t15
  idx x_2.a x_2.len s23.2.2.2.2 fun a32 =>
  ldI .u32 (a32.add (s23.2.2.2.2.toNat * 1)) h31 fun n33 =>
  inB 16 s29.2 (
  ldI .u32 (a5.add (s29.2.toNat * 1)) h31 fun n34 =>
  CallT Try.prog hash_mdTurn_no [.int .i64 s23.2.2.2.2] h31 [.sc (.int .i64)] fun (r35 : Int) h36 =>
  CallT Try.prog math_bits_RotateLeft32_no [.int .u32 (IntKind.u32.wrap (s29.1 + (IntKind.u32.wrap ((IntKind.u32.wrap (s23.1 + n33)) + n34)))), .int .i64 r35] h36 [.sc (.int .u32)] fun (r37 : Int) h38 =>
  J27 (s23.2.2.2.1, (IntKind.u32.wrap (s23.2.1 + r37)), s23.2.1, s23.2.2.1) h38)) (fun J30 =>
  cnd ((w64 (s23.2.2.2.2.tdiv 16)) == 0) (
  J30 ((orI .u32 (andI .u32 s23.2.1 s23.2.2.1) (andI .u32 (xorI .u32 IntKind.u32.max s23.2.1) s23.2.2.2.1)), s23.2.2.2.2) h25) (
  cnd ((w64 (s23.2.2.2.2.tdiv 16)) == 1) (
  J30 ((orI .u32 (andI .u32 s23.2.2.2.1 s23.2.1) (andI .u32 (xorI .u32 IntKind.u32.max s23.2.2.2.1) s23.2.2.1)), ((w64 ((w64 (5 * s23.2.2.2.2)) + 1)).tmod 16)) h25) (
  cnd ((w64 (s23.2.2.2.2.tdiv 16)) == 2) (
  J30 ((xorI .u32 (xorI .u32 s23.2.1 s23.2.2.1) s23.2.2.2.1), ((w64 ((w64 (3 * s23.2.2.2.2)) + 5)).tmod 16)) h25) (
  J30 ((xorI .u32 s23.2.2.1 (orI .u32 s23.2.1 (xorI .u32 IntKind.u32.max s23.2.2.2.1))), ((w64 (7 * s23.2.2.2.2)).tmod 16)) h25)))))) (
  inB 4 0 (
  ldI .u32 (a1.add ((0 : Int).toNat * 1)) h25 fun n39 =>
  inB 4 1 (
  ldI .u32 (a1.add ((1 : Int).toNat * 1)) h25 fun n40 =>
  inB 4 2 (
  ldI .u32 (a1.add ((2 : Int).toNat * 1)) h25 fun n41 =>
  inB 4 3 (
  ldI .u32 (a1.add ((3 : Int).toNat * 1)) h25 fun n42 =>
  stC a3 (.int .u32 (IntKind.u32.wrap (n39 + s23.1))) h25 fun h43 =>
  stC (a3.add 1) (.int .u32 (IntKind.u32.wrap (n40 + s23.2.1))) h43 fun h44 =>
  stC (a3.add 2) (.int .u32 (IntKind.u32.wrap (n41 + s23.2.2.1))) h44 fun h45 =>
  stC (a3.add 3) (.int .u32 (IntKind.u32.wrap (n42 + s23.2.2.2.1))) h45 fun h46 =>
  ldI .u32 a3 h46 fun n47 =>
  ldI .u32 (a3.add 1) h46 fun n48 =>
  ldI .u32 (a3.add 2) h46 fun n49 =>
  ldI .u32 (a3.add 3) h46 fun n50 =>
  R (n47, n48, n49, n50) h46)))))) (n19, n20, n21, n22, 0) h9)))))) 0 h6
theorem hash_mdBlock_eq (x_0 : Int × Int × Int × Int) (x_1 : Sl) (x_2 : Sl) (R : (Int × Int × Int × Int) → Heap → Prop) (h : Heap) : fnX Try.prog Fns.fns Try.f24 (.s .n (.s .n (.s (.s .n (.b (.l [(16, .int .i64)] (.s .n (.s (.s .n .n) (.s (.b (.s .n .n)) .n)))))) (.s .n (.s (.s .n (.b (.l [(9, .int .u32), (10, .int .u32), (11, .int .u32), (12, .int .u32), (63, .int .i64)] (.s .n (.s (.s .n .n) (.j [(9, .int .u32), (10, .int .u32), (11, .int .u32), (12, .int .u32)] (.b (.s .n (.s .n (.s .n (.j [(14, .int .u32), (15, .int .i64)] (.s .n (.b (.s .n (.s .n (.s .n (.s .n (.s .n (.s .n .n)))))))) (.s .n .n)))))) .n)))))) (.s .n .n)))))) [.agg [.int .u32, .int .u32, .int .u32, .int .u32]] [.agg #[.int .u32 x_0.1, .int .u32 x_0.2.1, .int .u32 x_0.2.2.1, .int .u32 x_0.2.2.2], .slice x_1.a x_1.len x_1.cap, .slice x_2.a x_2.len x_2.cap] h R = hash_mdBlock x_0 x_1 x_2 R h := by kernel_rfl
theorem hash_mdBlock_call (x_0 : Int × Int × Int × Int) (x_1 : Sl) (x_2 : Sl) {R : (Int × Int × Int × Int) → Heap → Prop} {h : Heap} (hx : hash_mdBlock x_0 x_1 x_2 R h) : CallT Try.prog 24 [.agg #[.int .u32 x_0.1, .int .u32 x_0.2.1, .int .u32 x_0.2.2.1, .int .u32 x_0.2.2.2], .slice x_1.a x_1.len x_1.cap, .slice x_2.a x_2.len x_2.cap] h [.agg [.int .u32, .int .u32, .int .u32, .int .u32]] R :=
  call_of_fnX fnsOk mixed Try.func24 (by kernel_rfl) (by rw [hash_mdBlock_eq]; exact hx)

/-- stowage/hash.shaWords (28) -/
def hash_shaWords (R : Value → Heap → Prop) (h : Heap) : Prop :=
  newB (List.replicate 64 (.int .u32 0 : Value)) 51 h fun a1 h2 =>
  ([.int .u32 1116352408, .int .u32 1899447441, .int .u32 3049323471, .int .u32 3921009573, .int .u32 961987163, .int .u32 1508970993, .int .u32 2453635748, .int .u32 2870763221, .int .u32 3624381080, .int .u32 310598401, .int .u32 607225278, .int .u32 1426881987, .int .u32 1925078388, .int .u32 2162078206, .int .u32 2614888103, .int .u32 3248222580, .int .u32 3835390401, .int .u32 4022224774, .int .u32 264347078, .int .u32 604807628, .int .u32 770255983, .int .u32 1249150122, .int .u32 1555081692, .int .u32 1996064986, .int .u32 2554220882, .int .u32 2821834349, .int .u32 2952996808, .int .u32 3210313671, .int .u32 3336571891, .int .u32 3584528711, .int .u32 113926993, .int .u32 338241895, .int .u32 666307205, .int .u32 773529912, .int .u32 1294757372, .int .u32 1396182291, .int .u32 1695183700, .int .u32 1986661051, .int .u32 2177026350, .int .u32 2456956037, .int .u32 2730485921, .int .u32 2820302411, .int .u32 3259730800, .int .u32 3345764771, .int .u32 3516065817, .int .u32 3600352804, .int .u32 4094571909, .int .u32 275423344, .int .u32 430227734, .int .u32 506948616, .int .u32 659060556, .int .u32 883997877, .int .u32 958139571, .int .u32 1322822218, .int .u32 1537002063, .int .u32 1747873779, .int .u32 1955562222, .int .u32 2024104815, .int .u32 2227730452, .int .u32 2361852424, .int .u32 2428436474, .int .u32 2756734187, .int .u32 3204031479, .int .u32 3329325298] : List Value).length = 64 ∧ stRow [.int .u32 1116352408, .int .u32 1899447441, .int .u32 3049323471, .int .u32 3921009573, .int .u32 961987163, .int .u32 1508970993, .int .u32 2453635748, .int .u32 2870763221, .int .u32 3624381080, .int .u32 310598401, .int .u32 607225278, .int .u32 1426881987, .int .u32 1925078388, .int .u32 2162078206, .int .u32 2614888103, .int .u32 3248222580, .int .u32 3835390401, .int .u32 4022224774, .int .u32 264347078, .int .u32 604807628, .int .u32 770255983, .int .u32 1249150122, .int .u32 1555081692, .int .u32 1996064986, .int .u32 2554220882, .int .u32 2821834349, .int .u32 2952996808, .int .u32 3210313671, .int .u32 3336571891, .int .u32 3584528711, .int .u32 113926993, .int .u32 338241895, .int .u32 666307205, .int .u32 773529912, .int .u32 1294757372, .int .u32 1396182291, .int .u32 1695183700, .int .u32 1986661051, .int .u32 2177026350, .int .u32 2456956037, .int .u32 2730485921, .int .u32 2820302411, .int .u32 3259730800, .int .u32 3345764771, .int .u32 3516065817, .int .u32 3600352804, .int .u32 4094571909, .int .u32 275423344, .int .u32 430227734, .int .u32 506948616, .int .u32 659060556, .int .u32 883997877, .int .u32 958139571, .int .u32 1322822218, .int .u32 1537002063, .int .u32 1747873779, .int .u32 1955562222, .int .u32 2024104815, .int .u32 2227730452, .int .u32 2361852424, .int .u32 2428436474, .int .u32 2756734187, .int .u32 3204031479, .int .u32 3329325298] a1 h2 fun h3 =>
  ldRow 64 a1 h3 fun cs4 =>
  R (.agg cs4.toArray : Value) h3
theorem hash_shaWords_eq (R : Value → Heap → Prop) (h : Heap) : fnX Try.prog Fns.fns Try.f28 (.s .n (.s .n .n)) [.sc (.raw)] [] h R = hash_shaWords R h := by kernel_rfl
theorem hash_shaWords_call {R : Value → Heap → Prop} {h : Heap} (hx : hash_shaWords R h) : CallT Try.prog 28 [] h [.sc (.raw)] R :=
  call_of_fnX fnsOk mixed Try.func28 (by kernel_rfl) (by rw [hash_shaWords_eq]; exact hx)

/-- stowage/hash.shaBlock (29) -/
def hash_shaBlock (x_0 : Int × Int × Int × Int × Int × Int × Int × Int) (x_1 : Sl) (x_2 : Option Addr) (R : (Int × Int × Int × Int × Int × Int × Int × Int) → Heap → Prop) (h : Heap) : Prop :=
  newB [.int .u32 x_0.1, .int .u32 x_0.2.1, .int .u32 x_0.2.2.1, .int .u32 x_0.2.2.2.1, .int .u32 x_0.2.2.2.2.1, .int .u32 x_0.2.2.2.2.2.1, .int .u32 x_0.2.2.2.2.2.2.1, .int .u32 x_0.2.2.2.2.2.2.2] 50 h fun a1 h2 =>
  newB [.int .u32 0, .int .u32 0, .int .u32 0, .int .u32 0, .int .u32 0, .int .u32 0, .int .u32 0, .int .u32 0] 50 h2 fun a3 h4 =>
  newB (List.replicate 64 (.int .u32 0 : Value)) 51 h4 fun a5 h6 =>
  LoopT (σ := Int) (fun X8 s7 h9 => -- s7: t19
  cnd (decide (s7 < 64)) (
  withJ (σ := Unit) (fun s10 h12 => -- s10: 
  X8 (w64 (s7 + 1)) h12) (fun J11 =>
  cnd (decide (s7 < 16)) (
  idx x_1.a x_1.len (w64 (4 * s7)) fun a13 =>
  ldI .u8 (a13.add ((w64 (4 * s7)).toNat * 1)) h9 fun n14 =>
  idx x_1.a x_1.len (w64 ((w64 (4 * s7)) + 1)) fun a15 =>
  ldI .u8 (a15.add ((w64 ((w64 (4 * s7)) + 1)).toNat * 1)) h9 fun n16 =>
  idx x_1.a x_1.len (w64 ((w64 (4 * s7)) + 2)) fun a17 =>
  ldI .u8 (a17.add ((w64 ((w64 (4 * s7)) + 2)).toNat * 1)) h9 fun n18 =>
  idx x_1.a x_1.len (w64 ((w64 (4 * s7)) + 3)) fun a19 =>
  ldI .u8 (a19.add ((w64 ((w64 (4 * s7)) + 3)).toNat * 1)) h9 fun n20 =>
  inB 64 s7 (
  stC (a5.add (s7.toNat * 1)) (.int .u32 (orI .u32 (orI .u32 (orI .u32 (shlI .u32 (IntKind.u32.wrap (n14)) 24) (shlI .u32 (IntKind.u32.wrap (n16)) 16)) (shlI .u32 (IntKind.u32.wrap (n18)) 8)) (IntKind.u32.wrap (n20)))) h9 fun h21 =>
  J11 () h21)) (
  inB 64 (w64 (s7 - 15)) (
  ldI .u32 (a5.add ((w64 (s7 - 15)).toNat * 1)) h9 fun n22 =>
  inB 64 (w64 (s7 - 2)) (
  ldI .u32 (a5.add ((w64 (s7 - 2)).toNat * 1)) h9 fun n23 =>
  inB 64 (w64 (s7 - 16)) (
  ldI .u32 (a5.add ((w64 (s7 - 16)).toNat * 1)) h9 fun n24 =>
  inB 64 (w64 (s7 - 7)) (
  ldI .u32 (a5.add ((w64 (s7 - 7)).toNat * 1)) h9 fun n25 =>
  CallT Try.prog hash_shaBlock_1_no [.int .u32 n22, .int .i64 7] h9 [.sc (.int .u32)] fun (r26 : Int) h27 =>
  (ldI .u32 (a5.add ((w64 (s7 - 7)).toNat * 1)) h27 fun n28 =>
  (.int .u32 n28 : Value) = .int .u32 n25) ∧
  (ldI .u32 (a5.add ((w64 (s7 - 16)).toNat * 1)) h27 fun n29 =>
  (.int .u32 n29 : Value) = .int .u32 n24) ∧
  CallT Try.prog hash_shaBlock_1_no [.int .u32 n22, .int .i64 18] h27 [.sc (.int .u32)] fun (r30 : Int) h31 =>
  (ldI .u32 (a5.add ((w64 (s7 - 7)).toNat * 1)) h31 fun n32 =>
  (.int .u32 n32 : Value) = .int .u32 n25) ∧
  (ldI .u32 (a5.add ((w64 (s7 - 16)).toNat * 1)) h31 fun n33 =>
  (.int .u32 n33 : Value) = .int .u32 n24) ∧
  CallT Try.prog hash_shaBlock_1_no [.int .u32 n23, .int .i64 17] h31 [.sc (.int .u32)] fun (r34 : Int) h35 =>
  (ldI .u32 (a5.add ((w64 (s7 - 7)).toNat * 1)) h35 fun n36 =>
  (.int .u32 n36 : Value) = .int .u32 n25) ∧
  (ldI .u32 (a5.add ((w64 (s7 - 16)).toNat * 1)) h35 fun n37 =>
  (.int .u32 n37 : Value) = .int .u32 n24) ∧
  CallT Try.prog hash_shaBlock_1_no [.int .u32 n23, .int .i64 19] h35 [.sc (.int .u32)] fun (r38 : Int) h39 =>
  (ldI .u32 (a5.add ((w64 (s7 - 7)).toNat * 1)) h39 fun n40 =>
  (.int .u32 n40 : Value) = .int .u32 n25) ∧
  (ldI .u32 (a5.add ((w64 (s7 - 16)).toNat * 1)) h39 fun n41 =>
  (.int .u32 n41 : Value) = .int .u32 n24) ∧
  inB 64 s7 (
  stC (a5.add (s7.toNat * 1)) (.int .u32 (IntKind.u32.wrap ((IntKind.u32.wrap ((IntKind.u32.wrap (n24 + (xorI .u32 (xorI .u32 r26 r30) (shrI .u32 n22 3)))) + n25)) + (xorI .u32 (xorI .u32 r34 r38) (shrI .u32 n23 10))))) h39 fun h42 =>
  J11 () h42)))))))) (
  ldI .u32 a1 h9 fun n43 =>
  ldI .u32 (a1.add 1) h9 fun n44 =>
  ldI .u32 (a1.add 2) h9 fun n45 =>
  ldI .u32 (a1.add 3) h9 fun n46 =>
  ldI .u32 (a1.add 4) h9 fun n47 =>
  ldI .u32 (a1.add 5) h9 fun n48 =>
  ldI .u32 (a1.add 6) h9 fun n49 =>
  ldI .u32 (a1.add 7) h9 fun n50 =>
  newB [.int .u32 0, .int .u32 0, .int .u32 0, .int .u32 0, .int .u32 0, .int .u32 0, .int .u32 0, .int .u32 0] 50 h9 fun a51 h52 =>
  stC a51 (.int .u32 n43) h52 fun h53 =>
  stC (a51.add 1) (.int .u32 n44) h53 fun h54 =>
  stC (a51.add 2) (.int .u32 n45) h54 fun h55 =>
  stC (a51.add 3) (.int .u32 n46) h55 fun h56 =>
  stC (a51.add 4) (.int .u32 n47) h56 fun h57 =>
  stC (a51.add 5) (.int .u32 n48) h57 fun h58 =>
  stC (a51.add 6) (.int .u32 n49) h58 fun h59 =>
  stC (a51.add 7) (.int .u32 n50) h59 fun h60 =>
  LoopT (σ := Int) (fun X62 s61 h63 => -- s61: t102
  cnd (decide (s61 < 64)) (
  inB 8 0 (
  ldI .u32 (a51.add ((0 : Int).toNat * 1)) h63 fun n64 =>
  inB 8 4 (
  ldI .u32 (a51.add ((4 : Int).toNat * 1)) h63 fun n65 =>
  inB 8 7 (
  ldI .u32 (a51.add ((7 : Int).toNat * 1)) h63 fun n66 =>
  inB 8 5 (
  ldI .u32 (a51.add ((5 : Int).toNat * 1)) h63 fun n67 =>
  inB 8 6 (
  ldI .u32 (a51.add ((6 : Int).toNat * 1)) h63 fun n68 =>
  nn x_2 fun a69 =>
  inB 64 s61 (
  ldI .u32 (a69.add (s61.toNat * 1)) h63 fun n70 =>
  inB 64 s61 (
  ldI .u32 (a5.add (s61.toNat * 1)) h63 fun n71 =>
  CallT Try.prog hash_shaBlock_1_no [.int .u32 n65, .int .i64 6] h63 [.sc (.int .u32)] fun (r72 : Int) h73 =>
  (ldI .u32 (a5.add (s61.toNat * 1)) h73 fun n74 =>
  (.int .u32 n74 : Value) = .int .u32 n71) ∧
  (ldI .u32 (a69.add (s61.toNat * 1)) h73 fun n75 =>
  (.int .u32 n75 : Value) = .int .u32 n70) ∧
  (ldI .u32 (a51.add ((6 : Int).toNat * 1)) h73 fun n76 =>
  (.int .u32 n76 : Value) = .int .u32 n68) ∧
  (ldI .u32 (a51.add ((5 : Int).toNat * 1)) h73 fun n77 =>
  (.int .u32 n77 : Value) = .int .u32 n67) ∧
  (ldI .u32 (a51.add ((7 : Int).toNat * 1)) h73 fun n78 =>
  (.int .u32 n78 : Value) = .int .u32 n66) ∧
  CallT Try.prog hash_shaBlock_1_no [.int .u32 n65, .int .i64 11] h73 [.sc (.int .u32)] fun (r79 : Int) h80 =>
  (ldI .u32 (a5.add (s61.toNat * 1)) h80 fun n81 =>
  (.int .u32 n81 : Value) = .int .u32 n71) ∧
  (ldI .u32 (a69.add (s61.toNat * 1)) h80 fun n82 =>
  (.int .u32 n82 : Value) = .int .u32 n70) ∧
  (ldI .u32 (a51.add ((6 : Int).toNat * 1)) h80 fun n83 =>
  (.int .u32 n83 : Value) = .int .u32 n68) ∧
  (ldI .u32 (a51.add ((5 : Int).toNat * 1)) h80 fun n84 =>
  (.int .u32 n84 : Value) = .int .u32 n67) ∧
  (ldI .u32 (a51.add ((7 : Int).toNat * 1)) h80 fun n85 =>
  (.int .u32 n85 : Value) = .int .u32 n66) ∧
  CallT Try.prog hash_shaBlock_1_no [.int .u32 n65, .int .i64 25] h80 [.sc (.int .u32)] fun (r86 : Int) h87 =>
  (ldI .u32 (a5.add (s61.toNat * 1)) h87 fun n88 =>
  (.int .u32 n88 : Value) = .int .u32 n71) ∧
  (ldI .u32 (a69.add (s61.toNat * 1)) h87 fun n89 =>
  (.int .u32 n89 : Value) = .int .u32 n70) ∧
  (ldI .u32 (a51.add ((6 : Int).toNat * 1)) h87 fun n90 =>
  (.int .u32 n90 : Value) = .int .u32 n68) ∧
  (ldI .u32 (a51.add ((5 : Int).toNat * 1)) h87 fun n91 =>
  (.int .u32 n91 : Value) = .int .u32 n67) ∧
  (ldI .u32 (a51.add ((7 : Int).toNat * 1)) h87 fun n92 =>
  (.int .u32 n92 : Value) = .int .u32 n66) ∧
  inB 8 1 (
  ldI .u32 (a51.add ((1 : Int).toNat * 1)) h87 fun n93 =>
  inB 8 2 (
  ldI .u32 (a51.add ((2 : Int).toNat * 1)) h87 fun n94 =>
  inB 8 1 (
  ldI .u32 (a51.add ((1 : Int).toNat * 1)) h87 fun n95 =>
  inB 8 2 (
  ldI .u32 (a51.add ((2 : Int).toNat * 1)) h87 fun n96 =>
  CallT Try.prog hash_shaBlock_1_no [.int .u32 n64, .int .i64 2] h87 [.sc (.int .u32)] fun (r97 : Int) h98 =>
  (ldI .u32 (a51.add ((2 : Int).toNat * 1)) h98 fun n99 =>
  (.int .u32 n99 : Value) = .int .u32 n96) ∧
  (ldI .u32 (a51.add ((1 : Int).toNat * 1)) h98 fun n100 =>
  (.int .u32 n100 : Value) = .int .u32 n95) ∧
  (ldI .u32 (a51.add ((2 : Int).toNat * 1)) h98 fun n101 =>
  (.int .u32 n101 : Value) = .int .u32 n94) ∧
  (ldI .u32 (a51.add ((1 : Int).toNat * 1)) h98 fun n102 =>
  (.int .u32 n102 : Value) = .int .u32 n93) ∧
  CallT Try.prog hash_shaBlock_1_no [.int .u32 n64, .int .i64 13] h98 [.sc (.int .u32)] fun (r103 : Int) h104 =>
  (ldI .u32 (a51.add ((2 : Int).toNat * 1)) h104 fun n105 =>
  (.int .u32 n105 : Value) = .int .u32 n96) ∧
  (ldI .u32 (a51.add ((1 : Int).toNat * 1)) h104 fun n106 =>
  (.int .u32 n106 : Value) = .int .u32 n95) ∧
  (ldI .u32 (a51.add ((2 : Int).toNat * 1)) h104 fun n107 =>
  (.int .u32 n107 : Value) = .int .u32 n94) ∧
  (ldI .u32 (a51.add ((1 : Int).toNat * 1)) h104 fun n108 =>
  (.int .u32 n108 : Value) = .int .u32 n93) ∧
  CallT Try.prog hash_shaBlock_1_no [.int .u32 n64, .int .i64 22] h104 [.sc (.int .u32)] fun (r109 : Int) h110 =>
  (ldI .u32 (a51.add ((2 : Int).toNat * 1)) h110 fun n111 =>
  (.int .u32 n111 : Value) = .int .u32 n96) ∧
  (ldI .u32 (a51.add ((1 : Int).toNat * 1)) h110 fun n112 =>
  (.int .u32 n112 : Value) = .int .u32 n95) ∧
  (ldI .u32 (a51.add ((2 : Int).toNat * 1)) h110 fun n113 =>
  (.int .u32 n113 : Value) = .int .u32 n94) ∧
  (ldI .u32 (a51.add ((1 : Int).toNat * 1)) h110 fun n114 =>
  (.int .u32 n114 : Value) = .int .u32 n93) ∧
  inB 8 0 (
  ldI .u32 (a51.add ((0 : Int).toNat * 1)) h110 fun n115 =>
  inB 8 1 (
  ldI .u32 (a51.add ((1 : Int).toNat * 1)) h110 fun n116 =>
  inB 8 2 (
  ldI .u32 (a51.add ((2 : Int).toNat * 1)) h110 fun n117 =>
  inB 8 3 (
  ldI .u32 (a51.add ((3 : Int).toNat * 1)) h110 fun n118 =>
  inB 8 4 (
  ldI .u32 (a51.add ((4 : Int).toNat * 1)) h110 fun n119 =>
  inB 8 5 (
  ldI .u32 (a51.add ((5 : Int).toNat * 1)) h110 fun n120 =>
  inB 8 6 (
  ldI .u32 (a51.add ((6 : Int).toNat * 1)) h110 fun n121 =>
  stC a51 (.int .u32 (IntKind.u32.wrap ((IntKind.u32.wrap ((IntKind.u32.wrap ((IntKind.u32.wrap ((IntKind.u32.wrap (n66 + (xorI .u32 (xorI .u32 r72 r79) r86))) + (xorI .u32 (andI .u32 n65 n67) (andI .u32 (xorI .u32 IntKind.u32.max n65) n68)))) + n70)) + n71)) + (IntKind.u32.wrap ((xorI .u32 (xorI .u32 r97 r103) r109) + (xorI .u32 (xorI .u32 (andI .u32 n64 n93) (andI .u32 n64 n94)) (andI .u32 n95 n96))))))) h110 fun h122 =>
  stC (a51.add 1) (.int .u32 n115) h122 fun h123 =>
  stC (a51.add 2) (.int .u32 n116) h123 fun h124 =>
  stC (a51.add 3) (.int .u32 n117) h124 fun h125 =>
  stC (a51.add 4) (.int .u32 (IntKind.u32.wrap (n118 + (IntKind.u32.wrap ((IntKind.u32.wrap ((IntKind.u32.wrap ((IntKind.u32.wrap (n66 + (xorI .u32 (xorI .u32 r72 r79) r86))) + (xorI .u32 (andI .u32 n65 n67) (andI .u32 (xorI .u32 IntKind.u32.max n65) n68)))) + n70)) + n71))))) h125 fun h126 =>
  stC (a51.add 5) (.int .u32 n119) h126 fun h127 =>
  stC (a51.add 6) (.int .u32 n120) h127 fun h128 =>
  stC (a51.add 7) (.int .u32 n121) h128 fun h129 =>
  X62 (w64 (s61 + 1)) h129))))))))))))))))))) (
  LoopT (σ := Int) (fun X131 s130 h132 => -- s130: t192
  cnd (decide (s130 < 8)) (
  inB 8 s130 (
  ldI .u32 (a1.add (s130.toNat * 1)) h132 fun n133 =>
  inB 8 s130 (
  ldI .u32 (a51.add (s130.toNat * 1)) h132 fun n134 =>
  inB 8 s130 (
  stC (a1.add (s130.toNat * 1)) (.int .u32 (IntKind.u32.wrap (n133 + n134))) h132 fun h135 =>
  X131 (w64 (s130 + 1)) h135)))) (
  ldI .u32 a1 h132 fun n136 =>
  ldI .u32 (a1.add 1) h132 fun n137 =>
  ldI .u32 (a1.add 2) h132 fun n138 =>
  ldI .u32 (a1.add 3) h132 fun n139 =>
  ldI .u32 (a1.add 4) h132 fun n140 =>
  ldI .u32 (a1.add 5) h132 fun n141 =>
  ldI .u32 (a1.add 6) h132 fun n142 =>
  ldI .u32 (a1.add 7) h132 fun n143 =>
  stC a3 (.int .u32 n136) h132 fun h144 =>
  stC (a3.add 1) (.int .u32 n137) h144 fun h145 =>
  stC (a3.add 2) (.int .u32 n138) h145 fun h146 =>
  stC (a3.add 3) (.int .u32 n139) h146 fun h147 =>
  stC (a3.add 4) (.int .u32 n140) h147 fun h148 =>
  stC (a3.add 5) (.int .u32 n141) h148 fun h149 =>
  stC (a3.add 6) (.int .u32 n142) h149 fun h150 =>
  stC (a3.add 7) (.int .u32 n143) h150 fun h151 =>
  ldI .u32 a3 h151 fun n152 =>
  ldI .u32 (a3.add 1) h151 fun n153 =>
  ldI .u32 (a3.add 2) h151 fun n154 =>
  ldI .u32 (a3.add 3) h151 fun n155 =>
  ldI .u32 (a3.add 4) h151 fun n156 =>
  ldI .u32 (a3.add 5) h151 fun n157 =>
  ldI .u32 (a3.add 6) h151 fun n158 =>
  ldI .u32 (a3.add 7) h151 fun n159 =>
  R (n152, n153, n154, n155, n156, n157, n158, n159) h151)) 0 h63)) 0 h60)) 0 h6
theorem hash_shaBlock_eq (x_0 : Int × Int × Int × Int × Int × Int × Int × Int) (x_1 : Sl) (x_2 : Option Addr) (R : (Int × Int × Int × Int × Int × Int × Int × Int) → Heap → Prop) (h : Heap) : fnX Try.prog Fns.fns Try.f29 (.s .n (.s .n (.s .n (.s (.s .n (.b (.l [(19, .int .i64)] (.s .n (.s (.s .n .n) (.j [] (.b (.s .n (.s (.s .n (.s (.s .n .n) .n)) (.s .n .n)))) .n)))))) (.s .n (.s (.s .n (.b (.l [(102, .int .i64)] (.s .n (.s (.s .n .n) (.s (.b (.s .n (.s .n (.s .n (.s .n .n))))) .n)))))) (.s (.s .n (.b (.l [(192, .int .i64)] (.s .n (.s (.s .n .n) (.s (.b (.s .n .n)) .n)))))) (.s .n .n)))))))) [.agg [.int .u32, .int .u32, .int .u32, .int .u32, .int .u32, .int .u32, .int .u32, .int .u32]] [.agg #[.int .u32 x_0.1, .int .u32 x_0.2.1, .int .u32 x_0.2.2.1, .int .u32 x_0.2.2.2.1, .int .u32 x_0.2.2.2.2.1, .int .u32 x_0.2.2.2.2.2.1, .int .u32 x_0.2.2.2.2.2.2.1, .int .u32 x_0.2.2.2.2.2.2.2], .slice x_1.a x_1.len x_1.cap, .pointer x_2] h R = hash_shaBlock x_0 x_1 x_2 R h := by kernel_rfl
theorem hash_shaBlock_call (x_0 : Int × Int × Int × Int × Int × Int × Int × Int) (x_1 : Sl) (x_2 : Option Addr) {R : (Int × Int × Int × Int × Int × Int × Int × Int) → Heap → Prop} {h : Heap} (hx : hash_shaBlock x_0 x_1 x_2 R h) : CallT Try.prog 29 [.agg #[.int .u32 x_0.1, .int .u32 x_0.2.1, .int .u32 x_0.2.2.1, .int .u32 x_0.2.2.2.1, .int .u32 x_0.2.2.2.2.1, .int .u32 x_0.2.2.2.2.2.1, .int .u32 x_0.2.2.2.2.2.2.1, .int .u32 x_0.2.2.2.2.2.2.2], .slice x_1.a x_1.len x_1.cap, .pointer x_2] h [.agg [.int .u32, .int .u32, .int .u32, .int .u32, .int .u32, .int .u32, .int .u32, .int .u32]] R :=
  call_of_fnX fnsOk mixed Try.func29 (by kernel_rfl) (by rw [hash_shaBlock_eq]; exact hx)

/-- stowage/hash.mdTurn (35) -/
def hash_mdTurn (i_0 : Int) (R : Int → Heap → Prop) (h : Heap) : Prop :=
  cnd ((w64 (i_0.tdiv 16)) == 0) (
  inB 4 (i_0.tmod 4) (aidxI .i64 [.int .i64 7, .int .i64 12, .int .i64 17, .int .i64 22] (i_0.tmod 4) fun v1 =>
  R v1 h)) (
  cnd ((w64 (i_0.tdiv 16)) == 1) (
  inB 4 (i_0.tmod 4) (aidxI .i64 [.int .i64 5, .int .i64 9, .int .i64 14, .int .i64 20] (i_0.tmod 4) fun v2 =>
  R v2 h)) (
  cnd ((w64 (i_0.tdiv 16)) == 2) (
  inB 4 (i_0.tmod 4) (aidxI .i64 [.int .i64 4, .int .i64 11, .int .i64 16, .int .i64 23] (i_0.tmod 4) fun v3 =>
  R v3 h)) (
  inB 4 (i_0.tmod 4) (aidxI .i64 [.int .i64 6, .int .i64 10, .int .i64 15, .int .i64 21] (i_0.tmod 4) fun v4 =>
  R v4 h))))
theorem hash_mdTurn_eq (i_0 : Int) (R : Int → Heap → Prop) (h : Heap) : fnX Try.prog Fns.fns Try.f35 (.s .n (.s (.s .n (.b (.s .n (.s (.s .n .n) (.s .n (.s (.s .n .n) (.s .n (.s (.s .n .n) .n)))))))) (.s .n .n))) [.sc (.int .i64)] [.int .i64 i_0] h R = hash_mdTurn i_0 R h := by kernel_rfl
theorem hash_mdTurn_call (i_0 : Int) {R : Int → Heap → Prop} {h : Heap} (hx : hash_mdTurn i_0 R h) : CallT Try.prog 35 [.int .i64 i_0] h [.sc (.int .i64)] R :=
  call_of_fnX fnsOk mixed Try.func35 (by kernel_rfl) (by rw [hash_mdTurn_eq]; exact hx)

/-- stowage/hash.shaBlock$1 (36) -/
def hash_shaBlock_1 (x_0 : Int) (n_1 : Int) (R : Int → Heap → Prop) (h : Heap) : Prop :=
  CallT Try.prog math_bits_RotateLeft32_no [.int .u32 x_0, .int .i64 (w64 (0 - n_1))] h [.sc (.int .u32)] fun (r1 : Int) h2 =>
  R r1 h2
theorem hash_shaBlock_1_eq (x_0 : Int) (n_1 : Int) (R : Int → Heap → Prop) (h : Heap) : fnX Try.prog Fns.fns Try.f36 (.s .n (.s .n .n)) [.sc (.int .u32)] [.int .u32 x_0, .int .i64 n_1] h R = hash_shaBlock_1 x_0 n_1 R h := by kernel_rfl
theorem hash_shaBlock_1_call (x_0 : Int) (n_1 : Int) {R : Int → Heap → Prop} {h : Heap} (hx : hash_shaBlock_1 x_0 n_1 R h) : CallT Try.prog 36 [.int .u32 x_0, .int .i64 n_1] h [.sc (.int .u32)] R :=
  call_of_fnX fnsOk mixed Try.func36 (by kernel_rfl) (by rw [hash_shaBlock_1_eq]; exact hx)

/-- math/bits.RotateLeft32 (34) -/
def math_bits_RotateLeft32 (x_0 : Int) (k_1 : Int) (R : Int → Heap → Prop) (h : Heap) : Prop :=
  geZ (andI .u64 (IntKind.u64.wrap (k_1)) 31) (
  geZ (IntKind.u64.wrap (32 - (andI .u64 (IntKind.u64.wrap (k_1)) 31))) (
  R (orI .u32 (shlI .u32 x_0 (andI .u64 (IntKind.u64.wrap (k_1)) 31)) (shrI .u32 x_0 (IntKind.u64.wrap (32 - (andI .u64 (IntKind.u64.wrap (k_1)) 31))))) h))
theorem math_bits_RotateLeft32_eq (x_0 : Int) (k_1 : Int) (R : Int → Heap → Prop) (h : Heap) : fnX Try.prog Fns.fns Try.f34 (.s .n (.s .n (.s .n .n))) [.sc (.int .u32)] [.int .u32 x_0, .int .i64 k_1] h R = math_bits_RotateLeft32 x_0 k_1 R h := by kernel_rfl
theorem math_bits_RotateLeft32_call (x_0 : Int) (k_1 : Int) {R : Int → Heap → Prop} {h : Heap} (hx : math_bits_RotateLeft32 x_0 k_1 R h) : CallT Try.prog 34 [.int .u32 x_0, .int .i64 k_1] h [.sc (.int .u32)] R :=
  call_of_fnX fnsOk mixed Try.func34 (by kernel_rfl) (by rw [math_bits_RotateLeft32_eq]; exact hx)

/-- stowage/enc.Hex (32) -/
def enc_Hex (b_0 : Sl) (R : ByteArray → Heap → Prop) (h : Heap) : Prop :=
  mkSl [.int .u8 0] 5 1 0 (w64 (2 * (b_0.len : Int))) h fun a1 h2 =>
  LoopT (σ := Sl × Int) (fun X4 s3 h5 => -- s3: out, t12
  cnd (decide (s3.2 < (b_0.len : Int))) (
  idx b_0.a b_0.len s3.2 fun a6 =>
  ldI .u8 (a6.add (s3.2.toNat * 1)) h5 fun n7 =>
  sidx (⟨#[48, 49, 50, 51, 52, 53, 54, 55, 56, 57, 97, 98, 99, 100, 101, 102]⟩ : ByteArray) (shrI .u8 n7 4) fun u8 =>
  sidx (⟨#[48, 49, 50, 51, 52, 53, 54, 55, 56, 57, 97, 98, 99, 100, 101, 102]⟩ : ByteArray) (andI .u8 n7 15) fun u9 =>
  newB [.int .u8 (u8.toNat : Int), .int .u8 (u9.toNat : Int)] 5 h5 fun a10 h11 =>
  ldRow (2 * 1) a10 h11 fun cs15 =>
  app [.int .u8 0] 5 1 1 s3.1.a s3.1.len s3.1.cap cs15 2 h11 fun o12 c13 h14 =>
  X4 ((⟨o12, (s3.1.len + 2), c13⟩ : Sl), (w64 (s3.2 + 1))) h14) (
  b2s s3.1.a s3.1.len h5 fun s16 =>
  R s16 h5)) ((⟨(some a1), (0 : Int).toNat, (w64 (2 * (b_0.len : Int))).toNat⟩ : Sl), 0) h2
theorem enc_Hex_eq (b_0 : Sl) (R : ByteArray → Heap → Prop) (h : Heap) : fnX Try.prog Fns.fns Try.f32 (.s .n (.s .n (.s (.s .n (.b (.l [(3, .sl), (12, .int .i64)] (.s .n (.s (.s .n .n) (.s (.b (.s .n .n)) .n)))))) (.s .n .n)))) [.sc (.str)] [.slice b_0.a b_0.len b_0.cap] h R = enc_Hex b_0 R h := by kernel_rfl
theorem enc_Hex_call (b_0 : Sl) {R : ByteArray → Heap → Prop} {h : Heap} (hx : enc_Hex b_0 R h) : CallT Try.prog 32 [.slice b_0.a b_0.len b_0.cap] h [.sc (.str)] R :=
  call_of_fnX fnsOk mixed Try.func32 (by kernel_rfl) (by rw [enc_Hex_eq]; exact hx)

end Go.Proofs.Ytecfcodildjnnaa
