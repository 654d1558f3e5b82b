/- Go functions as short texts over the heap, and that each is what the loaded function comes to (the kernel compares them); written by a program. -/
import Derived.Test.YtncffbocmpmejaaDoorGBase
set_option linter.unusedVariables false
set_option maxRecDepth 100000
namespace Go.Proofs.YtncffbocmpmejaaDoor
open Go D
/-- stowage/stowageref2.SHA256 (49) -/
def ref2_SHA256 (x_0 : Sl) (R : Sl → Heap → Prop) (h : Heap) : Prop :=
  newB [.int .u32 1779033703, .int .u32 3144134277, .int .u32 1013904242, .int .u32 2773480762, .int .u32 1359893119, .int .u32 2600822924, .int .u32 528734635, .int .u32 1541459225] 85 h fun a1 h2 =>
  CallT Tryd.prog ref2_roots_no [] h2 [.sc (.sl)] fun (r3 : Sl) h4 =>
  CallT Tryd.prog ref2_padded_no [.slice x_0.a x_0.len x_0.cap, .bool true] h4 [.sc (.sl)] fun (r5 : Sl) h6 =>
  LoopT (σ := Int) (fun X8 s7 h9 => -- s7: t6
  cnd (decide (s7 < (r5.len : Int))) (
  lsl 1 r5.a r5.cap s7 (w64 (s7 + 64)) (r5.cap : Int) fun o10 l10 c10 =>
  CallT Tryd.prog ref2_schedule_no [.slice o10 l10 c10] h9 [.sc (.sl)] fun (r11 : Sl) h12 =>
  idx (some a1) 8 0 fun a13 =>
  ldI .u32 (a13.add ((0 : Int).toNat * 1)) h12 fun n14 =>
  idx (some a1) 8 1 fun a15 =>
  ldI .u32 (a15.add ((1 : Int).toNat * 1)) h12 fun n16 =>
  idx (some a1) 8 2 fun a17 =>
  ldI .u32 (a17.add ((2 : Int).toNat * 1)) h12 fun n18 =>
  idx (some a1) 8 3 fun a19 =>
  ldI .u32 (a19.add ((3 : Int).toNat * 1)) h12 fun n20 =>
  idx (some a1) 8 4 fun a21 =>
  ldI .u32 (a21.add ((4 : Int).toNat * 1)) h12 fun n22 =>
  idx (some a1) 8 5 fun a23 =>
  ldI .u32 (a23.add ((5 : Int).toNat * 1)) h12 fun n24 =>
  idx (some a1) 8 6 fun a25 =>
  ldI .u32 (a25.add ((6 : Int).toNat * 1)) h12 fun n26 =>
  idx (some a1) 8 7 fun a27 =>
  ldI .u32 (a27.add ((7 : Int).toNat * 1)) h12 fun n28 =>
  newB [.int .u32 n14, .int .u32 n16, .int .u32 n18, .int .u32 n20, .int .u32 n22, .int .u32 n24, .int .u32 n26, .int .u32 n28] 85 h12 fun a29 h30 =>
  LoopT (σ := Sl × Int) (fun X32 s31 h33 => -- s31: t8, t9
  cnd (decide (s31.2 < 64)) (
  idx s31.1.a s31.1.len 4 fun a34 =>
  ldI .u32 (a34.add ((4 : Int).toNat * 1)) h33 fun n35 =>
  idx s31.1.a s31.1.len 4 fun a36 =>
  ldI .u32 (a36.add ((4 : Int).toNat * 1)) h33 fun n37 =>
  idx s31.1.a s31.1.len 4 fun a38 =>
  ldI .u32 (a38.add ((4 : Int).toNat * 1)) h33 fun n39 =>
  CallT Tryd.prog ref2_left_no [.int .u32 n35, .int .i64 26] h33 [.sc (.int .u32)] fun (r40 : Int) h41 =>
  (ldI .u32 (a38.add ((4 : Int).toNat * 1)) h41 fun n42 =>
  (.int .u32 n42 : Value) = .int .u32 n39) ∧
  (ldI .u32 (a36.add ((4 : Int).toNat * 1)) h41 fun n43 =>
  (.int .u32 n43 : Value) = .int .u32 n37) ∧
  CallT Tryd.prog ref2_left_no [.int .u32 n37, .int .i64 21] h41 [.sc (.int .u32)] fun (r44 : Int) h45 =>
  (ldI .u32 (a38.add ((4 : Int).toNat * 1)) h45 fun n46 =>
  (.int .u32 n46 : Value) = .int .u32 n39) ∧
  CallT Tryd.prog ref2_left_no [.int .u32 n39, .int .i64 7] h45 [.sc (.int .u32)] fun (r47 : Int) h48 =>
  idx s31.1.a s31.1.len 4 fun a49 =>
  ldI .u32 (a49.add ((4 : Int).toNat * 1)) h48 fun n50 =>
  idx s31.1.a s31.1.len 5 fun a51 =>
  ldI .u32 (a51.add ((5 : Int).toNat * 1)) h48 fun n52 =>
  idx s31.1.a s31.1.len 4 fun a53 =>
  ldI .u32 (a53.add ((4 : Int).toNat * 1)) h48 fun n54 =>
  idx s31.1.a s31.1.len 6 fun a55 =>
  ldI .u32 (a55.add ((6 : Int).toNat * 1)) h48 fun n56 =>
  idx s31.1.a s31.1.len 7 fun a57 =>
  ldI .u32 (a57.add ((7 : Int).toNat * 1)) h48 fun n58 =>
  idx r3.a r3.len s31.2 fun a59 =>
  ldI .u32 (a59.add (s31.2.toNat * 1)) h48 fun n60 =>
  idx r11.a r11.len s31.2 fun a61 =>
  ldI .u32 (a61.add (s31.2.toNat * 1)) h48 fun n62 =>
  idx s31.1.a s31.1.len 0 fun a63 =>
  ldI .u32 (a63.add ((0 : Int).toNat * 1)) h48 fun n64 =>
  idx s31.1.a s31.1.len 0 fun a65 =>
  ldI .u32 (a65.add ((0 : Int).toNat * 1)) h48 fun n66 =>
  idx s31.1.a s31.1.len 0 fun a67 =>
  ldI .u32 (a67.add ((0 : Int).toNat * 1)) h48 fun n68 =>
  CallT Tryd.prog ref2_left_no [.int .u32 n64, .int .i64 30] h48 [.sc (.int .u32)] fun (r69 : Int) h70 =>
  (ldI .u32 (a67.add ((0 : Int).toNat * 1)) h70 fun n71 =>
  (.int .u32 n71 : Value) = .int .u32 n68) ∧
  (ldI .u32 (a65.add ((0 : Int).toNat * 1)) h70 fun n72 =>
  (.int .u32 n72 : Value) = .int .u32 n66) ∧
  CallT Tryd.prog ref2_left_no [.int .u32 n66, .int .i64 19] h70 [.sc (.int .u32)] fun (r73 : Int) h74 =>
  (ldI .u32 (a67.add ((0 : Int).toNat * 1)) h74 fun n75 =>
  (.int .u32 n75 : Value) = .int .u32 n68) ∧
  CallT Tryd.prog ref2_left_no [.int .u32 n68, .int .i64 10] h74 [.sc (.int .u32)] fun (r76 : Int) h77 =>
  idx s31.1.a s31.1.len 0 fun a78 =>
  ldI .u32 (a78.add ((0 : Int).toNat * 1)) h77 fun n79 =>
  idx s31.1.a s31.1.len 1 fun a80 =>
  ldI .u32 (a80.add ((1 : Int).toNat * 1)) h77 fun n81 =>
  idx s31.1.a s31.1.len 0 fun a82 =>
  ldI .u32 (a82.add ((0 : Int).toNat * 1)) h77 fun n83 =>
  idx s31.1.a s31.1.len 2 fun a84 =>
  ldI .u32 (a84.add ((2 : Int).toNat * 1)) h77 fun n85 =>
  idx s31.1.a s31.1.len 1 fun a86 =>
  ldI .u32 (a86.add ((1 : Int).toNat * 1)) h77 fun n87 =>
  idx s31.1.a s31.1.len 2 fun a88 =>
  ldI .u32 (a88.add ((2 : Int).toNat * 1)) h77 fun n89 =>
  idx s31.1.a s31.1.len 0 fun a90 =>
  ldI .u32 (a90.add ((0 : Int).toNat * 1)) h77 fun n91 =>
  idx s31.1.a s31.1.len 1 fun a92 =>
  ldI .u32 (a92.add ((1 : Int).toNat * 1)) h77 fun n93 =>
  idx s31.1.a s31.1.len 2 fun a94 =>
  ldI .u32 (a94.add ((2 : Int).toNat * 1)) h77 fun n95 =>
  idx s31.1.a s31.1.len 3 fun a96 =>
  ldI .u32 (a96.add ((3 : Int).toNat * 1)) h77 fun n97 =>
  idx s31.1.a s31.1.len 4 fun a98 =>
  ldI .u32 (a98.add ((4 : Int).toNat * 1)) h77 fun n99 =>
  idx s31.1.a s31.1.len 5 fun a100 =>
  ldI .u32 (a100.add ((5 : Int).toNat * 1)) h77 fun n101 =>
  idx s31.1.a s31.1.len 6 fun a102 =>
  ldI .u32 (a102.add ((6 : Int).toNat * 1)) h77 fun n103 =>
  newB [.int .u32 (IntKind.u32.wrap ((IntKind.u32.wrap ((IntKind.u32.wrap ((IntKind.u32.wrap ((IntKind.u32.wrap (n58 + (xorI .u32 (xorI .u32 r40 r44) r47))) + (xorI .u32 (andI .u32 n50 n52) (andI .u32 (xorI .u32 IntKind.u32.max n54) n56)))) + n60)) + n62)) + (IntKind.u32.wrap ((xorI .u32 (xorI .u32 r69 r73) r76) + (xorI .u32 (xorI .u32 (andI .u32 n79 n81) (andI .u32 n83 n85)) (andI .u32 n87 n89)))))), .int .u32 n91, .int .u32 n93, .int .u32 n95, .int .u32 (IntKind.u32.wrap (n97 + (IntKind.u32.wrap ((IntKind.u32.wrap ((IntKind.u32.wrap ((IntKind.u32.wrap (n58 + (xorI .u32 (xorI .u32 r40 r44) r47))) + (xorI .u32 (andI .u32 n50 n52) (andI .u32 (xorI .u32 IntKind.u32.max n54) n56)))) + n60)) + n62)))), .int .u32 n99, .int .u32 n101, .int .u32 n103] 85 h77 fun a104 h105 =>
  X32 ((⟨(some a104), 8, 8⟩ : Sl), (w64 (s31.2 + 1))) h105) (
  LoopT (σ := Int) (fun X107 s106 h108 => -- s106: t15
  cnd (decide (s106 < 8)) (
  idx (some a1) 8 s106 fun a109 =>
  ldI .u32 (a109.add (s106.toNat * 1)) h108 fun n110 =>
  idx s31.1.a s31.1.len s106 fun a111 =>
  ldI .u32 (a111.add (s106.toNat * 1)) h108 fun n112 =>
  idx (some a1) 8 s106 fun a113 =>
  stC (a113.add (s106.toNat * 1)) (.int .u32 (IntKind.u32.wrap (n110 + n112))) h108 fun h114 =>
  X107 (w64 (s106 + 1)) h114) (
  X8 (w64 (s7 + 64)) h108)) 0 h33)) ((⟨(some a29), 8, 8⟩ : Sl), 0) h30) (
  LoopT (σ := Sl × Int) (fun X116 s115 h117 => -- s115: t16, t17
  cnd (decide (s115.2 < 8)) (
  idx (some a1) 8 s115.2 fun a118 =>
  ldI .u32 (a118.add (s115.2.toNat * 1)) h117 fun n119 =>
  idx (some a1) 8 s115.2 fun a120 =>
  ldI .u32 (a120.add (s115.2.toNat * 1)) h117 fun n121 =>
  idx (some a1) 8 s115.2 fun a122 =>
  ldI .u32 (a122.add (s115.2.toNat * 1)) h117 fun n123 =>
  idx (some a1) 8 s115.2 fun a124 =>
  ldI .u32 (a124.add (s115.2.toNat * 1)) h117 fun n125 =>
  newB [.int .u8 (IntKind.u8.wrap ((shrI .u32 n119 24))), .int .u8 (IntKind.u8.wrap ((shrI .u32 n121 16))), .int .u8 (IntKind.u8.wrap ((shrI .u32 n123 8))), .int .u8 (IntKind.u8.wrap (n125))] 5 h117 fun a126 h127 =>
  ldRow (4 * 1) a126 h127 fun cs131 =>
  app [.int .u8 0] 5 1 1 s115.1.a s115.1.len s115.1.cap cs131 4 h127 fun o128 c129 h130 =>
  X116 ((⟨o128, (s115.1.len + 4), c129⟩ : Sl), (w64 (s115.2 + 1))) h130) (
  R s115.1 h117)) ((⟨none, 0, 0⟩ : Sl), 0) h9)) 0 h6
theorem ref2_SHA256_eq (x_0 : Sl) (R : Sl → Heap → Prop) (h : Heap) : fnX Tryd.prog Fns.fns Tryd.f49 (.s .n (.s .n (.s .n (.s .n (.s (.s .n (.b (.l [(6, .int .i64)] (.s (.s .n (.s .n .n)) (.s (.b (.s .n (.s .n (.s (.s .n (.b (.l [(8, .sl), (9, .int .i64)] (.s (.s .n (.s .n .n)) (.s (.b (.s .n (.s .n (.s .n (.s .n (.s .n .n)))))) .n))))) (.s .n (.b (.l [(15, .int .i64)] (.s (.s .n (.s .n .n)) (.s (.b .n) .n))))))))) .n))))) (.s .n (.s (.s .n (.b (.l [(16, .sl), (17, .int .i64)] (.s (.s .n (.s .n .n)) (.s (.b .n) .n))))) (.s .n .n)))))))) [.sc (.sl)] [.slice x_0.a x_0.len x_0.cap] h R = ref2_SHA256 x_0 R h := by kernel_rfl
theorem ref2_SHA256_call (x_0 : Sl) {R : Sl → Heap → Prop} {h : Heap} (hx : ref2_SHA256 x_0 R h) : CallT Tryd.prog 49 [.slice x_0.a x_0.len x_0.cap] h [.sc (.sl)] R :=
  call_of_fnX fnsOk mixed Tryd.func49 (by kernel_rfl) (by rw [ref2_SHA256_eq]; exact hx)

/-- stowage/stowageref2.HMAC (29) -/
def ref2_HMAC (key_0 : Sl) (b_1 : Sl) (R : Sl → Heap → Prop) (h : Heap) : Prop :=
  withJ (σ := Sl) (fun s1 h3 => -- s1: k
  LoopT (σ := Sl × Sl × Int) (fun X5 s4 h6 => -- s4: in, out, i
  cnd (decide (s4.2.2 < 64)) (
  withJ (σ := Sl × Sl) (fun s7 h9 => -- s7: in, out
  X5 (s7.1, s7.2, (w64 (s4.2.2 + 1))) h9) (fun J8 =>
  withJ (σ := Int) (fun s10 h12 => -- s10: x
  newB [.int .u8 (xorI .u8 s10 54)] 5 h12 fun a13 h14 =>
  ldRow (1 * 1) a13 h14 fun cs18 =>
  app [.int .u8 0] 5 1 1 s4.1.a s4.1.len s4.1.cap cs18 1 h14 fun o15 c16 h17 =>
  newB [.int .u8 (xorI .u8 s10 92)] 5 h17 fun a19 h20 =>
  ldRow (1 * 1) a19 h20 fun cs24 =>
  app [.int .u8 0] 5 1 1 s4.2.1.a s4.2.1.len s4.2.1.cap cs24 1 h20 fun o21 c22 h23 =>
  J8 ((⟨o15, (s4.1.len + 1), c16⟩ : Sl), (⟨o21, (s4.2.1.len + 1), c22⟩ : Sl)) h23) (fun J11 =>
  cnd (decide (s4.2.2 < (s1.len : Int))) (
  idx s1.a s1.len s4.2.2 fun a25 =>
  ldI .u8 (a25.add (s4.2.2.toNat * 1)) h6 fun n26 =>
  J11 n26 h6) (
  J11 0 h6)))) (
  rdCells b_1.a (b_1.len * 1) h6 fun cs30 =>
  app [.int .u8 0] 5 1 1 s4.1.a s4.1.len s4.1.cap cs30 b_1.len h6 fun o27 c28 h29 =>
  CallT Tryd.prog ref2_SHA256_no [.slice o27 (s4.1.len + b_1.len) c28] h29 [.sc (.sl)] fun (r31 : Sl) h32 =>
  rdCells r31.a (r31.len * 1) h32 fun cs36 =>
  app [.int .u8 0] 5 1 1 s4.2.1.a s4.2.1.len s4.2.1.cap cs36 r31.len h32 fun o33 c34 h35 =>
  CallT Tryd.prog ref2_SHA256_no [.slice o33 (s4.2.1.len + r31.len) c34] h35 [.sc (.sl)] fun (r37 : Sl) h38 =>
  R r37 h38)) ((⟨none, 0, 0⟩ : Sl), (⟨none, 0, 0⟩ : Sl), 0) h3) (fun J2 =>
  cnd (decide ((key_0.len : Int) > 64)) (
  CallT Tryd.prog ref2_SHA256_no [.slice key_0.a key_0.len key_0.cap] h [.sc (.sl)] fun (r39 : Sl) h40 =>
  J2 r39 h40) (
  J2 key_0 h))
theorem ref2_HMAC_eq (key_0 : Sl) (b_1 : Sl) (R : Sl → Heap → Prop) (h : Heap) : fnX Tryd.prog Fns.fns Tryd.f29 (.s .n (.s .n (.j [(5, .sl)] (.s .n (.s .n .n)) (.s .n (.s (.s .n (.b (.l [(6, .sl), (7, .sl), (8, .int .i64)] (.s (.s .n (.s .n .n)) (.j [(6, .sl), (7, .sl)] (.b (.s .n (.j [(9, .int .u8)] (.s .n (.s .n .n)) (.s .n .n)))) .n))))) (.s .n .n)))))) [.sc (.sl)] [.slice key_0.a key_0.len key_0.cap, .slice b_1.a b_1.len b_1.cap] h R = ref2_HMAC key_0 b_1 R h := by kernel_rfl
theorem ref2_HMAC_call (key_0 : Sl) (b_1 : Sl) {R : Sl → Heap → Prop} {h : Heap} (hx : ref2_HMAC key_0 b_1 R h) : CallT Tryd.prog 29 [.slice key_0.a key_0.len key_0.cap, .slice b_1.a b_1.len b_1.cap] h [.sc (.sl)] R :=
  call_of_fnX fnsOk mixed Tryd.func29 (by kernel_rfl) (by rw [ref2_HMAC_eq]; exact hx)

/-- stowage/stowageref2.padded (63) -/
def ref2_padded (b_0 : Sl) (high_1 : Bool) (R : Sl → Heap → Prop) (h : Heap) : Prop :=
  rdCells b_0.a (b_0.len * 1) h fun cs4 =>
  app [.int .u8 0] 5 1 1 none 0 0 cs4 b_0.len h fun o1 c2 h3 =>
  newB [.int .u8 128] 5 h3 fun a5 h6 =>
  ldRow (1 * 1) a5 h6 fun cs10 =>
  app [.int .u8 0] 5 1 1 o1 (0 + b_0.len) c2 cs10 1 h6 fun o7 c8 h9 =>
  LoopT (σ := Sl) (fun X12 s11 h13 => -- s11: out
  cnd (((s11.len : Int).tmod 64) != 56) (
  newB [.int .u8 0] 5 h13 fun a14 h15 =>
  ldRow (1 * 1) a14 h15 fun cs19 =>
  app [.int .u8 0] 5 1 1 s11.a s11.len s11.cap cs19 1 h15 fun o16 c17 h18 =>
  X12 (⟨o16, (s11.len + 1), c17⟩ : Sl) h18) (
  LoopT (σ := Sl × Int) (fun X21 s20 h22 => -- s20: out, i
  cnd (decide (s20.2 < 8)) (
  withJ (σ := Sl) (fun s23 h25 => -- s23: out
  X21 (s23, (w64 (s20.2 + 1))) h25) (fun J24 =>
  withJ (σ := Int) (fun s26 h28 => -- s26: k
  geZ s26 (
  newB [.int .u8 (IntKind.u8.wrap ((shrI .u64 (IntKind.u64.wrap ((IntKind.u64.wrap ((b_0.len : Int))) * 8)) s26)))] 5 h28 fun a29 h30 =>
  ldRow (1 * 1) a29 h30 fun cs34 =>
  app [.int .u8 0] 5 1 1 s20.1.a s20.1.len s20.1.cap cs34 1 h30 fun o31 c32 h33 =>
  J24 (⟨o31, (s20.1.len + 1), c32⟩ : Sl) h33)) (fun J27 =>
  cnd high_1 (
  J27 (w64 (56 - (w64 (8 * s20.2)))) h22) (
  J27 (w64 (8 * s20.2)) h22)))) (
  R s20.1 h22)) (s11, 0) h13)) (⟨o7, ((0 + b_0.len) + 1), c8⟩ : Sl) h9
theorem ref2_padded_eq (b_0 : Sl) (high_1 : Bool) (R : Sl → Heap → Prop) (h : Heap) : fnX Tryd.prog Fns.fns Tryd.f63 (.s .n (.s .n (.s .n (.s .n (.s (.b (.l [(5, .sl)] (.s (.s .n (.s .n .n)) (.b .n)))) (.s .n (.s (.s .n (.b (.l [(5, .sl), (7, .int .i64)] (.s (.s .n (.s .n .n)) (.j [(5, .sl)] (.b (.s .n (.j [(8, .int .i64)] (.s .n (.s .n .n)) .n))) .n))))) (.s .n .n)))))))) [.sc (.sl)] [.slice b_0.a b_0.len b_0.cap, .bool high_1] h R = ref2_padded b_0 high_1 R h := by kernel_rfl
theorem ref2_padded_call (b_0 : Sl) (high_1 : Bool) {R : Sl → Heap → Prop} {h : Heap} (hx : ref2_padded b_0 high_1 R h) : CallT Tryd.prog 63 [.slice b_0.a b_0.len b_0.cap, .bool high_1] h [.sc (.sl)] R :=
  call_of_fnX fnsOk mixed Tryd.func63 (by kernel_rfl) (by rw [ref2_padded_eq]; exact hx)

/-- stowage/stowageref2.left (65) -/
def ref2_left (x_0 : Int) (n_1 : Int) (R : Int → Heap → Prop) (h : Heap) : Prop :=
  geZ n_1 (
  geZ (w64 (32 - n_1)) (
  R (orI .u32 (shlI .u32 x_0 n_1) (shrI .u32 x_0 (w64 (32 - n_1)))) h))
theorem ref2_left_eq (x_0 : Int) (n_1 : Int) (R : Int → Heap → Prop) (h : Heap) : fnX Tryd.prog Fns.fns Tryd.f65 (.s .n (.s .n .n)) [.sc (.int .u32)] [.int .u32 x_0, .int .i64 n_1] h R = ref2_left x_0 n_1 R h := by kernel_rfl
theorem ref2_left_call (x_0 : Int) (n_1 : Int) {R : Int → Heap → Prop} {h : Heap} (hx : ref2_left x_0 n_1 R h) : CallT Tryd.prog 65 [.int .u32 x_0, .int .i64 n_1] h [.sc (.int .u32)] R :=
  call_of_fnX fnsOk mixed Tryd.func65 (by kernel_rfl) (by rw [ref2_left_eq]; exact hx)

/-- stowage/stowageref2.roots (62) -/
def ref2_roots (R : Sl → Heap → Prop) (h : Heap) : Prop :=
  newB [.int .u32 1116352408, .int .u32 1899447441, .int .u32 3049323471, .int .u32 3921009573, .int .u32 961987163, .int .u32 1508970993, .int .u32 2453635748, .int .u32 2870763221, .int .u32 3624381080, .int .u32 310598401, .int .u32 607225278, .int .u32 1426881987, .int .u32 1925078388, .int .u32 2162078206, .int .u32 2614888103, .int .u32 3248222580, .int .u32 3835390401, .int .u32 4022224774, .int .u32 264347078, .int .u32 604807628, .int .u32 770255983, .int .u32 1249150122, .int .u32 1555081692, .int .u32 1996064986, .int .u32 2554220882, .int .u32 2821834349, .int .u32 2952996808, .int .u32 3210313671, .int .u32 3336571891, .int .u32 3584528711, .int .u32 113926993, .int .u32 338241895, .int .u32 666307205, .int .u32 773529912, .int .u32 1294757372, .int .u32 1396182291, .int .u32 1695183700, .int .u32 1986661051, .int .u32 2177026350, .int .u32 2456956037, .int .u32 2730485921, .int .u32 2820302411, .int .u32 3259730800, .int .u32 3345764771, .int .u32 3516065817, .int .u32 3600352804, .int .u32 4094571909, .int .u32 275423344, .int .u32 430227734, .int .u32 506948616, .int .u32 659060556, .int .u32 883997877, .int .u32 958139571, .int .u32 1322822218, .int .u32 1537002063, .int .u32 1747873779, .int .u32 1955562222, .int .u32 2024104815, .int .u32 2227730452, .int .u32 2361852424, .int .u32 2428436474, .int .u32 2756734187, .int .u32 3204031479, .int .u32 3329325298] 85 h fun a1 h2 =>
  R (⟨(some a1), 64, 64⟩ : Sl) h2
theorem ref2_roots_eq (R : Sl → Heap → Prop) (h : Heap) : fnX Tryd.prog Fns.fns Tryd.f62 (.s .n (.s .n .n)) [.sc (.sl)] [] h R = ref2_roots R h := by kernel_rfl
theorem ref2_roots_call {R : Sl → Heap → Prop} {h : Heap} (hx : ref2_roots R h) : CallT Tryd.prog 62 [] h [.sc (.sl)] R :=
  call_of_fnX fnsOk mixed Tryd.func62 (by kernel_rfl) (by rw [ref2_roots_eq]; exact hx)

/-- stowage/stowageref2.schedule (64) -/
def ref2_schedule (x_0 : Sl) (R : Sl → Heap → Prop) (h : Heap) : Prop :=
  LoopT (σ := Sl × Int) (fun X2 s1 h3 => -- s1: t3, t4
  cnd (decide (s1.2 < 16)) (
  idx x_0.a x_0.len (w64 (4 * s1.2)) fun a4 =>
  ldI .u8 (a4.add ((w64 (4 * s1.2)).toNat * 1)) h3 fun n5 =>
  idx x_0.a x_0.len (w64 ((w64 (4 * s1.2)) + 1)) fun a6 =>
  ldI .u8 (a6.add ((w64 ((w64 (4 * s1.2)) + 1)).toNat * 1)) h3 fun n7 =>
  idx x_0.a x_0.len (w64 ((w64 (4 * s1.2)) + 2)) fun a8 =>
  ldI .u8 (a8.add ((w64 ((w64 (4 * s1.2)) + 2)).toNat * 1)) h3 fun n9 =>
  idx x_0.a x_0.len (w64 ((w64 (4 * s1.2)) + 3)) fun a10 =>
  ldI .u8 (a10.add ((w64 ((w64 (4 * s1.2)) + 3)).toNat * 1)) h3 fun n11 =>
  newB [.int .u32 (IntKind.u32.wrap ((IntKind.u32.wrap ((IntKind.u32.wrap ((shlI .u32 (IntKind.u32.wrap (n5)) 24) + (shlI .u32 (IntKind.u32.wrap (n7)) 16))) + (shlI .u32 (IntKind.u32.wrap (n9)) 8))) + (IntKind.u32.wrap (n11))))] 85 h3 fun a12 h13 =>
  ldRow (1 * 1) a12 h13 fun cs17 =>
  app [.int .u32 0] 85 1 4 s1.1.a s1.1.len s1.1.cap cs17 1 h13 fun o14 c15 h16 =>
  X2 ((⟨o14, (s1.1.len + 1), c15⟩ : Sl), (w64 (s1.2 + 1))) h16) (
  LoopT (σ := Sl × Int) (fun X19 s18 h20 => -- s18: t3, t5
  cnd (decide (s18.2 < 64)) (
  idx s18.1.a s18.1.len (w64 (s18.2 - 15)) fun a21 =>
  ldI .u32 (a21.add ((w64 (s18.2 - 15)).toNat * 1)) h20 fun n22 =>
  idx s18.1.a s18.1.len (w64 (s18.2 - 15)) fun a23 =>
  ldI .u32 (a23.add ((w64 (s18.2 - 15)).toNat * 1)) h20 fun n24 =>
  idx s18.1.a s18.1.len (w64 (s18.2 - 15)) fun a25 =>
  ldI .u32 (a25.add ((w64 (s18.2 - 15)).toNat * 1)) h20 fun n26 =>
  CallT Tryd.prog ref2_left_no [.int .u32 n22, .int .i64 25] h20 [.sc (.int .u32)] fun (r27 : Int) h28 =>
  (ldI .u32 (a25.add ((w64 (s18.2 - 15)).toNat * 1)) h28 fun n29 =>
  (.int .u32 n29 : Value) = .int .u32 n26) ∧
  (ldI .u32 (a23.add ((w64 (s18.2 - 15)).toNat * 1)) h28 fun n30 =>
  (.int .u32 n30 : Value) = .int .u32 n24) ∧
  CallT Tryd.prog ref2_left_no [.int .u32 n24, .int .i64 14] h28 [.sc (.int .u32)] fun (r31 : Int) h32 =>
  (ldI .u32 (a25.add ((w64 (s18.2 - 15)).toNat * 1)) h32 fun n33 =>
  (.int .u32 n33 : Value) = .int .u32 n26) ∧
  idx s18.1.a s18.1.len (w64 (s18.2 - 2)) fun a34 =>
  ldI .u32 (a34.add ((w64 (s18.2 - 2)).toNat * 1)) h32 fun n35 =>
  idx s18.1.a s18.1.len (w64 (s18.2 - 2)) fun a36 =>
  ldI .u32 (a36.add ((w64 (s18.2 - 2)).toNat * 1)) h32 fun n37 =>
  idx s18.1.a s18.1.len (w64 (s18.2 - 2)) fun a38 =>
  ldI .u32 (a38.add ((w64 (s18.2 - 2)).toNat * 1)) h32 fun n39 =>
  CallT Tryd.prog ref2_left_no [.int .u32 n35, .int .i64 15] h32 [.sc (.int .u32)] fun (r40 : Int) h41 =>
  (ldI .u32 (a38.add ((w64 (s18.2 - 2)).toNat * 1)) h41 fun n42 =>
  (.int .u32 n42 : Value) = .int .u32 n39) ∧
  (ldI .u32 (a36.add ((w64 (s18.2 - 2)).toNat * 1)) h41 fun n43 =>
  (.int .u32 n43 : Value) = .int .u32 n37) ∧
  CallT Tryd.prog ref2_left_no [.int .u32 n37, .int .i64 13] h41 [.sc (.int .u32)] fun (r44 : Int) h45 =>
  (ldI .u32 (a38.add ((w64 (s18.2 - 2)).toNat * 1)) h45 fun n46 =>
  (.int .u32 n46 : Value) = .int .u32 n39) ∧
  idx s18.1.a s18.1.len (w64 (s18.2 - 16)) fun a47 =>
  ldI .u32 (a47.add ((w64 (s18.2 - 16)).toNat * 1)) h45 fun n48 =>
  idx s18.1.a s18.1.len (w64 (s18.2 - 7)) fun a49 =>
  ldI .u32 (a49.add ((w64 (s18.2 - 7)).toNat * 1)) h45 fun n50 =>
  newB [.int .u32 (IntKind.u32.wrap ((IntKind.u32.wrap ((IntKind.u32.wrap (n48 + (xorI .u32 (xorI .u32 r27 r31) (shrI .u32 n26 3)))) + n50)) + (xorI .u32 (xorI .u32 r40 r44) (shrI .u32 n39 10))))] 85 h45 fun a51 h52 =>
  ldRow (1 * 1) a51 h52 fun cs56 =>
  app [.int .u32 0] 85 1 4 s18.1.a s18.1.len s18.1.cap cs56 1 h52 fun o53 c54 h55 =>
  X19 ((⟨o53, (s18.1.len + 1), c54⟩ : Sl), (w64 (s18.2 + 1))) h55) (
  R s18.1 h20)) (s1.1, 16) h3)) ((⟨none, 0, 0⟩ : Sl), 0) h
theorem ref2_schedule_eq (x_0 : Sl) (R : Sl → Heap → Prop) (h : Heap) : fnX Tryd.prog Fns.fns Tryd.f64 (.s .n (.s .n (.s (.s .n (.b (.l [(3, .sl), (4, .int .i64)] (.s (.s .n (.s .n .n)) (.s (.b .n) .n))))) (.s (.s .n (.b (.l [(3, .sl), (5, .int .i64)] (.s (.s .n (.s .n .n)) (.s (.b (.s .n (.s .n .n))) .n))))) (.s .n .n))))) [.sc (.sl)] [.slice x_0.a x_0.len x_0.cap] h R = ref2_schedule x_0 R h := by kernel_rfl
theorem ref2_schedule_call (x_0 : Sl) {R : Sl → Heap → Prop} {h : Heap} (hx : ref2_schedule x_0 R h) : CallT Tryd.prog 64 [.slice x_0.a x_0.len x_0.cap] h [.sc (.sl)] R :=
  call_of_fnX fnsOk mixed Tryd.func64 (by kernel_rfl) (by rw [ref2_schedule_eq]; exact hx)

end Go.Proofs.YtncffbocmpmejaaDoor
