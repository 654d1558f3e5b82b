/- Go functions as short texts over the heap, and that each is what the loaded function comes to (the kernel compares them); written by a program. -/
import Derived.Test.YtncffbocmpmejaaDoorGBase
set_option linter.unusedVariables false
set_option maxRecDepth 100000
namespace Go.Proofs.YtncffbocmpmejaaDoor
open Go D
/-- stowage/hash.SHA256 (25) -/
def hash_SHA256 (b_0 : Sl) (R : Sl → Heap → Prop) (h : Heap) : Prop :=
  newB [.int .u32 0, .int .u32 0, .int .u32 0, .int .u32 0, .int .u32 0, .int .u32 0, .int .u32 0, .int .u32 0] 86 h fun a1 h2 =>
  stC a1 (.int .u32 1779033703) h2 fun h3 =>
  stC (a1.add 1) (.int .u32 3144134277) h3 fun h4 =>
  stC (a1.add 2) (.int .u32 1013904242) h4 fun h5 =>
  stC (a1.add 3) (.int .u32 2773480762) h5 fun h6 =>
  stC (a1.add 4) (.int .u32 1359893119) h6 fun h7 =>
  stC (a1.add 5) (.int .u32 2600822924) h7 fun h8 =>
  stC (a1.add 6) (.int .u32 528734635) h8 fun h9 =>
  stC (a1.add 7) (.int .u32 1541459225) h9 fun h10 =>
  CallT Tryd.prog hash_shaWords_no [] h10 [.sc (.raw)] fun (r11 : Value) h12 =>
  newB (List.replicate 64 (.int .u32 0 : Value)) 87 h12 fun a13 h14 =>
  agD r11 fun cs16 =>
  cs16.length = 64 ∧ stRow cs16 a13 h14 fun h15 =>
  CallT Tryd.prog hash_filled_no [.slice b_0.a b_0.len b_0.cap, .bool true] h15 [.sc (.sl)] fun (r17 : Sl) h18 =>
  LoopT (σ := Sl) (fun X20 s19 h21 => -- s19: b
  cnd (decide ((s19.len : Int) ≥ 64)) (
  ldI .u32 a1 h21 fun n22 =>
  ldI .u32 (a1.add 1) h21 fun n23 =>
  ldI .u32 (a1.add 2) h21 fun n24 =>
  ldI .u32 (a1.add 3) h21 fun n25 =>
  ldI .u32 (a1.add 4) h21 fun n26 =>
  ldI .u32 (a1.add 5) h21 fun n27 =>
  ldI .u32 (a1.add 6) h21 fun n28 =>
  ldI .u32 (a1.add 7) h21 fun n29 =>
  lsl 1 s19.a s19.cap 0 64 (s19.cap : Int) fun o30 l30 c30 =>
  CallT Tryd.prog hash_shaBlock_no [.agg #[.int .u32 n22, .int .u32 n23, .int .u32 n24, .int .u32 n25, .int .u32 n26, .int .u32 n27, .int .u32 n28, .int .u32 n29], .slice o30 l30 c30, .pointer (some a13)] h21 [.agg [.int .u32, .int .u32, .int .u32, .int .u32, .int .u32, .int .u32, .int .u32, .int .u32]] fun (r31 : (Int × Int × Int × Int × Int × Int × Int × Int)) h32 =>
  stC a1 (.int .u32 r31.1) h32 fun h33 =>
  stC (a1.add 1) (.int .u32 r31.2.1) h33 fun h34 =>
  stC (a1.add 2) (.int .u32 r31.2.2.1) h34 fun h35 =>
  stC (a1.add 3) (.int .u32 r31.2.2.2.1) h35 fun h36 =>
  stC (a1.add 4) (.int .u32 r31.2.2.2.2.1) h36 fun h37 =>
  stC (a1.add 5) (.int .u32 r31.2.2.2.2.2.1) h37 fun h38 =>
  stC (a1.add 6) (.int .u32 r31.2.2.2.2.2.2.1) h38 fun h39 =>
  stC (a1.add 7) (.int .u32 r31.2.2.2.2.2.2.2) h39 fun h40 =>
  lsl 1 s19.a s19.cap 64 (s19.len : Int) (s19.cap : Int) fun o41 l41 c41 =>
  X20 (⟨o41, l41, c41⟩ : Sl) h40) (
  LoopT (σ := Sl) (fun X43 s42 h44 => -- s42: tail
  cnd (decide ((s42.len : Int) > 0)) (
  ldI .u32 a1 h44 fun n45 =>
  ldI .u32 (a1.add 1) h44 fun n46 =>
  ldI .u32 (a1.add 2) h44 fun n47 =>
  ldI .u32 (a1.add 3) h44 fun n48 =>
  ldI .u32 (a1.add 4) h44 fun n49 =>
  ldI .u32 (a1.add 5) h44 fun n50 =>
  ldI .u32 (a1.add 6) h44 fun n51 =>
  ldI .u32 (a1.add 7) h44 fun n52 =>
  lsl 1 s42.a s42.cap 0 64 (s42.cap : Int) fun o53 l53 c53 =>
  CallT Tryd.prog hash_shaBlock_no [.agg #[.int .u32 n45, .int .u32 n46, .int .u32 n47, .int .u32 n48, .int .u32 n49, .int .u32 n50, .int .u32 n51, .int .u32 n52], .slice o53 l53 c53, .pointer (some a13)] h44 [.agg [.int .u32, .int .u32, .int .u32, .int .u32, .int .u32, .int .u32, .int .u32, .int .u32]] fun (r54 : (Int × Int × Int × Int × Int × Int × Int × Int)) h55 =>
  stC a1 (.int .u32 r54.1) h55 fun h56 =>
  stC (a1.add 1) (.int .u32 r54.2.1) h56 fun h57 =>
  stC (a1.add 2) (.int .u32 r54.2.2.1) h57 fun h58 =>
  stC (a1.add 3) (.int .u32 r54.2.2.2.1) h58 fun h59 =>
  stC (a1.add 4) (.int .u32 r54.2.2.2.2.1) h59 fun h60 =>
  stC (a1.add 5) (.int .u32 r54.2.2.2.2.2.1) h60 fun h61 =>
  stC (a1.add 6) (.int .u32 r54.2.2.2.2.2.2.1) h61 fun h62 =>
  stC (a1.add 7) (.int .u32 r54.2.2.2.2.2.2.2) h62 fun h63 =>
  lsl 1 s42.a s42.cap 64 (s42.len : Int) (s42.cap : Int) fun o64 l64 c64 =>
  X43 (⟨o64, l64, c64⟩ : Sl) h63) (
  mkSl [.int .u8 0] 5 1 0 32 h44 fun a65 h66 =>
  ldI .u32 a1 h66 fun n67 =>
  ldI .u32 (a1.add 1) h66 fun n68 =>
  ldI .u32 (a1.add 2) h66 fun n69 =>
  ldI .u32 (a1.add 3) h66 fun n70 =>
  ldI .u32 (a1.add 4) h66 fun n71 =>
  ldI .u32 (a1.add 5) h66 fun n72 =>
  ldI .u32 (a1.add 6) h66 fun n73 =>
  ldI .u32 (a1.add 7) h66 fun n74 =>
  LoopT (σ := Sl × Int) (fun X76 s75 h77 => -- s75: out, t33
  cnd (decide (s75.2 < 8)) (
  inB 8 s75.2 (aidxI .u32 [.int .u32 n67, .int .u32 n68, .int .u32 n69, .int .u32 n70, .int .u32 n71, .int .u32 n72, .int .u32 n73, .int .u32 n74] s75.2 fun v78 =>
  newB [.int .u8 (IntKind.u8.wrap ((shrI .u32 v78 24))), .int .u8 (IntKind.u8.wrap ((shrI .u32 v78 16))), .int .u8 (IntKind.u8.wrap ((shrI .u32 v78 8))), .int .u8 (IntKind.u8.wrap (v78))] 5 h77 fun a79 h80 =>
  ldRow (4 * 1) a79 h80 fun cs84 =>
  app [.int .u8 0] 5 1 1 s75.1.a s75.1.len s75.1.cap cs84 4 h80 fun o81 c82 h83 =>
  X76 ((⟨o81, (s75.1.len + 4), c82⟩ : Sl), (w64 (s75.2 + 1))) h83)) (
  R s75.1 h77)) ((⟨(some a65), (0 : Int).toNat, (32 : Int).toNat⟩ : Sl), 0) h66)) r17 h21)) b_0 h18
theorem hash_SHA256_eq (b_0 : Sl) (R : Sl → Heap → Prop) (h : Heap) : fnX Tryd.prog Fns.fns Tryd.f25 (.s .n (.s .n (.s .n (.s .n (.s (.b (.l [(0, .sl)] (.s (.s .n (.s .n .n)) (.s (.b .n) .n)))) (.s (.b (.l [(5, .sl)] (.s (.s .n (.s .n .n)) (.s (.b .n) .n)))) (.s .n (.s (.s .n (.b (.l [(6, .sl), (33, .int .i64)] (.s .n (.s (.s .n .n) (.s (.b (.s .n .n)) .n)))))) (.s .n .n))))))))) [.sc (.sl)] [.slice b_0.a b_0.len b_0.cap] h R = hash_SHA256 b_0 R h := by kernel_rfl
theorem hash_SHA256_call (b_0 : Sl) {R : Sl → Heap → Prop} {h : Heap} (hx : hash_SHA256 b_0 R h) : CallT Tryd.prog 25 [.slice b_0.a b_0.len b_0.cap] h [.sc (.sl)] R :=
  call_of_fnX fnsOk mixed Tryd.func25 (by kernel_rfl) (by rw [hash_SHA256_eq]; exact hx)

/-- stowage/hash.HMAC (26) -/
def hash_HMAC (key_0 : Sl) (b_1 : Sl) (R : Sl → Heap → Prop) (h : Heap) : Prop :=
  withJ (σ := Sl) (fun s1 h3 => -- s1: key
  withJ (σ := Sl × Sl) (fun s4 h6 => -- s4: in, out
  rdCells s1.a ((Nat.min s1.len s4.1.len) * 1) h6 fun cs8 =>
  wrRow cs8 s4.1.a h6 fun h7 =>
  rdCells s1.a ((Nat.min s1.len s4.2.len) * 1) h7 fun cs10 =>
  wrRow cs10 s4.2.a h7 fun h9 =>
  LoopT (σ := Int) (fun X12 s11 h13 => -- s11: t24
  cnd (decide (s11 < 64)) (
  idx s4.1.a s4.1.len s11 fun a14 =>
  ldI .u8 (a14.add (s11.toNat * 1)) h13 fun n15 =>
  idx s4.1.a s4.1.len s11 fun a16 =>
  stC (a16.add (s11.toNat * 1)) (.int .u8 (xorI .u8 n15 54)) h13 fun h17 =>
  idx s4.2.a s4.2.len s11 fun a18 =>
  ldI .u8 (a18.add (s11.toNat * 1)) h17 fun n19 =>
  idx s4.2.a s4.2.len s11 fun a20 =>
  stC (a20.add (s11.toNat * 1)) (.int .u8 (xorI .u8 n19 92)) h17 fun h21 =>
  X12 (w64 (s11 + 1)) h21) (
  rdCells b_1.a (b_1.len * 1) h13 fun cs25 =>
  app [.int .u8 0] 5 1 1 s4.1.a s4.1.len s4.1.cap cs25 b_1.len h13 fun o22 c23 h24 =>
  CallT Tryd.prog hash_SHA256_no [.slice o22 (s4.1.len + b_1.len) c23] h24 [.sc (.sl)] fun (r26 : Sl) h27 =>
  rdCells r26.a (r26.len * 1) h27 fun cs31 =>
  app [.int .u8 0] 5 1 1 s4.2.a s4.2.len s4.2.cap cs31 r26.len h27 fun o28 c29 h30 =>
  CallT Tryd.prog hash_SHA256_no [.slice o28 (s4.2.len + r26.len) c29] h30 [.sc (.sl)] fun (r32 : Sl) h33 =>
  R r32 h33)) 0 h9) (fun J5 =>
  (mkSl [.int .u8 0] 5 1 64 (w64 (64 + (b_1.len : Int))) h3 fun a34 h35 =>
  (mkSl [.int .u8 0] 5 1 64 96 h35 fun a36 h37 =>
  J5 ((⟨(some a34), (64 : Int).toNat, (w64 (64 + (b_1.len : Int))).toNat⟩ : Sl), (⟨(some a36), (64 : Int).toNat, (96 : Int).toNat⟩ : Sl)) h37) ∧
  (mkSl [.int .u8 0] 5 1 64 96 h35 fun a38 h39 =>
  J5 ((⟨(some a34), (64 : Int).toNat, (w64 (64 + (b_1.len : Int))).toNat⟩ : Sl), (⟨(some a38), (64 : Int).toNat, (96 : Int).toNat⟩ : Sl)) h39)) ∧
  (mkSl [.int .u8 0] 5 1 64 96 h3 fun a40 h41 =>
  mkSl [.int .u8 0] 5 1 64 (w64 (64 + (b_1.len : Int))) h41 fun a42 h43 =>
  J5 ((⟨(some a42), (64 : Int).toNat, (w64 (64 + (b_1.len : Int))).toNat⟩ : Sl), (⟨(some a40), (64 : Int).toNat, (96 : Int).toNat⟩ : Sl)) h43))) (fun J2 =>
  cnd (decide ((key_0.len : Int) > 64)) (
  CallT Tryd.prog hash_SHA256_no [.slice key_0.a key_0.len key_0.cap] h [.sc (.sl)] fun (r44 : Sl) h45 =>
  J2 r44 h45) (
  J2 key_0 h))
theorem hash_HMAC_eq (key_0 : Sl) (b_1 : Sl) (R : Sl → Heap → Prop) (h : Heap) : fnX Tryd.prog Fns.fns Tryd.f26 (.s .n (.j [(0, .sl)] (.s .n (.s .n .n)) (.j [(5, .sl), (6, .sl)] .n (.s .n (.s .n (.s (.s .n (.b (.l [(24, .int .i64)] (.s .n (.s (.s .n .n) (.s (.b (.s .n (.s .n .n))) .n)))))) (.s .n .n))))))) [.sc (.sl)] [.slice key_0.a key_0.len key_0.cap, .slice b_1.a b_1.len b_1.cap] h R = hash_HMAC key_0 b_1 R h := by kernel_rfl
theorem hash_HMAC_call (key_0 : Sl) (b_1 : Sl) {R : Sl → Heap → Prop} {h : Heap} (hx : hash_HMAC key_0 b_1 R h) : CallT Tryd.prog 26 [.slice key_0.a key_0.len key_0.cap, .slice b_1.a b_1.len b_1.cap] h [.sc (.sl)] R :=
  call_of_fnX fnsOk mixed Tryd.func26 (by kernel_rfl) (by rw [hash_HMAC_eq]; exact hx)

/-- stowage/hash.filled (47) -/
def hash_filled (b_0 : Sl) (high_1 : Bool) (R : Sl → Heap → Prop) (h : Heap) : Prop :=
  lsl 1 b_0.a b_0.cap (w64 ((w64 ((b_0.len : Int).tdiv 64)) * 64)) (b_0.len : Int) (b_0.cap : Int) fun o1 l1 c1 =>
  mkSl [.int .u8 0] 5 1 0 128 h fun a2 h3 =>
  rdCells o1 (l1 * 1) h3 fun cs7 =>
  app [.int .u8 0] 5 1 1 (some a2) ((0 : Int).toNat) ((128 : Int).toNat) cs7 l1 h3 fun o4 c5 h6 =>
  newB [.int .u8 128] 5 h6 fun a8 h9 =>
  ldRow (1 * 1) a8 h9 fun cs13 =>
  app [.int .u8 0] 5 1 1 o4 (((0 : Int).toNat) + l1) c5 cs13 1 h9 fun o10 c11 h12 =>
  LoopT (σ := Sl) (fun X15 s14 h16 => -- s14: out
  cnd (((s14.len : Int).tmod 64) != 56) (
  newB [.int .u8 0] 5 h16 fun a17 h18 =>
  ldRow (1 * 1) a17 h18 fun cs22 =>
  app [.int .u8 0] 5 1 1 s14.a s14.len s14.cap cs22 1 h18 fun o19 c20 h21 =>
  X15 (⟨o19, (s14.len + 1), c20⟩ : Sl) h21) (
  LoopT (σ := Sl × Int) (fun X24 s23 h25 => -- s23: out, t32
  cnd (decide (s23.2 < 8)) (
  withJ (σ := Sl) (fun s26 h28 => -- s26: out
  X24 (s26, (w64 (s23.2 + 1))) h28) (fun J27 =>
  withJ (σ := Int) (fun s29 h31 => -- s29: s
  geZ s29 (
  newB [.int .u8 (IntKind.u8.wrap ((shrI .u64 (IntKind.u64.wrap ((IntKind.u64.wrap ((b_0.len : Int))) * 8)) s29)))] 5 h31 fun a32 h33 =>
  ldRow (1 * 1) a32 h33 fun cs37 =>
  app [.int .u8 0] 5 1 1 s23.1.a s23.1.len s23.1.cap cs37 1 h33 fun o34 c35 h36 =>
  J27 (⟨o34, (s23.1.len + 1), c35⟩ : Sl) h36)) (fun J30 =>
  cnd high_1 (
  J30 (w64 (56 - (w64 (8 * s23.2)))) h25) (
  J30 (w64 (8 * s23.2)) h25)))) (
  R s23.1 h25)) (s14, 0) h16)) (⟨o10, ((((0 : Int).toNat) + l1) + 1), c11⟩ : Sl) h12
theorem hash_filled_eq (b_0 : Sl) (high_1 : Bool) (R : Sl → Heap → Prop) (h : Heap) : fnX Tryd.prog Fns.fns Tryd.f47 (.s .n (.s .n (.s .n (.s (.b (.l [(6, .sl)] (.s (.s .n (.s .n .n)) (.b .n)))) (.s .n (.s (.s .n (.b (.l [(6, .sl), (32, .int .i64)] (.s .n (.s (.s .n .n) (.j [(6, .sl)] (.b (.s .n (.s .n (.j [(9, .int .i64)] (.s .n (.s .n .n)) .n)))) .n)))))) (.s .n .n))))))) [.sc (.sl)] [.slice b_0.a b_0.len b_0.cap, .bool high_1] h R = hash_filled b_0 high_1 R h := by kernel_rfl
theorem hash_filled_call (b_0 : Sl) (high_1 : Bool) {R : Sl → Heap → Prop} {h : Heap} (hx : hash_filled b_0 high_1 R h) : CallT Tryd.prog 47 [.slice b_0.a b_0.len b_0.cap, .bool high_1] h [.sc (.sl)] R :=
  call_of_fnX fnsOk mixed Tryd.func47 (by kernel_rfl) (by rw [hash_filled_eq]; exact hx)

/-- stowage/hash.shaWords (46) -/
def hash_shaWords (R : Value → Heap → Prop) (h : Heap) : Prop :=
  newB (List.replicate 64 (.int .u32 0 : Value)) 87 h fun a1 h2 =>
  ([.int .u32 1116352408, .int .u32 1899447441, .int .u32 3049323471, .int .u32 3921009573, .int .u32 961987163, .int .u32 1508970993, .int .u32 2453635748, .int .u32 2870763221, .int .u32 3624381080, .int .u32 310598401, .int .u32 607225278, .int .u32 1426881987, .int .u32 1925078388, .int .u32 2162078206, .int .u32 2614888103, .int .u32 3248222580, .int .u32 3835390401, .int .u32 4022224774, .int .u32 264347078, .int .u32 604807628, .int .u32 770255983, .int .u32 1249150122, .int .u32 1555081692, .int .u32 1996064986, .int .u32 2554220882, .int .u32 2821834349, .int .u32 2952996808, .int .u32 3210313671, .int .u32 3336571891, .int .u32 3584528711, .int .u32 113926993, .int .u32 338241895, .int .u32 666307205, .int .u32 773529912, .int .u32 1294757372, .int .u32 1396182291, .int .u32 1695183700, .int .u32 1986661051, .int .u32 2177026350, .int .u32 2456956037, .int .u32 2730485921, .int .u32 2820302411, .int .u32 3259730800, .int .u32 3345764771, .int .u32 3516065817, .int .u32 3600352804, .int .u32 4094571909, .int .u32 275423344, .int .u32 430227734, .int .u32 506948616, .int .u32 659060556, .int .u32 883997877, .int .u32 958139571, .int .u32 1322822218, .int .u32 1537002063, .int .u32 1747873779, .int .u32 1955562222, .int .u32 2024104815, .int .u32 2227730452, .int .u32 2361852424, .int .u32 2428436474, .int .u32 2756734187, .int .u32 3204031479, .int .u32 3329325298] : List Value).length = 64 ∧ stRow [.int .u32 1116352408, .int .u32 1899447441, .int .u32 3049323471, .int .u32 3921009573, .int .u32 961987163, .int .u32 1508970993, .int .u32 2453635748, .int .u32 2870763221, .int .u32 3624381080, .int .u32 310598401, .int .u32 607225278, .int .u32 1426881987, .int .u32 1925078388, .int .u32 2162078206, .int .u32 2614888103, .int .u32 3248222580, .int .u32 3835390401, .int .u32 4022224774, .int .u32 264347078, .int .u32 604807628, .int .u32 770255983, .int .u32 1249150122, .int .u32 1555081692, .int .u32 1996064986, .int .u32 2554220882, .int .u32 2821834349, .int .u32 2952996808, .int .u32 3210313671, .int .u32 3336571891, .int .u32 3584528711, .int .u32 113926993, .int .u32 338241895, .int .u32 666307205, .int .u32 773529912, .int .u32 1294757372, .int .u32 1396182291, .int .u32 1695183700, .int .u32 1986661051, .int .u32 2177026350, .int .u32 2456956037, .int .u32 2730485921, .int .u32 2820302411, .int .u32 3259730800, .int .u32 3345764771, .int .u32 3516065817, .int .u32 3600352804, .int .u32 4094571909, .int .u32 275423344, .int .u32 430227734, .int .u32 506948616, .int .u32 659060556, .int .u32 883997877, .int .u32 958139571, .int .u32 1322822218, .int .u32 1537002063, .int .u32 1747873779, .int .u32 1955562222, .int .u32 2024104815, .int .u32 2227730452, .int .u32 2361852424, .int .u32 2428436474, .int .u32 2756734187, .int .u32 3204031479, .int .u32 3329325298] a1 h2 fun h3 =>
  ldRow 64 a1 h3 fun cs4 =>
  R (.agg cs4.toArray : Value) h3
theorem hash_shaWords_eq (R : Value → Heap → Prop) (h : Heap) : fnX Tryd.prog Fns.fns Tryd.f46 (.s .n (.s .n .n)) [.sc (.raw)] [] h R = hash_shaWords R h := by kernel_rfl
theorem hash_shaWords_call {R : Value → Heap → Prop} {h : Heap} (hx : hash_shaWords R h) : CallT Tryd.prog 46 [] h [.sc (.raw)] R :=
  call_of_fnX fnsOk mixed Tryd.func46 (by kernel_rfl) (by rw [hash_shaWords_eq]; exact hx)

/-- stowage/hash.shaBlock (48) -/
def hash_shaBlock (x_0 : Int × Int × Int × Int × Int × Int × Int × Int) (x_1 : Sl) (x_2 : Option Addr) (R : (Int × Int × Int × Int × Int × Int × Int × Int) → Heap → Prop) (h : Heap) : Prop :=
  newB [.int .u32 x_0.1, .int .u32 x_0.2.1, .int .u32 x_0.2.2.1, .int .u32 x_0.2.2.2.1, .int .u32 x_0.2.2.2.2.1, .int .u32 x_0.2.2.2.2.2.1, .int .u32 x_0.2.2.2.2.2.2.1, .int .u32 x_0.2.2.2.2.2.2.2] 86 h fun a1 h2 =>
  newB [.int .u32 0, .int .u32 0, .int .u32 0, .int .u32 0, .int .u32 0, .int .u32 0, .int .u32 0, .int .u32 0] 86 h2 fun a3 h4 =>
  newB (List.replicate 64 (.int .u32 0 : Value)) 87 h4 fun a5 h6 =>
  LoopT (σ := Int) (fun X8 s7 h9 => -- s7: t19
  cnd (decide (s7 < 64)) (
  withJ (σ := Unit) (fun s10 h12 => -- s10: 
  X8 (w64 (s7 + 1)) h12) (fun J11 =>
  cnd (decide (s7 < 16)) (
  idx x_1.a x_1.len (w64 (4 * s7)) fun a13 =>
  ldI .u8 (a13.add ((w64 (4 * s7)).toNat * 1)) h9 fun n14 =>
  idx x_1.a x_1.len (w64 ((w64 (4 * s7)) + 1)) fun a15 =>
  ldI .u8 (a15.add ((w64 ((w64 (4 * s7)) + 1)).toNat * 1)) h9 fun n16 =>
  idx x_1.a x_1.len (w64 ((w64 (4 * s7)) + 2)) fun a17 =>
  ldI .u8 (a17.add ((w64 ((w64 (4 * s7)) + 2)).toNat * 1)) h9 fun n18 =>
  idx x_1.a x_1.len (w64 ((w64 (4 * s7)) + 3)) fun a19 =>
  ldI .u8 (a19.add ((w64 ((w64 (4 * s7)) + 3)).toNat * 1)) h9 fun n20 =>
  inB 64 s7 (
  stC (a5.add (s7.toNat * 1)) (.int .u32 (orI .u32 (orI .u32 (orI .u32 (shlI .u32 (IntKind.u32.wrap (n14)) 24) (shlI .u32 (IntKind.u32.wrap (n16)) 16)) (shlI .u32 (IntKind.u32.wrap (n18)) 8)) (IntKind.u32.wrap (n20)))) h9 fun h21 =>
  J11 () h21)) (
  inB 64 (w64 (s7 - 15)) (
  ldI .u32 (a5.add ((w64 (s7 - 15)).toNat * 1)) h9 fun n22 =>
  inB 64 (w64 (s7 - 2)) (
  ldI .u32 (a5.add ((w64 (s7 - 2)).toNat * 1)) h9 fun n23 =>
  inB 64 (w64 (s7 - 16)) (
  ldI .u32 (a5.add ((w64 (s7 - 16)).toNat * 1)) h9 fun n24 =>
  inB 64 (w64 (s7 - 7)) (
  ldI .u32 (a5.add ((w64 (s7 - 7)).toNat * 1)) h9 fun n25 =>
  CallT Tryd.prog hash_shaBlock_1_no [.int .u32 n22, .int .i64 7] h9 [.sc (.int .u32)] fun (r26 : Int) h27 =>
  (ldI .u32 (a5.add ((w64 (s7 - 7)).toNat * 1)) h27 fun n28 =>
  (.int .u32 n28 : Value) = .int .u32 n25) ∧
  (ldI .u32 (a5.add ((w64 (s7 - 16)).toNat * 1)) h27 fun n29 =>
  (.int .u32 n29 : Value) = .int .u32 n24) ∧
  CallT Tryd.prog hash_shaBlock_1_no [.int .u32 n22, .int .i64 18] h27 [.sc (.int .u32)] fun (r30 : Int) h31 =>
  (ldI .u32 (a5.add ((w64 (s7 - 7)).toNat * 1)) h31 fun n32 =>
  (.int .u32 n32 : Value) = .int .u32 n25) ∧
  (ldI .u32 (a5.add ((w64 (s7 - 16)).toNat * 1)) h31 fun n33 =>
  (.int .u32 n33 : Value) = .int .u32 n24) ∧
  CallT Tryd.prog hash_shaBlock_1_no [.int .u32 n23, .int .i64 17] h31 [.sc (.int .u32)] fun (r34 : Int) h35 =>
  (ldI .u32 (a5.add ((w64 (s7 - 7)).toNat * 1)) h35 fun n36 =>
  (.int .u32 n36 : Value) = .int .u32 n25) ∧
  (ldI .u32 (a5.add ((w64 (s7 - 16)).toNat * 1)) h35 fun n37 =>
  (.int .u32 n37 : Value) = .int .u32 n24) ∧
  CallT Tryd.prog hash_shaBlock_1_no [.int .u32 n23, .int .i64 19] h35 [.sc (.int .u32)] fun (r38 : Int) h39 =>
  (ldI .u32 (a5.add ((w64 (s7 - 7)).toNat * 1)) h39 fun n40 =>
  (.int .u32 n40 : Value) = .int .u32 n25) ∧
  (ldI .u32 (a5.add ((w64 (s7 - 16)).toNat * 1)) h39 fun n41 =>
  (.int .u32 n41 : Value) = .int .u32 n24) ∧
  inB 64 s7 (
  stC (a5.add (s7.toNat * 1)) (.int .u32 (IntKind.u32.wrap ((IntKind.u32.wrap ((IntKind.u32.wrap (n24 + (xorI .u32 (xorI .u32 r26 r30) (shrI .u32 n22 3)))) + n25)) + (xorI .u32 (xorI .u32 r34 r38) (shrI .u32 n23 10))))) h39 fun h42 =>
  J11 () h42)))))))) (
  ldI .u32 a1 h9 fun n43 =>
  ldI .u32 (a1.add 1) h9 fun n44 =>
  ldI .u32 (a1.add 2) h9 fun n45 =>
  ldI .u32 (a1.add 3) h9 fun n46 =>
  ldI .u32 (a1.add 4) h9 fun n47 =>
  ldI .u32 (a1.add 5) h9 fun n48 =>
  ldI .u32 (a1.add 6) h9 fun n49 =>
  ldI .u32 (a1.add 7) h9 fun n50 =>
  newB [.int .u32 0, .int .u32 0, .int .u32 0, .int .u32 0, .int .u32 0, .int .u32 0, .int .u32 0, .int .u32 0] 86 h9 fun a51 h52 =>
  stC a51 (.int .u32 n43) h52 fun h53 =>
  stC (a51.add 1) (.int .u32 n44) h53 fun h54 =>
  stC (a51.add 2) (.int .u32 n45) h54 fun h55 =>
  stC (a51.add 3) (.int .u32 n46) h55 fun h56 =>
  stC (a51.add 4) (.int .u32 n47) h56 fun h57 =>
  stC (a51.add 5) (.int .u32 n48) h57 fun h58 =>
  stC (a51.add 6) (.int .u32 n49) h58 fun h59 =>
  stC (a51.add 7) (.int .u32 n50) h59 fun h60 =>
  LoopT (σ := Int) (fun X62 s61 h63 => -- s61: t102
  cnd (decide (s61 < 64)) (
  inB 8 0 (
  ldI .u32 (a51.add ((0 : Int).toNat * 1)) h63 fun n64 =>
  inB 8 4 (
  ldI .u32 (a51.add ((4 : Int).toNat * 1)) h63 fun n65 =>
  inB 8 7 (
  ldI .u32 (a51.add ((7 : Int).toNat * 1)) h63 fun n66 =>
  inB 8 5 (
  ldI .u32 (a51.add ((5 : Int).toNat * 1)) h63 fun n67 =>
  inB 8 6 (
  ldI .u32 (a51.add ((6 : Int).toNat * 1)) h63 fun n68 =>
  nn x_2 fun a69 =>
  inB 64 s61 (
  ldI .u32 (a69.add (s61.toNat * 1)) h63 fun n70 =>
  inB 64 s61 (
  ldI .u32 (a5.add (s61.toNat * 1)) h63 fun n71 =>
  CallT Tryd.prog hash_shaBlock_1_no [.int .u32 n65, .int .i64 6] h63 [.sc (.int .u32)] fun (r72 : Int) h73 =>
  (ldI .u32 (a5.add (s61.toNat * 1)) h73 fun n74 =>
  (.int .u32 n74 : Value) = .int .u32 n71) ∧
  (ldI .u32 (a69.add (s61.toNat * 1)) h73 fun n75 =>
  (.int .u32 n75 : Value) = .int .u32 n70) ∧
  (ldI .u32 (a51.add ((6 : Int).toNat * 1)) h73 fun n76 =>
  (.int .u32 n76 : Value) = .int .u32 n68) ∧
  (ldI .u32 (a51.add ((5 : Int).toNat * 1)) h73 fun n77 =>
  (.int .u32 n77 : Value) = .int .u32 n67) ∧
  (ldI .u32 (a51.add ((7 : Int).toNat * 1)) h73 fun n78 =>
  (.int .u32 n78 : Value) = .int .u32 n66) ∧
  CallT Tryd.prog hash_shaBlock_1_no [.int .u32 n65, .int .i64 11] h73 [.sc (.int .u32)] fun (r79 : Int) h80 =>
  (ldI .u32 (a5.add (s61.toNat * 1)) h80 fun n81 =>
  (.int .u32 n81 : Value) = .int .u32 n71) ∧
  (ldI .u32 (a69.add (s61.toNat * 1)) h80 fun n82 =>
  (.int .u32 n82 : Value) = .int .u32 n70) ∧
  (ldI .u32 (a51.add ((6 : Int).toNat * 1)) h80 fun n83 =>
  (.int .u32 n83 : Value) = .int .u32 n68) ∧
  (ldI .u32 (a51.add ((5 : Int).toNat * 1)) h80 fun n84 =>
  (.int .u32 n84 : Value) = .int .u32 n67) ∧
  (ldI .u32 (a51.add ((7 : Int).toNat * 1)) h80 fun n85 =>
  (.int .u32 n85 : Value) = .int .u32 n66) ∧
  CallT Tryd.prog hash_shaBlock_1_no [.int .u32 n65, .int .i64 25] h80 [.sc (.int .u32)] fun (r86 : Int) h87 =>
  (ldI .u32 (a5.add (s61.toNat * 1)) h87 fun n88 =>
  (.int .u32 n88 : Value) = .int .u32 n71) ∧
  (ldI .u32 (a69.add (s61.toNat * 1)) h87 fun n89 =>
  (.int .u32 n89 : Value) = .int .u32 n70) ∧
  (ldI .u32 (a51.add ((6 : Int).toNat * 1)) h87 fun n90 =>
  (.int .u32 n90 : Value) = .int .u32 n68) ∧
  (ldI .u32 (a51.add ((5 : Int).toNat * 1)) h87 fun n91 =>
  (.int .u32 n91 : Value) = .int .u32 n67) ∧
  (ldI .u32 (a51.add ((7 : Int).toNat * 1)) h87 fun n92 =>
  (.int .u32 n92 : Value) = .int .u32 n66) ∧
  inB 8 1 (
  ldI .u32 (a51.add ((1 : Int).toNat * 1)) h87 fun n93 =>
  inB 8 2 (
  ldI .u32 (a51.add ((2 : Int).toNat * 1)) h87 fun n94 =>
  inB 8 1 (
  ldI .u32 (a51.add ((1 : Int).toNat * 1)) h87 fun n95 =>
  inB 8 2 (
  ldI .u32 (a51.add ((2 : Int).toNat * 1)) h87 fun n96 =>
  CallT Tryd.prog hash_shaBlock_1_no [.int .u32 n64, .int .i64 2] h87 [.sc (.int .u32)] fun (r97 : Int) h98 =>
  (ldI .u32 (a51.add ((2 : Int).toNat * 1)) h98 fun n99 =>
  (.int .u32 n99 : Value) = .int .u32 n96) ∧
  (ldI .u32 (a51.add ((1 : Int).toNat * 1)) h98 fun n100 =>
  (.int .u32 n100 : Value) = .int .u32 n95) ∧
  (ldI .u32 (a51.add ((2 : Int).toNat * 1)) h98 fun n101 =>
  (.int .u32 n101 : Value) = .int .u32 n94) ∧
  (ldI .u32 (a51.add ((1 : Int).toNat * 1)) h98 fun n102 =>
  (.int .u32 n102 : Value) = .int .u32 n93) ∧
  CallT Tryd.prog hash_shaBlock_1_no [.int .u32 n64, .int .i64 13] h98 [.sc (.int .u32)] fun (r103 : Int) h104 =>
  (ldI .u32 (a51.add ((2 : Int).toNat * 1)) h104 fun n105 =>
  (.int .u32 n105 : Value) = .int .u32 n96) ∧
  (ldI .u32 (a51.add ((1 : Int).toNat * 1)) h104 fun n106 =>
  (.int .u32 n106 : Value) = .int .u32 n95) ∧
  (ldI .u32 (a51.add ((2 : Int).toNat * 1)) h104 fun n107 =>
  (.int .u32 n107 : Value) = .int .u32 n94) ∧
  (ldI .u32 (a51.add ((1 : Int).toNat * 1)) h104 fun n108 =>
  (.int .u32 n108 : Value) = .int .u32 n93) ∧
  CallT Tryd.prog hash_shaBlock_1_no [.int .u32 n64, .int .i64 22] h104 [.sc (.int .u32)] fun (r109 : Int) h110 =>
  (ldI .u32 (a51.add ((2 : Int).toNat * 1)) h110 fun n111 =>
  (.int .u32 n111 : Value) = .int .u32 n96) ∧
  (ldI .u32 (a51.add ((1 : Int).toNat * 1)) h110 fun n112 =>
  (.int .u32 n112 : Value) = .int .u32 n95) ∧
  (ldI .u32 (a51.add ((2 : Int).toNat * 1)) h110 fun n113 =>
  (.int .u32 n113 : Value) = .int .u32 n94) ∧
  (ldI .u32 (a51.add ((1 : Int).toNat * 1)) h110 fun n114 =>
  (.int .u32 n114 : Value) = .int .u32 n93) ∧
  inB 8 0 (
  ldI .u32 (a51.add ((0 : Int).toNat * 1)) h110 fun n115 =>
  inB 8 1 (
  ldI .u32 (a51.add ((1 : Int).toNat * 1)) h110 fun n116 =>
  inB 8 2 (
  ldI .u32 (a51.add ((2 : Int).toNat * 1)) h110 fun n117 =>
  inB 8 3 (
  ldI .u32 (a51.add ((3 : Int).toNat * 1)) h110 fun n118 =>
  inB 8 4 (
  ldI .u32 (a51.add ((4 : Int).toNat * 1)) h110 fun n119 =>
  inB 8 5 (
  ldI .u32 (a51.add ((5 : Int).toNat * 1)) h110 fun n120 =>
  inB 8 6 (
  ldI .u32 (a51.add ((6 : Int).toNat * 1)) h110 fun n121 =>
  stC a51 (.int .u32 (IntKind.u32.wrap ((IntKind.u32.wrap ((IntKind.u32.wrap ((IntKind.u32.wrap ((IntKind.u32.wrap (n66 + (xorI .u32 (xorI .u32 r72 r79) r86))) + (xorI .u32 (andI .u32 n65 n67) (andI .u32 (xorI .u32 IntKind.u32.max n65) n68)))) + n70)) + n71)) + (IntKind.u32.wrap ((xorI .u32 (xorI .u32 r97 r103) r109) + (xorI .u32 (xorI .u32 (andI .u32 n64 n93) (andI .u32 n64 n94)) (andI .u32 n95 n96))))))) h110 fun h122 =>
  stC (a51.add 1) (.int .u32 n115) h122 fun h123 =>
  stC (a51.add 2) (.int .u32 n116) h123 fun h124 =>
  stC (a51.add 3) (.int .u32 n117) h124 fun h125 =>
  stC (a51.add 4) (.int .u32 (IntKind.u32.wrap (n118 + (IntKind.u32.wrap ((IntKind.u32.wrap ((IntKind.u32.wrap ((IntKind.u32.wrap (n66 + (xorI .u32 (xorI .u32 r72 r79) r86))) + (xorI .u32 (andI .u32 n65 n67) (andI .u32 (xorI .u32 IntKind.u32.max n65) n68)))) + n70)) + n71))))) h125 fun h126 =>
  stC (a51.add 5) (.int .u32 n119) h126 fun h127 =>
  stC (a51.add 6) (.int .u32 n120) h127 fun h128 =>
  stC (a51.add 7) (.int .u32 n121) h128 fun h129 =>
  X62 (w64 (s61 + 1)) h129))))))))))))))))))) (
  LoopT (σ := Int) (fun X131 s130 h132 => -- s130: t192
  cnd (decide (s130 < 8)) (
  inB 8 s130 (
  ldI .u32 (a1.add (s130.toNat * 1)) h132 fun n133 =>
  inB 8 s130 (
  ldI .u32 (a51.add (s130.toNat * 1)) h132 fun n134 =>
  inB 8 s130 (
  stC (a1.add (s130.toNat * 1)) (.int .u32 (IntKind.u32.wrap (n133 + n134))) h132 fun h135 =>
  X131 (w64 (s130 + 1)) h135)))) (
  ldI .u32 a1 h132 fun n136 =>
  ldI .u32 (a1.add 1) h132 fun n137 =>
  ldI .u32 (a1.add 2) h132 fun n138 =>
  ldI .u32 (a1.add 3) h132 fun n139 =>
  ldI .u32 (a1.add 4) h132 fun n140 =>
  ldI .u32 (a1.add 5) h132 fun n141 =>
  ldI .u32 (a1.add 6) h132 fun n142 =>
  ldI .u32 (a1.add 7) h132 fun n143 =>
  stC a3 (.int .u32 n136) h132 fun h144 =>
  stC (a3.add 1) (.int .u32 n137) h144 fun h145 =>
  stC (a3.add 2) (.int .u32 n138) h145 fun h146 =>
  stC (a3.add 3) (.int .u32 n139) h146 fun h147 =>
  stC (a3.add 4) (.int .u32 n140) h147 fun h148 =>
  stC (a3.add 5) (.int .u32 n141) h148 fun h149 =>
  stC (a3.add 6) (.int .u32 n142) h149 fun h150 =>
  stC (a3.add 7) (.int .u32 n143) h150 fun h151 =>
  ldI .u32 a3 h151 fun n152 =>
  ldI .u32 (a3.add 1) h151 fun n153 =>
  ldI .u32 (a3.add 2) h151 fun n154 =>
  ldI .u32 (a3.add 3) h151 fun n155 =>
  ldI .u32 (a3.add 4) h151 fun n156 =>
  ldI .u32 (a3.add 5) h151 fun n157 =>
  ldI .u32 (a3.add 6) h151 fun n158 =>
  ldI .u32 (a3.add 7) h151 fun n159 =>
  R (n152, n153, n154, n155, n156, n157, n158, n159) h151)) 0 h63)) 0 h60)) 0 h6
theorem hash_shaBlock_eq (x_0 : Int × Int × Int × Int × Int × Int × Int × Int) (x_1 : Sl) (x_2 : Option Addr) (R : (Int × Int × Int × Int × Int × Int × Int × Int) → Heap → Prop) (h : Heap) : fnX Tryd.prog Fns.fns Tryd.f48 (.s .n (.s .n (.s .n (.s (.s .n (.b (.l [(19, .int .i64)] (.s .n (.s (.s .n .n) (.j [] (.b (.s .n (.s (.s .n (.s (.s .n .n) .n)) (.s .n .n)))) .n)))))) (.s .n (.s (.s .n (.b (.l [(102, .int .i64)] (.s .n (.s (.s .n .n) (.s (.b (.s .n (.s .n (.s .n (.s .n .n))))) .n)))))) (.s (.s .n (.b (.l [(192, .int .i64)] (.s .n (.s (.s .n .n) (.s (.b (.s .n .n)) .n)))))) (.s .n .n)))))))) [.agg [.int .u32, .int .u32, .int .u32, .int .u32, .int .u32, .int .u32, .int .u32, .int .u32]] [.agg #[.int .u32 x_0.1, .int .u32 x_0.2.1, .int .u32 x_0.2.2.1, .int .u32 x_0.2.2.2.1, .int .u32 x_0.2.2.2.2.1, .int .u32 x_0.2.2.2.2.2.1, .int .u32 x_0.2.2.2.2.2.2.1, .int .u32 x_0.2.2.2.2.2.2.2], .slice x_1.a x_1.len x_1.cap, .pointer x_2] h R = hash_shaBlock x_0 x_1 x_2 R h := by kernel_rfl
theorem hash_shaBlock_call (x_0 : Int × Int × Int × Int × Int × Int × Int × Int) (x_1 : Sl) (x_2 : Option Addr) {R : (Int × Int × Int × Int × Int × Int × Int × Int) → Heap → Prop} {h : Heap} (hx : hash_shaBlock x_0 x_1 x_2 R h) : CallT Tryd.prog 48 [.agg #[.int .u32 x_0.1, .int .u32 x_0.2.1, .int .u32 x_0.2.2.1, .int .u32 x_0.2.2.2.1, .int .u32 x_0.2.2.2.2.1, .int .u32 x_0.2.2.2.2.2.1, .int .u32 x_0.2.2.2.2.2.2.1, .int .u32 x_0.2.2.2.2.2.2.2], .slice x_1.a x_1.len x_1.cap, .pointer x_2] h [.agg [.int .u32, .int .u32, .int .u32, .int .u32, .int .u32, .int .u32, .int .u32, .int .u32]] R :=
  call_of_fnX fnsOk mixed Tryd.func48 (by kernel_rfl) (by rw [hash_shaBlock_eq]; exact hx)

/-- stowage/hash.shaBlock$1 (60) -/
def hash_shaBlock_1 (x_0 : Int) (n_1 : Int) (R : Int → Heap → Prop) (h : Heap) : Prop :=
  CallT Tryd.prog math_bits_RotateLeft32_no [.int .u32 x_0, .int .i64 (w64 (0 - n_1))] h [.sc (.int .u32)] fun (r1 : Int) h2 =>
  R r1 h2
theorem hash_shaBlock_1_eq (x_0 : Int) (n_1 : Int) (R : Int → Heap → Prop) (h : Heap) : fnX Tryd.prog Fns.fns Tryd.f60 (.s .n (.s .n .n)) [.sc (.int .u32)] [.int .u32 x_0, .int .i64 n_1] h R = hash_shaBlock_1 x_0 n_1 R h := by kernel_rfl
theorem hash_shaBlock_1_call (x_0 : Int) (n_1 : Int) {R : Int → Heap → Prop} {h : Heap} (hx : hash_shaBlock_1 x_0 n_1 R h) : CallT Tryd.prog 60 [.int .u32 x_0, .int .i64 n_1] h [.sc (.int .u32)] R :=
  call_of_fnX fnsOk mixed Tryd.func60 (by kernel_rfl) (by rw [hash_shaBlock_1_eq]; exact hx)

/-- math/bits.RotateLeft32 (61) -/
def math_bits_RotateLeft32 (x_0 : Int) (k_1 : Int) (R : Int → Heap → Prop) (h : Heap) : Prop :=
  geZ (andI .u64 (IntKind.u64.wrap (k_1)) 31) (
  geZ (IntKind.u64.wrap (32 - (andI .u64 (IntKind.u64.wrap (k_1)) 31))) (
  R (orI .u32 (shlI .u32 x_0 (andI .u64 (IntKind.u64.wrap (k_1)) 31)) (shrI .u32 x_0 (IntKind.u64.wrap (32 - (andI .u64 (IntKind.u64.wrap (k_1)) 31))))) h))
theorem math_bits_RotateLeft32_eq (x_0 : Int) (k_1 : Int) (R : Int → Heap → Prop) (h : Heap) : fnX Tryd.prog Fns.fns Tryd.f61 (.s .n (.s .n (.s .n .n))) [.sc (.int .u32)] [.int .u32 x_0, .int .i64 k_1] h R = math_bits_RotateLeft32 x_0 k_1 R h := by kernel_rfl
theorem math_bits_RotateLeft32_call (x_0 : Int) (k_1 : Int) {R : Int → Heap → Prop} {h : Heap} (hx : math_bits_RotateLeft32 x_0 k_1 R h) : CallT Tryd.prog 61 [.int .u32 x_0, .int .i64 k_1] h [.sc (.int .u32)] R :=
  call_of_fnX fnsOk mixed Tryd.func61 (by kernel_rfl) (by rw [math_bits_RotateLeft32_eq]; exact hx)

/-- stowage/enc.Hex (24) -/
def enc_Hex (b_0 : Sl) (R : ByteArray → Heap → Prop) (h : Heap) : Prop :=
  mkSl [.int .u8 0] 5 1 0 (w64 (2 * (b_0.len : Int))) h fun a1 h2 =>
  LoopT (σ := Sl × Int) (fun X4 s3 h5 => -- s3: out, t12
  cnd (decide (s3.2 < (b_0.len : Int))) (
  idx b_0.a b_0.len s3.2 fun a6 =>
  ldI .u8 (a6.add (s3.2.toNat * 1)) h5 fun n7 =>
  sidx (⟨#[48, 49, 50, 51, 52, 53, 54, 55, 56, 57, 97, 98, 99, 100, 101, 102]⟩ : ByteArray) (shrI .u8 n7 4) fun u8 =>
  sidx (⟨#[48, 49, 50, 51, 52, 53, 54, 55, 56, 57, 97, 98, 99, 100, 101, 102]⟩ : ByteArray) (andI .u8 n7 15) fun u9 =>
  newB [.int .u8 (u8.toNat : Int), .int .u8 (u9.toNat : Int)] 5 h5 fun a10 h11 =>
  ldRow (2 * 1) a10 h11 fun cs15 =>
  app [.int .u8 0] 5 1 1 s3.1.a s3.1.len s3.1.cap cs15 2 h11 fun o12 c13 h14 =>
  X4 ((⟨o12, (s3.1.len + 2), c13⟩ : Sl), (w64 (s3.2 + 1))) h14) (
  b2s s3.1.a s3.1.len h5 fun s16 =>
  R s16 h5)) ((⟨(some a1), (0 : Int).toNat, (w64 (2 * (b_0.len : Int))).toNat⟩ : Sl), 0) h2
theorem enc_Hex_eq (b_0 : Sl) (R : ByteArray → Heap → Prop) (h : Heap) : fnX Tryd.prog Fns.fns Tryd.f24 (.s .n (.s .n (.s (.s .n (.b (.l [(3, .sl), (12, .int .i64)] (.s .n (.s (.s .n .n) (.s (.b (.s .n .n)) .n)))))) (.s .n .n)))) [.sc (.str)] [.slice b_0.a b_0.len b_0.cap] h R = enc_Hex b_0 R h := by kernel_rfl
theorem enc_Hex_call (b_0 : Sl) {R : ByteArray → Heap → Prop} {h : Heap} (hx : enc_Hex b_0 R h) : CallT Tryd.prog 24 [.slice b_0.a b_0.len b_0.cap] h [.sc (.str)] R :=
  call_of_fnX fnsOk mixed Tryd.func24 (by kernel_rfl) (by rw [enc_Hex_eq]; exact hx)

end Go.Proofs.YtncffbocmpmejaaDoor
