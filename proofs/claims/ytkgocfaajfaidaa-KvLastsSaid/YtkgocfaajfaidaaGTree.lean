/- Go functions as short texts over the heap, and that each is what the loaded function comes to (the kernel compares them); written by a program. -/
import Derived.Test.YtkgocfaajfaidaaGBase
set_option linter.unusedVariables false
set_option maxRecDepth 100000
namespace Go.Proofs.Ytkgocfaajfaidaa
open Go D
/-- (*stowage/btree.Tree).From (20) -/
def btree_Tree_From (t_0 : Option Addr) (k_1 : ByteArray) (R : Value → Heap → Prop) (h : Heap) : Prop :=
  nn t_0 fun a1 =>
  ldV a1 h fun v2 =>
  CallT Try.prog btree_all_no [v2, .string k_1] h [.sc (.raw)] fun (r3 : Value) h4 =>
  R r3 h4
theorem btree_Tree_From_eq (t_0 : Option Addr) (k_1 : ByteArray) (R : Value → Heap → Prop) (h : Heap) : fnX Try.prog Fns.fns Try.f20 (.s .n (.s .n .n)) [.sc (.raw)] [.pointer t_0, .string k_1] h R = btree_Tree_From t_0 k_1 R h := by kernel_rfl
theorem btree_Tree_From_call (t_0 : Option Addr) (k_1 : ByteArray) {R : Value → Heap → Prop} {h : Heap} (hx : btree_Tree_From t_0 k_1 R h) : CallT Try.prog 20 [.pointer t_0, .string k_1] h [.sc (.raw)] R :=
  call_of_fnX fnsOk mixed Try.func20 (by kernel_rfl) (by rw [btree_Tree_From_eq]; exact hx)

/-- (*stowage/btree.Tree).Len (21) -/
def btree_Tree_Len (t_0 : Option Addr) (R : Int → Heap → Prop) (h : Heap) : Prop :=
  nn t_0 fun a1 =>
  ldI .i64 (a1.add 1) h fun n2 =>
  R n2 h
theorem btree_Tree_Len_eq (t_0 : Option Addr) (R : Int → Heap → Prop) (h : Heap) : fnX Try.prog Fns.fns Try.f21 (.s .n (.s .n .n)) [.sc (.int .i64)] [.pointer t_0] h R = btree_Tree_Len t_0 R h := by kernel_rfl
theorem btree_Tree_Len_call (t_0 : Option Addr) {R : Int → Heap → Prop} {h : Heap} (hx : btree_Tree_Len t_0 R h) : CallT Try.prog 21 [.pointer t_0] h [.sc (.int .i64)] R :=
  call_of_fnX fnsOk mixed Try.func21 (by kernel_rfl) (by rw [btree_Tree_Len_eq]; exact hx)

/-- stowage/btree.New (31) -/
def btree_New (R : (Option Addr) → Heap → Prop) (h : Heap) : Prop :=
  newB [.slice none 0 0, .slice none 0 0] 103 h fun a1 h2 =>
  one1 (.iface 101 (.pointer (some a1))) (
  newB [.iface 101 (.pointer (some a1)), .int .i64 0] 95 h2 fun a3 h4 =>
  R (some a3) h4)
theorem btree_New_eq (R : (Option Addr) → Heap → Prop) (h : Heap) : fnX Try.prog Fns.fns Try.f31 (.s .n (.s .n .n)) [.sc (.ptr)] [] h R = btree_New R h := by kernel_rfl
theorem btree_New_call {R : (Option Addr) → Heap → Prop} {h : Heap} (hx : btree_New R h) : CallT Try.prog 31 [] h [.sc (.ptr)] R :=
  call_of_fnX fnsOk mixed Try.func31 (by kernel_rfl) (by rw [btree_New_eq]; exact hx)

/-- stowage/btree.all (46) -/
def btree_all (x_0 : Value) (k_1 : ByteArray) (R : Value → Heap → Prop) (h : Heap) : Prop :=
  boxV (x_0) 93 h fun a1 h2 =>
  newB [.string k_1] 9 h2 fun a3 h4 =>
  R (.func (.func 62) #[] #[.pointer (some a1), .pointer (some a3)] : Value) h4
theorem btree_all_eq (x_0 : Value) (k_1 : ByteArray) (R : Value → Heap → Prop) (h : Heap) : fnX Try.prog Fns.fns Try.f46 (.s .n (.s .n .n)) [.sc (.raw)] [x_0, .string k_1] h R = btree_all x_0 k_1 R h := by kernel_rfl
theorem btree_all_call (x_0 : Value) (k_1 : ByteArray) {R : Value → Heap → Prop} {h : Heap} (hx : btree_all x_0 k_1 R h) : CallT Try.prog 46 [x_0, .string k_1] h [.sc (.raw)] R :=
  call_of_fnX fnsOk mixed Try.func46 (by kernel_rfl) (by rw [btree_all_eq]; exact hx)

/-- (*stowage/btree.Tree).Del (56) -/
def btree_Tree_Del (t_0 : Option Addr) (k_1 : ByteArray) (R : (Option Addr) × Bool → Heap → Prop) (h : Heap) : Prop :=
  nn t_0 fun a1 =>
  ldV a1 h fun v2 =>
  CallT Try.prog btree_del_no [v2, .string k_1] h [.sc (.raw), .sc (.bool)] fun (r3 : Value × Bool) h4 =>
  cnd (!r3.2) (
  R (t_0, false) h4) (
  withJ (σ := Value) (fun s5 h7 => -- s5: r
  nn t_0 fun a8 =>
  ldI .i64 (a8.add 1) h7 fun n9 =>
  one1 (s5) (
  newB [s5, .int .i64 (w64 (n9 - 1))] 95 h7 fun a10 h11 =>
  R ((some a10), true) h11)) (fun J6 =>
  isP r3.1 124 (fun p12 =>
  withJ (σ := Bool) (fun s13 h15 => -- s13: t35
  cnd s13 (
  nn p12 fun a16 =>
  ldL (a16.add 1) h15 fun o17 l17 c17 =>
  idx o17 l17 0 fun a18 =>
  ldV (a18.add ((0 : Int).toNat * 1)) h15 fun v19 =>
  J6 v19 h15) (
  J6 r3.1 h15)) (fun J14 =>
  nn p12 fun a20 =>
  ldL (a20.add 1) h4 fun o21 l21 c21 =>
  J14 ((l21 : Int) == 1) h4)) (
  withJ (σ := Bool) (fun s22 h24 => -- s22: t35
  cnd s22 (
  nn none fun a25 =>
  ldL (a25.add 1) h24 fun o26 l26 c26 =>
  idx o26 l26 0 fun a27 =>
  ldV (a27.add ((0 : Int).toNat * 1)) h24 fun v28 =>
  J6 v28 h24) (
  J6 r3.1 h24)) (fun J23 =>
  J23 false h4))))
theorem btree_Tree_Del_eq (t_0 : Option Addr) (k_1 : ByteArray) (R : (Option Addr) × Bool → Heap → Prop) (h : Heap) : fnX Try.prog Fns.fns Try.f56 (.s .n (.s .n (.s (.s .n (.s (.s .n .n) .n)) (.j [(6, .raw)] (.s .n (.j [(35, .bool)] .n (.s .n .n))) (.s .n .n))))) [.sc (.ptr), .sc (.bool)] [.pointer t_0, .string k_1] h R = btree_Tree_Del t_0 k_1 R h := by kernel_rfl
theorem btree_Tree_Del_call (t_0 : Option Addr) (k_1 : ByteArray) {R : (Option Addr) × Bool → Heap → Prop} {h : Heap} (hx : btree_Tree_Del t_0 k_1 R h) : CallT Try.prog 56 [.pointer t_0, .string k_1] h [.sc (.ptr), .sc (.bool)] R :=
  call_of_fnX fnsOk mixed Try.func56 (by kernel_rfl) (by rw [btree_Tree_Del_eq]; exact hx)

/-- (*stowage/btree.Tree).Put (57) -/
def btree_Tree_Put (t_0 : Option Addr) (k_1 : ByteArray) (v_2 : ByteArray) (R : (Option Addr) → Heap → Prop) (h : Heap) : Prop :=
  nn t_0 fun a1 =>
  ldV a1 h fun v2 =>
  CallT Try.prog btree_put_no [v2, .string k_1, .string v_2] h [.sc (.raw), .sc (.raw), .sc (.str), .sc (.bool)] fun (r3 : Value × Value × ByteArray × Bool) h4 =>
  nn t_0 fun a5 =>
  ldI .i64 (a5.add 1) h4 fun n6 =>
  one1 (r3.1) (
  newB [r3.1, .int .i64 n6] 95 h4 fun a7 h8 =>
  withJ (σ := Unit) (fun s9 h11 => -- s9: 
  withJ (σ := Unit) (fun s12 h14 => -- s12: 
  R (some a7) h14) (fun J13 =>
  isNilI r3.2.1 fun b15 =>
  cnd (!b15) (
  newB [.string r3.2.2.1] 9 h11 fun a16 h17 =>
  one1 (r3.1) (
  one1 (r3.2.1) (
  newB [r3.1, r3.2.1] 93 h17 fun a18 h19 =>
  newB [.slice (some a16) 1 1, .slice (some a18) 2 2] 130 h19 fun a20 h21 =>
  stC a7 (.iface 124 (.pointer (some a20))) h21 fun h22 =>
  J13 () h22))) (
  J13 () h11))) (fun J10 =>
  cnd r3.2.2.2 (
  ldI .i64 (a7.add 1) h8 fun n23 =>
  stC (a7.add 1) (.int .i64 (w64 (n23 + 1))) h8 fun h24 =>
  J10 () h24) (
  J10 () h8)))
theorem btree_Tree_Put_eq (t_0 : Option Addr) (k_1 : ByteArray) (v_2 : ByteArray) (R : (Option Addr) → Heap → Prop) (h : Heap) : fnX Try.prog Fns.fns Try.f57 (.s .n (.s .n (.s .n (.j [] (.s .n (.s .n .n)) (.j [] (.s .n (.s .n .n)) (.s .n .n)))))) [.sc (.ptr)] [.pointer t_0, .string k_1, .string v_2] h R = btree_Tree_Put t_0 k_1 v_2 R h := by kernel_rfl
theorem btree_Tree_Put_call (t_0 : Option Addr) (k_1 : ByteArray) (v_2 : ByteArray) {R : (Option Addr) → Heap → Prop} {h : Heap} (hx : btree_Tree_Put t_0 k_1 v_2 R h) : CallT Try.prog 57 [.pointer t_0, .string k_1, .string v_2] h [.sc (.ptr)] R :=
  call_of_fnX fnsOk mixed Try.func57 (by kernel_rfl) (by rw [btree_Tree_Put_eq]; exact hx)

/-- stowage/btree.all$1 (62) -/
def btree_all_1 (x_0 : Value) (free_0 : Option Addr) (free_1 : Option Addr) (R : Unit → Heap → Prop) (h : Heap) : Prop :=
  boxV (x_0) 123 h fun a1 h2 =>
  nn free_0 fun a3 =>
  ldV a3 h2 fun v4 =>
  isP v4 124 (fun p5 =>
  cnd (!true) (
  nn free_0 fun a6 =>
  ldV a6 h2 fun v7 =>
  isP v7 101 (fun p8 =>
  nn p8 fun a9 =>
  ldL a9 h2 fun o10 l10 c10 =>
  nn free_1 fun a11 =>
  ldS a11 h2 fun s12 =>
  CallT Try.prog slices_BinarySearch_string_no [.slice o10 l10 c10, .string s12] h2 [.sc (.int .i64), .sc (.bool)] fun (r13 : Int × Bool) h14 =>
  LoopT (σ := Int) (fun X16 s15 h17 => -- s15: t7
  nn p8 fun a18 =>
  ldL a18 h17 fun o19 l19 c19 =>
  cnd (decide (s15 < (l19 : Int))) (
  ldV a1 h17 fun v20 =>
  nn p8 fun a21 =>
  ldL a21 h17 fun o22 l22 c22 =>
  idx o22 l22 s15 fun a23 =>
  ldS (a23.add (s15.toNat * 1)) h17 fun s24 =>
  nn p8 fun a25 =>
  ldL (a25.add 1) h17 fun o26 l26 c26 =>
  idx o26 l26 s15 fun a27 =>
  ldS (a27.add (s15.toNat * 1)) h17 fun s28 =>
  callY Try.prog (v20) [.string s24, .string s28] h17 fun (r29 : Bool) h30 =>
  cnd (!r29) (
  shutX h.size h30 fun h31 =>
  R () h31) (
  X16 (w64 (s15 + 1)) h30)) (
  shutX h.size h17 fun h32 =>
  R () h32)) r13.1 h14) (
  False)) (
  nn p5 fun a33 =>
  ldL (a33.add 1) h2 fun o34 l34 c34 =>
  nn free_1 fun a35 =>
  ldS a35 h2 fun s36 =>
  CallT Try.prog btree_inner_at_no [.pointer p5, .string s36] h2 [.sc (.int .i64)] fun (r37 : Int) h38 =>
  (ldL (a33.add 1) h38 fun o39 l39 c39 =>
  (.slice o39 l39 c39 : Value) = .slice o34 l34 c34) ∧
  lsl 1 o34 c34 r37 (l34 : Int) (c34 : Int) fun o40 l40 c40 =>
  LoopT (σ := Int) (fun X42 s41 h43 => -- s41: t66
  cnd (decide (s41 < (l40 : Int))) (
  idx o40 l40 s41 fun a44 =>
  ldV (a44.add (s41.toNat * 1)) h43 fun v45 =>
  nn free_1 fun a46 =>
  ldS a46 h43 fun s47 =>
  CallT Try.prog btree_all_no [v45, .string s47] h43 [.sc (.raw)] fun (r48 : Value) h49 =>
  rngX Try.prog (r48) [.str, .str] (fun (s50 : ByteArray × ByteArray) M51 Q52 h53 =>
  M51 h53 fun h55 =>
  ldV a1 h55 fun v56 =>
  callY Try.prog (v56) [.string s50.1, .string s50.2] h55 fun (r57 : Bool) h58 =>
  cnd (!r57) (
  Q52 .ret h58) (
  Q52 .nrm h58)) (
  fun h59 =>
  X42 (w64 (s41 + 1)) h59) (
  fun h60 =>
  shutX h.size h60 fun h61 =>
  R () h61) [] h49) (
  shutX h.size h43 fun h62 =>
  R () h62)) 0 h38)) (
  cnd (!false) (
  nn free_0 fun a63 =>
  ldV a63 h2 fun v64 =>
  isP v64 101 (fun p65 =>
  nn p65 fun a66 =>
  ldL a66 h2 fun o67 l67 c67 =>
  nn free_1 fun a68 =>
  ldS a68 h2 fun s69 =>
  CallT Try.prog slices_BinarySearch_string_no [.slice o67 l67 c67, .string s69] h2 [.sc (.int .i64), .sc (.bool)] fun (r70 : Int × Bool) h71 =>
  LoopT (σ := Int) (fun X73 s72 h74 => -- s72: t7
  nn p65 fun a75 =>
  ldL a75 h74 fun o76 l76 c76 =>
  cnd (decide (s72 < (l76 : Int))) (
  ldV a1 h74 fun v77 =>
  nn p65 fun a78 =>
  ldL a78 h74 fun o79 l79 c79 =>
  idx o79 l79 s72 fun a80 =>
  ldS (a80.add (s72.toNat * 1)) h74 fun s81 =>
  nn p65 fun a82 =>
  ldL (a82.add 1) h74 fun o83 l83 c83 =>
  idx o83 l83 s72 fun a84 =>
  ldS (a84.add (s72.toNat * 1)) h74 fun s85 =>
  callY Try.prog (v77) [.string s81, .string s85] h74 fun (r86 : Bool) h87 =>
  cnd (!r86) (
  shutX h.size h87 fun h88 =>
  R () h88) (
  X73 (w64 (s72 + 1)) h87)) (
  shutX h.size h74 fun h89 =>
  R () h89)) r70.1 h71) (
  False)) (
  nn none fun a90 =>
  ldL (a90.add 1) h2 fun o91 l91 c91 =>
  nn free_1 fun a92 =>
  ldS a92 h2 fun s93 =>
  CallT Try.prog btree_inner_at_no [.pointer none, .string s93] h2 [.sc (.int .i64)] fun (r94 : Int) h95 =>
  (ldL (a90.add 1) h95 fun o96 l96 c96 =>
  (.slice o96 l96 c96 : Value) = .slice o91 l91 c91) ∧
  lsl 1 o91 c91 r94 (l91 : Int) (c91 : Int) fun o97 l97 c97 =>
  LoopT (σ := Int) (fun X99 s98 h100 => -- s98: t66
  cnd (decide (s98 < (l97 : Int))) (
  idx o97 l97 s98 fun a101 =>
  ldV (a101.add (s98.toNat * 1)) h100 fun v102 =>
  nn free_1 fun a103 =>
  ldS a103 h100 fun s104 =>
  CallT Try.prog btree_all_no [v102, .string s104] h100 [.sc (.raw)] fun (r105 : Value) h106 =>
  rngX Try.prog (r105) [.str, .str] (fun (s107 : ByteArray × ByteArray) M108 Q109 h110 =>
  M108 h110 fun h112 =>
  ldV a1 h112 fun v113 =>
  callY Try.prog (v113) [.string s107.1, .string s107.2] h112 fun (r114 : Bool) h115 =>
  cnd (!r114) (
  Q109 .ret h115) (
  Q109 .nrm h115)) (
  fun h116 =>
  X99 (w64 (s98 + 1)) h116) (
  fun h117 =>
  shutX h.size h117 fun h118 =>
  R () h118) [] h106) (
  shutX h.size h100 fun h119 =>
  R () h119)) 0 h95))
theorem btree_all_1_eq (x_0 : Value) (free_0 : Option Addr) (free_1 : Option Addr) (R : Unit → Heap → Prop) (h : Heap) : fnX Try.prog Fns.fns Try.f62 (.s .n (.s .n (.s (.s .n (.s (.s .n (.s .n (.s (.b (.l [(7, .int .i64)] (.s (.s .n (.s .n .n)) (.s (.b (.s .n (.s .n .n))) .n)))) .n))) .n)) (.s .n (.b (.l [(66, .int .i64)] (.s .n (.s (.s .n .n) (.s (.b (.s .n (.s .n (.b (.r [.str, .str] (.s .n .n) (.b (.s .n (.s .n .n)))))))) .n))))))))) [] [x_0, .pointer free_0, .pointer free_1] h R = btree_all_1 x_0 free_0 free_1 R h := by kernel_rfl
theorem btree_all_1_call (x_0 : Value) (free_0 : Option Addr) (free_1 : Option Addr) {R : Unit → Heap → Prop} {h : Heap} (hx : btree_all_1 x_0 free_0 free_1 R h) : CallT Try.prog 62 [x_0, .pointer free_0, .pointer free_1] h [] R :=
  call_of_fnX fnsOk mixed Try.func62 (by kernel_rfl) (by rw [btree_all_1_eq]; exact hx)

/-- slices.BinarySearch[[]string,string] (63) -/
def slices_BinarySearch_string (x_0 : Sl) (target_1 : ByteArray) (R : Int × Bool → Heap → Prop) (h : Heap) : Prop :=
  LoopT (σ := Int × Int) (fun X2 s1 h3 => -- s1: i, j
  cnd (decide (s1.1 < s1.2)) (
  idx x_0.a x_0.len (w64 ((shrI .u64 (IntKind.u64.wrap ((w64 (s1.1 + s1.2)))) 1))) fun a4 =>
  ldS (a4.add ((w64 ((shrI .u64 (IntKind.u64.wrap ((w64 (s1.1 + s1.2)))) 1))).toNat * 1)) h3 fun s5 =>
  CallT Try.prog cmp_Less_string_no [.string s5, .string target_1] h3 [.sc (.bool)] fun (r6 : Bool) h7 =>
  cnd r6 (
  X2 ((w64 ((w64 ((shrI .u64 (IntKind.u64.wrap ((w64 (s1.1 + s1.2)))) 1))) + 1)), s1.2) h7) (
  X2 (s1.1, (w64 ((shrI .u64 (IntKind.u64.wrap ((w64 (s1.1 + s1.2)))) 1)))) h7)) (
  withJ (σ := Int × Bool) (fun s8 h10 => -- s8: t4, t5
  R (s8.1, s8.2) h10) (fun J9 =>
  cnd (decide (s1.1 < (x_0.len : Int))) (
  idx x_0.a x_0.len s1.1 fun a11 =>
  ldS (a11.add (s1.1.toNat * 1)) h3 fun s12 =>
  cnd (seq s12 target_1) (
  J9 (s1.1, true) h3) (
  idx x_0.a x_0.len s1.1 fun a13 =>
  ldS (a13.add (s1.1.toNat * 1)) h3 fun s14 =>
  CallT Try.prog slices_isNaN_string_no [.string s14] h3 [.sc (.bool)] fun (r15 : Bool) h16 =>
  cnd r15 (
  CallT Try.prog slices_isNaN_string_no [.string target_1] h16 [.sc (.bool)] fun (r17 : Bool) h18 =>
  J9 (s1.1, r17) h18) (
  J9 (s1.1, false) h16))) (
  J9 (s1.1, false) h3)))) (0, (x_0.len : Int)) h
theorem slices_BinarySearch_string_eq (x_0 : Sl) (target_1 : ByteArray) (R : Int × Bool → Heap → Prop) (h : Heap) : fnX Try.prog Fns.fns Try.f63 (.s .n (.s .n (.s .n (.s (.b (.l [(7, .int .i64), (8, .int .i64)] (.s (.s .n (.s .n .n)) (.b (.s .n (.s .n (.s .n .n))))))) (.j [(4, .int .i64), (5, .bool)] .n .n))))) [.sc (.int .i64), .sc (.bool)] [.slice x_0.a x_0.len x_0.cap, .string target_1] h R = slices_BinarySearch_string x_0 target_1 R h := by kernel_rfl
theorem slices_BinarySearch_string_call (x_0 : Sl) (target_1 : ByteArray) {R : Int × Bool → Heap → Prop} {h : Heap} (hx : slices_BinarySearch_string x_0 target_1 R h) : CallT Try.prog 63 [.slice x_0.a x_0.len x_0.cap, .string target_1] h [.sc (.int .i64), .sc (.bool)] R :=
  call_of_fnX fnsOk mixed Try.func63 (by kernel_rfl) (by rw [slices_BinarySearch_string_eq]; exact hx)

/-- (*stowage/btree.inner).at (64) -/
def btree_inner_at (n_0 : Option Addr) (k_1 : ByteArray) (R : Int → Heap → Prop) (h : Heap) : Prop :=
  newB [.pointer n_0] 124 h fun a1 h2 =>
  newB [.string k_1] 9 h2 fun a3 h4 =>
  ldP a1 h4 fun p5 =>
  nn p5 fun a6 =>
  ldL a6 h4 fun o7 l7 c7 =>
  CallT Try.prog sort_Search_no [.int .i64 (l7 : Int), .func (.func 78) #[] #[.pointer (some a1), .pointer (some a3)]] h4 [.sc (.int .i64)] fun (r8 : Int) h9 =>
  R r8 h9
theorem btree_inner_at_eq (n_0 : Option Addr) (k_1 : ByteArray) (R : Int → Heap → Prop) (h : Heap) : fnX Try.prog Fns.fns Try.f64 (.s .n (.s .n .n)) [.sc (.int .i64)] [.pointer n_0, .string k_1] h R = btree_inner_at n_0 k_1 R h := by kernel_rfl
theorem btree_inner_at_call (n_0 : Option Addr) (k_1 : ByteArray) {R : Int → Heap → Prop} {h : Heap} (hx : btree_inner_at n_0 k_1 R h) : CallT Try.prog 64 [.pointer n_0, .string k_1] h [.sc (.int .i64)] R :=
  call_of_fnX fnsOk mixed Try.func64 (by kernel_rfl) (by rw [btree_inner_at_eq]; exact hx)

/-- stowage/btree.del (71) -/
def btree_del (x_0 : Value) (x_1 : ByteArray) (R : Value × Bool → Heap → Prop) (h : Heap) : Prop :=
  isP x_0 101 (fun p1 =>
  nn p1 fun a2 =>
  ldL a2 h fun o3 l3 c3 =>
  CallT Try.prog slices_BinarySearch_string_no [.slice o3 l3 c3, .string x_1] h [.sc (.int .i64), .sc (.bool)] fun (r4 : Int × Bool) h5 =>
  cnd (!r4.2) (
  R (x_0, false) h5) (
  nn p1 fun a6 =>
  ldL a6 h5 fun o7 l7 c7 =>
  nn p1 fun a8 =>
  ldL (a8.add 1) h5 fun o9 l9 c9 =>
  CallT Try.prog slices_Clone_string_no [.slice o7 l7 c7] h5 [.sc (.sl)] fun (r10 : Sl) h11 =>
  (ldL (a8.add 1) h11 fun o12 l12 c12 =>
  (.slice o12 l12 c12 : Value) = .slice o9 l9 c9) ∧
  CallT Try.prog slices_Delete_string_no [.slice r10.a r10.len r10.cap, .int .i64 r4.1, .int .i64 (w64 (r4.1 + 1))] h11 [.sc (.sl)] fun (r13 : Sl) h14 =>
  (ldL (a8.add 1) h14 fun o15 l15 c15 =>
  (.slice o15 l15 c15 : Value) = .slice o9 l9 c9) ∧
  CallT Try.prog slices_Clone_string_no [.slice o9 l9 c9] h14 [.sc (.sl)] fun (r16 : Sl) h17 =>
  CallT Try.prog slices_Delete_string_no [.slice r16.a r16.len r16.cap, .int .i64 r4.1, .int .i64 (w64 (r4.1 + 1))] h17 [.sc (.sl)] fun (r18 : Sl) h19 =>
  newB [.slice r13.a r13.len r13.cap, .slice r18.a r18.len r18.cap] 103 h19 fun a20 h21 =>
  R ((.iface 101 (.pointer (some a20)) : Value), true) h21)) (
  isP x_0 124 (fun p22 =>
  CallT Try.prog btree_inner_at_no [.pointer p22, .string x_1] h [.sc (.int .i64)] fun (r23 : Int) h24 =>
  nn p22 fun a25 =>
  ldL (a25.add 1) h24 fun o26 l26 c26 =>
  idx o26 l26 r23 fun a27 =>
  ldV (a27.add (r23.toNat * 1)) h24 fun v28 =>
  CallT Try.prog btree_del_no [v28, .string x_1] h24 [.sc (.raw), .sc (.bool)] fun (r29 : Value × Bool) h30 =>
  cnd (!r29.2) (
  R (x_0, false) h30) (
  nn p22 fun a31 =>
  ldL a31 h30 fun o32 l32 c32 =>
  nn p22 fun a33 =>
  ldL (a33.add 1) h30 fun o34 l34 c34 =>
  CallT Try.prog slices_Clone_string_no [.slice o32 l32 c32] h30 [.sc (.sl)] fun (r35 : Sl) h36 =>
  (ldL (a33.add 1) h36 fun o37 l37 c37 =>
  (.slice o37 l37 c37 : Value) = .slice o34 l34 c34) ∧
  CallT Try.prog slices_Clone_btree_node_no [.slice o34 l34 c34] h36 [.sc (.sl)] fun (r38 : Sl) h39 =>
  newB [.slice r35.a r35.len r35.cap, .slice r38.a r38.len r38.cap] 130 h39 fun a40 h41 =>
  ldL (a40.add 1) h41 fun o42 l42 c42 =>
  idx o42 l42 r23 fun a43 =>
  stC (a43.add (r23.toNat * 1)) (r29.1) h41 fun h44 =>
  isP r29.1 101 (fun p45 =>
  CallT Try.prog btree_leaf_size_no [.pointer p45] h44 [.sc (.int .i64)] fun (r46 : Int) h47 =>
  cnd (decide (r46 ≥ 4)) (
  R ((.iface 124 (.pointer (some a40)) : Value), true) h47) (
  ldL (a40.add 1) h47 fun o48 l48 c48 =>
  ldL (a40.add 1) h47 fun o49 l49 c49 =>
  idx o49 l49 (minI r23 (w64 ((l48 : Int) - 2))) fun a50 =>
  ldV (a50.add ((minI r23 (w64 ((l48 : Int) - 2))).toNat * 1)) h47 fun v51 =>
  ldL (a40.add 1) h47 fun o52 l52 c52 =>
  idx o52 l52 (w64 ((minI r23 (w64 ((l48 : Int) - 2))) + 1)) fun a53 =>
  ldV (a53.add ((w64 ((minI r23 (w64 ((l48 : Int) - 2))) + 1)).toNat * 1)) h47 fun v54 =>
  ldL a40 h47 fun o55 l55 c55 =>
  idx o55 l55 (minI r23 (w64 ((l48 : Int) - 2))) fun a56 =>
  ldS (a56.add ((minI r23 (w64 ((l48 : Int) - 2))).toNat * 1)) h47 fun s57 =>
  CallT Try.prog btree_joined_no [v51, v54, .string s57] h47 [.sc (.raw), .sc (.raw), .sc (.str)] fun (r58 : Value × Value × ByteArray) h59 =>
  withJ (σ := Unit) (fun s60 h62 => -- s60: 
  R ((.iface 124 (.pointer (some a40)) : Value), true) h62) (fun J61 =>
  isNilI r58.2.1 fun b63 =>
  cnd b63 (
  ldL (a40.add 1) h59 fun o64 l64 c64 =>
  one1 (r58.1) (
  newB [r58.1] 93 h59 fun a65 h66 =>
  CallT Try.prog slices_Replace_btree_node_no [.slice o64 l64 c64, .int .i64 (minI r23 (w64 ((l48 : Int) - 2))), .int .i64 (w64 ((minI r23 (w64 ((l48 : Int) - 2))) + 2)), .slice (some a65) 1 1] h66 [.sc (.sl)] fun (r67 : Sl) h68 =>
  stC (a40.add 1) (.slice r67.a r67.len r67.cap) h68 fun h69 =>
  ldL a40 h69 fun o70 l70 c70 =>
  CallT Try.prog slices_Delete_string_no [.slice o70 l70 c70, .int .i64 (minI r23 (w64 ((l48 : Int) - 2))), .int .i64 (w64 ((minI r23 (w64 ((l48 : Int) - 2))) + 1))] h69 [.sc (.sl)] fun (r71 : Sl) h72 =>
  stC a40 (.slice r71.a r71.len r71.cap) h72 fun h73 =>
  J61 () h73)) (
  ldL (a40.add 1) h59 fun o74 l74 c74 =>
  ldL (a40.add 1) h59 fun o75 l75 c75 =>
  ldL a40 h59 fun o76 l76 c76 =>
  idx o74 l74 (minI r23 (w64 ((l48 : Int) - 2))) fun a77 =>
  stC (a77.add ((minI r23 (w64 ((l48 : Int) - 2))).toNat * 1)) (r58.1) h59 fun h78 =>
  idx o75 l75 (w64 ((minI r23 (w64 ((l48 : Int) - 2))) + 1)) fun a79 =>
  stC (a79.add ((w64 ((minI r23 (w64 ((l48 : Int) - 2))) + 1)).toNat * 1)) (r58.2.1) h78 fun h80 =>
  idx o76 l76 (minI r23 (w64 ((l48 : Int) - 2))) fun a81 =>
  stC (a81.add ((minI r23 (w64 ((l48 : Int) - 2))).toNat * 1)) (.string r58.2.2) h80 fun h82 =>
  J61 () h82)))) (
  isP r29.1 124 (fun p83 =>
  CallT Try.prog btree_inner_size_no [.pointer p83] h44 [.sc (.int .i64)] fun (r84 : Int) h85 =>
  cnd (decide (r84 ≥ 4)) (
  R ((.iface 124 (.pointer (some a40)) : Value), true) h85) (
  ldL (a40.add 1) h85 fun o86 l86 c86 =>
  ldL (a40.add 1) h85 fun o87 l87 c87 =>
  idx o87 l87 (minI r23 (w64 ((l86 : Int) - 2))) fun a88 =>
  ldV (a88.add ((minI r23 (w64 ((l86 : Int) - 2))).toNat * 1)) h85 fun v89 =>
  ldL (a40.add 1) h85 fun o90 l90 c90 =>
  idx o90 l90 (w64 ((minI r23 (w64 ((l86 : Int) - 2))) + 1)) fun a91 =>
  ldV (a91.add ((w64 ((minI r23 (w64 ((l86 : Int) - 2))) + 1)).toNat * 1)) h85 fun v92 =>
  ldL a40 h85 fun o93 l93 c93 =>
  idx o93 l93 (minI r23 (w64 ((l86 : Int) - 2))) fun a94 =>
  ldS (a94.add ((minI r23 (w64 ((l86 : Int) - 2))).toNat * 1)) h85 fun s95 =>
  CallT Try.prog btree_joined_no [v89, v92, .string s95] h85 [.sc (.raw), .sc (.raw), .sc (.str)] fun (r96 : Value × Value × ByteArray) h97 =>
  withJ (σ := Unit) (fun s98 h100 => -- s98: 
  R ((.iface 124 (.pointer (some a40)) : Value), true) h100) (fun J99 =>
  isNilI r96.2.1 fun b101 =>
  cnd b101 (
  ldL (a40.add 1) h97 fun o102 l102 c102 =>
  one1 (r96.1) (
  newB [r96.1] 93 h97 fun a103 h104 =>
  CallT Try.prog slices_Replace_btree_node_no [.slice o102 l102 c102, .int .i64 (minI r23 (w64 ((l86 : Int) - 2))), .int .i64 (w64 ((minI r23 (w64 ((l86 : Int) - 2))) + 2)), .slice (some a103) 1 1] h104 [.sc (.sl)] fun (r105 : Sl) h106 =>
  stC (a40.add 1) (.slice r105.a r105.len r105.cap) h106 fun h107 =>
  ldL a40 h107 fun o108 l108 c108 =>
  CallT Try.prog slices_Delete_string_no [.slice o108 l108 c108, .int .i64 (minI r23 (w64 ((l86 : Int) - 2))), .int .i64 (w64 ((minI r23 (w64 ((l86 : Int) - 2))) + 1))] h107 [.sc (.sl)] fun (r109 : Sl) h110 =>
  stC a40 (.slice r109.a r109.len r109.cap) h110 fun h111 =>
  J99 () h111)) (
  ldL (a40.add 1) h97 fun o112 l112 c112 =>
  ldL (a40.add 1) h97 fun o113 l113 c113 =>
  ldL a40 h97 fun o114 l114 c114 =>
  idx o112 l112 (minI r23 (w64 ((l86 : Int) - 2))) fun a115 =>
  stC (a115.add ((minI r23 (w64 ((l86 : Int) - 2))).toNat * 1)) (r96.1) h97 fun h116 =>
  idx o113 l113 (w64 ((minI r23 (w64 ((l86 : Int) - 2))) + 1)) fun a117 =>
  stC (a117.add ((w64 ((minI r23 (w64 ((l86 : Int) - 2))) + 1)).toNat * 1)) (r96.2.1) h116 fun h118 =>
  idx o114 l114 (minI r23 (w64 ((l86 : Int) - 2))) fun a119 =>
  stC (a119.add ((minI r23 (w64 ((l86 : Int) - 2))).toNat * 1)) (.string r96.2.2) h118 fun h120 =>
  J99 () h120)))) (
  False)))) (
  False))
theorem btree_del_eq (x_0 : Value) (x_1 : ByteArray) (R : Value × Bool → Heap → Prop) (h : Heap) : fnX Try.prog Fns.fns Try.f71 (.s .n (.s (.s .n (.s .n (.s .n .n))) (.s .n (.s .n (.s .n (.s (.s .n (.s (.s .n .n) .n)) (.s .n (.s .n (.s (.s .n (.s (.s .n .n) .n)) (.s .n (.s .n (.j [] (.s .n (.s (.s .n .n) .n)) (.s .n .n))))))))))))) [.sc (.raw), .sc (.bool)] [x_0, .string x_1] h R = btree_del x_0 x_1 R h := by kernel_rfl
theorem btree_del_call (x_0 : Value) (x_1 : ByteArray) {R : Value × Bool → Heap → Prop} {h : Heap} (hx : btree_del x_0 x_1 R h) : CallT Try.prog 71 [x_0, .string x_1] h [.sc (.raw), .sc (.bool)] R :=
  call_of_fnX fnsOk mixed Try.func71 (by kernel_rfl) (by rw [btree_del_eq]; exact hx)

/-- stowage/btree.put (72) -/
def btree_put (x_0 : Value) (x_1 : ByteArray) (x_2 : ByteArray) (R : Value × Value × ByteArray × Bool → Heap → Prop) (h : Heap) : Prop :=
  isP x_0 101 (fun p1 =>
  nn p1 fun a2 =>
  ldL a2 h fun o3 l3 c3 =>
  CallT Try.prog slices_BinarySearch_string_no [.slice o3 l3 c3, .string x_1] h [.sc (.int .i64), .sc (.bool)] fun (r4 : Int × Bool) h5 =>
  nn p1 fun a6 =>
  ldL a6 h5 fun o7 l7 c7 =>
  nn p1 fun a8 =>
  ldL (a8.add 1) h5 fun o9 l9 c9 =>
  CallT Try.prog slices_Clone_string_no [.slice o7 l7 c7] h5 [.sc (.sl)] fun (r10 : Sl) h11 =>
  (ldL (a8.add 1) h11 fun o12 l12 c12 =>
  (.slice o12 l12 c12 : Value) = .slice o9 l9 c9) ∧
  CallT Try.prog slices_Clone_string_no [.slice o9 l9 c9] h11 [.sc (.sl)] fun (r13 : Sl) h14 =>
  newB [.slice r10.a r10.len r10.cap, .slice r13.a r13.len r13.cap] 103 h14 fun a15 h16 =>
  cnd r4.2 (
  ldL (a15.add 1) h16 fun o17 l17 c17 =>
  idx o17 l17 r4.1 fun a18 =>
  stC (a18.add (r4.1.toNat * 1)) (.string x_2) h16 fun h19 =>
  R ((.iface 101 (.pointer (some a15)) : Value), (.nilIface : Value), (⟨#[]⟩ : ByteArray), false) h19) (
  withJ (σ := Unit) (fun s20 h22 => -- s20: 
  ldL a15 h22 fun o23 l23 c23 =>
  cnd (decide ((l23 : Int) ≤ 8)) (
  R ((.iface 101 (.pointer (some a15)) : Value), (.nilIface : Value), (⟨#[]⟩ : ByteArray), true) h22) (
  ldL a15 h22 fun o24 l24 c24 =>
  withJ (σ := Value × Value × ByteArray × Bool) (fun s25 h27 => -- s25: t6, t7, t8, t9
  R (s25.1, s25.2.1, s25.2.2.1, s25.2.2.2) h27) (fun J26 =>
  ldL a15 h22 fun o28 l28 c28 =>
  lsl 1 o28 c28 0 (w64 ((l24 : Int).tdiv 2)) (c28 : Int) fun o29 l29 c29 =>
  ldL (a15.add 1) h22 fun o30 l30 c30 =>
  lsl 1 o30 c30 0 (w64 ((l24 : Int).tdiv 2)) (c30 : Int) fun o31 l31 c31 =>
  ldL a15 h22 fun o32 l32 c32 =>
  lsl 1 o32 c32 (w64 ((l24 : Int).tdiv 2)) (l32 : Int) (c32 : Int) fun o33 l33 c33 =>
  ldL (a15.add 1) h22 fun o34 l34 c34 =>
  lsl 1 o34 c34 (w64 ((l24 : Int).tdiv 2)) (l34 : Int) (c34 : Int) fun o35 l35 c35 =>
  ldL a15 h22 fun o36 l36 c36 =>
  idx o36 l36 (w64 ((l24 : Int).tdiv 2)) fun a37 =>
  ldS (a37.add ((w64 ((l24 : Int).tdiv 2)).toNat * 1)) h22 fun s38 =>
  CallT Try.prog slices_Clone_string_no [.slice o29 l29 c29] h22 [.sc (.sl)] fun (r39 : Sl) h40 =>
  (ldS (a37.add ((w64 ((l24 : Int).tdiv 2)).toNat * 1)) h40 fun s41 =>
  (.string s41 : Value) = .string s38) ∧
  (ldL a15 h40 fun o42 l42 c42 =>
  (.slice o42 l42 c42 : Value) = .slice o36 l36 c36) ∧
  (ldL (a15.add 1) h40 fun o43 l43 c43 =>
  (.slice o43 l43 c43 : Value) = .slice o34 l34 c34) ∧
  (ldL a15 h40 fun o44 l44 c44 =>
  (.slice o44 l44 c44 : Value) = .slice o32 l32 c32) ∧
  (ldL (a15.add 1) h40 fun o45 l45 c45 =>
  (.slice o45 l45 c45 : Value) = .slice o30 l30 c30) ∧
  CallT Try.prog slices_Clone_string_no [.slice o31 l31 c31] h40 [.sc (.sl)] fun (r46 : Sl) h47 =>
  (ldS (a37.add ((w64 ((l24 : Int).tdiv 2)).toNat * 1)) h47 fun s48 =>
  (.string s48 : Value) = .string s38) ∧
  (ldL a15 h47 fun o49 l49 c49 =>
  (.slice o49 l49 c49 : Value) = .slice o36 l36 c36) ∧
  (ldL (a15.add 1) h47 fun o50 l50 c50 =>
  (.slice o50 l50 c50 : Value) = .slice o34 l34 c34) ∧
  (ldL a15 h47 fun o51 l51 c51 =>
  (.slice o51 l51 c51 : Value) = .slice o32 l32 c32) ∧
  (newB [.slice r39.a r39.len r39.cap, .slice r46.a r46.len r46.cap] 103 h47 fun a52 h53 =>
  (ldS (a37.add ((w64 ((l24 : Int).tdiv 2)).toNat * 1)) h53 fun s54 =>
  (.string s54 : Value) = .string s38) ∧
  (ldL a15 h53 fun o55 l55 c55 =>
  (.slice o55 l55 c55 : Value) = .slice o36 l36 c36) ∧
  (ldL (a15.add 1) h53 fun o56 l56 c56 =>
  (.slice o56 l56 c56 : Value) = .slice o34 l34 c34) ∧
  (ldL a15 h53 fun o57 l57 c57 =>
  (.slice o57 l57 c57 : Value) = .slice o32 l32 c32) ∧
  CallT Try.prog slices_Clone_string_no [.slice o33 l33 c33] h53 [.sc (.sl)] fun (r58 : Sl) h59 =>
  (ldS (a37.add ((w64 ((l24 : Int).tdiv 2)).toNat * 1)) h59 fun s60 =>
  (.string s60 : Value) = .string s38) ∧
  (ldL a15 h59 fun o61 l61 c61 =>
  (.slice o61 l61 c61 : Value) = .slice o36 l36 c36) ∧
  (ldL (a15.add 1) h59 fun o62 l62 c62 =>
  (.slice o62 l62 c62 : Value) = .slice o34 l34 c34) ∧
  CallT Try.prog slices_Clone_string_no [.slice o35 l35 c35] h59 [.sc (.sl)] fun (r63 : Sl) h64 =>
  (ldS (a37.add ((w64 ((l24 : Int).tdiv 2)).toNat * 1)) h64 fun s65 =>
  (.string s65 : Value) = .string s38) ∧
  (ldL a15 h64 fun o66 l66 c66 =>
  (.slice o66 l66 c66 : Value) = .slice o36 l36 c36) ∧
  (newB [.slice r58.a r58.len r58.cap, .slice r63.a r63.len r63.cap] 103 h64 fun a67 h68 =>
  (ldS (a37.add ((w64 ((l24 : Int).tdiv 2)).toNat * 1)) h68 fun s69 =>
  (.string s69 : Value) = .string s38) ∧
  (ldL a15 h68 fun o70 l70 c70 =>
  (.slice o70 l70 c70 : Value) = .slice o36 l36 c36) ∧
  J26 ((.iface 101 (.pointer (some a52)) : Value), (.iface 101 (.pointer (some a67)) : Value), s38, true) h68) ∧
  (newB [.slice r58.a r58.len r58.cap, .slice r63.a r63.len r63.cap] 103 h64 fun a71 h72 =>
  (ldS (a37.add ((w64 ((l24 : Int).tdiv 2)).toNat * 1)) h72 fun s73 =>
  (.string s73 : Value) = .string s38) ∧
  (ldL a15 h72 fun o74 l74 c74 =>
  (.slice o74 l74 c74 : Value) = .slice o36 l36 c36) ∧
  J26 ((.iface 101 (.pointer (some a52)) : Value), (.iface 101 (.pointer (some a71)) : Value), s38, true) h72)) ∧
  (CallT Try.prog slices_Clone_string_no [.slice o33 l33 c33] h47 [.sc (.sl)] fun (r75 : Sl) h76 =>
  (ldS (a37.add ((w64 ((l24 : Int).tdiv 2)).toNat * 1)) h76 fun s77 =>
  (.string s77 : Value) = .string s38) ∧
  (ldL a15 h76 fun o78 l78 c78 =>
  (.slice o78 l78 c78 : Value) = .slice o36 l36 c36) ∧
  (ldL (a15.add 1) h76 fun o79 l79 c79 =>
  (.slice o79 l79 c79 : Value) = .slice o34 l34 c34) ∧
  (newB [.slice r39.a r39.len r39.cap, .slice r46.a r46.len r46.cap] 103 h76 fun a80 h81 =>
  (ldS (a37.add ((w64 ((l24 : Int).tdiv 2)).toNat * 1)) h81 fun s82 =>
  (.string s82 : Value) = .string s38) ∧
  (ldL a15 h81 fun o83 l83 c83 =>
  (.slice o83 l83 c83 : Value) = .slice o36 l36 c36) ∧
  (ldL (a15.add 1) h81 fun o84 l84 c84 =>
  (.slice o84 l84 c84 : Value) = .slice o34 l34 c34) ∧
  CallT Try.prog slices_Clone_string_no [.slice o35 l35 c35] h81 [.sc (.sl)] fun (r85 : Sl) h86 =>
  (ldS (a37.add ((w64 ((l24 : Int).tdiv 2)).toNat * 1)) h86 fun s87 =>
  (.string s87 : Value) = .string s38) ∧
  (ldL a15 h86 fun o88 l88 c88 =>
  (.slice o88 l88 c88 : Value) = .slice o36 l36 c36) ∧
  (newB [.slice r75.a r75.len r75.cap, .slice r85.a r85.len r85.cap] 103 h86 fun a89 h90 =>
  (ldS (a37.add ((w64 ((l24 : Int).tdiv 2)).toNat * 1)) h90 fun s91 =>
  (.string s91 : Value) = .string s38) ∧
  (ldL a15 h90 fun o92 l92 c92 =>
  (.slice o92 l92 c92 : Value) = .slice o36 l36 c36) ∧
  J26 ((.iface 101 (.pointer (some a80)) : Value), (.iface 101 (.pointer (some a89)) : Value), s38, true) h90) ∧
  (newB [.slice r75.a r75.len r75.cap, .slice r85.a r85.len r85.cap] 103 h86 fun a93 h94 =>
  (ldS (a37.add ((w64 ((l24 : Int).tdiv 2)).toNat * 1)) h94 fun s95 =>
  (.string s95 : Value) = .string s38) ∧
  (ldL a15 h94 fun o96 l96 c96 =>
  (.slice o96 l96 c96 : Value) = .slice o36 l36 c36) ∧
  J26 ((.iface 101 (.pointer (some a80)) : Value), (.iface 101 (.pointer (some a93)) : Value), s38, true) h94)) ∧
  (CallT Try.prog slices_Clone_string_no [.slice o35 l35 c35] h76 [.sc (.sl)] fun (r97 : Sl) h98 =>
  (ldS (a37.add ((w64 ((l24 : Int).tdiv 2)).toNat * 1)) h98 fun s99 =>
  (.string s99 : Value) = .string s38) ∧
  (ldL a15 h98 fun o100 l100 c100 =>
  (.slice o100 l100 c100 : Value) = .slice o36 l36 c36) ∧
  (newB [.slice r39.a r39.len r39.cap, .slice r46.a r46.len r46.cap] 103 h98 fun a101 h102 =>
  (ldS (a37.add ((w64 ((l24 : Int).tdiv 2)).toNat * 1)) h102 fun s103 =>
  (.string s103 : Value) = .string s38) ∧
  (ldL a15 h102 fun o104 l104 c104 =>
  (.slice o104 l104 c104 : Value) = .slice o36 l36 c36) ∧
  (newB [.slice r75.a r75.len r75.cap, .slice r97.a r97.len r97.cap] 103 h102 fun a105 h106 =>
  (ldS (a37.add ((w64 ((l24 : Int).tdiv 2)).toNat * 1)) h106 fun s107 =>
  (.string s107 : Value) = .string s38) ∧
  (ldL a15 h106 fun o108 l108 c108 =>
  (.slice o108 l108 c108 : Value) = .slice o36 l36 c36) ∧
  J26 ((.iface 101 (.pointer (some a101)) : Value), (.iface 101 (.pointer (some a105)) : Value), s38, true) h106) ∧
  (newB [.slice r75.a r75.len r75.cap, .slice r97.a r97.len r97.cap] 103 h102 fun a109 h110 =>
  (ldS (a37.add ((w64 ((l24 : Int).tdiv 2)).toNat * 1)) h110 fun s111 =>
  (.string s111 : Value) = .string s38) ∧
  (ldL a15 h110 fun o112 l112 c112 =>
  (.slice o112 l112 c112 : Value) = .slice o36 l36 c36) ∧
  J26 ((.iface 101 (.pointer (some a101)) : Value), (.iface 101 (.pointer (some a109)) : Value), s38, true) h110)) ∧
  (newB [.slice r75.a r75.len r75.cap, .slice r97.a r97.len r97.cap] 103 h98 fun a113 h114 =>
  (ldS (a37.add ((w64 ((l24 : Int).tdiv 2)).toNat * 1)) h114 fun s115 =>
  (.string s115 : Value) = .string s38) ∧
  (ldL a15 h114 fun o116 l116 c116 =>
  (.slice o116 l116 c116 : Value) = .slice o36 l36 c36) ∧
  newB [.slice r39.a r39.len r39.cap, .slice r46.a r46.len r46.cap] 103 h114 fun a117 h118 =>
  (ldS (a37.add ((w64 ((l24 : Int).tdiv 2)).toNat * 1)) h118 fun s119 =>
  (.string s119 : Value) = .string s38) ∧
  (ldL a15 h118 fun o120 l120 c120 =>
  (.slice o120 l120 c120 : Value) = .slice o36 l36 c36) ∧
  J26 ((.iface 101 (.pointer (some a117)) : Value), (.iface 101 (.pointer (some a113)) : Value), s38, true) h118)))))) (fun J21 =>
  ldL a15 h16 fun o121 l121 c121 =>
  ldL (a15.add 1) h16 fun o122 l122 c122 =>
  (newB [.string x_1] 9 h16 fun a123 h124 =>
  (ldL (a15.add 1) h124 fun o125 l125 c125 =>
  (.slice o125 l125 c125 : Value) = .slice o122 l122 c122) ∧
  (ldL a15 h124 fun o126 l126 c126 =>
  (.slice o126 l126 c126 : Value) = .slice o121 l121 c121) ∧
  (CallT Try.prog slices_Insert_string_no [.slice o121 l121 c121, .int .i64 r4.1, .slice (some a123) 1 1] h124 [.sc (.sl)] fun (r127 : Sl) h128 =>
  (ldL (a15.add 1) h128 fun o129 l129 c129 =>
  (.slice o129 l129 c129 : Value) = .slice o122 l122 c122) ∧
  newB [.string x_2] 9 h128 fun a130 h131 =>
  (ldL (a15.add 1) h131 fun o132 l132 c132 =>
  (.slice o132 l132 c132 : Value) = .slice o122 l122 c122) ∧
  CallT Try.prog slices_Insert_string_no [.slice o122 l122 c122, .int .i64 r4.1, .slice (some a130) 1 1] h131 [.sc (.sl)] fun (r133 : Sl) h134 =>
  stC a15 (.slice r127.a r127.len r127.cap) h134 fun h135 =>
  stC (a15.add 1) (.slice r133.a r133.len r133.cap) h135 fun h136 =>
  J21 () h136) ∧
  (newB [.string x_2] 9 h124 fun a137 h138 =>
  (ldL (a15.add 1) h138 fun o139 l139 c139 =>
  (.slice o139 l139 c139 : Value) = .slice o122 l122 c122) ∧
  (ldL a15 h138 fun o140 l140 c140 =>
  (.slice o140 l140 c140 : Value) = .slice o121 l121 c121) ∧
  CallT Try.prog slices_Insert_string_no [.slice o121 l121 c121, .int .i64 r4.1, .slice (some a123) 1 1] h138 [.sc (.sl)] fun (r141 : Sl) h142 =>
  (ldL (a15.add 1) h142 fun o143 l143 c143 =>
  (.slice o143 l143 c143 : Value) = .slice o122 l122 c122) ∧
  CallT Try.prog slices_Insert_string_no [.slice o122 l122 c122, .int .i64 r4.1, .slice (some a137) 1 1] h142 [.sc (.sl)] fun (r144 : Sl) h145 =>
  stC a15 (.slice r141.a r141.len r141.cap) h145 fun h146 =>
  stC (a15.add 1) (.slice r144.a r144.len r144.cap) h146 fun h147 =>
  J21 () h147)) ∧
  (newB [.string x_2] 9 h16 fun a148 h149 =>
  (ldL (a15.add 1) h149 fun o150 l150 c150 =>
  (.slice o150 l150 c150 : Value) = .slice o122 l122 c122) ∧
  (ldL a15 h149 fun o151 l151 c151 =>
  (.slice o151 l151 c151 : Value) = .slice o121 l121 c121) ∧
  newB [.string x_1] 9 h149 fun a152 h153 =>
  (ldL (a15.add 1) h153 fun o154 l154 c154 =>
  (.slice o154 l154 c154 : Value) = .slice o122 l122 c122) ∧
  (ldL a15 h153 fun o155 l155 c155 =>
  (.slice o155 l155 c155 : Value) = .slice o121 l121 c121) ∧
  CallT Try.prog slices_Insert_string_no [.slice o121 l121 c121, .int .i64 r4.1, .slice (some a152) 1 1] h153 [.sc (.sl)] fun (r156 : Sl) h157 =>
  (ldL (a15.add 1) h157 fun o158 l158 c158 =>
  (.slice o158 l158 c158 : Value) = .slice o122 l122 c122) ∧
  CallT Try.prog slices_Insert_string_no [.slice o122 l122 c122, .int .i64 r4.1, .slice (some a148) 1 1] h157 [.sc (.sl)] fun (r159 : Sl) h160 =>
  stC a15 (.slice r156.a r156.len r156.cap) h160 fun h161 =>
  stC (a15.add 1) (.slice r159.a r159.len r159.cap) h161 fun h162 =>
  J21 () h162)))) (
  isP x_0 124 (fun p163 =>
  CallT Try.prog btree_inner_at_no [.pointer p163, .string x_1] h [.sc (.int .i64)] fun (r164 : Int) h165 =>
  nn p163 fun a166 =>
  ldL (a166.add 1) h165 fun o167 l167 c167 =>
  idx o167 l167 r164 fun a168 =>
  ldV (a168.add (r164.toNat * 1)) h165 fun v169 =>
  CallT Try.prog btree_put_no [v169, .string x_1, .string x_2] h165 [.sc (.raw), .sc (.raw), .sc (.str), .sc (.bool)] fun (r170 : Value × Value × ByteArray × Bool) h171 =>
  nn p163 fun a172 =>
  ldL a172 h171 fun o173 l173 c173 =>
  nn p163 fun a174 =>
  ldL (a174.add 1) h171 fun o175 l175 c175 =>
  CallT Try.prog slices_Clone_string_no [.slice o173 l173 c173] h171 [.sc (.sl)] fun (r176 : Sl) h177 =>
  (ldL (a174.add 1) h177 fun o178 l178 c178 =>
  (.slice o178 l178 c178 : Value) = .slice o175 l175 c175) ∧
  CallT Try.prog slices_Clone_btree_node_no [.slice o175 l175 c175] h177 [.sc (.sl)] fun (r179 : Sl) h180 =>
  newB [.slice r176.a r176.len r176.cap, .slice r179.a r179.len r179.cap] 130 h180 fun a181 h182 =>
  ldL (a181.add 1) h182 fun o183 l183 c183 =>
  idx o183 l183 r164 fun a184 =>
  stC (a184.add (r164.toNat * 1)) (r170.1) h182 fun h185 =>
  isNilI r170.2.1 fun b186 =>
  cnd b186 (
  R ((.iface 124 (.pointer (some a181)) : Value), (.nilIface : Value), (⟨#[]⟩ : ByteArray), r170.2.2.2) h185) (
  withJ (σ := Unit) (fun s187 h189 => -- s187: 
  ldL (a181.add 1) h189 fun o190 l190 c190 =>
  cnd (decide ((l190 : Int) ≤ 8)) (
  R ((.iface 124 (.pointer (some a181)) : Value), (.nilIface : Value), (⟨#[]⟩ : ByteArray), r170.2.2.2) h189) (
  ldL (a181.add 1) h189 fun o191 l191 c191 =>
  withJ (σ := Value × Value × ByteArray × Bool) (fun s192 h194 => -- s192: t6, t7, t8, t9
  R (s192.1, s192.2.1, s192.2.2.1, s192.2.2.2) h194) (fun J193 =>
  ldL a181 h189 fun o195 l195 c195 =>
  lsl 1 o195 c195 0 (w64 ((w64 ((l191 : Int).tdiv 2)) - 1)) (c195 : Int) fun o196 l196 c196 =>
  ldL (a181.add 1) h189 fun o197 l197 c197 =>
  lsl 1 o197 c197 0 (w64 ((l191 : Int).tdiv 2)) (c197 : Int) fun o198 l198 c198 =>
  ldL a181 h189 fun o199 l199 c199 =>
  lsl 1 o199 c199 (w64 ((l191 : Int).tdiv 2)) (l199 : Int) (c199 : Int) fun o200 l200 c200 =>
  ldL (a181.add 1) h189 fun o201 l201 c201 =>
  lsl 1 o201 c201 (w64 ((l191 : Int).tdiv 2)) (l201 : Int) (c201 : Int) fun o202 l202 c202 =>
  ldL a181 h189 fun o203 l203 c203 =>
  idx o203 l203 (w64 ((w64 ((l191 : Int).tdiv 2)) - 1)) fun a204 =>
  ldS (a204.add ((w64 ((w64 ((l191 : Int).tdiv 2)) - 1)).toNat * 1)) h189 fun s205 =>
  CallT Try.prog slices_Clone_string_no [.slice o196 l196 c196] h189 [.sc (.sl)] fun (r206 : Sl) h207 =>
  (ldS (a204.add ((w64 ((w64 ((l191 : Int).tdiv 2)) - 1)).toNat * 1)) h207 fun s208 =>
  (.string s208 : Value) = .string s205) ∧
  (ldL a181 h207 fun o209 l209 c209 =>
  (.slice o209 l209 c209 : Value) = .slice o203 l203 c203) ∧
  (ldL (a181.add 1) h207 fun o210 l210 c210 =>
  (.slice o210 l210 c210 : Value) = .slice o201 l201 c201) ∧
  (ldL a181 h207 fun o211 l211 c211 =>
  (.slice o211 l211 c211 : Value) = .slice o199 l199 c199) ∧
  (ldL (a181.add 1) h207 fun o212 l212 c212 =>
  (.slice o212 l212 c212 : Value) = .slice o197 l197 c197) ∧
  CallT Try.prog slices_Clone_btree_node_no [.slice o198 l198 c198] h207 [.sc (.sl)] fun (r213 : Sl) h214 =>
  (ldS (a204.add ((w64 ((w64 ((l191 : Int).tdiv 2)) - 1)).toNat * 1)) h214 fun s215 =>
  (.string s215 : Value) = .string s205) ∧
  (ldL a181 h214 fun o216 l216 c216 =>
  (.slice o216 l216 c216 : Value) = .slice o203 l203 c203) ∧
  (ldL (a181.add 1) h214 fun o217 l217 c217 =>
  (.slice o217 l217 c217 : Value) = .slice o201 l201 c201) ∧
  (ldL a181 h214 fun o218 l218 c218 =>
  (.slice o218 l218 c218 : Value) = .slice o199 l199 c199) ∧
  (newB [.slice r206.a r206.len r206.cap, .slice r213.a r213.len r213.cap] 130 h214 fun a219 h220 =>
  (ldS (a204.add ((w64 ((w64 ((l191 : Int).tdiv 2)) - 1)).toNat * 1)) h220 fun s221 =>
  (.string s221 : Value) = .string s205) ∧
  (ldL a181 h220 fun o222 l222 c222 =>
  (.slice o222 l222 c222 : Value) = .slice o203 l203 c203) ∧
  (ldL (a181.add 1) h220 fun o223 l223 c223 =>
  (.slice o223 l223 c223 : Value) = .slice o201 l201 c201) ∧
  (ldL a181 h220 fun o224 l224 c224 =>
  (.slice o224 l224 c224 : Value) = .slice o199 l199 c199) ∧
  CallT Try.prog slices_Clone_string_no [.slice o200 l200 c200] h220 [.sc (.sl)] fun (r225 : Sl) h226 =>
  (ldS (a204.add ((w64 ((w64 ((l191 : Int).tdiv 2)) - 1)).toNat * 1)) h226 fun s227 =>
  (.string s227 : Value) = .string s205) ∧
  (ldL a181 h226 fun o228 l228 c228 =>
  (.slice o228 l228 c228 : Value) = .slice o203 l203 c203) ∧
  (ldL (a181.add 1) h226 fun o229 l229 c229 =>
  (.slice o229 l229 c229 : Value) = .slice o201 l201 c201) ∧
  CallT Try.prog slices_Clone_btree_node_no [.slice o202 l202 c202] h226 [.sc (.sl)] fun (r230 : Sl) h231 =>
  (ldS (a204.add ((w64 ((w64 ((l191 : Int).tdiv 2)) - 1)).toNat * 1)) h231 fun s232 =>
  (.string s232 : Value) = .string s205) ∧
  (ldL a181 h231 fun o233 l233 c233 =>
  (.slice o233 l233 c233 : Value) = .slice o203 l203 c203) ∧
  (newB [.slice r225.a r225.len r225.cap, .slice r230.a r230.len r230.cap] 130 h231 fun a234 h235 =>
  (ldS (a204.add ((w64 ((w64 ((l191 : Int).tdiv 2)) - 1)).toNat * 1)) h235 fun s236 =>
  (.string s236 : Value) = .string s205) ∧
  (ldL a181 h235 fun o237 l237 c237 =>
  (.slice o237 l237 c237 : Value) = .slice o203 l203 c203) ∧
  J193 ((.iface 124 (.pointer (some a219)) : Value), (.iface 124 (.pointer (some a234)) : Value), s205, r170.2.2.2) h235) ∧
  (newB [.slice r225.a r225.len r225.cap, .slice r230.a r230.len r230.cap] 130 h231 fun a238 h239 =>
  (ldS (a204.add ((w64 ((w64 ((l191 : Int).tdiv 2)) - 1)).toNat * 1)) h239 fun s240 =>
  (.string s240 : Value) = .string s205) ∧
  (ldL a181 h239 fun o241 l241 c241 =>
  (.slice o241 l241 c241 : Value) = .slice o203 l203 c203) ∧
  J193 ((.iface 124 (.pointer (some a219)) : Value), (.iface 124 (.pointer (some a238)) : Value), s205, r170.2.2.2) h239)) ∧
  (CallT Try.prog slices_Clone_string_no [.slice o200 l200 c200] h214 [.sc (.sl)] fun (r242 : Sl) h243 =>
  (ldS (a204.add ((w64 ((w64 ((l191 : Int).tdiv 2)) - 1)).toNat * 1)) h243 fun s244 =>
  (.string s244 : Value) = .string s205) ∧
  (ldL a181 h243 fun o245 l245 c245 =>
  (.slice o245 l245 c245 : Value) = .slice o203 l203 c203) ∧
  (ldL (a181.add 1) h243 fun o246 l246 c246 =>
  (.slice o246 l246 c246 : Value) = .slice o201 l201 c201) ∧
  (newB [.slice r206.a r206.len r206.cap, .slice r213.a r213.len r213.cap] 130 h243 fun a247 h248 =>
  (ldS (a204.add ((w64 ((w64 ((l191 : Int).tdiv 2)) - 1)).toNat * 1)) h248 fun s249 =>
  (.string s249 : Value) = .string s205) ∧
  (ldL a181 h248 fun o250 l250 c250 =>
  (.slice o250 l250 c250 : Value) = .slice o203 l203 c203) ∧
  (ldL (a181.add 1) h248 fun o251 l251 c251 =>
  (.slice o251 l251 c251 : Value) = .slice o201 l201 c201) ∧
  CallT Try.prog slices_Clone_btree_node_no [.slice o202 l202 c202] h248 [.sc (.sl)] fun (r252 : Sl) h253 =>
  (ldS (a204.add ((w64 ((w64 ((l191 : Int).tdiv 2)) - 1)).toNat * 1)) h253 fun s254 =>
  (.string s254 : Value) = .string s205) ∧
  (ldL a181 h253 fun o255 l255 c255 =>
  (.slice o255 l255 c255 : Value) = .slice o203 l203 c203) ∧
  (newB [.slice r242.a r242.len r242.cap, .slice r252.a r252.len r252.cap] 130 h253 fun a256 h257 =>
  (ldS (a204.add ((w64 ((w64 ((l191 : Int).tdiv 2)) - 1)).toNat * 1)) h257 fun s258 =>
  (.string s258 : Value) = .string s205) ∧
  (ldL a181 h257 fun o259 l259 c259 =>
  (.slice o259 l259 c259 : Value) = .slice o203 l203 c203) ∧
  J193 ((.iface 124 (.pointer (some a247)) : Value), (.iface 124 (.pointer (some a256)) : Value), s205, r170.2.2.2) h257) ∧
  (newB [.slice r242.a r242.len r242.cap, .slice r252.a r252.len r252.cap] 130 h253 fun a260 h261 =>
  (ldS (a204.add ((w64 ((w64 ((l191 : Int).tdiv 2)) - 1)).toNat * 1)) h261 fun s262 =>
  (.string s262 : Value) = .string s205) ∧
  (ldL a181 h261 fun o263 l263 c263 =>
  (.slice o263 l263 c263 : Value) = .slice o203 l203 c203) ∧
  J193 ((.iface 124 (.pointer (some a247)) : Value), (.iface 124 (.pointer (some a260)) : Value), s205, r170.2.2.2) h261)) ∧
  (CallT Try.prog slices_Clone_btree_node_no [.slice o202 l202 c202] h243 [.sc (.sl)] fun (r264 : Sl) h265 =>
  (ldS (a204.add ((w64 ((w64 ((l191 : Int).tdiv 2)) - 1)).toNat * 1)) h265 fun s266 =>
  (.string s266 : Value) = .string s205) ∧
  (ldL a181 h265 fun o267 l267 c267 =>
  (.slice o267 l267 c267 : Value) = .slice o203 l203 c203) ∧
  (newB [.slice r206.a r206.len r206.cap, .slice r213.a r213.len r213.cap] 130 h265 fun a268 h269 =>
  (ldS (a204.add ((w64 ((w64 ((l191 : Int).tdiv 2)) - 1)).toNat * 1)) h269 fun s270 =>
  (.string s270 : Value) = .string s205) ∧
  (ldL a181 h269 fun o271 l271 c271 =>
  (.slice o271 l271 c271 : Value) = .slice o203 l203 c203) ∧
  (newB [.slice r242.a r242.len r242.cap, .slice r264.a r264.len r264.cap] 130 h269 fun a272 h273 =>
  (ldS (a204.add ((w64 ((w64 ((l191 : Int).tdiv 2)) - 1)).toNat * 1)) h273 fun s274 =>
  (.string s274 : Value) = .string s205) ∧
  (ldL a181 h273 fun o275 l275 c275 =>
  (.slice o275 l275 c275 : Value) = .slice o203 l203 c203) ∧
  J193 ((.iface 124 (.pointer (some a268)) : Value), (.iface 124 (.pointer (some a272)) : Value), s205, r170.2.2.2) h273) ∧
  (newB [.slice r242.a r242.len r242.cap, .slice r264.a r264.len r264.cap] 130 h269 fun a276 h277 =>
  (ldS (a204.add ((w64 ((w64 ((l191 : Int).tdiv 2)) - 1)).toNat * 1)) h277 fun s278 =>
  (.string s278 : Value) = .string s205) ∧
  (ldL a181 h277 fun o279 l279 c279 =>
  (.slice o279 l279 c279 : Value) = .slice o203 l203 c203) ∧
  J193 ((.iface 124 (.pointer (some a268)) : Value), (.iface 124 (.pointer (some a276)) : Value), s205, r170.2.2.2) h277)) ∧
  (newB [.slice r242.a r242.len r242.cap, .slice r264.a r264.len r264.cap] 130 h265 fun a280 h281 =>
  (ldS (a204.add ((w64 ((w64 ((l191 : Int).tdiv 2)) - 1)).toNat * 1)) h281 fun s282 =>
  (.string s282 : Value) = .string s205) ∧
  (ldL a181 h281 fun o283 l283 c283 =>
  (.slice o283 l283 c283 : Value) = .slice o203 l203 c203) ∧
  newB [.slice r206.a r206.len r206.cap, .slice r213.a r213.len r213.cap] 130 h281 fun a284 h285 =>
  (ldS (a204.add ((w64 ((w64 ((l191 : Int).tdiv 2)) - 1)).toNat * 1)) h285 fun s286 =>
  (.string s286 : Value) = .string s205) ∧
  (ldL a181 h285 fun o287 l287 c287 =>
  (.slice o287 l287 c287 : Value) = .slice o203 l203 c203) ∧
  J193 ((.iface 124 (.pointer (some a284)) : Value), (.iface 124 (.pointer (some a280)) : Value), s205, r170.2.2.2) h285)))))) (fun J188 =>
  ldL a181 h185 fun o288 l288 c288 =>
  ldL (a181.add 1) h185 fun o289 l289 c289 =>
  (newB [.string r170.2.2.1] 9 h185 fun a290 h291 =>
  (ldL (a181.add 1) h291 fun o292 l292 c292 =>
  (.slice o292 l292 c292 : Value) = .slice o289 l289 c289) ∧
  (ldL a181 h291 fun o293 l293 c293 =>
  (.slice o293 l293 c293 : Value) = .slice o288 l288 c288) ∧
  (CallT Try.prog slices_Insert_string_no [.slice o288 l288 c288, .int .i64 r164, .slice (some a290) 1 1] h291 [.sc (.sl)] fun (r294 : Sl) h295 =>
  (ldL (a181.add 1) h295 fun o296 l296 c296 =>
  (.slice o296 l296 c296 : Value) = .slice o289 l289 c289) ∧
  one1 (r170.2.1) (
  newB [r170.2.1] 93 h295 fun a297 h298 =>
  (ldL (a181.add 1) h298 fun o299 l299 c299 =>
  (.slice o299 l299 c299 : Value) = .slice o289 l289 c289) ∧
  CallT Try.prog slices_Insert_btree_node_no [.slice o289 l289 c289, .int .i64 (w64 (r164 + 1)), .slice (some a297) 1 1] h298 [.sc (.sl)] fun (r300 : Sl) h301 =>
  stC a181 (.slice r294.a r294.len r294.cap) h301 fun h302 =>
  stC (a181.add 1) (.slice r300.a r300.len r300.cap) h302 fun h303 =>
  J188 () h303)) ∧
  (one1 (r170.2.1) (
  newB [r170.2.1] 93 h291 fun a304 h305 =>
  (ldL (a181.add 1) h305 fun o306 l306 c306 =>
  (.slice o306 l306 c306 : Value) = .slice o289 l289 c289) ∧
  (ldL a181 h305 fun o307 l307 c307 =>
  (.slice o307 l307 c307 : Value) = .slice o288 l288 c288) ∧
  CallT Try.prog slices_Insert_string_no [.slice o288 l288 c288, .int .i64 r164, .slice (some a290) 1 1] h305 [.sc (.sl)] fun (r308 : Sl) h309 =>
  (ldL (a181.add 1) h309 fun o310 l310 c310 =>
  (.slice o310 l310 c310 : Value) = .slice o289 l289 c289) ∧
  CallT Try.prog slices_Insert_btree_node_no [.slice o289 l289 c289, .int .i64 (w64 (r164 + 1)), .slice (some a304) 1 1] h309 [.sc (.sl)] fun (r311 : Sl) h312 =>
  stC a181 (.slice r308.a r308.len r308.cap) h312 fun h313 =>
  stC (a181.add 1) (.slice r311.a r311.len r311.cap) h313 fun h314 =>
  J188 () h314))) ∧
  (one1 (r170.2.1) (
  newB [r170.2.1] 93 h185 fun a315 h316 =>
  (ldL (a181.add 1) h316 fun o317 l317 c317 =>
  (.slice o317 l317 c317 : Value) = .slice o289 l289 c289) ∧
  (ldL a181 h316 fun o318 l318 c318 =>
  (.slice o318 l318 c318 : Value) = .slice o288 l288 c288) ∧
  newB [.string r170.2.2.1] 9 h316 fun a319 h320 =>
  (ldL (a181.add 1) h320 fun o321 l321 c321 =>
  (.slice o321 l321 c321 : Value) = .slice o289 l289 c289) ∧
  (ldL a181 h320 fun o322 l322 c322 =>
  (.slice o322 l322 c322 : Value) = .slice o288 l288 c288) ∧
  CallT Try.prog slices_Insert_string_no [.slice o288 l288 c288, .int .i64 r164, .slice (some a319) 1 1] h320 [.sc (.sl)] fun (r323 : Sl) h324 =>
  (ldL (a181.add 1) h324 fun o325 l325 c325 =>
  (.slice o325 l325 c325 : Value) = .slice o289 l289 c289) ∧
  CallT Try.prog slices_Insert_btree_node_no [.slice o289 l289 c289, .int .i64 (w64 (r164 + 1)), .slice (some a315) 1 1] h324 [.sc (.sl)] fun (r326 : Sl) h327 =>
  stC a181 (.slice r323.a r323.len r323.cap) h327 fun h328 =>
  stC (a181.add 1) (.slice r326.a r326.len r326.cap) h328 fun h329 =>
  J188 () h329))))) (
  False))
theorem btree_put_eq (x_0 : Value) (x_1 : ByteArray) (x_2 : ByteArray) (R : Value × Value × ByteArray × Bool → Heap → Prop) (h : Heap) : fnX Try.prog Fns.fns Try.f72 (.s .n (.s (.s .n (.s .n (.s .n .n))) (.s .n (.s .n (.s .n (.s .n (.s .n (.s (.s .n (.s (.s .n .n) .n)) (.j [] .n (.s (.s .n (.s (.s .n .n) .n)) (.s .n (.j [(6, .raw), (7, .raw), (8, .str), (9, .bool)] .n .n)))))))))))) [.sc (.raw), .sc (.raw), .sc (.str), .sc (.bool)] [x_0, .string x_1, .string x_2] h R = btree_put x_0 x_1 x_2 R h := by kernel_rfl
theorem btree_put_call (x_0 : Value) (x_1 : ByteArray) (x_2 : ByteArray) {R : Value × Value × ByteArray × Bool → Heap → Prop} {h : Heap} (hx : btree_put x_0 x_1 x_2 R h) : CallT Try.prog 72 [x_0, .string x_1, .string x_2] h [.sc (.raw), .sc (.raw), .sc (.str), .sc (.bool)] R :=
  call_of_fnX fnsOk mixed Try.func72 (by kernel_rfl) (by rw [btree_put_eq]; exact hx)

/-- cmp.Less[string] (75) -/
def cmp_Less_string (x_0 : ByteArray) (y_1 : ByteArray) (R : Bool → Heap → Prop) (h : Heap) : Prop :=
  withJ (σ := Bool) (fun s1 h3 => -- s1: t4
  R s1 h3) (fun J2 =>
  CallT Try.prog cmp_isNaN_string_no [.string x_0] h [.sc (.bool)] fun (r4 : Bool) h5 =>
  cnd r4 (
  CallT Try.prog cmp_isNaN_string_no [.string y_1] h5 [.sc (.bool)] fun (r6 : Bool) h7 =>
  cnd (!r6) (
  J2 true h7) (
  J2 (slt x_0 y_1) h7)) (
  J2 (slt x_0 y_1) h5))
theorem cmp_Less_string_eq (x_0 : ByteArray) (y_1 : ByteArray) (R : Bool → Heap → Prop) (h : Heap) : fnX Try.prog Fns.fns Try.f75 (.s .n (.j [(4, .bool)] .n .n)) [.sc (.bool)] [.string x_0, .string y_1] h R = cmp_Less_string x_0 y_1 R h := by kernel_rfl
theorem cmp_Less_string_call (x_0 : ByteArray) (y_1 : ByteArray) {R : Bool → Heap → Prop} {h : Heap} (hx : cmp_Less_string x_0 y_1 R h) : CallT Try.prog 75 [.string x_0, .string y_1] h [.sc (.bool)] R :=
  call_of_fnX fnsOk mixed Try.func75 (by kernel_rfl) (by rw [cmp_Less_string_eq]; exact hx)

/-- slices.isNaN[string] (76) -/
def slices_isNaN_string (x_0 : ByteArray) (R : Bool → Heap → Prop) (h : Heap) : Prop :=
  R (!seq x_0 x_0) h
theorem slices_isNaN_string_eq (x_0 : ByteArray) (R : Bool → Heap → Prop) (h : Heap) : fnX Try.prog Fns.fns Try.f76 (.s .n (.s .n .n)) [.sc (.bool)] [.string x_0] h R = slices_isNaN_string x_0 R h := by kernel_rfl
theorem slices_isNaN_string_call (x_0 : ByteArray) {R : Bool → Heap → Prop} {h : Heap} (hx : slices_isNaN_string x_0 R h) : CallT Try.prog 76 [.string x_0] h [.sc (.bool)] R :=
  call_of_fnX fnsOk mixed Try.func76 (by kernel_rfl) (by rw [slices_isNaN_string_eq]; exact hx)

/-- sort.Search (77) -/
def sort_Search (n_0 : Int) (f_1 : Value) (R : Int → Heap → Prop) (h : Heap) : Prop :=
  LoopT (σ := Int × Int) (fun X2 s1 h3 => -- s1: i, j
  cnd (decide (s1.1 < s1.2)) (
  callY Try.prog (f_1) [.int .i64 (w64 ((shrI .u64 (IntKind.u64.wrap ((w64 (s1.1 + s1.2)))) 1)))] h3 fun (r4 : Bool) h5 =>
  cnd (!r4) (
  X2 ((w64 ((w64 ((shrI .u64 (IntKind.u64.wrap ((w64 (s1.1 + s1.2)))) 1))) + 1)), s1.2) h5) (
  X2 (s1.1, (w64 ((shrI .u64 (IntKind.u64.wrap ((w64 (s1.1 + s1.2)))) 1)))) h5)) (
  R s1.1 h3)) (0, n_0) h
theorem sort_Search_eq (n_0 : Int) (f_1 : Value) (R : Int → Heap → Prop) (h : Heap) : fnX Try.prog Fns.fns Try.f77 (.s .n (.s .n (.s (.b (.l [(5, .int .i64), (6, .int .i64)] (.s (.s .n (.s .n .n)) (.b (.s .n (.s .n (.s .n .n))))))) (.s .n .n)))) [.sc (.int .i64)] [.int .i64 n_0, f_1] h R = sort_Search n_0 f_1 R h := by kernel_rfl
theorem sort_Search_call (n_0 : Int) (f_1 : Value) {R : Int → Heap → Prop} {h : Heap} (hx : sort_Search n_0 f_1 R h) : CallT Try.prog 77 [.int .i64 n_0, f_1] h [.sc (.int .i64)] R :=
  call_of_fnX fnsOk mixed Try.func77 (by kernel_rfl) (by rw [sort_Search_eq]; exact hx)

/-- (*stowage/btree.inner).at$1 (78) -/
def btree_inner_at_1 (i_0 : Int) (free_0 : Option Addr) (free_1 : Option Addr) (R : Bool → Heap → Prop) (h : Heap) : Prop :=
  nn free_0 fun a1 =>
  ldP a1 h fun p2 =>
  nn p2 fun a3 =>
  ldL a3 h fun o4 l4 c4 =>
  idx o4 l4 i_0 fun a5 =>
  ldS (a5.add (i_0.toNat * 1)) h fun s6 =>
  nn free_1 fun a7 =>
  ldS a7 h fun s8 =>
  R (!(slt s6 s8 || seq s6 s8)) h
theorem btree_inner_at_1_eq (i_0 : Int) (free_0 : Option Addr) (free_1 : Option Addr) (R : Bool → Heap → Prop) (h : Heap) : fnX Try.prog Fns.fns Try.f78 (.s .n (.s .n .n)) [.sc (.bool)] [.int .i64 i_0, .pointer free_0, .pointer free_1] h R = btree_inner_at_1 i_0 free_0 free_1 R h := by kernel_rfl
theorem btree_inner_at_1_call (i_0 : Int) (free_0 : Option Addr) (free_1 : Option Addr) {R : Bool → Heap → Prop} {h : Heap} (hx : btree_inner_at_1 i_0 free_0 free_1 R h) : CallT Try.prog 78 [.int .i64 i_0, .pointer free_0, .pointer free_1] h [.sc (.bool)] R :=
  call_of_fnX fnsOk mixed Try.func78 (by kernel_rfl) (by rw [btree_inner_at_1_eq]; exact hx)

/-- slices.Delete[[]string,string] (81) -/
def slices_Delete_string (s_0 : Sl) (i_1 : Int) (j_2 : Int) (R : Sl → Heap → Prop) (h : Heap) : Prop :=
  lsl 1 s_0.a s_0.cap i_1 j_2 (s_0.len : Int) fun o1 l1 c1 =>
  cnd (i_1 == j_2) (
  R s_0 h) (
  lsl 1 s_0.a s_0.cap 0 i_1 (s_0.cap : Int) fun o2 l2 c2 =>
  lsl 1 s_0.a s_0.cap j_2 (s_0.len : Int) (s_0.cap : Int) fun o3 l3 c3 =>
  rdCells o3 (l3 * 1) h fun cs7 =>
  app [.string (⟨#[]⟩ : ByteArray)] 9 1 16 o2 l2 c2 cs7 l3 h fun o4 c5 h6 =>
  lsl 1 o4 c5 ((l2 + l3) : Int) (s_0.len : Int) (c5 : Int) fun o8 l8 c8 =>
  clrX [.string (⟨#[]⟩ : ByteArray)] o8 l8 h6 fun h9 =>
  R (⟨o4, (l2 + l3), c5⟩ : Sl) h9)
theorem slices_Delete_string_eq (s_0 : Sl) (i_1 : Int) (j_2 : Int) (R : Sl → Heap → Prop) (h : Heap) : fnX Try.prog Fns.fns Try.f81 (.s .n (.s .n (.s (.s .n (.s (.s .n .n) .n)) (.s .n (.s .n (.s .n (.s .n .n))))))) [.sc (.sl)] [.slice s_0.a s_0.len s_0.cap, .int .i64 i_1, .int .i64 j_2] h R = slices_Delete_string s_0 i_1 j_2 R h := by kernel_rfl
theorem slices_Delete_string_call (s_0 : Sl) (i_1 : Int) (j_2 : Int) {R : Sl → Heap → Prop} {h : Heap} (hx : slices_Delete_string s_0 i_1 j_2 R h) : CallT Try.prog 81 [.slice s_0.a s_0.len s_0.cap, .int .i64 i_1, .int .i64 j_2] h [.sc (.sl)] R :=
  call_of_fnX fnsOk mixed Try.func81 (by kernel_rfl) (by rw [slices_Delete_string_eq]; exact hx)

/-- slices.Clone[[]string,string] (82) -/
def slices_Clone_string (s_0 : Sl) (R : Sl → Heap → Prop) (h : Heap) : Prop :=
  cnd s_0.a.isNone (
  R (⟨none, 0, 0⟩ : Sl) h) (
  newB [] 9 h fun a1 h2 =>
  rdCells s_0.a (s_0.len * 1) h2 fun cs6 =>
  app [.string (⟨#[]⟩ : ByteArray)] 9 1 16 (some a1) 0 0 cs6 s_0.len h2 fun o3 c4 h5 =>
  R (⟨o3, (0 + s_0.len), c4⟩ : Sl) h5)
theorem slices_Clone_string_eq (s_0 : Sl) (R : Sl → Heap → Prop) (h : Heap) : fnX Try.prog Fns.fns Try.f82 (.s .n (.s (.s .n (.s (.s .n .n) .n)) (.s .n .n))) [.sc (.sl)] [.slice s_0.a s_0.len s_0.cap] h R = slices_Clone_string s_0 R h := by kernel_rfl
theorem slices_Clone_string_call (s_0 : Sl) {R : Sl → Heap → Prop} {h : Heap} (hx : slices_Clone_string s_0 R h) : CallT Try.prog 82 [.slice s_0.a s_0.len s_0.cap] h [.sc (.sl)] R :=
  call_of_fnX fnsOk mixed Try.func82 (by kernel_rfl) (by rw [slices_Clone_string_eq]; exact hx)

/-- slices.Clone[[]stowage/btree.node,stowage/btree.node] (83) -/
def slices_Clone_btree_node (s_0 : Sl) (R : Sl → Heap → Prop) (h : Heap) : Prop :=
  cnd s_0.a.isNone (
  R (⟨none, 0, 0⟩ : Sl) h) (
  newB [] 93 h fun a1 h2 =>
  rdCells s_0.a (s_0.len * 1) h2 fun cs6 =>
  app [.nilIface] 93 1 16 (some a1) 0 0 cs6 s_0.len h2 fun o3 c4 h5 =>
  R (⟨o3, (0 + s_0.len), c4⟩ : Sl) h5)
theorem slices_Clone_btree_node_eq (s_0 : Sl) (R : Sl → Heap → Prop) (h : Heap) : fnX Try.prog Fns.fns Try.f83 (.s .n (.s (.s .n (.s (.s .n .n) .n)) (.s .n .n))) [.sc (.sl)] [.slice s_0.a s_0.len s_0.cap] h R = slices_Clone_btree_node s_0 R h := by kernel_rfl
theorem slices_Clone_btree_node_call (s_0 : Sl) {R : Sl → Heap → Prop} {h : Heap} (hx : slices_Clone_btree_node s_0 R h) : CallT Try.prog 83 [.slice s_0.a s_0.len s_0.cap] h [.sc (.sl)] R :=
  call_of_fnX fnsOk mixed Try.func83 (by kernel_rfl) (by rw [slices_Clone_btree_node_eq]; exact hx)

/-- stowage/btree.joined (84) -/
def btree_joined (x_0 : Value) (x_1 : Value) (x_2 : ByteArray) (R : Value × Value × ByteArray → Heap → Prop) (h : Heap) : Prop :=
  isP x_0 101 (fun p1 =>
  isP x_1 101 (fun p2 =>
  withJ (σ := Sl × Sl) (fun s3 h5 => -- s3: t12, t13
  cnd (decide ((s3.1.len : Int) ≤ 8)) (
  newB [.slice s3.1.a s3.1.len s3.1.cap, .slice s3.2.a s3.2.len s3.2.cap] 103 h5 fun a6 h7 =>
  R ((.iface 101 (.pointer (some a6)) : Value), (.nilIface : Value), (⟨#[]⟩ : ByteArray)) h7) (
  withJ (σ := Value × Value × ByteArray) (fun s8 h10 => -- s8: t6, t7, t8
  R (s8.1, s8.2.1, s8.2.2) h10) (fun J9 =>
  lsl 1 s3.1.a s3.1.cap 0 (w64 ((s3.1.len : Int).tdiv 2)) (s3.1.cap : Int) fun o11 l11 c11 =>
  lsl 1 s3.2.a s3.2.cap 0 (w64 ((s3.1.len : Int).tdiv 2)) (s3.2.cap : Int) fun o12 l12 c12 =>
  lsl 1 s3.1.a s3.1.cap (w64 ((s3.1.len : Int).tdiv 2)) (s3.1.len : Int) (s3.1.cap : Int) fun o13 l13 c13 =>
  lsl 1 s3.2.a s3.2.cap (w64 ((s3.1.len : Int).tdiv 2)) (s3.2.len : Int) (s3.2.cap : Int) fun o14 l14 c14 =>
  idx s3.1.a s3.1.len (w64 ((s3.1.len : Int).tdiv 2)) fun a15 =>
  ldS (a15.add ((w64 ((s3.1.len : Int).tdiv 2)).toNat * 1)) h5 fun s16 =>
  CallT Try.prog slices_Clone_string_no [.slice o11 l11 c11] h5 [.sc (.sl)] fun (r17 : Sl) h18 =>
  (ldS (a15.add ((w64 ((s3.1.len : Int).tdiv 2)).toNat * 1)) h18 fun s19 =>
  (.string s19 : Value) = .string s16) ∧
  CallT Try.prog slices_Clone_string_no [.slice o12 l12 c12] h18 [.sc (.sl)] fun (r20 : Sl) h21 =>
  (ldS (a15.add ((w64 ((s3.1.len : Int).tdiv 2)).toNat * 1)) h21 fun s22 =>
  (.string s22 : Value) = .string s16) ∧
  (newB [.slice r17.a r17.len r17.cap, .slice r20.a r20.len r20.cap] 103 h21 fun a23 h24 =>
  (ldS (a15.add ((w64 ((s3.1.len : Int).tdiv 2)).toNat * 1)) h24 fun s25 =>
  (.string s25 : Value) = .string s16) ∧
  CallT Try.prog slices_Clone_string_no [.slice o13 l13 c13] h24 [.sc (.sl)] fun (r26 : Sl) h27 =>
  (ldS (a15.add ((w64 ((s3.1.len : Int).tdiv 2)).toNat * 1)) h27 fun s28 =>
  (.string s28 : Value) = .string s16) ∧
  CallT Try.prog slices_Clone_string_no [.slice o14 l14 c14] h27 [.sc (.sl)] fun (r29 : Sl) h30 =>
  (ldS (a15.add ((w64 ((s3.1.len : Int).tdiv 2)).toNat * 1)) h30 fun s31 =>
  (.string s31 : Value) = .string s16) ∧
  (newB [.slice r26.a r26.len r26.cap, .slice r29.a r29.len r29.cap] 103 h30 fun a32 h33 =>
  (ldS (a15.add ((w64 ((s3.1.len : Int).tdiv 2)).toNat * 1)) h33 fun s34 =>
  (.string s34 : Value) = .string s16) ∧
  J9 ((.iface 101 (.pointer (some a23)) : Value), (.iface 101 (.pointer (some a32)) : Value), s16) h33) ∧
  (newB [.slice r26.a r26.len r26.cap, .slice r29.a r29.len r29.cap] 103 h30 fun a35 h36 =>
  (ldS (a15.add ((w64 ((s3.1.len : Int).tdiv 2)).toNat * 1)) h36 fun s37 =>
  (.string s37 : Value) = .string s16) ∧
  J9 ((.iface 101 (.pointer (some a23)) : Value), (.iface 101 (.pointer (some a35)) : Value), s16) h36)) ∧
  (CallT Try.prog slices_Clone_string_no [.slice o13 l13 c13] h21 [.sc (.sl)] fun (r38 : Sl) h39 =>
  (ldS (a15.add ((w64 ((s3.1.len : Int).tdiv 2)).toNat * 1)) h39 fun s40 =>
  (.string s40 : Value) = .string s16) ∧
  (newB [.slice r17.a r17.len r17.cap, .slice r20.a r20.len r20.cap] 103 h39 fun a41 h42 =>
  (ldS (a15.add ((w64 ((s3.1.len : Int).tdiv 2)).toNat * 1)) h42 fun s43 =>
  (.string s43 : Value) = .string s16) ∧
  CallT Try.prog slices_Clone_string_no [.slice o14 l14 c14] h42 [.sc (.sl)] fun (r44 : Sl) h45 =>
  (ldS (a15.add ((w64 ((s3.1.len : Int).tdiv 2)).toNat * 1)) h45 fun s46 =>
  (.string s46 : Value) = .string s16) ∧
  (newB [.slice r38.a r38.len r38.cap, .slice r44.a r44.len r44.cap] 103 h45 fun a47 h48 =>
  (ldS (a15.add ((w64 ((s3.1.len : Int).tdiv 2)).toNat * 1)) h48 fun s49 =>
  (.string s49 : Value) = .string s16) ∧
  J9 ((.iface 101 (.pointer (some a41)) : Value), (.iface 101 (.pointer (some a47)) : Value), s16) h48) ∧
  (newB [.slice r38.a r38.len r38.cap, .slice r44.a r44.len r44.cap] 103 h45 fun a50 h51 =>
  (ldS (a15.add ((w64 ((s3.1.len : Int).tdiv 2)).toNat * 1)) h51 fun s52 =>
  (.string s52 : Value) = .string s16) ∧
  J9 ((.iface 101 (.pointer (some a41)) : Value), (.iface 101 (.pointer (some a50)) : Value), s16) h51)) ∧
  (CallT Try.prog slices_Clone_string_no [.slice o14 l14 c14] h39 [.sc (.sl)] fun (r53 : Sl) h54 =>
  (ldS (a15.add ((w64 ((s3.1.len : Int).tdiv 2)).toNat * 1)) h54 fun s55 =>
  (.string s55 : Value) = .string s16) ∧
  (newB [.slice r17.a r17.len r17.cap, .slice r20.a r20.len r20.cap] 103 h54 fun a56 h57 =>
  (ldS (a15.add ((w64 ((s3.1.len : Int).tdiv 2)).toNat * 1)) h57 fun s58 =>
  (.string s58 : Value) = .string s16) ∧
  (newB [.slice r38.a r38.len r38.cap, .slice r53.a r53.len r53.cap] 103 h57 fun a59 h60 =>
  (ldS (a15.add ((w64 ((s3.1.len : Int).tdiv 2)).toNat * 1)) h60 fun s61 =>
  (.string s61 : Value) = .string s16) ∧
  J9 ((.iface 101 (.pointer (some a56)) : Value), (.iface 101 (.pointer (some a59)) : Value), s16) h60) ∧
  (newB [.slice r38.a r38.len r38.cap, .slice r53.a r53.len r53.cap] 103 h57 fun a62 h63 =>
  (ldS (a15.add ((w64 ((s3.1.len : Int).tdiv 2)).toNat * 1)) h63 fun s64 =>
  (.string s64 : Value) = .string s16) ∧
  J9 ((.iface 101 (.pointer (some a56)) : Value), (.iface 101 (.pointer (some a62)) : Value), s16) h63)) ∧
  (newB [.slice r38.a r38.len r38.cap, .slice r53.a r53.len r53.cap] 103 h54 fun a65 h66 =>
  (ldS (a15.add ((w64 ((s3.1.len : Int).tdiv 2)).toNat * 1)) h66 fun s67 =>
  (.string s67 : Value) = .string s16) ∧
  newB [.slice r17.a r17.len r17.cap, .slice r20.a r20.len r20.cap] 103 h66 fun a68 h69 =>
  (ldS (a15.add ((w64 ((s3.1.len : Int).tdiv 2)).toNat * 1)) h69 fun s70 =>
  (.string s70 : Value) = .string s16) ∧
  J9 ((.iface 101 (.pointer (some a68)) : Value), (.iface 101 (.pointer (some a65)) : Value), s16) h69)))))) (fun J4 =>
  nn p1 fun a71 =>
  ldL a71 h fun o72 l72 c72 =>
  nn p2 fun a73 =>
  ldL a73 h fun o74 l74 c74 =>
  nn p1 fun a75 =>
  ldL (a75.add 1) h fun o76 l76 c76 =>
  nn p2 fun a77 =>
  ldL (a77.add 1) h fun o78 l78 c78 =>
  (newB [.slice o72 l72 c72, .slice o74 l74 c74] 80 h fun a79 h80 =>
  (ldL (a77.add 1) h80 fun o81 l81 c81 =>
  (.slice o81 l81 c81 : Value) = .slice o78 l78 c78) ∧
  (ldL (a75.add 1) h80 fun o82 l82 c82 =>
  (.slice o82 l82 c82 : Value) = .slice o76 l76 c76) ∧
  (CallT Try.prog slices_Concat_string_no [.slice (some a79) 2 2] h80 [.sc (.sl)] fun (r83 : Sl) h84 =>
  (ldL (a77.add 1) h84 fun o85 l85 c85 =>
  (.slice o85 l85 c85 : Value) = .slice o78 l78 c78) ∧
  (ldL (a75.add 1) h84 fun o86 l86 c86 =>
  (.slice o86 l86 c86 : Value) = .slice o76 l76 c76) ∧
  newB [.slice o76 l76 c76, .slice o78 l78 c78] 80 h84 fun a87 h88 =>
  CallT Try.prog slices_Concat_string_no [.slice (some a87) 2 2] h88 [.sc (.sl)] fun (r89 : Sl) h90 =>
  J4 (r83, r89) h90) ∧
  (newB [.slice o76 l76 c76, .slice o78 l78 c78] 80 h80 fun a91 h92 =>
  CallT Try.prog slices_Concat_string_no [.slice (some a79) 2 2] h92 [.sc (.sl)] fun (r93 : Sl) h94 =>
  CallT Try.prog slices_Concat_string_no [.slice (some a91) 2 2] h94 [.sc (.sl)] fun (r95 : Sl) h96 =>
  J4 (r93, r95) h96)) ∧
  (newB [.slice o76 l76 c76, .slice o78 l78 c78] 80 h fun a97 h98 =>
  (ldL a73 h98 fun o99 l99 c99 =>
  (.slice o99 l99 c99 : Value) = .slice o74 l74 c74) ∧
  (ldL a71 h98 fun o100 l100 c100 =>
  (.slice o100 l100 c100 : Value) = .slice o72 l72 c72) ∧
  newB [.slice o72 l72 c72, .slice o74 l74 c74] 80 h98 fun a101 h102 =>
  CallT Try.prog slices_Concat_string_no [.slice (some a101) 2 2] h102 [.sc (.sl)] fun (r103 : Sl) h104 =>
  CallT Try.prog slices_Concat_string_no [.slice (some a97) 2 2] h104 [.sc (.sl)] fun (r105 : Sl) h106 =>
  J4 (r103, r105) h106))) (
  False)) (
  isP x_0 124 (fun p107 =>
  isP x_1 124 (fun p108 =>
  withJ (σ := Sl × Sl) (fun s109 h111 => -- s109: t17, t18
  cnd (decide ((s109.2.len : Int) ≤ 8)) (
  newB [.slice s109.1.a s109.1.len s109.1.cap, .slice s109.2.a s109.2.len s109.2.cap] 130 h111 fun a112 h113 =>
  R ((.iface 124 (.pointer (some a112)) : Value), (.nilIface : Value), (⟨#[]⟩ : ByteArray)) h113) (
  withJ (σ := Value × Value × ByteArray) (fun s114 h116 => -- s114: t6, t7, t8
  R (s114.1, s114.2.1, s114.2.2) h116) (fun J115 =>
  lsl 1 s109.1.a s109.1.cap 0 (w64 ((w64 ((s109.2.len : Int).tdiv 2)) - 1)) (s109.1.cap : Int) fun o117 l117 c117 =>
  lsl 1 s109.2.a s109.2.cap 0 (w64 ((s109.2.len : Int).tdiv 2)) (s109.2.cap : Int) fun o118 l118 c118 =>
  lsl 1 s109.1.a s109.1.cap (w64 ((s109.2.len : Int).tdiv 2)) (s109.1.len : Int) (s109.1.cap : Int) fun o119 l119 c119 =>
  lsl 1 s109.2.a s109.2.cap (w64 ((s109.2.len : Int).tdiv 2)) (s109.2.len : Int) (s109.2.cap : Int) fun o120 l120 c120 =>
  idx s109.1.a s109.1.len (w64 ((w64 ((s109.2.len : Int).tdiv 2)) - 1)) fun a121 =>
  ldS (a121.add ((w64 ((w64 ((s109.2.len : Int).tdiv 2)) - 1)).toNat * 1)) h111 fun s122 =>
  CallT Try.prog slices_Clone_string_no [.slice o117 l117 c117] h111 [.sc (.sl)] fun (r123 : Sl) h124 =>
  (ldS (a121.add ((w64 ((w64 ((s109.2.len : Int).tdiv 2)) - 1)).toNat * 1)) h124 fun s125 =>
  (.string s125 : Value) = .string s122) ∧
  CallT Try.prog slices_Clone_btree_node_no [.slice o118 l118 c118] h124 [.sc (.sl)] fun (r126 : Sl) h127 =>
  (ldS (a121.add ((w64 ((w64 ((s109.2.len : Int).tdiv 2)) - 1)).toNat * 1)) h127 fun s128 =>
  (.string s128 : Value) = .string s122) ∧
  (newB [.slice r123.a r123.len r123.cap, .slice r126.a r126.len r126.cap] 130 h127 fun a129 h130 =>
  (ldS (a121.add ((w64 ((w64 ((s109.2.len : Int).tdiv 2)) - 1)).toNat * 1)) h130 fun s131 =>
  (.string s131 : Value) = .string s122) ∧
  CallT Try.prog slices_Clone_string_no [.slice o119 l119 c119] h130 [.sc (.sl)] fun (r132 : Sl) h133 =>
  (ldS (a121.add ((w64 ((w64 ((s109.2.len : Int).tdiv 2)) - 1)).toNat * 1)) h133 fun s134 =>
  (.string s134 : Value) = .string s122) ∧
  CallT Try.prog slices_Clone_btree_node_no [.slice o120 l120 c120] h133 [.sc (.sl)] fun (r135 : Sl) h136 =>
  (ldS (a121.add ((w64 ((w64 ((s109.2.len : Int).tdiv 2)) - 1)).toNat * 1)) h136 fun s137 =>
  (.string s137 : Value) = .string s122) ∧
  (newB [.slice r132.a r132.len r132.cap, .slice r135.a r135.len r135.cap] 130 h136 fun a138 h139 =>
  (ldS (a121.add ((w64 ((w64 ((s109.2.len : Int).tdiv 2)) - 1)).toNat * 1)) h139 fun s140 =>
  (.string s140 : Value) = .string s122) ∧
  J115 ((.iface 124 (.pointer (some a129)) : Value), (.iface 124 (.pointer (some a138)) : Value), s122) h139) ∧
  (newB [.slice r132.a r132.len r132.cap, .slice r135.a r135.len r135.cap] 130 h136 fun a141 h142 =>
  (ldS (a121.add ((w64 ((w64 ((s109.2.len : Int).tdiv 2)) - 1)).toNat * 1)) h142 fun s143 =>
  (.string s143 : Value) = .string s122) ∧
  J115 ((.iface 124 (.pointer (some a129)) : Value), (.iface 124 (.pointer (some a141)) : Value), s122) h142)) ∧
  (CallT Try.prog slices_Clone_string_no [.slice o119 l119 c119] h127 [.sc (.sl)] fun (r144 : Sl) h145 =>
  (ldS (a121.add ((w64 ((w64 ((s109.2.len : Int).tdiv 2)) - 1)).toNat * 1)) h145 fun s146 =>
  (.string s146 : Value) = .string s122) ∧
  (newB [.slice r123.a r123.len r123.cap, .slice r126.a r126.len r126.cap] 130 h145 fun a147 h148 =>
  (ldS (a121.add ((w64 ((w64 ((s109.2.len : Int).tdiv 2)) - 1)).toNat * 1)) h148 fun s149 =>
  (.string s149 : Value) = .string s122) ∧
  CallT Try.prog slices_Clone_btree_node_no [.slice o120 l120 c120] h148 [.sc (.sl)] fun (r150 : Sl) h151 =>
  (ldS (a121.add ((w64 ((w64 ((s109.2.len : Int).tdiv 2)) - 1)).toNat * 1)) h151 fun s152 =>
  (.string s152 : Value) = .string s122) ∧
  (newB [.slice r144.a r144.len r144.cap, .slice r150.a r150.len r150.cap] 130 h151 fun a153 h154 =>
  (ldS (a121.add ((w64 ((w64 ((s109.2.len : Int).tdiv 2)) - 1)).toNat * 1)) h154 fun s155 =>
  (.string s155 : Value) = .string s122) ∧
  J115 ((.iface 124 (.pointer (some a147)) : Value), (.iface 124 (.pointer (some a153)) : Value), s122) h154) ∧
  (newB [.slice r144.a r144.len r144.cap, .slice r150.a r150.len r150.cap] 130 h151 fun a156 h157 =>
  (ldS (a121.add ((w64 ((w64 ((s109.2.len : Int).tdiv 2)) - 1)).toNat * 1)) h157 fun s158 =>
  (.string s158 : Value) = .string s122) ∧
  J115 ((.iface 124 (.pointer (some a147)) : Value), (.iface 124 (.pointer (some a156)) : Value), s122) h157)) ∧
  (CallT Try.prog slices_Clone_btree_node_no [.slice o120 l120 c120] h145 [.sc (.sl)] fun (r159 : Sl) h160 =>
  (ldS (a121.add ((w64 ((w64 ((s109.2.len : Int).tdiv 2)) - 1)).toNat * 1)) h160 fun s161 =>
  (.string s161 : Value) = .string s122) ∧
  (newB [.slice r123.a r123.len r123.cap, .slice r126.a r126.len r126.cap] 130 h160 fun a162 h163 =>
  (ldS (a121.add ((w64 ((w64 ((s109.2.len : Int).tdiv 2)) - 1)).toNat * 1)) h163 fun s164 =>
  (.string s164 : Value) = .string s122) ∧
  (newB [.slice r144.a r144.len r144.cap, .slice r159.a r159.len r159.cap] 130 h163 fun a165 h166 =>
  (ldS (a121.add ((w64 ((w64 ((s109.2.len : Int).tdiv 2)) - 1)).toNat * 1)) h166 fun s167 =>
  (.string s167 : Value) = .string s122) ∧
  J115 ((.iface 124 (.pointer (some a162)) : Value), (.iface 124 (.pointer (some a165)) : Value), s122) h166) ∧
  (newB [.slice r144.a r144.len r144.cap, .slice r159.a r159.len r159.cap] 130 h163 fun a168 h169 =>
  (ldS (a121.add ((w64 ((w64 ((s109.2.len : Int).tdiv 2)) - 1)).toNat * 1)) h169 fun s170 =>
  (.string s170 : Value) = .string s122) ∧
  J115 ((.iface 124 (.pointer (some a162)) : Value), (.iface 124 (.pointer (some a168)) : Value), s122) h169)) ∧
  (newB [.slice r144.a r144.len r144.cap, .slice r159.a r159.len r159.cap] 130 h160 fun a171 h172 =>
  (ldS (a121.add ((w64 ((w64 ((s109.2.len : Int).tdiv 2)) - 1)).toNat * 1)) h172 fun s173 =>
  (.string s173 : Value) = .string s122) ∧
  newB [.slice r123.a r123.len r123.cap, .slice r126.a r126.len r126.cap] 130 h172 fun a174 h175 =>
  (ldS (a121.add ((w64 ((w64 ((s109.2.len : Int).tdiv 2)) - 1)).toNat * 1)) h175 fun s176 =>
  (.string s176 : Value) = .string s122) ∧
  J115 ((.iface 124 (.pointer (some a174)) : Value), (.iface 124 (.pointer (some a171)) : Value), s122) h175)))))) (fun J110 =>
  nn p107 fun a177 =>
  ldL a177 h fun o178 l178 c178 =>
  nn p108 fun a179 =>
  ldL a179 h fun o180 l180 c180 =>
  nn p107 fun a181 =>
  ldL (a181.add 1) h fun o182 l182 c182 =>
  nn p108 fun a183 =>
  ldL (a183.add 1) h fun o184 l184 c184 =>
  (newB [.string x_2] 9 h fun a185 h186 =>
  (ldL (a183.add 1) h186 fun o187 l187 c187 =>
  (.slice o187 l187 c187 : Value) = .slice o184 l184 c184) ∧
  (ldL (a181.add 1) h186 fun o188 l188 c188 =>
  (.slice o188 l188 c188 : Value) = .slice o182 l182 c182) ∧
  (ldL a179 h186 fun o189 l189 c189 =>
  (.slice o189 l189 c189 : Value) = .slice o180 l180 c180) ∧
  (ldL a177 h186 fun o190 l190 c190 =>
  (.slice o190 l190 c190 : Value) = .slice o178 l178 c178) ∧
  (newB [.slice o178 l178 c178, .slice (some a185) 1 1, .slice o180 l180 c180] 80 h186 fun a191 h192 =>
  (ldL (a183.add 1) h192 fun o193 l193 c193 =>
  (.slice o193 l193 c193 : Value) = .slice o184 l184 c184) ∧
  (ldL (a181.add 1) h192 fun o194 l194 c194 =>
  (.slice o194 l194 c194 : Value) = .slice o182 l182 c182) ∧
  (CallT Try.prog slices_Concat_string_no [.slice (some a191) 3 3] h192 [.sc (.sl)] fun (r195 : Sl) h196 =>
  (ldL (a183.add 1) h196 fun o197 l197 c197 =>
  (.slice o197 l197 c197 : Value) = .slice o184 l184 c184) ∧
  (ldL (a181.add 1) h196 fun o198 l198 c198 =>
  (.slice o198 l198 c198 : Value) = .slice o182 l182 c182) ∧
  newB [.slice o182 l182 c182, .slice o184 l184 c184] 128 h196 fun a199 h200 =>
  CallT Try.prog slices_Concat_btree_node_no [.slice (some a199) 2 2] h200 [.sc (.sl)] fun (r201 : Sl) h202 =>
  J110 (r195, r201) h202) ∧
  (newB [.slice o182 l182 c182, .slice o184 l184 c184] 128 h192 fun a203 h204 =>
  CallT Try.prog slices_Concat_string_no [.slice (some a191) 3 3] h204 [.sc (.sl)] fun (r205 : Sl) h206 =>
  CallT Try.prog slices_Concat_btree_node_no [.slice (some a203) 2 2] h206 [.sc (.sl)] fun (r207 : Sl) h208 =>
  J110 (r205, r207) h208)) ∧
  (newB [.slice o182 l182 c182, .slice o184 l184 c184] 128 h186 fun a209 h210 =>
  (ldL a179 h210 fun o211 l211 c211 =>
  (.slice o211 l211 c211 : Value) = .slice o180 l180 c180) ∧
  (ldL a177 h210 fun o212 l212 c212 =>
  (.slice o212 l212 c212 : Value) = .slice o178 l178 c178) ∧
  newB [.slice o178 l178 c178, .slice (some a185) 1 1, .slice o180 l180 c180] 80 h210 fun a213 h214 =>
  CallT Try.prog slices_Concat_string_no [.slice (some a213) 3 3] h214 [.sc (.sl)] fun (r215 : Sl) h216 =>
  CallT Try.prog slices_Concat_btree_node_no [.slice (some a209) 2 2] h216 [.sc (.sl)] fun (r217 : Sl) h218 =>
  J110 (r215, r217) h218)) ∧
  (newB [.slice o182 l182 c182, .slice o184 l184 c184] 128 h fun a219 h220 =>
  (ldL a179 h220 fun o221 l221 c221 =>
  (.slice o221 l221 c221 : Value) = .slice o180 l180 c180) ∧
  (ldL a177 h220 fun o222 l222 c222 =>
  (.slice o222 l222 c222 : Value) = .slice o178 l178 c178) ∧
  newB [.string x_2] 9 h220 fun a223 h224 =>
  (ldL a179 h224 fun o225 l225 c225 =>
  (.slice o225 l225 c225 : Value) = .slice o180 l180 c180) ∧
  (ldL a177 h224 fun o226 l226 c226 =>
  (.slice o226 l226 c226 : Value) = .slice o178 l178 c178) ∧
  newB [.slice o178 l178 c178, .slice (some a223) 1 1, .slice o180 l180 c180] 80 h224 fun a227 h228 =>
  CallT Try.prog slices_Concat_string_no [.slice (some a227) 3 3] h228 [.sc (.sl)] fun (r229 : Sl) h230 =>
  CallT Try.prog slices_Concat_btree_node_no [.slice (some a219) 2 2] h230 [.sc (.sl)] fun (r231 : Sl) h232 =>
  J110 (r229, r231) h232))) (
  False)) (
  False))
theorem btree_joined_eq (x_0 : Value) (x_1 : Value) (x_2 : ByteArray) (R : Value × Value × ByteArray → Heap → Prop) (h : Heap) : fnX Try.prog Fns.fns Try.f84 (.s .n (.s (.s .n (.s .n (.s .n .n))) (.s .n (.j [(17, .sl), (18, .sl)] .n (.s (.s .n (.s (.s .n .n) .n)) (.s .n (.j [(6, .raw), (7, .raw), (8, .str)] .n .n))))))) [.sc (.raw), .sc (.raw), .sc (.str)] [x_0, x_1, .string x_2] h R = btree_joined x_0 x_1 x_2 R h := by kernel_rfl
theorem btree_joined_call (x_0 : Value) (x_1 : Value) (x_2 : ByteArray) {R : Value × Value × ByteArray → Heap → Prop} {h : Heap} (hx : btree_joined x_0 x_1 x_2 R h) : CallT Try.prog 84 [x_0, x_1, .string x_2] h [.sc (.raw), .sc (.raw), .sc (.str)] R :=
  call_of_fnX fnsOk mixed Try.func84 (by kernel_rfl) (by rw [btree_joined_eq]; exact hx)

/-- slices.Replace[[]stowage/btree.node,stowage/btree.node] (85) -/
def slices_Replace_btree_node (x_0 : Sl) (x_1 : Int) (x_2 : Int) (x_3 : Sl) (R : Sl → Heap → Prop) (h : Heap) : Prop :=
  lsl 1 x_0.a x_0.cap x_1 x_2 (x_0.cap : Int) fun o1 l1 c1 =>
  cnd (x_1 == x_2) (
  CallT Try.prog slices_Insert_btree_node_no [.slice x_0.a x_0.len x_0.cap, .int .i64 x_1, .slice x_3.a x_3.len x_3.cap] h [.sc (.sl)] fun (r2 : Sl) h3 =>
  R r2 h3) (
  cnd (x_2 == (x_0.len : Int)) (
  lsl 1 x_0.a x_0.cap 0 x_1 (x_0.cap : Int) fun o4 l4 c4 =>
  rdCells x_3.a (x_3.len * 1) h fun cs8 =>
  app [.nilIface] 93 1 16 o4 l4 c4 cs8 x_3.len h fun o5 c6 h7 =>
  withJ (σ := Unit) (fun s9 h11 => -- s9: 
  R (⟨o5, (l4 + x_3.len), c6⟩ : Sl) h11) (fun J10 =>
  cnd (decide (((l4 + x_3.len) : Int) < (x_0.len : Int))) (
  lsl 1 x_0.a x_0.cap ((l4 + x_3.len) : Int) (x_0.len : Int) (x_0.cap : Int) fun o12 l12 c12 =>
  clrX [.nilIface] o12 l12 h7 fun h13 =>
  J10 () h13) (
  J10 () h7))) (
  lsl 1 x_0.a x_0.cap 0 x_1 (x_0.cap : Int) fun o14 l14 c14 =>
  lsl 1 x_0.a x_0.cap x_2 (x_0.len : Int) (x_0.cap : Int) fun o15 l15 c15 =>
  cnd (decide ((w64 ((w64 ((l14 : Int) + (x_3.len : Int))) + (l15 : Int))) > (x_0.cap : Int))) (
  lsl 1 x_0.a x_0.cap 0 x_1 (x_0.cap : Int) fun o16 l16 c16 =>
  appZ [.nilIface] 93 1 16 o16 l16 c16 (w64 ((w64 ((w64 ((l14 : Int) + (x_3.len : Int))) + (l15 : Int))) - x_1)) h fun o17 c18 h19 =>
  lsl 1 o17 c18 x_1 ((l16 + (w64 ((w64 ((w64 ((l14 : Int) + (x_3.len : Int))) + (l15 : Int))) - x_1)).toNat) : Int) (c18 : Int) fun o20 l20 c20 =>
  rdCells x_3.a ((Nat.min x_3.len l20) * 1) h19 fun cs22 =>
  wrRow cs22 o20 h19 fun h21 =>
  lsl 1 o17 c18 (w64 (x_1 + (x_3.len : Int))) ((l16 + (w64 ((w64 ((w64 ((l14 : Int) + (x_3.len : Int))) + (l15 : Int))) - x_1)).toNat) : Int) (c18 : Int) fun o23 l23 c23 =>
  lsl 1 x_0.a x_0.cap x_2 (x_0.len : Int) (x_0.cap : Int) fun o24 l24 c24 =>
  rdCells o24 ((Nat.min l24 l23) * 1) h21 fun cs26 =>
  wrRow cs26 o23 h21 fun h25 =>
  R (⟨o17, (l16 + (w64 ((w64 ((w64 ((l14 : Int) + (x_3.len : Int))) + (l15 : Int))) - x_1)).toNat), c18⟩ : Sl) h25) (
  lsl 1 x_0.a x_0.cap 0 (w64 ((w64 ((l14 : Int) + (x_3.len : Int))) + (l15 : Int))) (x_0.cap : Int) fun o27 l27 c27 =>
  cnd (decide ((w64 (x_1 + (x_3.len : Int))) ≤ x_2)) (
  lsl 1 o27 c27 x_1 (l27 : Int) (c27 : Int) fun o28 l28 c28 =>
  rdCells x_3.a ((Nat.min x_3.len l28) * 1) h fun cs30 =>
  wrRow cs30 o28 h fun h29 =>
  lsl 1 o27 c27 (w64 (x_1 + (x_3.len : Int))) (l27 : Int) (c27 : Int) fun o31 l31 c31 =>
  lsl 1 x_0.a x_0.cap x_2 (x_0.len : Int) (x_0.cap : Int) fun o32 l32 c32 =>
  rdCells o32 ((Nat.min l32 l31) * 1) h29 fun cs34 =>
  wrRow cs34 o31 h29 fun h33 =>
  lsl 1 x_0.a x_0.cap (w64 ((w64 ((l14 : Int) + (x_3.len : Int))) + (l15 : Int))) (x_0.len : Int) (x_0.cap : Int) fun o35 l35 c35 =>
  clrX [.nilIface] o35 l35 h33 fun h36 =>
  R (⟨o27, l27, c27⟩ : Sl) h36) (
  lsl 1 o27 c27 (w64 (x_1 + (x_3.len : Int))) (l27 : Int) (c27 : Int) fun o37 l37 c37 =>
  ovlX o37 l37 x_3.a x_3.len h fun b38 =>
  cnd (!b38) (
  lsl 1 o27 c27 (w64 (x_1 + (x_3.len : Int))) (l27 : Int) (c27 : Int) fun o39 l39 c39 =>
  lsl 1 x_0.a x_0.cap x_2 (x_0.len : Int) (x_0.cap : Int) fun o40 l40 c40 =>
  rdCells o40 ((Nat.min l40 l39) * 1) h fun cs42 =>
  wrRow cs42 o39 h fun h41 =>
  lsl 1 o27 c27 x_1 (l27 : Int) (c27 : Int) fun o43 l43 c43 =>
  rdCells x_3.a ((Nat.min x_3.len l43) * 1) h41 fun cs45 =>
  wrRow cs45 o43 h41 fun h44 =>
  R (⟨o27, l27, c27⟩ : Sl) h44) (
  lsl 1 o27 c27 x_1 x_2 (c27 : Int) fun o46 l46 c46 =>
  ovlX o46 l46 x_3.a x_3.len h fun b47 =>
  cnd (!b47) (
  lsl 1 o27 c27 x_1 x_2 (c27 : Int) fun o48 l48 c48 =>
  lsl 1 x_3.a x_3.cap (w64 ((x_3.len : Int) - (w64 (x_2 - x_1)))) (x_3.len : Int) (x_3.cap : Int) fun o49 l49 c49 =>
  rdCells o49 ((Nat.min l49 l48) * 1) h fun cs51 =>
  wrRow cs51 o48 h fun h50 =>
  lsl 1 o27 c27 (x_0.len : Int) (l27 : Int) (c27 : Int) fun o52 l52 c52 =>
  lsl 1 x_3.a x_3.cap 0 (w64 ((x_3.len : Int) - (w64 (x_2 - x_1)))) (x_3.cap : Int) fun o53 l53 c53 =>
  rdCells o53 ((Nat.min l53 l52) * 1) h50 fun cs55 =>
  wrRow cs55 o52 h50 fun h54 =>
  lsl 1 o27 c27 x_1 (l27 : Int) (c27 : Int) fun o56 l56 c56 =>
  CallT Try.prog slices_rotateRight_btree_node_no [.slice o56 l56 c56, .int .i64 (w64 ((x_3.len : Int) - (w64 (x_2 - x_1))))] h54 [] fun (r57 : Unit) h58 =>
  R (⟨o27, l27, c27⟩ : Sl) h58) (
  lsl 1 o27 c27 (x_0.len : Int) (l27 : Int) (c27 : Int) fun o59 l59 c59 =>
  ovlX o59 l59 x_3.a x_3.len h fun b60 =>
  cnd (!b60) (
  lsl 1 o27 c27 (x_0.len : Int) (l27 : Int) (c27 : Int) fun o61 l61 c61 =>
  lsl 1 x_3.a x_3.cap 0 (w64 ((x_3.len : Int) - (w64 (x_2 - x_1)))) (x_3.cap : Int) fun o62 l62 c62 =>
  rdCells o62 ((Nat.min l62 l61) * 1) h fun cs64 =>
  wrRow cs64 o61 h fun h63 =>
  lsl 1 o27 c27 x_1 x_2 (c27 : Int) fun o65 l65 c65 =>
  lsl 1 x_3.a x_3.cap (w64 ((x_3.len : Int) - (w64 (x_2 - x_1)))) (x_3.len : Int) (x_3.cap : Int) fun o66 l66 c66 =>
  rdCells o66 ((Nat.min l66 l65) * 1) h63 fun cs68 =>
  wrRow cs68 o65 h63 fun h67 =>
  lsl 1 o27 c27 x_1 (l27 : Int) (c27 : Int) fun o69 l69 c69 =>
  CallT Try.prog slices_rotateRight_btree_node_no [.slice o69 l69 c69, .int .i64 (w64 ((x_3.len : Int) - (w64 (x_2 - x_1))))] h67 [] fun (r70 : Unit) h71 =>
  R (⟨o27, l27, c27⟩ : Sl) h71) (
  lsl 1 x_0.a x_0.cap x_2 (x_0.len : Int) (x_0.cap : Int) fun o72 l72 c72 =>
  CallT Try.prog slices_startIdx_btree_node_no [.slice x_3.a x_3.len x_3.cap, .slice o72 l72 c72] h [.sc (.int .i64)] fun (r73 : Int) h74 =>
  lsl 1 o27 c27 x_1 (l27 : Int) (c27 : Int) fun o75 l75 c75 =>
  rdCells x_3.a ((Nat.min x_3.len l75) * 1) h74 fun cs77 =>
  wrRow cs77 o75 h74 fun h76 =>
  lsl 1 o27 c27 (w64 (x_1 + (x_3.len : Int))) (l27 : Int) (c27 : Int) fun o78 l78 c78 =>
  lsl 1 o27 c27 (w64 (x_1 + r73)) (l27 : Int) (c27 : Int) fun o79 l79 c79 =>
  rdCells o79 ((Nat.min l79 l78) * 1) h76 fun cs81 =>
  wrRow cs81 o78 h76 fun h80 =>
  R (⟨o27, l27, c27⟩ : Sl) h80)))))))
theorem slices_Replace_btree_node_eq (x_0 : Sl) (x_1 : Int) (x_2 : Int) (x_3 : Sl) (R : Sl → Heap → Prop) (h : Heap) : fnX Try.prog Fns.fns Try.f85 (.s .n (.s .n (.s (.s .n (.s (.s .n .n) .n)) (.s (.s .n (.s (.s .n (.j [] (.s .n (.s .n .n)) (.s .n .n))) .n)) (.s .n (.s (.s .n (.s (.s .n (.s .n (.s .n (.s .n .n)))) .n)) (.s .n (.s (.s .n (.s (.s .n (.s .n (.s .n (.s .n .n)))) .n)) (.s (.s .n (.s (.s .n (.s .n (.s .n .n))) .n)) (.s .n (.s (.s .n (.s (.s .n (.s .n (.s .n (.s .n .n)))) .n)) (.s (.s .n (.s (.s .n (.s .n (.s .n (.s .n .n)))) .n)) (.s .n (.s .n (.s .n (.s .n .n)))))))))))))))) [.sc (.sl)] [.slice x_0.a x_0.len x_0.cap, .int .i64 x_1, .int .i64 x_2, .slice x_3.a x_3.len x_3.cap] h R = slices_Replace_btree_node x_0 x_1 x_2 x_3 R h := by kernel_rfl
theorem slices_Replace_btree_node_call (x_0 : Sl) (x_1 : Int) (x_2 : Int) (x_3 : Sl) {R : Sl → Heap → Prop} {h : Heap} (hx : slices_Replace_btree_node x_0 x_1 x_2 x_3 R h) : CallT Try.prog 85 [.slice x_0.a x_0.len x_0.cap, .int .i64 x_1, .int .i64 x_2, .slice x_3.a x_3.len x_3.cap] h [.sc (.sl)] R :=
  call_of_fnX fnsOk mixed Try.func85 (by kernel_rfl) (by rw [slices_Replace_btree_node_eq]; exact hx)

/-- slices.Insert[[]string,string] (86) -/
def slices_Insert_string (x_0 : Sl) (x_1 : Int) (x_2 : Sl) (R : Sl → Heap → Prop) (h : Heap) : Prop :=
  lsl 1 x_0.a x_0.cap x_1 (x_0.len : Int) (x_0.cap : Int) fun o1 l1 c1 =>
  cnd ((x_2.len : Int) == 0) (
  R x_0 h) (
  cnd (x_1 == (x_0.len : Int)) (
  rdCells x_2.a (x_2.len * 1) h fun cs5 =>
  app [.string (⟨#[]⟩ : ByteArray)] 9 1 16 x_0.a x_0.len x_0.cap cs5 x_2.len h fun o2 c3 h4 =>
  R (⟨o2, (x_0.len + x_2.len), c3⟩ : Sl) h4) (
  cnd (decide ((w64 ((x_0.len : Int) + (x_2.len : Int))) > (x_0.cap : Int))) (
  lsl 1 x_0.a x_0.cap 0 x_1 (x_0.cap : Int) fun o6 l6 c6 =>
  appZ [.string (⟨#[]⟩ : ByteArray)] 9 1 16 o6 l6 c6 (w64 ((w64 ((x_0.len : Int) + (x_2.len : Int))) - x_1)) h fun o7 c8 h9 =>
  lsl 1 o7 c8 x_1 ((l6 + (w64 ((w64 ((x_0.len : Int) + (x_2.len : Int))) - x_1)).toNat) : Int) (c8 : Int) fun o10 l10 c10 =>
  rdCells x_2.a ((Nat.min x_2.len l10) * 1) h9 fun cs12 =>
  wrRow cs12 o10 h9 fun h11 =>
  lsl 1 o7 c8 (w64 (x_1 + (x_2.len : Int))) ((l6 + (w64 ((w64 ((x_0.len : Int) + (x_2.len : Int))) - x_1)).toNat) : Int) (c8 : Int) fun o13 l13 c13 =>
  lsl 1 x_0.a x_0.cap x_1 (x_0.len : Int) (x_0.cap : Int) fun o14 l14 c14 =>
  rdCells o14 ((Nat.min l14 l13) * 1) h11 fun cs16 =>
  wrRow cs16 o13 h11 fun h15 =>
  R (⟨o7, (l6 + (w64 ((w64 ((x_0.len : Int) + (x_2.len : Int))) - x_1)).toNat), c8⟩ : Sl) h15) (
  lsl 1 x_0.a x_0.cap 0 (w64 ((x_0.len : Int) + (x_2.len : Int))) (x_0.cap : Int) fun o17 l17 c17 =>
  lsl 1 o17 c17 (w64 (x_1 + (x_2.len : Int))) (l17 : Int) (c17 : Int) fun o18 l18 c18 =>
  ovlX x_2.a x_2.len o18 l18 h fun b19 =>
  cnd (!b19) (
  lsl 1 o17 c17 (w64 (x_1 + (x_2.len : Int))) (l17 : Int) (c17 : Int) fun o20 l20 c20 =>
  lsl 1 o17 c17 x_1 (l17 : Int) (c17 : Int) fun o21 l21 c21 =>
  rdCells o21 ((Nat.min l21 l20) * 1) h fun cs23 =>
  wrRow cs23 o20 h fun h22 =>
  lsl 1 o17 c17 x_1 (l17 : Int) (c17 : Int) fun o24 l24 c24 =>
  rdCells x_2.a ((Nat.min x_2.len l24) * 1) h22 fun cs26 =>
  wrRow cs26 o24 h22 fun h25 =>
  R (⟨o17, l17, c17⟩ : Sl) h25) (
  lsl 1 o17 c17 (x_0.len : Int) (l17 : Int) (c17 : Int) fun o27 l27 c27 =>
  rdCells x_2.a ((Nat.min x_2.len l27) * 1) h fun cs29 =>
  wrRow cs29 o27 h fun h28 =>
  lsl 1 o17 c17 x_1 (l17 : Int) (c17 : Int) fun o30 l30 c30 =>
  CallT Try.prog slices_rotateRight_string_no [.slice o30 l30 c30, .int .i64 (x_2.len : Int)] h28 [] fun (r31 : Unit) h32 =>
  R (⟨o17, l17, c17⟩ : Sl) h32))))
theorem slices_Insert_string_eq (x_0 : Sl) (x_1 : Int) (x_2 : Sl) (R : Sl → Heap → Prop) (h : Heap) : fnX Try.prog Fns.fns Try.f86 (.s .n (.s .n (.s .n (.s (.s .n (.s (.s .n .n) .n)) (.s .n (.s (.s .n (.s (.s .n .n) .n)) (.s (.s .n (.s (.s .n (.s .n (.s .n (.s .n .n)))) .n)) (.s .n (.s (.s .n (.s (.s .n (.s .n (.s .n .n))) .n)) (.s .n (.s .n (.s .n .n)))))))))))) [.sc (.sl)] [.slice x_0.a x_0.len x_0.cap, .int .i64 x_1, .slice x_2.a x_2.len x_2.cap] h R = slices_Insert_string x_0 x_1 x_2 R h := by kernel_rfl
theorem slices_Insert_string_call (x_0 : Sl) (x_1 : Int) (x_2 : Sl) {R : Sl → Heap → Prop} {h : Heap} (hx : slices_Insert_string x_0 x_1 x_2 R h) : CallT Try.prog 86 [.slice x_0.a x_0.len x_0.cap, .int .i64 x_1, .slice x_2.a x_2.len x_2.cap] h [.sc (.sl)] R :=
  call_of_fnX fnsOk mixed Try.func86 (by kernel_rfl) (by rw [slices_Insert_string_eq]; exact hx)

/-- slices.Insert[[]stowage/btree.node,stowage/btree.node] (87) -/
def slices_Insert_btree_node (x_0 : Sl) (x_1 : Int) (x_2 : Sl) (R : Sl → Heap → Prop) (h : Heap) : Prop :=
  lsl 1 x_0.a x_0.cap x_1 (x_0.len : Int) (x_0.cap : Int) fun o1 l1 c1 =>
  cnd ((x_2.len : Int) == 0) (
  R x_0 h) (
  cnd (x_1 == (x_0.len : Int)) (
  rdCells x_2.a (x_2.len * 1) h fun cs5 =>
  app [.nilIface] 93 1 16 x_0.a x_0.len x_0.cap cs5 x_2.len h fun o2 c3 h4 =>
  R (⟨o2, (x_0.len + x_2.len), c3⟩ : Sl) h4) (
  cnd (decide ((w64 ((x_0.len : Int) + (x_2.len : Int))) > (x_0.cap : Int))) (
  lsl 1 x_0.a x_0.cap 0 x_1 (x_0.cap : Int) fun o6 l6 c6 =>
  appZ [.nilIface] 93 1 16 o6 l6 c6 (w64 ((w64 ((x_0.len : Int) + (x_2.len : Int))) - x_1)) h fun o7 c8 h9 =>
  lsl 1 o7 c8 x_1 ((l6 + (w64 ((w64 ((x_0.len : Int) + (x_2.len : Int))) - x_1)).toNat) : Int) (c8 : Int) fun o10 l10 c10 =>
  rdCells x_2.a ((Nat.min x_2.len l10) * 1) h9 fun cs12 =>
  wrRow cs12 o10 h9 fun h11 =>
  lsl 1 o7 c8 (w64 (x_1 + (x_2.len : Int))) ((l6 + (w64 ((w64 ((x_0.len : Int) + (x_2.len : Int))) - x_1)).toNat) : Int) (c8 : Int) fun o13 l13 c13 =>
  lsl 1 x_0.a x_0.cap x_1 (x_0.len : Int) (x_0.cap : Int) fun o14 l14 c14 =>
  rdCells o14 ((Nat.min l14 l13) * 1) h11 fun cs16 =>
  wrRow cs16 o13 h11 fun h15 =>
  R (⟨o7, (l6 + (w64 ((w64 ((x_0.len : Int) + (x_2.len : Int))) - x_1)).toNat), c8⟩ : Sl) h15) (
  lsl 1 x_0.a x_0.cap 0 (w64 ((x_0.len : Int) + (x_2.len : Int))) (x_0.cap : Int) fun o17 l17 c17 =>
  lsl 1 o17 c17 (w64 (x_1 + (x_2.len : Int))) (l17 : Int) (c17 : Int) fun o18 l18 c18 =>
  ovlX x_2.a x_2.len o18 l18 h fun b19 =>
  cnd (!b19) (
  lsl 1 o17 c17 (w64 (x_1 + (x_2.len : Int))) (l17 : Int) (c17 : Int) fun o20 l20 c20 =>
  lsl 1 o17 c17 x_1 (l17 : Int) (c17 : Int) fun o21 l21 c21 =>
  rdCells o21 ((Nat.min l21 l20) * 1) h fun cs23 =>
  wrRow cs23 o20 h fun h22 =>
  lsl 1 o17 c17 x_1 (l17 : Int) (c17 : Int) fun o24 l24 c24 =>
  rdCells x_2.a ((Nat.min x_2.len l24) * 1) h22 fun cs26 =>
  wrRow cs26 o24 h22 fun h25 =>
  R (⟨o17, l17, c17⟩ : Sl) h25) (
  lsl 1 o17 c17 (x_0.len : Int) (l17 : Int) (c17 : Int) fun o27 l27 c27 =>
  rdCells x_2.a ((Nat.min x_2.len l27) * 1) h fun cs29 =>
  wrRow cs29 o27 h fun h28 =>
  lsl 1 o17 c17 x_1 (l17 : Int) (c17 : Int) fun o30 l30 c30 =>
  CallT Try.prog slices_rotateRight_btree_node_no [.slice o30 l30 c30, .int .i64 (x_2.len : Int)] h28 [] fun (r31 : Unit) h32 =>
  R (⟨o17, l17, c17⟩ : Sl) h32))))
theorem slices_Insert_btree_node_eq (x_0 : Sl) (x_1 : Int) (x_2 : Sl) (R : Sl → Heap → Prop) (h : Heap) : fnX Try.prog Fns.fns Try.f87 (.s .n (.s .n (.s .n (.s (.s .n (.s (.s .n .n) .n)) (.s .n (.s (.s .n (.s (.s .n .n) .n)) (.s (.s .n (.s (.s .n (.s .n (.s .n (.s .n .n)))) .n)) (.s .n (.s (.s .n (.s (.s .n (.s .n (.s .n .n))) .n)) (.s .n (.s .n (.s .n .n)))))))))))) [.sc (.sl)] [.slice x_0.a x_0.len x_0.cap, .int .i64 x_1, .slice x_2.a x_2.len x_2.cap] h R = slices_Insert_btree_node x_0 x_1 x_2 R h := by kernel_rfl
theorem slices_Insert_btree_node_call (x_0 : Sl) (x_1 : Int) (x_2 : Sl) {R : Sl → Heap → Prop} {h : Heap} (hx : slices_Insert_btree_node x_0 x_1 x_2 R h) : CallT Try.prog 87 [.slice x_0.a x_0.len x_0.cap, .int .i64 x_1, .slice x_2.a x_2.len x_2.cap] h [.sc (.sl)] R :=
  call_of_fnX fnsOk mixed Try.func87 (by kernel_rfl) (by rw [slices_Insert_btree_node_eq]; exact hx)

/-- cmp.isNaN[string] (88) -/
def cmp_isNaN_string (x_0 : ByteArray) (R : Bool → Heap → Prop) (h : Heap) : Prop :=
  R (!seq x_0 x_0) h
theorem cmp_isNaN_string_eq (x_0 : ByteArray) (R : Bool → Heap → Prop) (h : Heap) : fnX Try.prog Fns.fns Try.f88 (.s .n (.s .n .n)) [.sc (.bool)] [.string x_0] h R = cmp_isNaN_string x_0 R h := by kernel_rfl
theorem cmp_isNaN_string_call (x_0 : ByteArray) {R : Bool → Heap → Prop} {h : Heap} (hx : cmp_isNaN_string x_0 R h) : CallT Try.prog 88 [.string x_0] h [.sc (.bool)] R :=
  call_of_fnX fnsOk mixed Try.func88 (by kernel_rfl) (by rw [cmp_isNaN_string_eq]; exact hx)

/-- slices.Concat[[]string,string] (89) -/
def slices_Concat_string (slices_0 : Sl) (R : Sl → Heap → Prop) (h : Heap) : Prop :=
  LoopT (σ := Int × Int) (fun X2 s1 h3 => -- s1: size, t11
  cnd (decide (s1.2 < (slices_0.len : Int))) (
  withJ (σ := Int) (fun s4 h6 => -- s4: size
  X2 (s4, (w64 (s1.2 + 1))) h6) (fun J5 =>
  idx slices_0.a slices_0.len s1.2 fun a7 =>
  ldL (a7.add (s1.2.toNat * 1)) h3 fun o8 l8 c8 =>
  cnd (decide ((w64 (s1.1 + (l8 : Int))) < 0)) (
  False) (
  J5 (w64 (s1.1 + (l8 : Int))) h3))) (
  CallT Try.prog slices_Grow_string_no [.slice none 0 0, .int .i64 s1.1] h3 [.sc (.sl)] fun (r9 : Sl) h10 =>
  LoopT (σ := Sl × Int) (fun X12 s11 h13 => -- s11: newslice, t27
  cnd (decide (s11.2 < (slices_0.len : Int))) (
  idx slices_0.a slices_0.len s11.2 fun a14 =>
  ldL (a14.add (s11.2.toNat * 1)) h13 fun o15 l15 c15 =>
  rdCells o15 (l15 * 1) h13 fun cs19 =>
  app [.string (⟨#[]⟩ : ByteArray)] 9 1 16 s11.1.a s11.1.len s11.1.cap cs19 l15 h13 fun o16 c17 h18 =>
  X12 ((⟨o16, (s11.1.len + l15), c17⟩ : Sl), (w64 (s11.2 + 1))) h18) (
  R s11.1 h13)) (r9, 0) h10)) (0, 0) h
theorem slices_Concat_string_eq (slices_0 : Sl) (R : Sl → Heap → Prop) (h : Heap) : fnX Try.prog Fns.fns Try.f89 (.s .n (.s .n (.s (.s .n (.b (.l [(3, .int .i64), (11, .int .i64)] (.s .n (.s (.s .n .n) (.j [(3, .int .i64)] (.b (.s .n (.s .n (.s .n (.s .n .n))))) .n)))))) (.s .n (.s (.s .n (.b (.l [(6, .sl), (27, .int .i64)] (.s .n (.s (.s .n .n) (.s (.b (.s .n .n)) .n)))))) (.s .n .n)))))) [.sc (.sl)] [.slice slices_0.a slices_0.len slices_0.cap] h R = slices_Concat_string slices_0 R h := by kernel_rfl
theorem slices_Concat_string_call (slices_0 : Sl) {R : Sl → Heap → Prop} {h : Heap} (hx : slices_Concat_string slices_0 R h) : CallT Try.prog 89 [.slice slices_0.a slices_0.len slices_0.cap] h [.sc (.sl)] R :=
  call_of_fnX fnsOk mixed Try.func89 (by kernel_rfl) (by rw [slices_Concat_string_eq]; exact hx)

/-- slices.Concat[[]stowage/btree.node,stowage/btree.node] (90) -/
def slices_Concat_btree_node (slices_0 : Sl) (R : Sl → Heap → Prop) (h : Heap) : Prop :=
  LoopT (σ := Int × Int) (fun X2 s1 h3 => -- s1: size, t11
  cnd (decide (s1.2 < (slices_0.len : Int))) (
  withJ (σ := Int) (fun s4 h6 => -- s4: size
  X2 (s4, (w64 (s1.2 + 1))) h6) (fun J5 =>
  idx slices_0.a slices_0.len s1.2 fun a7 =>
  ldL (a7.add (s1.2.toNat * 1)) h3 fun o8 l8 c8 =>
  cnd (decide ((w64 (s1.1 + (l8 : Int))) < 0)) (
  False) (
  J5 (w64 (s1.1 + (l8 : Int))) h3))) (
  CallT Try.prog slices_Grow_btree_node_no [.slice none 0 0, .int .i64 s1.1] h3 [.sc (.sl)] fun (r9 : Sl) h10 =>
  LoopT (σ := Sl × Int) (fun X12 s11 h13 => -- s11: newslice, t27
  cnd (decide (s11.2 < (slices_0.len : Int))) (
  idx slices_0.a slices_0.len s11.2 fun a14 =>
  ldL (a14.add (s11.2.toNat * 1)) h13 fun o15 l15 c15 =>
  rdCells o15 (l15 * 1) h13 fun cs19 =>
  app [.nilIface] 93 1 16 s11.1.a s11.1.len s11.1.cap cs19 l15 h13 fun o16 c17 h18 =>
  X12 ((⟨o16, (s11.1.len + l15), c17⟩ : Sl), (w64 (s11.2 + 1))) h18) (
  R s11.1 h13)) (r9, 0) h10)) (0, 0) h
theorem slices_Concat_btree_node_eq (slices_0 : Sl) (R : Sl → Heap → Prop) (h : Heap) : fnX Try.prog Fns.fns Try.f90 (.s .n (.s .n (.s (.s .n (.b (.l [(3, .int .i64), (11, .int .i64)] (.s .n (.s (.s .n .n) (.j [(3, .int .i64)] (.b (.s .n (.s .n (.s .n (.s .n .n))))) .n)))))) (.s .n (.s (.s .n (.b (.l [(6, .sl), (27, .int .i64)] (.s .n (.s (.s .n .n) (.s (.b (.s .n .n)) .n)))))) (.s .n .n)))))) [.sc (.sl)] [.slice slices_0.a slices_0.len slices_0.cap] h R = slices_Concat_btree_node slices_0 R h := by kernel_rfl
theorem slices_Concat_btree_node_call (slices_0 : Sl) {R : Sl → Heap → Prop} {h : Heap} (hx : slices_Concat_btree_node slices_0 R h) : CallT Try.prog 90 [.slice slices_0.a slices_0.len slices_0.cap] h [.sc (.sl)] R :=
  call_of_fnX fnsOk mixed Try.func90 (by kernel_rfl) (by rw [slices_Concat_btree_node_eq]; exact hx)

/-- slices.rotateRight[stowage/btree.node] (92) -/
def slices_rotateRight_btree_node (s_0 : Sl) (r_1 : Int) (R : Unit → Heap → Prop) (h : Heap) : Prop :=
  CallT Try.prog slices_rotateLeft_btree_node_no [.slice s_0.a s_0.len s_0.cap, .int .i64 (w64 ((s_0.len : Int) - r_1))] h [] fun (r1 : Unit) h2 =>
  R () h2
theorem slices_rotateRight_btree_node_eq (s_0 : Sl) (r_1 : Int) (R : Unit → Heap → Prop) (h : Heap) : fnX Try.prog Fns.fns Try.f92 .n [] [.slice s_0.a s_0.len s_0.cap, .int .i64 r_1] h R = slices_rotateRight_btree_node s_0 r_1 R h := by kernel_rfl
theorem slices_rotateRight_btree_node_call (s_0 : Sl) (r_1 : Int) {R : Unit → Heap → Prop} {h : Heap} (hx : slices_rotateRight_btree_node s_0 r_1 R h) : CallT Try.prog 92 [.slice s_0.a s_0.len s_0.cap, .int .i64 r_1] h [] R :=
  call_of_fnX fnsOk mixed Try.func92 (by kernel_rfl) (by rw [slices_rotateRight_btree_node_eq]; exact hx)

/-- slices.startIdx[stowage/btree.node] (93) -/
def slices_startIdx_btree_node (haystack_0 : Sl) (needle_1 : Sl) (R : Int → Heap → Prop) (h : Heap) : Prop :=
  idx needle_1.a needle_1.len 0 fun a1 =>
  LoopT (σ := Int × Int) (fun X3 s2 h4 => -- s2: t4, t11
  cnd (decide (s2.2 < (haystack_0.len : Int))) (
  idx haystack_0.a haystack_0.len s2.2 fun a5 =>
  (((some (a1.add ((0 : Int).toNat * 1))) : Option Addr) = (some (a5.add (s2.2.toNat * 1)))) ∧
  R s2.2 h4) (
  False)) (0, 0) h
theorem slices_startIdx_btree_node_eq (haystack_0 : Sl) (needle_1 : Sl) (R : Int → Heap → Prop) (h : Heap) : fnX Try.prog Fns.fns Try.f93 (.s .n (.s .n (.s (.s .n (.b (.l [(4, .int .i64), (11, .int .i64)] (.s .n (.s (.s .n .n) (.s (.b (.s .n (.s .n (.s (.s .n .n) .n)))) .n)))))) .n))) [.sc (.int .i64)] [.slice haystack_0.a haystack_0.len haystack_0.cap, .slice needle_1.a needle_1.len needle_1.cap] h R = slices_startIdx_btree_node haystack_0 needle_1 R h := by kernel_rfl
theorem slices_startIdx_btree_node_call (haystack_0 : Sl) (needle_1 : Sl) {R : Int → Heap → Prop} {h : Heap} (hx : slices_startIdx_btree_node haystack_0 needle_1 R h) : CallT Try.prog 93 [.slice haystack_0.a haystack_0.len haystack_0.cap, .slice needle_1.a needle_1.len needle_1.cap] h [.sc (.int .i64)] R :=
  call_of_fnX fnsOk mixed Try.func93 (by kernel_rfl) (by rw [slices_startIdx_btree_node_eq]; exact hx)

/-- slices.rotateRight[string] (95) -/
def slices_rotateRight_string (s_0 : Sl) (r_1 : Int) (R : Unit → Heap → Prop) (h : Heap) : Prop :=
  CallT Try.prog slices_rotateLeft_string_no [.slice s_0.a s_0.len s_0.cap, .int .i64 (w64 ((s_0.len : Int) - r_1))] h [] fun (r1 : Unit) h2 =>
  R () h2
theorem slices_rotateRight_string_eq (s_0 : Sl) (r_1 : Int) (R : Unit → Heap → Prop) (h : Heap) : fnX Try.prog Fns.fns Try.f95 .n [] [.slice s_0.a s_0.len s_0.cap, .int .i64 r_1] h R = slices_rotateRight_string s_0 r_1 R h := by kernel_rfl
theorem slices_rotateRight_string_call (s_0 : Sl) (r_1 : Int) {R : Unit → Heap → Prop} {h : Heap} (hx : slices_rotateRight_string s_0 r_1 R h) : CallT Try.prog 95 [.slice s_0.a s_0.len s_0.cap, .int .i64 r_1] h [] R :=
  call_of_fnX fnsOk mixed Try.func95 (by kernel_rfl) (by rw [slices_rotateRight_string_eq]; exact hx)

/-- slices.Grow[[]string,string] (96) -/
def slices_Grow_string (s_0 : Sl) (n_1 : Int) (R : Sl → Heap → Prop) (h : Heap) : Prop :=
  withJ (σ := Unit) (fun s1 h3 => -- s1: 
  withJ (σ := Sl) (fun s4 h6 => -- s4: s
  R s4 h6) (fun J5 =>
  cnd (decide ((w64 (n_1 - (w64 ((s_0.cap : Int) - (s_0.len : Int))))) > 0)) (
  lsl 1 s_0.a s_0.cap 0 (s_0.cap : Int) (s_0.cap : Int) fun o7 l7 c7 =>
  appZ [.string (⟨#[]⟩ : ByteArray)] 9 1 16 o7 l7 c7 (w64 (n_1 - (w64 ((s_0.cap : Int) - (s_0.len : Int))))) h3 fun o8 c9 h10 =>
  lsl 1 o8 c9 0 (s_0.len : Int) (c9 : Int) fun o11 l11 c11 =>
  J5 (⟨o11, l11, c11⟩ : Sl) h10) (
  J5 s_0 h3))) (fun J2 =>
  cnd (decide (n_1 < 0)) (
  False) (
  J2 () h))
theorem slices_Grow_string_eq (s_0 : Sl) (n_1 : Int) (R : Sl → Heap → Prop) (h : Heap) : fnX Try.prog Fns.fns Try.f96 (.s .n (.j [] (.s .n (.s .n .n)) (.j [(0, .sl)] (.s .n (.s .n (.s .n .n))) (.s .n .n)))) [.sc (.sl)] [.slice s_0.a s_0.len s_0.cap, .int .i64 n_1] h R = slices_Grow_string s_0 n_1 R h := by kernel_rfl
theorem slices_Grow_string_call (s_0 : Sl) (n_1 : Int) {R : Sl → Heap → Prop} {h : Heap} (hx : slices_Grow_string s_0 n_1 R h) : CallT Try.prog 96 [.slice s_0.a s_0.len s_0.cap, .int .i64 n_1] h [.sc (.sl)] R :=
  call_of_fnX fnsOk mixed Try.func96 (by kernel_rfl) (by rw [slices_Grow_string_eq]; exact hx)

/-- slices.Grow[[]stowage/btree.node,stowage/btree.node] (97) -/
def slices_Grow_btree_node (s_0 : Sl) (n_1 : Int) (R : Sl → Heap → Prop) (h : Heap) : Prop :=
  withJ (σ := Unit) (fun s1 h3 => -- s1: 
  withJ (σ := Sl) (fun s4 h6 => -- s4: s
  R s4 h6) (fun J5 =>
  cnd (decide ((w64 (n_1 - (w64 ((s_0.cap : Int) - (s_0.len : Int))))) > 0)) (
  lsl 1 s_0.a s_0.cap 0 (s_0.cap : Int) (s_0.cap : Int) fun o7 l7 c7 =>
  appZ [.nilIface] 93 1 16 o7 l7 c7 (w64 (n_1 - (w64 ((s_0.cap : Int) - (s_0.len : Int))))) h3 fun o8 c9 h10 =>
  lsl 1 o8 c9 0 (s_0.len : Int) (c9 : Int) fun o11 l11 c11 =>
  J5 (⟨o11, l11, c11⟩ : Sl) h10) (
  J5 s_0 h3))) (fun J2 =>
  cnd (decide (n_1 < 0)) (
  False) (
  J2 () h))
theorem slices_Grow_btree_node_eq (s_0 : Sl) (n_1 : Int) (R : Sl → Heap → Prop) (h : Heap) : fnX Try.prog Fns.fns Try.f97 (.s .n (.j [] (.s .n (.s .n .n)) (.j [(0, .sl)] (.s .n (.s .n (.s .n .n))) (.s .n .n)))) [.sc (.sl)] [.slice s_0.a s_0.len s_0.cap, .int .i64 n_1] h R = slices_Grow_btree_node s_0 n_1 R h := by kernel_rfl
theorem slices_Grow_btree_node_call (s_0 : Sl) (n_1 : Int) {R : Sl → Heap → Prop} {h : Heap} (hx : slices_Grow_btree_node s_0 n_1 R h) : CallT Try.prog 97 [.slice s_0.a s_0.len s_0.cap, .int .i64 n_1] h [.sc (.sl)] R :=
  call_of_fnX fnsOk mixed Try.func97 (by kernel_rfl) (by rw [slices_Grow_btree_node_eq]; exact hx)

/-- slices.rotateLeft[stowage/btree.node] (98) -/
def slices_rotateLeft_btree_node (s_0 : Sl) (r_1 : Int) (R : Unit → Heap → Prop) (h : Heap) : Prop :=
  lsl 1 s_0.a s_0.cap 0 r_1 (s_0.cap : Int) fun o1 l1 c1 =>
  CallT Try.prog slices_Reverse_btree_node_no [.slice o1 l1 c1] h [] fun (r2 : Unit) h3 =>
  lsl 1 s_0.a s_0.cap r_1 (s_0.len : Int) (s_0.cap : Int) fun o4 l4 c4 =>
  CallT Try.prog slices_Reverse_btree_node_no [.slice o4 l4 c4] h3 [] fun (r5 : Unit) h6 =>
  CallT Try.prog slices_Reverse_btree_node_no [.slice s_0.a s_0.len s_0.cap] h6 [] fun (r7 : Unit) h8 =>
  R () h8
theorem slices_rotateLeft_btree_node_eq (s_0 : Sl) (r_1 : Int) (R : Unit → Heap → Prop) (h : Heap) : fnX Try.prog Fns.fns Try.f98 (.s .n (.s .n .n)) [] [.slice s_0.a s_0.len s_0.cap, .int .i64 r_1] h R = slices_rotateLeft_btree_node s_0 r_1 R h := by kernel_rfl
theorem slices_rotateLeft_btree_node_call (s_0 : Sl) (r_1 : Int) {R : Unit → Heap → Prop} {h : Heap} (hx : slices_rotateLeft_btree_node s_0 r_1 R h) : CallT Try.prog 98 [.slice s_0.a s_0.len s_0.cap, .int .i64 r_1] h [] R :=
  call_of_fnX fnsOk mixed Try.func98 (by kernel_rfl) (by rw [slices_rotateLeft_btree_node_eq]; exact hx)

/-- slices.rotateLeft[string] (99) -/
def slices_rotateLeft_string (s_0 : Sl) (r_1 : Int) (R : Unit → Heap → Prop) (h : Heap) : Prop :=
  lsl 1 s_0.a s_0.cap 0 r_1 (s_0.cap : Int) fun o1 l1 c1 =>
  CallT Try.prog slices_Reverse_string_no [.slice o1 l1 c1] h [] fun (r2 : Unit) h3 =>
  lsl 1 s_0.a s_0.cap r_1 (s_0.len : Int) (s_0.cap : Int) fun o4 l4 c4 =>
  CallT Try.prog slices_Reverse_string_no [.slice o4 l4 c4] h3 [] fun (r5 : Unit) h6 =>
  CallT Try.prog slices_Reverse_string_no [.slice s_0.a s_0.len s_0.cap] h6 [] fun (r7 : Unit) h8 =>
  R () h8
theorem slices_rotateLeft_string_eq (s_0 : Sl) (r_1 : Int) (R : Unit → Heap → Prop) (h : Heap) : fnX Try.prog Fns.fns Try.f99 (.s .n (.s .n .n)) [] [.slice s_0.a s_0.len s_0.cap, .int .i64 r_1] h R = slices_rotateLeft_string s_0 r_1 R h := by kernel_rfl
theorem slices_rotateLeft_string_call (s_0 : Sl) (r_1 : Int) {R : Unit → Heap → Prop} {h : Heap} (hx : slices_rotateLeft_string s_0 r_1 R h) : CallT Try.prog 99 [.slice s_0.a s_0.len s_0.cap, .int .i64 r_1] h [] R :=
  call_of_fnX fnsOk mixed Try.func99 (by kernel_rfl) (by rw [slices_rotateLeft_string_eq]; exact hx)

/-- slices.Reverse[[]stowage/btree.node,stowage/btree.node] (100) -/
def slices_Reverse_btree_node (s_0 : Sl) (R : Unit → Heap → Prop) (h : Heap) : Prop :=
  LoopT (σ := Int × Int) (fun X2 s1 h3 => -- s1: i, j
  cnd (decide (s1.1 < s1.2)) (
  idx s_0.a s_0.len s1.2 fun a4 =>
  ldV (a4.add (s1.2.toNat * 1)) h3 fun v5 =>
  idx s_0.a s_0.len s1.1 fun a6 =>
  ldV (a6.add (s1.1.toNat * 1)) h3 fun v7 =>
  idx s_0.a s_0.len s1.1 fun a8 =>
  stC (a8.add (s1.1.toNat * 1)) (v5) h3 fun h9 =>
  idx s_0.a s_0.len s1.2 fun a10 =>
  stC (a10.add (s1.2.toNat * 1)) (v7) h9 fun h11 =>
  X2 ((w64 (s1.1 + 1)), (w64 (s1.2 - 1))) h11) (
  R () h3)) (0, (w64 ((s_0.len : Int) - 1))) h
theorem slices_Reverse_btree_node_eq (s_0 : Sl) (R : Unit → Heap → Prop) (h : Heap) : fnX Try.prog Fns.fns Try.f100 (.s .n (.b (.l [(2, .int .i64), (3, .int .i64)] (.s (.s .n (.s .n .n)) (.s (.b .n) .n))))) [] [.slice s_0.a s_0.len s_0.cap] h R = slices_Reverse_btree_node s_0 R h := by kernel_rfl
theorem slices_Reverse_btree_node_call (s_0 : Sl) {R : Unit → Heap → Prop} {h : Heap} (hx : slices_Reverse_btree_node s_0 R h) : CallT Try.prog 100 [.slice s_0.a s_0.len s_0.cap] h [] R :=
  call_of_fnX fnsOk mixed Try.func100 (by kernel_rfl) (by rw [slices_Reverse_btree_node_eq]; exact hx)

/-- slices.Reverse[[]string,string] (101) -/
def slices_Reverse_string (s_0 : Sl) (R : Unit → Heap → Prop) (h : Heap) : Prop :=
  LoopT (σ := Int × Int) (fun X2 s1 h3 => -- s1: i, j
  cnd (decide (s1.1 < s1.2)) (
  idx s_0.a s_0.len s1.2 fun a4 =>
  ldS (a4.add (s1.2.toNat * 1)) h3 fun s5 =>
  idx s_0.a s_0.len s1.1 fun a6 =>
  ldS (a6.add (s1.1.toNat * 1)) h3 fun s7 =>
  idx s_0.a s_0.len s1.1 fun a8 =>
  stC (a8.add (s1.1.toNat * 1)) (.string s5) h3 fun h9 =>
  idx s_0.a s_0.len s1.2 fun a10 =>
  stC (a10.add (s1.2.toNat * 1)) (.string s7) h9 fun h11 =>
  X2 ((w64 (s1.1 + 1)), (w64 (s1.2 - 1))) h11) (
  R () h3)) (0, (w64 ((s_0.len : Int) - 1))) h
theorem slices_Reverse_string_eq (s_0 : Sl) (R : Unit → Heap → Prop) (h : Heap) : fnX Try.prog Fns.fns Try.f101 (.s .n (.b (.l [(2, .int .i64), (3, .int .i64)] (.s (.s .n (.s .n .n)) (.s (.b .n) .n))))) [] [.slice s_0.a s_0.len s_0.cap] h R = slices_Reverse_string s_0 R h := by kernel_rfl
theorem slices_Reverse_string_call (s_0 : Sl) {R : Unit → Heap → Prop} {h : Heap} (hx : slices_Reverse_string s_0 R h) : CallT Try.prog 101 [.slice s_0.a s_0.len s_0.cap] h [] R :=
  call_of_fnX fnsOk mixed Try.func101 (by kernel_rfl) (by rw [slices_Reverse_string_eq]; exact hx)

/-- (*stowage/btree.leaf).size (119) -/
def btree_leaf_size (l_0 : Option Addr) (R : Int → Heap → Prop) (h : Heap) : Prop :=
  nn l_0 fun a1 =>
  ldL a1 h fun o2 l2 c2 =>
  R (l2 : Int) h
theorem btree_leaf_size_eq (l_0 : Option Addr) (R : Int → Heap → Prop) (h : Heap) : fnX Try.prog Fns.fns Try.f119 (.s .n (.s .n .n)) [.sc (.int .i64)] [.pointer l_0] h R = btree_leaf_size l_0 R h := by kernel_rfl
theorem btree_leaf_size_call (l_0 : Option Addr) {R : Int → Heap → Prop} {h : Heap} (hx : btree_leaf_size l_0 R h) : CallT Try.prog 119 [.pointer l_0] h [.sc (.int .i64)] R :=
  call_of_fnX fnsOk mixed Try.func119 (by kernel_rfl) (by rw [btree_leaf_size_eq]; exact hx)

/-- (*stowage/btree.inner).size (120) -/
def btree_inner_size (n_0 : Option Addr) (R : Int → Heap → Prop) (h : Heap) : Prop :=
  nn n_0 fun a1 =>
  ldL (a1.add 1) h fun o2 l2 c2 =>
  R (l2 : Int) h
theorem btree_inner_size_eq (n_0 : Option Addr) (R : Int → Heap → Prop) (h : Heap) : fnX Try.prog Fns.fns Try.f120 (.s .n (.s .n .n)) [.sc (.int .i64)] [.pointer n_0] h R = btree_inner_size n_0 R h := by kernel_rfl
theorem btree_inner_size_call (n_0 : Option Addr) {R : Int → Heap → Prop} {h : Heap} (hx : btree_inner_size n_0 R h) : CallT Try.prog 120 [.pointer n_0] h [.sc (.int .i64)] R :=
  call_of_fnX fnsOk mixed Try.func120 (by kernel_rfl) (by rw [btree_inner_size_eq]; exact hx)

end Go.Proofs.Ytkgocfaajfaidaa
