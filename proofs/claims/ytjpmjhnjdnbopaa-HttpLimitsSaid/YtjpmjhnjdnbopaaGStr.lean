/- Go functions as short texts over the heap, and that each is what the loaded function comes to (the kernel compares them); written by a program. -/
import Derived.Test.YtjpmjhnjdnbopaaGBase
set_option linter.unusedVariables false
set_option maxRecDepth 100000
namespace Go.Proofs.Ytjpmjhnjdnbopaa
open Go D
/-- strings.Cut (34) -/
def strings_Cut (s_0 : ByteArray) (sep_1 : ByteArray) (R : ByteArray × ByteArray × Bool → Heap → Prop) (h : Heap) : Prop :=
  CallT Try.prog internal_stringslite_Cut_no [.string s_0, .string sep_1] h [.sc (.str), .sc (.str), .sc (.bool)] fun (r1 : ByteArray × ByteArray × Bool) h2 =>
  R (r1.1, r1.2.1, r1.2.2) h2
theorem strings_Cut_eq (s_0 : ByteArray) (sep_1 : ByteArray) (R : ByteArray × ByteArray × Bool → Heap → Prop) (h : Heap) : fnX Try.prog Fns.fns Try.f34 (.s .n (.s .n .n)) [.sc (.str), .sc (.str), .sc (.bool)] [.string s_0, .string sep_1] h R = strings_Cut s_0 sep_1 R h := by kernel_rfl
theorem strings_Cut_call (s_0 : ByteArray) (sep_1 : ByteArray) {R : ByteArray × ByteArray × Bool → Heap → Prop} {h : Heap} (hx : strings_Cut s_0 sep_1 R h) : CallT Try.prog 34 [.string s_0, .string sep_1] h [.sc (.str), .sc (.str), .sc (.bool)] R :=
  call_of_fnX fnsOk mixed Try.func34 (by kernel_rfl) (by rw [strings_Cut_eq]; exact hx)

/-- (*strings.Builder).WriteString (37) -/
def strings_Builder_WriteString (b_0 : Option Addr) (s_1 : ByteArray) (R : Int × Value → Heap → Prop) (h : Heap) : Prop :=
  CallT Try.prog strings_Builder_copyCheck_no [.pointer b_0] h [] fun (r1 : Unit) h2 =>
  nn b_0 fun a3 =>
  ldL (a3.add 1) h2 fun o4 l4 c4 =>
  app [.int .u8 0] 5 1 1 o4 l4 c4 (bytesV s_1) s_1.size h2 fun o5 c6 h7 =>
  nn b_0 fun a8 =>
  stC (a8.add 1) (.slice o5 (l4 + s_1.size) c6) h7 fun h9 =>
  R ((s_1.size : Int), (.nilIface : Value)) h9
theorem strings_Builder_WriteString_eq (b_0 : Option Addr) (s_1 : ByteArray) (R : Int × Value → Heap → Prop) (h : Heap) : fnX Try.prog Fns.fns Try.f37 (.s .n (.s .n (.s .n (.s .n .n)))) [.sc (.int .i64), .sc (.raw)] [.pointer b_0, .string s_1] h R = strings_Builder_WriteString b_0 s_1 R h := by kernel_rfl
theorem strings_Builder_WriteString_call (b_0 : Option Addr) (s_1 : ByteArray) {R : Int × Value → Heap → Prop} {h : Heap} (hx : strings_Builder_WriteString b_0 s_1 R h) : CallT Try.prog 37 [.pointer b_0, .string s_1] h [.sc (.int .i64), .sc (.raw)] R :=
  call_of_fnX fnsOk mixed Try.func37 (by kernel_rfl) (by rw [strings_Builder_WriteString_eq]; exact hx)

/-- (*strings.Builder).Write (38) -/
def strings_Builder_Write (b_0 : Option Addr) (p_1 : Sl) (R : Int × Value → Heap → Prop) (h : Heap) : Prop :=
  CallT Try.prog strings_Builder_copyCheck_no [.pointer b_0] h [] fun (r1 : Unit) h2 =>
  nn b_0 fun a3 =>
  ldL (a3.add 1) h2 fun o4 l4 c4 =>
  rdCells p_1.a (p_1.len * 1) h2 fun cs8 =>
  app [.int .u8 0] 5 1 1 o4 l4 c4 cs8 p_1.len h2 fun o5 c6 h7 =>
  nn b_0 fun a9 =>
  stC (a9.add 1) (.slice o5 (l4 + p_1.len) c6) h7 fun h10 =>
  R ((p_1.len : Int), (.nilIface : Value)) h10
theorem strings_Builder_Write_eq (b_0 : Option Addr) (p_1 : Sl) (R : Int × Value → Heap → Prop) (h : Heap) : fnX Try.prog Fns.fns Try.f38 (.s .n (.s .n (.s .n (.s .n .n)))) [.sc (.int .i64), .sc (.raw)] [.pointer b_0, .slice p_1.a p_1.len p_1.cap] h R = strings_Builder_Write b_0 p_1 R h := by kernel_rfl
theorem strings_Builder_Write_call (b_0 : Option Addr) (p_1 : Sl) {R : Int × Value → Heap → Prop} {h : Heap} (hx : strings_Builder_Write b_0 p_1 R h) : CallT Try.prog 38 [.pointer b_0, .slice p_1.a p_1.len p_1.cap] h [.sc (.int .i64), .sc (.raw)] R :=
  call_of_fnX fnsOk mixed Try.func38 (by kernel_rfl) (by rw [strings_Builder_Write_eq]; exact hx)

/-- (*strings.Builder).String (39) -/
def strings_Builder_String (b_0 : Option Addr) (R : ByteArray → Heap → Prop) (h : Heap) : Prop :=
  nn b_0 fun a1 =>
  ldL (a1.add 1) h fun o2 l2 c2 =>
  nn b_0 fun a3 =>
  ldL (a3.add 1) h fun o4 l4 c4 =>
  sdata o2 c2 fun o5 =>
  (ldL (a3.add 1) h fun o6 l6 c6 =>
  (.slice o6 l6 c6 : Value) = .slice o4 l4 c4) ∧
  ustr 5 o5 (l4 : Int) h fun s7 h8 =>
  R s7 h8
theorem strings_Builder_String_eq (b_0 : Option Addr) (R : ByteArray → Heap → Prop) (h : Heap) : fnX Try.prog Fns.fns Try.f39 (.s .n (.s .n .n)) [.sc (.str)] [.pointer b_0] h R = strings_Builder_String b_0 R h := by kernel_rfl
theorem strings_Builder_String_call (b_0 : Option Addr) {R : ByteArray → Heap → Prop} {h : Heap} (hx : strings_Builder_String b_0 R h) : CallT Try.prog 39 [.pointer b_0] h [.sc (.str)] R :=
  call_of_fnX fnsOk mixed Try.func39 (by kernel_rfl) (by rw [strings_Builder_String_eq]; exact hx)

/-- internal/stringslite.Cut (53) -/
def internal_stringslite_Cut (s_0 : ByteArray) (sep_1 : ByteArray) (R : ByteArray × ByteArray × Bool → Heap → Prop) (h : Heap) : Prop :=
  CallT Try.prog internal_stringslite_Index_no [.string s_0, .string sep_1] h [.sc (.int .i64)] fun (r1 : Int) h2 =>
  cnd (decide (r1 ≥ 0)) (
  ssl s_0 0 r1 fun s3 =>
  ssl s_0 (w64 (r1 + (sep_1.size : Int))) (s_0.size : Int) fun s4 =>
  R (s3, s4, true) h2) (
  R (s_0, (⟨#[]⟩ : ByteArray), false) h2)
theorem internal_stringslite_Cut_eq (s_0 : ByteArray) (sep_1 : ByteArray) (R : ByteArray × ByteArray × Bool → Heap → Prop) (h : Heap) : fnX Try.prog Fns.fns Try.f53 (.s .n (.s (.s .n (.s .n (.s (.s .n .n) .n))) (.s .n .n))) [.sc (.str), .sc (.str), .sc (.bool)] [.string s_0, .string sep_1] h R = internal_stringslite_Cut s_0 sep_1 R h := by kernel_rfl
theorem internal_stringslite_Cut_call (s_0 : ByteArray) (sep_1 : ByteArray) {R : ByteArray × ByteArray × Bool → Heap → Prop} {h : Heap} (hx : internal_stringslite_Cut s_0 sep_1 R h) : CallT Try.prog 53 [.string s_0, .string sep_1] h [.sc (.str), .sc (.str), .sc (.bool)] R :=
  call_of_fnX fnsOk mixed Try.func53 (by kernel_rfl) (by rw [internal_stringslite_Cut_eq]; exact hx)

/-- (*strings.Builder).copyCheck (54) -/
def strings_Builder_copyCheck (b_0 : Option Addr) (R : Unit → Heap → Prop) (h : Heap) : Prop :=
  nn b_0 fun a1 =>
  ldP a1 h fun p2 =>
  cnd p2.isNone (
  nn b_0 fun a3 =>
  seenB a3 h (
  liesB Try.prog 78 1 a3 h (
  nn b_0 fun a4 =>
  stC a4 (.pointer (some a3)) h fun h5 =>
  R () h5))) (
  nn b_0 fun a6 =>
  ldP a6 h fun p7 =>
  ((p7 : Option Addr) = b_0) ∧
  R () h)
theorem strings_Builder_copyCheck_eq (b_0 : Option Addr) (R : Unit → Heap → Prop) (h : Heap) : fnX Try.prog Fns.fns Try.f54 (.s .n (.s .n (.s .n (.s .n .n)))) [] [.pointer b_0] h R = strings_Builder_copyCheck b_0 R h := by kernel_rfl
theorem strings_Builder_copyCheck_call (b_0 : Option Addr) {R : Unit → Heap → Prop} {h : Heap} (hx : strings_Builder_copyCheck b_0 R h) : CallT Try.prog 54 [.pointer b_0] h [] R :=
  call_of_fnX fnsOk mixed Try.func54 (by kernel_rfl) (by rw [strings_Builder_copyCheck_eq]; exact hx)

/-- strings.Index (59) -/
def strings_Index (s_0 : ByteArray) (substr_1 : ByteArray) (R : Int → Heap → Prop) (h : Heap) : Prop :=
  CallT Try.prog internal_stringslite_Index_no [.string s_0, .string substr_1] h [.sc (.int .i64)] fun (r1 : Int) h2 =>
  R r1 h2
theorem strings_Index_eq (s_0 : ByteArray) (substr_1 : ByteArray) (R : Int → Heap → Prop) (h : Heap) : fnX Try.prog Fns.fns Try.f59 (.s .n (.s .n .n)) [.sc (.int .i64)] [.string s_0, .string substr_1] h R = strings_Index s_0 substr_1 R h := by kernel_rfl
theorem strings_Index_call (s_0 : ByteArray) (substr_1 : ByteArray) {R : Int → Heap → Prop} {h : Heap} (hx : strings_Index s_0 substr_1 R h) : CallT Try.prog 59 [.string s_0, .string substr_1] h [.sc (.int .i64)] R :=
  call_of_fnX fnsOk mixed Try.func59 (by kernel_rfl) (by rw [strings_Index_eq]; exact hx)

/-- strings.ContainsAny (60) -/
def strings_ContainsAny (s_0 : ByteArray) (chars_1 : ByteArray) (R : Bool → Heap → Prop) (h : Heap) : Prop :=
  CallT Try.prog strings_IndexAny_no [.string s_0, .string chars_1] h [.sc (.int .i64)] fun (r1 : Int) h2 =>
  R (decide (r1 ≥ 0)) h2
theorem strings_ContainsAny_eq (s_0 : ByteArray) (chars_1 : ByteArray) (R : Bool → Heap → Prop) (h : Heap) : fnX Try.prog Fns.fns Try.f60 (.s .n (.s .n .n)) [.sc (.bool)] [.string s_0, .string chars_1] h R = strings_ContainsAny s_0 chars_1 R h := by kernel_rfl
theorem strings_ContainsAny_call (s_0 : ByteArray) (chars_1 : ByteArray) {R : Bool → Heap → Prop} {h : Heap} (hx : strings_ContainsAny s_0 chars_1 R h) : CallT Try.prog 60 [.string s_0, .string chars_1] h [.sc (.bool)] R :=
  call_of_fnX fnsOk mixed Try.func60 (by kernel_rfl) (by rw [strings_ContainsAny_eq]; exact hx)

/-- internal/stringslite.Index (70) -/
def internal_stringslite_Index (x_0 : ByteArray) (x_1 : ByteArray) (R : Int → Heap → Prop) (h : Heap) : Prop :=
  withJ (σ := Unit) (fun s1 h3 => -- s1: 
  sidx x_1 0 fun u4 =>
  sidx x_1 1 fun u5 =>
  LoopT (σ := Int × Int) (fun X7 s6 h8 => -- s6: t8, t10
  cnd (decide (s6.1 < (w64 ((w64 ((x_0.size : Int) - (x_1.size : Int))) + 1)))) (
  withJ (σ := Int) (fun s9 h11 => -- s9: t8
  withJ (σ := Unit) (fun s12 h14 => -- s12: 
  withJ (σ := Bool) (fun s15 h17 => -- s15: t107
  cnd s15 (
  ssl x_0 (w64 (s9 + 1)) (x_0.size : Int) fun s18 =>
  ixS 0 s18 x_1 h17 fun n19 =>
  cnd (decide (n19 ≥ 0)) (
  R (w64 (n19 + (w64 (s9 + 1)))) h17) (
  R (-1) h17)) (
  withJ (σ := Bool) (fun s20 h22 => -- s20: t132
  cnd s20 (
  ssl x_0 (w64 (s9 + 1)) (x_0.size : Int) fun s23 =>
  CallT Try.prog internal_bytealg_IndexRabinKarp_string_no [.string s23, .string x_1] h22 [.sc (.int .i64)] fun (r24 : Int) h25 =>
  cnd (decide (r24 < 0)) (
  R (-1) h25) (
  R (w64 ((w64 (s9 + 1)) + r24)) h25)) (
  X7 ((w64 (s9 + 1)), (w64 (s6.2 + 1))) h22)) (fun J21 =>
  ldI .i64 (⟨0, 0, none⟩) h17 fun n26 =>
  cnd (decide ((x_1.size : Int) > n26)) (
  cnd (decide ((w64 (s6.2 + 1)) ≥ (w64 (4 + (shrI .i64 (w64 (s9 + 1)) 4))))) (
  J21 (decide ((w64 (s9 + 1)) < (w64 ((w64 ((x_0.size : Int) - (x_1.size : Int))) + 1)))) h17) (
  J21 false h17)) (
  J21 false h17)))) (fun J16 =>
  ldI .i64 (⟨0, 0, none⟩) h14 fun n27 =>
  cnd (decide ((x_1.size : Int) ≤ n27)) (
  CallT Try.prog internal_bytealg_Cutover_no [.int .i64 (w64 (s9 + 1))] h14 [.sc (.int .i64)] fun (r28 : Int) h29 =>
  J16 (decide ((w64 (s6.2 + 1)) > r28)) h29) (
  J16 false h14))) (fun J13 =>
  withJ (σ := Bool) (fun s30 h32 => -- s30: t93
  cnd s30 (
  R s9 h32) (
  J13 () h32)) (fun J31 =>
  sidx x_0 (w64 (s9 + 1)) fun u33 =>
  cnd ((u33.toNat : Int) == (u5.toNat : Int)) (
  ssl x_0 s9 (w64 (s9 + (x_1.size : Int))) fun s34 =>
  J31 (seq s34 x_1) h11) (
  J31 false h11)))) (fun J10 =>
  sidx x_0 s6.1 fun u35 =>
  cnd ((u35.toNat : Int) != (u4.toNat : Int)) (
  ssl x_0 (w64 (s6.1 + 1)) (w64 ((w64 ((x_0.size : Int) - (x_1.size : Int))) + 1)) fun s36 =>
  CallT Try.prog internal_stringslite_IndexByte_no [.string s36, .int .u8 (u4.toNat : Int)] h8 [.sc (.int .i64)] fun (r37 : Int) h38 =>
  cnd (decide (r37 < 0)) (
  R (-1) h38) (
  J10 (w64 (s6.1 + (w64 (r37 + 1)))) h38)) (
  J10 s6.1 h8))) (
  R (-1) h8)) (0, 0) h3) (fun J2 =>
  withJ (σ := Bool) (fun s39 h41 => -- s39: t16
  cnd s39 (
  R 0 h41) (
  cnd ((x_1.size : Int) == 1) (
  sidx x_1 0 fun u42 =>
  CallT Try.prog internal_stringslite_IndexByte_no [.string x_0, .int .u8 (u42.toNat : Int)] h41 [.sc (.int .i64)] fun (r43 : Int) h44 =>
  R r43 h44) (
  cnd (decide ((x_1.size : Int) ≥ (x_0.size : Int))) (
  R (-1) h41) (
  withJ (σ := Bool) (fun s45 h47 => -- s45: t36
  cnd s45 (
  ixS 0 x_0 x_1 h47 fun n48 =>
  R n48 h47) (
  J2 () h47)) (fun J46 =>
  ldI .i64 (⟨0, 0, none⟩) h41 fun n49 =>
  cnd (decide ((x_1.size : Int) ≤ n49)) (
  J46 (decide ((x_0.size : Int) ≤ 64)) h41) (
  J46 false h41)))))) (fun J40 =>
  cnd ((x_1.size : Int) == 0) (
  J40 true h) (
  J40 (seq x_1 x_0) h)))
theorem internal_stringslite_Index_eq (x_0 : ByteArray) (x_1 : ByteArray) (R : Int → Heap → Prop) (h : Heap) : fnX Try.prog Fns.fns Try.f70 (.s .n (.s .n (.j [] (.b (.j [(16, .bool)] .n (.s (.s .n .n) (.s .n (.s (.s .n .n) (.s .n (.s (.s .n .n) (.j [(36, .bool)] .n (.s (.s .n .n) .n))))))))) (.s .n (.s .n (.s .n (.s .n (.s .n (.s (.b (.l [(8, .int .i64), (10, .int .i64)] (.s (.s .n (.s .n .n)) (.b (.j [(8, .int .i64)] (.s .n (.s (.s .n (.s (.s .n (.s (.s .n .n) .n)) .n)) .n)) (.j [] (.j [(93, .bool)] .n (.s (.s .n .n) .n)) (.s .n (.s .n (.j [(107, .bool)] .n (.s (.s .n (.s (.s .n (.s (.s .n .n) .n)) (.s .n .n))) (.j [(132, .bool)] .n (.s (.s .n (.s (.s .n (.s (.s .n .n) .n)) (.s .n .n))) .n)))))))))))) (.s .n .n)))))))))) [.sc (.int .i64)] [.string x_0, .string x_1] h R = internal_stringslite_Index x_0 x_1 R h := by kernel_rfl
theorem internal_stringslite_Index_call (x_0 : ByteArray) (x_1 : ByteArray) {R : Int → Heap → Prop} {h : Heap} (hx : internal_stringslite_Index x_0 x_1 R h) : CallT Try.prog 70 [.string x_0, .string x_1] h [.sc (.int .i64)] R :=
  call_of_fnX fnsOk mixed Try.func70 (by kernel_rfl) (by rw [internal_stringslite_Index_eq]; exact hx)

/-- strings.IndexByte (73) -/
def strings_IndexByte (s_0 : ByteArray) (c_1 : Int) (R : Int → Heap → Prop) (h : Heap) : Prop :=
  CallT Try.prog internal_stringslite_IndexByte_no [.string s_0, .int .u8 c_1] h [.sc (.int .i64)] fun (r1 : Int) h2 =>
  R r1 h2
theorem strings_IndexByte_eq (s_0 : ByteArray) (c_1 : Int) (R : Int → Heap → Prop) (h : Heap) : fnX Try.prog Fns.fns Try.f73 (.s .n (.s .n .n)) [.sc (.int .i64)] [.string s_0, .int .u8 c_1] h R = strings_IndexByte s_0 c_1 R h := by kernel_rfl
theorem strings_IndexByte_call (s_0 : ByteArray) (c_1 : Int) {R : Int → Heap → Prop} {h : Heap} (hx : strings_IndexByte s_0 c_1 R h) : CallT Try.prog 73 [.string s_0, .int .u8 c_1] h [.sc (.int .i64)] R :=
  call_of_fnX fnsOk mixed Try.func73 (by kernel_rfl) (by rw [strings_IndexByte_eq]; exact hx)

/-- strings.IndexAny (75) -/
def strings_IndexAny (s_0 : ByteArray) (chars_1 : ByteArray) (R : Int → Heap → Prop) (h : Heap) : Prop :=
  cnd (seq chars_1 (⟨#[]⟩ : ByteArray)) (
  R (-1) h) (
  cnd ((chars_1.size : Int) == 1) (
  sidx chars_1 0 fun u1 =>
  withJ (σ := Int) (fun s2 h4 => -- s2: r
  CallT Try.prog strings_IndexRune_no [.string s_0, .int .i32 s2] h4 [.sc (.int .i64)] fun (r5 : Int) h6 =>
  R r5 h6) (fun J3 =>
  cnd (decide ((IntKind.i32.wrap ((u1.toNat : Int))) ≥ 128)) (
  J3 65533 h) (
  J3 (IntKind.i32.wrap ((u1.toNat : Int))) h))) (
  withJ (σ := Unit) (fun s7 h9 => -- s7: 
  rngS s_0 h9 fun a10 h11 =>
  LoopT (σ := Unit) (fun X13 s12 h14 => -- s12: 
  nxtS a10 h14 (fun i15 n16 h17 =>
  CallT Try.prog strings_IndexRune_no [.string chars_1, .int .i32 n16] h17 [.sc (.int .i64)] fun (r18 : Int) h19 =>
  cnd (decide (r18 ≥ 0)) (
  R i15 h19) (
  X13 () h19)) (
  R (-1) h14)) () h11) (fun J8 =>
  CallT Try.prog strings_shouldUseASCIISet_no [.int .i64 (s_0.size : Int)] h [.sc (.bool)] fun (r20 : Bool) h21 =>
  cnd r20 (
  CallT Try.prog strings_makeASCIISet_no [.string chars_1] h21 [.sc (.raw), .sc (.bool)] fun (r22 : Value × Bool) h23 =>
  newB (List.replicate 256 (.bool false : Value)) 112 h23 fun a24 h25 =>
  agD r22.1 fun cs27 =>
  cs27.length = 256 ∧ stRow cs27 a24 h25 fun h26 =>
  cnd r22.2 (
  LoopT (σ := Int) (fun X29 s28 h30 => -- s28: i
  cnd (decide (s28 < (s_0.size : Int))) (
  sidx s_0 s28 fun u31 =>
  CallT Try.prog strings_asciiSet_contains_no [.pointer (some a24), .int .u8 (u31.toNat : Int)] h30 [.sc (.bool)] fun (r32 : Bool) h33 =>
  cnd r32 (
  R s28 h33) (
  X29 (w64 (s28 + 1)) h33)) (
  R (-1) h30)) 0 h26) (
  J8 () h26)) (
  J8 () h21))))
theorem strings_IndexAny_eq (s_0 : ByteArray) (chars_1 : ByteArray) (R : Int → Heap → Prop) (h : Heap) : fnX Try.prog Fns.fns Try.f75 (.s .n (.s (.s .n (.s (.s .n .n) .n)) (.s (.s .n (.s (.s .n (.j [(5, .int .i32)] (.s .n (.s .n .n)) (.s .n .n))) .n)) (.j [] (.s .n (.s (.s .n (.s .n (.s (.s (.s .n (.b (.l [(8, .int .i64)] (.s (.s .n (.s .n .n)) (.s (.b (.s .n (.s (.s .n .n) .n))) .n))))) (.s .n .n)) .n))) .n)) (.s (.s .n (.b (.l [] (.s .n (.s (.s .n .n) .n))))) (.s .n .n)))))) [.sc (.int .i64)] [.string s_0, .string chars_1] h R = strings_IndexAny s_0 chars_1 R h := by kernel_rfl
theorem strings_IndexAny_call (s_0 : ByteArray) (chars_1 : ByteArray) {R : Int → Heap → Prop} {h : Heap} (hx : strings_IndexAny s_0 chars_1 R h) : CallT Try.prog 75 [.string s_0, .string chars_1] h [.sc (.int .i64)] R :=
  call_of_fnX fnsOk mixed Try.func75 (by kernel_rfl) (by rw [strings_IndexAny_eq]; exact hx)

/-- internal/stringslite.IndexByte (76) -/
def internal_stringslite_IndexByte (s_0 : ByteArray) (c_1 : Int) (R : Int → Heap → Prop) (h : Heap) : Prop :=
  R (ixB s_0 c_1) h
theorem internal_stringslite_IndexByte_eq (s_0 : ByteArray) (c_1 : Int) (R : Int → Heap → Prop) (h : Heap) : fnX Try.prog Fns.fns Try.f76 (.s .n (.s .n .n)) [.sc (.int .i64)] [.string s_0, .int .u8 c_1] h R = internal_stringslite_IndexByte s_0 c_1 R h := by kernel_rfl
theorem internal_stringslite_IndexByte_call (s_0 : ByteArray) (c_1 : Int) {R : Int → Heap → Prop} {h : Heap} (hx : internal_stringslite_IndexByte s_0 c_1 R h) : CallT Try.prog 76 [.string s_0, .int .u8 c_1] h [.sc (.int .i64)] R :=
  call_of_fnX fnsOk mixed Try.func76 (by kernel_rfl) (by rw [internal_stringslite_IndexByte_eq]; exact hx)

/-- strings.IndexRune (80) -/
def strings_IndexRune (x_0 : ByteArray) (x_1 : Int) (R : Int → Heap → Prop) (h : Heap) : Prop :=
  withJ (σ := Bool) (fun s1 h3 => -- s1: t160
  cnd s1 (
  CallT Try.prog strings_IndexByte_no [.string x_0, .int .u8 (IntKind.u8.wrap (x_1))] h3 [.sc (.int .i64)] fun (r4 : Int) h5 =>
  R r4 h5) (
  cnd (x_1 == 65533) (
  rngS x_0 h3 fun a6 h7 =>
  LoopT (σ := Unit) (fun X9 s8 h10 => -- s8: 
  nxtS a6 h10 (fun i11 n12 h13 =>
  cnd (n12 == 65533) (
  R i11 h13) (
  X9 () h13)) (
  R (-1) h10)) () h7) (
  CallT Try.prog unicode_utf8_ValidRune_no [.int .i32 x_1] h3 [.sc (.bool)] fun (r14 : Bool) h15 =>
  cnd (!r14) (
  R (-1) h15) (
  withJ (σ := Unit) (fun s16 h18 => -- s16: 
  False) (fun J17 =>
  LoopT (σ := Int × Int) (fun X20 s19 h21 => -- s19: t9, t10
  cnd (decide (s19.1 < (x_0.size : Int))) (
  withJ (σ := Int × Int) (fun s22 h24 => -- s22: t9, t10
  CallT Try.prog internal_bytealg_Cutover_no [.int .i64 (w64 (s22.1 + 1))] h24 [.sc (.int .i64)] fun (r25 : Int) h26 =>
  cnd (decide ((w64 (s22.2 + 1)) > r25)) (
  cnd (decide ((w64 (s22.1 + 1)) < (x_0.size : Int))) (
  False) (
  X20 ((w64 (s22.1 + 1)), (w64 (s22.2 + 1))) h26)) (
  X20 ((w64 (s22.1 + 1)), (w64 (s22.2 + 1))) h26)) (fun J23 =>
  withJ (σ := Int) (fun s27 h29 => -- s27: t9
  LoopT (σ := Int) (fun X31 s30 h32 => -- s30: t12
  cnd (decide (s30 < ((Utf8.encode x_1).size : Int))) (
  sidx x_0 (w64 (s27 - s30)) fun u33 =>
  sidx (Utf8.encode x_1) (w64 ((w64 (((Utf8.encode x_1).size : Int) - 1)) - s30)) fun u34 =>
  cnd ((u33.toNat : Int) != (u34.toNat : Int)) (
  J23 (s27, s19.2) h32) (
  X31 (w64 (s30 + 1)) h32)) (
  R (w64 (s27 - (w64 (((Utf8.encode x_1).size : Int) - 1)))) h32)) 1 h29) (fun J28 =>
  sidx x_0 s19.1 fun u35 =>
  sidx (Utf8.encode x_1) (w64 (((Utf8.encode x_1).size : Int) - 1)) fun u36 =>
  cnd ((u35.toNat : Int) != (u36.toNat : Int)) (
  ssl x_0 (w64 (s19.1 + 1)) (x_0.size : Int) fun s37 =>
  sidx (Utf8.encode x_1) (w64 (((Utf8.encode x_1).size : Int) - 1)) fun u38 =>
  CallT Try.prog strings_IndexByte_no [.string s37, .int .u8 (u38.toNat : Int)] h21 [.sc (.int .i64)] fun (r39 : Int) h40 =>
  cnd (decide (r39 < 0)) (
  R (-1) h40) (
  J28 (w64 (s19.1 + (w64 (r39 + 1)))) h40)) (
  J28 s19.1 h21)))) (
  R (-1) h21)) ((w64 (((Utf8.encode x_1).size : Int) - 1)), 0) h15))))) (fun J2 =>
  cnd (decide ((0 : Int) ≤ x_1)) (
  J2 (decide (x_1 < 128)) h) (
  J2 false h))
theorem strings_IndexRune_eq (x_0 : ByteArray) (x_1 : Int) (R : Int → Heap → Prop) (h : Heap) : fnX Try.prog Fns.fns Try.f80 (.s .n (.b (.j [(160, .bool)] .n (.s (.s .n .n) (.s .n (.s (.s (.s .n (.b (.l [] (.s .n (.s (.s .n .n) .n))))) (.s .n .n)) (.s .n (.s (.s .n .n) (.g 1 [] (.s .n (.s .n (.s .n (.s .n (.s (.b (.l [(9, .int .i64), (10, .int .i64)] (.s (.s .n (.s .n .n)) (.b (.g 0 [(9, .int .i64), (10, .int .i64)] (.j [(9, .int .i64)] (.s .n (.s (.s .n (.s (.s .n (.s (.s .n .n) .n)) .n)) .n)) (.s (.s .n (.b (.l [(12, .int .i64)] (.s (.s .n (.s .n .n)) (.s (.b (.s .n (.s .n .n))) .n))))) (.s (.s .n .n) .n))) (.s .n (.s .n (.s .n (.s .n (.s .n (.s .n (.s .n (.s .n .n))))))))))))) (.s (.s .n .n) .n)))))) .n))))))))) [.sc (.int .i64)] [.string x_0, .int .i32 x_1] h R = strings_IndexRune x_0 x_1 R h := by kernel_rfl
theorem strings_IndexRune_call (x_0 : ByteArray) (x_1 : Int) {R : Int → Heap → Prop} {h : Heap} (hx : strings_IndexRune x_0 x_1 R h) : CallT Try.prog 80 [.string x_0, .int .i32 x_1] h [.sc (.int .i64)] R :=
  call_of_fnX fnsOk mixed Try.func80 (by kernel_rfl) (by rw [strings_IndexRune_eq]; exact hx)

/-- strings.shouldUseASCIISet (81) -/
def strings_shouldUseASCIISet (bufLen_0 : Int) (R : Bool → Heap → Prop) (h : Heap) : Prop :=
  R (decide (bufLen_0 > 8)) h
theorem strings_shouldUseASCIISet_eq (bufLen_0 : Int) (R : Bool → Heap → Prop) (h : Heap) : fnX Try.prog Fns.fns Try.f81 (.s .n (.s .n .n)) [.sc (.bool)] [.int .i64 bufLen_0] h R = strings_shouldUseASCIISet bufLen_0 R h := by kernel_rfl
theorem strings_shouldUseASCIISet_call (bufLen_0 : Int) {R : Bool → Heap → Prop} {h : Heap} (hx : strings_shouldUseASCIISet bufLen_0 R h) : CallT Try.prog 81 [.int .i64 bufLen_0] h [.sc (.bool)] R :=
  call_of_fnX fnsOk mixed Try.func81 (by kernel_rfl) (by rw [strings_shouldUseASCIISet_eq]; exact hx)

/-- strings.makeASCIISet (82) -/
def strings_makeASCIISet (chars_0 : ByteArray) (R : Value × Bool → Heap → Prop) (h : Heap) : Prop :=
  newB (List.replicate 256 (.bool false : Value)) 112 h fun a1 h2 =>
  LoopT (σ := Int) (fun X4 s3 h5 => -- s3: i
  cnd (decide (s3 < (chars_0.size : Int))) (
  sidx chars_0 s3 fun u6 =>
  cnd (decide ((u6.toNat : Int) ≥ 128)) (
  ldRow 256 a1 h5 fun cs7 =>
  (cs7 : List Value).length = 256 ∧ stRow cs7 a1 h5 fun h8 =>
  ldRow 256 a1 h8 fun cs9 =>
  R ((.agg cs9.toArray : Value), false) h8) (
  inB 256 (u6.toNat : Int) (
  stC (a1.add ((u6.toNat : Int).toNat * 1)) (.bool true) h5 fun h10 =>
  X4 (w64 (s3 + 1)) h10))) (
  ldRow 256 a1 h5 fun cs11 =>
  (cs11 : List Value).length = 256 ∧ stRow cs11 a1 h5 fun h12 =>
  ldRow 256 a1 h12 fun cs13 =>
  R ((.agg cs13.toArray : Value), true) h12)) 0 h2
theorem strings_makeASCIISet_eq (chars_0 : ByteArray) (R : Value × Bool → Heap → Prop) (h : Heap) : fnX Try.prog Fns.fns Try.f82 (.s .n (.s (.s .n (.b (.l [(4, .int .i64)] (.s (.s .n (.s .n .n)) (.s (.b (.s .n (.s (.s .n (.s (.s .n .n) .n)) .n))) .n))))) (.s .n .n))) [.sc (.raw), .sc (.bool)] [.string chars_0] h R = strings_makeASCIISet chars_0 R h := by kernel_rfl
theorem strings_makeASCIISet_call (chars_0 : ByteArray) {R : Value × Bool → Heap → Prop} {h : Heap} (hx : strings_makeASCIISet chars_0 R h) : CallT Try.prog 82 [.string chars_0] h [.sc (.raw), .sc (.bool)] R :=
  call_of_fnX fnsOk mixed Try.func82 (by kernel_rfl) (by rw [strings_makeASCIISet_eq]; exact hx)

/-- (*strings.asciiSet).contains (83) -/
def strings_asciiSet_contains (as_0 : Option Addr) (c_1 : Int) (R : Bool → Heap → Prop) (h : Heap) : Prop :=
  nn as_0 fun a1 =>
  inB 256 c_1 (
  ldB (a1.add (c_1.toNat * 1)) h fun b2 =>
  R b2 h)
theorem strings_asciiSet_contains_eq (as_0 : Option Addr) (c_1 : Int) (R : Bool → Heap → Prop) (h : Heap) : fnX Try.prog Fns.fns Try.f83 (.s .n (.s .n .n)) [.sc (.bool)] [.pointer as_0, .int .u8 c_1] h R = strings_asciiSet_contains as_0 c_1 R h := by kernel_rfl
theorem strings_asciiSet_contains_call (as_0 : Option Addr) (c_1 : Int) {R : Bool → Heap → Prop} {h : Heap} (hx : strings_asciiSet_contains as_0 c_1 R h) : CallT Try.prog 83 [.pointer as_0, .int .u8 c_1] h [.sc (.bool)] R :=
  call_of_fnX fnsOk mixed Try.func83 (by kernel_rfl) (by rw [strings_asciiSet_contains_eq]; exact hx)

/-- unicode/utf8.ValidRune (86) -/
def unicode_utf8_ValidRune (r_0 : Int) (R : Bool → Heap → Prop) (h : Heap) : Prop :=
  withJ (σ := Unit) (fun s1 h3 => -- s1: 
  R false h3) (fun J2 =>
  withJ (σ := Bool) (fun s4 h6 => -- s4: t3
  cnd s4 (
  R true h6) (
  withJ (σ := Bool) (fun s7 h9 => -- s7: t10
  cnd s7 (
  R true h9) (
  J2 () h9)) (fun J8 =>
  cnd (decide ((57343 : Int) < r_0)) (
  J8 (decide (r_0 ≤ 1114111)) h6) (
  J8 false h6)))) (fun J5 =>
  cnd (decide ((0 : Int) ≤ r_0)) (
  J5 (decide (r_0 < 55296)) h) (
  J5 false h)))
theorem unicode_utf8_ValidRune_eq (r_0 : Int) (R : Bool → Heap → Prop) (h : Heap) : fnX Try.prog Fns.fns Try.f86 (.s .n (.j [] (.b (.j [(3, .bool)] .n (.s (.s .n .n) (.j [(10, .bool)] .n (.s (.s .n .n) .n))))) (.s .n .n))) [.sc (.bool)] [.int .i32 r_0] h R = unicode_utf8_ValidRune r_0 R h := by kernel_rfl
theorem unicode_utf8_ValidRune_call (r_0 : Int) {R : Bool → Heap → Prop} {h : Heap} (hx : unicode_utf8_ValidRune r_0 R h) : CallT Try.prog 86 [.int .i32 r_0] h [.sc (.bool)] R :=
  call_of_fnX fnsOk mixed Try.func86 (by kernel_rfl) (by rw [unicode_utf8_ValidRune_eq]; exact hx)

-- NOT PRINTED 103 strings_Builder_Reset: 'NoneType' object is not subscriptable
/-- internal/bytealg.Cutover (78) -/
def internal_bytealg_Cutover (n_0 : Int) (R : Int → Heap → Prop) (h : Heap) : Prop :=
  R (w64 ((w64 (n_0 + 16)).tdiv 8)) h
theorem internal_bytealg_Cutover_eq (n_0 : Int) (R : Int → Heap → Prop) (h : Heap) : fnX Try.prog Fns.fns Try.f78 (.s .n (.s .n .n)) [.sc (.int .i64)] [.int .i64 n_0] h R = internal_bytealg_Cutover n_0 R h := by kernel_rfl
theorem internal_bytealg_Cutover_call (n_0 : Int) {R : Int → Heap → Prop} {h : Heap} (hx : internal_bytealg_Cutover n_0 R h) : CallT Try.prog 78 [.int .i64 n_0] h [.sc (.int .i64)] R :=
  call_of_fnX fnsOk mixed Try.func78 (by kernel_rfl) (by rw [internal_bytealg_Cutover_eq]; exact hx)

/-- internal/bytealg.IndexRabinKarp[string] (79) -/
def internal_bytealg_IndexRabinKarp_string (x_0 : ByteArray) (x_1 : ByteArray) (R : Int → Heap → Prop) (h : Heap) : Prop :=
  CallT Try.prog internal_bytealg_hashStr_string_no [.string x_1] h [.sc (.int .u32), .sc (.int .u32)] fun (r1 : Int × Int) h2 =>
  LoopT (σ := Int × Int) (fun X4 s3 h5 => -- s3: t8, t9
  cnd (decide (s3.2 < (x_1.size : Int))) (
  sidx x_0 s3.2 fun u6 =>
  X4 ((IntKind.u32.wrap ((IntKind.u32.wrap (s3.1 * 16777619)) + (IntKind.u32.wrap ((u6.toNat : Int))))), (w64 (s3.2 + 1))) h5) (
  withJ (σ := Unit) (fun s7 h9 => -- s7: 
  LoopT (σ := Int × Int) (fun X11 s10 h12 => -- s10: t8, t10
  cnd (decide (s10.2 < (x_0.size : Int))) (
  sidx x_0 s10.2 fun u13 =>
  sidx x_0 (w64 (s10.2 - (x_1.size : Int))) fun u14 =>
  withJ (σ := Bool) (fun s15 h17 => -- s15: t77
  cnd s15 (
  R (w64 ((w64 (s10.2 + 1)) - (x_1.size : Int))) h17) (
  X11 ((IntKind.u32.wrap ((IntKind.u32.wrap ((IntKind.u32.wrap (s10.1 * 16777619)) + (IntKind.u32.wrap ((u13.toNat : Int))))) - (IntKind.u32.wrap (r1.2 * (IntKind.u32.wrap ((u14.toNat : Int))))))), (w64 (s10.2 + 1))) h17)) (fun J16 =>
  cnd ((IntKind.u32.wrap ((IntKind.u32.wrap ((IntKind.u32.wrap (s10.1 * 16777619)) + (IntKind.u32.wrap ((u13.toNat : Int))))) - (IntKind.u32.wrap (r1.2 * (IntKind.u32.wrap ((u14.toNat : Int))))))) == r1.1) (
  ssl x_0 (w64 ((w64 (s10.2 + 1)) - (x_1.size : Int))) (w64 (s10.2 + 1)) fun s18 =>
  J16 (seq s18 x_1) h12) (
  J16 false h12))) (
  R (-1) h12)) (s3.1, (x_1.size : Int)) h9) (fun J8 =>
  withJ (σ := Bool) (fun s19 h21 => -- s19: t39
  cnd s19 (
  R 0 h21) (
  J8 () h21)) (fun J20 =>
  cnd (s3.1 == r1.1) (
  ssl x_0 0 (x_1.size : Int) fun s22 =>
  J20 (seq s22 x_1) h5) (
  J20 false h5))))) (0, 0) h2
theorem internal_bytealg_IndexRabinKarp_string_eq (x_0 : ByteArray) (x_1 : ByteArray) (R : Int → Heap → Prop) (h : Heap) : fnX Try.prog Fns.fns Try.f79 (.s .n (.s .n (.s .n (.s .n (.s (.s .n (.b (.l [(8, .int .u32), (9, .int .i64)] (.s (.s .n (.s .n .n)) (.s (.b .n) .n))))) (.j [] (.j [(39, .bool)] .n (.s (.s .n .n) .n)) (.s (.s .n (.b (.l [(8, .int .u32), (10, .int .i64)] (.s (.s .n (.s .n .n)) (.b (.s .n (.s .n (.s .n (.s .n (.j [(77, .bool)] .n (.s (.s .n .n) .n))))))))))) (.s .n .n)))))))) [.sc (.int .i64)] [.string x_0, .string x_1] h R = internal_bytealg_IndexRabinKarp_string x_0 x_1 R h := by kernel_rfl
theorem internal_bytealg_IndexRabinKarp_string_call (x_0 : ByteArray) (x_1 : ByteArray) {R : Int → Heap → Prop} {h : Heap} (hx : internal_bytealg_IndexRabinKarp_string x_0 x_1 R h) : CallT Try.prog 79 [.string x_0, .string x_1] h [.sc (.int .i64)] R :=
  call_of_fnX fnsOk mixed Try.func79 (by kernel_rfl) (by rw [internal_bytealg_IndexRabinKarp_string_eq]; exact hx)

/-- internal/bytealg.hashStr[string] (85) -/
def internal_bytealg_hashStr_string (sep_0 : ByteArray) (R : Int × Int → Heap → Prop) (h : Heap) : Prop :=
  LoopT (σ := Int × Int) (fun X2 s1 h3 => -- s1: hash, i
  cnd (decide (s1.2 < (sep_0.size : Int))) (
  sidx sep_0 s1.2 fun u4 =>
  X2 ((IntKind.u32.wrap ((IntKind.u32.wrap (s1.1 * 16777619)) + (IntKind.u32.wrap ((u4.toNat : Int))))), (w64 (s1.2 + 1))) h3) (
  LoopT (σ := Int × Int × Int) (fun X6 s5 h7 => -- s5: pow, sq, i
  cnd (decide (s5.2.2 > 0)) (
  withJ (σ := Int × Int) (fun s8 h10 => -- s8: pow, sq
  X6 (s8.1, s8.2, (shrI .i64 s5.2.2 1)) h10) (fun J9 =>
  withJ (σ := Int) (fun s11 h13 => -- s11: pow
  J9 (s11, (IntKind.u32.wrap (s5.2.1 * s5.2.1))) h13) (fun J12 =>
  cnd ((andI .i64 s5.2.2 1) != 0) (
  J12 (IntKind.u32.wrap (s5.1 * s5.2.1)) h7) (
  J12 s5.1 h7)))) (
  R (s1.1, s5.1) h7)) (1, 16777619, (sep_0.size : Int)) h3)) (0, 0) h
theorem internal_bytealg_hashStr_string_eq (sep_0 : ByteArray) (R : Int × Int → Heap → Prop) (h : Heap) : fnX Try.prog Fns.fns Try.f85 (.s .n (.s .n (.s (.s .n (.b (.l [(4, .int .u32), (5, .int .i64)] (.s (.s .n (.s .n .n)) (.s (.b .n) .n))))) (.s .n (.s (.s .n (.b (.l [(6, .int .u32), (7, .int .u32), (8, .int .i64)] (.s (.s .n (.s .n .n)) (.j [(6, .int .u32), (7, .int .u32)] (.b (.j [(6, .int .u32)] (.s .n (.s .n .n)) .n)) .n))))) (.s .n .n)))))) [.sc (.int .u32), .sc (.int .u32)] [.string sep_0] h R = internal_bytealg_hashStr_string sep_0 R h := by kernel_rfl
theorem internal_bytealg_hashStr_string_call (sep_0 : ByteArray) {R : Int × Int → Heap → Prop} {h : Heap} (hx : internal_bytealg_hashStr_string sep_0 R h) : CallT Try.prog 85 [.string sep_0] h [.sc (.int .u32), .sc (.int .u32)] R :=
  call_of_fnX fnsOk mixed Try.func85 (by kernel_rfl) (by rw [internal_bytealg_hashStr_string_eq]; exact hx)

end Go.Proofs.Ytjpmjhnjdnbopaa
