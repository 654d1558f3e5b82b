/- Go functions as short texts over the heap, and that each is what the loaded function comes to (the kernel compares them); written by a program. -/
import Derived.Test.YtncffbocmpmejaaDoorGBase
set_option linter.unusedVariables false
set_option maxRecDepth 100000
namespace Go.Proofs.YtncffbocmpmejaaDoor
open Go D
/-- strings.Join (23) -/
def strings_Join (x_0 : Sl) (x_1 : ByteArray) (R : ByteArray → Heap → Prop) (h : Heap) : Prop :=
  cnd ((x_0.len : Int) == 0) (
  R (⟨#[]⟩ : ByteArray) h) (
  cnd ((x_0.len : Int) == 1) (
  idx x_0.a x_0.len 0 fun a1 =>
  ldS (a1.add ((0 : Int).toNat * 1)) h fun s2 =>
  R s2 h) (
  withJ (σ := Int) (fun s3 h5 => -- s3: t5
  LoopT (σ := Int × Int) (fun X7 s6 h8 => -- s6: t5, t41
  cnd (decide (s6.2 < (x_0.len : Int))) (
  withJ (σ := Int) (fun s9 h11 => -- s9: t5
  X7 (s9, (w64 (s6.2 + 1))) h11) (fun J10 =>
  idx x_0.a x_0.len s6.2 fun a12 =>
  ldS (a12.add (s6.2.toNat * 1)) h8 fun s13 =>
  withJ (σ := Unit) (fun s14 h16 => -- s14: 
  J10 (w64 (s6.1 + (s13.size : Int))) h16) (fun J15 =>
  cnd (decide ((s13.size : Int) > (w64 (9223372036854775807 - s6.1)))) (
  False) (
  J15 () h8)))) (
  newB [.pointer none, .slice none 0 0] 65 h8 fun a17 h18 =>
  CallT Tryd.prog strings_Builder_Grow_no [.pointer (some a17), .int .i64 s6.1] h18 [] fun (r19 : Unit) h20 =>
  idx x_0.a x_0.len 0 fun a21 =>
  ldS (a21.add ((0 : Int).toNat * 1)) h20 fun s22 =>
  CallT Tryd.prog strings_Builder_WriteString_no [.pointer (some a17), .string s22] h20 [.sc (.int .i64), .sc (.raw)] fun (r23 : Int × Value) h24 =>
  lsl 1 x_0.a x_0.cap 1 (x_0.len : Int) (x_0.cap : Int) fun o25 l25 c25 =>
  LoopT (σ := Int) (fun X27 s26 h28 => -- s26: t65
  cnd (decide (s26 < (l25 : Int))) (
  idx o25 l25 s26 fun a29 =>
  ldS (a29.add (s26.toNat * 1)) h28 fun s30 =>
  CallT Tryd.prog strings_Builder_WriteString_no [.pointer (some a17), .string x_1] h28 [.sc (.int .i64), .sc (.raw)] fun (r31 : Int × Value) h32 =>
  CallT Tryd.prog strings_Builder_WriteString_no [.pointer (some a17), .string s30] h32 [.sc (.int .i64), .sc (.raw)] fun (r33 : Int × Value) h34 =>
  X27 (w64 (s26 + 1)) h34) (
  CallT Tryd.prog strings_Builder_String_no [.pointer (some a17)] h28 [.sc (.str)] fun (r35 : ByteArray) h36 =>
  R r35 h36)) 0 h24)) (s3, 0) h5) (fun J4 =>
  cnd (decide ((x_1.size : Int) > 0)) (
  withJ (σ := Unit) (fun s37 h39 => -- s37: 
  J4 (w64 (0 + (w64 ((x_1.size : Int) * (w64 ((x_0.len : Int) - 1)))))) h39) (fun J38 =>
  neZ (w64 ((x_0.len : Int) - 1)) (
  cnd (decide ((x_1.size : Int) ≥ (w64 ((9223372036854775807 : Int).tdiv (w64 ((x_0.len : Int) - 1)))))) (
  False) (
  J38 () h)))) (
  J4 0 h))))
theorem strings_Join_eq (x_0 : Sl) (x_1 : ByteArray) (R : ByteArray → Heap → Prop) (h : Heap) : fnX Tryd.prog Fns.fns Tryd.f23 (.s .n (.s (.s .n (.b (.s .n (.s (.s .n .n) (.s .n (.s (.s .n .n) .n)))))) (.s .n (.j [(5, .int .i64)] (.s .n (.s (.j [] (.s .n (.s .n .n)) .n) .n)) (.s (.s .n (.b (.l [(5, .int .i64), (41, .int .i64)] (.s .n (.s (.s .n .n) (.j [(5, .int .i64)] (.b (.s .n (.j [] (.s .n (.s .n .n)) .n))) .n)))))) (.s .n (.s .n (.s .n (.s (.s .n (.b (.l [(65, .int .i64)] (.s .n (.s (.s .n .n) (.s (.b (.s .n (.s .n .n))) .n)))))) (.s .n .n)))))))))) [.sc (.str)] [.slice x_0.a x_0.len x_0.cap, .string x_1] h R = strings_Join x_0 x_1 R h := by kernel_rfl
theorem strings_Join_call (x_0 : Sl) (x_1 : ByteArray) {R : ByteArray → Heap → Prop} {h : Heap} (hx : strings_Join x_0 x_1 R h) : CallT Tryd.prog 23 [.slice x_0.a x_0.len x_0.cap, .string x_1] h [.sc (.str)] R :=
  call_of_fnX fnsOk mixed Tryd.func23 (by kernel_rfl) (by rw [strings_Join_eq]; exact hx)

/-- (*strings.Builder).WriteString (32) -/
def strings_Builder_WriteString (b_0 : Option Addr) (s_1 : ByteArray) (R : Int × Value → Heap → Prop) (h : Heap) : Prop :=
  CallT Tryd.prog strings_Builder_copyCheck_no [.pointer b_0] h [] fun (r1 : Unit) h2 =>
  nn b_0 fun a3 =>
  ldL (a3.add 1) h2 fun o4 l4 c4 =>
  app [.int .u8 0] 5 1 1 o4 l4 c4 (bytesV s_1) s_1.size h2 fun o5 c6 h7 =>
  nn b_0 fun a8 =>
  stC (a8.add 1) (.slice o5 (l4 + s_1.size) c6) h7 fun h9 =>
  R ((s_1.size : Int), (.nilIface : Value)) h9
theorem strings_Builder_WriteString_eq (b_0 : Option Addr) (s_1 : ByteArray) (R : Int × Value → Heap → Prop) (h : Heap) : fnX Tryd.prog Fns.fns Tryd.f32 (.s .n (.s .n (.s .n (.s .n .n)))) [.sc (.int .i64), .sc (.raw)] [.pointer b_0, .string s_1] h R = strings_Builder_WriteString b_0 s_1 R h := by kernel_rfl
theorem strings_Builder_WriteString_call (b_0 : Option Addr) (s_1 : ByteArray) {R : Int × Value → Heap → Prop} {h : Heap} (hx : strings_Builder_WriteString b_0 s_1 R h) : CallT Tryd.prog 32 [.pointer b_0, .string s_1] h [.sc (.int .i64), .sc (.raw)] R :=
  call_of_fnX fnsOk mixed Tryd.func32 (by kernel_rfl) (by rw [strings_Builder_WriteString_eq]; exact hx)

/-- (*strings.Builder).Write (33) -/
def strings_Builder_Write (b_0 : Option Addr) (p_1 : Sl) (R : Int × Value → Heap → Prop) (h : Heap) : Prop :=
  CallT Tryd.prog strings_Builder_copyCheck_no [.pointer b_0] h [] fun (r1 : Unit) h2 =>
  nn b_0 fun a3 =>
  ldL (a3.add 1) h2 fun o4 l4 c4 =>
  rdCells p_1.a (p_1.len * 1) h2 fun cs8 =>
  app [.int .u8 0] 5 1 1 o4 l4 c4 cs8 p_1.len h2 fun o5 c6 h7 =>
  nn b_0 fun a9 =>
  stC (a9.add 1) (.slice o5 (l4 + p_1.len) c6) h7 fun h10 =>
  R ((p_1.len : Int), (.nilIface : Value)) h10
theorem strings_Builder_Write_eq (b_0 : Option Addr) (p_1 : Sl) (R : Int × Value → Heap → Prop) (h : Heap) : fnX Tryd.prog Fns.fns Tryd.f33 (.s .n (.s .n (.s .n (.s .n .n)))) [.sc (.int .i64), .sc (.raw)] [.pointer b_0, .slice p_1.a p_1.len p_1.cap] h R = strings_Builder_Write b_0 p_1 R h := by kernel_rfl
theorem strings_Builder_Write_call (b_0 : Option Addr) (p_1 : Sl) {R : Int × Value → Heap → Prop} {h : Heap} (hx : strings_Builder_Write b_0 p_1 R h) : CallT Tryd.prog 33 [.pointer b_0, .slice p_1.a p_1.len p_1.cap] h [.sc (.int .i64), .sc (.raw)] R :=
  call_of_fnX fnsOk mixed Tryd.func33 (by kernel_rfl) (by rw [strings_Builder_Write_eq]; exact hx)

/-- (*strings.Builder).String (34) -/
def strings_Builder_String (b_0 : Option Addr) (R : ByteArray → Heap → Prop) (h : Heap) : Prop :=
  nn b_0 fun a1 =>
  ldL (a1.add 1) h fun o2 l2 c2 =>
  nn b_0 fun a3 =>
  ldL (a3.add 1) h fun o4 l4 c4 =>
  sdata o2 c2 fun o5 =>
  (ldL (a3.add 1) h fun o6 l6 c6 =>
  (.slice o6 l6 c6 : Value) = .slice o4 l4 c4) ∧
  ustr 5 o5 (l4 : Int) h fun s7 h8 =>
  R s7 h8
theorem strings_Builder_String_eq (b_0 : Option Addr) (R : ByteArray → Heap → Prop) (h : Heap) : fnX Tryd.prog Fns.fns Tryd.f34 (.s .n (.s .n .n)) [.sc (.str)] [.pointer b_0] h R = strings_Builder_String b_0 R h := by kernel_rfl
theorem strings_Builder_String_call (b_0 : Option Addr) {R : ByteArray → Heap → Prop} {h : Heap} (hx : strings_Builder_String b_0 R h) : CallT Tryd.prog 34 [.pointer b_0] h [.sc (.str)] R :=
  call_of_fnX fnsOk mixed Tryd.func34 (by kernel_rfl) (by rw [strings_Builder_String_eq]; exact hx)

/-- (*strings.Builder).Grow (45) -/
def strings_Builder_Grow (b_0 : Option Addr) (n_1 : Int) (R : Unit → Heap → Prop) (h : Heap) : Prop :=
  CallT Tryd.prog strings_Builder_copyCheck_no [.pointer b_0] h [] fun (r1 : Unit) h2 =>
  withJ (σ := Unit) (fun s3 h5 => -- s3: 
  nn b_0 fun a6 =>
  ldL (a6.add 1) h5 fun o7 l7 c7 =>
  nn b_0 fun a8 =>
  ldL (a8.add 1) h5 fun o9 l9 c9 =>
  cnd (decide ((w64 ((c7 : Int) - (l9 : Int))) < n_1)) (
  CallT Tryd.prog strings_Builder_grow_no [.pointer b_0, .int .i64 n_1] h5 [] fun (r10 : Unit) h11 =>
  R () h11) (
  R () h5)) (fun J4 =>
  cnd (decide (n_1 < 0)) (
  False) (
  J4 () h2))
theorem strings_Builder_Grow_eq (b_0 : Option Addr) (n_1 : Int) (R : Unit → Heap → Prop) (h : Heap) : fnX Tryd.prog Fns.fns Tryd.f45 (.s .n (.j [] (.s .n (.s .n .n)) (.s .n (.s .n .n)))) [] [.pointer b_0, .int .i64 n_1] h R = strings_Builder_Grow b_0 n_1 R h := by kernel_rfl
theorem strings_Builder_Grow_call (b_0 : Option Addr) (n_1 : Int) {R : Unit → Heap → Prop} {h : Heap} (hx : strings_Builder_Grow b_0 n_1 R h) : CallT Tryd.prog 45 [.pointer b_0, .int .i64 n_1] h [] R :=
  call_of_fnX fnsOk mixed Tryd.func45 (by kernel_rfl) (by rw [strings_Builder_Grow_eq]; exact hx)

/-- (*strings.Builder).grow (59) -/
def strings_Builder_grow (b_0 : Option Addr) (n_1 : Int) (R : Unit → Heap → Prop) (h : Heap) : Prop :=
  nn b_0 fun a1 =>
  ldL (a1.add 1) h fun o2 l2 c2 =>
  nn b_0 fun a3 =>
  ldL (a3.add 1) h fun o4 l4 c4 =>
  mkNZ (w64 ((w64 (2 * (c2 : Int))) + n_1)) 5 h fun a5 c6 h7 =>
  (ldL (a3.add 1) h7 fun o8 l8 c8 =>
  (.slice o8 l8 c8 : Value) = .slice o4 l4 c4) ∧
  lsl 1 (some a5) c6 0 (l4 : Int) (c6 : Int) fun o9 l9 c9 =>
  nn b_0 fun a10 =>
  ldL (a10.add 1) h7 fun o11 l11 c11 =>
  rdCells o11 ((Nat.min l11 l9) * 1) h7 fun cs13 =>
  wrRow cs13 o9 h7 fun h12 =>
  nn b_0 fun a14 =>
  stC (a14.add 1) (.slice o9 l9 c9) h12 fun h15 =>
  R () h15
theorem strings_Builder_grow_eq (b_0 : Option Addr) (n_1 : Int) (R : Unit → Heap → Prop) (h : Heap) : fnX Tryd.prog Fns.fns Tryd.f59 (.s .n (.s .n .n)) [] [.pointer b_0, .int .i64 n_1] h R = strings_Builder_grow b_0 n_1 R h := by kernel_rfl
theorem strings_Builder_grow_call (b_0 : Option Addr) (n_1 : Int) {R : Unit → Heap → Prop} {h : Heap} (hx : strings_Builder_grow b_0 n_1 R h) : CallT Tryd.prog 59 [.pointer b_0, .int .i64 n_1] h [] R :=
  call_of_fnX fnsOk mixed Tryd.func59 (by kernel_rfl) (by rw [strings_Builder_grow_eq]; exact hx)

/-- (*strings.Builder).copyCheck (55) -/
def strings_Builder_copyCheck (b_0 : Option Addr) (R : Unit → Heap → Prop) (h : Heap) : Prop :=
  nn b_0 fun a1 =>
  ldP a1 h fun p2 =>
  cnd p2.isNone (
  nn b_0 fun a3 =>
  seenB a3 h (
  liesB Tryd.prog 65 1 a3 h (
  nn b_0 fun a4 =>
  stC a4 (.pointer (some a3)) h fun h5 =>
  R () h5))) (
  nn b_0 fun a6 =>
  ldP a6 h fun p7 =>
  ((p7 : Option Addr) = b_0) ∧
  R () h)
theorem strings_Builder_copyCheck_eq (b_0 : Option Addr) (R : Unit → Heap → Prop) (h : Heap) : fnX Tryd.prog Fns.fns Tryd.f55 (.s .n (.s .n (.s .n (.s .n .n)))) [] [.pointer b_0] h R = strings_Builder_copyCheck b_0 R h := by kernel_rfl
theorem strings_Builder_copyCheck_call (b_0 : Option Addr) {R : Unit → Heap → Prop} {h : Heap} (hx : strings_Builder_copyCheck b_0 R h) : CallT Tryd.prog 55 [.pointer b_0] h [] R :=
  call_of_fnX fnsOk mixed Tryd.func55 (by kernel_rfl) (by rw [strings_Builder_copyCheck_eq]; exact hx)

/-- strings.IndexByte (41) -/
def strings_IndexByte (s_0 : ByteArray) (c_1 : Int) (R : Int → Heap → Prop) (h : Heap) : Prop :=
  CallT Tryd.prog internal_stringslite_IndexByte_no [.string s_0, .int .u8 c_1] h [.sc (.int .i64)] fun (r1 : Int) h2 =>
  R r1 h2
theorem strings_IndexByte_eq (s_0 : ByteArray) (c_1 : Int) (R : Int → Heap → Prop) (h : Heap) : fnX Tryd.prog Fns.fns Tryd.f41 (.s .n (.s .n .n)) [.sc (.int .i64)] [.string s_0, .int .u8 c_1] h R = strings_IndexByte s_0 c_1 R h := by kernel_rfl
theorem strings_IndexByte_call (s_0 : ByteArray) (c_1 : Int) {R : Int → Heap → Prop} {h : Heap} (hx : strings_IndexByte s_0 c_1 R h) : CallT Tryd.prog 41 [.string s_0, .int .u8 c_1] h [.sc (.int .i64)] R :=
  call_of_fnX fnsOk mixed Tryd.func41 (by kernel_rfl) (by rw [strings_IndexByte_eq]; exact hx)

/-- internal/stringslite.IndexByte (56) -/
def internal_stringslite_IndexByte (s_0 : ByteArray) (c_1 : Int) (R : Int → Heap → Prop) (h : Heap) : Prop :=
  R (ixB s_0 c_1) h
theorem internal_stringslite_IndexByte_eq (s_0 : ByteArray) (c_1 : Int) (R : Int → Heap → Prop) (h : Heap) : fnX Tryd.prog Fns.fns Tryd.f56 (.s .n (.s .n .n)) [.sc (.int .i64)] [.string s_0, .int .u8 c_1] h R = internal_stringslite_IndexByte s_0 c_1 R h := by kernel_rfl
theorem internal_stringslite_IndexByte_call (s_0 : ByteArray) (c_1 : Int) {R : Int → Heap → Prop} {h : Heap} (hx : internal_stringslite_IndexByte s_0 c_1 R h) : CallT Tryd.prog 56 [.string s_0, .int .u8 c_1] h [.sc (.int .i64)] R :=
  call_of_fnX fnsOk mixed Tryd.func56 (by kernel_rfl) (by rw [internal_stringslite_IndexByte_eq]; exact hx)

/-- strings.CutPrefix (57) -/
def strings_CutPrefix (s_0 : ByteArray) (prefix_1 : ByteArray) (R : ByteArray × Bool → Heap → Prop) (h : Heap) : Prop :=
  CallT Tryd.prog internal_stringslite_CutPrefix_no [.string s_0, .string prefix_1] h [.sc (.str), .sc (.bool)] fun (r1 : ByteArray × Bool) h2 =>
  R (r1.1, r1.2) h2
theorem strings_CutPrefix_eq (s_0 : ByteArray) (prefix_1 : ByteArray) (R : ByteArray × Bool → Heap → Prop) (h : Heap) : fnX Tryd.prog Fns.fns Tryd.f57 (.s .n (.s .n .n)) [.sc (.str), .sc (.bool)] [.string s_0, .string prefix_1] h R = strings_CutPrefix s_0 prefix_1 R h := by kernel_rfl
theorem strings_CutPrefix_call (s_0 : ByteArray) (prefix_1 : ByteArray) {R : ByteArray × Bool → Heap → Prop} {h : Heap} (hx : strings_CutPrefix s_0 prefix_1 R h) : CallT Tryd.prog 57 [.string s_0, .string prefix_1] h [.sc (.str), .sc (.bool)] R :=
  call_of_fnX fnsOk mixed Tryd.func57 (by kernel_rfl) (by rw [strings_CutPrefix_eq]; exact hx)

/-- strings.HasPrefix (58) -/
def strings_HasPrefix (s_0 : ByteArray) (prefix_1 : ByteArray) (R : Bool → Heap → Prop) (h : Heap) : Prop :=
  CallT Tryd.prog internal_stringslite_HasPrefix_no [.string s_0, .string prefix_1] h [.sc (.bool)] fun (r1 : Bool) h2 =>
  R r1 h2
theorem strings_HasPrefix_eq (s_0 : ByteArray) (prefix_1 : ByteArray) (R : Bool → Heap → Prop) (h : Heap) : fnX Tryd.prog Fns.fns Tryd.f58 (.s .n (.s .n .n)) [.sc (.bool)] [.string s_0, .string prefix_1] h R = strings_HasPrefix s_0 prefix_1 R h := by kernel_rfl
theorem strings_HasPrefix_call (s_0 : ByteArray) (prefix_1 : ByteArray) {R : Bool → Heap → Prop} {h : Heap} (hx : strings_HasPrefix s_0 prefix_1 R h) : CallT Tryd.prog 58 [.string s_0, .string prefix_1] h [.sc (.bool)] R :=
  call_of_fnX fnsOk mixed Tryd.func58 (by kernel_rfl) (by rw [strings_HasPrefix_eq]; exact hx)

/-- internal/stringslite.CutPrefix (71) -/
def internal_stringslite_CutPrefix (s_0 : ByteArray) (prefix_1 : ByteArray) (R : ByteArray × Bool → Heap → Prop) (h : Heap) : Prop :=
  CallT Tryd.prog internal_stringslite_HasPrefix_no [.string s_0, .string prefix_1] h [.sc (.bool)] fun (r1 : Bool) h2 =>
  cnd (!r1) (
  R (s_0, false) h2) (
  ssl s_0 (prefix_1.size : Int) (s_0.size : Int) fun s3 =>
  R (s3, true) h2)
theorem internal_stringslite_CutPrefix_eq (s_0 : ByteArray) (prefix_1 : ByteArray) (R : ByteArray × Bool → Heap → Prop) (h : Heap) : fnX Tryd.prog Fns.fns Tryd.f71 (.s .n (.s (.s .n (.s (.s .n .n) .n)) (.s .n .n))) [.sc (.str), .sc (.bool)] [.string s_0, .string prefix_1] h R = internal_stringslite_CutPrefix s_0 prefix_1 R h := by kernel_rfl
theorem internal_stringslite_CutPrefix_call (s_0 : ByteArray) (prefix_1 : ByteArray) {R : ByteArray × Bool → Heap → Prop} {h : Heap} (hx : internal_stringslite_CutPrefix s_0 prefix_1 R h) : CallT Tryd.prog 71 [.string s_0, .string prefix_1] h [.sc (.str), .sc (.bool)] R :=
  call_of_fnX fnsOk mixed Tryd.func71 (by kernel_rfl) (by rw [internal_stringslite_CutPrefix_eq]; exact hx)

/-- internal/stringslite.HasPrefix (72) -/
def internal_stringslite_HasPrefix (s_0 : ByteArray) (prefix_1 : ByteArray) (R : Bool → Heap → Prop) (h : Heap) : Prop :=
  withJ (σ := Bool) (fun s1 h3 => -- s1: t4
  R s1 h3) (fun J2 =>
  cnd (decide ((s_0.size : Int) ≥ (prefix_1.size : Int))) (
  ssl s_0 0 (prefix_1.size : Int) fun s4 =>
  J2 (seq s4 prefix_1) h) (
  J2 false h))
theorem internal_stringslite_HasPrefix_eq (s_0 : ByteArray) (prefix_1 : ByteArray) (R : Bool → Heap → Prop) (h : Heap) : fnX Tryd.prog Fns.fns Tryd.f72 (.s .n (.j [(4, .bool)] .n .n)) [.sc (.bool)] [.string s_0, .string prefix_1] h R = internal_stringslite_HasPrefix s_0 prefix_1 R h := by kernel_rfl
theorem internal_stringslite_HasPrefix_call (s_0 : ByteArray) (prefix_1 : ByteArray) {R : Bool → Heap → Prop} {h : Heap} (hx : internal_stringslite_HasPrefix s_0 prefix_1 R h) : CallT Tryd.prog 72 [.string s_0, .string prefix_1] h [.sc (.bool)] R :=
  call_of_fnX fnsOk mixed Tryd.func72 (by kernel_rfl) (by rw [internal_stringslite_HasPrefix_eq]; exact hx)

/-- strings.TrimLeft (31) -/
def strings_TrimLeft (s_0 : ByteArray) (cutset_1 : ByteArray) (R : ByteArray → Heap → Prop) (h : Heap) : Prop :=
  withJ (σ := Unit) (fun s1 h3 => -- s1: 
  withJ (σ := Unit) (fun s4 h6 => -- s4: 
  CallT Tryd.prog strings_makeASCIISet_no [.string cutset_1] h6 [.sc (.raw), .sc (.bool)] fun (r7 : Value × Bool) h8 =>
  newB (List.replicate 256 (.bool false : Value)) 94 h8 fun a9 h10 =>
  agD r7.1 fun cs12 =>
  cs12.length = 256 ∧ stRow cs12 a9 h10 fun h11 =>
  cnd r7.2 (
  CallT Tryd.prog strings_trimLeftASCII_no [.string s_0, .pointer (some a9)] h11 [.sc (.str)] fun (r13 : ByteArray) h14 =>
  R r13 h14) (
  CallT Tryd.prog strings_trimLeftUnicode_no [.string s_0, .string cutset_1] h11 [.sc (.str)] fun (r15 : ByteArray) h16 =>
  R r15 h16)) (fun J5 =>
  withJ (σ := Bool) (fun s17 h19 => -- s17: t21
  cnd s17 (
  sidx cutset_1 0 fun u20 =>
  CallT Tryd.prog strings_trimLeftByte_no [.string s_0, .int .u8 (u20.toNat : Int)] h19 [.sc (.str)] fun (r21 : ByteArray) h22 =>
  R r21 h22) (
  J5 () h19)) (fun J18 =>
  cnd ((cutset_1.size : Int) == 1) (
  sidx cutset_1 0 fun u23 =>
  J18 (decide ((u23.toNat : Int) < 128)) h3) (
  J18 false h3)))) (fun J2 =>
  withJ (σ := Bool) (fun s24 h26 => -- s24: t12
  cnd s24 (
  R s_0 h26) (
  J2 () h26)) (fun J25 =>
  cnd (seq s_0 (⟨#[]⟩ : ByteArray)) (
  J25 true h) (
  J25 (seq cutset_1 (⟨#[]⟩ : ByteArray)) h)))
theorem strings_TrimLeft_eq (s_0 : ByteArray) (cutset_1 : ByteArray) (R : ByteArray → Heap → Prop) (h : Heap) : fnX Tryd.prog Fns.fns Tryd.f31 (.s .n (.j [] (.j [(12, .bool)] .n (.s (.s .n .n) .n)) (.j [] (.j [(21, .bool)] .n (.s (.s .n .n) .n)) (.s (.s .n (.s .n (.s (.s .n .n) .n))) (.s .n .n))))) [.sc (.str)] [.string s_0, .string cutset_1] h R = strings_TrimLeft s_0 cutset_1 R h := by kernel_rfl
theorem strings_TrimLeft_call (s_0 : ByteArray) (cutset_1 : ByteArray) {R : ByteArray → Heap → Prop} {h : Heap} (hx : strings_TrimLeft s_0 cutset_1 R h) : CallT Tryd.prog 31 [.string s_0, .string cutset_1] h [.sc (.str)] R :=
  call_of_fnX fnsOk mixed Tryd.func31 (by kernel_rfl) (by rw [strings_TrimLeft_eq]; exact hx)

/-- strings.trimLeftByte (51) -/
def strings_trimLeftByte (s_0 : ByteArray) (c_1 : Int) (R : ByteArray → Heap → Prop) (h : Heap) : Prop :=
  LoopT (σ := ByteArray) (fun X2 s1 h3 => -- s1: s
  withJ (σ := ByteArray × Int × Int × Bool) (fun s4 h6 => -- s4: t9, t10, t11, t12
  ssl s1 1 (s1.size : Int) fun s7 =>
  X2 s7 h6) (fun J5 =>
  cnd (decide ((s1.size : Int) > 0)) (
  sidx s1 0 fun u8 =>
  cnd ((u8.toNat : Int) == c_1) (
  J5 (s1, (u8.toNat : Int), c_1, ((u8.toNat : Int) == c_1)) h3) (
  R s1 h3)) (
  R s1 h3))) s_0 h
theorem strings_trimLeftByte_eq (s_0 : ByteArray) (c_1 : Int) (R : ByteArray → Heap → Prop) (h : Heap) : fnX Tryd.prog Fns.fns Tryd.f51 (.s .n (.s (.b (.l [(0, .str)] (.j [(9, .str), (10, .int .u8), (11, .int .u8), (12, .bool)] (.s .n (.s .n .n)) (.b .n)))) (.s .n .n))) [.sc (.str)] [.string s_0, .int .u8 c_1] h R = strings_trimLeftByte s_0 c_1 R h := by kernel_rfl
theorem strings_trimLeftByte_call (s_0 : ByteArray) (c_1 : Int) {R : ByteArray → Heap → Prop} {h : Heap} (hx : strings_trimLeftByte s_0 c_1 R h) : CallT Tryd.prog 51 [.string s_0, .int .u8 c_1] h [.sc (.str)] R :=
  call_of_fnX fnsOk mixed Tryd.func51 (by kernel_rfl) (by rw [strings_trimLeftByte_eq]; exact hx)

end Go.Proofs.YtncffbocmpmejaaDoor
