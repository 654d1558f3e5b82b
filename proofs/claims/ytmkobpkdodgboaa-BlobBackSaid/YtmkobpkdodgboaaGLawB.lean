/- Go functions as short texts over the heap, and that each is what the loaded function comes to (the kernel compares them); written by a program. -/
import Derived.Test.YtmkobpkdodgboaaGBase
set_option linter.unusedVariables false
set_option maxRecDepth 100000
namespace Go.Proofs.Ytmkobpkdodgboaa
open Go D
/-- stowage/stowagelaw11.awake (45) -/
def law11_awake (R : Bool → Heap → Prop) (h : Heap) : Prop :=
  CallT Try.prog disk_New_no [.int .i64 16] h [.sc (.ptr), .sc (.int .i64)] fun (r1 : (Option Addr) × Int) h2 =>
  CallT Try.prog blob_Open_no [.pointer r1.1, .int .i64 4, .int .i64 8, .slice none 0 0] h2 [.sc (.ptr), .sc (.int .i64)] fun (r3 : (Option Addr) × Int) h4 =>
  withJ (σ := Unit) (fun s5 h7 => -- s5: 
  mkSl [.int .u8 0] 5 1 300 300 h7 fun a8 h9 =>
  CallT Try.prog blob_Blobs_Write_no [.pointer r3.1, .slice (some a8) ((300 : Int).toNat) ((300 : Int).toNat)] h9 [.agg [.int .i64, .int .i64], .sc (.int .i64)] fun (r10 : (Int × Int) × Int) h11 =>
  newB [.int .i64 0, .int .i64 0] 87 h11 fun a12 h13 =>
  stC a12 (.int .i64 r10.1.1) h13 fun h14 =>
  stC (a12.add 1) (.int .i64 r10.1.2) h14 fun h15 =>
  ldI .i64 a12 h15 fun n16 =>
  ldI .i64 (a12.add 1) h15 fun n17 =>
  CallT Try.prog blob_Blobs_Read_no [.pointer r3.1, .agg #[.int .i64 n16, .int .i64 n17], .int .i64 250, .int .i64 10] h15 [.sc (.sl), .sc (.int .i64)] fun (r18 : Sl × Int) h19 =>
  withJ (σ := Bool) (fun s20 h22 => -- s20: t0
  R s20 h22) (fun J21 =>
  cnd (r10.2 == 0) (
  cnd (r18.2 == 0) (
  ldI .i64 a12 h19 fun n23 =>
  ldI .i64 (a12.add 1) h19 fun n24 =>
  cnd ((n23 == 0) && ((n24 == 300) && true)) (
  cnd ((r18.1.len : Int) == 10) (
  CallT Try.prog blob_Blobs_Free_no [.pointer r3.1] h19 [.sc (.int .i64)] fun (r25 : Int) h26 =>
  cnd (r25 == 6) (
  CallT Try.prog blob_Sectors_no [.int .i64 252] h26 [.sc (.int .i64)] fun (r27 : Int) h28 =>
  J21 (r27 == 1) h28) (
  J21 false h26)) (
  J21 false h19)) (
  J21 false h19)) (
  J21 false h19)) (
  J21 false h19))) (fun J6 =>
  withJ (σ := Bool) (fun s29 h31 => -- s29: t23
  cnd s29 (
  R false h31) (
  J6 () h31)) (fun J30 =>
  cnd r3.1.isNone (
  J30 true h4) (
  J30 (r3.2 != 0) h4)))
theorem law11_awake_eq (R : Bool → Heap → Prop) (h : Heap) : fnX Try.prog Fns.fns Try.f45 (.s .n (.s .n (.s .n (.j [] (.j [(23, .bool)] .n (.s (.s .n .n) .n)) (.s .n (.s .n (.j [(0, .bool)] .n .n))))))) [.sc (.bool)] [] h R = law11_awake R h := by kernel_rfl
theorem law11_awake_call {R : Bool → Heap → Prop} {h : Heap} (hx : law11_awake R h) : CallT Try.prog 45 [] h [.sc (.bool)] R :=
  call_of_fnX fnsOk mixed Try.func45 (by kernel_rfl) (by rw [law11_awake_eq]; exact hx)

/-- stowage/stowagelaw11.BlobSectors (11) -/
def law11_BlobSectors (n_0 : Int) (R : Bool → Heap → Prop) (h : Heap) : Prop :=
  withJ (σ := Bool) (fun s1 h3 => -- s1: t2
  R s1 h3) (fun J2 =>
  CallT Try.prog blob_Sectors_no [.int .i64 n_0] h [.sc (.int .i64)] fun (r4 : Int) h5 =>
  CallT Try.prog ref11_Sectors_no [.int .i64 n_0] h5 [.sc (.int .i64)] fun (r6 : Int) h7 =>
  cnd (r4 == r6) (
  CallT Try.prog law11_awake_no [] h7 [.sc (.bool)] fun (r8 : Bool) h9 =>
  J2 r8 h9) (
  J2 false h7))
theorem law11_BlobSectors_eq (n_0 : Int) (R : Bool → Heap → Prop) (h : Heap) : fnX Try.prog Fns.fns Try.f11 (.s .n (.j [(2, .bool)] .n .n)) [.sc (.bool)] [.int .i64 n_0] h R = law11_BlobSectors n_0 R h := by kernel_rfl
theorem law11_BlobSectors_call (n_0 : Int) {R : Bool → Heap → Prop} {h : Heap} (hx : law11_BlobSectors n_0 R h) : CallT Try.prog 11 [.int .i64 n_0] h [.sc (.bool)] R :=
  call_of_fnX fnsOk mixed Try.func11 (by kernel_rfl) (by rw [law11_BlobSectors_eq]; exact hx)

/-- stowage/stowagelaw11.BlobTells (12) -/
def law11_BlobTells (x_0 : Sl) (x_1 : Int) (x_2 : Int) (R : Bool → Heap → Prop) (h : Heap) : Prop :=
  withJ (σ := Unit) (fun s1 h3 => -- s1: 
  CallT Try.prog disk_New_no [.int .i64 20] h3 [.sc (.ptr), .sc (.int .i64)] fun (r4 : (Option Addr) × Int) h5 =>
  CallT Try.prog blob_Open_no [.pointer r4.1, .int .i64 2, .int .i64 16, .slice none 0 0] h5 [.sc (.ptr), .sc (.int .i64)] fun (r6 : (Option Addr) × Int) h7 =>
  withJ (σ := Unit) (fun s8 h10 => -- s8: 
  CallT Try.prog blob_Blobs_Write_no [.pointer r6.1, .slice x_0.a x_0.len x_0.cap] h10 [.agg [.int .i64, .int .i64], .sc (.int .i64)] fun (r11 : (Int × Int) × Int) h12 =>
  newB [.int .i64 0, .int .i64 0] 87 h12 fun a13 h14 =>
  stC a13 (.int .i64 r11.1.1) h14 fun h15 =>
  stC (a13.add 1) (.int .i64 r11.1.2) h15 fun h16 =>
  CallT Try.prog blob_Sectors_no [.int .i64 (x_0.len : Int)] h16 [.sc (.int .i64)] fun (r17 : Int) h18 =>
  withJ (σ := Unit) (fun s19 h21 => -- s19: 
  neZ (w64 (256 * r17)) (
  neZ (w64 (256 * r17)) (
  ldI .i64 a13 h21 fun n22 =>
  CallT Try.prog disk_Dev_Read_no [.pointer r4.1, .int .i64 (w64 ((w64 (2 + n22)) + (w64 (((w64 ((x_1.tmod (w64 (256 * r17))) + (w64 (256 * r17)))).tmod (w64 (256 * r17))).tdiv 256))))] h21 [.sc (.sl), .sc (.int .i64)] fun (r23 : Sl × Int) h24 =>
  withJ (σ := Unit) (fun s25 h27 => -- s25: 
  idx r23.1.a r23.1.len (((w64 ((x_1.tmod (w64 (256 * r17))) + (w64 (256 * r17)))).tmod (w64 (256 * r17))).tmod 256) fun a28 =>
  ldI .u8 (a28.add ((((w64 ((x_1.tmod (w64 (256 * r17))) + (w64 (256 * r17)))).tmod (w64 (256 * r17))).tmod 256).toNat * 1)) h27 fun n29 =>
  idx r23.1.a r23.1.len (((w64 ((x_1.tmod (w64 (256 * r17))) + (w64 (256 * r17)))).tmod (w64 (256 * r17))).tmod 256) fun a30 =>
  stC (a30.add ((((w64 ((x_1.tmod (w64 (256 * r17))) + (w64 (256 * r17)))).tmod (w64 (256 * r17))).tmod 256).toNat * 1)) (.int .u8 (xorI .u8 n29 x_2)) h27 fun h31 =>
  ldI .i64 a13 h31 fun n32 =>
  CallT Try.prog disk_Dev_Write_no [.pointer r4.1, .int .i64 (w64 ((w64 (2 + n32)) + (w64 (((w64 ((x_1.tmod (w64 (256 * r17))) + (w64 (256 * r17)))).tmod (w64 (256 * r17))).tdiv 256)))), .slice r23.1.a r23.1.len r23.1.cap] h31 [.sc (.int .i64)] fun (r33 : Int) h34 =>
  cnd (r33 != 0) (
  R false h34) (
  ldI .i64 a13 h34 fun n35 =>
  ldI .i64 (a13.add 1) h34 fun n36 =>
  ldI .i64 (a13.add 1) h34 fun n37 =>
  CallT Try.prog blob_Blobs_Read_no [.pointer r6.1, .agg #[.int .i64 n35, .int .i64 n36], .int .i64 0, .int .i64 n37] h34 [.sc (.sl), .sc (.int .i64)] fun (r38 : Sl × Int) h39 =>
  withJ (σ := Bool) (fun s40 h42 => -- s40: t6
  R s40 h42) (fun J41 =>
  cnd (r38.2 == 62) (
  CallT Try.prog law11_awake_no [] h39 [.sc (.bool)] fun (r43 : Bool) h44 =>
  J41 r43 h44) (
  J41 false h39)))) (fun J26 =>
  withJ (σ := Bool) (fun s45 h47 => -- s45: t87
  cnd s45 (
  R false h47) (
  J26 () h47)) (fun J46 =>
  cnd (r23.2 != 0) (
  J46 true h24) (
  J46 ((r23.1.len : Int) != 256) h24)))))) (fun J20 =>
  withJ (σ := Bool) (fun s48 h50 => -- s48: t62
  cnd s48 (
  R false h50) (
  J20 () h50)) (fun J49 =>
  cnd (r11.2 != 0) (
  J49 true h18) (
  J49 (decide ((w64 (256 * r17)) < 256)) h18)))) (fun J9 =>
  withJ (σ := Bool) (fun s51 h53 => -- s51: t46
  cnd s51 (
  R false h53) (
  J9 () h53)) (fun J52 =>
  cnd r6.1.isNone (
  J52 true h7) (
  J52 (r6.2 != 0) h7)))) (fun J2 =>
  withJ (σ := Bool) (fun s54 h56 => -- s54: t30
  cnd s54 (
  CallT Try.prog law11_awake_no [] h56 [.sc (.bool)] fun (r57 : Bool) h58 =>
  R r57 h58) (
  J2 () h56)) (fun J55 =>
  cnd ((x_0.len : Int) == 0) (
  J55 true h) (
  cnd (decide ((x_0.len : Int) > 3000)) (
  J55 true h) (
  J55 (x_2 == 0) h))))
theorem law11_BlobTells_eq (x_0 : Sl) (x_1 : Int) (x_2 : Int) (R : Bool → Heap → Prop) (h : Heap) : fnX Try.prog Fns.fns Try.f12 (.s .n (.j [] (.j [(30, .bool)] .n (.s (.s .n .n) .n)) (.s .n (.s .n (.j [] (.j [(46, .bool)] .n (.s (.s .n .n) .n)) (.s .n (.s .n (.j [] (.j [(62, .bool)] .n (.s (.s .n .n) .n)) (.s .n (.s .n (.j [] (.j [(87, .bool)] .n (.s (.s .n .n) .n)) (.s .n (.s (.s .n (.s (.s .n .n) .n)) (.s .n (.j [(6, .bool)] .n .n))))))))))))))) [.sc (.bool)] [.slice x_0.a x_0.len x_0.cap, .int .i64 x_1, .int .u8 x_2] h R = law11_BlobTells x_0 x_1 x_2 R h := by kernel_rfl
theorem law11_BlobTells_call (x_0 : Sl) (x_1 : Int) (x_2 : Int) {R : Bool → Heap → Prop} {h : Heap} (hx : law11_BlobTells x_0 x_1 x_2 R h) : CallT Try.prog 12 [.slice x_0.a x_0.len x_0.cap, .int .i64 x_1, .int .u8 x_2] h [.sc (.bool)] R :=
  call_of_fnX fnsOk mixed Try.func12 (by kernel_rfl) (by rw [law11_BlobTells_eq]; exact hx)

/-- stowage/stowagelaw11.BlobRoom (13) -/
def law11_BlobRoom (x_0 : Sl) (R : Bool → Heap → Prop) (h : Heap) : Prop :=
  CallT Try.prog disk_New_no [.int .i64 40] h [.sc (.ptr), .sc (.int .i64)] fun (r1 : (Option Addr) × Int) h2 =>
  CallT Try.prog blob_Open_no [.pointer r1.1, .int .i64 4, .int .i64 30, .slice none 0 0] h2 [.sc (.ptr), .sc (.int .i64)] fun (r3 : (Option Addr) × Int) h4 =>
  withJ (σ := Unit) (fun s5 h7 => -- s5: 
  LoopT (σ := Sl × Int × Int) (fun X9 s8 h10 => -- s8: t7, t8, t9
  cnd (decide (s8.2.2 < (x_0.len : Int))) (
  withJ (σ := Sl × Int) (fun s11 h13 => -- s11: t7, t8
  X9 (s11.1, s11.2, (w64 (s8.2.2 + 1))) h13) (fun J12 =>
  idx x_0.a x_0.len s8.2.2 fun a14 =>
  ldL (a14.add (s8.2.2.toNat * 1)) h10 fun o15 l15 c15 =>
  CallT Try.prog blob_Sectors_no [.int .i64 (l15 : Int)] h10 [.sc (.int .i64)] fun (r16 : Int) h17 =>
  idx x_0.a x_0.len s8.2.2 fun a18 =>
  ldL (a18.add (s8.2.2.toNat * 1)) h17 fun o19 l19 c19 =>
  CallT Try.prog blob_Blobs_Write_no [.pointer r3.1, .slice o19 l19 c19] h17 [.agg [.int .i64, .int .i64], .sc (.int .i64)] fun (r20 : (Int × Int) × Int) h21 =>
  newB [.int .i64 0, .int .i64 0] 87 h21 fun a22 h23 =>
  stC a22 (.int .i64 r20.1.1) h23 fun h24 =>
  stC (a22.add 1) (.int .i64 r20.1.2) h24 fun h25 =>
  withJ (σ := Unit) (fun s26 h28 => -- s26: 
  cnd (r20.2 == 0) (
  ldI .i64 a22 h28 fun n29 =>
  ldI .i64 (a22.add 1) h28 fun n30 =>
  newB [.int .i64 n29, .int .i64 n30] 87 h28 fun a31 h32 =>
  ldRow (1 * 2) a31 h32 fun cs36 =>
  app [.int .i64 0, .int .i64 0] 87 2 16 s8.1.a s8.1.len s8.1.cap cs36 1 h32 fun o33 c34 h35 =>
  J12 ((⟨o33, (s8.1.len + 1), c34⟩ : Sl), (w64 (s8.2.1 + r16))) h35) (
  J12 (s8.1, s8.2.1) h28)) (fun J27 =>
  withJ (σ := Bool) (fun s37 h39 => -- s37: t82
  cnd s37 (
  R false h39) (
  J27 () h39)) (fun J38 =>
  cnd (!((r20.2 == 0) == (decide ((w64 (s8.2.1 + r16)) ≤ 30)))) (
  J38 true h25) (
  cnd (r20.2 != 0) (
  J38 (r20.2 != 60) h25) (
  J38 false h25)))))) (
  CallT Try.prog blob_Blobs_Free_no [.pointer r3.1] h10 [.sc (.int .i64)] fun (r40 : Int) h41 =>
  cnd (r40 != (w64 (30 - s8.2.1))) (
  R false h41) (
  LoopT (σ := Int) (fun X43 s42 h44 => -- s42: t13
  cnd (decide (s42 < (s8.1.len : Int))) (
  withJ (σ := Unit) (fun s45 h47 => -- s45: 
  X43 (w64 (s42 + 1)) h47) (fun J46 =>
  withJ (σ := Bool) (fun s48 h50 => -- s48: t126
  cnd s48 (
  R false h50) (
  J46 () h50)) (fun J49 =>
  idx s8.1.a s8.1.len s42 fun a51 =>
  ldI .i64 (a51.add (s42.toNat * 2)) h44 fun n52 =>
  ldI .i64 ((a51.add (s42.toNat * 2)).add 1) h44 fun n53 =>
  CallT Try.prog blob_Blobs_Drop_no [.pointer r3.1, .agg #[.int .i64 n52, .int .i64 n53]] h44 [.sc (.int .i64)] fun (r54 : Int) h55 =>
  cnd (r54 != 0) (
  J49 true h55) (
  idx s8.1.a s8.1.len s42 fun a56 =>
  ldI .i64 ((a56.add (s42.toNat * 2)).add 1) h55 fun n57 =>
  cnd (decide (n57 > 0)) (
  idx s8.1.a s8.1.len s42 fun a58 =>
  ldI .i64 (a58.add (s42.toNat * 2)) h55 fun n59 =>
  ldI .i64 ((a58.add (s42.toNat * 2)).add 1) h55 fun n60 =>
  CallT Try.prog blob_Blobs_Drop_no [.pointer r3.1, .agg #[.int .i64 n59, .int .i64 n60]] h55 [.sc (.int .i64)] fun (r61 : Int) h62 =>
  J49 (r61 != 1) h62) (
  J49 false h55))))) (
  mkSl [.int .u8 0] 5 1 7560 7560 h44 fun a63 h64 =>
  CallT Try.prog blob_Blobs_Write_no [.pointer r3.1, .slice (some a63) ((7560 : Int).toNat) ((7560 : Int).toNat)] h64 [.agg [.int .i64, .int .i64], .sc (.int .i64)] fun (r65 : (Int × Int) × Int) h66 =>
  newB [.int .i64 0, .int .i64 0] 87 h66 fun a67 h68 =>
  stC a67 (.int .i64 r65.1.1) h68 fun h69 =>
  stC (a67.add 1) (.int .i64 r65.1.2) h69 fun h70 =>
  newB [.int .u8 120] 5 h70 fun a71 h72 =>
  markS a71 h72 fun h73 =>
  CallT Try.prog blob_Blobs_Write_no [.pointer r3.1, .slice (some a71) 1 1] h73 [.agg [.int .i64, .int .i64], .sc (.int .i64)] fun (r74 : (Int × Int) × Int) h75 =>
  newB [.int .i64 0, .int .i64 0] 87 h75 fun a76 h77 =>
  stC a76 (.int .i64 r74.1.1) h77 fun h78 =>
  stC (a76.add 1) (.int .i64 r74.1.2) h78 fun h79 =>
  withJ (σ := Bool) (fun s80 h82 => -- s80: t2
  R s80 h82) (fun J81 =>
  CallT Try.prog blob_Blobs_Free_no [.pointer r3.1] h79 [.sc (.int .i64)] fun (r83 : Int) h84 =>
  cnd (r83 == 0) (
  cnd (r65.2 == 0) (
  cnd (r74.2 == 60) (
  ldI .i64 a67 h84 fun n85 =>
  cnd (n85 == 0) (
  CallT Try.prog law11_awake_no [] h84 [.sc (.bool)] fun (r86 : Bool) h87 =>
  J81 r86 h87) (
  J81 false h84)) (
  J81 false h84)) (
  J81 false h84)) (
  J81 false h84)))) 0 h41))) ((⟨none, 0, 0⟩ : Sl), 0, 0) h7) (fun J6 =>
  withJ (σ := Bool) (fun s88 h90 => -- s88: t37
  cnd s88 (
  withJ (σ := Bool) (fun s91 h93 => -- s91: t2
  R s91 h93) (fun J92 =>
  cnd (!r3.1.isNone) (
  cnd (r3.2 == 0) (
  CallT Try.prog law11_awake_no [] h90 [.sc (.bool)] fun (r94 : Bool) h95 =>
  J92 r94 h95) (
  J92 false h90)) (
  J92 false h90))) (
  J6 () h90)) (fun J89 =>
  cnd r3.1.isNone (
  J89 true h4) (
  cnd (r3.2 != 0) (
  J89 true h4) (
  J89 (decide ((x_0.len : Int) > 20)) h4))))
theorem law11_BlobRoom_eq (x_0 : Sl) (R : Bool → Heap → Prop) (h : Heap) : fnX Try.prog Fns.fns Try.f13 (.s .n (.s .n (.s .n (.j [] (.j [(37, .bool)] .n (.s (.j [(2, .bool)] .n .n) .n)) (.s .n (.s .n (.s (.s .n (.b (.l [(7, .sl), (8, .int .i64), (9, .int .i64)] (.s (.s .n (.s .n .n)) (.j [(7, .sl), (8, .int .i64)] (.b (.s .n (.s .n (.j [] (.j [(82, .bool)] .n (.s (.s .n .n) .n)) (.s .n (.s (.s .n .n) .n)))))) .n))))) (.s (.s .n (.s (.s .n .n) .n)) (.s (.s .n (.b (.l [(13, .int .i64)] (.s (.s .n (.s .n .n)) (.j [] (.b (.j [(126, .bool)] .n (.s (.s .n .n) .n))) .n))))) (.s .n (.s .n (.j [(2, .bool)] .n .n)))))))))))) [.sc (.bool)] [.slice x_0.a x_0.len x_0.cap] h R = law11_BlobRoom x_0 R h := by kernel_rfl
theorem law11_BlobRoom_call (x_0 : Sl) {R : Bool → Heap → Prop} {h : Heap} (hx : law11_BlobRoom x_0 R h) : CallT Try.prog 13 [.slice x_0.a x_0.len x_0.cap] h [.sc (.bool)] R :=
  call_of_fnX fnsOk mixed Try.func13 (by kernel_rfl) (by rw [law11_BlobRoom_eq]; exact hx)

/-- stowage/stowagelaw11.BlobBack (14) -/
def law11_BlobBack (x_0 : Sl) (x_1 : Sl) (x_2 : Int) (R : Bool → Heap → Prop) (h : Heap) : Prop :=
  CallT Try.prog disk_New_no [.int .i64 80] h [.sc (.ptr), .sc (.int .i64)] fun (r1 : (Option Addr) × Int) h2 =>
  CallT Try.prog blob_Open_no [.pointer r1.1, .int .i64 10, .int .i64 60, .slice none 0 0] h2 [.sc (.ptr), .sc (.int .i64)] fun (r3 : (Option Addr) × Int) h4 =>
  withJ (σ := Unit) (fun s5 h7 => -- s5: 
  LoopT (σ := Sl × Sl × Int × Int) (fun X9 s8 h10 => -- s8: t11, t12, t13, t14
  cnd (decide (s8.2.2.2 < (x_0.len : Int))) (
  withJ (σ := Sl × Sl × Int) (fun s11 h13 => -- s11: t11, t12, t13
  X9 (s11.1, s11.2.1, s11.2.2, (w64 (s8.2.2.2 + 1))) h13) (fun J12 =>
  idx x_0.a x_0.len s8.2.2.2 fun a14 =>
  ldL (a14.add (s8.2.2.2.toNat * 1)) h10 fun o15 l15 c15 =>
  CallT Try.prog blob_Blobs_Write_no [.pointer r3.1, .slice o15 l15 c15] h10 [.agg [.int .i64, .int .i64], .sc (.int .i64)] fun (r16 : (Int × Int) × Int) h17 =>
  newB [.int .i64 0, .int .i64 0] 87 h17 fun a18 h19 =>
  stC a18 (.int .i64 r16.1.1) h19 fun h20 =>
  stC (a18.add 1) (.int .i64 r16.1.2) h20 fun h21 =>
  cnd (r16.2 == 60) (
  J12 (s8.1, s8.2.1, s8.2.2.1) h21) (
  cnd (r16.2 != 0) (
  R false h21) (
  withJ (σ := Unit) (fun s22 h24 => -- s22: 
  ldI .i64 a18 h24 fun n25 =>
  ldI .i64 (a18.add 1) h24 fun n26 =>
  newB [.int .i64 n25, .int .i64 n26] 87 h24 fun a27 h28 =>
  ldRow (1 * 2) a27 h28 fun cs32 =>
  app [.int .i64 0, .int .i64 0] 87 2 16 s8.1.a s8.1.len s8.1.cap cs32 1 h28 fun o29 c30 h31 =>
  idx x_0.a x_0.len s8.2.2.2 fun a33 =>
  ldL (a33.add (s8.2.2.2.toNat * 1)) h31 fun o34 l34 c34 =>
  newB [.slice o34 l34 c34] 31 h31 fun a35 h36 =>
  ldRow (1 * 1) a35 h36 fun cs40 =>
  app [.slice none 0 0] 31 1 24 s8.2.1.a s8.2.1.len s8.2.1.cap cs40 1 h36 fun o37 c38 h39 =>
  idx x_0.a x_0.len s8.2.2.2 fun a41 =>
  ldL (a41.add (s8.2.2.2.toNat * 1)) h39 fun o42 l42 c42 =>
  CallT Try.prog blob_Sectors_no [.int .i64 (l42 : Int)] h39 [.sc (.int .i64)] fun (r43 : Int) h44 =>
  J12 ((⟨o29, (s8.1.len + 1), c30⟩ : Sl), (⟨o37, (s8.2.1.len + 1), c38⟩ : Sl), (w64 (s8.2.2.1 + r43))) h44) (fun J23 =>
  withJ (σ := Bool) (fun s45 h47 => -- s45: t87
  cnd s45 (
  ldI .i64 a18 h47 fun n48 =>
  ldI .i64 (a18.add 1) h47 fun n49 =>
  CallT Try.prog blob_Blobs_Drop_no [.pointer r3.1, .agg #[.int .i64 n48, .int .i64 n49]] h47 [.sc (.int .i64)] fun (r50 : Int) h51 =>
  cnd (r50 != 0) (
  R false h51) (
  J12 (s8.1, s8.2.1, s8.2.2.1) h51)) (
  J23 () h47)) (fun J46 =>
  cnd (decide (s8.2.2.2 < (x_1.len : Int))) (
  idx x_1.a x_1.len s8.2.2.2 fun a52 =>
  ldB (a52.add (s8.2.2.2.toNat * 1)) h21 fun b53 =>
  J46 b53 h21) (
  J46 false h21))))))) (
  CallT Try.prog disk_Dev_Crash_no [.pointer r1.1, .slice none 0 0] h10 [] fun (r54 : Unit) h55 =>
  CallT Try.prog blob_Open_no [.pointer r1.1, .int .i64 10, .int .i64 60, .slice s8.1.a s8.1.len s8.1.cap] h55 [.sc (.ptr), .sc (.int .i64)] fun (r56 : (Option Addr) × Int) h57 =>
  withJ (σ := Unit) (fun s58 h60 => -- s58: 
  LoopT (σ := Int) (fun X62 s61 h63 => -- s61: t19
  cnd (decide (s61 < (s8.1.len : Int))) (
  withJ (σ := Unit) (fun s64 h66 => -- s64: 
  X62 (w64 (s61 + 1)) h66) (fun J65 =>
  LoopT (σ := Sl × Int) (fun X68 s67 h69 => -- s67: t20, t21
  idx s8.2.1.a s8.2.1.len s61 fun a70 =>
  ldL (a70.add (s61.toNat * 1)) h69 fun o71 l71 c71 =>
  cnd (decide (s67.2 < (l71 : Int))) (
  idx s8.1.a s8.1.len s61 fun a72 =>
  ldI .i64 (a72.add (s61.toNat * 2)) h69 fun n73 =>
  ldI .i64 ((a72.add (s61.toNat * 2)).add 1) h69 fun n74 =>
  idx s8.2.1.a s8.2.1.len s61 fun a75 =>
  ldL (a75.add (s61.toNat * 1)) h69 fun o76 l76 c76 =>
  CallT Try.prog blob_Blobs_Read_no [.pointer r56.1, .agg #[.int .i64 n73, .int .i64 n74], .int .i64 s67.2, .int .i64 (minI x_2 (w64 ((l76 : Int) - s67.2)))] h69 [.sc (.sl), .sc (.int .i64)] fun (r77 : Sl × Int) h78 =>
  cnd (r77.2 != 0) (
  R false h78) (
  rdCells r77.1.a (r77.1.len * 1) h78 fun cs82 =>
  app [.int .u8 0] 5 1 1 s67.1.a s67.1.len s67.1.cap cs82 r77.1.len h78 fun o79 c80 h81 =>
  X68 ((⟨o79, (s67.1.len + r77.1.len), c80⟩ : Sl), (w64 (s67.2 + x_2))) h81)) (
  idx s8.1.a s8.1.len s61 fun a83 =>
  ldI .i64 (a83.add (s61.toNat * 2)) h69 fun n84 =>
  ldI .i64 ((a83.add (s61.toNat * 2)).add 1) h69 fun n85 =>
  idx s8.1.a s8.1.len s61 fun a86 =>
  ldI .i64 ((a86.add (s61.toNat * 2)).add 1) h69 fun n87 =>
  CallT Try.prog blob_Blobs_Read_no [.pointer r3.1, .agg #[.int .i64 n84, .int .i64 n85], .int .i64 0, .int .i64 n87] h69 [.sc (.sl), .sc (.int .i64)] fun (r88 : Sl × Int) h89 =>
  withJ (σ := Bool) (fun s90 h92 => -- s90: t214
  cnd s90 (
  R false h92) (
  J65 () h92)) (fun J91 =>
  cnd (r88.2 != 0) (
  J91 true h89) (
  b2s s67.1.a s67.1.len h89 fun s93 =>
  idx s8.2.1.a s8.2.1.len s61 fun a94 =>
  ldL (a94.add (s61.toNat * 1)) h89 fun o95 l95 c95 =>
  b2s o95 l95 h89 fun s96 =>
  cnd (!seq s93 s96) (
  J91 true h89) (
  b2s r88.1.a r88.1.len h89 fun s97 =>
  idx s8.2.1.a s8.2.1.len s61 fun a98 =>
  ldL (a98.add (s61.toNat * 1)) h89 fun o99 l99 c99 =>
  b2s o99 l99 h89 fun s100 =>
  J91 (!seq s97 s100) h89))))) ((⟨none, 0, 0⟩ : Sl), 0) h63)) (
  CallT Try.prog law11_awake_no [] h63 [.sc (.bool)] fun (r101 : Bool) h102 =>
  R r101 h102)) 0 h60) (fun J59 =>
  withJ (σ := Bool) (fun s103 h105 => -- s103: t138
  cnd s103 (
  R false h105) (
  J59 () h105)) (fun J104 =>
  cnd r56.1.isNone (
  J104 true h57) (
  cnd (r56.2 != 0) (
  J104 true h57) (
  CallT Try.prog blob_Blobs_Free_no [.pointer r56.1] h57 [.sc (.int .i64)] fun (r106 : Int) h107 =>
  cnd (r106 != (w64 (60 - s8.2.2.1))) (
  J104 true h107) (
  CallT Try.prog blob_Blobs_Free_no [.pointer r3.1] h107 [.sc (.int .i64)] fun (r108 : Int) h109 =>
  J104 (r108 != (w64 (60 - s8.2.2.1))) h109))))))) ((⟨none, 0, 0⟩ : Sl), (⟨none, 0, 0⟩ : Sl), 0, 0) h7) (fun J6 =>
  withJ (σ := Bool) (fun s110 h112 => -- s110: t49
  cnd s110 (
  withJ (σ := Bool) (fun s113 h115 => -- s113: t6
  R s113 h115) (fun J114 =>
  cnd (!r3.1.isNone) (
  cnd (r3.2 == 0) (
  CallT Try.prog law11_awake_no [] h112 [.sc (.bool)] fun (r116 : Bool) h117 =>
  J114 r116 h117) (
  J114 false h112)) (
  J114 false h112))) (
  J6 () h112)) (fun J111 =>
  cnd r3.1.isNone (
  J111 true h4) (
  cnd (r3.2 != 0) (
  J111 true h4) (
  cnd (decide ((x_0.len : Int) > 20)) (
  J111 true h4) (
  J111 (decide (x_2 < 1)) h4)))))
theorem law11_BlobBack_eq (x_0 : Sl) (x_1 : Sl) (x_2 : Int) (R : Bool → Heap → Prop) (h : Heap) : fnX Try.prog Fns.fns Try.f14 (.s .n (.s .n (.s .n (.j [] (.j [(49, .bool)] .n (.s (.j [(6, .bool)] .n .n) .n)) (.s .n (.s .n (.s .n (.s (.s .n (.b (.l [(11, .sl), (12, .sl), (13, .int .i64), (14, .int .i64)] (.s (.s .n (.s .n .n)) (.j [(11, .sl), (12, .sl), (13, .int .i64)] (.b (.s .n (.s (.s .n (.s .n .n)) (.s (.s .n (.s (.s .n .n) .n)) (.j [] (.j [(87, .bool)] .n (.s (.s (.s .n (.s (.s .n .n) .n)) .n) .n)) (.s .n (.s .n .n))))))) .n))))) (.s .n (.s .n (.j [] (.j [(138, .bool)] .n (.s (.s .n .n) .n)) (.s (.s .n (.b (.l [(19, .int .i64)] (.s (.s .n (.s .n .n)) (.j [] (.b (.s .n (.s (.s .n (.b (.l [(20, .sl), (21, .int .i64)] (.s (.s .n (.s .n .n)) (.s (.b (.s .n (.s (.s .n (.s (.s .n .n) .n)) .n))) .n))))) (.s .n (.j [(214, .bool)] .n (.s (.s .n .n) .n)))))) .n))))) (.s .n .n))))))))))))) [.sc (.bool)] [.slice x_0.a x_0.len x_0.cap, .slice x_1.a x_1.len x_1.cap, .int .i64 x_2] h R = law11_BlobBack x_0 x_1 x_2 R h := by kernel_rfl
theorem law11_BlobBack_call (x_0 : Sl) (x_1 : Sl) (x_2 : Int) {R : Bool → Heap → Prop} {h : Heap} (hx : law11_BlobBack x_0 x_1 x_2 R h) : CallT Try.prog 14 [.slice x_0.a x_0.len x_0.cap, .slice x_1.a x_1.len x_1.cap, .int .i64 x_2] h [.sc (.bool)] R :=
  call_of_fnX fnsOk mixed Try.func14 (by kernel_rfl) (by rw [law11_BlobBack_eq]; exact hx)

/-- stowage/stowageref11.Sectors (44) -/
def ref11_Sectors (size_0 : Int) (R : Int → Heap → Prop) (h : Heap) : Prop :=
  cnd (decide (size_0 < 1)) (
  R 0 h) (
  R (w64 ((w64 ((w64 (size_0 - 1)).tdiv 252)) + 1)) h)
theorem ref11_Sectors_eq (size_0 : Int) (R : Int → Heap → Prop) (h : Heap) : fnX Try.prog Fns.fns Try.f44 (.s .n (.s (.s .n (.s (.s .n .n) .n)) (.s .n .n))) [.sc (.int .i64)] [.int .i64 size_0] h R = ref11_Sectors size_0 R h := by kernel_rfl
theorem ref11_Sectors_call (size_0 : Int) {R : Int → Heap → Prop} {h : Heap} (hx : ref11_Sectors size_0 R h) : CallT Try.prog 44 [.int .i64 size_0] h [.sc (.int .i64)] R :=
  call_of_fnX fnsOk mixed Try.func44 (by kernel_rfl) (by rw [ref11_Sectors_eq]; exact hx)

end Go.Proofs.Ytmkobpkdodgboaa
