/- Go functions as short texts over the heap, and that each is what the loaded function comes to (the kernel compares them); written by a program. -/
import Derived.Test.YtkgocfaajfaidaaGBase
set_option linter.unusedVariables false
set_option maxRecDepth 100000
namespace Go.Proofs.Ytkgocfaajfaidaa
open Go D
/-- stowage/disk.New (13) -/
def disk_New (n_0 : Int) (R : (Option Addr) × Int → Heap → Prop) (h : Heap) : Prop :=
  withJ (σ := Unit) (fun s1 h3 => -- s1: 
  mkSl [.slice none 0 0] 73 24 n_0 n_0 h3 fun a4 h5 =>
  newB [.slice (some a4) n_0.toNat n_0.toNat, .slice none 0 0, .int .i64 0, .int .i64 0] 66 h5 fun a6 h7 =>
  R ((some a6), 0) h7) (fun J2 =>
  withJ (σ := Bool) (fun s8 h10 => -- s8: t9
  cnd s8 (
  R (none, 1) h10) (
  J2 () h10)) (fun J9 =>
  cnd (decide (n_0 < 1)) (
  J9 true h) (
  J9 (decide (n_0 > 4096)) h)))
theorem disk_New_eq (n_0 : Int) (R : (Option Addr) × Int → Heap → Prop) (h : Heap) : fnX Try.prog Fns.fns Try.f13 (.s .n (.j [] (.j [(9, .bool)] .n (.s (.s .n .n) .n)) (.s .n .n))) [.sc (.ptr), .sc (.int .i64)] [.int .i64 n_0] h R = disk_New n_0 R h := by kernel_rfl
theorem disk_New_call (n_0 : Int) {R : (Option Addr) × Int → Heap → Prop} {h : Heap} (hx : disk_New n_0 R h) : CallT Try.prog 13 [.int .i64 n_0] h [.sc (.ptr), .sc (.int .i64)] R :=
  call_of_fnX fnsOk mixed Try.func13 (by kernel_rfl) (by rw [disk_New_eq]; exact hx)

/-- (*stowage/disk.Dev).Crash (25) -/
def disk_Dev_Crash (d_0 : Option Addr) (keep_1 : Sl) (R : Unit → Heap → Prop) (h : Heap) : Prop :=
  nn d_0 fun a1 =>
  ldL (a1.add 1) h fun o2 l2 c2 =>
  LoopT (σ := Int) (fun X4 s3 h5 => -- s3: t11
  cnd (decide (s3 < (l2 : Int))) (
  withJ (σ := Unit) (fun s6 h8 => -- s6: 
  X4 (w64 (s3 + 1)) h8) (fun J7 =>
  idx o2 l2 s3 fun a9 =>
  ldI .i64 (a9.add (s3.toNat * 2)) h5 fun n10 =>
  ldL ((a9.add (s3.toNat * 2)).add 1) h5 fun o11 l11 c11 =>
  newB [.int .i64 0, .slice none 0 0] 100 h5 fun a12 h13 =>
  stC a12 (.int .i64 n10) h13 fun h14 =>
  stC (a12.add 1) (.slice o11 l11 c11) h14 fun h15 =>
  withJ (σ := Bool) (fun s16 h18 => -- s16: t25
  cnd s16 (
  nn d_0 fun a19 =>
  ldL a19 h18 fun o20 l20 c20 =>
  ldI .i64 a12 h18 fun n21 =>
  ldL (a12.add 1) h18 fun o22 l22 c22 =>
  idx o20 l20 n21 fun a23 =>
  stC (a23.add (n21.toNat * 1)) (.slice o22 l22 c22) h18 fun h24 =>
  J7 () h24) (
  J7 () h18)) (fun J17 =>
  cnd (decide (s3 < (keep_1.len : Int))) (
  idx keep_1.a keep_1.len s3 fun a25 =>
  ldB (a25.add (s3.toNat * 1)) h15 fun b26 =>
  J17 b26 h15) (
  J17 false h15)))) (
  nn d_0 fun a27 =>
  stC (a27.add 1) (.slice none 0 0) h5 fun h28 =>
  nn d_0 fun a29 =>
  stC (a29.add 2) (.int .i64 0) h28 fun h30 =>
  nn d_0 fun a31 =>
  stC (a31.add 3) (.int .i64 0) h30 fun h32 =>
  R () h32)) 0 h
theorem disk_Dev_Crash_eq (d_0 : Option Addr) (keep_1 : Sl) (R : Unit → Heap → Prop) (h : Heap) : fnX Try.prog Fns.fns Try.f25 (.s (.s .n (.b (.l [(11, .int .i64)] (.s .n (.s (.s .n .n) (.j [] (.b (.s .n (.j [(25, .bool)] .n (.s .n .n)))) .n)))))) .n) [] [.pointer d_0, .slice keep_1.a keep_1.len keep_1.cap] h R = disk_Dev_Crash d_0 keep_1 R h := by kernel_rfl
theorem disk_Dev_Crash_call (d_0 : Option Addr) (keep_1 : Sl) {R : Unit → Heap → Prop} {h : Heap} (hx : disk_Dev_Crash d_0 keep_1 R h) : CallT Try.prog 25 [.pointer d_0, .slice keep_1.a keep_1.len keep_1.cap] h [] R :=
  call_of_fnX fnsOk mixed Try.func25 (by kernel_rfl) (by rw [disk_Dev_Crash_eq]; exact hx)

/-- (*stowage/disk.Dev).Pending (26) -/
def disk_Dev_Pending (d_0 : Option Addr) (R : Int → Heap → Prop) (h : Heap) : Prop :=
  nn d_0 fun a1 =>
  ldL (a1.add 1) h fun o2 l2 c2 =>
  R (l2 : Int) h
theorem disk_Dev_Pending_eq (d_0 : Option Addr) (R : Int → Heap → Prop) (h : Heap) : fnX Try.prog Fns.fns Try.f26 (.s .n (.s .n .n)) [.sc (.int .i64)] [.pointer d_0] h R = disk_Dev_Pending d_0 R h := by kernel_rfl
theorem disk_Dev_Pending_call (d_0 : Option Addr) {R : Int → Heap → Prop} {h : Heap} (hx : disk_Dev_Pending d_0 R h) : CallT Try.prog 26 [.pointer d_0] h [.sc (.int .i64)] R :=
  call_of_fnX fnsOk mixed Try.func26 (by kernel_rfl) (by rw [disk_Dev_Pending_eq]; exact hx)

/-- (*stowage/disk.Dev).Fuse (27) -/
def disk_Dev_Fuse (d_0 : Option Addr) (k_1 : Int) (R : Unit → Heap → Prop) (h : Heap) : Prop :=
  nn d_0 fun a1 =>
  ldI .i64 (a1.add 2) h fun n2 =>
  cnd (n2 == 2) (
  R () h) (
  cnd (decide (k_1 < 0)) (
  nn d_0 fun a3 =>
  stC (a3.add 2) (.int .i64 0) h fun h4 =>
  R () h4) (
  nn d_0 fun a5 =>
  stC (a5.add 2) (.int .i64 1) h fun h6 =>
  nn d_0 fun a7 =>
  stC (a7.add 3) (.int .i64 k_1) h6 fun h8 =>
  R () h8))
theorem disk_Dev_Fuse_eq (d_0 : Option Addr) (k_1 : Int) (R : Unit → Heap → Prop) (h : Heap) : fnX Try.prog Fns.fns Try.f27 (.b (.s .n (.s .n (.s .n (.s .n .n))))) [] [.pointer d_0, .int .i64 k_1] h R = disk_Dev_Fuse d_0 k_1 R h := by kernel_rfl
theorem disk_Dev_Fuse_call (d_0 : Option Addr) (k_1 : Int) {R : Unit → Heap → Prop} {h : Heap} (hx : disk_Dev_Fuse d_0 k_1 R h) : CallT Try.prog 27 [.pointer d_0, .int .i64 k_1] h [] R :=
  call_of_fnX fnsOk mixed Try.func27 (by kernel_rfl) (by rw [disk_Dev_Fuse_eq]; exact hx)

/-- (*stowage/disk.Dev).Size (30) -/
def disk_Dev_Size (d_0 : Option Addr) (R : Int → Heap → Prop) (h : Heap) : Prop :=
  nn d_0 fun a1 =>
  ldL a1 h fun o2 l2 c2 =>
  R (l2 : Int) h
theorem disk_Dev_Size_eq (d_0 : Option Addr) (R : Int → Heap → Prop) (h : Heap) : fnX Try.prog Fns.fns Try.f30 (.s .n (.s .n .n)) [.sc (.int .i64)] [.pointer d_0] h R = disk_Dev_Size d_0 R h := by kernel_rfl
theorem disk_Dev_Size_call (d_0 : Option Addr) {R : Int → Heap → Prop} {h : Heap} (hx : disk_Dev_Size d_0 R h) : CallT Try.prog 30 [.pointer d_0] h [.sc (.int .i64)] R :=
  call_of_fnX fnsOk mixed Try.func30 (by kernel_rfl) (by rw [disk_Dev_Size_eq]; exact hx)

/-- stowage/snap.Load (32) -/
def snap_Load (d_0 : Option Addr) (from_1 : Int) (n_2 : Int) (R : Sl × Int × Int → Heap → Prop) (h : Heap) : Prop :=
  CallT Try.prog snap_check_no [.pointer d_0, .int .i64 from_1, .int .i64 n_2] h [.sc (.int .i64)] fun (r1 : Int) h2 =>
  cnd (r1 != 0) (
  R ((⟨none, 0, 0⟩ : Sl), 0, r1) h2) (
  LoopT (σ := Sl × Int × Bool × Int) (fun X4 s3 h5 => -- s3: best, top, has, t25
  cnd (decide (s3.2.2.2 < 2)) (
  withJ (σ := Sl × Int × Bool) (fun s6 h8 => -- s6: best, top, has
  X4 (s6.1, s6.2.1, s6.2.2, (w64 (s3.2.2.2 + 1))) h8) (fun J7 =>
  CallT Try.prog snap_slot_no [.pointer d_0, .int .i64 (w64 (from_1 + (w64 (s3.2.2.2 * n_2)))), .int .i64 n_2, .int .u64 (IntKind.u64.wrap (s3.2.2.2))] h5 [.sc (.sl), .sc (.int .u64), .sc (.bool), .sc (.int .i64)] fun (r9 : Sl × Int × Bool × Int) h10 =>
  cnd (r9.2.2.2 != 0) (
  R ((⟨none, 0, 0⟩ : Sl), 0, r9.2.2.2) h10) (
  withJ (σ := Bool) (fun s11 h13 => -- s11: t55
  cnd s11 (
  J7 (r9.1, r9.2.1, true) h13) (
  J7 (s3.1, s3.2.1, s3.2.2.1) h13)) (fun J12 =>
  cnd r9.2.2.1 (
  cnd (!s3.2.2.1) (
  J12 true h10) (
  J12 (decide (r9.2.1 > s3.2.1)) h10)) (
  J12 false h10))))) (
  cnd (!s3.2.2.1) (
  R ((⟨none, 0, 0⟩ : Sl), 0, 61) h5) (
  R (s3.1, s3.2.1, 0) h5))) ((⟨none, 0, 0⟩ : Sl), 0, false, 0) h2)
theorem snap_Load_eq (d_0 : Option Addr) (from_1 : Int) (n_2 : Int) (R : Sl × Int × Int → Heap → Prop) (h : Heap) : fnX Try.prog Fns.fns Try.f32 (.s .n (.s (.s .n (.s .n (.s (.s .n .n) .n))) (.s .n (.s .n (.s (.s .n (.b (.l [(10, .sl), (11, .int .u64), (12, .bool), (25, .int .i64)] (.s .n (.s (.s .n .n) (.j [(10, .sl), (11, .int .u64), (12, .bool)] (.b (.s .n (.s .n (.s (.s .n (.s (.s .n .n) .n)) (.j [(55, .bool)] .n (.s .n .n)))))) .n)))))) (.s (.s .n (.s (.s .n .n) .n)) (.s .n .n))))))) [.sc (.sl), .sc (.int .u64), .sc (.int .i64)] [.pointer d_0, .int .i64 from_1, .int .i64 n_2] h R = snap_Load d_0 from_1 n_2 R h := by kernel_rfl
theorem snap_Load_call (d_0 : Option Addr) (from_1 : Int) (n_2 : Int) {R : Sl × Int × Int → Heap → Prop} {h : Heap} (hx : snap_Load d_0 from_1 n_2 R h) : CallT Try.prog 32 [.pointer d_0, .int .i64 from_1, .int .i64 n_2] h [.sc (.sl), .sc (.int .u64), .sc (.int .i64)] R :=
  call_of_fnX fnsOk mixed Try.func32 (by kernel_rfl) (by rw [snap_Load_eq]; exact hx)

/-- stowage/wal.Open (34) -/
def wal_Open (x_0 : Option Addr) (x_1 : Int) (x_2 : Int) (x_3 : Int) (R : (Option Addr) × Sl × Int → Heap → Prop) (h : Heap) : Prop :=
  withJ (σ := Unit) (fun s1 h3 => -- s1: 
  CallT Try.prog disk_Dev_Dead_no [.pointer x_0] h3 [.sc (.bool)] fun (r4 : Bool) h5 =>
  cnd r4 (
  R (none, (⟨none, 0, 0⟩ : Sl), 50) h5) (
  newB [.pointer x_0, .int .i64 x_1, .int .i64 x_2, .int .u64 x_3, .int .u64 0, .int .i64 0, .bool false] 112 h5 fun a6 h7 =>
  LoopT (σ := Sl) (fun X9 s8 h10 => -- s8: t12
  CallT Try.prog wal_Log_read_no [.pointer (some a6)] h10 [.sc (.sl), .sc (.int .i64), .sc (.bool), .sc (.int .i64)] fun (r11 : Sl × Int × Bool × Int) h12 =>
  cnd (r11.2.2.2 != 0) (
  R (none, (⟨none, 0, 0⟩ : Sl), r11.2.2.2) h12) (
  cnd (!r11.2.2.1) (
  lsl 1 s8.a s8.cap 0 (s8.len : Int) (s8.len : Int) fun o13 l13 c13 =>
  R ((some a6), (⟨o13, l13, c13⟩ : Sl), 0) h12) (
  newB [.slice r11.1.a r11.1.len r11.1.cap] 80 h12 fun a14 h15 =>
  ldRow (1 * 1) a14 h15 fun cs19 =>
  app [.slice none 0 0] 80 1 24 s8.a s8.len s8.cap cs19 1 h15 fun o16 c17 h18 =>
  ldI .i64 (a6.add 5) h18 fun n20 =>
  stC (a6.add 5) (.int .i64 (w64 (n20 + r11.2.1))) h18 fun h21 =>
  ldI .u64 (a6.add 4) h21 fun n22 =>
  stC (a6.add 4) (.int .u64 (IntKind.u64.wrap (n22 + 1))) h21 fun h23 =>
  X9 (⟨o16, (s8.len + 1), c17⟩ : Sl) h23))) (⟨none, 0, 0⟩ : Sl) h7)) (fun J2 =>
  withJ (σ := Bool) (fun s24 h26 => -- s24: t40
  cnd s24 (
  R (none, (⟨none, 0, 0⟩ : Sl), 1) h26) (
  J2 () h26)) (fun J25 =>
  cnd x_0.isNone (
  J25 true h) (
  cnd (decide (x_2 < 1)) (
  J25 true h) (
  cnd (decide (x_1 < 0)) (
  J25 true h) (
  CallT Try.prog disk_Dev_Size_no [.pointer x_0] h [.sc (.int .i64)] fun (r27 : Int) h28 =>
  cnd (decide (x_1 > r27)) (
  J25 true h28) (
  CallT Try.prog disk_Dev_Size_no [.pointer x_0] h28 [.sc (.int .i64)] fun (r29 : Int) h30 =>
  J25 (decide (x_2 > (w64 (r29 - x_1)))) h30))))))
theorem wal_Open_eq (x_0 : Option Addr) (x_1 : Int) (x_2 : Int) (x_3 : Int) (R : (Option Addr) × Sl × Int → Heap → Prop) (h : Heap) : fnX Try.prog Fns.fns Try.f34 (.s .n (.j [] (.j [(40, .bool)] .n (.s (.s .n .n) .n)) (.s (.s .n (.s (.s .n .n) .n)) (.s .n (.s .n (.b (.l [(12, .sl)] (.b (.s .n (.s (.s .n (.s (.s .n .n) .n)) (.s (.s .n (.s (.s .n .n) .n)) (.s .n (.s .n .n))))))))))))) [.sc (.ptr), .sc (.sl), .sc (.int .i64)] [.pointer x_0, .int .i64 x_1, .int .i64 x_2, .int .u64 x_3] h R = wal_Open x_0 x_1 x_2 x_3 R h := by kernel_rfl
theorem wal_Open_call (x_0 : Option Addr) (x_1 : Int) (x_2 : Int) (x_3 : Int) {R : (Option Addr) × Sl × Int → Heap → Prop} {h : Heap} (hx : wal_Open x_0 x_1 x_2 x_3 R h) : CallT Try.prog 34 [.pointer x_0, .int .i64 x_1, .int .i64 x_2, .int .u64 x_3] h [.sc (.ptr), .sc (.sl), .sc (.int .i64)] R :=
  call_of_fnX fnsOk mixed Try.func34 (by kernel_rfl) (by rw [wal_Open_eq]; exact hx)

/-- stowage/snap.Fits (40) -/
def snap_Fits (n_0 : Int) (bytes_1 : Int) (R : Bool → Heap → Prop) (h : Heap) : Prop :=
  withJ (σ := Bool) (fun s1 h3 => -- s1: t4
  R s1 h3) (fun J2 =>
  cnd (decide (n_0 ≥ 1)) (
  cnd (decide (bytes_1 ≥ 0)) (
  J2 (decide ((w64 ((w64 (bytes_1.tdiv 256)) + (minI (bytes_1.tmod 256) 1))) ≤ (w64 (n_0 - 1)))) h) (
  J2 false h)) (
  J2 false h))
theorem snap_Fits_eq (n_0 : Int) (bytes_1 : Int) (R : Bool → Heap → Prop) (h : Heap) : fnX Try.prog Fns.fns Try.f40 (.s .n (.j [(4, .bool)] .n .n)) [.sc (.bool)] [.int .i64 n_0, .int .i64 bytes_1] h R = snap_Fits n_0 bytes_1 R h := by kernel_rfl
theorem snap_Fits_call (n_0 : Int) (bytes_1 : Int) {R : Bool → Heap → Prop} {h : Heap} (hx : snap_Fits n_0 bytes_1 R h) : CallT Try.prog 40 [.int .i64 n_0, .int .i64 bytes_1] h [.sc (.bool)] R :=
  call_of_fnX fnsOk mixed Try.func40 (by kernel_rfl) (by rw [snap_Fits_eq]; exact hx)

/-- (*stowage/wal.Log).Room (42) -/
def wal_Log_Room (l_0 : Option Addr) (R : Int → Heap → Prop) (h : Heap) : Prop :=
  nn l_0 fun a1 =>
  ldI .i64 (a1.add 2) h fun n2 =>
  nn l_0 fun a3 =>
  ldI .i64 (a3.add 5) h fun n4 =>
  R (w64 (n2 - n4)) h
theorem wal_Log_Room_eq (l_0 : Option Addr) (R : Int → Heap → Prop) (h : Heap) : fnX Try.prog Fns.fns Try.f42 (.s .n (.s .n .n)) [.sc (.int .i64)] [.pointer l_0] h R = wal_Log_Room l_0 R h := by kernel_rfl
theorem wal_Log_Room_call (l_0 : Option Addr) {R : Int → Heap → Prop} {h : Heap} (hx : wal_Log_Room l_0 R h) : CallT Try.prog 42 [.pointer l_0] h [.sc (.int .i64)] R :=
  call_of_fnX fnsOk mixed Try.func42 (by kernel_rfl) (by rw [wal_Log_Room_eq]; exact hx)

/-- stowage/wal.Need (43) -/
def wal_Need (records_0 : Sl) (R : Int → Heap → Prop) (h : Heap) : Prop :=
  LoopT (σ := Int × Int) (fun X2 s1 h3 => -- s1: n, t8
  cnd (decide (s1.2 < (records_0.len : Int))) (
  idx records_0.a records_0.len s1.2 fun a4 =>
  ldS (a4.add (s1.2.toNat * 1)) h3 fun s5 =>
  X2 ((w64 (s1.1 + (w64 (4 + (s5.size : Int))))), (w64 (s1.2 + 1))) h3) (
  CallT Try.prog wal_sectors_no [.int .i64 s1.1] h3 [.sc (.int .i64)] fun (r6 : Int) h7 =>
  R r6 h7)) (0, 0) h
theorem wal_Need_eq (records_0 : Sl) (R : Int → Heap → Prop) (h : Heap) : fnX Try.prog Fns.fns Try.f43 (.s .n (.s .n (.s (.s .n (.b (.l [(3, .int .i64), (8, .int .i64)] (.s .n (.s (.s .n .n) (.s (.b (.s .n .n)) .n)))))) (.s .n .n)))) [.sc (.int .i64)] [.slice records_0.a records_0.len records_0.cap] h R = wal_Need records_0 R h := by kernel_rfl
theorem wal_Need_call (records_0 : Sl) {R : Int → Heap → Prop} {h : Heap} (hx : wal_Need records_0 R h) : CallT Try.prog 43 [.slice records_0.a records_0.len records_0.cap] h [.sc (.int .i64)] R :=
  call_of_fnX fnsOk mixed Try.func43 (by kernel_rfl) (by rw [wal_Need_eq]; exact hx)

/-- (*stowage/wal.Log).Append (45) -/
def wal_Log_Append (l_0 : Option Addr) (records_1 : Sl) (R : Int → Heap → Prop) (h : Heap) : Prop :=
  nn l_0 fun a1 =>
  ldB (a1.add 6) h fun b2 =>
  cnd b2 (
  R 50 h) (
  CallT Try.prog wal_Need_no [.slice records_1.a records_1.len records_1.cap] h [.sc (.int .i64)] fun (r3 : Int) h4 =>
  CallT Try.prog wal_Log_Room_no [.pointer l_0] h4 [.sc (.int .i64)] fun (r5 : Int) h6 =>
  cnd (decide (r3 > r5)) (
  R 60 h6) (
  nn l_0 fun a7 =>
  ldI .u64 (a7.add 3) h6 fun n8 =>
  nn l_0 fun a9 =>
  ldI .u64 (a9.add 4) h6 fun n10 =>
  CallT Try.prog enc_Pack_no [.slice records_1.a records_1.len records_1.cap] h6 [.sc (.sl)] fun (r11 : Sl) h12 =>
  (ldI .u64 (a9.add 4) h12 fun n13 =>
  (.int .u64 n13 : Value) = .int .u64 n10) ∧
  (ldI .u64 (a7.add 3) h12 fun n14 =>
  (.int .u64 n14 : Value) = .int .u64 n8) ∧
  CallT Try.prog wal_frame_no [.int .u64 n8, .int .u64 n10, .slice r11.a r11.len r11.cap] h12 [.sc (.sl)] fun (r15 : Sl) h16 =>
  CallT Try.prog wal_Log_write_no [.pointer l_0, .slice r15.a r15.len r15.cap] h16 [.sc (.int .i64)] fun (r17 : Int) h18 =>
  cnd (r17 != 0) (
  nn l_0 fun a19 =>
  stC (a19.add 6) (.bool true) h18 fun h20 =>
  R r17 h20) (
  nn l_0 fun a21 =>
  ldI .i64 (a21.add 5) h18 fun n22 =>
  nn l_0 fun a23 =>
  stC (a23.add 5) (.int .i64 (w64 (n22 + r3))) h18 fun h24 =>
  nn l_0 fun a25 =>
  ldI .u64 (a25.add 4) h24 fun n26 =>
  nn l_0 fun a27 =>
  stC (a27.add 4) (.int .u64 (IntKind.u64.wrap (n26 + 1))) h24 fun h28 =>
  R 0 h28)))
theorem wal_Log_Append_eq (l_0 : Option Addr) (records_1 : Sl) (R : Int → Heap → Prop) (h : Heap) : fnX Try.prog Fns.fns Try.f45 (.s .n (.s (.s .n (.s (.s .n .n) .n)) (.s .n (.s (.s .n (.s (.s .n .n) .n)) (.s (.s .n (.s .n (.s (.s .n (.s .n .n)) .n))) (.s .n (.s .n (.s .n .n)))))))) [.sc (.int .i64)] [.pointer l_0, .slice records_1.a records_1.len records_1.cap] h R = wal_Log_Append l_0 records_1 R h := by kernel_rfl
theorem wal_Log_Append_call (l_0 : Option Addr) (records_1 : Sl) {R : Int → Heap → Prop} {h : Heap} (hx : wal_Log_Append l_0 records_1 R h) : CallT Try.prog 45 [.pointer l_0, .slice records_1.a records_1.len records_1.cap] h [.sc (.int .i64)] R :=
  call_of_fnX fnsOk mixed Try.func45 (by kernel_rfl) (by rw [wal_Log_Append_eq]; exact hx)

/-- stowage/snap.Save (47) -/
def snap_Save (x_0 : Option Addr) (x_1 : Int) (x_2 : Int) (x_3 : Int) (x_4 : Sl) (R : Int → Heap → Prop) (h : Heap) : Prop :=
  CallT Try.prog snap_check_no [.pointer x_0, .int .i64 x_1, .int .i64 x_2] h [.sc (.int .i64)] fun (r1 : Int) h2 =>
  cnd (r1 != 0) (
  R r1 h2) (
  CallT Try.prog snap_Fits_no [.int .i64 x_2, .int .i64 (x_4.len : Int)] h2 [.sc (.bool)] fun (r3 : Bool) h4 =>
  cnd (!r3) (
  R 60 h4) (
  LoopT (σ := Int) (fun X6 s5 h7 => -- s5: t13
  cnd (decide ((w64 (s5 * 256)) < (x_4.len : Int))) (
  mkSl [.int .u8 0] 5 1 256 256 h7 fun a8 h9 =>
  lsl 1 x_4.a x_4.cap (w64 (s5 * 256)) (x_4.len : Int) (x_4.cap : Int) fun o10 l10 c10 =>
  rdCells o10 ((Nat.min l10 ((256 : Int).toNat)) * 1) h9 fun cs12 =>
  wrRow cs12 (some a8) h9 fun h11 =>
  CallT Try.prog disk_Dev_Write_no [.pointer x_0, .int .i64 (w64 ((w64 ((w64 (x_1 + (w64 ((w64 ((x_3.tmod 2))) * x_2)))) + 1)) + s5)), .slice (some a8) ((256 : Int).toNat) ((256 : Int).toNat)] h11 [.sc (.int .i64)] fun (r13 : Int) h14 =>
  cnd (r13 != 0) (
  R r13 h14) (
  X6 (w64 (s5 + 1)) h14)) (
  CallT Try.prog disk_Dev_Flush_no [.pointer x_0] h7 [.sc (.int .i64)] fun (r15 : Int) h16 =>
  cnd (r15 != 0) (
  R r15 h16) (
  CallT Try.prog snap_head_no [.int .u64 x_3, .slice x_4.a x_4.len x_4.cap] h16 [.sc (.sl)] fun (r17 : Sl) h18 =>
  CallT Try.prog disk_Dev_Write_no [.pointer x_0, .int .i64 (w64 (x_1 + (w64 ((w64 ((x_3.tmod 2))) * x_2)))), .slice r17.a r17.len r17.cap] h18 [.sc (.int .i64)] fun (r19 : Int) h20 =>
  cnd (r19 != 0) (
  R r19 h20) (
  CallT Try.prog disk_Dev_Flush_no [.pointer x_0] h20 [.sc (.int .i64)] fun (r21 : Int) h22 =>
  R r21 h22)))) 0 h4))
theorem snap_Save_eq (x_0 : Option Addr) (x_1 : Int) (x_2 : Int) (x_3 : Int) (x_4 : Sl) (R : Int → Heap → Prop) (h : Heap) : fnX Try.prog Fns.fns Try.f47 (.s .n (.s (.s .n (.s .n (.s (.s .n .n) .n))) (.s (.s .n (.s (.s .n .n) .n)) (.s .n (.s (.s .n (.b (.l [(13, .int .i64)] (.s (.s .n (.s .n .n)) (.s (.b (.s .n (.s .n (.s .n (.s .n (.s (.s .n .n) .n)))))) .n))))) (.s (.s .n (.s .n (.s (.s .n .n) .n))) (.s (.s .n (.s .n (.s (.s .n .n) .n))) (.s .n .n)))))))) [.sc (.int .i64)] [.pointer x_0, .int .i64 x_1, .int .i64 x_2, .int .u64 x_3, .slice x_4.a x_4.len x_4.cap] h R = snap_Save x_0 x_1 x_2 x_3 x_4 R h := by kernel_rfl
theorem snap_Save_call (x_0 : Option Addr) (x_1 : Int) (x_2 : Int) (x_3 : Int) (x_4 : Sl) {R : Int → Heap → Prop} {h : Heap} (hx : snap_Save x_0 x_1 x_2 x_3 x_4 R h) : CallT Try.prog 47 [.pointer x_0, .int .i64 x_1, .int .i64 x_2, .int .u64 x_3, .slice x_4.a x_4.len x_4.cap] h [.sc (.int .i64)] R :=
  call_of_fnX fnsOk mixed Try.func47 (by kernel_rfl) (by rw [snap_Save_eq]; exact hx)

/-- stowage/wal.Begin (49) -/
def wal_Begin (d_0 : Option Addr) (from_1 : Int) (n_2 : Int) (epoch_3 : Int) (R : (Option Addr) → Heap → Prop) (h : Heap) : Prop :=
  newB [.pointer d_0, .int .i64 from_1, .int .i64 n_2, .int .u64 epoch_3, .int .u64 0, .int .i64 0, .bool false] 112 h fun a1 h2 =>
  R (some a1) h2
theorem wal_Begin_eq (d_0 : Option Addr) (from_1 : Int) (n_2 : Int) (epoch_3 : Int) (R : (Option Addr) → Heap → Prop) (h : Heap) : fnX Try.prog Fns.fns Try.f49 (.s .n (.s .n .n)) [.sc (.ptr)] [.pointer d_0, .int .i64 from_1, .int .i64 n_2, .int .u64 epoch_3] h R = wal_Begin d_0 from_1 n_2 epoch_3 R h := by kernel_rfl
theorem wal_Begin_call (d_0 : Option Addr) (from_1 : Int) (n_2 : Int) (epoch_3 : Int) {R : (Option Addr) → Heap → Prop} {h : Heap} (hx : wal_Begin d_0 from_1 n_2 epoch_3 R h) : CallT Try.prog 49 [.pointer d_0, .int .i64 from_1, .int .i64 n_2, .int .u64 epoch_3] h [.sc (.ptr)] R :=
  call_of_fnX fnsOk mixed Try.func49 (by kernel_rfl) (by rw [wal_Begin_eq]; exact hx)

/-- stowage/snap.check (50) -/
def snap_check (d_0 : Option Addr) (from_1 : Int) (n_2 : Int) (R : Int → Heap → Prop) (h : Heap) : Prop :=
  withJ (σ := Unit) (fun s1 h3 => -- s1: 
  R 0 h3) (fun J2 =>
  withJ (σ := Bool) (fun s4 h6 => -- s4: t31
  cnd s4 (
  R 1 h6) (
  J2 () h6)) (fun J5 =>
  cnd d_0.isNone (
  J5 true h) (
  cnd (decide (n_2 < 1)) (
  J5 true h) (
  cnd (decide (from_1 < 0)) (
  J5 true h) (
  CallT Try.prog disk_Dev_Size_no [.pointer d_0] h [.sc (.int .i64)] fun (r7 : Int) h8 =>
  cnd (decide (from_1 > r7)) (
  J5 true h8) (
  CallT Try.prog disk_Dev_Size_no [.pointer d_0] h8 [.sc (.int .i64)] fun (r9 : Int) h10 =>
  J5 (decide (n_2 > (w64 ((w64 (r9 - from_1)).tdiv 2)))) h10))))))
theorem snap_check_eq (d_0 : Option Addr) (from_1 : Int) (n_2 : Int) (R : Int → Heap → Prop) (h : Heap) : fnX Try.prog Fns.fns Try.f50 (.s .n (.j [] (.j [(31, .bool)] .n (.s (.s .n .n) .n)) (.s .n .n))) [.sc (.int .i64)] [.pointer d_0, .int .i64 from_1, .int .i64 n_2] h R = snap_check d_0 from_1 n_2 R h := by kernel_rfl
theorem snap_check_call (d_0 : Option Addr) (from_1 : Int) (n_2 : Int) {R : Int → Heap → Prop} {h : Heap} (hx : snap_check d_0 from_1 n_2 R h) : CallT Try.prog 50 [.pointer d_0, .int .i64 from_1, .int .i64 n_2] h [.sc (.int .i64)] R :=
  call_of_fnX fnsOk mixed Try.func50 (by kernel_rfl) (by rw [snap_check_eq]; exact hx)

/-- stowage/snap.slot (51) -/
def snap_slot (x_0 : Option Addr) (x_1 : Int) (x_2 : Int) (x_3 : Int) (R : Sl × Int × Bool × Int → Heap → Prop) (h : Heap) : Prop :=
  CallT Try.prog disk_Dev_Read_no [.pointer x_0, .int .i64 x_1] h [.sc (.sl), .sc (.int .i64)] fun (r1 : Sl × Int) h2 =>
  cnd (r1.2 != 0) (
  R ((⟨none, 0, 0⟩ : Sl), 0, false, r1.2) h2) (
  lsl 1 r1.1.a r1.1.cap 8 16 (r1.1.cap : Int) fun o3 l3 c3 =>
  CallT Try.prog enc_Get64_no [.slice o3 l3 c3] h2 [.sc (.int .u64), .sc (.bool)] fun (r4 : Int × Bool) h5 =>
  lsl 1 r1.1.a r1.1.cap 16 24 (r1.1.cap : Int) fun o6 l6 c6 =>
  CallT Try.prog enc_Get64_no [.slice o6 l6 c6] h5 [.sc (.int .u64), .sc (.bool)] fun (r7 : Int × Bool) h8 =>
  withJ (σ := Unit) (fun s9 h11 => -- s9: 
  LoopT (σ := Sl × Int) (fun X13 s12 h14 => -- s12: t18, t19
  cnd (decide ((IntKind.u64.wrap ((s12.1.len : Int))) < r7.1)) (
  CallT Try.prog disk_Dev_Read_no [.pointer x_0, .int .i64 (w64 (x_1 + s12.2))] h14 [.sc (.sl), .sc (.int .i64)] fun (r15 : Sl × Int) h16 =>
  cnd (r15.2 != 0) (
  R ((⟨none, 0, 0⟩ : Sl), 0, false, r15.2) h16) (
  rdCells r15.1.a (r15.1.len * 1) h16 fun cs20 =>
  app [.int .u8 0] 5 1 1 s12.1.a s12.1.len s12.1.cap cs20 r15.1.len h16 fun o17 c18 h19 =>
  X13 ((⟨o17, (s12.1.len + r15.1.len), c18⟩ : Sl), (w64 (s12.2 + 1))) h19)) (
  lsl 1 s12.1.a s12.1.cap 0 r7.1 r7.1 fun o21 l21 c21 =>
  lsl 1 r1.1.a r1.1.cap 0 24 (r1.1.cap : Int) fun o22 l22 c22 =>
  b2s o22 l22 h14 fun s23 =>
  CallT Try.prog snap_head_no [.int .u64 r4.1, .slice o21 l21 c21] h14 [.sc (.sl)] fun (r24 : Sl) h25 =>
  (b2s o22 l22 h25 fun s26 =>
  (.string s26 : Value) = .string s23) ∧
  lsl 1 r24.a r24.cap 0 24 (r24.cap : Int) fun o27 l27 c27 =>
  b2s o27 l27 h25 fun s28 =>
  R ((⟨o21, l21, c21⟩ : Sl), r4.1, (seq s28 s23), 0) h25)) ((⟨none, 0, 0⟩ : Sl), 1) h11) (fun J10 =>
  withJ (σ := Bool) (fun s29 h31 => -- s29: t60
  cnd s29 (
  R ((⟨none, 0, 0⟩ : Sl), 0, false, 0) h31) (
  J10 () h31)) (fun J30 =>
  lsl 1 r1.1.a r1.1.cap 0 4 (r1.1.cap : Int) fun o32 l32 c32 =>
  b2s o32 l32 h8 fun s33 =>
  cnd (!seq s33 (⟨#[83, 78, 65, 80]⟩ : ByteArray)) (
  J30 true h8) (
  cnd ((r4.1.tmod 2) != x_3) (
  J30 true h8) (
  J30 (decide (r7.1 > (IntKind.u64.wrap ((w64 ((w64 (x_2 - 1)) * 256)))))) h8)))))
theorem snap_slot_eq (x_0 : Option Addr) (x_1 : Int) (x_2 : Int) (x_3 : Int) (R : Sl × Int × Bool × Int → Heap → Prop) (h : Heap) : fnX Try.prog Fns.fns Try.f51 (.s .n (.s .n (.s (.s .n (.s (.s .n .n) .n)) (.s .n (.s .n (.j [] (.j [(60, .bool)] .n (.s (.s .n .n) .n)) (.s .n (.s (.s .n (.b (.l [(18, .sl), (19, .int .i64)] (.s (.s .n (.s .n .n)) (.s (.b (.s .n (.s (.s .n (.s (.s .n .n) .n)) .n))) .n))))) (.s .n (.s .n .n)))))))))) [.sc (.sl), .sc (.int .u64), .sc (.bool), .sc (.int .i64)] [.pointer x_0, .int .i64 x_1, .int .i64 x_2, .int .u64 x_3] h R = snap_slot x_0 x_1 x_2 x_3 R h := by kernel_rfl
theorem snap_slot_call (x_0 : Option Addr) (x_1 : Int) (x_2 : Int) (x_3 : Int) {R : Sl × Int × Bool × Int → Heap → Prop} {h : Heap} (hx : snap_slot x_0 x_1 x_2 x_3 R h) : CallT Try.prog 51 [.pointer x_0, .int .i64 x_1, .int .i64 x_2, .int .u64 x_3] h [.sc (.sl), .sc (.int .u64), .sc (.bool), .sc (.int .i64)] R :=
  call_of_fnX fnsOk mixed Try.func51 (by kernel_rfl) (by rw [snap_slot_eq]; exact hx)

/-- stowage/enc.Unpack (52) -/
def enc_Unpack (b_0 : Sl) (R : Sl × Bool → Heap → Prop) (h : Heap) : Prop :=
  LoopT (σ := Sl × Sl) (fun X2 s1 h3 => -- s1: b, out
  cnd (decide ((s1.1.len : Int) > 0)) (
  cnd (decide ((s1.1.len : Int) < 4)) (
  R ((⟨none, 0, 0⟩ : Sl), false) h3) (
  idx s1.1.a s1.1.len 0 fun a4 =>
  ldI .u8 (a4.add ((0 : Int).toNat * 1)) h3 fun n5 =>
  idx s1.1.a s1.1.len 1 fun a6 =>
  ldI .u8 (a6.add ((1 : Int).toNat * 1)) h3 fun n7 =>
  idx s1.1.a s1.1.len 2 fun a8 =>
  ldI .u8 (a8.add ((2 : Int).toNat * 1)) h3 fun n9 =>
  idx s1.1.a s1.1.len 3 fun a10 =>
  ldI .u8 (a10.add ((3 : Int).toNat * 1)) h3 fun n11 =>
  cnd (decide ((orI .i64 (orI .i64 (orI .i64 (shlI .i64 (w64 (n5)) 24) (shlI .i64 (w64 (n7)) 16)) (shlI .i64 (w64 (n9)) 8)) (w64 (n11))) > (w64 ((s1.1.len : Int) - 4)))) (
  R ((⟨none, 0, 0⟩ : Sl), false) h3) (
  lsl 1 s1.1.a s1.1.cap 4 (w64 (4 + (orI .i64 (orI .i64 (orI .i64 (shlI .i64 (w64 (n5)) 24) (shlI .i64 (w64 (n7)) 16)) (shlI .i64 (w64 (n9)) 8)) (w64 (n11))))) (s1.1.cap : Int) fun o12 l12 c12 =>
  b2s o12 l12 h3 fun s13 =>
  newB [.string s13] 9 h3 fun a14 h15 =>
  ldRow (1 * 1) a14 h15 fun cs19 =>
  app [.string (⟨#[]⟩ : ByteArray)] 9 1 16 s1.2.a s1.2.len s1.2.cap cs19 1 h15 fun o16 c17 h18 =>
  lsl 1 s1.1.a s1.1.cap (w64 (4 + (orI .i64 (orI .i64 (orI .i64 (shlI .i64 (w64 (n5)) 24) (shlI .i64 (w64 (n7)) 16)) (shlI .i64 (w64 (n9)) 8)) (w64 (n11))))) (s1.1.len : Int) (s1.1.cap : Int) fun o20 l20 c20 =>
  X2 ((⟨o20, l20, c20⟩ : Sl), (⟨o16, (s1.2.len + 1), c17⟩ : Sl)) h18))) (
  lsl 1 s1.2.a s1.2.cap 0 (s1.2.len : Int) (s1.2.len : Int) fun o21 l21 c21 =>
  R ((⟨o21, l21, c21⟩ : Sl), true) h3)) (b_0, (⟨none, 0, 0⟩ : Sl)) h
theorem enc_Unpack_eq (b_0 : Sl) (R : Sl × Bool → Heap → Prop) (h : Heap) : fnX Try.prog Fns.fns Try.f52 (.s .n (.s .n (.s (.b (.l [(0, .sl), (4, .sl)] (.s (.s .n (.s .n .n)) (.b (.s (.s .n (.s (.s .n .n) .n)) (.s .n (.s (.s .n (.s (.s .n .n) .n)) (.s .n .n)))))))) (.s .n .n)))) [.sc (.sl), .sc (.bool)] [.slice b_0.a b_0.len b_0.cap] h R = enc_Unpack b_0 R h := by kernel_rfl
theorem enc_Unpack_call (b_0 : Sl) {R : Sl × Bool → Heap → Prop} {h : Heap} (hx : enc_Unpack b_0 R h) : CallT Try.prog 52 [.slice b_0.a b_0.len b_0.cap] h [.sc (.sl), .sc (.bool)] R :=
  call_of_fnX fnsOk mixed Try.func52 (by kernel_rfl) (by rw [enc_Unpack_eq]; exact hx)

/-- stowage/enc.Get64 (53) -/
def enc_Get64 (b_0 : Sl) (R : Int × Bool → Heap → Prop) (h : Heap) : Prop :=
  cnd ((b_0.len : Int) != 8) (
  R (0, false) h) (
  LoopT (σ := Int × Int) (fun X2 s1 h3 => -- s1: n, t12
  cnd (decide (s1.2 < (b_0.len : Int))) (
  idx b_0.a b_0.len s1.2 fun a4 =>
  ldI .u8 (a4.add (s1.2.toNat * 1)) h3 fun n5 =>
  X2 ((orI .u64 (shlI .u64 s1.1 8) (IntKind.u64.wrap (n5))), (w64 (s1.2 + 1))) h3) (
  R (s1.1, true) h3)) (0, 0) h)
theorem enc_Get64_eq (b_0 : Sl) (R : Int × Bool → Heap → Prop) (h : Heap) : fnX Try.prog Fns.fns Try.f53 (.s .n (.s (.s .n (.s (.s .n .n) .n)) (.s .n (.s (.s .n (.b (.l [(4, .int .u64), (12, .int .i64)] (.s .n (.s (.s .n .n) (.s (.b (.s .n .n)) .n)))))) (.s .n .n))))) [.sc (.int .u64), .sc (.bool)] [.slice b_0.a b_0.len b_0.cap] h R = enc_Get64 b_0 R h := by kernel_rfl
theorem enc_Get64_call (b_0 : Sl) {R : Int × Bool → Heap → Prop} {h : Heap} (hx : enc_Get64 b_0 R h) : CallT Try.prog 53 [.slice b_0.a b_0.len b_0.cap] h [.sc (.int .u64), .sc (.bool)] R :=
  call_of_fnX fnsOk mixed Try.func53 (by kernel_rfl) (by rw [enc_Get64_eq]; exact hx)

/-- (*stowage/disk.Dev).Dead (54) -/
def disk_Dev_Dead (d_0 : Option Addr) (R : Bool → Heap → Prop) (h : Heap) : Prop :=
  nn d_0 fun a1 =>
  ldI .i64 (a1.add 2) h fun n2 =>
  R (n2 == 2) h
theorem disk_Dev_Dead_eq (d_0 : Option Addr) (R : Bool → Heap → Prop) (h : Heap) : fnX Try.prog Fns.fns Try.f54 (.s .n (.s .n .n)) [.sc (.bool)] [.pointer d_0] h R = disk_Dev_Dead d_0 R h := by kernel_rfl
theorem disk_Dev_Dead_call (d_0 : Option Addr) {R : Bool → Heap → Prop} {h : Heap} (hx : disk_Dev_Dead d_0 R h) : CallT Try.prog 54 [.pointer d_0] h [.sc (.bool)] R :=
  call_of_fnX fnsOk mixed Try.func54 (by kernel_rfl) (by rw [disk_Dev_Dead_eq]; exact hx)

/-- (*stowage/wal.Log).read (55) -/
def wal_Log_read (x_0 : Option Addr) (R : Sl × Int × Bool × Int → Heap → Prop) (h : Heap) : Prop :=
  withJ (σ := Unit) (fun s1 h3 => -- s1: 
  R ((⟨none, 0, 0⟩ : Sl), 0, false, 0) h3) (fun J2 =>
  nn x_0 fun a4 =>
  ldI .i64 (a4.add 5) h fun n5 =>
  nn x_0 fun a6 =>
  ldI .i64 (a6.add 2) h fun n7 =>
  cnd (decide (n5 ≥ n7)) (
  J2 () h) (
  nn x_0 fun a8 =>
  ldP a8 h fun p9 =>
  nn x_0 fun a10 =>
  ldI .i64 (a10.add 1) h fun n11 =>
  nn x_0 fun a12 =>
  ldI .i64 (a12.add 5) h fun n13 =>
  CallT Try.prog disk_Dev_Read_no [.pointer p9, .int .i64 (w64 (n11 + n13))] h [.sc (.sl), .sc (.int .i64)] fun (r14 : Sl × Int) h15 =>
  cnd (r14.2 != 0) (
  R ((⟨none, 0, 0⟩ : Sl), 0, false, r14.2) h15) (
  CallT Try.prog wal_number_no [.slice r14.1.a r14.1.len r14.1.cap] h15 [.sc (.int .i64)] fun (r16 : Int) h17 =>
  nn x_0 fun a18 =>
  ldI .i64 (a18.add 2) h17 fun n19 =>
  nn x_0 fun a20 =>
  ldI .i64 (a20.add 5) h17 fun n21 =>
  cnd (decide (r16 > (w64 ((w64 ((w64 (n19 - n21)) * 256)) - 24)))) (
  J2 () h17) (
  LoopT (σ := Sl × Int) (fun X23 s22 h24 => -- s22: t6, t9
  CallT Try.prog wal_sectors_no [.int .i64 r16] h24 [.sc (.int .i64)] fun (r25 : Int) h26 =>
  cnd (decide (s22.2 < r25)) (
  nn x_0 fun a27 =>
  ldP a27 h26 fun p28 =>
  nn x_0 fun a29 =>
  ldI .i64 (a29.add 1) h26 fun n30 =>
  nn x_0 fun a31 =>
  ldI .i64 (a31.add 5) h26 fun n32 =>
  CallT Try.prog disk_Dev_Read_no [.pointer p28, .int .i64 (w64 ((w64 (n30 + n32)) + s22.2))] h26 [.sc (.sl), .sc (.int .i64)] fun (r33 : Sl × Int) h34 =>
  cnd (r33.2 != 0) (
  R ((⟨none, 0, 0⟩ : Sl), 0, false, r33.2) h34) (
  rdCells r33.1.a (r33.1.len * 1) h34 fun cs38 =>
  app [.int .u8 0] 5 1 1 s22.1.a s22.1.len s22.1.cap cs38 r33.1.len h34 fun o35 c36 h37 =>
  X23 ((⟨o35, (s22.1.len + r33.1.len), c36⟩ : Sl), (w64 (s22.2 + 1))) h37)) (
  lsl 1 s22.1.a s22.1.cap 24 (w64 (24 + r16)) (s22.1.cap : Int) fun o39 l39 c39 =>
  nn x_0 fun a40 =>
  ldI .u64 (a40.add 3) h26 fun n41 =>
  nn x_0 fun a42 =>
  ldI .u64 (a42.add 4) h26 fun n43 =>
  lsl 1 s22.1.a s22.1.cap 0 24 (s22.1.cap : Int) fun o44 l44 c44 =>
  b2s o44 l44 h26 fun s45 =>
  CallT Try.prog wal_frame_no [.int .u64 n41, .int .u64 n43, .slice o39 l39 c39] h26 [.sc (.sl)] fun (r46 : Sl) h47 =>
  (b2s o44 l44 h47 fun s48 =>
  (.string s48 : Value) = .string s45) ∧
  lsl 1 r46.a r46.cap 0 24 (r46.cap : Int) fun o49 l49 c49 =>
  b2s o49 l49 h47 fun s50 =>
  cnd (!seq s50 s45) (
  J2 () h47) (
  CallT Try.prog enc_Unpack_no [.slice o39 l39 c39] h47 [.sc (.sl), .sc (.bool)] fun (r51 : Sl × Bool) h52 =>
  cnd (!r51.2) (
  J2 () h52) (
  CallT Try.prog wal_sectors_no [.int .i64 r16] h52 [.sc (.int .i64)] fun (r53 : Int) h54 =>
  R (r51.1, r53, true, 0) h54)))) (r14.1, 1) h17))))
theorem wal_Log_read_eq (x_0 : Option Addr) (R : Sl × Int × Bool × Int → Heap → Prop) (h : Heap) : fnX Try.prog Fns.fns Try.f55 (.s .n (.g 0 [] (.s .n (.s .n (.s (.s .n (.s .n .n)) (.s .n (.s (.s .n (.s (.s .n .n) .n)) (.s .n (.s (.s .n (.s .n .n)) (.s (.s .n (.b (.l [(6, .sl), (9, .int .i64)] (.s (.s .n (.s .n .n)) (.s (.b (.s .n (.s (.s .n (.s (.s .n .n) .n)) .n))) .n))))) (.s .n (.s (.s .n (.s .n .n)) (.s .n (.s (.s .n (.s .n .n)) (.s (.s .n .n) .n))))))))))))) (.s .n (.s .n (.s .n (.s .n (.s .n (.s .n (.s .n (.s .n (.s .n (.s .n (.s .n (.s .n (.s .n (.s .n (.s .n .n))))))))))))))))) [.sc (.sl), .sc (.int .i64), .sc (.bool), .sc (.int .i64)] [.pointer x_0] h R = wal_Log_read x_0 R h := by kernel_rfl
theorem wal_Log_read_call (x_0 : Option Addr) {R : Sl × Int × Bool × Int → Heap → Prop} {h : Heap} (hx : wal_Log_read x_0 R h) : CallT Try.prog 55 [.pointer x_0] h [.sc (.sl), .sc (.int .i64), .sc (.bool), .sc (.int .i64)] R :=
  call_of_fnX fnsOk mixed Try.func55 (by kernel_rfl) (by rw [wal_Log_read_eq]; exact hx)

/-- stowage/enc.Pack (58) -/
def enc_Pack (l_0 : Sl) (R : Sl → Heap → Prop) (h : Heap) : Prop :=
  LoopT (σ := Int × Int) (fun X2 s1 h3 => -- s1: size, t12
  cnd (decide (s1.2 < (l_0.len : Int))) (
  idx l_0.a l_0.len s1.2 fun a4 =>
  ldS (a4.add (s1.2.toNat * 1)) h3 fun s5 =>
  X2 ((w64 (s1.1 + (w64 (4 + (s5.size : Int))))), (w64 (s1.2 + 1))) h3) (
  mkSl [.int .u8 0] 5 1 0 s1.1 h3 fun a6 h7 =>
  LoopT (σ := Sl × Int) (fun X9 s8 h10 => -- s8: out, t26
  cnd (decide (s8.2 < (l_0.len : Int))) (
  idx l_0.a l_0.len s8.2 fun a11 =>
  ldS (a11.add (s8.2.toNat * 1)) h10 fun s12 =>
  newB [.int .u8 (IntKind.u8.wrap ((shrI .i64 (s12.size : Int) 24))), .int .u8 (IntKind.u8.wrap ((shrI .i64 (s12.size : Int) 16))), .int .u8 (IntKind.u8.wrap ((shrI .i64 (s12.size : Int) 8))), .int .u8 (IntKind.u8.wrap ((s12.size : Int)))] 5 h10 fun a13 h14 =>
  ldRow (4 * 1) a13 h14 fun cs18 =>
  app [.int .u8 0] 5 1 1 s8.1.a s8.1.len s8.1.cap cs18 4 h14 fun o15 c16 h17 =>
  app [.int .u8 0] 5 1 1 o15 (s8.1.len + 4) c16 (bytesV s12) s12.size h17 fun o19 c20 h21 =>
  X9 ((⟨o19, ((s8.1.len + 4) + s12.size), c20⟩ : Sl), (w64 (s8.2 + 1))) h21) (
  R s8.1 h10)) ((⟨(some a6), (0 : Int).toNat, s1.1.toNat⟩ : Sl), 0) h7)) (0, 0) h
theorem enc_Pack_eq (l_0 : Sl) (R : Sl → Heap → Prop) (h : Heap) : fnX Try.prog Fns.fns Try.f58 (.s .n (.s .n (.s (.s .n (.b (.l [(3, .int .i64), (12, .int .i64)] (.s .n (.s (.s .n .n) (.s (.b (.s .n .n)) .n)))))) (.s .n (.s (.s .n (.b (.l [(6, .sl), (26, .int .i64)] (.s .n (.s (.s .n .n) (.s (.b (.s .n (.s .n (.s .n .n)))) .n)))))) (.s .n .n)))))) [.sc (.sl)] [.slice l_0.a l_0.len l_0.cap] h R = enc_Pack l_0 R h := by kernel_rfl
theorem enc_Pack_call (l_0 : Sl) {R : Sl → Heap → Prop} {h : Heap} (hx : enc_Pack l_0 R h) : CallT Try.prog 58 [.slice l_0.a l_0.len l_0.cap] h [.sc (.sl)] R :=
  call_of_fnX fnsOk mixed Try.func58 (by kernel_rfl) (by rw [enc_Pack_eq]; exact hx)

/-- stowage/wal.sectors (59) -/
def wal_sectors (payload_0 : Int) (R : Int → Heap → Prop) (h : Heap) : Prop :=
  R (w64 ((w64 ((w64 ((w64 (24 + payload_0)) - 1)).tdiv 256)) + 1)) h
theorem wal_sectors_eq (payload_0 : Int) (R : Int → Heap → Prop) (h : Heap) : fnX Try.prog Fns.fns Try.f59 (.s .n (.s .n .n)) [.sc (.int .i64)] [.int .i64 payload_0] h R = wal_sectors payload_0 R h := by kernel_rfl
theorem wal_sectors_call (payload_0 : Int) {R : Int → Heap → Prop} {h : Heap} (hx : wal_sectors payload_0 R h) : CallT Try.prog 59 [.int .i64 payload_0] h [.sc (.int .i64)] R :=
  call_of_fnX fnsOk mixed Try.func59 (by kernel_rfl) (by rw [wal_sectors_eq]; exact hx)

/-- (*stowage/wal.Log).write (60) -/
def wal_Log_write (x_0 : Option Addr) (x_1 : Sl) (R : Int → Heap → Prop) (h : Heap) : Prop :=
  LoopT (σ := Int) (fun X2 s1 h3 => -- s1: t6
  cnd (decide (s1 < (w64 ((x_1.len : Int).tdiv 256)))) (
  nn x_0 fun a4 =>
  ldP a4 h3 fun p5 =>
  nn x_0 fun a6 =>
  ldI .i64 (a6.add 1) h3 fun n7 =>
  nn x_0 fun a8 =>
  ldI .i64 (a8.add 5) h3 fun n9 =>
  lsl 1 x_1.a x_1.cap (w64 (s1 * 256)) (w64 ((w64 (s1 * 256)) + 256)) (x_1.cap : Int) fun o10 l10 c10 =>
  CallT Try.prog disk_Dev_Write_no [.pointer p5, .int .i64 (w64 ((w64 (n7 + n9)) + s1)), .slice o10 l10 c10] h3 [.sc (.int .i64)] fun (r11 : Int) h12 =>
  cnd (r11 != 0) (
  R r11 h12) (
  X2 (w64 (s1 + 1)) h12)) (
  withJ (σ := Unit) (fun s13 h15 => -- s13: 
  nn x_0 fun a16 =>
  ldP a16 h15 fun p17 =>
  CallT Try.prog disk_Dev_Flush_no [.pointer p17] h15 [.sc (.int .i64)] fun (r18 : Int) h19 =>
  cnd (r18 != 0) (
  R r18 h19) (
  nn x_0 fun a20 =>
  ldP a20 h19 fun p21 =>
  nn x_0 fun a22 =>
  ldI .i64 (a22.add 1) h19 fun n23 =>
  nn x_0 fun a24 =>
  ldI .i64 (a24.add 5) h19 fun n25 =>
  lsl 1 x_1.a x_1.cap 0 256 (x_1.cap : Int) fun o26 l26 c26 =>
  CallT Try.prog disk_Dev_Write_no [.pointer p21, .int .i64 (w64 (n23 + n25)), .slice o26 l26 c26] h19 [.sc (.int .i64)] fun (r27 : Int) h28 =>
  cnd (r27 != 0) (
  R r27 h28) (
  nn x_0 fun a29 =>
  ldP a29 h28 fun p30 =>
  CallT Try.prog disk_Dev_Flush_no [.pointer p30] h28 [.sc (.int .i64)] fun (r31 : Int) h32 =>
  R r31 h32))) (fun J14 =>
  nn x_0 fun a33 =>
  ldI .i64 (a33.add 5) h3 fun n34 =>
  nn x_0 fun a35 =>
  ldI .i64 (a35.add 2) h3 fun n36 =>
  cnd (decide ((w64 (n34 + (w64 ((x_1.len : Int).tdiv 256)))) < n36)) (
  nn x_0 fun a37 =>
  ldP a37 h3 fun p38 =>
  nn x_0 fun a39 =>
  ldI .i64 (a39.add 1) h3 fun n40 =>
  nn x_0 fun a41 =>
  ldI .i64 (a41.add 5) h3 fun n42 =>
  mkSl [.int .u8 0] 5 1 256 256 h3 fun a43 h44 =>
  (ldI .i64 (a41.add 5) h44 fun n45 =>
  (.int .i64 n45 : Value) = .int .i64 n42) ∧
  (ldI .i64 (a39.add 1) h44 fun n46 =>
  (.int .i64 n46 : Value) = .int .i64 n40) ∧
  (ldP a37 h44 fun p47 =>
  (.pointer p47 : Value) = .pointer p38) ∧
  CallT Try.prog disk_Dev_Write_no [.pointer p38, .int .i64 (w64 ((w64 (n40 + n42)) + (w64 ((x_1.len : Int).tdiv 256)))), .slice (some a43) ((256 : Int).toNat) ((256 : Int).toNat)] h44 [.sc (.int .i64)] fun (r48 : Int) h49 =>
  cnd (r48 != 0) (
  R r48 h49) (
  J14 () h49)) (
  J14 () h3)))) 1 h
theorem wal_Log_write_eq (x_0 : Option Addr) (x_1 : Sl) (R : Int → Heap → Prop) (h : Heap) : fnX Try.prog Fns.fns Try.f60 (.s .n (.s .n (.s (.s .n (.b (.l [(6, .int .i64)] (.s (.s .n (.s .n .n)) (.s (.b (.s .n (.s .n (.s (.s .n .n) .n)))) .n))))) (.j [] (.s .n (.s (.s .n (.s .n (.s (.s .n .n) .n))) .n)) (.s (.s .n (.s .n (.s (.s .n .n) .n))) (.s (.s .n (.s .n (.s (.s .n .n) .n))) (.s .n .n))))))) [.sc (.int .i64)] [.pointer x_0, .slice x_1.a x_1.len x_1.cap] h R = wal_Log_write x_0 x_1 R h := by kernel_rfl
theorem wal_Log_write_call (x_0 : Option Addr) (x_1 : Sl) {R : Int → Heap → Prop} {h : Heap} (hx : wal_Log_write x_0 x_1 R h) : CallT Try.prog 60 [.pointer x_0, .slice x_1.a x_1.len x_1.cap] h [.sc (.int .i64)] R :=
  call_of_fnX fnsOk mixed Try.func60 (by kernel_rfl) (by rw [wal_Log_write_eq]; exact hx)

/-- stowage/wal.frame (61) -/
def wal_frame (epoch_0 : Int) (number_1 : Int) (payload_2 : Sl) (R : Sl → Heap → Prop) (h : Heap) : Prop :=
  CallT Try.prog enc_Put64_no [.int .u64 epoch_0] h [.sc (.sl)] fun (r1 : Sl) h2 =>
  CallT Try.prog enc_Put64_no [.int .u64 number_1] h2 [.sc (.sl)] fun (r3 : Sl) h4 =>
  rdCells r3.a (r3.len * 1) h4 fun cs8 =>
  app [.int .u8 0] 5 1 1 r1.a r1.len r1.cap cs8 r3.len h4 fun o5 c6 h7 =>
  rdCells payload_2.a (payload_2.len * 1) h7 fun cs12 =>
  app [.int .u8 0] 5 1 1 o5 (r1.len + r3.len) c6 cs12 payload_2.len h7 fun o9 c10 h11 =>
  CallT Try.prog wal_four_no [.int .i64 (payload_2.len : Int)] h11 [.sc (.sl)] fun (r13 : Sl) h14 =>
  CallT Try.prog hash_CRC_no [.slice o9 ((r1.len + r3.len) + payload_2.len) c10] h14 [.sc (.int .u32)] fun (r15 : Int) h16 =>
  CallT Try.prog wal_four_no [.int .i64 (w64 (r15))] h16 [.sc (.sl)] fun (r17 : Sl) h18 =>
  rdCells r17.a (r17.len * 1) h18 fun cs22 =>
  app [.int .u8 0] 5 1 1 r13.a r13.len r13.cap cs22 r17.len h18 fun o19 c20 h21 =>
  rdCells o9 (((r1.len + r3.len) + payload_2.len) * 1) h21 fun cs26 =>
  app [.int .u8 0] 5 1 1 o19 (r13.len + r17.len) c20 cs26 ((r1.len + r3.len) + payload_2.len) h21 fun o23 c24 h25 =>
  CallT Try.prog wal_sectors_no [.int .i64 (payload_2.len : Int)] h25 [.sc (.int .i64)] fun (r27 : Int) h28 =>
  appZ [.int .u8 0] 5 1 1 o23 ((r13.len + r17.len) + ((r1.len + r3.len) + payload_2.len)) c24 (w64 ((w64 (r27 * 256)) - (((r13.len + r17.len) + ((r1.len + r3.len) + payload_2.len)) : Int))) h28 fun o29 c30 h31 =>
  R (⟨o29, (((r13.len + r17.len) + ((r1.len + r3.len) + payload_2.len)) + (w64 ((w64 (r27 * 256)) - (((r13.len + r17.len) + ((r1.len + r3.len) + payload_2.len)) : Int))).toNat), c30⟩ : Sl) h31
theorem wal_frame_eq (epoch_0 : Int) (number_1 : Int) (payload_2 : Sl) (R : Sl → Heap → Prop) (h : Heap) : fnX Try.prog Fns.fns Try.f61 (.s .n (.s .n (.s .n (.s .n .n)))) [.sc (.sl)] [.int .u64 epoch_0, .int .u64 number_1, .slice payload_2.a payload_2.len payload_2.cap] h R = wal_frame epoch_0 number_1 payload_2 R h := by kernel_rfl
theorem wal_frame_call (epoch_0 : Int) (number_1 : Int) (payload_2 : Sl) {R : Sl → Heap → Prop} {h : Heap} (hx : wal_frame epoch_0 number_1 payload_2 R h) : CallT Try.prog 61 [.int .u64 epoch_0, .int .u64 number_1, .slice payload_2.a payload_2.len payload_2.cap] h [.sc (.sl)] R :=
  call_of_fnX fnsOk mixed Try.func61 (by kernel_rfl) (by rw [wal_frame_eq]; exact hx)

/-- (*stowage/disk.Dev).Write (65) -/
def disk_Dev_Write (d_0 : Option Addr) (i_1 : Int) (b_2 : Sl) (R : Int → Heap → Prop) (h : Heap) : Prop :=
  nn d_0 fun a1 =>
  ldI .i64 (a1.add 2) h fun n2 =>
  cnd (n2 == 2) (
  R 50 h) (
  withJ (σ := Unit) (fun s3 h5 => -- s3: 
  CallT Try.prog disk_Dev_burn_no [.pointer d_0] h5 [.sc (.int .i64)] fun (r6 : Int) h7 =>
  cnd (r6 != 0) (
  R r6 h7) (
  nn d_0 fun a8 =>
  ldL (a8.add 1) h7 fun o9 l9 c9 =>
  CallT Try.prog slices_Clone_byte_no [.slice b_2.a b_2.len b_2.cap] h7 [.sc (.sl)] fun (r10 : Sl) h11 =>
  (ldL (a8.add 1) h11 fun o12 l12 c12 =>
  (.slice o12 l12 c12 : Value) = .slice o9 l9 c9) ∧
  newB [.int .i64 i_1, .slice r10.a r10.len r10.cap] 100 h11 fun a13 h14 =>
  (ldL (a8.add 1) h14 fun o15 l15 c15 =>
  (.slice o15 l15 c15 : Value) = .slice o9 l9 c9) ∧
  ldRow (1 * 2) a13 h14 fun cs19 =>
  app [.int .i64 0, .slice none 0 0] 100 2 32 o9 l9 c9 cs19 1 h14 fun o16 c17 h18 =>
  nn d_0 fun a20 =>
  stC (a20.add 1) (.slice o16 (l9 + 1) c17) h18 fun h21 =>
  R 0 h21)) (fun J4 =>
  withJ (σ := Bool) (fun s22 h24 => -- s22: t28
  cnd s22 (
  R 1 h24) (
  J4 () h24)) (fun J23 =>
  cnd (decide (i_1 < 0)) (
  J23 true h) (
  nn d_0 fun a25 =>
  ldL a25 h fun o26 l26 c26 =>
  cnd (decide (i_1 ≥ (l26 : Int))) (
  J23 true h) (
  J23 ((b_2.len : Int) != 256) h)))))
theorem disk_Dev_Write_eq (d_0 : Option Addr) (i_1 : Int) (b_2 : Sl) (R : Int → Heap → Prop) (h : Heap) : fnX Try.prog Fns.fns Try.f65 (.s .n (.s (.s .n (.s (.s .n .n) .n)) (.j [] (.j [(28, .bool)] .n (.s (.s .n .n) .n)) (.s (.s .n (.s .n (.s (.s .n .n) .n))) (.s .n (.s .n .n)))))) [.sc (.int .i64)] [.pointer d_0, .int .i64 i_1, .slice b_2.a b_2.len b_2.cap] h R = disk_Dev_Write d_0 i_1 b_2 R h := by kernel_rfl
theorem disk_Dev_Write_call (d_0 : Option Addr) (i_1 : Int) (b_2 : Sl) {R : Int → Heap → Prop} {h : Heap} (hx : disk_Dev_Write d_0 i_1 b_2 R h) : CallT Try.prog 65 [.pointer d_0, .int .i64 i_1, .slice b_2.a b_2.len b_2.cap] h [.sc (.int .i64)] R :=
  call_of_fnX fnsOk mixed Try.func65 (by kernel_rfl) (by rw [disk_Dev_Write_eq]; exact hx)

/-- (*stowage/disk.Dev).Flush (66) -/
def disk_Dev_Flush (d_0 : Option Addr) (R : Int → Heap → Prop) (h : Heap) : Prop :=
  nn d_0 fun a1 =>
  ldI .i64 (a1.add 2) h fun n2 =>
  cnd (n2 == 2) (
  R 50 h) (
  CallT Try.prog disk_Dev_burn_no [.pointer d_0] h [.sc (.int .i64)] fun (r3 : Int) h4 =>
  cnd (r3 != 0) (
  R r3 h4) (
  nn d_0 fun a5 =>
  ldL (a5.add 1) h4 fun o6 l6 c6 =>
  LoopT (σ := Int) (fun X8 s7 h9 => -- s7: t21
  cnd (decide (s7 < (l6 : Int))) (
  idx o6 l6 s7 fun a10 =>
  ldI .i64 (a10.add (s7.toNat * 2)) h9 fun n11 =>
  ldL ((a10.add (s7.toNat * 2)).add 1) h9 fun o12 l12 c12 =>
  newB [.int .i64 0, .slice none 0 0] 100 h9 fun a13 h14 =>
  stC a13 (.int .i64 n11) h14 fun h15 =>
  stC (a13.add 1) (.slice o12 l12 c12) h15 fun h16 =>
  nn d_0 fun a17 =>
  ldL a17 h16 fun o18 l18 c18 =>
  ldI .i64 a13 h16 fun n19 =>
  ldL (a13.add 1) h16 fun o20 l20 c20 =>
  idx o18 l18 n19 fun a21 =>
  stC (a21.add (n19.toNat * 1)) (.slice o20 l20 c20) h16 fun h22 =>
  X8 (w64 (s7 + 1)) h22) (
  nn d_0 fun a23 =>
  stC (a23.add 1) (.slice none 0 0) h9 fun h24 =>
  R 0 h24)) 0 h4))
theorem disk_Dev_Flush_eq (d_0 : Option Addr) (R : Int → Heap → Prop) (h : Heap) : fnX Try.prog Fns.fns Try.f66 (.s .n (.s (.s .n (.s (.s .n .n) .n)) (.s (.s .n (.s .n (.s (.s .n .n) .n))) (.s (.s .n (.b (.l [(21, .int .i64)] (.s .n (.s (.s .n .n) (.s (.b (.s .n .n)) .n)))))) (.s .n (.s .n .n)))))) [.sc (.int .i64)] [.pointer d_0] h R = disk_Dev_Flush d_0 R h := by kernel_rfl
theorem disk_Dev_Flush_call (d_0 : Option Addr) {R : Int → Heap → Prop} {h : Heap} (hx : disk_Dev_Flush d_0 R h) : CallT Try.prog 66 [.pointer d_0] h [.sc (.int .i64)] R :=
  call_of_fnX fnsOk mixed Try.func66 (by kernel_rfl) (by rw [disk_Dev_Flush_eq]; exact hx)

/-- stowage/snap.head (67) -/
def snap_head (epoch_0 : Int) (state_1 : Sl) (R : Sl → Heap → Prop) (h : Heap) : Prop :=
  CallT Try.prog enc_Put64_no [.int .u64 epoch_0] h [.sc (.sl)] fun (r1 : Sl) h2 =>
  CallT Try.prog enc_Put64_no [.int .u64 (IntKind.u64.wrap ((state_1.len : Int)))] h2 [.sc (.sl)] fun (r3 : Sl) h4 =>
  rdCells r3.a (r3.len * 1) h4 fun cs8 =>
  app [.int .u8 0] 5 1 1 r1.a r1.len r1.cap cs8 r3.len h4 fun o5 c6 h7 =>
  lsl 1 o5 c6 0 16 16 fun o9 l9 c9 =>
  rdCells state_1.a (state_1.len * 1) h7 fun cs13 =>
  app [.int .u8 0] 5 1 1 o9 l9 c9 cs13 state_1.len h7 fun o10 c11 h12 =>
  CallT Try.prog hash_CRC_no [.slice o10 (l9 + state_1.len) c11] h12 [.sc (.int .u32)] fun (r14 : Int) h15 =>
  newB [.int .u8 83, .int .u8 78, .int .u8 65, .int .u8 80] 5 h15 fun a16 h17 =>
  markS a16 h17 fun h18 =>
  newB [.int .u8 (IntKind.u8.wrap ((shrI .u32 r14 24))), .int .u8 (IntKind.u8.wrap ((shrI .u32 r14 16))), .int .u8 (IntKind.u8.wrap ((shrI .u32 r14 8))), .int .u8 (IntKind.u8.wrap (r14))] 5 h18 fun a19 h20 =>
  ldRow (4 * 1) a19 h20 fun cs24 =>
  app [.int .u8 0] 5 1 1 (some a16) 4 4 cs24 4 h20 fun o21 c22 h23 =>
  rdCells o5 ((r1.len + r3.len) * 1) h23 fun cs28 =>
  app [.int .u8 0] 5 1 1 o21 (4 + 4) c22 cs28 (r1.len + r3.len) h23 fun o25 c26 h27 =>
  appZ [.int .u8 0] 5 1 1 o25 ((4 + 4) + (r1.len + r3.len)) c26 232 h27 fun o29 c30 h31 =>
  R (⟨o29, (((4 + 4) + (r1.len + r3.len)) + (232 : Int).toNat), c30⟩ : Sl) h31
theorem snap_head_eq (epoch_0 : Int) (state_1 : Sl) (R : Sl → Heap → Prop) (h : Heap) : fnX Try.prog Fns.fns Try.f67 (.s .n (.s .n (.s .n (.s .n (.s .n .n))))) [.sc (.sl)] [.int .u64 epoch_0, .slice state_1.a state_1.len state_1.cap] h R = snap_head epoch_0 state_1 R h := by kernel_rfl
theorem snap_head_call (epoch_0 : Int) (state_1 : Sl) {R : Sl → Heap → Prop} {h : Heap} (hx : snap_head epoch_0 state_1 R h) : CallT Try.prog 67 [.int .u64 epoch_0, .slice state_1.a state_1.len state_1.cap] h [.sc (.sl)] R :=
  call_of_fnX fnsOk mixed Try.func67 (by kernel_rfl) (by rw [snap_head_eq]; exact hx)

/-- stowage/enc.Put64 (68) -/
def enc_Put64 (n_0 : Int) (R : Sl → Heap → Prop) (h : Heap) : Prop :=
  mkSl [.int .u8 0] 5 1 8 8 h fun a1 h2 =>
  LoopT (σ := Int) (fun X4 s3 h5 => -- s3: t8
  cnd (decide (s3 < ((8 : Int).toNat : Int))) (
  geZ (w64 (56 - (w64 (8 * s3)))) (
  idx (some a1) ((8 : Int).toNat) s3 fun a6 =>
  stC (a6.add (s3.toNat * 1)) (.int .u8 (IntKind.u8.wrap ((shrI .u64 n_0 (w64 (56 - (w64 (8 * s3)))))))) h5 fun h7 =>
  X4 (w64 (s3 + 1)) h7)) (
  R (⟨(some a1), (8 : Int).toNat, (8 : Int).toNat⟩ : Sl) h5)) 0 h2
theorem enc_Put64_eq (n_0 : Int) (R : Sl → Heap → Prop) (h : Heap) : fnX Try.prog Fns.fns Try.f68 (.s .n (.s .n (.s (.s .n (.b (.l [(8, .int .i64)] (.s .n (.s (.s .n .n) (.s (.b (.s .n .n)) .n)))))) (.s .n .n)))) [.sc (.sl)] [.int .u64 n_0] h R = enc_Put64 n_0 R h := by kernel_rfl
theorem enc_Put64_call (n_0 : Int) {R : Sl → Heap → Prop} {h : Heap} (hx : enc_Put64 n_0 R h) : CallT Try.prog 68 [.int .u64 n_0] h [.sc (.sl)] R :=
  call_of_fnX fnsOk mixed Try.func68 (by kernel_rfl) (by rw [enc_Put64_eq]; exact hx)

/-- (*stowage/disk.Dev).Read (69) -/
def disk_Dev_Read (d_0 : Option Addr) (i_1 : Int) (R : Sl × Int → Heap → Prop) (h : Heap) : Prop :=
  nn d_0 fun a1 =>
  ldI .i64 (a1.add 2) h fun n2 =>
  cnd (n2 == 2) (
  R ((⟨none, 0, 0⟩ : Sl), 50) h) (
  withJ (σ := Unit) (fun s3 h5 => -- s3: 
  mkSl [.int .u8 0] 5 1 256 256 h5 fun a6 h7 =>
  nn d_0 fun a8 =>
  ldL a8 h7 fun o9 l9 c9 =>
  idx o9 l9 i_1 fun a10 =>
  ldL (a10.add (i_1.toNat * 1)) h7 fun o11 l11 c11 =>
  rdCells o11 ((Nat.min l11 ((256 : Int).toNat)) * 1) h7 fun cs13 =>
  wrRow cs13 (some a6) h7 fun h12 =>
  nn d_0 fun a14 =>
  ldL (a14.add 1) h12 fun o15 l15 c15 =>
  LoopT (σ := Int) (fun X17 s16 h18 => -- s16: t40
  cnd (decide (s16 < (l15 : Int))) (
  withJ (σ := Unit) (fun s19 h21 => -- s19: 
  X17 (w64 (s16 + 1)) h21) (fun J20 =>
  idx o15 l15 s16 fun a22 =>
  ldI .i64 (a22.add (s16.toNat * 2)) h18 fun n23 =>
  ldL ((a22.add (s16.toNat * 2)).add 1) h18 fun o24 l24 c24 =>
  newB [.int .i64 0, .slice none 0 0] 100 h18 fun a25 h26 =>
  stC a25 (.int .i64 n23) h26 fun h27 =>
  stC (a25.add 1) (.slice o24 l24 c24) h27 fun h28 =>
  ldI .i64 a25 h28 fun n29 =>
  cnd (n29 == i_1) (
  ldL (a25.add 1) h28 fun o30 l30 c30 =>
  rdCells o30 ((Nat.min l30 ((256 : Int).toNat)) * 1) h28 fun cs32 =>
  wrRow cs32 (some a6) h28 fun h31 =>
  J20 () h31) (
  J20 () h28))) (
  R ((⟨(some a6), (256 : Int).toNat, (256 : Int).toNat⟩ : Sl), 0) h18)) 0 h12) (fun J4 =>
  withJ (σ := Bool) (fun s33 h35 => -- s33: t24
  cnd s33 (
  R ((⟨none, 0, 0⟩ : Sl), 1) h35) (
  J4 () h35)) (fun J34 =>
  cnd (decide (i_1 < 0)) (
  J34 true h) (
  nn d_0 fun a36 =>
  ldL a36 h fun o37 l37 c37 =>
  J34 (decide (i_1 ≥ (l37 : Int))) h))))
theorem disk_Dev_Read_eq (d_0 : Option Addr) (i_1 : Int) (R : Sl × Int → Heap → Prop) (h : Heap) : fnX Try.prog Fns.fns Try.f69 (.s .n (.s (.s .n (.s (.s .n .n) .n)) (.j [] (.j [(24, .bool)] .n (.s (.s .n .n) .n)) (.s .n (.s .n (.s (.s .n (.b (.l [(40, .int .i64)] (.s .n (.s (.s .n .n) (.j [] (.b (.s .n (.s .n (.s .n .n)))) .n)))))) (.s .n .n))))))) [.sc (.sl), .sc (.int .i64)] [.pointer d_0, .int .i64 i_1] h R = disk_Dev_Read d_0 i_1 R h := by kernel_rfl
theorem disk_Dev_Read_call (d_0 : Option Addr) (i_1 : Int) {R : Sl × Int → Heap → Prop} {h : Heap} (hx : disk_Dev_Read d_0 i_1 R h) : CallT Try.prog 69 [.pointer d_0, .int .i64 i_1] h [.sc (.sl), .sc (.int .i64)] R :=
  call_of_fnX fnsOk mixed Try.func69 (by kernel_rfl) (by rw [disk_Dev_Read_eq]; exact hx)

/-- stowage/wal.number (70) -/
def wal_number (b_0 : Sl) (R : Int → Heap → Prop) (h : Heap) : Prop :=
  idx b_0.a b_0.len 0 fun a1 =>
  ldI .u8 (a1.add ((0 : Int).toNat * 1)) h fun n2 =>
  idx b_0.a b_0.len 1 fun a3 =>
  ldI .u8 (a3.add ((1 : Int).toNat * 1)) h fun n4 =>
  idx b_0.a b_0.len 2 fun a5 =>
  ldI .u8 (a5.add ((2 : Int).toNat * 1)) h fun n6 =>
  idx b_0.a b_0.len 3 fun a7 =>
  ldI .u8 (a7.add ((3 : Int).toNat * 1)) h fun n8 =>
  R (orI .i64 (orI .i64 (orI .i64 (shlI .i64 (w64 (n2)) 24) (shlI .i64 (w64 (n4)) 16)) (shlI .i64 (w64 (n6)) 8)) (w64 (n8))) h
theorem wal_number_eq (b_0 : Sl) (R : Int → Heap → Prop) (h : Heap) : fnX Try.prog Fns.fns Try.f70 (.s .n (.s .n .n)) [.sc (.int .i64)] [.slice b_0.a b_0.len b_0.cap] h R = wal_number b_0 R h := by kernel_rfl
theorem wal_number_call (b_0 : Sl) {R : Int → Heap → Prop} {h : Heap} (hx : wal_number b_0 R h) : CallT Try.prog 70 [.slice b_0.a b_0.len b_0.cap] h [.sc (.int .i64)] R :=
  call_of_fnX fnsOk mixed Try.func70 (by kernel_rfl) (by rw [wal_number_eq]; exact hx)

/-- stowage/wal.four (73) -/
def wal_four (n_0 : Int) (R : Sl → Heap → Prop) (h : Heap) : Prop :=
  newB [.int .u8 (IntKind.u8.wrap ((shrI .i64 n_0 24))), .int .u8 (IntKind.u8.wrap ((shrI .i64 n_0 16))), .int .u8 (IntKind.u8.wrap ((shrI .i64 n_0 8))), .int .u8 (IntKind.u8.wrap (n_0))] 5 h fun a1 h2 =>
  R (⟨(some a1), 4, 4⟩ : Sl) h2
theorem wal_four_eq (n_0 : Int) (R : Sl → Heap → Prop) (h : Heap) : fnX Try.prog Fns.fns Try.f73 (.s .n (.s .n .n)) [.sc (.sl)] [.int .i64 n_0] h R = wal_four n_0 R h := by kernel_rfl
theorem wal_four_call (n_0 : Int) {R : Sl → Heap → Prop} {h : Heap} (hx : wal_four n_0 R h) : CallT Try.prog 73 [.int .i64 n_0] h [.sc (.sl)] R :=
  call_of_fnX fnsOk mixed Try.func73 (by kernel_rfl) (by rw [wal_four_eq]; exact hx)

/-- stowage/hash.CRC (74) -/
def hash_CRC (b_0 : Sl) (R : Int → Heap → Prop) (h : Heap) : Prop :=
  LoopT (σ := Int × Int) (fun X2 s1 h3 => -- s1: u, t8
  cnd (decide (s1.2 < (b_0.len : Int))) (
  idx b_0.a b_0.len s1.2 fun a4 =>
  ldI .u8 (a4.add (s1.2.toNat * 1)) h3 fun n5 =>
  LoopT (σ := Int × Int) (fun X7 s6 h8 => -- s6: u, t16
  cnd (decide (s6.2 < 8)) (
  X7 ((xorI .u32 (shrI .u32 s6.1 1) (andI .u32 2197175160 (IntKind.u32.wrap (0 - (andI .u32 s6.1 1))))), (w64 (s6.2 + 1))) h8) (
  X2 (s6.1, (w64 (s1.2 + 1))) h8)) ((xorI .u32 s1.1 (IntKind.u32.wrap (n5))), 0) h3) (
  R (xorI .u32 IntKind.u32.max s1.1) h3)) (4294967295, 0) h
theorem hash_CRC_eq (b_0 : Sl) (R : Int → Heap → Prop) (h : Heap) : fnX Try.prog Fns.fns Try.f74 (.s .n (.s .n (.s (.s .n (.b (.l [(3, .int .u32), (8, .int .i64)] (.s .n (.s (.s .n .n) (.s (.b (.s .n (.s .n (.s .n (.b (.l [(3, .int .u32), (16, .int .i64)] (.s .n (.s (.s .n .n) (.s (.b .n) .n))))))))) .n)))))) (.s .n .n)))) [.sc (.int .u32)] [.slice b_0.a b_0.len b_0.cap] h R = hash_CRC b_0 R h := by kernel_rfl
theorem hash_CRC_call (b_0 : Sl) {R : Int → Heap → Prop} {h : Heap} (hx : hash_CRC b_0 R h) : CallT Try.prog 74 [.slice b_0.a b_0.len b_0.cap] h [.sc (.int .u32)] R :=
  call_of_fnX fnsOk mixed Try.func74 (by kernel_rfl) (by rw [hash_CRC_eq]; exact hx)

/-- (*stowage/disk.Dev).burn (79) -/
def disk_Dev_burn (d_0 : Option Addr) (R : Int → Heap → Prop) (h : Heap) : Prop :=
  withJ (σ := Unit) (fun s1 h3 => -- s1: 
  R 0 h3) (fun J2 =>
  withJ (σ := Bool) (fun s4 h6 => -- s4: t3
  cnd s4 (
  nn d_0 fun a7 =>
  stC (a7.add 2) (.int .i64 2) h6 fun h8 =>
  R 50 h8) (
  nn d_0 fun a9 =>
  ldI .i64 (a9.add 2) h6 fun n10 =>
  cnd (n10 == 1) (
  nn d_0 fun a11 =>
  ldI .i64 (a11.add 3) h6 fun n12 =>
  nn d_0 fun a13 =>
  stC (a13.add 3) (.int .i64 (w64 (n12 - 1))) h6 fun h14 =>
  J2 () h14) (
  J2 () h6))) (fun J5 =>
  nn d_0 fun a15 =>
  ldI .i64 (a15.add 2) h fun n16 =>
  cnd (n16 == 1) (
  nn d_0 fun a17 =>
  ldI .i64 (a17.add 3) h fun n18 =>
  J5 (n18 == 0) h) (
  J5 false h)))
theorem disk_Dev_burn_eq (d_0 : Option Addr) (R : Int → Heap → Prop) (h : Heap) : fnX Try.prog Fns.fns Try.f79 (.s .n (.j [] (.b (.j [(3, .bool)] .n (.s (.s .n (.s .n .n)) (.s .n (.s .n .n))))) (.s .n .n))) [.sc (.int .i64)] [.pointer d_0] h R = disk_Dev_burn d_0 R h := by kernel_rfl
theorem disk_Dev_burn_call (d_0 : Option Addr) {R : Int → Heap → Prop} {h : Heap} (hx : disk_Dev_burn d_0 R h) : CallT Try.prog 79 [.pointer d_0] h [.sc (.int .i64)] R :=
  call_of_fnX fnsOk mixed Try.func79 (by kernel_rfl) (by rw [disk_Dev_burn_eq]; exact hx)

/-- slices.Clone[[]byte,byte] (80) -/
def slices_Clone_byte (s_0 : Sl) (R : Sl → Heap → Prop) (h : Heap) : Prop :=
  cnd s_0.a.isNone (
  R (⟨none, 0, 0⟩ : Sl) h) (
  newB [] 5 h fun a1 h2 =>
  rdCells s_0.a (s_0.len * 1) h2 fun cs6 =>
  app [.int .u8 0] 5 1 1 (some a1) 0 0 cs6 s_0.len h2 fun o3 c4 h5 =>
  R (⟨o3, (0 + s_0.len), c4⟩ : Sl) h5)
theorem slices_Clone_byte_eq (s_0 : Sl) (R : Sl → Heap → Prop) (h : Heap) : fnX Try.prog Fns.fns Try.f80 (.s .n (.s (.s .n (.s (.s .n .n) .n)) (.s .n .n))) [.sc (.sl)] [.slice s_0.a s_0.len s_0.cap] h R = slices_Clone_byte s_0 R h := by kernel_rfl
theorem slices_Clone_byte_call (s_0 : Sl) {R : Sl → Heap → Prop} {h : Heap} (hx : slices_Clone_byte s_0 R h) : CallT Try.prog 80 [.slice s_0.a s_0.len s_0.cap] h [.sc (.sl)] R :=
  call_of_fnX fnsOk mixed Try.func80 (by kernel_rfl) (by rw [slices_Clone_byte_eq]; exact hx)

-- NOT PRINTED 118 wal_Log_Next: 'NoneType' object is not subscriptable
end Go.Proofs.Ytkgocfaajfaidaa
