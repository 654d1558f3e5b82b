/- The numbers of the functions of this translation; written by a program. -/
import Derived.Test.YtkgocfaajfaidaaProg
import Derived.Test.YtkgocfaajfaidaaXHeap
import Derived.KernelRfl
namespace Go.Proofs.Ytkgocfaajfaidaa
open Go D
abbrev gosem_cut_init_no : Nat := 2
abbrev law9_KvData_no : Nat := 3
abbrev law9_KvRefuses_no : Nat := 4
abbrev law9_KvSnapshots_no : Nat := 5
abbrev law9_KvMerges_no : Nat := 6
abbrev law9_KvChecks_no : Nat := 7
abbrev law9_KvAgain_no : Nat := 8
abbrev law9_KvLasts_no : Nat := 9
abbrev kv_Data_no : Nat := 10
abbrev ref9_Data_no : Nat := 11
abbrev law9_awake_no : Nat := 12
abbrev disk_New_no : Nat := 13
abbrev kv_Open_no : Nat := 14
abbrev law9_pairs_no : Nat := 15
abbrev kv_Store_Commits_no : Nat := 16
abbrev kv_Store_Commit_no : Nat := 17
abbrev law9_equal_no : Nat := 18
abbrev kv_Store_Tree_no : Nat := 19
abbrev btree_Tree_From_no : Nat := 20
abbrev btree_Tree_Len_no : Nat := 21
abbrev kv_Store_Epoch_no : Nat := 22
abbrev kv_Store_Checkpoint_no : Nat := 23
abbrev kv_Store_Room_no : Nat := 24
abbrev disk_Dev_Crash_no : Nat := 25
abbrev disk_Dev_Pending_no : Nat := 26
abbrev disk_Dev_Fuse_no : Nat := 27
abbrev law9_changes_no : Nat := 28
abbrev ref9_With_no : Nat := 29
abbrev disk_Dev_Size_no : Nat := 30
abbrev btree_New_no : Nat := 31
abbrev snap_Load_no : Nat := 32
abbrev kv_Store_restore_no : Nat := 33
abbrev wal_Open_no : Nat := 34
abbrev kv_change_no : Nat := 35
abbrev kv_apply_no : Nat := 36
abbrev kv_Store_dead_no : Nat := 37
abbrev kv_may_no : Nat := 38
abbrev kv_record_no : Nat := 39
abbrev snap_Fits_no : Nat := 40
abbrev kv_size_no : Nat := 41
abbrev wal_Log_Room_no : Nat := 42
abbrev wal_Need_no : Nat := 43
abbrev kv_Store_told_no : Nat := 44
abbrev wal_Log_Append_no : Nat := 45
abbrev btree_all_no : Nat := 46
abbrev snap_Save_no : Nat := 47
abbrev kv_Store_state_no : Nat := 48
abbrev wal_Begin_no : Nat := 49
abbrev snap_check_no : Nat := 50
abbrev snap_slot_no : Nat := 51
abbrev enc_Unpack_no : Nat := 52
abbrev enc_Get64_no : Nat := 53
abbrev disk_Dev_Dead_no : Nat := 54
abbrev wal_Log_read_no : Nat := 55
abbrev btree_Tree_Del_no : Nat := 56
abbrev btree_Tree_Put_no : Nat := 57
abbrev enc_Pack_no : Nat := 58
abbrev wal_sectors_no : Nat := 59
abbrev wal_Log_write_no : Nat := 60
abbrev wal_frame_no : Nat := 61
abbrev btree_all_1_no : Nat := 62
abbrev slices_BinarySearch_string_no : Nat := 63
abbrev btree_inner_at_no : Nat := 64
abbrev disk_Dev_Write_no : Nat := 65
abbrev disk_Dev_Flush_no : Nat := 66
abbrev snap_head_no : Nat := 67
abbrev enc_Put64_no : Nat := 68
abbrev disk_Dev_Read_no : Nat := 69
abbrev wal_number_no : Nat := 70
abbrev btree_del_no : Nat := 71
abbrev btree_put_no : Nat := 72
abbrev wal_four_no : Nat := 73
abbrev hash_CRC_no : Nat := 74
abbrev cmp_Less_string_no : Nat := 75
abbrev slices_isNaN_string_no : Nat := 76
abbrev sort_Search_no : Nat := 77
abbrev btree_inner_at_1_no : Nat := 78
abbrev disk_Dev_burn_no : Nat := 79
abbrev slices_Clone_byte_no : Nat := 80
abbrev slices_Delete_string_no : Nat := 81
abbrev slices_Clone_string_no : Nat := 82
abbrev slices_Clone_btree_node_no : Nat := 83
abbrev btree_joined_no : Nat := 84
abbrev slices_Replace_btree_node_no : Nat := 85
abbrev slices_Insert_string_no : Nat := 86
abbrev slices_Insert_btree_node_no : Nat := 87
abbrev cmp_isNaN_string_no : Nat := 88
abbrev slices_Concat_string_no : Nat := 89
abbrev slices_Concat_btree_node_no : Nat := 90
abbrev slices_rotateRight_btree_node_no : Nat := 92
abbrev slices_startIdx_btree_node_no : Nat := 93
abbrev slices_rotateRight_string_no : Nat := 95
abbrev slices_Grow_string_no : Nat := 96
abbrev slices_Grow_btree_node_no : Nat := 97
abbrev slices_rotateLeft_btree_node_no : Nat := 98
abbrev slices_rotateLeft_string_no : Nat := 99
abbrev slices_Reverse_btree_node_no : Nat := 100
abbrev slices_Reverse_string_no : Nat := 101
abbrev btree_leaf_size_no : Nat := 119
abbrev btree_inner_size_no : Nat := 120
namespace Fns
def fns : List Nat := [2, 3, 4, 5, 6, 7, 8, 9, 10, 11, 12, 13, 14, 15, 16, 17, 18, 19, 20, 21, 22, 23, 24, 25, 26, 27, 28, 29, 30, 31, 32, 33, 34, 35, 36, 37, 38, 39, 40, 41, 42, 43, 44, 45, 46, 47, 48, 49, 50, 51, 52, 53, 54, 55, 56, 57, 58, 59, 60, 61, 62, 63, 64, 65, 66, 67, 68, 69, 70, 71, 72, 73, 74, 75, 76, 77, 78, 79, 80, 81, 82, 83, 84, 85, 86, 87, 88, 89, 90, 92, 93, 95, 96, 97, 98, 99, 100, 101, 119, 120]
end Fns
theorem fnsOk_nil : FnsOk Try.prog [] := fun f h => by cases h
theorem fnsOk_cons {f : Nat} {F : List Nat} (h : ∃ fn, Try.prog.funcs[f]? = some fn ∧ fn.body.isSome = true ∧ (fn.name == "runtime.NumGoroutine") = false) (hF : FnsOk Try.prog F) : FnsOk Try.prog (f :: F) := fun g hg => by
  rcases List.mem_cons.1 (memN_iff.1 hg) with rfl | hg
  · exact h
  · exact hF g (memN_iff.2 hg)
theorem fn_ok_2 : ∃ fn, Try.prog.funcs[2]? = some fn ∧ fn.body.isSome = true ∧ (fn.name == "runtime.NumGoroutine") = false := ⟨Try.f2, Try.func2, by kernel_rfl, by kernel_rfl⟩
theorem fn_ok_3 : ∃ fn, Try.prog.funcs[3]? = some fn ∧ fn.body.isSome = true ∧ (fn.name == "runtime.NumGoroutine") = false := ⟨Try.f3, Try.func3, by kernel_rfl, by kernel_rfl⟩
theorem fn_ok_4 : ∃ fn, Try.prog.funcs[4]? = some fn ∧ fn.body.isSome = true ∧ (fn.name == "runtime.NumGoroutine") = false := ⟨Try.f4, Try.func4, by kernel_rfl, by kernel_rfl⟩
theorem fn_ok_5 : ∃ fn, Try.prog.funcs[5]? = some fn ∧ fn.body.isSome = true ∧ (fn.name == "runtime.NumGoroutine") = false := ⟨Try.f5, Try.func5, by kernel_rfl, by kernel_rfl⟩
theorem fn_ok_6 : ∃ fn, Try.prog.funcs[6]? = some fn ∧ fn.body.isSome = true ∧ (fn.name == "runtime.NumGoroutine") = false := ⟨Try.f6, Try.func6, by kernel_rfl, by kernel_rfl⟩
theorem fn_ok_7 : ∃ fn, Try.prog.funcs[7]? = some fn ∧ fn.body.isSome = true ∧ (fn.name == "runtime.NumGoroutine") = false := ⟨Try.f7, Try.func7, by kernel_rfl, by kernel_rfl⟩
theorem fn_ok_8 : ∃ fn, Try.prog.funcs[8]? = some fn ∧ fn.body.isSome = true ∧ (fn.name == "runtime.NumGoroutine") = false := ⟨Try.f8, Try.func8, by kernel_rfl, by kernel_rfl⟩
theorem fn_ok_9 : ∃ fn, Try.prog.funcs[9]? = some fn ∧ fn.body.isSome = true ∧ (fn.name == "runtime.NumGoroutine") = false := ⟨Try.f9, Try.func9, by kernel_rfl, by kernel_rfl⟩
theorem fn_ok_10 : ∃ fn, Try.prog.funcs[10]? = some fn ∧ fn.body.isSome = true ∧ (fn.name == "runtime.NumGoroutine") = false := ⟨Try.f10, Try.func10, by kernel_rfl, by kernel_rfl⟩
theorem fn_ok_11 : ∃ fn, Try.prog.funcs[11]? = some fn ∧ fn.body.isSome = true ∧ (fn.name == "runtime.NumGoroutine") = false := ⟨Try.f11, Try.func11, by kernel_rfl, by kernel_rfl⟩
theorem fn_ok_12 : ∃ fn, Try.prog.funcs[12]? = some fn ∧ fn.body.isSome = true ∧ (fn.name == "runtime.NumGoroutine") = false := ⟨Try.f12, Try.func12, by kernel_rfl, by kernel_rfl⟩
theorem fn_ok_13 : ∃ fn, Try.prog.funcs[13]? = some fn ∧ fn.body.isSome = true ∧ (fn.name == "runtime.NumGoroutine") = false := ⟨Try.f13, Try.func13, by kernel_rfl, by kernel_rfl⟩
theorem fn_ok_14 : ∃ fn, Try.prog.funcs[14]? = some fn ∧ fn.body.isSome = true ∧ (fn.name == "runtime.NumGoroutine") = false := ⟨Try.f14, Try.func14, by kernel_rfl, by kernel_rfl⟩
theorem fn_ok_15 : ∃ fn, Try.prog.funcs[15]? = some fn ∧ fn.body.isSome = true ∧ (fn.name == "runtime.NumGoroutine") = false := ⟨Try.f15, Try.func15, by kernel_rfl, by kernel_rfl⟩
theorem fn_ok_16 : ∃ fn, Try.prog.funcs[16]? = some fn ∧ fn.body.isSome = true ∧ (fn.name == "runtime.NumGoroutine") = false := ⟨Try.f16, Try.func16, by kernel_rfl, by kernel_rfl⟩
theorem fn_ok_17 : ∃ fn, Try.prog.funcs[17]? = some fn ∧ fn.body.isSome = true ∧ (fn.name == "runtime.NumGoroutine") = false := ⟨Try.f17, Try.func17, by kernel_rfl, by kernel_rfl⟩
theorem fn_ok_18 : ∃ fn, Try.prog.funcs[18]? = some fn ∧ fn.body.isSome = true ∧ (fn.name == "runtime.NumGoroutine") = false := ⟨Try.f18, Try.func18, by kernel_rfl, by kernel_rfl⟩
theorem fn_ok_19 : ∃ fn, Try.prog.funcs[19]? = some fn ∧ fn.body.isSome = true ∧ (fn.name == "runtime.NumGoroutine") = false := ⟨Try.f19, Try.func19, by kernel_rfl, by kernel_rfl⟩
theorem fn_ok_20 : ∃ fn, Try.prog.funcs[20]? = some fn ∧ fn.body.isSome = true ∧ (fn.name == "runtime.NumGoroutine") = false := ⟨Try.f20, Try.func20, by kernel_rfl, by kernel_rfl⟩
theorem fn_ok_21 : ∃ fn, Try.prog.funcs[21]? = some fn ∧ fn.body.isSome = true ∧ (fn.name == "runtime.NumGoroutine") = false := ⟨Try.f21, Try.func21, by kernel_rfl, by kernel_rfl⟩
theorem fn_ok_22 : ∃ fn, Try.prog.funcs[22]? = some fn ∧ fn.body.isSome = true ∧ (fn.name == "runtime.NumGoroutine") = false := ⟨Try.f22, Try.func22, by kernel_rfl, by kernel_rfl⟩
theorem fn_ok_23 : ∃ fn, Try.prog.funcs[23]? = some fn ∧ fn.body.isSome = true ∧ (fn.name == "runtime.NumGoroutine") = false := ⟨Try.f23, Try.func23, by kernel_rfl, by kernel_rfl⟩
theorem fn_ok_24 : ∃ fn, Try.prog.funcs[24]? = some fn ∧ fn.body.isSome = true ∧ (fn.name == "runtime.NumGoroutine") = false := ⟨Try.f24, Try.func24, by kernel_rfl, by kernel_rfl⟩
theorem fn_ok_25 : ∃ fn, Try.prog.funcs[25]? = some fn ∧ fn.body.isSome = true ∧ (fn.name == "runtime.NumGoroutine") = false := ⟨Try.f25, Try.func25, by kernel_rfl, by kernel_rfl⟩
theorem fn_ok_26 : ∃ fn, Try.prog.funcs[26]? = some fn ∧ fn.body.isSome = true ∧ (fn.name == "runtime.NumGoroutine") = false := ⟨Try.f26, Try.func26, by kernel_rfl, by kernel_rfl⟩
theorem fn_ok_27 : ∃ fn, Try.prog.funcs[27]? = some fn ∧ fn.body.isSome = true ∧ (fn.name == "runtime.NumGoroutine") = false := ⟨Try.f27, Try.func27, by kernel_rfl, by kernel_rfl⟩
theorem fn_ok_28 : ∃ fn, Try.prog.funcs[28]? = some fn ∧ fn.body.isSome = true ∧ (fn.name == "runtime.NumGoroutine") = false := ⟨Try.f28, Try.func28, by kernel_rfl, by kernel_rfl⟩
theorem fn_ok_29 : ∃ fn, Try.prog.funcs[29]? = some fn ∧ fn.body.isSome = true ∧ (fn.name == "runtime.NumGoroutine") = false := ⟨Try.f29, Try.func29, by kernel_rfl, by kernel_rfl⟩
theorem fn_ok_30 : ∃ fn, Try.prog.funcs[30]? = some fn ∧ fn.body.isSome = true ∧ (fn.name == "runtime.NumGoroutine") = false := ⟨Try.f30, Try.func30, by kernel_rfl, by kernel_rfl⟩
theorem fn_ok_31 : ∃ fn, Try.prog.funcs[31]? = some fn ∧ fn.body.isSome = true ∧ (fn.name == "runtime.NumGoroutine") = false := ⟨Try.f31, Try.func31, by kernel_rfl, by kernel_rfl⟩
theorem fn_ok_32 : ∃ fn, Try.prog.funcs[32]? = some fn ∧ fn.body.isSome = true ∧ (fn.name == "runtime.NumGoroutine") = false := ⟨Try.f32, Try.func32, by kernel_rfl, by kernel_rfl⟩
theorem fn_ok_33 : ∃ fn, Try.prog.funcs[33]? = some fn ∧ fn.body.isSome = true ∧ (fn.name == "runtime.NumGoroutine") = false := ⟨Try.f33, Try.func33, by kernel_rfl, by kernel_rfl⟩
theorem fn_ok_34 : ∃ fn, Try.prog.funcs[34]? = some fn ∧ fn.body.isSome = true ∧ (fn.name == "runtime.NumGoroutine") = false := ⟨Try.f34, Try.func34, by kernel_rfl, by kernel_rfl⟩
theorem fn_ok_35 : ∃ fn, Try.prog.funcs[35]? = some fn ∧ fn.body.isSome = true ∧ (fn.name == "runtime.NumGoroutine") = false := ⟨Try.f35, Try.func35, by kernel_rfl, by kernel_rfl⟩
theorem fn_ok_36 : ∃ fn, Try.prog.funcs[36]? = some fn ∧ fn.body.isSome = true ∧ (fn.name == "runtime.NumGoroutine") = false := ⟨Try.f36, Try.func36, by kernel_rfl, by kernel_rfl⟩
theorem fn_ok_37 : ∃ fn, Try.prog.funcs[37]? = some fn ∧ fn.body.isSome = true ∧ (fn.name == "runtime.NumGoroutine") = false := ⟨Try.f37, Try.func37, by kernel_rfl, by kernel_rfl⟩
theorem fn_ok_38 : ∃ fn, Try.prog.funcs[38]? = some fn ∧ fn.body.isSome = true ∧ (fn.name == "runtime.NumGoroutine") = false := ⟨Try.f38, Try.func38, by kernel_rfl, by kernel_rfl⟩
theorem fn_ok_39 : ∃ fn, Try.prog.funcs[39]? = some fn ∧ fn.body.isSome = true ∧ (fn.name == "runtime.NumGoroutine") = false := ⟨Try.f39, Try.func39, by kernel_rfl, by kernel_rfl⟩
theorem fn_ok_40 : ∃ fn, Try.prog.funcs[40]? = some fn ∧ fn.body.isSome = true ∧ (fn.name == "runtime.NumGoroutine") = false := ⟨Try.f40, Try.func40, by kernel_rfl, by kernel_rfl⟩
theorem fn_ok_41 : ∃ fn, Try.prog.funcs[41]? = some fn ∧ fn.body.isSome = true ∧ (fn.name == "runtime.NumGoroutine") = false := ⟨Try.f41, Try.func41, by kernel_rfl, by kernel_rfl⟩
theorem fn_ok_42 : ∃ fn, Try.prog.funcs[42]? = some fn ∧ fn.body.isSome = true ∧ (fn.name == "runtime.NumGoroutine") = false := ⟨Try.f42, Try.func42, by kernel_rfl, by kernel_rfl⟩
theorem fn_ok_43 : ∃ fn, Try.prog.funcs[43]? = some fn ∧ fn.body.isSome = true ∧ (fn.name == "runtime.NumGoroutine") = false := ⟨Try.f43, Try.func43, by kernel_rfl, by kernel_rfl⟩
theorem fn_ok_44 : ∃ fn, Try.prog.funcs[44]? = some fn ∧ fn.body.isSome = true ∧ (fn.name == "runtime.NumGoroutine") = false := ⟨Try.f44, Try.func44, by kernel_rfl, by kernel_rfl⟩
theorem fn_ok_45 : ∃ fn, Try.prog.funcs[45]? = some fn ∧ fn.body.isSome = true ∧ (fn.name == "runtime.NumGoroutine") = false := ⟨Try.f45, Try.func45, by kernel_rfl, by kernel_rfl⟩
theorem fn_ok_46 : ∃ fn, Try.prog.funcs[46]? = some fn ∧ fn.body.isSome = true ∧ (fn.name == "runtime.NumGoroutine") = false := ⟨Try.f46, Try.func46, by kernel_rfl, by kernel_rfl⟩
theorem fn_ok_47 : ∃ fn, Try.prog.funcs[47]? = some fn ∧ fn.body.isSome = true ∧ (fn.name == "runtime.NumGoroutine") = false := ⟨Try.f47, Try.func47, by kernel_rfl, by kernel_rfl⟩
theorem fn_ok_48 : ∃ fn, Try.prog.funcs[48]? = some fn ∧ fn.body.isSome = true ∧ (fn.name == "runtime.NumGoroutine") = false := ⟨Try.f48, Try.func48, by kernel_rfl, by kernel_rfl⟩
theorem fn_ok_49 : ∃ fn, Try.prog.funcs[49]? = some fn ∧ fn.body.isSome = true ∧ (fn.name == "runtime.NumGoroutine") = false := ⟨Try.f49, Try.func49, by kernel_rfl, by kernel_rfl⟩
theorem fn_ok_50 : ∃ fn, Try.prog.funcs[50]? = some fn ∧ fn.body.isSome = true ∧ (fn.name == "runtime.NumGoroutine") = false := ⟨Try.f50, Try.func50, by kernel_rfl, by kernel_rfl⟩
theorem fn_ok_51 : ∃ fn, Try.prog.funcs[51]? = some fn ∧ fn.body.isSome = true ∧ (fn.name == "runtime.NumGoroutine") = false := ⟨Try.f51, Try.func51, by kernel_rfl, by kernel_rfl⟩
theorem fn_ok_52 : ∃ fn, Try.prog.funcs[52]? = some fn ∧ fn.body.isSome = true ∧ (fn.name == "runtime.NumGoroutine") = false := ⟨Try.f52, Try.func52, by kernel_rfl, by kernel_rfl⟩
theorem fn_ok_53 : ∃ fn, Try.prog.funcs[53]? = some fn ∧ fn.body.isSome = true ∧ (fn.name == "runtime.NumGoroutine") = false := ⟨Try.f53, Try.func53, by kernel_rfl, by kernel_rfl⟩
theorem fn_ok_54 : ∃ fn, Try.prog.funcs[54]? = some fn ∧ fn.body.isSome = true ∧ (fn.name == "runtime.NumGoroutine") = false := ⟨Try.f54, Try.func54, by kernel_rfl, by kernel_rfl⟩
theorem fn_ok_55 : ∃ fn, Try.prog.funcs[55]? = some fn ∧ fn.body.isSome = true ∧ (fn.name == "runtime.NumGoroutine") = false := ⟨Try.f55, Try.func55, by kernel_rfl, by kernel_rfl⟩
theorem fn_ok_56 : ∃ fn, Try.prog.funcs[56]? = some fn ∧ fn.body.isSome = true ∧ (fn.name == "runtime.NumGoroutine") = false := ⟨Try.f56, Try.func56, by kernel_rfl, by kernel_rfl⟩
theorem fn_ok_57 : ∃ fn, Try.prog.funcs[57]? = some fn ∧ fn.body.isSome = true ∧ (fn.name == "runtime.NumGoroutine") = false := ⟨Try.f57, Try.func57, by kernel_rfl, by kernel_rfl⟩
theorem fn_ok_58 : ∃ fn, Try.prog.funcs[58]? = some fn ∧ fn.body.isSome = true ∧ (fn.name == "runtime.NumGoroutine") = false := ⟨Try.f58, Try.func58, by kernel_rfl, by kernel_rfl⟩
theorem fn_ok_59 : ∃ fn, Try.prog.funcs[59]? = some fn ∧ fn.body.isSome = true ∧ (fn.name == "runtime.NumGoroutine") = false := ⟨Try.f59, Try.func59, by kernel_rfl, by kernel_rfl⟩
theorem fn_ok_60 : ∃ fn, Try.prog.funcs[60]? = some fn ∧ fn.body.isSome = true ∧ (fn.name == "runtime.NumGoroutine") = false := ⟨Try.f60, Try.func60, by kernel_rfl, by kernel_rfl⟩
theorem fn_ok_61 : ∃ fn, Try.prog.funcs[61]? = some fn ∧ fn.body.isSome = true ∧ (fn.name == "runtime.NumGoroutine") = false := ⟨Try.f61, Try.func61, by kernel_rfl, by kernel_rfl⟩
theorem fn_ok_62 : ∃ fn, Try.prog.funcs[62]? = some fn ∧ fn.body.isSome = true ∧ (fn.name == "runtime.NumGoroutine") = false := ⟨Try.f62, Try.func62, by kernel_rfl, by kernel_rfl⟩
theorem fn_ok_63 : ∃ fn, Try.prog.funcs[63]? = some fn ∧ fn.body.isSome = true ∧ (fn.name == "runtime.NumGoroutine") = false := ⟨Try.f63, Try.func63, by kernel_rfl, by kernel_rfl⟩
theorem fn_ok_64 : ∃ fn, Try.prog.funcs[64]? = some fn ∧ fn.body.isSome = true ∧ (fn.name == "runtime.NumGoroutine") = false := ⟨Try.f64, Try.func64, by kernel_rfl, by kernel_rfl⟩
theorem fn_ok_65 : ∃ fn, Try.prog.funcs[65]? = some fn ∧ fn.body.isSome = true ∧ (fn.name == "runtime.NumGoroutine") = false := ⟨Try.f65, Try.func65, by kernel_rfl, by kernel_rfl⟩
theorem fn_ok_66 : ∃ fn, Try.prog.funcs[66]? = some fn ∧ fn.body.isSome = true ∧ (fn.name == "runtime.NumGoroutine") = false := ⟨Try.f66, Try.func66, by kernel_rfl, by kernel_rfl⟩
theorem fn_ok_67 : ∃ fn, Try.prog.funcs[67]? = some fn ∧ fn.body.isSome = true ∧ (fn.name == "runtime.NumGoroutine") = false := ⟨Try.f67, Try.func67, by kernel_rfl, by kernel_rfl⟩
theorem fn_ok_68 : ∃ fn, Try.prog.funcs[68]? = some fn ∧ fn.body.isSome = true ∧ (fn.name == "runtime.NumGoroutine") = false := ⟨Try.f68, Try.func68, by kernel_rfl, by kernel_rfl⟩
theorem fn_ok_69 : ∃ fn, Try.prog.funcs[69]? = some fn ∧ fn.body.isSome = true ∧ (fn.name == "runtime.NumGoroutine") = false := ⟨Try.f69, Try.func69, by kernel_rfl, by kernel_rfl⟩
theorem fn_ok_70 : ∃ fn, Try.prog.funcs[70]? = some fn ∧ fn.body.isSome = true ∧ (fn.name == "runtime.NumGoroutine") = false := ⟨Try.f70, Try.func70, by kernel_rfl, by kernel_rfl⟩
theorem fn_ok_71 : ∃ fn, Try.prog.funcs[71]? = some fn ∧ fn.body.isSome = true ∧ (fn.name == "runtime.NumGoroutine") = false := ⟨Try.f71, Try.func71, by kernel_rfl, by kernel_rfl⟩
theorem fn_ok_72 : ∃ fn, Try.prog.funcs[72]? = some fn ∧ fn.body.isSome = true ∧ (fn.name == "runtime.NumGoroutine") = false := ⟨Try.f72, Try.func72, by kernel_rfl, by kernel_rfl⟩
theorem fn_ok_73 : ∃ fn, Try.prog.funcs[73]? = some fn ∧ fn.body.isSome = true ∧ (fn.name == "runtime.NumGoroutine") = false := ⟨Try.f73, Try.func73, by kernel_rfl, by kernel_rfl⟩
theorem fn_ok_74 : ∃ fn, Try.prog.funcs[74]? = some fn ∧ fn.body.isSome = true ∧ (fn.name == "runtime.NumGoroutine") = false := ⟨Try.f74, Try.func74, by kernel_rfl, by kernel_rfl⟩
theorem fn_ok_75 : ∃ fn, Try.prog.funcs[75]? = some fn ∧ fn.body.isSome = true ∧ (fn.name == "runtime.NumGoroutine") = false := ⟨Try.f75, Try.func75, by kernel_rfl, by kernel_rfl⟩
theorem fn_ok_76 : ∃ fn, Try.prog.funcs[76]? = some fn ∧ fn.body.isSome = true ∧ (fn.name == "runtime.NumGoroutine") = false := ⟨Try.f76, Try.func76, by kernel_rfl, by kernel_rfl⟩
theorem fn_ok_77 : ∃ fn, Try.prog.funcs[77]? = some fn ∧ fn.body.isSome = true ∧ (fn.name == "runtime.NumGoroutine") = false := ⟨Try.f77, Try.func77, by kernel_rfl, by kernel_rfl⟩
theorem fn_ok_78 : ∃ fn, Try.prog.funcs[78]? = some fn ∧ fn.body.isSome = true ∧ (fn.name == "runtime.NumGoroutine") = false := ⟨Try.f78, Try.func78, by kernel_rfl, by kernel_rfl⟩
theorem fn_ok_79 : ∃ fn, Try.prog.funcs[79]? = some fn ∧ fn.body.isSome = true ∧ (fn.name == "runtime.NumGoroutine") = false := ⟨Try.f79, Try.func79, by kernel_rfl, by kernel_rfl⟩
theorem fn_ok_80 : ∃ fn, Try.prog.funcs[80]? = some fn ∧ fn.body.isSome = true ∧ (fn.name == "runtime.NumGoroutine") = false := ⟨Try.f80, Try.func80, by kernel_rfl, by kernel_rfl⟩
theorem fn_ok_81 : ∃ fn, Try.prog.funcs[81]? = some fn ∧ fn.body.isSome = true ∧ (fn.name == "runtime.NumGoroutine") = false := ⟨Try.f81, Try.func81, by kernel_rfl, by kernel_rfl⟩
theorem fn_ok_82 : ∃ fn, Try.prog.funcs[82]? = some fn ∧ fn.body.isSome = true ∧ (fn.name == "runtime.NumGoroutine") = false := ⟨Try.f82, Try.func82, by kernel_rfl, by kernel_rfl⟩
theorem fn_ok_83 : ∃ fn, Try.prog.funcs[83]? = some fn ∧ fn.body.isSome = true ∧ (fn.name == "runtime.NumGoroutine") = false := ⟨Try.f83, Try.func83, by kernel_rfl, by kernel_rfl⟩
theorem fn_ok_84 : ∃ fn, Try.prog.funcs[84]? = some fn ∧ fn.body.isSome = true ∧ (fn.name == "runtime.NumGoroutine") = false := ⟨Try.f84, Try.func84, by kernel_rfl, by kernel_rfl⟩
theorem fn_ok_85 : ∃ fn, Try.prog.funcs[85]? = some fn ∧ fn.body.isSome = true ∧ (fn.name == "runtime.NumGoroutine") = false := ⟨Try.f85, Try.func85, by kernel_rfl, by kernel_rfl⟩
theorem fn_ok_86 : ∃ fn, Try.prog.funcs[86]? = some fn ∧ fn.body.isSome = true ∧ (fn.name == "runtime.NumGoroutine") = false := ⟨Try.f86, Try.func86, by kernel_rfl, by kernel_rfl⟩
theorem fn_ok_87 : ∃ fn, Try.prog.funcs[87]? = some fn ∧ fn.body.isSome = true ∧ (fn.name == "runtime.NumGoroutine") = false := ⟨Try.f87, Try.func87, by kernel_rfl, by kernel_rfl⟩
theorem fn_ok_88 : ∃ fn, Try.prog.funcs[88]? = some fn ∧ fn.body.isSome = true ∧ (fn.name == "runtime.NumGoroutine") = false := ⟨Try.f88, Try.func88, by kernel_rfl, by kernel_rfl⟩
theorem fn_ok_89 : ∃ fn, Try.prog.funcs[89]? = some fn ∧ fn.body.isSome = true ∧ (fn.name == "runtime.NumGoroutine") = false := ⟨Try.f89, Try.func89, by kernel_rfl, by kernel_rfl⟩
theorem fn_ok_90 : ∃ fn, Try.prog.funcs[90]? = some fn ∧ fn.body.isSome = true ∧ (fn.name == "runtime.NumGoroutine") = false := ⟨Try.f90, Try.func90, by kernel_rfl, by kernel_rfl⟩
theorem fn_ok_92 : ∃ fn, Try.prog.funcs[92]? = some fn ∧ fn.body.isSome = true ∧ (fn.name == "runtime.NumGoroutine") = false := ⟨Try.f92, Try.func92, by kernel_rfl, by kernel_rfl⟩
theorem fn_ok_93 : ∃ fn, Try.prog.funcs[93]? = some fn ∧ fn.body.isSome = true ∧ (fn.name == "runtime.NumGoroutine") = false := ⟨Try.f93, Try.func93, by kernel_rfl, by kernel_rfl⟩
theorem fn_ok_95 : ∃ fn, Try.prog.funcs[95]? = some fn ∧ fn.body.isSome = true ∧ (fn.name == "runtime.NumGoroutine") = false := ⟨Try.f95, Try.func95, by kernel_rfl, by kernel_rfl⟩
theorem fn_ok_96 : ∃ fn, Try.prog.funcs[96]? = some fn ∧ fn.body.isSome = true ∧ (fn.name == "runtime.NumGoroutine") = false := ⟨Try.f96, Try.func96, by kernel_rfl, by kernel_rfl⟩
theorem fn_ok_97 : ∃ fn, Try.prog.funcs[97]? = some fn ∧ fn.body.isSome = true ∧ (fn.name == "runtime.NumGoroutine") = false := ⟨Try.f97, Try.func97, by kernel_rfl, by kernel_rfl⟩
theorem fn_ok_98 : ∃ fn, Try.prog.funcs[98]? = some fn ∧ fn.body.isSome = true ∧ (fn.name == "runtime.NumGoroutine") = false := ⟨Try.f98, Try.func98, by kernel_rfl, by kernel_rfl⟩
theorem fn_ok_99 : ∃ fn, Try.prog.funcs[99]? = some fn ∧ fn.body.isSome = true ∧ (fn.name == "runtime.NumGoroutine") = false := ⟨Try.f99, Try.func99, by kernel_rfl, by kernel_rfl⟩
theorem fn_ok_100 : ∃ fn, Try.prog.funcs[100]? = some fn ∧ fn.body.isSome = true ∧ (fn.name == "runtime.NumGoroutine") = false := ⟨Try.f100, Try.func100, by kernel_rfl, by kernel_rfl⟩
theorem fn_ok_101 : ∃ fn, Try.prog.funcs[101]? = some fn ∧ fn.body.isSome = true ∧ (fn.name == "runtime.NumGoroutine") = false := ⟨Try.f101, Try.func101, by kernel_rfl, by kernel_rfl⟩
theorem fn_ok_119 : ∃ fn, Try.prog.funcs[119]? = some fn ∧ fn.body.isSome = true ∧ (fn.name == "runtime.NumGoroutine") = false := ⟨Try.f119, Try.func119, by kernel_rfl, by kernel_rfl⟩
theorem fn_ok_120 : ∃ fn, Try.prog.funcs[120]? = some fn ∧ fn.body.isSome = true ∧ (fn.name == "runtime.NumGoroutine") = false := ⟨Try.f120, Try.func120, by kernel_rfl, by kernel_rfl⟩
theorem fnsOk : FnsOk Try.prog Fns.fns := fnsOk_cons fn_ok_2 <| fnsOk_cons fn_ok_3 <| fnsOk_cons fn_ok_4 <| fnsOk_cons fn_ok_5 <| fnsOk_cons fn_ok_6 <| fnsOk_cons fn_ok_7 <| fnsOk_cons fn_ok_8 <| fnsOk_cons fn_ok_9 <| fnsOk_cons fn_ok_10 <| fnsOk_cons fn_ok_11 <| fnsOk_cons fn_ok_12 <| fnsOk_cons fn_ok_13 <| fnsOk_cons fn_ok_14 <| fnsOk_cons fn_ok_15 <| fnsOk_cons fn_ok_16 <| fnsOk_cons fn_ok_17 <| fnsOk_cons fn_ok_18 <| fnsOk_cons fn_ok_19 <| fnsOk_cons fn_ok_20 <| fnsOk_cons fn_ok_21 <| fnsOk_cons fn_ok_22 <| fnsOk_cons fn_ok_23 <| fnsOk_cons fn_ok_24 <| fnsOk_cons fn_ok_25 <| fnsOk_cons fn_ok_26 <| fnsOk_cons fn_ok_27 <| fnsOk_cons fn_ok_28 <| fnsOk_cons fn_ok_29 <| fnsOk_cons fn_ok_30 <| fnsOk_cons fn_ok_31 <| fnsOk_cons fn_ok_32 <| fnsOk_cons fn_ok_33 <| fnsOk_cons fn_ok_34 <| fnsOk_cons fn_ok_35 <| fnsOk_cons fn_ok_36 <| fnsOk_cons fn_ok_37 <| fnsOk_cons fn_ok_38 <| fnsOk_cons fn_ok_39 <| fnsOk_cons fn_ok_40 <| fnsOk_cons fn_ok_41 <| fnsOk_cons fn_ok_42 <| fnsOk_cons fn_ok_43 <| fnsOk_cons fn_ok_44 <| fnsOk_cons fn_ok_45 <| fnsOk_cons fn_ok_46 <| fnsOk_cons fn_ok_47 <| fnsOk_cons fn_ok_48 <| fnsOk_cons fn_ok_49 <| fnsOk_cons fn_ok_50 <| fnsOk_cons fn_ok_51 <| fnsOk_cons fn_ok_52 <| fnsOk_cons fn_ok_53 <| fnsOk_cons fn_ok_54 <| fnsOk_cons fn_ok_55 <| fnsOk_cons fn_ok_56 <| fnsOk_cons fn_ok_57 <| fnsOk_cons fn_ok_58 <| fnsOk_cons fn_ok_59 <| fnsOk_cons fn_ok_60 <| fnsOk_cons fn_ok_61 <| fnsOk_cons fn_ok_62 <| fnsOk_cons fn_ok_63 <| fnsOk_cons fn_ok_64 <| fnsOk_cons fn_ok_65 <| fnsOk_cons fn_ok_66 <| fnsOk_cons fn_ok_67 <| fnsOk_cons fn_ok_68 <| fnsOk_cons fn_ok_69 <| fnsOk_cons fn_ok_70 <| fnsOk_cons fn_ok_71 <| fnsOk_cons fn_ok_72 <| fnsOk_cons fn_ok_73 <| fnsOk_cons fn_ok_74 <| fnsOk_cons fn_ok_75 <| fnsOk_cons fn_ok_76 <| fnsOk_cons fn_ok_77 <| fnsOk_cons fn_ok_78 <| fnsOk_cons fn_ok_79 <| fnsOk_cons fn_ok_80 <| fnsOk_cons fn_ok_81 <| fnsOk_cons fn_ok_82 <| fnsOk_cons fn_ok_83 <| fnsOk_cons fn_ok_84 <| fnsOk_cons fn_ok_85 <| fnsOk_cons fn_ok_86 <| fnsOk_cons fn_ok_87 <| fnsOk_cons fn_ok_88 <| fnsOk_cons fn_ok_89 <| fnsOk_cons fn_ok_90 <| fnsOk_cons fn_ok_92 <| fnsOk_cons fn_ok_93 <| fnsOk_cons fn_ok_95 <| fnsOk_cons fn_ok_96 <| fnsOk_cons fn_ok_97 <| fnsOk_cons fn_ok_98 <| fnsOk_cons fn_ok_99 <| fnsOk_cons fn_ok_100 <| fnsOk_cons fn_ok_101 <| fnsOk_cons fn_ok_119 <| fnsOk_cons fn_ok_120 <| fnsOk_nil
theorem mixed : Try.prog.follows .mixedOrders = true := by kernel_rfl
end Go.Proofs.Ytkgocfaajfaidaa
