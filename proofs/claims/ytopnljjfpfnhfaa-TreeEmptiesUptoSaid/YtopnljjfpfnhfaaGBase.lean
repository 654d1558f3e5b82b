/- The numbers of the functions of this translation; written by a program. -/
import Derived.Test.YtopnljjfpfnhfaaProg
import Derived.Test.YtopnljjfpfnhfaaXHeap
import Derived.KernelRfl
namespace Go.Proofs.Ytopnljjfpfnhfaa
open Go D
abbrev gosem_cut_init_no : Nat := 2
abbrev law8_TreeAlike_no : Nat := 3
abbrev law8_TreeRanges_no : Nat := 4
abbrev law8_TreePlays_no : Nat := 5
abbrev law8_TreeShape_no : Nat := 6
abbrev law8_TreeEmpties_no : Nat := 7
abbrev btree_New_no : Nat := 8
abbrev law8_awake_no : Nat := 9
abbrev btree_Tree_Put_no : Nat := 10
abbrev btree_Tree_From_no : Nat := 11
abbrev law8_same_no : Nat := 12
abbrev btree_Tree_Get_no : Nat := 13
abbrev ref9_Get_no : Nat := 14
abbrev btree_Tree_Del_no : Nat := 15
abbrev ref9_With_no : Nat := 16
abbrev law8_from_no : Nat := 17
abbrev law8_shape_no : Nat := 18
abbrev btree_Tree_Len_no : Nat := 19
abbrev btree_Tree_Levels_no : Nat := 20
abbrev btree_put_no : Nat := 21
abbrev btree_all_no : Nat := 22
abbrev btree_inner_at_no : Nat := 23
abbrev slices_BinarySearch_string_no : Nat := 24
abbrev btree_del_no : Nat := 25
abbrev law8_level_no : Nat := 26
abbrev slices_Clip_string_no : Nat := 27
abbrev slices_Clone_string_no : Nat := 28
abbrev slices_Clip_Lstring_no : Nat := 29
abbrev slices_Clip_LLstring_no : Nat := 30
abbrev slices_Insert_string_no : Nat := 31
abbrev slices_Clone_btree_node_no : Nat := 32
abbrev slices_Insert_btree_node_no : Nat := 33
abbrev btree_all_1_no : Nat := 34
abbrev sort_Search_no : Nat := 35
abbrev btree_inner_at_1_no : Nat := 36
abbrev cmp_Less_string_no : Nat := 37
abbrev slices_isNaN_string_no : Nat := 38
abbrev slices_Delete_string_no : Nat := 39
abbrev btree_joined_no : Nat := 40
abbrev slices_Replace_btree_node_no : Nat := 41
abbrev law8_between_no : Nat := 42
abbrev slices_rotateRight_string_no : Nat := 44
abbrev slices_rotateRight_btree_node_no : Nat := 46
abbrev cmp_isNaN_string_no : Nat := 47
abbrev slices_Concat_string_no : Nat := 48
abbrev slices_Concat_btree_node_no : Nat := 49
abbrev slices_startIdx_btree_node_no : Nat := 50
abbrev law8_first_no : Nat := 51
abbrev slices_rotateLeft_string_no : Nat := 52
abbrev slices_rotateLeft_btree_node_no : Nat := 53
abbrev slices_Grow_string_no : Nat := 54
abbrev slices_Grow_btree_node_no : Nat := 55
abbrev slices_Reverse_string_no : Nat := 56
abbrev slices_Reverse_btree_node_no : Nat := 57
abbrev btree_leaf_size_no : Nat := 73
abbrev btree_inner_size_no : Nat := 74
namespace Fns
def fns : List Nat := [2, 3, 4, 5, 6, 7, 8, 9, 10, 11, 12, 13, 14, 15, 16, 17, 18, 19, 20, 21, 22, 23, 24, 25, 26, 27, 28, 29, 30, 31, 32, 33, 34, 35, 36, 37, 38, 39, 40, 41, 42, 44, 46, 47, 48, 49, 50, 51, 52, 53, 54, 55, 56, 57, 73, 74]
end Fns
theorem fnsOk_nil : FnsOk Try.prog [] := fun f h => by cases h
theorem fnsOk_cons {f : Nat} {F : List Nat} (h : ∃ fn, Try.prog.funcs[f]? = some fn ∧ fn.body.isSome = true ∧ (fn.name == "runtime.NumGoroutine") = false) (hF : FnsOk Try.prog F) : FnsOk Try.prog (f :: F) := fun g hg => by
  rcases List.mem_cons.1 (memN_iff.1 hg) with rfl | hg
  · exact h
  · exact hF g (memN_iff.2 hg)
theorem fn_ok_2 : ∃ fn, Try.prog.funcs[2]? = some fn ∧ fn.body.isSome = true ∧ (fn.name == "runtime.NumGoroutine") = false := ⟨Try.f2, Try.func2, by kernel_rfl, by kernel_rfl⟩
theorem fn_ok_3 : ∃ fn, Try.prog.funcs[3]? = some fn ∧ fn.body.isSome = true ∧ (fn.name == "runtime.NumGoroutine") = false := ⟨Try.f3, Try.func3, by kernel_rfl, by kernel_rfl⟩
theorem fn_ok_4 : ∃ fn, Try.prog.funcs[4]? = some fn ∧ fn.body.isSome = true ∧ (fn.name == "runtime.NumGoroutine") = false := ⟨Try.f4, Try.func4, by kernel_rfl, by kernel_rfl⟩
theorem fn_ok_5 : ∃ fn, Try.prog.funcs[5]? = some fn ∧ fn.body.isSome = true ∧ (fn.name == "runtime.NumGoroutine") = false := ⟨Try.f5, Try.func5, by kernel_rfl, by kernel_rfl⟩
theorem fn_ok_6 : ∃ fn, Try.prog.funcs[6]? = some fn ∧ fn.body.isSome = true ∧ (fn.name == "runtime.NumGoroutine") = false := ⟨Try.f6, Try.func6, by kernel_rfl, by kernel_rfl⟩
theorem fn_ok_7 : ∃ fn, Try.prog.funcs[7]? = some fn ∧ fn.body.isSome = true ∧ (fn.name == "runtime.NumGoroutine") = false := ⟨Try.f7, Try.func7, by kernel_rfl, by kernel_rfl⟩
theorem fn_ok_8 : ∃ fn, Try.prog.funcs[8]? = some fn ∧ fn.body.isSome = true ∧ (fn.name == "runtime.NumGoroutine") = false := ⟨Try.f8, Try.func8, by kernel_rfl, by kernel_rfl⟩
theorem fn_ok_9 : ∃ fn, Try.prog.funcs[9]? = some fn ∧ fn.body.isSome = true ∧ (fn.name == "runtime.NumGoroutine") = false := ⟨Try.f9, Try.func9, by kernel_rfl, by kernel_rfl⟩
theorem fn_ok_10 : ∃ fn, Try.prog.funcs[10]? = some fn ∧ fn.body.isSome = true ∧ (fn.name == "runtime.NumGoroutine") = false := ⟨Try.f10, Try.func10, by kernel_rfl, by kernel_rfl⟩
theorem fn_ok_11 : ∃ fn, Try.prog.funcs[11]? = some fn ∧ fn.body.isSome = true ∧ (fn.name == "runtime.NumGoroutine") = false := ⟨Try.f11, Try.func11, by kernel_rfl, by kernel_rfl⟩
theorem fn_ok_12 : ∃ fn, Try.prog.funcs[12]? = some fn ∧ fn.body.isSome = true ∧ (fn.name == "runtime.NumGoroutine") = false := ⟨Try.f12, Try.func12, by kernel_rfl, by kernel_rfl⟩
theorem fn_ok_13 : ∃ fn, Try.prog.funcs[13]? = some fn ∧ fn.body.isSome = true ∧ (fn.name == "runtime.NumGoroutine") = false := ⟨Try.f13, Try.func13, by kernel_rfl, by kernel_rfl⟩
theorem fn_ok_14 : ∃ fn, Try.prog.funcs[14]? = some fn ∧ fn.body.isSome = true ∧ (fn.name == "runtime.NumGoroutine") = false := ⟨Try.f14, Try.func14, by kernel_rfl, by kernel_rfl⟩
theorem fn_ok_15 : ∃ fn, Try.prog.funcs[15]? = some fn ∧ fn.body.isSome = true ∧ (fn.name == "runtime.NumGoroutine") = false := ⟨Try.f15, Try.func15, by kernel_rfl, by kernel_rfl⟩
theorem fn_ok_16 : ∃ fn, Try.prog.funcs[16]? = some fn ∧ fn.body.isSome = true ∧ (fn.name == "runtime.NumGoroutine") = false := ⟨Try.f16, Try.func16, by kernel_rfl, by kernel_rfl⟩
theorem fn_ok_17 : ∃ fn, Try.prog.funcs[17]? = some fn ∧ fn.body.isSome = true ∧ (fn.name == "runtime.NumGoroutine") = false := ⟨Try.f17, Try.func17, by kernel_rfl, by kernel_rfl⟩
theorem fn_ok_18 : ∃ fn, Try.prog.funcs[18]? = some fn ∧ fn.body.isSome = true ∧ (fn.name == "runtime.NumGoroutine") = false := ⟨Try.f18, Try.func18, by kernel_rfl, by kernel_rfl⟩
theorem fn_ok_19 : ∃ fn, Try.prog.funcs[19]? = some fn ∧ fn.body.isSome = true ∧ (fn.name == "runtime.NumGoroutine") = false := ⟨Try.f19, Try.func19, by kernel_rfl, by kernel_rfl⟩
theorem fn_ok_20 : ∃ fn, Try.prog.funcs[20]? = some fn ∧ fn.body.isSome = true ∧ (fn.name == "runtime.NumGoroutine") = false := ⟨Try.f20, Try.func20, by kernel_rfl, by kernel_rfl⟩
theorem fn_ok_21 : ∃ fn, Try.prog.funcs[21]? = some fn ∧ fn.body.isSome = true ∧ (fn.name == "runtime.NumGoroutine") = false := ⟨Try.f21, Try.func21, by kernel_rfl, by kernel_rfl⟩
theorem fn_ok_22 : ∃ fn, Try.prog.funcs[22]? = some fn ∧ fn.body.isSome = true ∧ (fn.name == "runtime.NumGoroutine") = false := ⟨Try.f22, Try.func22, by kernel_rfl, by kernel_rfl⟩
theorem fn_ok_23 : ∃ fn, Try.prog.funcs[23]? = some fn ∧ fn.body.isSome = true ∧ (fn.name == "runtime.NumGoroutine") = false := ⟨Try.f23, Try.func23, by kernel_rfl, by kernel_rfl⟩
theorem fn_ok_24 : ∃ fn, Try.prog.funcs[24]? = some fn ∧ fn.body.isSome = true ∧ (fn.name == "runtime.NumGoroutine") = false := ⟨Try.f24, Try.func24, by kernel_rfl, by kernel_rfl⟩
theorem fn_ok_25 : ∃ fn, Try.prog.funcs[25]? = some fn ∧ fn.body.isSome = true ∧ (fn.name == "runtime.NumGoroutine") = false := ⟨Try.f25, Try.func25, by kernel_rfl, by kernel_rfl⟩
theorem fn_ok_26 : ∃ fn, Try.prog.funcs[26]? = some fn ∧ fn.body.isSome = true ∧ (fn.name == "runtime.NumGoroutine") = false := ⟨Try.f26, Try.func26, by kernel_rfl, by kernel_rfl⟩
theorem fn_ok_27 : ∃ fn, Try.prog.funcs[27]? = some fn ∧ fn.body.isSome = true ∧ (fn.name == "runtime.NumGoroutine") = false := ⟨Try.f27, Try.func27, by kernel_rfl, by kernel_rfl⟩
theorem fn_ok_28 : ∃ fn, Try.prog.funcs[28]? = some fn ∧ fn.body.isSome = true ∧ (fn.name == "runtime.NumGoroutine") = false := ⟨Try.f28, Try.func28, by kernel_rfl, by kernel_rfl⟩
theorem fn_ok_29 : ∃ fn, Try.prog.funcs[29]? = some fn ∧ fn.body.isSome = true ∧ (fn.name == "runtime.NumGoroutine") = false := ⟨Try.f29, Try.func29, by kernel_rfl, by kernel_rfl⟩
theorem fn_ok_30 : ∃ fn, Try.prog.funcs[30]? = some fn ∧ fn.body.isSome = true ∧ (fn.name == "runtime.NumGoroutine") = false := ⟨Try.f30, Try.func30, by kernel_rfl, by kernel_rfl⟩
theorem fn_ok_31 : ∃ fn, Try.prog.funcs[31]? = some fn ∧ fn.body.isSome = true ∧ (fn.name == "runtime.NumGoroutine") = false := ⟨Try.f31, Try.func31, by kernel_rfl, by kernel_rfl⟩
theorem fn_ok_32 : ∃ fn, Try.prog.funcs[32]? = some fn ∧ fn.body.isSome = true ∧ (fn.name == "runtime.NumGoroutine") = false := ⟨Try.f32, Try.func32, by kernel_rfl, by kernel_rfl⟩
theorem fn_ok_33 : ∃ fn, Try.prog.funcs[33]? = some fn ∧ fn.body.isSome = true ∧ (fn.name == "runtime.NumGoroutine") = false := ⟨Try.f33, Try.func33, by kernel_rfl, by kernel_rfl⟩
theorem fn_ok_34 : ∃ fn, Try.prog.funcs[34]? = some fn ∧ fn.body.isSome = true ∧ (fn.name == "runtime.NumGoroutine") = false := ⟨Try.f34, Try.func34, by kernel_rfl, by kernel_rfl⟩
theorem fn_ok_35 : ∃ fn, Try.prog.funcs[35]? = some fn ∧ fn.body.isSome = true ∧ (fn.name == "runtime.NumGoroutine") = false := ⟨Try.f35, Try.func35, by kernel_rfl, by kernel_rfl⟩
theorem fn_ok_36 : ∃ fn, Try.prog.funcs[36]? = some fn ∧ fn.body.isSome = true ∧ (fn.name == "runtime.NumGoroutine") = false := ⟨Try.f36, Try.func36, by kernel_rfl, by kernel_rfl⟩
theorem fn_ok_37 : ∃ fn, Try.prog.funcs[37]? = some fn ∧ fn.body.isSome = true ∧ (fn.name == "runtime.NumGoroutine") = false := ⟨Try.f37, Try.func37, by kernel_rfl, by kernel_rfl⟩
theorem fn_ok_38 : ∃ fn, Try.prog.funcs[38]? = some fn ∧ fn.body.isSome = true ∧ (fn.name == "runtime.NumGoroutine") = false := ⟨Try.f38, Try.func38, by kernel_rfl, by kernel_rfl⟩
theorem fn_ok_39 : ∃ fn, Try.prog.funcs[39]? = some fn ∧ fn.body.isSome = true ∧ (fn.name == "runtime.NumGoroutine") = false := ⟨Try.f39, Try.func39, by kernel_rfl, by kernel_rfl⟩
theorem fn_ok_40 : ∃ fn, Try.prog.funcs[40]? = some fn ∧ fn.body.isSome = true ∧ (fn.name == "runtime.NumGoroutine") = false := ⟨Try.f40, Try.func40, by kernel_rfl, by kernel_rfl⟩
theorem fn_ok_41 : ∃ fn, Try.prog.funcs[41]? = some fn ∧ fn.body.isSome = true ∧ (fn.name == "runtime.NumGoroutine") = false := ⟨Try.f41, Try.func41, by kernel_rfl, by kernel_rfl⟩
theorem fn_ok_42 : ∃ fn, Try.prog.funcs[42]? = some fn ∧ fn.body.isSome = true ∧ (fn.name == "runtime.NumGoroutine") = false := ⟨Try.f42, Try.func42, by kernel_rfl, by kernel_rfl⟩
theorem fn_ok_44 : ∃ fn, Try.prog.funcs[44]? = some fn ∧ fn.body.isSome = true ∧ (fn.name == "runtime.NumGoroutine") = false := ⟨Try.f44, Try.func44, by kernel_rfl, by kernel_rfl⟩
theorem fn_ok_46 : ∃ fn, Try.prog.funcs[46]? = some fn ∧ fn.body.isSome = true ∧ (fn.name == "runtime.NumGoroutine") = false := ⟨Try.f46, Try.func46, by kernel_rfl, by kernel_rfl⟩
theorem fn_ok_47 : ∃ fn, Try.prog.funcs[47]? = some fn ∧ fn.body.isSome = true ∧ (fn.name == "runtime.NumGoroutine") = false := ⟨Try.f47, Try.func47, by kernel_rfl, by kernel_rfl⟩
theorem fn_ok_48 : ∃ fn, Try.prog.funcs[48]? = some fn ∧ fn.body.isSome = true ∧ (fn.name == "runtime.NumGoroutine") = false := ⟨Try.f48, Try.func48, by kernel_rfl, by kernel_rfl⟩
theorem fn_ok_49 : ∃ fn, Try.prog.funcs[49]? = some fn ∧ fn.body.isSome = true ∧ (fn.name == "runtime.NumGoroutine") = false := ⟨Try.f49, Try.func49, by kernel_rfl, by kernel_rfl⟩
theorem fn_ok_50 : ∃ fn, Try.prog.funcs[50]? = some fn ∧ fn.body.isSome = true ∧ (fn.name == "runtime.NumGoroutine") = false := ⟨Try.f50, Try.func50, by kernel_rfl, by kernel_rfl⟩
theorem fn_ok_51 : ∃ fn, Try.prog.funcs[51]? = some fn ∧ fn.body.isSome = true ∧ (fn.name == "runtime.NumGoroutine") = false := ⟨Try.f51, Try.func51, by kernel_rfl, by kernel_rfl⟩
theorem fn_ok_52 : ∃ fn, Try.prog.funcs[52]? = some fn ∧ fn.body.isSome = true ∧ (fn.name == "runtime.NumGoroutine") = false := ⟨Try.f52, Try.func52, by kernel_rfl, by kernel_rfl⟩
theorem fn_ok_53 : ∃ fn, Try.prog.funcs[53]? = some fn ∧ fn.body.isSome = true ∧ (fn.name == "runtime.NumGoroutine") = false := ⟨Try.f53, Try.func53, by kernel_rfl, by kernel_rfl⟩
theorem fn_ok_54 : ∃ fn, Try.prog.funcs[54]? = some fn ∧ fn.body.isSome = true ∧ (fn.name == "runtime.NumGoroutine") = false := ⟨Try.f54, Try.func54, by kernel_rfl, by kernel_rfl⟩
theorem fn_ok_55 : ∃ fn, Try.prog.funcs[55]? = some fn ∧ fn.body.isSome = true ∧ (fn.name == "runtime.NumGoroutine") = false := ⟨Try.f55, Try.func55, by kernel_rfl, by kernel_rfl⟩
theorem fn_ok_56 : ∃ fn, Try.prog.funcs[56]? = some fn ∧ fn.body.isSome = true ∧ (fn.name == "runtime.NumGoroutine") = false := ⟨Try.f56, Try.func56, by kernel_rfl, by kernel_rfl⟩
theorem fn_ok_57 : ∃ fn, Try.prog.funcs[57]? = some fn ∧ fn.body.isSome = true ∧ (fn.name == "runtime.NumGoroutine") = false := ⟨Try.f57, Try.func57, by kernel_rfl, by kernel_rfl⟩
theorem fn_ok_73 : ∃ fn, Try.prog.funcs[73]? = some fn ∧ fn.body.isSome = true ∧ (fn.name == "runtime.NumGoroutine") = false := ⟨Try.f73, Try.func73, by kernel_rfl, by kernel_rfl⟩
theorem fn_ok_74 : ∃ fn, Try.prog.funcs[74]? = some fn ∧ fn.body.isSome = true ∧ (fn.name == "runtime.NumGoroutine") = false := ⟨Try.f74, Try.func74, by kernel_rfl, by kernel_rfl⟩
theorem fnsOk : FnsOk Try.prog Fns.fns := fnsOk_cons fn_ok_2 <| fnsOk_cons fn_ok_3 <| fnsOk_cons fn_ok_4 <| fnsOk_cons fn_ok_5 <| fnsOk_cons fn_ok_6 <| fnsOk_cons fn_ok_7 <| fnsOk_cons fn_ok_8 <| fnsOk_cons fn_ok_9 <| fnsOk_cons fn_ok_10 <| fnsOk_cons fn_ok_11 <| fnsOk_cons fn_ok_12 <| fnsOk_cons fn_ok_13 <| fnsOk_cons fn_ok_14 <| fnsOk_cons fn_ok_15 <| fnsOk_cons fn_ok_16 <| fnsOk_cons fn_ok_17 <| fnsOk_cons fn_ok_18 <| fnsOk_cons fn_ok_19 <| fnsOk_cons fn_ok_20 <| fnsOk_cons fn_ok_21 <| fnsOk_cons fn_ok_22 <| fnsOk_cons fn_ok_23 <| fnsOk_cons fn_ok_24 <| fnsOk_cons fn_ok_25 <| fnsOk_cons fn_ok_26 <| fnsOk_cons fn_ok_27 <| fnsOk_cons fn_ok_28 <| fnsOk_cons fn_ok_29 <| fnsOk_cons fn_ok_30 <| fnsOk_cons fn_ok_31 <| fnsOk_cons fn_ok_32 <| fnsOk_cons fn_ok_33 <| fnsOk_cons fn_ok_34 <| fnsOk_cons fn_ok_35 <| fnsOk_cons fn_ok_36 <| fnsOk_cons fn_ok_37 <| fnsOk_cons fn_ok_38 <| fnsOk_cons fn_ok_39 <| fnsOk_cons fn_ok_40 <| fnsOk_cons fn_ok_41 <| fnsOk_cons fn_ok_42 <| fnsOk_cons fn_ok_44 <| fnsOk_cons fn_ok_46 <| fnsOk_cons fn_ok_47 <| fnsOk_cons fn_ok_48 <| fnsOk_cons fn_ok_49 <| fnsOk_cons fn_ok_50 <| fnsOk_cons fn_ok_51 <| fnsOk_cons fn_ok_52 <| fnsOk_cons fn_ok_53 <| fnsOk_cons fn_ok_54 <| fnsOk_cons fn_ok_55 <| fnsOk_cons fn_ok_56 <| fnsOk_cons fn_ok_57 <| fnsOk_cons fn_ok_73 <| fnsOk_cons fn_ok_74 <| fnsOk_nil
theorem mixed : Try.prog.follows .mixedOrders = true := by kernel_rfl
end Go.Proofs.Ytopnljjfpfnhfaa
