/- The numbers of the functions of this translation; written by a program. -/
import Derived.Test.YtncffbocmpmejaaDoorProg
import Derived.Test.YtncffbocmpmejaaDoorXHeap
import Derived.KernelRfl
namespace Go.Proofs.YtncffbocmpmejaaDoor
open Go D
abbrev gosem_cut_init_no : Nat := 2
abbrev law19_ChunkDecodes_no : Nat := 3
abbrev law19_ChunkEncodes_no : Nat := 4
abbrev law19_ChunkBack_no : Nat := 5
abbrev law19_ChunkEnds_no : Nat := 6
abbrev law19_ChunkCuts_no : Nat := 7
abbrev law19_ChunkBodies_no : Nat := 8
abbrev chunk_Decode_no : Nat := 9
abbrev ref19_Decode_no : Nat := 10
abbrev law19_To_no : Nat := 11
abbrev chunk_Sign_no : Nat := 12
abbrev ref19_Sign_no : Nat := 13
abbrev law19_awake_no : Nat := 14
abbrev chunk_Encode_no : Nat := 15
abbrev ref19_Encode_no : Nat := 16
abbrev chunk_Body_no : Nat := 17
abbrev ref19_Body_no : Nat := 18
abbrev chunk_piece_no : Nat := 19
abbrev ref19_Reader_size_no : Nat := 20
abbrev ref19_Reader_eat_no : Nat := 21
abbrev ref19_Reader_name_no : Nat := 22
abbrev strings_Join_no : Nat := 23
abbrev enc_Hex_no : Nat := 24
abbrev hash_SHA256_no : Nat := 25
abbrev hash_HMAC_no : Nat := 26
abbrev ref18_Sum_no : Nat := 27
abbrev ref1_Hex_no : Nat := 28
abbrev ref2_HMAC_no : Nat := 29
abbrev chunk_Encode_1_no : Nat := 30
abbrev strings_TrimLeft_no : Nat := 31
abbrev strings_Builder_WriteString_no : Nat := 32
abbrev strings_Builder_Write_no : Nat := 33
abbrev strings_Builder_String_no : Nat := 34
abbrev ref19_hex_no : Nat := 35
abbrev http_All_no : Nat := 36
abbrev enc_Int_no : Nat := 37
abbrev ref16_All_no : Nat := 38
abbrev ref1_Int_no : Nat := 39
abbrev chunk_digits_no : Nat := 40
abbrev strings_IndexByte_no : Nat := 41
abbrev chunk_eat_no : Nat := 42
abbrev ref19_digit_no : Nat := 43
abbrev ref3_Digit_no : Nat := 44
abbrev strings_Builder_Grow_no : Nat := 45
abbrev hash_shaWords_no : Nat := 46
abbrev hash_filled_no : Nat := 47
abbrev hash_shaBlock_no : Nat := 48
abbrev ref2_SHA256_no : Nat := 49
abbrev ref1_digit_no : Nat := 50
abbrev strings_trimLeftByte_no : Nat := 51
abbrev strings_makeASCIISet_no : Nat := 52
abbrev strings_trimLeftASCII_no : Nat := 53
abbrev strings_trimLeftUnicode_no : Nat := 54
abbrev strings_Builder_copyCheck_no : Nat := 55
abbrev internal_stringslite_IndexByte_no : Nat := 56
abbrev strings_CutPrefix_no : Nat := 57
abbrev strings_HasPrefix_no : Nat := 58
abbrev strings_Builder_grow_no : Nat := 59
abbrev hash_shaBlock_1_no : Nat := 60
abbrev math_bits_RotateLeft32_no : Nat := 61
abbrev ref2_roots_no : Nat := 62
abbrev ref2_padded_no : Nat := 63
abbrev ref2_schedule_no : Nat := 64
abbrev ref2_left_no : Nat := 65
abbrev strings_asciiSet_contains_no : Nat := 66
abbrev unicode_utf8_DecodeRuneInString_no : Nat := 67
abbrev strings_ContainsRune_no : Nat := 68
abbrev internal_stringslite_CutPrefix_no : Nat := 71
abbrev internal_stringslite_HasPrefix_no : Nat := 72
abbrev unicode_utf8_decodeRuneInStringSlow_no : Nat := 74
abbrev strings_IndexRune_no : Nat := 75
abbrev unicode_utf8_ValidRune_no : Nat := 76
abbrev internal_bytealg_Cutover_no : Nat := 77
abbrev gosem_cut_vars_no : Nat := 101
namespace Fns
def fns : List Nat := [2, 3, 4, 5, 6, 7, 8, 9, 10, 11, 12, 13, 14, 15, 16, 17, 18, 19, 20, 21, 22, 23, 24, 25, 26, 27, 28, 29, 30, 31, 32, 33, 34, 35, 36, 37, 38, 39, 40, 41, 42, 43, 44, 45, 46, 47, 48, 49, 50, 51, 52, 53, 54, 55, 56, 57, 58, 59, 60, 61, 62, 63, 64, 65, 66, 67, 68, 71, 72, 74, 75, 76, 77, 101]
end Fns
theorem fnsOk_nil : FnsOk Tryd.prog [] := fun f h => by cases h
theorem fnsOk_cons {f : Nat} {F : List Nat} (h : ∃ fn, Tryd.prog.funcs[f]? = some fn ∧ fn.body.isSome = true ∧ (fn.name == "runtime.NumGoroutine") = false) (hF : FnsOk Tryd.prog F) : FnsOk Tryd.prog (f :: F) := fun g hg => by
  rcases List.mem_cons.1 (memN_iff.1 hg) with rfl | hg
  · exact h
  · exact hF g (memN_iff.2 hg)
theorem fn_ok_2 : ∃ fn, Tryd.prog.funcs[2]? = some fn ∧ fn.body.isSome = true ∧ (fn.name == "runtime.NumGoroutine") = false := ⟨Tryd.f2, Tryd.func2, by kernel_rfl, by kernel_rfl⟩
theorem fn_ok_3 : ∃ fn, Tryd.prog.funcs[3]? = some fn ∧ fn.body.isSome = true ∧ (fn.name == "runtime.NumGoroutine") = false := ⟨Tryd.f3, Tryd.func3, by kernel_rfl, by kernel_rfl⟩
theorem fn_ok_4 : ∃ fn, Tryd.prog.funcs[4]? = some fn ∧ fn.body.isSome = true ∧ (fn.name == "runtime.NumGoroutine") = false := ⟨Tryd.f4, Tryd.func4, by kernel_rfl, by kernel_rfl⟩
theorem fn_ok_5 : ∃ fn, Tryd.prog.funcs[5]? = some fn ∧ fn.body.isSome = true ∧ (fn.name == "runtime.NumGoroutine") = false := ⟨Tryd.f5, Tryd.func5, by kernel_rfl, by kernel_rfl⟩
theorem fn_ok_6 : ∃ fn, Tryd.prog.funcs[6]? = some fn ∧ fn.body.isSome = true ∧ (fn.name == "runtime.NumGoroutine") = false := ⟨Tryd.f6, Tryd.func6, by kernel_rfl, by kernel_rfl⟩
theorem fn_ok_7 : ∃ fn, Tryd.prog.funcs[7]? = some fn ∧ fn.body.isSome = true ∧ (fn.name == "runtime.NumGoroutine") = false := ⟨Tryd.f7, Tryd.func7, by kernel_rfl, by kernel_rfl⟩
theorem fn_ok_8 : ∃ fn, Tryd.prog.funcs[8]? = some fn ∧ fn.body.isSome = true ∧ (fn.name == "runtime.NumGoroutine") = false := ⟨Tryd.f8, Tryd.func8, by kernel_rfl, by kernel_rfl⟩
theorem fn_ok_9 : ∃ fn, Tryd.prog.funcs[9]? = some fn ∧ fn.body.isSome = true ∧ (fn.name == "runtime.NumGoroutine") = false := ⟨Tryd.f9, Tryd.func9, by kernel_rfl, by kernel_rfl⟩
theorem fn_ok_10 : ∃ fn, Tryd.prog.funcs[10]? = some fn ∧ fn.body.isSome = true ∧ (fn.name == "runtime.NumGoroutine") = false := ⟨Tryd.f10, Tryd.func10, by kernel_rfl, by kernel_rfl⟩
theorem fn_ok_11 : ∃ fn, Tryd.prog.funcs[11]? = some fn ∧ fn.body.isSome = true ∧ (fn.name == "runtime.NumGoroutine") = false := ⟨Tryd.f11, Tryd.func11, by kernel_rfl, by kernel_rfl⟩
theorem fn_ok_12 : ∃ fn, Tryd.prog.funcs[12]? = some fn ∧ fn.body.isSome = true ∧ (fn.name == "runtime.NumGoroutine") = false := ⟨Tryd.f12, Tryd.func12, by kernel_rfl, by kernel_rfl⟩
theorem fn_ok_13 : ∃ fn, Tryd.prog.funcs[13]? = some fn ∧ fn.body.isSome = true ∧ (fn.name == "runtime.NumGoroutine") = false := ⟨Tryd.f13, Tryd.func13, by kernel_rfl, by kernel_rfl⟩
theorem fn_ok_14 : ∃ fn, Tryd.prog.funcs[14]? = some fn ∧ fn.body.isSome = true ∧ (fn.name == "runtime.NumGoroutine") = false := ⟨Tryd.f14, Tryd.func14, by kernel_rfl, by kernel_rfl⟩
theorem fn_ok_15 : ∃ fn, Tryd.prog.funcs[15]? = some fn ∧ fn.body.isSome = true ∧ (fn.name == "runtime.NumGoroutine") = false := ⟨Tryd.f15, Tryd.func15, by kernel_rfl, by kernel_rfl⟩
theorem fn_ok_16 : ∃ fn, Tryd.prog.funcs[16]? = some fn ∧ fn.body.isSome = true ∧ (fn.name == "runtime.NumGoroutine") = false := ⟨Tryd.f16, Tryd.func16, by kernel_rfl, by kernel_rfl⟩
theorem fn_ok_17 : ∃ fn, Tryd.prog.funcs[17]? = some fn ∧ fn.body.isSome = true ∧ (fn.name == "runtime.NumGoroutine") = false := ⟨Tryd.f17, Tryd.func17, by kernel_rfl, by kernel_rfl⟩
theorem fn_ok_18 : ∃ fn, Tryd.prog.funcs[18]? = some fn ∧ fn.body.isSome = true ∧ (fn.name == "runtime.NumGoroutine") = false := ⟨Tryd.f18, Tryd.func18, by kernel_rfl, by kernel_rfl⟩
theorem fn_ok_19 : ∃ fn, Tryd.prog.funcs[19]? = some fn ∧ fn.body.isSome = true ∧ (fn.name == "runtime.NumGoroutine") = false := ⟨Tryd.f19, Tryd.func19, by kernel_rfl, by kernel_rfl⟩
theorem fn_ok_20 : ∃ fn, Tryd.prog.funcs[20]? = some fn ∧ fn.body.isSome = true ∧ (fn.name == "runtime.NumGoroutine") = false := ⟨Tryd.f20, Tryd.func20, by kernel_rfl, by kernel_rfl⟩
theorem fn_ok_21 : ∃ fn, Tryd.prog.funcs[21]? = some fn ∧ fn.body.isSome = true ∧ (fn.name == "runtime.NumGoroutine") = false := ⟨Tryd.f21, Tryd.func21, by kernel_rfl, by kernel_rfl⟩
theorem fn_ok_22 : ∃ fn, Tryd.prog.funcs[22]? = some fn ∧ fn.body.isSome = true ∧ (fn.name == "runtime.NumGoroutine") = false := ⟨Tryd.f22, Tryd.func22, by kernel_rfl, by kernel_rfl⟩
theorem fn_ok_23 : ∃ fn, Tryd.prog.funcs[23]? = some fn ∧ fn.body.isSome = true ∧ (fn.name == "runtime.NumGoroutine") = false := ⟨Tryd.f23, Tryd.func23, by kernel_rfl, by kernel_rfl⟩
theorem fn_ok_24 : ∃ fn, Tryd.prog.funcs[24]? = some fn ∧ fn.body.isSome = true ∧ (fn.name == "runtime.NumGoroutine") = false := ⟨Tryd.f24, Tryd.func24, by kernel_rfl, by kernel_rfl⟩
theorem fn_ok_25 : ∃ fn, Tryd.prog.funcs[25]? = some fn ∧ fn.body.isSome = true ∧ (fn.name == "runtime.NumGoroutine") = false := ⟨Tryd.f25, Tryd.func25, by kernel_rfl, by kernel_rfl⟩
theorem fn_ok_26 : ∃ fn, Tryd.prog.funcs[26]? = some fn ∧ fn.body.isSome = true ∧ (fn.name == "runtime.NumGoroutine") = false := ⟨Tryd.f26, Tryd.func26, by kernel_rfl, by kernel_rfl⟩
theorem fn_ok_27 : ∃ fn, Tryd.prog.funcs[27]? = some fn ∧ fn.body.isSome = true ∧ (fn.name == "runtime.NumGoroutine") = false := ⟨Tryd.f27, Tryd.func27, by kernel_rfl, by kernel_rfl⟩
theorem fn_ok_28 : ∃ fn, Tryd.prog.funcs[28]? = some fn ∧ fn.body.isSome = true ∧ (fn.name == "runtime.NumGoroutine") = false := ⟨Tryd.f28, Tryd.func28, by kernel_rfl, by kernel_rfl⟩
theorem fn_ok_29 : ∃ fn, Tryd.prog.funcs[29]? = some fn ∧ fn.body.isSome = true ∧ (fn.name == "runtime.NumGoroutine") = false := ⟨Tryd.f29, Tryd.func29, by kernel_rfl, by kernel_rfl⟩
theorem fn_ok_30 : ∃ fn, Tryd.prog.funcs[30]? = some fn ∧ fn.body.isSome = true ∧ (fn.name == "runtime.NumGoroutine") = false := ⟨Tryd.f30, Tryd.func30, by kernel_rfl, by kernel_rfl⟩
theorem fn_ok_31 : ∃ fn, Tryd.prog.funcs[31]? = some fn ∧ fn.body.isSome = true ∧ (fn.name == "runtime.NumGoroutine") = false := ⟨Tryd.f31, Tryd.func31, by kernel_rfl, by kernel_rfl⟩
theorem fn_ok_32 : ∃ fn, Tryd.prog.funcs[32]? = some fn ∧ fn.body.isSome = true ∧ (fn.name == "runtime.NumGoroutine") = false := ⟨Tryd.f32, Tryd.func32, by kernel_rfl, by kernel_rfl⟩
theorem fn_ok_33 : ∃ fn, Tryd.prog.funcs[33]? = some fn ∧ fn.body.isSome = true ∧ (fn.name == "runtime.NumGoroutine") = false := ⟨Tryd.f33, Tryd.func33, by kernel_rfl, by kernel_rfl⟩
theorem fn_ok_34 : ∃ fn, Tryd.prog.funcs[34]? = some fn ∧ fn.body.isSome = true ∧ (fn.name == "runtime.NumGoroutine") = false := ⟨Tryd.f34, Tryd.func34, by kernel_rfl, by kernel_rfl⟩
theorem fn_ok_35 : ∃ fn, Tryd.prog.funcs[35]? = some fn ∧ fn.body.isSome = true ∧ (fn.name == "runtime.NumGoroutine") = false := ⟨Tryd.f35, Tryd.func35, by kernel_rfl, by kernel_rfl⟩
theorem fn_ok_36 : ∃ fn, Tryd.prog.funcs[36]? = some fn ∧ fn.body.isSome = true ∧ (fn.name == "runtime.NumGoroutine") = false := ⟨Tryd.f36, Tryd.func36, by kernel_rfl, by kernel_rfl⟩
theorem fn_ok_37 : ∃ fn, Tryd.prog.funcs[37]? = some fn ∧ fn.body.isSome = true ∧ (fn.name == "runtime.NumGoroutine") = false := ⟨Tryd.f37, Tryd.func37, by kernel_rfl, by kernel_rfl⟩
theorem fn_ok_38 : ∃ fn, Tryd.prog.funcs[38]? = some fn ∧ fn.body.isSome = true ∧ (fn.name == "runtime.NumGoroutine") = false := ⟨Tryd.f38, Tryd.func38, by kernel_rfl, by kernel_rfl⟩
theorem fn_ok_39 : ∃ fn, Tryd.prog.funcs[39]? = some fn ∧ fn.body.isSome = true ∧ (fn.name == "runtime.NumGoroutine") = false := ⟨Tryd.f39, Tryd.func39, by kernel_rfl, by kernel_rfl⟩
theorem fn_ok_40 : ∃ fn, Tryd.prog.funcs[40]? = some fn ∧ fn.body.isSome = true ∧ (fn.name == "runtime.NumGoroutine") = false := ⟨Tryd.f40, Tryd.func40, by kernel_rfl, by kernel_rfl⟩
theorem fn_ok_41 : ∃ fn, Tryd.prog.funcs[41]? = some fn ∧ fn.body.isSome = true ∧ (fn.name == "runtime.NumGoroutine") = false := ⟨Tryd.f41, Tryd.func41, by kernel_rfl, by kernel_rfl⟩
theorem fn_ok_42 : ∃ fn, Tryd.prog.funcs[42]? = some fn ∧ fn.body.isSome = true ∧ (fn.name == "runtime.NumGoroutine") = false := ⟨Tryd.f42, Tryd.func42, by kernel_rfl, by kernel_rfl⟩
theorem fn_ok_43 : ∃ fn, Tryd.prog.funcs[43]? = some fn ∧ fn.body.isSome = true ∧ (fn.name == "runtime.NumGoroutine") = false := ⟨Tryd.f43, Tryd.func43, by kernel_rfl, by kernel_rfl⟩
theorem fn_ok_44 : ∃ fn, Tryd.prog.funcs[44]? = some fn ∧ fn.body.isSome = true ∧ (fn.name == "runtime.NumGoroutine") = false := ⟨Tryd.f44, Tryd.func44, by kernel_rfl, by kernel_rfl⟩
theorem fn_ok_45 : ∃ fn, Tryd.prog.funcs[45]? = some fn ∧ fn.body.isSome = true ∧ (fn.name == "runtime.NumGoroutine") = false := ⟨Tryd.f45, Tryd.func45, by kernel_rfl, by kernel_rfl⟩
theorem fn_ok_46 : ∃ fn, Tryd.prog.funcs[46]? = some fn ∧ fn.body.isSome = true ∧ (fn.name == "runtime.NumGoroutine") = false := ⟨Tryd.f46, Tryd.func46, by kernel_rfl, by kernel_rfl⟩
theorem fn_ok_47 : ∃ fn, Tryd.prog.funcs[47]? = some fn ∧ fn.body.isSome = true ∧ (fn.name == "runtime.NumGoroutine") = false := ⟨Tryd.f47, Tryd.func47, by kernel_rfl, by kernel_rfl⟩
theorem fn_ok_48 : ∃ fn, Tryd.prog.funcs[48]? = some fn ∧ fn.body.isSome = true ∧ (fn.name == "runtime.NumGoroutine") = false := ⟨Tryd.f48, Tryd.func48, by kernel_rfl, by kernel_rfl⟩
theorem fn_ok_49 : ∃ fn, Tryd.prog.funcs[49]? = some fn ∧ fn.body.isSome = true ∧ (fn.name == "runtime.NumGoroutine") = false := ⟨Tryd.f49, Tryd.func49, by kernel_rfl, by kernel_rfl⟩
theorem fn_ok_50 : ∃ fn, Tryd.prog.funcs[50]? = some fn ∧ fn.body.isSome = true ∧ (fn.name == "runtime.NumGoroutine") = false := ⟨Tryd.f50, Tryd.func50, by kernel_rfl, by kernel_rfl⟩
theorem fn_ok_51 : ∃ fn, Tryd.prog.funcs[51]? = some fn ∧ fn.body.isSome = true ∧ (fn.name == "runtime.NumGoroutine") = false := ⟨Tryd.f51, Tryd.func51, by kernel_rfl, by kernel_rfl⟩
theorem fn_ok_52 : ∃ fn, Tryd.prog.funcs[52]? = some fn ∧ fn.body.isSome = true ∧ (fn.name == "runtime.NumGoroutine") = false := ⟨Tryd.f52, Tryd.func52, by kernel_rfl, by kernel_rfl⟩
theorem fn_ok_53 : ∃ fn, Tryd.prog.funcs[53]? = some fn ∧ fn.body.isSome = true ∧ (fn.name == "runtime.NumGoroutine") = false := ⟨Tryd.f53, Tryd.func53, by kernel_rfl, by kernel_rfl⟩
theorem fn_ok_54 : ∃ fn, Tryd.prog.funcs[54]? = some fn ∧ fn.body.isSome = true ∧ (fn.name == "runtime.NumGoroutine") = false := ⟨Tryd.f54, Tryd.func54, by kernel_rfl, by kernel_rfl⟩
theorem fn_ok_55 : ∃ fn, Tryd.prog.funcs[55]? = some fn ∧ fn.body.isSome = true ∧ (fn.name == "runtime.NumGoroutine") = false := ⟨Tryd.f55, Tryd.func55, by kernel_rfl, by kernel_rfl⟩
theorem fn_ok_56 : ∃ fn, Tryd.prog.funcs[56]? = some fn ∧ fn.body.isSome = true ∧ (fn.name == "runtime.NumGoroutine") = false := ⟨Tryd.f56, Tryd.func56, by kernel_rfl, by kernel_rfl⟩
theorem fn_ok_57 : ∃ fn, Tryd.prog.funcs[57]? = some fn ∧ fn.body.isSome = true ∧ (fn.name == "runtime.NumGoroutine") = false := ⟨Tryd.f57, Tryd.func57, by kernel_rfl, by kernel_rfl⟩
theorem fn_ok_58 : ∃ fn, Tryd.prog.funcs[58]? = some fn ∧ fn.body.isSome = true ∧ (fn.name == "runtime.NumGoroutine") = false := ⟨Tryd.f58, Tryd.func58, by kernel_rfl, by kernel_rfl⟩
theorem fn_ok_59 : ∃ fn, Tryd.prog.funcs[59]? = some fn ∧ fn.body.isSome = true ∧ (fn.name == "runtime.NumGoroutine") = false := ⟨Tryd.f59, Tryd.func59, by kernel_rfl, by kernel_rfl⟩
theorem fn_ok_60 : ∃ fn, Tryd.prog.funcs[60]? = some fn ∧ fn.body.isSome = true ∧ (fn.name == "runtime.NumGoroutine") = false := ⟨Tryd.f60, Tryd.func60, by kernel_rfl, by kernel_rfl⟩
theorem fn_ok_61 : ∃ fn, Tryd.prog.funcs[61]? = some fn ∧ fn.body.isSome = true ∧ (fn.name == "runtime.NumGoroutine") = false := ⟨Tryd.f61, Tryd.func61, by kernel_rfl, by kernel_rfl⟩
theorem fn_ok_62 : ∃ fn, Tryd.prog.funcs[62]? = some fn ∧ fn.body.isSome = true ∧ (fn.name == "runtime.NumGoroutine") = false := ⟨Tryd.f62, Tryd.func62, by kernel_rfl, by kernel_rfl⟩
theorem fn_ok_63 : ∃ fn, Tryd.prog.funcs[63]? = some fn ∧ fn.body.isSome = true ∧ (fn.name == "runtime.NumGoroutine") = false := ⟨Tryd.f63, Tryd.func63, by kernel_rfl, by kernel_rfl⟩
theorem fn_ok_64 : ∃ fn, Tryd.prog.funcs[64]? = some fn ∧ fn.body.isSome = true ∧ (fn.name == "runtime.NumGoroutine") = false := ⟨Tryd.f64, Tryd.func64, by kernel_rfl, by kernel_rfl⟩
theorem fn_ok_65 : ∃ fn, Tryd.prog.funcs[65]? = some fn ∧ fn.body.isSome = true ∧ (fn.name == "runtime.NumGoroutine") = false := ⟨Tryd.f65, Tryd.func65, by kernel_rfl, by kernel_rfl⟩
theorem fn_ok_66 : ∃ fn, Tryd.prog.funcs[66]? = some fn ∧ fn.body.isSome = true ∧ (fn.name == "runtime.NumGoroutine") = false := ⟨Tryd.f66, Tryd.func66, by kernel_rfl, by kernel_rfl⟩
theorem fn_ok_67 : ∃ fn, Tryd.prog.funcs[67]? = some fn ∧ fn.body.isSome = true ∧ (fn.name == "runtime.NumGoroutine") = false := ⟨Tryd.f67, Tryd.func67, by kernel_rfl, by kernel_rfl⟩
theorem fn_ok_68 : ∃ fn, Tryd.prog.funcs[68]? = some fn ∧ fn.body.isSome = true ∧ (fn.name == "runtime.NumGoroutine") = false := ⟨Tryd.f68, Tryd.func68, by kernel_rfl, by kernel_rfl⟩
theorem fn_ok_71 : ∃ fn, Tryd.prog.funcs[71]? = some fn ∧ fn.body.isSome = true ∧ (fn.name == "runtime.NumGoroutine") = false := ⟨Tryd.f71, Tryd.func71, by kernel_rfl, by kernel_rfl⟩
theorem fn_ok_72 : ∃ fn, Tryd.prog.funcs[72]? = some fn ∧ fn.body.isSome = true ∧ (fn.name == "runtime.NumGoroutine") = false := ⟨Tryd.f72, Tryd.func72, by kernel_rfl, by kernel_rfl⟩
theorem fn_ok_74 : ∃ fn, Tryd.prog.funcs[74]? = some fn ∧ fn.body.isSome = true ∧ (fn.name == "runtime.NumGoroutine") = false := ⟨Tryd.f74, Tryd.func74, by kernel_rfl, by kernel_rfl⟩
theorem fn_ok_75 : ∃ fn, Tryd.prog.funcs[75]? = some fn ∧ fn.body.isSome = true ∧ (fn.name == "runtime.NumGoroutine") = false := ⟨Tryd.f75, Tryd.func75, by kernel_rfl, by kernel_rfl⟩
theorem fn_ok_76 : ∃ fn, Tryd.prog.funcs[76]? = some fn ∧ fn.body.isSome = true ∧ (fn.name == "runtime.NumGoroutine") = false := ⟨Tryd.f76, Tryd.func76, by kernel_rfl, by kernel_rfl⟩
theorem fn_ok_77 : ∃ fn, Tryd.prog.funcs[77]? = some fn ∧ fn.body.isSome = true ∧ (fn.name == "runtime.NumGoroutine") = false := ⟨Tryd.f77, Tryd.func77, by kernel_rfl, by kernel_rfl⟩
theorem fn_ok_101 : ∃ fn, Tryd.prog.funcs[101]? = some fn ∧ fn.body.isSome = true ∧ (fn.name == "runtime.NumGoroutine") = false := ⟨Tryd.f101, Tryd.func101, by kernel_rfl, by kernel_rfl⟩
theorem fnsOk : FnsOk Tryd.prog Fns.fns := fnsOk_cons fn_ok_2 <| fnsOk_cons fn_ok_3 <| fnsOk_cons fn_ok_4 <| fnsOk_cons fn_ok_5 <| fnsOk_cons fn_ok_6 <| fnsOk_cons fn_ok_7 <| fnsOk_cons fn_ok_8 <| fnsOk_cons fn_ok_9 <| fnsOk_cons fn_ok_10 <| fnsOk_cons fn_ok_11 <| fnsOk_cons fn_ok_12 <| fnsOk_cons fn_ok_13 <| fnsOk_cons fn_ok_14 <| fnsOk_cons fn_ok_15 <| fnsOk_cons fn_ok_16 <| fnsOk_cons fn_ok_17 <| fnsOk_cons fn_ok_18 <| fnsOk_cons fn_ok_19 <| fnsOk_cons fn_ok_20 <| fnsOk_cons fn_ok_21 <| fnsOk_cons fn_ok_22 <| fnsOk_cons fn_ok_23 <| fnsOk_cons fn_ok_24 <| fnsOk_cons fn_ok_25 <| fnsOk_cons fn_ok_26 <| fnsOk_cons fn_ok_27 <| fnsOk_cons fn_ok_28 <| fnsOk_cons fn_ok_29 <| fnsOk_cons fn_ok_30 <| fnsOk_cons fn_ok_31 <| fnsOk_cons fn_ok_32 <| fnsOk_cons fn_ok_33 <| fnsOk_cons fn_ok_34 <| fnsOk_cons fn_ok_35 <| fnsOk_cons fn_ok_36 <| fnsOk_cons fn_ok_37 <| fnsOk_cons fn_ok_38 <| fnsOk_cons fn_ok_39 <| fnsOk_cons fn_ok_40 <| fnsOk_cons fn_ok_41 <| fnsOk_cons fn_ok_42 <| fnsOk_cons fn_ok_43 <| fnsOk_cons fn_ok_44 <| fnsOk_cons fn_ok_45 <| fnsOk_cons fn_ok_46 <| fnsOk_cons fn_ok_47 <| fnsOk_cons fn_ok_48 <| fnsOk_cons fn_ok_49 <| fnsOk_cons fn_ok_50 <| fnsOk_cons fn_ok_51 <| fnsOk_cons fn_ok_52 <| fnsOk_cons fn_ok_53 <| fnsOk_cons fn_ok_54 <| fnsOk_cons fn_ok_55 <| fnsOk_cons fn_ok_56 <| fnsOk_cons fn_ok_57 <| fnsOk_cons fn_ok_58 <| fnsOk_cons fn_ok_59 <| fnsOk_cons fn_ok_60 <| fnsOk_cons fn_ok_61 <| fnsOk_cons fn_ok_62 <| fnsOk_cons fn_ok_63 <| fnsOk_cons fn_ok_64 <| fnsOk_cons fn_ok_65 <| fnsOk_cons fn_ok_66 <| fnsOk_cons fn_ok_67 <| fnsOk_cons fn_ok_68 <| fnsOk_cons fn_ok_71 <| fnsOk_cons fn_ok_72 <| fnsOk_cons fn_ok_74 <| fnsOk_cons fn_ok_75 <| fnsOk_cons fn_ok_76 <| fnsOk_cons fn_ok_77 <| fnsOk_cons fn_ok_101 <| fnsOk_nil
theorem mixed : Tryd.prog.follows .mixedOrders = true := by kernel_rfl
end Go.Proofs.YtncffbocmpmejaaDoor
