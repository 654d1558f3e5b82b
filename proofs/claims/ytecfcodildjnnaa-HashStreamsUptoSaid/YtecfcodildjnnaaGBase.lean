/- The numbers of the functions of this translation; written by a program. -/
import Derived.Test.YtecfcodildjnnaaProg
import Derived.Test.YtecfcodildjnnaaXHeap
import Derived.KernelRfl
namespace Go.Proofs.Ytecfcodildjnnaa
open Go D
abbrev gosem_cut_init_no : Nat := 2
abbrev law2_HashSums_no : Nat := 3
abbrev law2_HashBursts_no : Nat := 4
abbrev law2_HashStreams_no : Nat := 5
abbrev law2_HashKeys_no : Nat := 6
abbrev law2_HashMacs_no : Nat := 7
abbrev law1_Same_no : Nat := 8
abbrev hash_MD5_no : Nat := 9
abbrev ref2_MD5_no : Nat := 10
abbrev hash_SHA256_no : Nat := 11
abbrev ref2_SHA256_no : Nat := 12
abbrev hash_CRC_no : Nat := 13
abbrev ref2_CRC_no : Nat := 14
abbrev law2_awake_no : Nat := 15
abbrev hash_New_no : Nat := 16
abbrev hash_Stream_Write_no : Nat := 17
abbrev hash_Stream_Sum_no : Nat := 18
abbrev hash_Stream_Size_no : Nat := 19
abbrev hash_HMAC_no : Nat := 20
abbrev ref2_HMAC_no : Nat := 21
abbrev hash_mdSine_no : Nat := 22
abbrev hash_filled_no : Nat := 23
abbrev hash_mdBlock_no : Nat := 24
abbrev ref2_sines_no : Nat := 25
abbrev ref2_padded_no : Nat := 26
abbrev ref2_left_no : Nat := 27
abbrev hash_shaWords_no : Nat := 28
abbrev hash_shaBlock_no : Nat := 29
abbrev ref2_roots_no : Nat := 30
abbrev ref2_schedule_no : Nat := 31
abbrev enc_Hex_no : Nat := 32
abbrev hash_md_sum_no : Nat := 33
abbrev math_bits_RotateLeft32_no : Nat := 34
abbrev hash_mdTurn_no : Nat := 35
abbrev hash_shaBlock_1_no : Nat := 36
abbrev hash_sha_sum_no : Nat := 53
namespace Fns
def fns : List Nat := [2, 3, 4, 5, 6, 7, 8, 9, 10, 11, 12, 13, 14, 15, 16, 17, 18, 19, 20, 21, 22, 23, 24, 25, 26, 27, 28, 29, 30, 31, 32, 33, 34, 35, 36, 53]
end Fns
theorem fnsOk_nil : FnsOk Try.prog [] := fun f h => by cases h
theorem fnsOk_cons {f : Nat} {F : List Nat} (h : ∃ fn, Try.prog.funcs[f]? = some fn ∧ fn.body.isSome = true ∧ (fn.name == "runtime.NumGoroutine") = false) (hF : FnsOk Try.prog F) : FnsOk Try.prog (f :: F) := fun g hg => by
  rcases List.mem_cons.1 (memN_iff.1 hg) with rfl | hg
  · exact h
  · exact hF g (memN_iff.2 hg)
theorem fn_ok_2 : ∃ fn, Try.prog.funcs[2]? = some fn ∧ fn.body.isSome = true ∧ (fn.name == "runtime.NumGoroutine") = false := ⟨Try.f2, Try.func2, by kernel_rfl, by kernel_rfl⟩
theorem fn_ok_3 : ∃ fn, Try.prog.funcs[3]? = some fn ∧ fn.body.isSome = true ∧ (fn.name == "runtime.NumGoroutine") = false := ⟨Try.f3, Try.func3, by kernel_rfl, by kernel_rfl⟩
theorem fn_ok_4 : ∃ fn, Try.prog.funcs[4]? = some fn ∧ fn.body.isSome = true ∧ (fn.name == "runtime.NumGoroutine") = false := ⟨Try.f4, Try.func4, by kernel_rfl, by kernel_rfl⟩
theorem fn_ok_5 : ∃ fn, Try.prog.funcs[5]? = some fn ∧ fn.body.isSome = true ∧ (fn.name == "runtime.NumGoroutine") = false := ⟨Try.f5, Try.func5, by kernel_rfl, by kernel_rfl⟩
theorem fn_ok_6 : ∃ fn, Try.prog.funcs[6]? = some fn ∧ fn.body.isSome = true ∧ (fn.name == "runtime.NumGoroutine") = false := ⟨Try.f6, Try.func6, by kernel_rfl, by kernel_rfl⟩
theorem fn_ok_7 : ∃ fn, Try.prog.funcs[7]? = some fn ∧ fn.body.isSome = true ∧ (fn.name == "runtime.NumGoroutine") = false := ⟨Try.f7, Try.func7, by kernel_rfl, by kernel_rfl⟩
theorem fn_ok_8 : ∃ fn, Try.prog.funcs[8]? = some fn ∧ fn.body.isSome = true ∧ (fn.name == "runtime.NumGoroutine") = false := ⟨Try.f8, Try.func8, by kernel_rfl, by kernel_rfl⟩
theorem fn_ok_9 : ∃ fn, Try.prog.funcs[9]? = some fn ∧ fn.body.isSome = true ∧ (fn.name == "runtime.NumGoroutine") = false := ⟨Try.f9, Try.func9, by kernel_rfl, by kernel_rfl⟩
theorem fn_ok_10 : ∃ fn, Try.prog.funcs[10]? = some fn ∧ fn.body.isSome = true ∧ (fn.name == "runtime.NumGoroutine") = false := ⟨Try.f10, Try.func10, by kernel_rfl, by kernel_rfl⟩
theorem fn_ok_11 : ∃ fn, Try.prog.funcs[11]? = some fn ∧ fn.body.isSome = true ∧ (fn.name == "runtime.NumGoroutine") = false := ⟨Try.f11, Try.func11, by kernel_rfl, by kernel_rfl⟩
theorem fn_ok_12 : ∃ fn, Try.prog.funcs[12]? = some fn ∧ fn.body.isSome = true ∧ (fn.name == "runtime.NumGoroutine") = false := ⟨Try.f12, Try.func12, by kernel_rfl, by kernel_rfl⟩
theorem fn_ok_13 : ∃ fn, Try.prog.funcs[13]? = some fn ∧ fn.body.isSome = true ∧ (fn.name == "runtime.NumGoroutine") = false := ⟨Try.f13, Try.func13, by kernel_rfl, by kernel_rfl⟩
theorem fn_ok_14 : ∃ fn, Try.prog.funcs[14]? = some fn ∧ fn.body.isSome = true ∧ (fn.name == "runtime.NumGoroutine") = false := ⟨Try.f14, Try.func14, by kernel_rfl, by kernel_rfl⟩
theorem fn_ok_15 : ∃ fn, Try.prog.funcs[15]? = some fn ∧ fn.body.isSome = true ∧ (fn.name == "runtime.NumGoroutine") = false := ⟨Try.f15, Try.func15, by kernel_rfl, by kernel_rfl⟩
theorem fn_ok_16 : ∃ fn, Try.prog.funcs[16]? = some fn ∧ fn.body.isSome = true ∧ (fn.name == "runtime.NumGoroutine") = false := ⟨Try.f16, Try.func16, by kernel_rfl, by kernel_rfl⟩
theorem fn_ok_17 : ∃ fn, Try.prog.funcs[17]? = some fn ∧ fn.body.isSome = true ∧ (fn.name == "runtime.NumGoroutine") = false := ⟨Try.f17, Try.func17, by kernel_rfl, by kernel_rfl⟩
theorem fn_ok_18 : ∃ fn, Try.prog.funcs[18]? = some fn ∧ fn.body.isSome = true ∧ (fn.name == "runtime.NumGoroutine") = false := ⟨Try.f18, Try.func18, by kernel_rfl, by kernel_rfl⟩
theorem fn_ok_19 : ∃ fn, Try.prog.funcs[19]? = some fn ∧ fn.body.isSome = true ∧ (fn.name == "runtime.NumGoroutine") = false := ⟨Try.f19, Try.func19, by kernel_rfl, by kernel_rfl⟩
theorem fn_ok_20 : ∃ fn, Try.prog.funcs[20]? = some fn ∧ fn.body.isSome = true ∧ (fn.name == "runtime.NumGoroutine") = false := ⟨Try.f20, Try.func20, by kernel_rfl, by kernel_rfl⟩
theorem fn_ok_21 : ∃ fn, Try.prog.funcs[21]? = some fn ∧ fn.body.isSome = true ∧ (fn.name == "runtime.NumGoroutine") = false := ⟨Try.f21, Try.func21, by kernel_rfl, by kernel_rfl⟩
theorem fn_ok_22 : ∃ fn, Try.prog.funcs[22]? = some fn ∧ fn.body.isSome = true ∧ (fn.name == "runtime.NumGoroutine") = false := ⟨Try.f22, Try.func22, by kernel_rfl, by kernel_rfl⟩
theorem fn_ok_23 : ∃ fn, Try.prog.funcs[23]? = some fn ∧ fn.body.isSome = true ∧ (fn.name == "runtime.NumGoroutine") = false := ⟨Try.f23, Try.func23, by kernel_rfl, by kernel_rfl⟩
theorem fn_ok_24 : ∃ fn, Try.prog.funcs[24]? = some fn ∧ fn.body.isSome = true ∧ (fn.name == "runtime.NumGoroutine") = false := ⟨Try.f24, Try.func24, by kernel_rfl, by kernel_rfl⟩
theorem fn_ok_25 : ∃ fn, Try.prog.funcs[25]? = some fn ∧ fn.body.isSome = true ∧ (fn.name == "runtime.NumGoroutine") = false := ⟨Try.f25, Try.func25, by kernel_rfl, by kernel_rfl⟩
theorem fn_ok_26 : ∃ fn, Try.prog.funcs[26]? = some fn ∧ fn.body.isSome = true ∧ (fn.name == "runtime.NumGoroutine") = false := ⟨Try.f26, Try.func26, by kernel_rfl, by kernel_rfl⟩
theorem fn_ok_27 : ∃ fn, Try.prog.funcs[27]? = some fn ∧ fn.body.isSome = true ∧ (fn.name == "runtime.NumGoroutine") = false := ⟨Try.f27, Try.func27, by kernel_rfl, by kernel_rfl⟩
theorem fn_ok_28 : ∃ fn, Try.prog.funcs[28]? = some fn ∧ fn.body.isSome = true ∧ (fn.name == "runtime.NumGoroutine") = false := ⟨Try.f28, Try.func28, by kernel_rfl, by kernel_rfl⟩
theorem fn_ok_29 : ∃ fn, Try.prog.funcs[29]? = some fn ∧ fn.body.isSome = true ∧ (fn.name == "runtime.NumGoroutine") = false := ⟨Try.f29, Try.func29, by kernel_rfl, by kernel_rfl⟩
theorem fn_ok_30 : ∃ fn, Try.prog.funcs[30]? = some fn ∧ fn.body.isSome = true ∧ (fn.name == "runtime.NumGoroutine") = false := ⟨Try.f30, Try.func30, by kernel_rfl, by kernel_rfl⟩
theorem fn_ok_31 : ∃ fn, Try.prog.funcs[31]? = some fn ∧ fn.body.isSome = true ∧ (fn.name == "runtime.NumGoroutine") = false := ⟨Try.f31, Try.func31, by kernel_rfl, by kernel_rfl⟩
theorem fn_ok_32 : ∃ fn, Try.prog.funcs[32]? = some fn ∧ fn.body.isSome = true ∧ (fn.name == "runtime.NumGoroutine") = false := ⟨Try.f32, Try.func32, by kernel_rfl, by kernel_rfl⟩
theorem fn_ok_33 : ∃ fn, Try.prog.funcs[33]? = some fn ∧ fn.body.isSome = true ∧ (fn.name == "runtime.NumGoroutine") = false := ⟨Try.f33, Try.func33, by kernel_rfl, by kernel_rfl⟩
theorem fn_ok_34 : ∃ fn, Try.prog.funcs[34]? = some fn ∧ fn.body.isSome = true ∧ (fn.name == "runtime.NumGoroutine") = false := ⟨Try.f34, Try.func34, by kernel_rfl, by kernel_rfl⟩
theorem fn_ok_35 : ∃ fn, Try.prog.funcs[35]? = some fn ∧ fn.body.isSome = true ∧ (fn.name == "runtime.NumGoroutine") = false := ⟨Try.f35, Try.func35, by kernel_rfl, by kernel_rfl⟩
theorem fn_ok_36 : ∃ fn, Try.prog.funcs[36]? = some fn ∧ fn.body.isSome = true ∧ (fn.name == "runtime.NumGoroutine") = false := ⟨Try.f36, Try.func36, by kernel_rfl, by kernel_rfl⟩
theorem fn_ok_53 : ∃ fn, Try.prog.funcs[53]? = some fn ∧ fn.body.isSome = true ∧ (fn.name == "runtime.NumGoroutine") = false := ⟨Try.f53, Try.func53, by kernel_rfl, by kernel_rfl⟩
theorem fnsOk : FnsOk Try.prog Fns.fns := fnsOk_cons fn_ok_2 <| fnsOk_cons fn_ok_3 <| fnsOk_cons fn_ok_4 <| fnsOk_cons fn_ok_5 <| fnsOk_cons fn_ok_6 <| fnsOk_cons fn_ok_7 <| fnsOk_cons fn_ok_8 <| fnsOk_cons fn_ok_9 <| fnsOk_cons fn_ok_10 <| fnsOk_cons fn_ok_11 <| fnsOk_cons fn_ok_12 <| fnsOk_cons fn_ok_13 <| fnsOk_cons fn_ok_14 <| fnsOk_cons fn_ok_15 <| fnsOk_cons fn_ok_16 <| fnsOk_cons fn_ok_17 <| fnsOk_cons fn_ok_18 <| fnsOk_cons fn_ok_19 <| fnsOk_cons fn_ok_20 <| fnsOk_cons fn_ok_21 <| fnsOk_cons fn_ok_22 <| fnsOk_cons fn_ok_23 <| fnsOk_cons fn_ok_24 <| fnsOk_cons fn_ok_25 <| fnsOk_cons fn_ok_26 <| fnsOk_cons fn_ok_27 <| fnsOk_cons fn_ok_28 <| fnsOk_cons fn_ok_29 <| fnsOk_cons fn_ok_30 <| fnsOk_cons fn_ok_31 <| fnsOk_cons fn_ok_32 <| fnsOk_cons fn_ok_33 <| fnsOk_cons fn_ok_34 <| fnsOk_cons fn_ok_35 <| fnsOk_cons fn_ok_36 <| fnsOk_cons fn_ok_53 <| fnsOk_nil
theorem mixed : Try.prog.follows .mixedOrders = true := by kernel_rfl
end Go.Proofs.Ytecfcodildjnnaa
