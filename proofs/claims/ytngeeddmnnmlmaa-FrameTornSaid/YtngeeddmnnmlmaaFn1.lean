/-
  A part of the proof whose end is the text 'YtngeeddmnnmlmaaLaw1': the verified evaluator ('Core') and what it finds of the functions ('Fn').
-/
import Derived.Test.YtngeeddmnnmlmaaCore3
import Derived.Test.YtngeeddmnnmlmaaProg
import Derived.Lib.Builder
import Derived.Lib.UnsafeStr
import Derived.Lib.Walk
import Derived.WalkKit
import Derived.Laws.Externs
import Derived.Shelf.RegionOpenPlain
import Derived.Shelf.Strings.Builder1
import Derived.Shelf.Small.Strs
import Derived.Shelf.Strings.BuilderF
import Derived.Shelf.Strings.BuilderK
import Derived.Shelf.Strings.Search1
set_option linter.all false
set_option linter.unusedVariables false
set_option linter.unusedSimpArgs false
set_option linter.unnecessarySimpa false
section
/-! What is the seat's own: the numbers of types and functions. -/
namespace Go.Rf
open Go.Proofs
noncomputable abbrev pr : Program := Try.prog
def elemS : Nat → TypeId
  | 0 => 5
  | 1 => 58
  | 2 => 52
  | 3 => 50
  | 5 => 9
  | 8 => 3
  | 9 => 33
  | _ => 0
abbrev En : Env := envA elemS
abbrev TVs := TV En.A
abbrev RVs := RV En.A
def fldCell : List (Nat × TypeId) := [(0, 9), (1, 3), (2, 3)]
def tts : TT := [
  (9, .leaf .str),
  (3, .leaf (.int .i64)),
  (5, .leaf (.int .u8)),
  (94, .leaf (.int .u64)),
  (68, .leaf (.int .u64)),
  (24, .leaf (.int .i64)),
  (41, .leaf (.sl 0)),
  (23, .leaf (.sl 1)),
  (38, .leaf (.sl 2)),
  (99, .agg [.self, .sl 0] [(0, 97), (1, 41)]),
  (97, .leaf .ptr),
  (101, .leaf .err),
  (58, .agg [.int .i64, .int .i64, .str] [(0, 3), (1, 3), (2, 9)]),
  (33, .agg cellT fldCell),
  (50, .agg valT [(0, 3), (1, 3), (2, 9)]),
  (52, .agg (cellT ++ valT) [(0, 33), (3, 50)]),
  (35, .agg (cellT ++ cellT) [(0, 33), (3, 33)]),
  (37, .agg ([.int .i64] ++ cellT ++ [.str, .str] ++ cellT ++ cellT) [(0, 3), (1, 33), (4, 9), (5, 9), (6, 35)]),
  (40, .agg [.int .i64, .int .i64, .int .i64, .sl 2] [(0, 3), (1, 3), (2, 24), (3, 38)]),
  (72, .agg [.sl 0, .bool] [(0, 41), (1, 4)]),
  (79, .agg [.sl 0, .bool] [(0, 41), (1, 4)]),
  (85, .agg [.sl 0, .bool] [(0, 41), (1, 4)]),
  (70, .leaf .ptr),
  (78, .leaf .ptr),
  (83, .leaf .ptr),
  (61, .leaf .fn),
  (4, .leaf .bool)]
theorem tts_ok : TTOk pr En tts := ttB_ok (by kernel_rfl)
theorem mixed : pr.follows .mixedOrders = true := by kernel_rfl
/-- A function's context. -/
def cx (fn : Func) (sp : List (Nat × Spec En)) (dyn : List (Nat × Spec En)) (loops : List (Nat × LoopSum En)) : Ctx En := ⟨tts, fn.ntmps, fn.params.size, sp, dynOf dyn, loops, false⟩
/-- The same, where truths that stand in the text stay known. -/
def cxl (fn : Func) (sp : List (Nat × Spec En)) (dyn : List (Nat × Spec En)) (loops : List (Nat × LoopSum En)) : Ctx En := ⟨tts, fn.ntmps, fn.params.size, sp, dynOf dyn, loops, true⟩
theorem cx_ok {fn : Func} {sp dyn : List (Nat × Spec En)} {loops : List (Nat × LoopSum En)} (h : SpAll pr sp) (hd : SpAll pr dyn) : CtxOk pr (cx fn sp dyn loops) := ⟨tts_ok, h, dynOf_ok hd⟩
theorem cxl_ok {fn : Func} {sp dyn : List (Nat × Spec En)} {loops : List (Nat × LoopSum En)} (h : SpAll pr sp) (hd : SpAll pr dyn) : CtxOk pr (cxl fn sp dyn loops) := ⟨tts_ok, h, dynOf_ok hd⟩
theorem nil_ok : SpAll (E := En) pr [] := SpAll.nil
end Go.Rf
end
section
/-! The names of functions and types. -/
namespace Go.Rf
open Go.Proofs
abbrev i_law4_TokenTells : Nat := 3
noncomputable abbrev f_law4_TokenTells : Func := Try.f3
theorem h_law4_TokenTells : pr.funcs[i_law4_TokenTells]? = some f_law4_TokenTells := Try.func3
abbrev i_law24_FrameTorn : Nat := 4
noncomputable abbrev f_law24_FrameTorn : Func := Try.f4
theorem h_law24_FrameTorn : pr.funcs[i_law24_FrameTorn]? = some f_law24_FrameTorn := Try.func4
abbrev i_law24_FrameReplies : Nat := 5
noncomputable abbrev f_law24_FrameReplies : Func := Try.f5
theorem h_law24_FrameReplies : pr.funcs[i_law24_FrameReplies]? = some f_law24_FrameReplies := Try.func5
abbrev i_law4_alive : Nat := 6
noncomputable abbrev f_law4_alive : Func := Try.f6
theorem h_law4_alive : pr.funcs[i_law4_alive]? = some f_law4_alive := Try.func6
abbrev i_token_Split : Nat := 7
noncomputable abbrev f_token_Split : Func := Try.f7
theorem h_token_Split : pr.funcs[i_token_Split]? = some f_token_Split := Try.func7
abbrev i_ref1_Split : Nat := 8
noncomputable abbrev f_ref1_Split : Func := Try.f8
theorem h_ref1_Split : pr.funcs[i_ref1_Split]? = some f_ref1_Split := Try.func8
abbrev i_law4_same : Nat := 9
noncomputable abbrev f_law4_same : Func := Try.f9
theorem h_law4_same : pr.funcs[i_law4_same]? = some f_law4_same := Try.func9
abbrev i_law4_num : Nat := 10
noncomputable abbrev f_law4_num : Func := Try.f10
theorem h_law4_num : pr.funcs[i_law4_num]? = some f_law4_num := Try.func10
abbrev i_law24_alive : Nat := 11
noncomputable abbrev f_law24_alive : Func := Try.f11
theorem h_law24_alive : pr.funcs[i_law24_alive]? = some f_law24_alive := Try.func11
abbrev i_ref21_EditBytes : Nat := 12
noncomputable abbrev f_ref21_EditBytes : Func := Try.f12
theorem h_ref21_EditBytes : pr.funcs[i_ref21_EditBytes]? = some f_ref21_EditBytes := Try.func12
abbrev i_ref21_ReplyBytes : Nat := 13
noncomputable abbrev f_ref21_ReplyBytes : Func := Try.f13
theorem h_ref21_ReplyBytes : pr.funcs[i_ref21_ReplyBytes]? = some f_ref21_ReplyBytes := Try.func13
abbrev i_frame_ReadEdit : Nat := 14
noncomputable abbrev f_frame_ReadEdit : Func := Try.f14
theorem h_frame_ReadEdit : pr.funcs[i_frame_ReadEdit]? = some f_frame_ReadEdit := Try.func14
abbrev i_frame_ReadReply : Nat := 15
noncomputable abbrev f_frame_ReadReply : Func := Try.f15
theorem h_frame_ReadReply : pr.funcs[i_frame_ReadReply]? = some f_frame_ReadReply := Try.func15
abbrev i_law24_num : Nat := 16
noncomputable abbrev f_law24_num : Func := Try.f16
theorem h_law24_num : pr.funcs[i_law24_num]? = some f_law24_num := Try.func16
abbrev i_frame_Reply : Nat := 17
noncomputable abbrev f_frame_Reply : Func := Try.f17
theorem h_frame_Reply : pr.funcs[i_frame_Reply]? = some f_frame_Reply := Try.func17
abbrev i_ref21_ReadReply : Nat := 18
noncomputable abbrev f_ref21_ReadReply : Func := Try.f18
theorem h_ref21_ReadReply : pr.funcs[i_ref21_ReadReply]? = some f_ref21_ReadReply := Try.func18
abbrev i_ref21_SameReply : Nat := 19
noncomputable abbrev f_ref21_SameReply : Func := Try.f19
theorem h_ref21_SameReply : pr.funcs[i_ref21_SameReply]? = some f_ref21_SameReply := Try.func19
abbrev i_token_next : Nat := 20
noncomputable abbrev f_token_next : Func := Try.f20
theorem h_token_next : pr.funcs[i_token_next]? = some f_token_next := Try.func20
abbrev i_ref1_Digit : Nat := 21
noncomputable abbrev f_ref1_Digit : Func := Try.f21
theorem h_ref1_Digit : pr.funcs[i_ref1_Digit]? = some f_ref1_Digit := Try.func21
abbrev i_ref1_Great : Nat := 22
noncomputable abbrev f_ref1_Great : Func := Try.f22
theorem h_ref1_Great : pr.funcs[i_ref1_Great]? = some f_ref1_Great := Try.func22
abbrev i_ref1_Small : Nat := 23
noncomputable abbrev f_ref1_Small : Func := Try.f23
theorem h_ref1_Small : pr.funcs[i_ref1_Small]? = some f_ref1_Small := Try.func23
abbrev i_ref1_quoted : Nat := 24
noncomputable abbrev f_ref1_quoted : Func := Try.f24
theorem h_ref1_quoted : pr.funcs[i_ref1_quoted]? = some f_ref1_quoted := Try.func24
abbrev i_ref1_sign : Nat := 25
noncomputable abbrev f_ref1_sign : Func := Try.f25
theorem h_ref1_sign : pr.funcs[i_ref1_sign]? = some f_ref1_sign := Try.func25
abbrev i_frame_Edit : Nat := 26
noncomputable abbrev f_frame_Edit : Func := Try.f26
theorem h_frame_Edit : pr.funcs[i_frame_Edit]? = some f_frame_Edit := Try.func26
abbrev i_ref21_cell : Nat := 27
noncomputable abbrev f_ref21_cell : Func := Try.f27
theorem h_ref21_cell : pr.funcs[i_ref21_cell]? = some f_ref21_cell := Try.func27
abbrev i_ref21_short : Nat := 28
noncomputable abbrev f_ref21_short : Func := Try.f28
theorem h_ref21_short : pr.funcs[i_ref21_short]? = some f_ref21_short := Try.func28
abbrev i_ref1_ValueBytes : Nat := 29
noncomputable abbrev f_ref1_ValueBytes : Func := Try.f29
theorem h_ref1_ValueBytes : pr.funcs[i_ref1_ValueBytes]? = some f_ref1_ValueBytes := Try.func29
abbrev i_frame_reader_number : Nat := 30
noncomputable abbrev f_frame_reader_number : Func := Try.f30
theorem h_frame_reader_number : pr.funcs[i_frame_reader_number]? = some f_frame_reader_number := Try.func30
abbrev i_frame_reader_cell : Nat := 31
noncomputable abbrev f_frame_reader_cell : Func := Try.f31
theorem h_frame_reader_cell : pr.funcs[i_frame_reader_cell]? = some f_frame_reader_cell := Try.func31
abbrev i_frame_reader_short : Nat := 32
noncomputable abbrev f_frame_reader_short : Func := Try.f32
theorem h_frame_reader_short : pr.funcs[i_frame_reader_short]? = some f_frame_reader_short := Try.func32
abbrev i_frame_reader_ended : Nat := 33
noncomputable abbrev f_frame_reader_ended : Func := Try.f33
theorem h_frame_reader_ended : pr.funcs[i_frame_reader_ended]? = some f_frame_reader_ended := Try.func33
abbrev i_frame_right : Nat := 34
noncomputable abbrev f_frame_right : Func := Try.f34
theorem h_frame_right : pr.funcs[i_frame_right]? = some f_frame_right := Try.func34
abbrev i_frame_reader_shown : Nat := 35
noncomputable abbrev f_frame_reader_shown : Func := Try.f35
theorem h_frame_reader_shown : pr.funcs[i_frame_reader_shown]? = some f_frame_reader_shown := Try.func35
abbrev i_frame_writer_number : Nat := 36
noncomputable abbrev f_frame_writer_number : Func := Try.f36
theorem h_frame_writer_number : pr.funcs[i_frame_writer_number]? = some f_frame_writer_number := Try.func36
abbrev i_frame_writer_shown : Nat := 37
noncomputable abbrev f_frame_writer_shown : Func := Try.f37
theorem h_frame_writer_shown : pr.funcs[i_frame_writer_shown]? = some f_frame_writer_shown := Try.func37
abbrev i_frame_writer_all : Nat := 38
noncomputable abbrev f_frame_writer_all : Func := Try.f38
theorem h_frame_writer_all : pr.funcs[i_frame_writer_all]? = some f_frame_writer_all := Try.func38
abbrev i_ref21_reader_num : Nat := 39
noncomputable abbrev f_ref21_reader_num : Func := Try.f39
theorem h_ref21_reader_num : pr.funcs[i_ref21_reader_num]? = some f_ref21_reader_num := Try.func39
abbrev i_ref21_reader_cell : Nat := 40
noncomputable abbrev f_ref21_reader_cell : Func := Try.f40
theorem h_ref21_reader_cell : pr.funcs[i_ref21_reader_cell]? = some f_ref21_reader_cell := Try.func40
abbrev i_ref1_ReadValue : Nat := 41
noncomputable abbrev f_ref1_ReadValue : Func := Try.f41
theorem h_ref1_ReadValue : pr.funcs[i_ref1_ReadValue]? = some f_ref1_ReadValue := Try.func41
abbrev i_ref21_reader_take : Nat := 42
noncomputable abbrev f_ref21_reader_take : Func := Try.f42
theorem h_ref21_reader_take : pr.funcs[i_ref21_reader_take]? = some f_ref21_reader_take := Try.func42
abbrev i_ref12_SameShown : Nat := 43
noncomputable abbrev f_ref12_SameShown : Func := Try.f43
theorem h_ref12_SameShown : pr.funcs[i_ref12_SameShown]? = some f_ref12_SameShown := Try.func43
abbrev i_token_digit : Nat := 44
noncomputable abbrev f_token_digit : Func := Try.f44
theorem h_token_digit : pr.funcs[i_token_digit]? = some f_token_digit := Try.func44
abbrev i_token_run : Nat := 45
noncomputable abbrev f_token_run : Func := Try.f45
theorem h_token_run : pr.funcs[i_token_run]? = some f_token_run := Try.func45
abbrev i_token_great : Nat := 46
noncomputable abbrev f_token_great : Func := Try.f46
theorem h_token_great : pr.funcs[i_token_great]? = some f_token_great := Try.func46
abbrev i_token_next_1 : Nat := 47
noncomputable abbrev f_token_next_1 : Func := Try.f47
theorem h_token_next_1 : pr.funcs[i_token_next_1]? = some f_token_next_1 := Try.func47
abbrev i_token_small : Nat := 48
noncomputable abbrev f_token_small : Func := Try.f48
theorem h_token_small : pr.funcs[i_token_small]? = some f_token_small := Try.func48
abbrev i_token_next_2 : Nat := 49
noncomputable abbrev f_token_next_2 : Func := Try.f49
theorem h_token_next_2 : pr.funcs[i_token_next_2]? = some f_token_next_2 := Try.func49
abbrev i_token_quoted : Nat := 50
noncomputable abbrev f_token_quoted : Func := Try.f50
theorem h_token_quoted : pr.funcs[i_token_quoted]? = some f_token_quoted := Try.func50
abbrev i_token_sign : Nat := 51
noncomputable abbrev f_token_sign : Func := Try.f51
theorem h_token_sign : pr.funcs[i_token_sign]? = some f_token_sign := Try.func51
abbrev i_frame_writer_cell : Nat := 52
noncomputable abbrev f_frame_writer_cell : Func := Try.f52
theorem h_frame_writer_cell : pr.funcs[i_frame_writer_cell]? = some f_frame_writer_cell := Try.func52
abbrev i_frame_writer_short : Nat := 53
noncomputable abbrev f_frame_writer_short : Func := Try.f53
theorem h_frame_writer_short : pr.funcs[i_frame_writer_short]? = some f_frame_writer_short := Try.func53
abbrev i_ref1_RightValue : Nat := 54
noncomputable abbrev f_ref1_RightValue : Func := Try.f54
theorem h_ref1_RightValue : pr.funcs[i_ref1_RightValue]? = some f_ref1_RightValue := Try.func54
abbrev i_frame_reader_take : Nat := 55
noncomputable abbrev f_frame_reader_take : Func := Try.f55
theorem h_frame_reader_take : pr.funcs[i_frame_reader_take]? = some f_frame_reader_take := Try.func55
abbrev i_value_Read : Nat := 56
noncomputable abbrev f_value_Read : Func := Try.f56
theorem h_value_Read : pr.funcs[i_value_Read]? = some f_value_Read := Try.func56
abbrev i_value_Right : Nat := 57
noncomputable abbrev f_value_Right : Func := Try.f57
theorem h_value_Right : pr.funcs[i_value_Right]? = some f_value_Right := Try.func57
abbrev i_value_Bytes : Nat := 58
noncomputable abbrev f_value_Bytes : Func := Try.f58
theorem h_value_Bytes : pr.funcs[i_value_Bytes]? = some f_value_Bytes := Try.func58
abbrev i_ref21_reader_short : Nat := 59
noncomputable abbrev f_ref21_reader_short : Func := Try.f59
theorem h_ref21_reader_short : pr.funcs[i_ref21_reader_short]? = some f_ref21_reader_short := Try.func59
abbrev i_strings_Builder_WriteByte : Nat := 60
noncomputable abbrev f_strings_Builder_WriteByte : Func := Try.f60
theorem h_strings_Builder_WriteByte : pr.funcs[i_strings_Builder_WriteByte]? = some f_strings_Builder_WriteByte := Try.func60
abbrev i_strings_Builder_String : Nat := 61
noncomputable abbrev f_strings_Builder_String : Func := Try.f61
theorem h_strings_Builder_String : pr.funcs[i_strings_Builder_String]? = some f_strings_Builder_String := Try.func61
abbrev i_strings_IndexByte : Nat := 62
noncomputable abbrev f_strings_IndexByte : Func := Try.f62
theorem h_strings_IndexByte : pr.funcs[i_strings_IndexByte]? = some f_strings_IndexByte := Try.func62
abbrev i_value_size : Nat := 63
noncomputable abbrev f_value_size : Func := Try.f63
theorem h_value_size : pr.funcs[i_value_size]? = some f_value_size := Try.func63
abbrev i_value_number : Nat := 64
noncomputable abbrev f_value_number : Func := Try.f64
theorem h_value_number : pr.funcs[i_value_number]? = some f_value_number := Try.func64
abbrev i_strings_Builder_copyCheck : Nat := 65
noncomputable abbrev f_strings_Builder_copyCheck : Func := Try.f65
theorem h_strings_Builder_copyCheck : pr.funcs[i_strings_Builder_copyCheck]? = some f_strings_Builder_copyCheck := Try.func65
abbrev i_internal_stringslite_IndexByte : Nat := 66
noncomputable abbrev f_internal_stringslite_IndexByte : Func := Try.f66
theorem h_internal_stringslite_IndexByte : pr.funcs[i_internal_stringslite_IndexByte]? = some f_internal_stringslite_IndexByte := Try.func66
abbrev i_internal_abi_NoEscape : Nat := 67
noncomputable abbrev f_internal_abi_NoEscape : Func := Try.f67
theorem h_internal_abi_NoEscape : pr.funcs[i_internal_abi_NoEscape]? = some f_internal_abi_NoEscape := Try.func67
abbrev i_internal_bytealg_IndexByteString : Nat := 68
noncomputable abbrev f_internal_bytealg_IndexByteString : Func := Try.f68
theorem h_internal_bytealg_IndexByteString : pr.funcs[i_internal_bytealg_IndexByteString]? = some f_internal_bytealg_IndexByteString := Try.func68
abbrev i_runtime_boundsError_Error : Nat := 69
noncomputable abbrev f_runtime_boundsError_Error : Func := Try.f69
theorem h_runtime_boundsError_Error : pr.funcs[i_runtime_boundsError_Error]? = some f_runtime_boundsError_Error := Try.func69
abbrev i_runtime_boundsError_RuntimeError : Nat := 70
noncomputable abbrev f_runtime_boundsError_RuntimeError : Func := Try.f70
theorem h_runtime_boundsError_RuntimeError : pr.funcs[i_runtime_boundsError_RuntimeError]? = some f_runtime_boundsError_RuntimeError := Try.func70
abbrev i_runtime_errorString_Error : Nat := 71
noncomputable abbrev f_runtime_errorString_Error : Func := Try.f71
theorem h_runtime_errorString_Error : pr.funcs[i_runtime_errorString_Error]? = some f_runtime_errorString_Error := Try.func71
abbrev i_runtime_errorString_RuntimeError : Nat := 72
noncomputable abbrev f_runtime_errorString_RuntimeError : Func := Try.f72
theorem h_runtime_errorString_RuntimeError : pr.funcs[i_runtime_errorString_RuntimeError]? = some f_runtime_errorString_RuntimeError := Try.func72
abbrev i_runtime_plainError_Error : Nat := 73
noncomputable abbrev f_runtime_plainError_Error : Func := Try.f73
theorem h_runtime_plainError_Error : pr.funcs[i_runtime_plainError_Error]? = some f_runtime_plainError_Error := Try.func73
abbrev i_runtime_plainError_RuntimeError : Nat := 74
noncomputable abbrev f_runtime_plainError_RuntimeError : Func := Try.f74
theorem h_runtime_plainError_RuntimeError : pr.funcs[i_runtime_plainError_RuntimeError]? = some f_runtime_plainError_RuntimeError := Try.func74
abbrev i_runtime_errorAddressString_Error : Nat := 75
noncomputable abbrev f_runtime_errorAddressString_Error : Func := Try.f75
theorem h_runtime_errorAddressString_Error : pr.funcs[i_runtime_errorAddressString_Error]? = some f_runtime_errorAddressString_Error := Try.func75
abbrev i_runtime_errorAddressString_RuntimeError : Nat := 76
noncomputable abbrev f_runtime_errorAddressString_RuntimeError : Func := Try.f76
theorem h_runtime_errorAddressString_RuntimeError : pr.funcs[i_runtime_errorAddressString_RuntimeError]? = some f_runtime_errorAddressString_RuntimeError := Try.func76
abbrev i_runtime_TypeAssertionError_Error : Nat := 77
noncomputable abbrev f_runtime_TypeAssertionError_Error : Func := Try.f77
theorem h_runtime_TypeAssertionError_Error : pr.funcs[i_runtime_TypeAssertionError_Error]? = some f_runtime_TypeAssertionError_Error := Try.func77
abbrev i_runtime_TypeAssertionError_RuntimeError : Nat := 78
noncomputable abbrev f_runtime_TypeAssertionError_RuntimeError : Func := Try.f78
theorem h_runtime_TypeAssertionError_RuntimeError : pr.funcs[i_runtime_TypeAssertionError_RuntimeError]? = some f_runtime_TypeAssertionError_RuntimeError := Try.func78
abbrev i_runtime_PanicNilError_Error : Nat := 79
noncomputable abbrev f_runtime_PanicNilError_Error : Func := Try.f79
theorem h_runtime_PanicNilError_Error : pr.funcs[i_runtime_PanicNilError_Error]? = some f_runtime_PanicNilError_Error := Try.func79
abbrev i_runtime_PanicNilError_RuntimeError : Nat := 80
noncomputable abbrev f_runtime_PanicNilError_RuntimeError : Func := Try.f80
theorem h_runtime_PanicNilError_RuntimeError : pr.funcs[i_runtime_PanicNilError_RuntimeError]? = some f_runtime_PanicNilError_RuntimeError := Try.func80
abbrev i_internal_abi_Type_Align : Nat := 81
noncomputable abbrev f_internal_abi_Type_Align : Func := Try.f81
theorem h_internal_abi_Type_Align : pr.funcs[i_internal_abi_Type_Align]? = some f_internal_abi_Type_Align := Try.func81
abbrev i_internal_runtime_maps_unhashableTypeError_Error : Nat := 82
noncomputable abbrev f_internal_runtime_maps_unhashableTypeError_Error : Func := Try.f82
theorem h_internal_runtime_maps_unhashableTypeError_Error : pr.funcs[i_internal_runtime_maps_unhashableTypeError_Error]? = some f_internal_runtime_maps_unhashableTypeError_Error := Try.func82
abbrev i_internal_runtime_maps_unhashableTypeError_RuntimeError : Nat := 83
noncomputable abbrev f_internal_runtime_maps_unhashableTypeError_RuntimeError : Func := Try.f83
theorem h_internal_runtime_maps_unhashableTypeError_RuntimeError : pr.funcs[i_internal_runtime_maps_unhashableTypeError_RuntimeError]? = some f_internal_runtime_maps_unhashableTypeError_RuntimeError := Try.func83
abbrev i_strings_Builder_Reset : Nat := 84
noncomputable abbrev f_strings_Builder_Reset : Func := Try.f84
theorem h_strings_Builder_Reset : pr.funcs[i_strings_Builder_Reset]? = some f_strings_Builder_Reset := Try.func84
abbrev i_internal_abi_Kind_String : Nat := 85
noncomputable abbrev f_internal_abi_Kind_String : Func := Try.f85
theorem h_internal_abi_Kind_String : pr.funcs[i_internal_abi_Kind_String]? = some f_internal_abi_Kind_String := Try.func85
abbrev t_int : TypeId := 3
abbrev t_bool : TypeId := 4
abbrev t_uint8 : TypeId := 5
abbrev t_string : TypeId := 9
abbrev t_api_Errno : TypeId := 24
abbrev t_api_Cell : TypeId := 33
abbrev t_api_Range : TypeId := 35
abbrev t_api_Edit : TypeId := 37
abbrev t_api_Reply : TypeId := 40
abbrev t_Luint8 : TypeId := 41
abbrev t_api_Value : TypeId := 50
abbrev t_api_Shown : TypeId := 52
abbrev t_api_Token : TypeId := 58
abbrev t_frame_reader : TypeId := 72
abbrev t_frame_writer : TypeId := 79
abbrev t_ref21_reader : TypeId := 85
abbrev t_strings_Builder : TypeId := 99
end Go.Rf
end
section
set_option linter.unusedSimpArgs false
set_option linter.unusedVariables false
namespace Go.Rf
/-- A method of a variable that holds bytes and a flag; n other parameters. -/
noncomputable def stSpec (t : Nat) (o : Bool) (n : Nat) (F : BF → List TV' → Tree (List TV' × BF)) : Spec En :=
  ⟨[], fun xs vs => rSt t o (fun w vs => bif isAnys (E := En) n vs then (F w xs).bind fun r => .leaf (r.1, stV t o r.2 :: vs) else .fail) vs⟩
theorem stSpec_r {t : Nat} {o : Bool} {n : Nat} {F : BF → List TV' → Tree (List TV' × BF)} {xs : List TV'} {vs : List RV'} {r : List TV' × List RV'} (h : ((stSpec t o n F).run xs vs).reach r) :
    ∃ w, vs = stV t o w :: anys (E := En) n ∧ ∃ rs w', (F w xs).reach (rs, w') ∧ r = (rs, stV t o w' :: anys (E := En) n) := by
  obtain ⟨w, vs, rfl, g⟩ := rSt_r h
  cases hb : isAnys (E := En) n vs with
  | false => rw [hb] at g; cases g
  | true =>
    rw [hb] at g
    obtain rfl := isAnys_eq hb
    obtain ⟨⟨rs, w'⟩, h1, h2⟩ := Tree.reach_bind.1 g
    exact ⟨w, rfl, rs, w', h1, h2⟩
theorem stOk {ctx : Ctx En} (hc : CtxOk pr ctx) {f : FuncId} {fn : Func} (hf : pr.funcs[f]? = some fn) (hB : fnB ctx fn = true) (hl : LoopAll pr ctx (loopsIn (codeOf fn))) {t : Nat} {o : Bool} {n : Nat} {F : BF → List TV' → Tree (List TV' × BF)}
    (law : ∀ w xs rs w', (F w xs).reach (rs, w') → xs.length = ctx.np ∧ (fnRun ctx fn (codeOf fn) xs (stV t o w :: anys (E := En) n)).reach (rs, stV t o w' :: anys (E := En) n)) : SpecOk pr f (stSpec t o n F) := by
  refine fnOk hc mixed hf hB hl fun xs vs r h => ?_
  obtain ⟨w, rfl, rs, w', h1, rfl⟩ := stSpec_r h
  exact law w xs rs w' h1
/-- A function that takes some arguments as its own, and writes nothing else. -/
noncomputable def pureO (own : List Nat) (n : Nat) (F : List TV' → Tree (List TV')) : Spec En := ⟨own, (pureSpec (E := En) n F).run⟩
theorem pureO_ok {ctx : Ctx En} (hc : CtxOk pr ctx) {f : FuncId} {fn : Func} (hf : pr.funcs[f]? = some fn) (hB : fnB ctx fn = true) (hl : LoopAll pr ctx (loopsIn (codeOf fn))) {own : List Nat} {n : Nat} {F : List TV' → Tree (List TV')}
    (law : ∀ xs r, (F xs).reach r → xs.length = ctx.np ∧ (fnRun ctx fn (codeOf fn) xs (anys (E := En) n)).reach (r, anys (E := En) n)) : SpecOk pr f (pureO own n F) := by
  refine fnOk hc mixed hf hB hl fun xs vs r h => ?_
  obtain ⟨rfl, h2, h3⟩ := pureSpec_reach (E := En) h
  obtain ⟨rs, vs'⟩ := r
  dsimp only at h2 h3
  subst h2
  exact law xs rs h3
theorem pureUn {f : FuncId} {n : Nat} {F F0 : List TV' → Tree (List TV')} (h : SpecOk pr f (pureSpec (E := En) n F0))
    (law : ∀ xs rs, (F xs).reach rs → ∃ r0, (F0 xs).reach r0 ∧ rs = List.map (TV.un (E := En)) r0 ∧ r0.length ≤ 1000000 ∧ ∀ x ∈ r0, (TV.names (E := En) x) = []) : SpecOk pr f (pureSpec (E := En) n F) := by
  refine unown_ok h rfl fun xs vs r hr => ?_
  obtain ⟨rfl, h2, h3⟩ := pureSpec_reach hr
  obtain ⟨rs, vs'⟩ := r
  dsimp only at h2 h3
  subst h2
  obtain ⟨r0, h4, h5, h6, h7⟩ := law xs rs h3
  refine ⟨r0, ?_, h5, h6, h7, fun v hv => ?_⟩
  · have e : ∀ n, isAnys (E := En) n (anys (E := En) n) = true := fun n => by
      induction n with
      | zero => rfl
      | succ n ih => exact ih
    unfold pureSpec
    dsimp only
    rw [e, cond_true]
    exact Tree.reach_bind.2 ⟨_, h4, rfl⟩
  · rw [anys_eq] at hv
    rw [List.eq_of_mem_replicate hv]
    rfl
theorem stUn {f : FuncId} {t : Nat} {o : Bool} {n : Nat} {F F0 : BF → List TV' → Tree (List TV' × BF)} (h : SpecOk pr f (stSpec t o n F0))
    (law : ∀ w xs rs w', (F w xs).reach (rs, w') → ∃ r0, (F0 w xs).reach (r0, w') ∧ rs = List.map (TV.un (E := En)) r0 ∧ r0.length ≤ 1000000 ∧ ∀ x ∈ r0, (TV.names (E := En) x) = []) : SpecOk pr f (stSpec t o n F) := by
  refine unown_ok h rfl fun xs vs r hr => ?_
  obtain ⟨w, rfl, rs, w', h1, rfl⟩ := stSpec_r hr
  obtain ⟨r0, h2, h3, h4, h5⟩ := law w xs rs w' h1
  refine ⟨r0, ?_, h3, h4, h5, fun v hv => ?_⟩
  · show (rSt t o _ (stV t o w :: anys (E := En) n)).reach _
    have e : ∀ n, isAnys (E := En) n (anys (E := En) n) = true := fun n => by
      induction n with
      | zero => rfl
      | succ n ih => exact ih
    cases o with
    | true =>
      show (bif Nat.beq t t then _ else _ : Tree _).reach _
      rw [Nat.beq_refl, cond_true]
      dsimp only
      rw [e, cond_true]
      exact Tree.reach_bind.2 ⟨_, h2, rfl⟩
    | false =>
      show (bif Nat.beq t t then _ else _ : Tree _).reach _
      rw [Nat.beq_refl, cond_true]
      dsimp only
      rw [e, cond_true]
      exact Tree.reach_bind.2 ⟨_, h2, rfl⟩
  · rcases List.mem_cons.1 hv with rfl | hv
    · rfl
    · rw [anys_eq] at hv
      rw [List.eq_of_mem_replicate hv]
      rfl
/-! Ways through a tree, all at once: for 'simp only'. -/
theorem Tree.rt {α : Type} {x : α} {b : Bool} {t e : Tree α} (h : b = true) : (Tree.ite b t e).reach x = t.reach x := by subst h; exact propext ⟨Tree.of_tt, Tree.reach_tt⟩
theorem Tree.rf {α : Type} {x : α} {b : Bool} {t e : Tree α} (h : b = false) : (Tree.ite b t e).reach x = e.reach x := by subst h; exact propext ⟨Tree.of_ff, Tree.reach_ff⟩
theorem Tree.rq {α : Type} {x : α} {p : Prop} {t : Tree α} : (Tree.req p t).reach x = (p ∧ t.reach x) := rfl
theorem Tree.ex_of {α : Type} {t t' : Tree α} {Q : α → Prop} (h : t = t') (h' : ∃ r, t'.reach r ∧ Q r) : ∃ r, t.reach r ∧ Q r := h ▸ h'
theorem Tree.ex_tt {α : Type} {t e : Tree α} {Q : α → Prop} (h : ∃ r, t.reach r ∧ Q r) : ∃ r, (Tree.ite true t e).reach r ∧ Q r := by obtain ⟨r, h1, h2⟩ := h; exact ⟨r, Tree.reach_tt h1, h2⟩
theorem Tree.ex_ff {α : Type} {t e : Tree α} {Q : α → Prop} (h : ∃ r, e.reach r ∧ Q r) : ∃ r, (Tree.ite false t e).reach r ∧ Q r := by obtain ⟨r, h1, h2⟩ := h; exact ⟨r, Tree.reach_ff h1, h2⟩
theorem Tree.ex_req {α : Type} {t : Tree α} {p : Prop} {Q : α → Prop} (hp : p) (h : ∃ r, t.reach r ∧ Q r) : ∃ r, (Tree.req p t).reach r ∧ Q r := by obtain ⟨r, h1, h2⟩ := h; exact ⟨r, ⟨hp, h1⟩, h2⟩
theorem Tree.ex_leaf {α : Type} {a : α} {Q : α → Prop} (h : Q a) : ∃ r, (Tree.leaf a).reach r ∧ Q r := ⟨a, rfl, h⟩
theorem runOkU {ctx : Ctx En} (hc : CtxOk pr ctx) {f : FuncId} {fn : Func} (hf : pr.funcs[f]? = some fn) (hB : fnB ctx fn = true) (hl : LoopAll pr ctx (loopsIn (codeOf fn))) {s : Spec En} (ho : s.own = [])
    (law : ∀ xs vs r, (s.run xs vs).reach r → xs.length = ctx.np ∧ ∃ r0, (fnRun ctx fn (codeOf fn) xs vs).reach r0 ∧ r.1 = List.map (TV.un (E := En)) r0.1 ∧ r.2 = List.map (RV.unB (E := En)) r0.2) : SpecOk pr f s := by
  have h := fnOk hc mixed hf hB hl (s := ⟨[], fun xs vs => bif Nat.beq xs.length ctx.np then fnRun ctx fn (codeOf fn) xs vs else .fail⟩) (fun xs vs r hr => by
    dsimp only at hr
    cases hb : Nat.beq xs.length ctx.np with
    | false => rw [hb] at hr; simp [Tree.reach] at hr
    | true => rw [hb] at hr; exact ⟨Nat.eq_of_beq_eq_true hb, hr⟩)
  refine unownB_ok h ho.symm fun xs vs r hr => ?_
  obtain ⟨h1, r0, h2, h3, h4⟩ := law xs vs r hr
  refine ⟨r0, ?_, h3, h4⟩
  dsimp only
  rw [show Nat.beq xs.length ctx.np = true by rw [h1]; exact Nat.beq_refl _]
  exact h2
/-- A reader's method: what it leaves is not told as its own. -/
theorem stOkU {ctx : Ctx En} (hc : CtxOk pr ctx) {f : FuncId} {fn : Func} (hf : pr.funcs[f]? = some fn) (hB : fnB ctx fn = true) (hl : LoopAll pr ctx (loopsIn (codeOf fn))) {t n : Nat} {F : BF → List TV' → Tree (List TV' × BF)}
    (law : ∀ w xs rs w', (F w xs).reach (rs, w') → xs.length = ctx.np ∧ ∃ r0, (fnRun ctx fn (codeOf fn) xs (stV t false w :: anys (E := En) n)).reach r0 ∧ rs = List.map (TV.un (E := En)) r0.1 ∧ stV t false w' :: anys (E := En) n = List.map (RV.unB (E := En)) r0.2) :
    SpecOk pr f (stSpec t false n F) := by
  refine runOkU hc hf hB hl rfl fun xs vs r h => ?_
  obtain ⟨w, rfl, rs, w', h1, rfl⟩ := stSpec_r h
  exact law w xs rs w' h1
/-- As 'pureOk', what is answered and left being nobody's own. -/
theorem pureOkX {ctx : Ctx En} (hc : CtxOk pr ctx) {f : FuncId} {fn : Func} (hf : pr.funcs[f]? = some fn) (hB : fnB ctx fn = true) (hl : LoopAll pr ctx (loopsIn (codeOf fn))) {n : Nat} {F : List TV' → Tree (List TV')}
    (law : ∀ xs rs, (F xs).reach rs → xs.length = ctx.np ∧ ∃ r0, (fnRun ctx fn (codeOf fn) xs (anys (E := En) n)).reach r0 ∧ rs = List.map (TV.un (E := En)) r0.1 ∧ anys (E := En) n = List.map (RV.unB (E := En)) r0.2) :
    SpecOk pr f (pureSpec (E := En) n F) := by
  refine runOkU hc hf hB hl rfl fun xs vs r h => ?_
  obtain ⟨rfl, h2, h3⟩ := pureSpec_reach h
  obtain ⟨rs, vs'⟩ := r
  dsimp only at h2 h3
  subst h2
  exact law xs rs h3
end Go.Rf
end
section
set_option linter.unusedSimpArgs false
set_option linter.unusedVariables false
/-! What frames are made of: plain. -/
namespace Go.Rf
/-- The last byte of a number. -/
def bt (x : Int) : UInt8 := UInt8.ofNat (Int.toNat (IntKind.wrap IntKind.u8 x))
theorem wrap_u8 (x : Int) : IntKind.wrap IntKind.u8 x = x % 256 := by
  unfold IntKind.wrap; simp [IntKind.signed, IntKind.bits]
theorem wrap_u64 (x : Int) : IntKind.wrap IntKind.u64 x = x % 18446744073709551616 := by
  unfold IntKind.wrap; simp [IntKind.signed, IntKind.bits]
theorem bt_nat (x : Int) : ((bt x).toNat : Int) = x % 256 := by
  unfold bt
  rw [wrap_u8, UInt8.toNat_ofNat']
  omega
/-- The bytes of a number, the highest first. -/
def be (n : Int) : Nat → List UInt8
  | 0 => []
  | k + 1 => bt (Int.fdiv n (2 ^ (8 * k))) :: be n k
theorem be_len (n : Int) : ∀ k, (be n k).length = k
  | 0 => rfl
  | k + 1 => by simp [be, be_len n k]
/-- Room for so many bytes. -/
def room (n : Nat) : Prop := n ≤ 140737488355328
def wNum (w : BF) (n : Int) (k : Nat) (m : Int) : BF := (w.1 ++ be n k, w.2 || decide (n < 0) || decide (n > m))
def wShort (w : BF) (s : List UInt8) : BF :=
  bif (wNum w s.length 1 255).2 then wNum w s.length 1 255 else ((wNum w s.length 1 255).1 ++ s, false)
def wCell (w : BF) (c : Cell) : BF := wNum (wNum (wShort w c.sheet) c.col 2 65535) c.row 2 65535
def wAll (w : BF) : List UInt8 := bif w.2 then [] else w.1
theorem wNum_len (w : BF) (n : Int) (k : Nat) (m : Int) : (wNum w n k m).1.length = w.1.length + k := by simp [wNum, be_len]
theorem wShort_len (w : BF) (s : List UInt8) : (wShort w s).1.length ≤ w.1.length + 256 := by
  unfold wShort
  cases h : (wNum w s.length 1 255).2 with
  | true => simp only [cond_true, wNum_len]; omega
  | false =>
    simp only [cond_false, List.length_append, wNum_len]
    simp only [wNum, Bool.or_eq_false_iff, decide_eq_false_iff_not] at h
    omega
theorem wCell_len (w : BF) (c : Cell) : (wCell w c).1.length ≤ w.1.length + 260 := by
  unfold wCell
  rw [wNum_len, wNum_len]
  have := wShort_len w c.sheet
  omega
/-- What a writer has of an edit. -/
def wEdit (e : Edit) : BF :=
  bif e.kind == 1 then wShort (wCell ([bt e.kind], false) e.cell) e.text else
  bif e.kind == 2 then wCell ([bt e.kind], false) e.cell else
  bif e.kind == 3 || e.kind == 4 then wShort ([bt e.kind], false) e.name else
  bif e.kind == 5 then wShort (wShort ([bt e.kind], false) e.name) e.text else
  bif e.kind == 8 then wCell (wCell ([bt e.kind], false) e.range.from_) e.range.to else
  bif e.kind == 6 || e.kind == 7 || e.kind == 9 then ([bt e.kind], false) else ([bt e.kind], true)
theorem u8ok (x : Int) : (0 : Int) ≤ IntKind.wrap IntKind.u8 x ∧ IntKind.wrap IntKind.u8 x < (256 : LT.den kindA (LT.int IntKind.u8)) := by
  rw [wrap_u8]
  show (0 : Int) ≤ x % 256 ∧ x % 256 < (256 : Int)
  omega
theorem and255 {x : Int} (h0 : 0 ≤ x) (h1 : x ≤ 9223372036854775807) : bitsOp BinOp.and IntKind.i64 x 255 = x % 256 := by
  obtain ⟨n, rfl⟩ := Int.eq_ofNat_of_zero_le h0
  have e : (BitVec.ofInt IntKind.i64.bits (n : Int) &&& BitVec.ofInt IntKind.i64.bits 255).toNat = n % 256 := by
    have e1 : (BitVec.ofInt IntKind.i64.bits (n : Int)).toNat = n := by
      show (BitVec.ofInt 64 (n : Int)).toNat = n
      rw [BitVec.toNat_ofInt]; omega
    have e2 : (BitVec.ofInt IntKind.i64.bits 255).toNat = 2 ^ 8 - 1 := by decide
    rw [BitVec.toNat_and, e1, e2, Nat.and_two_pow_sub_one_eq_mod]
  show IntKind.i64.wrap ((BitVec.ofInt IntKind.i64.bits (n : Int) &&& BitVec.ofInt IntKind.i64.bits 255).toNat : Int) = _
  rw [e, wrap_i64 (by omega) (by omega)]; omega
theorem bt_mod (x : Int) : bt (x % 256) = bt x := by
  unfold bt; rw [wrap_u8, wrap_u8, Int.emod_emod_of_dvd _ (by decide : (256 : Int) ∣ 256)]
theorem be2 {x : Int} (h0 : 0 ≤ x) (h1 : x ≤ 65535) : be x 2 = [UInt8.ofNat (Int.toNat (IntKind.wrap IntKind.u8 (Int.fdiv x ((2 : Int) ^ min (8 : Nat) (IntKind.bits IntKind.i64))))), UInt8.ofNat (Int.toNat (IntKind.wrap IntKind.u8 (bitsOp BinOp.and IntKind.i64 x (255 : Int))))] := by
  rw [and255 h0 (by omega)]
  show [bt (Int.fdiv x (2 ^ (8 * 1))), bt (Int.fdiv x (2 ^ (8 * 0)))] = [bt (Int.fdiv x (2 ^ 8)), bt (x % 256)]
  rw [bt_mod]
  simp
/-! Reading. -/
def rTake (r : BF) (n : Nat) : List UInt8 × BF := bif r.2 || decide (r.1.length < n) then ([], ([], true)) else (r.1.take n, (r.1.drop n, false))
/-- A number, the highest byte first. -/
def numOf (n : Nat) (b : List UInt8) : Nat := b.foldl (fun n c => n * 256 + c.toNat) n
theorem numOf_app (n : Nat) (a b : List UInt8) : numOf n (a ++ b) = numOf (numOf n a) b := by unfold numOf; rw [List.foldl_append]
theorem numOf_lt : ∀ (b : List UInt8) (n : Nat), numOf n b < (n + 1) * 256 ^ b.length
  | [], n => by simp [numOf]
  | c :: b, n => by
    have h := numOf_lt b (n * 256 + c.toNat)
    have hc : c.toNat < 256 := c.toNat_lt
    have e : numOf n (c :: b) = numOf (n * 256 + c.toNat) b := rfl
    rw [e, List.length_cons, Nat.pow_succ]
    refine Nat.lt_of_lt_of_le h ?_
    rw [Nat.mul_comm (256 ^ b.length) 256, ← Nat.mul_assoc]
    exact Nat.mul_le_mul_right _ (by omega)
theorem numOf_take {b : List UInt8} {i : Nat} (h : i < b.length) (d : UInt8) : numOf 0 (b.take (i + 1)) = numOf 0 (b.take i) * 256 + (b.getD i d).toNat := by
  rw [List.take_succ_eq_append_getElem h, numOf_app, List.getD_eq_getElem?_getD, List.getElem?_eq_getElem h]
  rfl
theorem numOf_le {b : List UInt8} {k : Nat} (h : b.length ≤ k) : numOf 0 b < 256 ^ k := by
  refine Nat.lt_of_lt_of_le (numOf_lt b 0) ?_
  rw [Nat.zero_add, Nat.one_mul]
  exact Nat.pow_le_pow_right (by omega) h
theorem or256 {n c : Nat} (hn : n < 36028797018963968) (hc : c < 256) : bitsOp BinOp.or IntKind.i64 (IntKind.wrap IntKind.i64 ((n : Int) * (2 : Int) ^ min (8 : Nat) (IntKind.bits IntKind.i64))) (IntKind.wrap IntKind.i64 (c : Int)) = ((n * 256 + c : Nat) : Int) := by
  have e0 : (2 : Int) ^ min (8 : Nat) (IntKind.bits IntKind.i64) = 256 := by decide
  rw [e0, wrap_i64 (x := (n : Int) * 256) (by omega) (by omega), wrap_i64 (x := (c : Int)) (by omega) (by omega)]
  have e : (BitVec.ofInt IntKind.i64.bits ((n : Int) * 256) ||| BitVec.ofInt IntKind.i64.bits (c : Int)).toNat = n * 256 + c := by
    have e1 : (BitVec.ofInt IntKind.i64.bits ((n : Int) * 256)).toNat = n * 256 := by
      show (BitVec.ofInt 64 ((n : Int) * 256)).toNat = n * 256
      rw [BitVec.toNat_ofInt]; omega
    have e2 : (BitVec.ofInt IntKind.i64.bits (c : Int)).toNat = c := by
      show (BitVec.ofInt 64 (c : Int)).toNat = c
      rw [BitVec.toNat_ofInt]; omega
    rw [BitVec.toNat_or, e1, e2]
    have := Nat.shiftLeft_add_eq_or_of_lt (i := 8) (b := c) hc n
    rw [Nat.shiftLeft_eq] at this
    exact this.symm
  show IntKind.i64.wrap ((BitVec.ofInt IntKind.i64.bits ((n : Int) * 256) ||| BitVec.ofInt IntKind.i64.bits (c : Int)).toNat : Int) = _
  rw [e, wrap_i64 (by omega) (by omega)]
theorem or256u {n c : Nat} (hn : n < 72057594037927936) (hc : c < 256) : bitsOp BinOp.or IntKind.u64 (IntKind.wrap IntKind.u64 ((n : Int) * (2 : Int) ^ min (8 : Nat) (IntKind.bits IntKind.u64))) (IntKind.wrap IntKind.u64 (c : Int)) = ((n * 256 + c : Nat) : Int) := by
  have e0 : (2 : Int) ^ min (8 : Nat) (IntKind.bits IntKind.u64) = 256 := by decide
  rw [e0, wrap_u64, wrap_u64, Int.emod_eq_of_lt (a := (n : Int) * 256) (by omega) (by omega), Int.emod_eq_of_lt (a := (c : Int)) (by omega) (by omega)]
  have e : (BitVec.ofInt IntKind.u64.bits ((n : Int) * 256) ||| BitVec.ofInt IntKind.u64.bits (c : Int)).toNat = n * 256 + c := by
    have e1 : (BitVec.ofInt IntKind.u64.bits ((n : Int) * 256)).toNat = n * 256 := by
      show (BitVec.ofInt 64 ((n : Int) * 256)).toNat = n * 256
      rw [BitVec.toNat_ofInt]; omega
    have e2 : (BitVec.ofInt IntKind.u64.bits (c : Int)).toNat = c := by
      show (BitVec.ofInt 64 (c : Int)).toNat = c
      rw [BitVec.toNat_ofInt]; omega
    rw [BitVec.toNat_or, e1, e2]
    have := Nat.shiftLeft_add_eq_or_of_lt (i := 8) (b := c) hc n
    rw [Nat.shiftLeft_eq] at this
    exact this.symm
  show IntKind.u64.wrap ((BitVec.ofInt IntKind.u64.bits ((n : Int) * 256) ||| BitVec.ofInt IntKind.u64.bits (c : Int)).toNat : Int) = _
  rw [e, wrap_u64, Int.emod_eq_of_lt (by omega) (by omega)]
theorem and255u {x : Int} (h0 : 0 ≤ x) (h1 : x < 18446744073709551616) : bitsOp BinOp.and IntKind.u64 x 255 = x % 256 := by
  obtain ⟨n, rfl⟩ := Int.eq_ofNat_of_zero_le h0
  have e : (BitVec.ofInt IntKind.u64.bits (n : Int) &&& BitVec.ofInt IntKind.u64.bits 255).toNat = n % 256 := by
    have e1 : (BitVec.ofInt IntKind.u64.bits (n : Int)).toNat = n := by
      show (BitVec.ofInt 64 (n : Int)).toNat = n
      rw [BitVec.toNat_ofInt]; omega
    have e2 : (BitVec.ofInt IntKind.u64.bits 255).toNat = 2 ^ 8 - 1 := by decide
    rw [BitVec.toNat_and, e1, e2, Nat.and_two_pow_sub_one_eq_mod]
  show IntKind.u64.wrap ((BitVec.ofInt IntKind.u64.bits (n : Int) &&& BitVec.ofInt IntKind.u64.bits 255).toNat : Int) = _
  rw [e, wrap_u64, Int.emod_eq_of_lt (by omega) (by omega)]; omega
theorem numOf_mid {b : List UInt8} {i : Nat} (h : i < b.length) (h1 : 1 ≤ i) (d : UInt8) : numOf 0 ((b.take (i + 1)).drop 1) = numOf 0 ((b.take i).drop 1) * 256 + (b.getD i d).toNat := by
  rw [List.take_succ_eq_append_getElem h, List.drop_append_of_le_length (by rw [List.length_take]; omega), numOf_app, List.getD_eq_getElem?_getD, List.getElem?_eq_getElem h]
  rfl
theorem fdiv_bnd {x : Int} (h0 : 0 ≤ x) (h1 : x < 18446744073709551616) (k : Nat) : 0 ≤ Int.fdiv x (2 ^ k) ∧ Int.fdiv x (2 ^ k) < 18446744073709551616 := by
  have hp : (0 : Int) < 2 ^ k := Int.pow_pos (by decide)
  rw [Int.fdiv_eq_ediv_of_nonneg _ (Int.le_of_lt hp)]
  exact ⟨Int.ediv_nonneg h0 (Int.le_of_lt hp), Int.lt_of_le_of_lt (Int.ediv_le_self _ h0) h1⟩
theorem rTake_len (w : BF) (n : Nat) : (rTake w n).1.length ≤ n := by
  unfold rTake
  cases w.2 || decide (w.1.length < n) with
  | true => simp
  | false => simp only [cond_false, List.length_take]; omega
def rNum (r : BF) (n : Nat) : Int × BF := ((numOf 0 (rTake r n).1 : Nat), (rTake r n).2)
def rShort (r : BF) : List UInt8 × BF := rTake (rNum r 1).2 (numOf 0 (rTake r 1).1)
def rdCell (r : BF) : Cell × BF := (⟨(rShort r).1, (rNum (rShort r).2 2).1, (rNum (rNum (rShort r).2 2).2 2).1⟩, (rNum (rNum (rShort r).2 2).2 2).2)
def rEnded (r : BF) : Bool := !r.2 && (r.1.length : Int) == 0
/-! Values. -/
def vRight (v : Val) : Bool :=
  bif v.kind == 0 then (bif v.n == 0 then v.s == [] else false) else
  bif v.kind == 1 then v.s == [] else
  bif v.kind == 2 then (bif v.n == 0 then decide ((v.s.length : Int) ≤ 200) else false) else
  bif v.kind == 3 then (bif v.n == 0 then v.s == [] else bif v.n == 1 then v.s == [] else false) else
  bif v.kind == 4 then (bif decide (v.n ≥ 1) then (bif decide (v.n ≤ 7) then v.s == [] else false) else false) else false
abbrev b0 (b : List UInt8) (i : Nat) : Nat := (b.getD i 0).toNat
/-- How many bytes a value has that begins so. -/
def vSize (b : List UInt8) : Int :=
  bif decide ((b.length : Int) < 1) then -1 else
  bif (b0 b 0 : Int) == 0 then 1 else
  bif (b0 b 0 : Int) == 1 then 9 else
  bif (b0 b 0 : Int) == 3 || (b0 b 0 : Int) == 4 then 2 else
  bif decide ((b.length : Int) > 1) then 2 + (b0 b 1 : Int) else -1
theorem vSize_1 {b : List UInt8} (h : ¬ vSize b < 0) : 1 ≤ vSize b ∧ 0 < b.length ∧ (((b0 b 0 : Int) == 0) = false → 2 ≤ vSize b) ∧ (((b0 b 0 : Int) == 1 || (b0 b 0 : Int) == 3 || (b0 b 0 : Int) == 4) = true → vSize b ≤ 9) := by
  unfold vSize at h ⊢
  cases hl : decide ((b.length : Int) < 1) with
  | true => rw [hl] at h; simp at h
  | false =>
  have hl' : ¬ ((b.length : Int) < 1) := by simpa using hl
  rw [hl] at h
  simp only [cond_false] at h ⊢
  refine ⟨?_, by omega, ?_, ?_⟩
  all_goals
    cases k0 : ((b0 b 0 : Int) == 0) <;> cases k1 : ((b0 b 0 : Int) == 1) <;> cases k3 : ((b0 b 0 : Int) == 3) <;> cases k4 : ((b0 b 0 : Int) == 4) <;> rw [k0, k1, k3, k4] at h <;> cases hm : decide ((b.length : Int) > 1) <;> rw [hm] at h <;> simp at h ⊢ <;> omega
/-- What is read, how much of it, and whether that is a value. -/
def vTail (v : Val) (s : Int) : Val × Int × Int := bif !vRight v then (⟨0, 0, []⟩, 0, 2) else (v, s, 0)
def vRead (b : List UInt8) : Val × Int × Int :=
  bif decide (vSize b < 0) || decide (vSize b > b.length) then (⟨0, 0, []⟩, 0, 2) else
  bif (b0 b 0 : Int) == 0 then vTail ⟨b0 b 0, 0, []⟩ (vSize b) else
  bif (b0 b 0 : Int) == 1 || (b0 b 0 : Int) == 3 || (b0 b 0 : Int) == 4 then vTail ⟨b0 b 0, IntKind.wrap .i64 (numOf 0 ((b.take (vSize b).toNat).drop 1) : Nat), []⟩ (vSize b) else
  vTail ⟨b0 b 0, 0, (b.take (vSize b).toNat).drop 2⟩ (vSize b)
/-- A value's bytes. -/
def vBytes (v : Val) : List UInt8 :=
  bif !vRight v then [] else
  bif v.kind == 1 then [bt v.kind] ++ be (IntKind.wrap .u64 v.n) 8 else
  bif v.kind == 2 then [bt v.kind] ++ [bt v.s.length] ++ v.s else
  bif v.kind == 3 || v.kind == 4 then [bt v.kind] ++ [bt v.n] else [bt v.kind]
theorem vBytes_len (v : Val) : (vBytes v).length ≤ 202 := by
  unfold vBytes
  cases hr : vRight v with
  | false => simp
  | true =>
  simp only [Bool.not_true, cond_false]
  cases h1 : (v.kind == (1 : Int)) with
  | true => simp [be_len]
  | false =>
  cases h2 : (v.kind == (2 : Int)) with
  | true =>
    have hs : (v.s.length : Int) ≤ 200 := by
      have k0 : (v.kind == (0 : Int)) = false := by have : v.kind = 2 := by simpa using h2
                                                    rw [this]; rfl
      unfold vRight at hr; rw [k0, h1, h2] at hr
      cases hn : (v.n == (0 : Int)) with
      | false => rw [hn] at hr; cases hr
      | true => rw [hn] at hr; exact of_decide_eq_true hr
    simp; omega
  | false =>
    simp only [cond_false]
    cases (v.kind == (3 : Int)) || (v.kind == (4 : Int)) <;> simp
def wShown (w : BF) (x : Shown) : BF := ((wCell w x.cell).1 ++ vBytes x.val, (wCell w x.cell).2 || !vRight x.val)
theorem wShown_len (w : BF) (x : Shown) : (wShown w x).1.length ≤ w.1.length + 462 := by
  unfold wShown
  have h1 := wCell_len w x.cell
  have h2 := vBytes_len x.val
  simp only [List.length_append]; omega
theorem vRead_n (b : List UInt8) : 0 ≤ (vRead b).2.1 := by
  unfold vRead
  cases hz : (decide (vSize b < 0) || decide (vSize b > b.length)) with
  | true => simp
  | false =>
    have : ¬ vSize b < 0 := by simp only [Bool.or_eq_false_iff, decide_eq_false_iff_not] at hz; exact hz.1
    have ht (v : Val) : 0 ≤ (vTail v (vSize b)).2.1 := by
      unfold vTail
      cases vRight v <;> simp <;> omega
    simp only [cond_false]
    cases (b0 b 0 : Int) == 0 with
    | true => exact ht _
    | false =>
      cases ((b0 b 0 : Int) == 1 || (b0 b 0 : Int) == 3 || (b0 b 0 : Int) == 4) with
      | true => exact ht _
      | false => exact ht _
/-- A cell and its value, read. -/
def rdShown (r : BF) : Shown × BF :=
  (⟨(rdCell r).1, (vRead (rdCell r).2.1).1⟩, (rTake ((rdCell r).2.1, (rdCell r).2.2 || (vRead (rdCell r).2.1).2.2 != 0) (vRead (rdCell r).2.1).2.1.toNat).2)
def zRange : Range := ⟨⟨[], 0, 0⟩, ⟨[], 0, 0⟩⟩
/-- An edit, read. -/
def rdEdit (b : List UInt8) : Edit × BF :=
  let r := (rTake (b, false) 1).2
  let k : Int := (numOf 0 (rTake (b, false) 1).1 : Nat)
  bif k == 1 then (⟨k, (rdCell r).1, [], (rShort (rdCell r).2).1, zRange⟩, (rShort (rdCell r).2).2) else
  bif k == 2 then (⟨k, (rdCell r).1, [], [], zRange⟩, (rdCell r).2) else
  bif k == 3 || k == 4 then (⟨k, ⟨[], 0, 0⟩, (rShort r).1, [], zRange⟩, (rShort r).2) else
  bif k == 5 then (⟨k, ⟨[], 0, 0⟩, (rShort r).1, (rShort (rShort r).2).1, zRange⟩, (rShort (rShort r).2).2) else
  bif k == 8 then (⟨k, ⟨[], 0, 0⟩, [], [], ⟨(rdCell r).1, (rdCell (rdCell r).2).1⟩⟩, (rdCell (rdCell r).2).2) else
  bif k == 6 || k == 7 || k == 9 then (⟨k, ⟨[], 0, 0⟩, [], [], zRange⟩, r) else (⟨k, ⟨[], 0, 0⟩, [], [], zRange⟩, (r.1, true))
def rdTail (x : Edit × BF) : Edit × Int := bif !rEnded x.2 then (⟨0, ⟨[], 0, 0⟩, [], [], zRange⟩, 2) else (x.1, 0)
/-! The document's own. -/
def dShort (b s : List UInt8) : BF := bif decide (255 < s.length) then ([], false) else (b ++ [bt s.length] ++ s, true)
def dCellIn (c : Cell) : Bool := !(decide (c.col < 0) || decide (c.col > 65535) || decide (c.row < 0) || decide (c.row > 65535))
def dCell (b : List UInt8) (c : Cell) : BF :=
  bif dCellIn c then ((dShort b c.sheet).1 ++ (be c.col 2 ++ be c.row 2), (dShort b c.sheet).2) else ([], false)
theorem dShort_len (b s : List UInt8) : (dShort b s).1.length ≤ b.length + 256 := by
  unfold dShort
  cases h : decide (255 < s.length) with
  | true => simp
  | false =>
    have : ¬ (255 < s.length) := by simpa using h
    simp only [cond_false, List.length_append, List.length_singleton]; omega
theorem dCell_len (b : List UInt8) (c : Cell) : (dCell b c).1.length ≤ b.length + 260 := by
  unfold dCell
  have := dShort_len b c.sheet
  cases h : dCellIn c with
  | false => simp
  | true => simp only [cond_true, List.length_append, be_len]; omega
/-- An edit's bytes. -/
def dEditOf (e : Edit) : List UInt8 × Bool × Bool :=
  bif e.kind == 1 then ((dShort (dCell [bt e.kind] e.cell).1 e.text).1, (dCell [bt e.kind] e.cell).2, (dShort (dCell [bt e.kind] e.cell).1 e.text).2) else
  bif e.kind == 2 then ((dCell [bt e.kind] e.cell).1, (dCell [bt e.kind] e.cell).2, true) else
  bif e.kind == 3 || e.kind == 4 then ((dShort [bt e.kind] e.name).1, (dShort [bt e.kind] e.name).2, true) else
  bif e.kind == 5 then ((dShort (dShort [bt e.kind] e.name).1 e.text).1, (dShort [bt e.kind] e.name).2, (dShort (dShort [bt e.kind] e.name).1 e.text).2) else
  bif e.kind == 8 then ((dCell (dCell [bt e.kind] e.range.from_).1 e.range.to).1, (dCell [bt e.kind] e.range.from_).2, (dCell (dCell [bt e.kind] e.range.from_).1 e.range.to).2) else
  ([bt e.kind], true, true)
def dEditO (e : Edit) : Bool := decide (e.kind < 1) || decide (e.kind > 9) || (!(dEditOf e).2.1 || !(dEditOf e).2.2)
def dEdit (e : Edit) : List UInt8 :=
  bif decide (e.kind < 1) || decide (e.kind > 9) then [] else bif !(dEditOf e).2.1 || !(dEditOf e).2.2 then [] else (dEditOf e).1
/-- The cells of a reply, written. -/
def dCells : List UInt8 → List Shown → List UInt8 × Bool
  | b, [] => (b, true)
  | b, x :: l => bif !(dCell b x.cell).2 || ((vBytes x.val).length : Int) == 0 then ([], false) else dCells ((dCell b x.cell).1 ++ vBytes x.val) l
/-- Cells of a reply, read. -/
def rdCells : Nat → BF → List Shown → List Shown × BF
  | 0, w, acc => (acc, w)
  | k + 1, w, acc => bif w.2 then (acc, w) else rdCells k (rdShown w).2 (acc ++ [(rdShown w).1])
theorem drop_at' {α : Type} {l : List α} {n : Nat} {d : α} (h : n < l.length) : l.drop n = l.getD n d :: l.drop (n + 1) := by
  rw [List.drop_eq_getElem_cons h, List.getD_eq_getElem?_getD, List.getElem?_eq_getElem h]; rfl
theorem be4 {x : Int} (h0 : 0 ≤ x) (h1 : x ≤ 2147483647) : be x 4 = [UInt8.ofNat (Int.toNat (IntKind.wrap IntKind.u8 (Int.fdiv x ((2 : Int) ^ min (24 : Nat) (IntKind.bits IntKind.i64))))),
    UInt8.ofNat (Int.toNat (IntKind.wrap IntKind.u8 (bitsOp BinOp.and IntKind.i64 (Int.fdiv x ((2 : Int) ^ min (16 : Nat) (IntKind.bits IntKind.i64))) (255 : Int)))),
    UInt8.ofNat (Int.toNat (IntKind.wrap IntKind.u8 (bitsOp BinOp.and IntKind.i64 (Int.fdiv x ((2 : Int) ^ min (8 : Nat) (IntKind.bits IntKind.i64))) (255 : Int)))),
    UInt8.ofNat (Int.toNat (IntKind.wrap IntKind.u8 (bitsOp BinOp.and IntKind.i64 x (255 : Int))))] := by
  have f (k : Nat) : 0 ≤ Int.fdiv x (2 ^ k) ∧ Int.fdiv x (2 ^ k) ≤ 9223372036854775807 := by
    have hp : (0 : Int) < 2 ^ k := Int.pow_pos (by decide)
    rw [Int.fdiv_eq_ediv_of_nonneg _ (Int.le_of_lt hp)]
    exact ⟨Int.ediv_nonneg h0 (Int.le_of_lt hp), Int.le_trans (Int.ediv_le_self _ h0) (by omega)⟩
  have m16 : min (16 : Nat) (IntKind.bits IntKind.i64) = 16 := rfl
  have m8 : min (8 : Nat) (IntKind.bits IntKind.i64) = 8 := rfl
  rw [m16, m8, and255 (f 16).1 (f 16).2, and255 (f 8).1 (f 8).2, and255 h0 (by omega)]
  show [bt (Int.fdiv x (2 ^ (8 * 3))), bt (Int.fdiv x (2 ^ (8 * 2))), bt (Int.fdiv x (2 ^ (8 * 1))), bt (Int.fdiv x (2 ^ (8 * 0)))] = [bt (Int.fdiv x (2 ^ 24)), bt (Int.fdiv x (2 ^ 16) % 256), bt (Int.fdiv x (2 ^ 8) % 256), bt (x % 256)]
  rw [bt_mod, bt_mod, bt_mod]
  simp
/-- May such a reply be? -/
def dReplyOk (r : Reply) : Bool := !(decide (r.kind < 1) || decide (r.kind > 4) || decide (r.version < 0) || decide (r.version > 2147483647) || (r.kind == 1 && (decide (r.err < 1) || decide (r.err > 10))))
def dHead (r : Reply) : List UInt8 := (bif r.kind == 1 then [bt r.kind] ++ [bt r.err] else [bt r.kind]) ++ be r.version 4
def dReply (r : Reply) : List UInt8 :=
  bif !dReplyOk r then [] else
  bif r.kind != 2 && r.kind != 3 then dHead r else
  bif decide ((r.cells.length : Int) > 65535) then [] else (dCells (dHead r ++ be (r.cells.length : Nat) 2) r.cells).1
theorem dCells_no : ∀ {l : List Shown} {b : List UInt8}, (dCells b l).2 = false → (dCells b l).1 = []
  | [], b, h => by simp [dCells] at h
  | x :: l, b, h => by
    unfold dCells at h ⊢
    cases hc : (!(dCell b x.cell).2 || ((vBytes x.val).length : Int) == 0) with
    | true => rfl
    | false => rw [hc] at h; exact dCells_no (l := l) h
/-- A reply, read. -/
def rdReply (b : List UInt8) : Reply × BF :=
  let r := (rTake (b, false) 1).2
  let k : Int := (numOf 0 (rTake (b, false) 1).1 : Nat)
  bif k == 1 then
    (⟨k, (rNum ((rNum r 1).2.1, (rNum r 1).2.2 || !(decide ((rNum r 1).1 ≥ 1) && decide ((rNum r 1).1 ≤ 10))) 4).1, (rNum r 1).1, []⟩, (rNum ((rNum r 1).2.1, (rNum r 1).2.2 || !(decide ((rNum r 1).1 ≥ 1) && decide ((rNum r 1).1 ≤ 10))) 4).2) else
  bif k == 4 then (⟨k, (rNum r 4).1, 0, []⟩, (rNum r 4).2) else
  bif k == 2 || k == 3 then (⟨k, (rNum r 4).1, 0, (rdCells ((rNum (rNum r 4).2 2).1 - 0).toNat (rNum (rNum r 4).2 2).2 []).1⟩, (rdCells ((rNum (rNum r 4).2 2).1 - 0).toNat (rNum (rNum r 4).2 2).2 []).2) else
  (⟨k, 0, 0, []⟩, (r.1, true))
def rdReplyTail (x : Reply × BF) : Reply × Int := bif !rEnded x.2 then (⟨0, 0, 0, []⟩, 2) else bif decide (x.1.version > 2147483647) then (⟨0, 0, 0, []⟩, 2) else (x.1, 0)
end Go.Rf
end
section
/-! The plain side of chapter 4: tokens. -/
namespace Go.Rf
/-- How many bytes from the beginning are so. -/
def runN (p : Int → Bool) : List UInt8 → Nat
  | [] => 0
  | c :: r => bif p (c.toNat : Int) then runN p r + 1 else 0
theorem runN_le (p : Int → Bool) : ∀ l : List UInt8, runN p l ≤ l.length
  | [] => Nat.le_refl _
  | c :: r => by
    have := runN_le p r
    simp only [runN, List.length_cons]
    cases p (c.toNat : Int) <;> simp <;> omega
/-- Where what goes on from a place ends. -/
def runE (p : Int → Bool) (s : List UInt8) (a : Nat) : Nat := a + runN p (s.drop a)
theorem drop_byt {s : List UInt8} {a : Nat} (h : a < s.length) : s.drop a = s.getD a 0 :: s.drop (a + 1) := by
  rw [List.drop_eq_getElem_cons h, List.getD_eq_getElem?_getD, List.getElem?_eq_getElem h]; rfl
theorem runE_yes {p : Int → Bool} {s : List UInt8} {a : Nat} (h : a < s.length) (hp : p (byt s a) = true) : runE p s a = runE p s (a + 1) := by
  unfold runE
  rw [drop_byt h]
  have hp' : p ((s.getD a 0).toNat : Int) = true := hp
  simp only [runN, hp', cond_true]; omega
theorem runE_no {p : Int → Bool} {s : List UInt8} {a : Nat} (hp : a < s.length → p (byt s a) = false) : runE p s a = a := by
  unfold runE
  by_cases h : a < s.length
  · rw [drop_byt h]
    have hp' : p ((s.getD a 0).toNat : Int) = false := hp h
    simp only [runN, hp', cond_false]; omega
  · rw [List.drop_eq_nil_of_le (by omega)]; rfl
theorem runE_le {p : Int → Bool} {s : List UInt8} {a : Nat} (h : a ≤ s.length) : a ≤ runE p s a ∧ runE p s a ≤ s.length := by
  unfold runE
  have := runN_le p (s.drop a)
  rw [List.length_drop] at this
  omega
/-- What stands between two quotes: whether the last one is there, the text, and how many bytes behind the first one it takes. -/
def qt : List UInt8 → Bool × List UInt8 × Nat
  | [] => (false, [], 0)
  | c :: r => if c.toNat = 34 then
      match r with
      | d :: r' => if d.toNat = 34 then ((qt r').1, 34 :: (qt r').2.1, (qt r').2.2 + 2) else (true, [], 1)
      | [] => (true, [], 1)
    else ((qt r).1, c :: (qt r).2.1, (qt r).2.2 + 1)
theorem qt_le : ∀ (m : Nat) (l : List UInt8), l.length ≤ m → (qt l).2.1.length ≤ (qt l).2.2 ∧ (qt l).2.2 ≤ l.length
  | 0, l, h => by
    obtain rfl := List.eq_nil_of_length_eq_zero (Nat.le_zero.1 h)
    simp [qt]
  | m + 1, [], _ => by simp [qt]
  | m + 1, c :: r, h => by
    simp only [List.length_cons] at h
    unfold qt
    split
    · split
      · rename_i d r'
        simp only [List.length_cons] at h
        have := qt_le m r' (by omega)
        split <;> simp <;> omega
      · simp
    · have := qt_le m r (by omega)
      simp; omega
theorem qt_char {c : UInt8} {r : List UInt8} (h : c.toNat ≠ 34) : qt (c :: r) = ((qt r).1, c :: (qt r).2.1, (qt r).2.2 + 1) := by
  rw [qt.eq_def]; simp only [h, if_false]
theorem qt_two {c d : UInt8} {r : List UInt8} (h : c.toNat = 34) (h2 : d.toNat = 34) : qt (c :: d :: r) = ((qt r).1, 34 :: (qt r).2.1, (qt r).2.2 + 2) := by
  rw [qt, if_pos h, if_pos h2]
theorem qt_end {c : UInt8} {r : List UInt8} (h : c.toNat = 34) (h2 : ∀ d r', r = d :: r' → d.toNat ≠ 34) : qt (c :: r) = (true, [], 1) := by
  cases r with
  | nil => simp [qt, h]
  | cons d r => rw [qt, if_pos h, if_neg (h2 d r rfl)]
/-- The byte there, as a number. -/
theorem byt_nat (s : List UInt8) (n : Nat) : byt s (n : Int) = ((s.getD n 0).toNat : Int) := by simp [byt]
/-- How long a sign is that begins so; 0: none does. -/
def signs : List UInt8 := [43, 45, 42, 47, 38, 61, 60, 62, 40, 41, 44, 58, 33]
def sg (l : List UInt8) : Nat :=
  if l.take 2 = [60, 62] ∨ l.take 2 = [60, 61] ∨ l.take 2 = [62, 61] then 2
  else match l with
    | c :: _ => if c ∈ signs then 1 else 0
    | [] => 0
theorem sg_le (l : List UInt8) : sg l ≤ l.length := by
  unfold sg
  split
  · rename_i h
    rcases h with h | h | h <;> (have := congrArg List.length h; simp at this; omega)
  · split
    · split <;> simp
    · simp
def seg (s : List UInt8) (a e : Nat) : List UInt8 := (s.take e).drop a
/-- The token at a place, where it ends, and whether there is one. -/
def nxF (s : List UInt8) (n : Nat) (k : Int) (e : Nat) : Tok × Nat × Bool := (⟨k, n, seg s n e⟩, e, decide (n < e))
def nx (s : List UInt8) (n : Nat) : Tok × Nat × Bool :=
  if dg (byt s n) then nxF s n 1 (runE dg s n)
  else if gr (byt s n) then nxF s n 3 (runE (fun c => gr c || dg c) s n)
  else if sm (byt s n) then nxF s n 4 (runE (fun c => sm c || dg c) s n)
  else if byt s n == 34 then
    if (qt (s.drop (n + 1))).1 then (⟨2, n, (qt (s.drop (n + 1))).2.1⟩, n + 1 + (qt (s.drop (n + 1))).2.2, true) else (⟨2, n, []⟩, 0, false)
  else nxF s n 5 (n + sg (s.drop n))
theorem nx_le {s : List UInt8} {n : Nat} (h : n < s.length) (hb : (nx s n).2.2 = true) : n < (nx s n).2.1 ∧ (nx s n).2.1 ≤ s.length := by
  have hr : ∀ p, runE p s n ≤ s.length := fun p => (runE_le (by omega)).2
  unfold nx at hb ⊢
  split
  · rename_i h1; rw [if_pos h1] at hb; exact ⟨by simpa [nxF] using hb, hr _⟩
  rename_i h1; rw [if_neg h1] at hb
  split
  · rename_i h1; rw [if_pos h1] at hb; exact ⟨by simpa [nxF] using hb, hr _⟩
  rename_i h1; rw [if_neg h1] at hb
  split
  · rename_i h1; rw [if_pos h1] at hb; exact ⟨by simpa [nxF] using hb, hr _⟩
  rename_i h1; rw [if_neg h1] at hb
  split
  · rename_i h1; rw [if_pos h1] at hb
    split
    · have := qt_le _ (s.drop (n + 1)) (Nat.le_refl _)
      rw [List.length_drop] at this
      exact ⟨by show n < n + 1 + _; omega, by show n + 1 + _ ≤ _; omega⟩
    · rename_i h2; rw [if_neg h2] at hb; cases hb
  · rename_i h1; rw [if_neg h1] at hb
    have := sg_le (s.drop n)
    rw [List.length_drop] at this
    exact ⟨by simpa [nxF] using hb, by simp only [nxF]; omega⟩
/-- All tokens from a place on: whether all is well, the tokens, and where it ended. -/
def spl (s : List UInt8) (n : Nat) (o : List Tok) : Bool × List Tok × Nat :=
  if h : n < s.length then
    if byt s n == 32 then spl s (n + 1) o
    else if hb : (nx s n).2.2 = true then
      have := nx_le h hb
      spl s (nx s n).2.1 (o ++ [(nx s n).1])
    else (false, o, n)
  else (true, o, n)
  termination_by s.length - n
theorem spl_tok {s : List UInt8} {n e : Nat} {o : List Tok} {t : Tok} (h : n < s.length) (h32 : (byt s n == 32) = false) (hn : nx s n = (t, e, true)) : spl s n o = spl s e (o ++ [t]) := by
  rw [spl, dif_pos h, if_neg (by rw [h32]; simp), dif_pos (by rw [hn])]
  show spl s (nx s n).2.1 (o ++ [(nx s n).1]) = _
  rw [hn]
theorem spl_blank {s : List UInt8} {n : Nat} {o : List Tok} (h : n < s.length) (h32 : (byt s n == 32) = true) : spl s n o = spl s (n + 1) o := by rw [spl, dif_pos h, if_pos h32]
theorem spl_end {s : List UInt8} {n : Nat} {o : List Tok} (h : s.length ≤ n) : spl s n o = (true, o, n) := by rw [spl, dif_neg (by omega)]
theorem spl_bad {s : List UInt8} {n : Nat} {o : List Tok} (h : n < s.length) (h32 : (byt s n == 32) = false) (hn : (nx s n).2.2 = false) : spl s n o = (false, o, n) := by
  rw [spl, dif_pos h, if_neg (by rw [h32]; simp), dif_neg (by rw [hn]; simp)]
theorem spl_len (s : List UInt8) : ∀ (m n : Nat) (o : List Tok), s.length - n ≤ m → (spl s n o).2.1.length ≤ o.length + (s.length - n)
  | 0, n, o, h => by rw [spl_end (by omega)]; simp
  | m + 1, n, o, h => by
    by_cases lt : n < s.length
    · cases h32 : (byt s n == 32) with
      | true => rw [spl_blank lt h32]; have := spl_len s m (n + 1) o (by omega); omega
      | false =>
        cases hn : (nx s n).2.2 with
        | true =>
          obtain ⟨h1, h2⟩ := nx_le lt hn
          rw [spl_tok lt h32 (t := (nx s n).1) (e := (nx s n).2.1) (by rw [← hn])]
          have := spl_len s m (nx s n).2.1 (o ++ [(nx s n).1]) (by omega)
          simp at this; omega
        | false => rw [spl_bad lt h32 hn]; simp
    · rw [spl_end (by omega)]; simp
/-- What the tokens of a text are. -/
def splitR (s : List UInt8) : List Tok × Int × Int :=
  if 200 < s.length then ([], 0, 5) else if (spl s 0 []).1 then ((spl s 0 []).2.1, -1, 0) else ([], (spl s 0 []).2.2, 3)
theorem splitR_len (s : List UInt8) : (splitR s).1.length ≤ 200 ∧ (splitR s).1.length ≤ s.length := by
  unfold splitR
  have := spl_len s _ 0 [] (Nat.le_refl _)
  simp at this
  split
  · simp
  · split <;> simp <;> omega
end Go.Rf
end
section
set_option linter.unusedSimpArgs false
set_option linter.unusedVariables false
noncomputable section
namespace Go.Rf
set_option maxRecDepth 100000
/-- A function of one byte that tells a truth. -/
def byteF (p : Int → Bool) : List TV' → Tree (List TV')
  | [.leaf ⟨.int .u8, c⟩ false] => .leaf [tB (p c)]
  | _ => .fail
abbrev byteS (p : Int → Bool) : Spec En := pureSpec 1 (byteF p)
theorem byte_ok {fn : Func} {f : FuncId} {p : Int → Bool} {ctx : Ctx En} (hc : CtxOk pr ctx) (hf : pr.funcs[f]? = some fn) (hB : fnB ctx fn = true) (hl : loopsIn (codeOf fn) = []) (hn : ctx.np = 1)
    (law : ∀ c, (fnRun ctx fn (codeOf fn) [tU c] (anys 1)).reach ([tB (p c)], anys 1)) : SpecOk pr f (byteS p) := by
  refine pureOk hc mixed hf hB (no_loop hl) hn fun xs r h => ?_
  unfold byteF at h
  split at h
  · obtain rfl := h
    exact ⟨rfl, law _⟩
  · cases h
namespace token_digit
abbrev c := cx f_token_digit [] [] []
theorem fn_t (c : Int) : fnRun token_digit.c f_token_digit (codeOf f_token_digit) [tU c] (anys 1) =
  Tree.ite (decide (c ≥ (48 : Int))) (Tree.leaf ([tB (decide (c ≤ (57 : Int)))], [RV.any])) (Tree.leaf ([tB false], [RV.any])) := by kernel_rfl
theorem ok : SpecOk pr i_token_digit (byteS dg) := byte_ok (ctx := c) (cx_ok nil_ok nil_ok) h_token_digit (by kernel_rfl) (by kernel_rfl) (by kernel_rfl) fun c => by
  rw [fn_t]; by_cases h : c ≥ 48 <;> simp [Tree.reach, anys, dg, h]
end token_digit
namespace token_great
abbrev c := cx f_token_great [] [] []
theorem fn_t (c : Int) : fnRun token_great.c f_token_great (codeOf f_token_great) [tU c] (anys 1) =
  Tree.ite (decide (c ≥ (65 : Int))) (Tree.leaf ([tB (decide (c ≤ (90 : Int)))], [RV.any])) (Tree.leaf ([tB false], [RV.any])) := by kernel_rfl
theorem ok : SpecOk pr i_token_great (byteS gr) := byte_ok (ctx := c) (cx_ok nil_ok nil_ok) h_token_great (by kernel_rfl) (by kernel_rfl) (by kernel_rfl) fun c => by
  rw [fn_t]; by_cases h : c ≥ 65 <;> simp [Tree.reach, anys, gr, h]
end token_great
namespace token_small
abbrev c := cx f_token_small [] [] []
theorem fn_t (c : Int) : fnRun token_small.c f_token_small (codeOf f_token_small) [tU c] (anys 1) =
  Tree.ite (decide (c ≥ (97 : Int))) (Tree.leaf ([tB (decide (c ≤ (122 : Int)))], [RV.any])) (Tree.leaf ([tB false], [RV.any])) := by kernel_rfl
theorem ok : SpecOk pr i_token_small (byteS sm) := byte_ok (ctx := c) (cx_ok nil_ok nil_ok) h_token_small (by kernel_rfl) (by kernel_rfl) (by kernel_rfl) fun c => by
  rw [fn_t]; by_cases h : c ≥ 97 <;> simp [Tree.reach, anys, sm, h]
end token_small
namespace token_next_1
abbrev c := cx f_token_next_1 [(i_token_great, byteS gr), (i_token_digit, byteS dg)] [] []
theorem fn_t (c : Int) : fnRun token_next_1.c f_token_next_1 (codeOf f_token_next_1) [tU c] (anys 1) =
  Tree.ite (gr c) (Tree.leaf ([tB true], [RV.any])) (Tree.leaf ([tB (dg c)], [RV.any])) := by kernel_rfl
theorem ok : SpecOk pr i_token_next_1 (byteS fun c => gr c || dg c) := byte_ok (ctx := c) (cx_ok (.cons token_great.ok (.cons token_digit.ok .nil)) nil_ok) h_token_next_1 (by kernel_rfl) (by kernel_rfl) (by kernel_rfl) fun c => by
  rw [fn_t]; cases h : gr c <;> simp [Tree.reach, anys, h]
end token_next_1
namespace token_next_2
abbrev c := cx f_token_next_2 [(i_token_small, byteS sm), (i_token_digit, byteS dg)] [] []
theorem fn_t (c : Int) : fnRun token_next_2.c f_token_next_2 (codeOf f_token_next_2) [tU c] (anys 1) =
  Tree.ite (sm c) (Tree.leaf ([tB true], [RV.any])) (Tree.leaf ([tB (dg c)], [RV.any])) := by kernel_rfl
theorem ok : SpecOk pr i_token_next_2 (byteS fun c => sm c || dg c) := byte_ok (ctx := c) (cx_ok (.cons token_small.ok (.cons token_digit.ok .nil)) nil_ok) h_token_next_2 (by kernel_rfl) (by kernel_rfl) (by kernel_rfl) fun c => by
  rw [fn_t]; cases h : sm c <;> simp [Tree.reach, anys, h]
end token_next_2

/-- The functions of bytes that are handed on. -/
abbrev byteDyn : List (Nat × Spec En) := [(i_token_digit, byteS dg), (i_token_next_1, byteS fun c => gr c || dg c), (i_token_next_2, byteS fun c => sm c || dg c)]
theorem byteDyn_ok : SpAll pr byteDyn := .cons token_digit.ok (.cons token_next_1.ok (.cons token_next_2.ok .nil))
def isf (f : Nat) : Option (Int → Bool) := bif Nat.beq f i_token_digit then some dg else bif Nat.beq f i_token_next_1 then some fun c => gr c || dg c else bif Nat.beq f i_token_next_2 then some fun c => sm c || dg c else none
namespace token_run
def L0 : LoopSum En := ⟨[0, 1, 2], rS fun s => rI fun a => rF fun f => r0 (match isf f with
    | some p => .req (0 ≤ a ∧ a ≤ s.length ∧ few s.length) (.leaf (.normal, [vS s, vI (runE p s a.toNat), vF (some f)]))
    | none => .fail)⟩
def F : List TV' → Tree (List TV') := aS fun s => aI fun a => aF fun f => a0 (match isf f with
    | some p => .req (0 ≤ a ∧ a ≤ s.length ∧ few s.length) (.leaf [tI (runE p s a.toNat)])
    | none => .fail)
abbrev S : Spec En := pureSpec 3 F
abbrev c := cx f_token_run [] byteDyn [(0, L0)]
theorem isf_cases {f : Nat} {p : Int → Bool} (h : isf f = some p) : (f = i_token_digit ∧ p = dg) ∨ (f = i_token_next_1 ∧ p = fun c => gr c || dg c) ∨ (f = i_token_next_2 ∧ p = fun c => sm c || dg c) := by
  unfold isf at h
  cases h1 : Nat.beq f i_token_digit with
  | true => rw [h1] at h; injection h with h; exact .inl ⟨nbeq h1, h.symm⟩
  | false =>
    rw [h1] at h
    cases h2 : Nat.beq f i_token_next_1 with
    | true => rw [h2] at h; injection h with h; exact .inr (.inl ⟨nbeq h2, h.symm⟩)
    | false =>
      rw [h2] at h
      cases h3 : Nat.beq f i_token_next_2 with
      | true => rw [h3] at h; injection h with h; exact .inr (.inr ⟨nbeq h3, h.symm⟩)
      | false => rw [h3] at h; cases h
theorem body_t {f : Nat} {p : Int → Bool} (h : isf f = some p) (s : List UInt8) (a : Int) : bodyRun c [0, 1, 2] (lb (codeOf f_token_run) 0) [vS s, vI a, vF (some f)] =
    .ite (decide (a < s.length)) (.req (0 ≤ a ∧ a < s.length) (.ite (p (byt s a)) (.leaf (.normal, [vS s, vI (IntKind.i64.wrap (a + 1)), vF (some f)])) (.leaf (.exit 0, [vS s, vI a, vF (some f)]))))
      (.ite false (.leaf (.normal, [vS s, vI (IntKind.i64.wrap (a + 1)), vF (some f)])) (.leaf (.exit 0, [vS s, vI a, vF (some f)]))) := by
  rcases isf_cases h with ⟨rfl, rfl⟩ | ⟨rfl, rfl⟩ | ⟨rfl, rfl⟩ <;> kernel_rfl
theorem fn_t {f : Nat} {p : Int → Bool} (h : isf f = some p) (s : List UInt8) (a : Int) : fnRun c f_token_run (codeOf f_token_run) [tS s, tI a, tF (some f)] (anys 3) =
    .req (0 ≤ a ∧ a ≤ s.length ∧ few s.length) (.leaf ([tI (runE p s a.toNat)], anys 3)) := by
  rcases isf_cases h with ⟨rfl, rfl⟩ | ⟨rfl, rfl⟩ | ⟨rfl, rfl⟩ <;> kernel_rfl
theorem L0_ok : LoopOk pr c 0 (lb (codeOf f_token_run) 0) L0 := by
  refine loopOk (cx_ok nil_ok byteDyn_ok) mixed (no_loop (by kernel_rfl)) (fun vs => match vs with | [.v (.leaf ⟨.str, s⟩ _), .v (.leaf ⟨.int .i64, a⟩ _), _] => s.length - a.toNat | _ => 0) fun vs r h => ?_
  obtain ⟨s, _, rfl, g1⟩ := rS_r h
  obtain ⟨a, _, rfl, g2⟩ := rI_r g1
  obtain ⟨f, _, rfl, g3⟩ := rF_r g2
  obtain ⟨rfl, g4⟩ := r0_r g3
  split at g4
  case h_2 => cases g4
  rename_i p hp
  obtain ⟨⟨h0, h1, h2⟩, rfl⟩ := g4
  obtain ⟨n, rfl⟩ := Int.eq_ofNat_of_zero_le h0
  unfold few at h2
  simp only [Int.toNat_natCast]
  by_cases lt : (n : Int) < s.length
  · cases hb : p (byt s n) with
    | true =>
      refine ⟨(.normal, [vS s, vI ((n + 1 : Nat) : Int), vF (some f)]), ?_, ?_, ?_⟩
      · show (bodyRun c [0, 1, 2] _ _).reach _
        rw [body_t hp]
        simp [Tree.reach, lt, hb, wrap_i64 (x := (n : Int) + 1) (by omega) (by omega)]
      · simp; omega
      · show (match isf f with
          | some p => Tree.req (0 ≤ ((n + 1 : Nat) : Int) ∧ ((n + 1 : Nat) : Int) ≤ s.length ∧ few s.length) (Tree.leaf (Ex.normal, [vS s, vI (runE p s ((n + 1 : Nat) : Int).toNat), vF (some f)]))
          | none => Tree.fail).reach _
        rw [hp]
        show (0 ≤ ((n + 1 : Nat) : Int) ∧ ((n + 1 : Nat) : Int) ≤ (s.length : Nat) ∧ few s.length) ∧ _ = _
        refine ⟨⟨by omega, by omega, by unfold few; omega⟩, ?_⟩
        rw [runE_yes (a := n) (by omega) hb]; rfl
    | false =>
      refine ⟨(.exit 0, [vS s, vI n, vF (some f)]), ?_, ?_⟩
      · show (bodyRun c [0, 1, 2] _ _).reach _
        rw [body_t hp]
        simp [Tree.reach, lt, hb]
      · show _ = (_, _)
        rw [runE_no (fun _ => by simpa using hb)]; rfl
  · refine ⟨(.exit 0, [vS s, vI n, vF (some f)]), ?_, ?_⟩
    · show (bodyRun c [0, 1, 2] _ _).reach _
      rw [body_t hp]
      simp [Tree.reach, lt]
    · show _ = (_, _)
      rw [runE_no (fun _ => by omega)]; rfl
theorem ok : SpecOk pr i_token_run S := by
  refine pureOk (ctx := c) (cx_ok nil_ok byteDyn_ok) mixed h_token_run (by kernel_rfl) (one_loop (by kernel_rfl) (by kernel_rfl) L0_ok) (by kernel_rfl) fun xs r h => ?_
  obtain ⟨s, _, rfl, g1⟩ := aS_r h
  obtain ⟨a, _, rfl, g2⟩ := aI_r g1
  obtain ⟨f, _, rfl, g3⟩ := aF_r g2
  obtain ⟨rfl, g4⟩ := a0_r g3
  split at g4
  case h_2 => cases g4
  rename_i p hp
  obtain ⟨hp', rfl⟩ := g4
  exact ⟨rfl, by rw [fn_t hp]; exact ⟨hp', rfl⟩⟩
end token_run
end Go.Rf
end
end
section
set_option linter.unusedVariables false
set_option linter.unusedSimpArgs false
/-! strings.Builder: the two functions that are walked by hand: copyCheck and String. -/
namespace Go.Rf
open Go.Proofs Go.RowKit
set_option maxHeartbeats 1000000 in
set_option maxRecDepth 100000 in
theorem copyCheck_used (b : Nat) (w : World) (h0 : w.cell? ⟨b, 0, none⟩ = some (.pointer (some ⟨b, 0, none⟩))) :
    Calls Try.prog 65 #[.pointer (some ⟨b, 0, none⟩)] w fun e w' => e = .returned (.tuple #[]) ∧ w' = w := by
  obtain ⟨j, hj, _⟩ := Option.map_eq_some_iff.1 (show (Try.prog.info? 99).map (·.size) = some 2 by kernel_rfl)
  go_enter Try.func65, Try.ntmps65
  go_wp2
  rw [Lib.run_neq_ptr_same w _ Try.underlying97 hj]
  go_wp2
  go_end0
  exact ⟨rfl, rfl⟩
set_option maxHeartbeats 1000000 in
set_option maxRecDepth 100000 in
theorem copyCheck_fresh (b : Nat) (w : World) (h0 : w.cell? ⟨b, 0, none⟩ = some (.pointer none)) (hsh : w.shape? b = some (99, 2)) (hfz : w.frozen? ⟨b, 0, none⟩ = false) :
    Calls Try.prog 65 #[.pointer (some ⟨b, 0, none⟩)] w fun e w' => e = .returned (.tuple #[]) ∧ w' = w.setCell ⟨b, 0, none⟩ (.pointer (some ⟨b, 0, none⟩)) := by
  obtain ⟨j, hj, hjs⟩ := Option.map_eq_some_iff.1 (show (Try.prog.info? 99).map (·.size) = some 2 by kernel_rfl)
  go_enter Try.func65, Try.ntmps65
  go_wp2
  rw [Lib.run_to_unsafe w ⟨b, 0, none⟩ Try.underlying97 Try.underlying106 hj (by rw [hjs]; decide) hsh (Nat.zero_lt_succ 1)]
  simp only [Result.andThen]
  rw [Oper.upon_value]
  go_wp2
  rw [run_callFunc_extern Try.func67 (by kernel_rfl) (by kernel_rfl) (by kernel_rfl) (e := Extern.AbiNoEscape.same) (by kernel_rfl)]
  rw [Lib.run_noEscape]
  simp only [Result.andThen]
  rw [Oper.upon_value]
  go_wp2
  rw [Lib.run_from_unsafe w ⟨b, 0, none⟩ Try.underlying106 Try.underlying97 hj hsh (by kernel_rfl)]
  simp only [Result.andThen]
  rw [Oper.upon_value]
  go_wp2
  go_end0
  exact ⟨rfl, rfl⟩
set_option maxHeartbeats 1000000 in
set_option maxRecDepth 100000 in
theorem string_row (b g cap cells : Nat) (p : Value) (l : List UInt8) (w : World) (hbk : w.heap[b]? = some (.cells #[p, .slice (some ⟨g, 0, none⟩) l.length cap] 99 (0, 0)))
    (h0 : l ≠ []) (hnc : l.length ≤ cap) (hcm : cap ≤ maxLen) (hsh : w.shape? g = some (5, cells)) (hcc : l.length ≤ cells) (hcell : ∀ j x, l[j]? = some x → w.cell? ⟨g, j, none⟩ = some (.int .u8 x.toNat)) :
    Calls Try.prog 61 #[.pointer (some ⟨b, 0, none⟩)] w fun e w' => e = .returned (.string ⟨l.toArray⟩) ∧ w' = w.drew.freeze ⟨g, 0, none⟩ l.length := by
  have hl0 : l.length ≠ 0 := by simpa using h0
  have c1 : w.drew.cell? ⟨b, 1, none⟩ = some (.slice (some ⟨g, 0, none⟩) l.length cap) := by
    have : w.drew.heap[b]? = some (.cells #[p, .slice (some ⟨g, 0, none⟩) l.length cap] 99 (0, 0)) := hbk
    rw [Lib.cell_of_heap this]; rfl
  have hSD : (Builtin.unsafeSliceData_ #[41] 105 #[.slice (some ⟨g, 0, none⟩) l.length cap]).run Try.prog w.drew = .ok (.pointer (some ⟨g, 0, none⟩)) w.drew :=
    Lib.run_unsafeSliceData_row _ _ _ _ _ _ (by omega)
  have hUS : (Builtin.unsafeString_ #[105, 3] 9 #[.pointer (some ⟨g, 0, none⟩), .int .i64 l.length]).run Try.prog w.drew = .ok (.string ⟨l.toArray⟩) (w.drew.freeze ⟨g, 0, none⟩ l.length) :=
    Lib.run_unsafeString_row w.drew 105 3 9 5 Try.underlying105 (by kernel_rfl) g cells hsh l h0 (by omega) (by unfold maxLen at hcm; omega) (fun j x hx => by cases j <;> simpa [Addr.add] using hcell _ x hx)
  have mixed := mixed
  go_enter Try.func61, Try.ntmps61
  go_wp2
  go_region_o
  all_goals (go_wp2; go_ret; exact ⟨rfl, rfl⟩)
set_option maxHeartbeats 2000000 in
set_option maxRecDepth 100000 in
theorem string_nil (b : Nat) (p : Value) (w : World) (hbk : w.heap[b]? = some (.cells #[p, .slice none 0 0] 99 (0, 0))) :
    Calls Try.prog 61 #[.pointer (some ⟨b, 0, none⟩)] w fun e w' => e = .returned (.string ⟨#[]⟩) ∧ w' = w.drew := by
  have hUS : ∀ W : World, (Builtin.unsafeString_ #[105, 3] 9 #[.pointer none, .int .i64 0]).run Try.prog W = .ok (.string .empty) W := fun W => Lib.run_unsafeString_none W _ _ _ none
  have c1 : w.drew.cell? ⟨b, 1, none⟩ = some (.slice none 0 0) := by
    have : w.drew.heap[b]? = some (.cells #[p, .slice none 0 0] 99 (0, 0)) := hbk
    rw [Lib.cell_of_heap this]; rfl
  have hSD : (Builtin.unsafeSliceData_ #[41] 105 #[.slice none 0 0]).run Try.prog w.drew = .ok (.pointer none) w.drew := rfl
  have mixed := mixed
  go_enter Try.func61, Try.ntmps61
  go_wp2
  go_region_o
  all_goals (go_wp2; go_ret; exact ⟨rfl, rfl⟩)
set_option maxHeartbeats 2000000 in
set_option maxRecDepth 100000 in
theorem string_noroom (b g : Nat) (p : Value) (cur : Array Value) (w : World) (hbk : w.heap[b]? = some (.cells #[p, .slice (some ⟨g, 0, none⟩) 0 0] 99 (0, 0))) (hg : w.heap[g]? = some (.cells cur 5 (0, 0))) :
    Calls Try.prog 61 #[.pointer (some ⟨b, 0, none⟩)] w fun e w' => e = .returned (.string ⟨#[]⟩) ∧ Below w.heap.size w w' := by
  have hUS : ∀ (W : World) (q : Option Addr), (Builtin.unsafeString_ #[105, 3] 9 #[.pointer q, .int .i64 0]).run Try.prog W = .ok (.string .empty) W := fun W q => Lib.run_unsafeString_none W _ _ _ q
  have hlt : b < w.heap.size := by
    rcases Nat.lt_or_ge b w.heap.size with h' | h'
    · exact h'
    · simp [Array.getElem?_eq_none h'] at hbk
  have c1 : w.drew.cell? ⟨b, 1, none⟩ = some (.slice (some ⟨g, 0, none⟩) 0 0) := by
    have : w.drew.heap[b]? = some (.cells #[p, .slice (some ⟨g, 0, none⟩) 0 0] 99 (0, 0)) := hbk
    rw [Lib.cell_of_heap this]; rfl
  have hSD : (Builtin.unsafeSliceData_ #[41] 105 #[.slice (some ⟨g, 0, none⟩) 0 0]).run Try.prog w.drew = .ok (.pointer (some ⟨w.drew.heap.size, 0, none⟩)) (w.drew.alloc (.view ⟨g, 0, none⟩ 5)) :=
    Lib.run_unsafeSliceData_zero w.drew _ _ 5 Try.underlying105 ⟨g, 0, none⟩ 0 (5, cur.size) (by have hg' : w.drew.heap[g]? = some (.cells cur 5 (0, 0)) := hg; simp [World.shape?, hg'])
  have c2 : (w.drew.alloc (.view ⟨g, 0, none⟩ 5)).cell? ⟨b, 1, none⟩ = some (.slice (some ⟨g, 0, none⟩) 0 0) := by
    have : (w.drew.alloc (.view ⟨g, 0, none⟩ 5)).heap[b]? = _ := (Lib.alloc_old w.drew _ b hlt).trans hbk
    rw [Lib.cell_of_heap this]; rfl
  have c3 : (w.alloc (.view ⟨g, 0, none⟩ 5)).drew.cell? ⟨b, 1, none⟩ = some (.slice (some ⟨g, 0, none⟩) 0 0) := c2
  have c0 : w.cell? ⟨b, 1, none⟩ = some (.slice (some ⟨g, 0, none⟩) 0 0) := c1
  have mixed := mixed
  go_enter Try.func61, Try.ntmps61
  go_wp2
  go_region_o
  all_goals (go_wp2; go_ret; exact ⟨rfl, (Below.drew (Below.refl _ w)).alloc (Nat.le_refl _) _⟩)
set_option maxHeartbeats 2000000 in
set_option maxRecDepth 100000 in
theorem string_room (b g cap : Nat) (p : Value) (w : World) (hc0 : cap ≠ 0) (hbk : w.heap[b]? = some (.cells #[p, .slice (some ⟨g, 0, none⟩) 0 cap] 99 (0, 0))) :
    Calls Try.prog 61 #[.pointer (some ⟨b, 0, none⟩)] w fun e w' => e = .returned (.string ⟨#[]⟩) ∧ Below w.heap.size w w' := by
  have hUS : ∀ (W : World) (q : Option Addr), (Builtin.unsafeString_ #[105, 3] 9 #[.pointer q, .int .i64 0]).run Try.prog W = .ok (.string .empty) W := fun W q => Lib.run_unsafeString_none W _ _ _ q
  have c1 : w.drew.cell? ⟨b, 1, none⟩ = some (.slice (some ⟨g, 0, none⟩) 0 cap) := by
    have : w.drew.heap[b]? = some (.cells #[p, .slice (some ⟨g, 0, none⟩) 0 cap] 99 (0, 0)) := hbk
    rw [Lib.cell_of_heap this]; rfl
  have hSD : (Builtin.unsafeSliceData_ #[41] 105 #[.slice (some ⟨g, 0, none⟩) 0 cap]).run Try.prog w.drew = .ok (.pointer (some ⟨g, 0, none⟩)) w.drew :=
    Lib.run_unsafeSliceData_row _ _ _ _ _ _ hc0
  clear hc0
  have mixed := mixed
  go_enter Try.func61, Try.ntmps61
  go_wp2
  go_region_o
  all_goals (go_wp2; go_ret; exact ⟨rfl, Below.drew (Below.refl _ w)⟩)
end Go.Rf
end
section
set_option linter.unusedVariables false
set_option linter.unusedSimpArgs false
/-! strings.Builder, as the machine sees it. -/
noncomputable section
namespace Go.Rf
open Go.RowKit Go.Proofs
abbrev bldC (xs : List UInt8) (o : Bool) : List (Lf × Bool) := [(⟨.self, ()⟩, false), (⟨.sl 0, xs⟩, o)]
abbrev bldV (xs : List UInt8) (o : Bool) : RV' := .blk t_strings_Builder (bldC xs o)
abbrev S_copyCheck : Spec En := ⟨[], fun xs vs => match xs, vs with
  | [.leaf ⟨.ptr, some (0, 0)⟩ false], [.blk t [(⟨.self, _⟩, false), (⟨.sl 0, ys⟩, o)]] => bif Nat.beq t t_strings_Builder then .leaf ([], [bldV ys o]) else .fail
  | _, _ => .fail⟩
abbrev S_String : Spec En := ⟨[], fun xs vs => match xs, vs with
  | [.leaf ⟨.ptr, some (0, 0)⟩ false], [.blk t [(⟨.self, _⟩, false), (⟨.sl 0, ys⟩, true)]] => bif Nat.beq t t_strings_Builder then .leaf ([tS ys], [bldV ys false]) else .fail
  | _, _ => .fail⟩
theorem getc (d : Nat) (x : RV') (σ : St kindA) (r : Nat) : get ((d, x) :: σ) r = if d = r then x else get σ r := get_cons (E := En) d x σ r
theorem getb {xs : List TV'} {vs : List RV'} (h : xs.length ≤ 1000000) (j : Nat) : get (begin_ (E := En) xs vs) (bk j) = vs.getD j .any := get_begin_bk (E := En) h j
theorem hop (i : FuncId) (fn : Func) (h : (!(fn.name == "runtime.NumGoroutine") && fn.body.isSome) = true) : (fn.name == "runtime.NumGoroutine") = false ∧ fn.body = some (codeOf fn) := by
  simp only [Bool.and_eq_true, Bool.not_eq_true'] at h
  refine ⟨h.1, ?_⟩
  unfold codeOf
  cases hb : fn.body with
  | none => rw [hb] at h; simp at h
  | some c => rfl
section
variable {F Wr : Nat → Nat → Prop} {w : World} {loc : Nat → Nat} {args : Array Value} {ys : List UInt8} {o : Bool}
theorem bld_open (hx : 1 = args.size) (h : Rel (E := En) args.size F Wr ⟨w, args.size, loc⟩ loc F (begin_ [tP 0 0] [bldV ys o]) ⟨args, []⟩ w) :
    args = #[.pointer (some ⟨loc 0, 0, none⟩)] ∧ ∃ p sv, w.heap[loc 0]? = some (.cells #[p, sv] t_strings_Builder (0, 0)) ∧ (p = .pointer none ∨ p = .pointer (some ⟨loc 0, 0, none⟩)) ∧ LV (E := En) loc F w ⟨.sl 0, ys⟩ sv := by
  have h0 := h.slot 0 (by omega)
  have hv : args.getD 0 undef = .pointer (some ⟨loc 0, 0, none⟩) := h0
  refine ⟨?_, ?_⟩
  · apply Array.ext
    · simp [← hx]
    · intro j h1 h2
      have : j = 0 := by omega
      subst this
      simp only [Array.getD_eq_getD_getElem?, Array.getElem?_eq_getElem h1] at hv
      simpa using hv
  · obtain ⟨cs, h1, h2, h3⟩ := h.blk 0 t_strings_Builder (bldC ys o) rfl
    obtain ⟨l⟩ := cs
    match l, h2 with
    | [p, sv], h2 => exact ⟨p, sv, h1, h2.1, h2.2.1⟩
    | [], h2 => exact h2.elim
    | [_], h2 => exact h2.2.elim
    | _ :: _ :: _ :: _, h2 => exact h2.2.2.elim
end
theorem copyCheck_ok : SpecOk pr i_strings_Builder_copyCheck S_copyCheck := by
  intro xs vs r args w loc F Wr hx hv h hr
  dsimp only [S_copyCheck] at hr
  split at hr
  case h_2 => cases hr
  rename_i t u ys o
  cases ht : Nat.beq t t_strings_Builder with
  | false => rw [ht] at hr; cases hr
  | true =>
    rw [ht] at hr
    obtain rfl := nbeq ht
    simp only [cond_true, Tree.reach] at hr
    subst hr
    obtain ⟨rfl, p, sv, h1, hp, _⟩ := bld_open hx h
    obtain ⟨hn, hb⟩ := hop i_strings_Builder_copyCheck f_strings_Builder_copyCheck (by kernel_rfl)
    have fin : ∀ w', Rel (E := En) 1 F Wr ⟨w, 1, loc⟩ loc F (begin_ [tP 0 0] [bldV ys o]) ⟨#[.pointer (some ⟨loc 0, 0, none⟩)], []⟩ w' → CameBack (E := En) F Wr ⟨w, 1, loc⟩ ([], [bldV ys o]) (.tuple #[]) w' := by
      intro w' h'
      refine ⟨loc, F, #[], .inr ⟨by simp, rfl⟩, h'.final (T := fun _ _ => False) (by simp) rfl (fun j r hj => by simp at hj) (fun j i xs hj => by simp at hj) (fun _ _ _ f => f.elim) (fun j v hj => ?_)⟩
      cases j with
      | zero => simp at hj; subst hj; exact ⟨rfl, rfl⟩
      | succ j => simp at hj
    refine lands_of_calls h_strings_Builder_copyCheck hn hb ?_
    rcases hp with rfl | rfl
    · refine (copyCheck_fresh (loc 0) w (by simp [World.cell?, h1]) (by simp [World.shape?, h1]) (by simp [World.frozen?, h1])).mono ?_
      rintro e w' ⟨rfl, rfl⟩
      exact ⟨_, rfl, fin _ (h.setSelf rfl)⟩
    · refine (copyCheck_used (loc 0) w (by simp [World.cell?, h1])).mono ?_
      rintro e w' ⟨rfl, rfl⟩
      exact ⟨_, rfl, fin _ h⟩
theorem flat_bytes : ∀ ys : List UInt8, flat En 0 ys = ys.map fun x => (⟨.int .u8, (x.toNat : Int)⟩ : Leaf En.A)
  | [] => rfl
  | y :: ys => by
    have := flat_bytes ys
    show (leavesA 0 y ++ flat En 0 ys : List (Leaf En.A)) = _
    rw [this]; rfl
theorem flat_bytes_at (ys : List UInt8) (j : Nat) (x : UInt8) (h : ys[j]? = some x) : (flat En 0 ys)[j]? = some (⟨.int .u8, (x.toNat : Int)⟩ : Leaf En.A) := by
  have := congrArg (fun l : List (Leaf En.A) => l[j]?) (flat_bytes ys)
  refine this.trans ?_
  simp [h]
theorem String_ok : SpecOk pr i_strings_Builder_String S_String := by
  intro xs vs r args w loc F Wr hx hv h hr
  dsimp only [S_String] at hr
  split at hr
  case h_2 => cases hr
  rename_i t u ys
  cases ht : Nat.beq t t_strings_Builder with
  | false => rw [ht] at hr; cases hr
  | true =>
    rw [ht] at hr
    obtain rfl := nbeq ht
    simp only [cond_true, Tree.reach] at hr
    subst hr
    obtain ⟨rfl, p, sv, h1, hp, hsv⟩ := bld_open hx h
    obtain ⟨hn, hb⟩ := hop i_strings_Builder_String f_strings_Builder_String (by kernel_rfl)
    have hhold : Hold (E := En) loc 1 (begin_ [tP 0 0] [bldV ys true]) ⟨#[.pointer (some ⟨loc 0, 0, none⟩)], []⟩ w (bk 0) 1 0 ys sv := .blk 0 1 0 ys t_strings_Builder (bldC ys true) sv rfl rfl (by simp [World.cell?, h1])
    obtain ⟨⟨us, hlen, hown⟩, hF⟩ := h.own _ _ _ _ _ hhold
    have hlose := h.lose (b := 0) (k := 1) (i := 0) (xs := ys) (cells2 := bldC ys false) (ty := t_strings_Builder) rfl rfl rfl
    have hnol : ∀ r k i xs u, Hold (E := En) loc 1 ((bk 0, bldV ys false) :: begin_ [tP 0 0] [bldV ys true]) ⟨#[.pointer (some ⟨loc 0, 0, none⟩)], []⟩ w r k i xs u → False := by
      intro r k i xs u hh
      cases hh with
      | slot t i xs ht hg => have : r = 0 := by omega
                             subst this; cases hg
      | tup t k i xs ts us u ht hg hk hv hu => have : r = 0 := by omega
                                               subst this; cases hg
      | blk b k i xs ty cells u hg hk hu =>
        rw [getc] at hg
        by_cases e : bk 0 = bk b
        · rw [if_pos e] at hg; injection hg with e1 e2; subst e2
          match k, hk with
          | 0, hk => injection hk with hk; injection hk with _ hk; cases hk
          | 1, hk => injection hk with hk; injection hk with _ hk; cases hk
          | k + 2, hk => cases hk
        · rw [if_neg e, getb (by simp)] at hg
          obtain ⟨b', rfl⟩ : ∃ b', b = b' + 1 := ⟨b - 1, by have : b ≠ 0 := fun h => e (by rw [h]); omega⟩
          cases hg
    have fin : ∀ w' v, Rel (E := En) 1 F Wr ⟨w, 1, loc⟩ loc F ((bk 0, bldV ys false) :: begin_ [tP 0 0] [bldV ys true]) ⟨#[.pointer (some ⟨loc 0, 0, none⟩)], []⟩ w' → v = .string ⟨ys.toArray⟩ → CameBack (E := En) F Wr ⟨w, 1, loc⟩ ([tS ys], [bldV ys false]) v w' := by
      rintro w' v h' rfl
      refine ⟨loc, F, #[.string ⟨ys.toArray⟩], .inl ⟨_, rfl, rfl⟩, h'.final (T := fun _ _ => False) (by simp) rfl (fun j r hj => ?_) (fun j i xs hj => ?_) (fun _ _ _ f => f.elim) (fun j v hj => ?_)⟩
      · cases j with
        | zero => simp at hj; subst hj; exact ⟨tvr_str.2 rfl, rfl⟩
        | succ j => simp at hj
      · cases j with
        | zero => simp at hj
        | succ j => simp at hj
      · cases j with
        | zero => simp at hj; subst hj; exact ⟨by rw [getc, if_pos rfl], rfl⟩
        | succ j => simp at hj
    have hbel : ∀ w', Below w.heap.size w w' → Rel (E := En) 1 F Wr ⟨w, 1, loc⟩ loc F ((bk 0, bldV ys false) :: begin_ [tP 0 0] [bldV ys true]) ⟨#[.pointer (some ⟨loc 0, 0, none⟩)], []⟩ w' := by
      intro w' hb
      refine hlose.world (fun g o u hf hc => ⟨by rw [hb.cell (World.block_lt_of_cell? w ⟨g, o, none⟩ hc)]; exact hc, hf⟩) (fun r k i xs u g hh _ => (hnol _ _ _ _ _ hh).elim) (fun b ty cells hg => ?_) (hlose.keep.trans (Keep.below hb) (fun _ _ _ hw => hw)) (fun g o hf => Nat.lt_of_lt_of_le (hlose.dom g o hf) hb.size) hlose.old hlose.still
      obtain ⟨cs, k1, _, k3⟩ := hlose.blk b ty cells hg
      exact ⟨hb.block _ (Array.getElem?_eq_some_iff.1 k1).1, fun o => (k3 o).1⟩
    refine lands_of_calls h_strings_Builder_String hn hb ?_
    rcases hown with ⟨rfl, hz⟩ | ⟨g, cap, cur, rfl, _, hg, hnc, hcm, hcs, htake⟩
    · have : ys = [] := List.eq_nil_of_length_eq_zero hz
      subst this
      refine (string_nil (loc 0) p w h1).mono ?_
      rintro e w' ⟨rfl, rfl⟩
      exact ⟨_, rfl, fin _ _ (hbel _ (Below.drew (Below.refl _ _))) rfl⟩
    · have hs1 : sz En 0 = 1 := rfl
      rw [hs1] at hcs htake hlen
      by_cases h0 : ys = []
      · subst h0
        by_cases hc0 : cap = 0
        · subst hc0
          refine (string_noroom (loc 0) g p cur w h1 hg).mono ?_
          rintro e w' ⟨rfl, hb⟩
          exact ⟨_, rfl, fin _ _ (hbel _ hb) rfl⟩
        · refine (string_room (loc 0) g cap p w hc0 h1).mono ?_
          rintro e w' ⟨rfl, hb⟩
          exact ⟨_, rfl, fin _ _ (hbel _ hb) rfl⟩
      · obtain ⟨n, hvr⟩ : ∃ n, VR En F w n ⟨.sl 0, ys⟩ (.slice (some ⟨g, 0, none⟩) ys.length cap) := hsv
        cases n with
        | zero => simp [VR] at hvr
        | succ n =>
          obtain ⟨a', c', us', e1, _, hall, hcell⟩ := hvr
          injection e1 with e1 _ e2
          subst e1
          have hc : ∀ (j : Nat) (x : UInt8), ys[j]? = some x → w.cell? ⟨g, j, none⟩ = some (.int .u8 x.toNat) := by
            intro j x hj
            have hf : (flat En 0 ys)[j]? = some (⟨.int .u8, (x.toNat : Int)⟩ : Leaf En.A) := by
              exact flat_bytes_at ys j x hj
            obtain ⟨v, hv1, hv2⟩ := hall.get hf
            obtain ⟨ad, e3, _, hcc, _⟩ := hcell j v hv1
            injection e3 with e3; subst e3
            have : v = .int .u8 x.toNat := by
              cases n with
              | zero => simp [VR] at hv2
              | succ n => exact hv2
            subst this
            simpa using hcc
          refine (string_row (loc 0) g cap cur.size p ys w h1 h0 hnc hcm (by have hg' : w.heap[g]? = some (.cells cur t_uint8 (0, 0)) := hg; simp [World.shape?, hg']) (by rw [hcs, Nat.mul_one]; exact hnc) hc).mono ?_
          rintro e w' ⟨rfl, rfl⟩
          refine ⟨_, rfl, fin _ _ ?_ rfl⟩
          have hne : ys.length ≠ 0 := by simpa using h0
          have hdrew := hbel w.drew (Below.drew (Below.refl _ _))
          refine hdrew.frozen (g := g) (c := cur) (t := En.elem 0) (fr := (0, 0)) (fr' := (0, 0 + ys.length)) (w' := w.drew.freeze ⟨g, 0, none⟩ ys.length) hg ?_ (fun k hk => ?_) ?_ ?_ ?_ ?_ (fun r k i xs u hh _ => ?_) (fun b ty cells hgb e => ?_) (fun hlt => ?_)
          · have hg' : w.drew.heap[g]? = some (.cells cur (En.elem 0) (0, 0)) := hg
            simp [World.freeze, hne, Array.getElem?_modify, hg']
          · unfold World.freeze
            rw [if_neg hne]
            simp [Array.getElem?_modify, Ne.symm hk]
          · simp [World.freeze, hne]
          · simp [World.freeze, hne]
          · simp [World.freeze, hne]
          · simp [World.freeze, hne]
          · refine hnol r k i xs u ?_
            cases hh with
            | slot t i xs ht hg => exact .slot _ _ _ ht hg
            | tup t k i xs ts us u ht hg hk hv hu => exact .tup _ _ _ _ _ _ _ ht hg hk hv hu
            | blk b k i xs ty cells u hg hk hu => exact .blk _ _ _ _ _ _ _ hg hk hu
          · rw [getc] at hgb
            by_cases eb : bk 0 = bk b
            · obtain rfl := bk_inj eb
              exact h.apart _ _ _ _ _ g 0 t_strings_Builder _ hhold rfl rfl e
            · rw [if_neg eb, getb (by simp)] at hgb
              obtain ⟨b', rfl⟩ : ∃ b', b = b' + 1 := ⟨b - 1, by have : b ≠ 0 := fun h => eb (by rw [h]); omega⟩
              cases hgb
          · exact ⟨ys.length, (hF g rfl ys.length (by rw [hs1]; omega)).2 hlt⟩
end Go.Rf
end
end
section
/-
  DERIVED: THE SHELF's CONTRACTS AT THIS DUMP, IN PLAIN WORDS (tools/lay-plain.mjs out of 'TryShelf.lean', which tools/lay-shelf.mjs wrote): THE SAME DECLARATIONS UNDER THE SAME NAMES: 'import', 'namespace', 'open', 'def', 'theorem' AND NOTHING ELSE: no command of the shelf's: FOR A HAND-IN. Each laying: the table of numbers ('.._ren') and one theorem, a field a fact of the dump's own or the kernel's comparison; each contract: ONE APPLICATION.
-/
namespace Go.Proofs
open Go.Shelf
def Try.lays169_ren : Go.Shelf.Ren := ⟨fun | 169 => 61 | n => n, fun | 70 => 97 | 9 => 9 | 0 => 0 | 72 => 99 | 37 => 41 | 127 => 105 | 3 => 3 | 5 => 5 | n => n, fun | n => n⟩
theorem Try.lays169 : Go.Proofs.Lays.n169 Try.prog Try.lays169_ren := {
  mixed := by kernel_rfl
  f169 := Try.func61.trans (congrArg some (by kernel_rfl))
  t0 := Try.underlying0
  a0 := Try.isAgg0
  z0 := Try.sizeOf0
  v0 := Try.zeroValue0
  t3 := Try.underlying3
  a3 := Try.isAgg3
  z3 := Try.sizeOf3
  v3 := Try.zeroValue3
  t9 := Try.underlying9
  a9 := Try.isAgg9
  z9 := Try.sizeOf9
  v9 := Try.zeroValue9
  t37 := Try.underlying41
  a37 := Try.isAgg41
  z37 := Try.sizeOf41
  v37 := Try.zeroValue41
  t70 := Try.underlying97
  a70 := Try.isAgg97
  z70 := Try.sizeOf97
  v70 := Try.zeroValue97
  t72 := Try.underlying99
  a72 := Try.isAgg99
  z72 := Try.sizeOf99
  v72 := Try.zeroValue99
  t127 := Try.underlying105
  a127 := Try.isAgg105
  z127 := Try.sizeOf105
  v127 := Try.zeroValue105 }
theorem Try.Builder_Extra_169 : Builder.Extra Try.prog Try.lays169_ren := {
  sizeBuilder := by kernel_rfl
  liesBuilder := by kernel_rfl
  t5 := Try.underlying5
  a5 := Try.isAgg5
  z5 := Try.sizeOf5
  v5 := Try.zeroValue5
  infoByte := by kernel_rfl
  cellsByte := by kernel_rfl
  sizeByte := by kernel_rfl
  neB5 := by decide }
open Go.RowKit in
/-- (*strings.Builder).String: "String returns the accumulated string.": OF A BUILDER THAT HOLDS AT LEAST ONE BYTE. ✋ THE MODEL FREEZES THOSE BYTES IN THE BUFFER (unsafe.String): a later write INTO them ends the model's run without an answer; a later append BEHIND them goes on. The statement's order of evaluation is drawn: one draw. (LAID: no walk: one application.) -/
theorem Try.Builder_String (B b : Nat) (l : List UInt8) (w : World) (h : Lib.IsBuilder 99 5 B b (Lib.byteCells l) w) (h0 : l ≠ []) :
    Calls Try.prog 61 #[.pointer (some ⟨b, 0, none⟩)] w fun e w' => e = .returned (.string ⟨l.toArray⟩) ∧ Below B w w' := Any.Builder_String Try.lays169 Try.Builder_Extra_169 B b l w h h0
open Go.RowKit in
/-- (*strings.Builder).String OF A BUILDER THAT HOLDS NO BYTE: the empty string. (Its buffer is nil, or a row of which it has taken nothing yet; where that row has NO capacity the model lays one new block for unsafe.SliceData's 'some address'.) One draw. (LAID: no walk: one application.) -/
theorem Try.Builder_String_empty (B b : Nat) (w : World) (h : Lib.IsBuilder 99 5 B b [] w) (hBw : B ≤ w.heap.size) :
    Calls Try.prog 61 #[.pointer (some ⟨b, 0, none⟩)] w fun e w' => e = .returned (.string ⟨#[]⟩) ∧ Below B w w' := Any.Builder_String_empty Try.lays169 Try.Builder_Extra_169 B b w h hBw
open Go.RowKit in
/-- (*strings.Builder).String: "String returns the accumulated string.": WHATEVER THE BUILDER HOLDS. (LAID: no walk: one application.) -/
theorem Try.Builder_String_any (B b : Nat) (l : List UInt8) (w : World) (h : Lib.IsBuilder 99 5 B b (Lib.byteCells l) w) (hBw : B ≤ w.heap.size) :
    Calls Try.prog 61 #[.pointer (some ⟨b, 0, none⟩)] w fun e w' => e = .returned (.string ⟨l.toArray⟩) ∧ Below B w w' := Any.Builder_String_any Try.lays169 Try.Builder_Extra_169 B b l w h hBw
def Try.lays137_ren : Go.Shelf.Ren := ⟨fun | 137 => 62 | 217 => 66 | 266 => 68 | n => n, fun | 9 => 9 | 5 => 5 | 3 => 3 | n => n, fun | n => n⟩
theorem Try.lays137 : Go.Proofs.Lays.n137 Try.prog Try.lays137_ren := {
  mixed := by kernel_rfl
  f137 := Try.func62.trans (congrArg some (by kernel_rfl))
  f217 := Try.func66.trans (congrArg some (by kernel_rfl))
  f266 := Try.func68.trans (congrArg some (by kernel_rfl))
  t3 := Try.underlying3
  a3 := Try.isAgg3
  z3 := Try.sizeOf3
  v3 := Try.zeroValue3
  t5 := Try.underlying5
  a5 := Try.isAgg5
  z5 := Try.sizeOf5
  v5 := Try.zeroValue5
  t9 := Try.underlying9
  a9 := Try.isAgg9
  z9 := Try.sizeOf9
  v9 := Try.zeroValue9 }
open Go.RowKit in
/-- strings.IndexByte: "IndexByte returns the index of the first instance of c in s, or -1 if c is not present in s.": IT RETURNS 'Lib.indexByte s c'; the world is as it was. (LAID: no walk: one application.) -/
theorem Try.strings_IndexByte (s : ByteArray) (c : Int) (w : World) :
    Calls Try.prog 62 #[.string s, .int .u8 c] w fun e w' => e = .returned (.int .i64 (Lib.indexByte s.data.toList c.toNat.toUInt8)) ∧ w' = w := Any.strings_IndexByte Try.lays137 s c w
open Go.RowKit in
/-- (*strings.Builder).String: "String returns the accumulated string.": OF A BUILDER THAT HOLDS AT LEAST ONE BYTE. ✋ THE MODEL FREEZES THOSE BYTES IN THE BUFFER (unsafe.String): a later write INTO them ends the model's run without an answer; a later append BEHIND them goes on. The statement's order of evaluation is drawn: one draw. THE FORM '_f': IT SAYS BESIDES THAT THE BUILDER IS A BUILDER STILL ('Lib.IsBuilderF', the same bytes): SO IT CAN BE WRITTEN ON: 'b.WriteString(b.String()[:k])'. (LAID: no walk: one application.) -/
theorem Try.Builder_String_f (B b : Nat) (l : List UInt8) (w : World) (h : Lib.IsBuilderF 99 5 B b (Lib.byteCells l) w) (h0 : l ≠ []) :
    Calls Try.prog 61 #[.pointer (some ⟨b, 0, none⟩)] w fun e w' => e = .returned (.string ⟨l.toArray⟩) ∧ (Lib.IsBuilderF 99 5 B b (Lib.byteCells l) w' ∧ Below B w w') := Any.Builder_String_f Try.lays169 Try.Builder_Extra_169 B b l w h h0
open Go.RowKit in
/-- (*strings.Builder).String OF A BUILDER THAT HOLDS NO BYTE: the empty string; THE FORM '_f': a builder still. (LAID: no walk: one application.) -/
theorem Try.Builder_String_empty_f (B b : Nat) (w : World) (h : Lib.IsBuilderF 99 5 B b [] w) (hBw : B ≤ w.heap.size) :
    Calls Try.prog 61 #[.pointer (some ⟨b, 0, none⟩)] w fun e w' => e = .returned (.string ⟨#[]⟩) ∧ (Lib.IsBuilderF 99 5 B b [] w' ∧ Below B w w') := Any.Builder_String_empty_f Try.lays169 Try.Builder_Extra_169 B b w h hBw
open Go.RowKit in
/-- (*strings.Builder).String: "String returns the accumulated string.": WHATEVER THE BUILDER HOLDS; THE FORM '_f': OF A BUILDER THAT MAY HAVE BEEN READ BEFORE; AND IT IS A BUILDER STILL, holding the same bytes: it can be written on. (LAID: no walk: one application.) -/
theorem Try.Builder_String_any_f (B b : Nat) (l : List UInt8) (w : World) (h : Lib.IsBuilderF 99 5 B b (Lib.byteCells l) w) (hBw : B ≤ w.heap.size) :
    Calls Try.prog 61 #[.pointer (some ⟨b, 0, none⟩)] w fun e w' => e = .returned (.string ⟨l.toArray⟩) ∧ (Lib.IsBuilderF 99 5 B b (Lib.byteCells l) w' ∧ Below B w w') := Any.Builder_String_any_f Try.lays169 Try.Builder_Extra_169 B b l w h hBw
open Go.RowKit in
/-- (*strings.Builder).String: "String returns the accumulated string.": OF A BUILDER THAT HOLDS AT LEAST ONE BYTE. ✋ THE MODEL FREEZES THOSE BYTES IN THE BUFFER (unsafe.String): a later write INTO them ends the model's run without an answer; a later append BEHIND them goes on. The statement's order of evaluation is drawn: one draw. THE FORM '_k': OVER 'Lib.IsBuilderF' (a builder that 'String()' may have read), AND WITH THE FRAME THAT REACHES ABOVE THE BUILDER: 'Lib.OthersKept': every block that is not b and is no row of uint8's stands as it stood: the iterator of a range among them. (LAID: no walk: one application.) -/
theorem Try.Builder_String_k (B b : Nat) (l : List UInt8) (w : World) (h : Lib.IsBuilderF 99 5 B b (Lib.byteCells l) w) (h0 : l ≠ []) :
    Calls Try.prog 61 #[.pointer (some ⟨b, 0, none⟩)] w fun e w' => e = .returned (.string ⟨l.toArray⟩) ∧ (Lib.IsBuilderF 99 5 B b (Lib.byteCells l) w' ∧ Below B w w' ∧ Lib.OthersKept 5 (some b) w w') := Any.Builder_String_k Try.lays169 Try.Builder_Extra_169 B b l w h h0
open Go.RowKit in
/-- (*strings.Builder).String OF A BUILDER THAT HOLDS NO BYTE: the empty string; THE FORM '_k': OVER 'Lib.IsBuilderF' (a builder that 'String()' may have read), AND WITH THE FRAME THAT REACHES ABOVE THE BUILDER: 'Lib.OthersKept': every block that is not b and is no row of uint8's stands as it stood: the iterator of a range among them. (LAID: no walk: one application.) -/
theorem Try.Builder_String_empty_k (B b : Nat) (w : World) (h : Lib.IsBuilderF 99 5 B b [] w) (hBw : B ≤ w.heap.size) :
    Calls Try.prog 61 #[.pointer (some ⟨b, 0, none⟩)] w fun e w' => e = .returned (.string ⟨#[]⟩) ∧ (Lib.IsBuilderF 99 5 B b [] w' ∧ Below B w w' ∧ Lib.OthersKept 5 (some b) w w') := Any.Builder_String_empty_k Try.lays169 Try.Builder_Extra_169 B b w h hBw
open Go.RowKit in
/-- (*strings.Builder).String: "String returns the accumulated string.": WHATEVER THE BUILDER HOLDS; THE FORM '_k': OVER 'Lib.IsBuilderF' (a builder that 'String()' may have read), AND WITH THE FRAME THAT REACHES ABOVE THE BUILDER: 'Lib.OthersKept': every block that is not b and is no row of uint8's stands as it stood: the iterator of a range among them. (LAID: no walk: one application.) -/
theorem Try.Builder_String_any_k (B b : Nat) (l : List UInt8) (w : World) (h : Lib.IsBuilderF 99 5 B b (Lib.byteCells l) w) (hBw : B ≤ w.heap.size) :
    Calls Try.prog 61 #[.pointer (some ⟨b, 0, none⟩)] w fun e w' => e = .returned (.string ⟨l.toArray⟩) ∧ (Lib.IsBuilderF 99 5 B b (Lib.byteCells l) w' ∧ Below B w w' ∧ Lib.OthersKept 5 (some b) w w') := Any.Builder_String_any_k Try.lays169 Try.Builder_Extra_169 B b l w h hBw
def Try.lays217_ren : Go.Shelf.Ren := ⟨fun | 217 => 66 | 266 => 68 | n => n, fun | 9 => 9 | 5 => 5 | 3 => 3 | n => n, fun | n => n⟩
theorem Try.lays217 : Go.Proofs.Lays.n217 Try.prog Try.lays217_ren := {
  mixed := by kernel_rfl
  f217 := Try.func66.trans (congrArg some (by kernel_rfl))
  f266 := Try.func68.trans (congrArg some (by kernel_rfl))
  t3 := Try.underlying3
  a3 := Try.isAgg3
  z3 := Try.sizeOf3
  v3 := Try.zeroValue3
  t5 := Try.underlying5
  a5 := Try.isAgg5
  z5 := Try.sizeOf5
  v5 := Try.zeroValue5
  t9 := Try.underlying9
  a9 := Try.isAgg9
  z9 := Try.sizeOf9
  v9 := Try.zeroValue9 }
open Go.RowKit Go.Lib in
/-- internal/stringslite.IndexByte (what strings.IndexByte calls): IT RETURNS 'Lib.indexByte s c'; the world is as it was. (LAID: no walk: one application.) -/
theorem Try.stringslite_IndexByte (s : ByteArray) (c : Int) (w : World) :
    Calls Try.prog 66 #[.string s, .int .u8 c] w fun e w' => e = .returned (.int .i64 (Lib.indexByte s.data.toList c.toNat.toUInt8)) ∧ w' = w := Any.stringslite_IndexByte Try.lays217 s c w
end Go.Proofs
namespace Go.Rf
open Go.Proofs
theorem strings_IndexByte_lib (s : ByteArray) (c : Int) (w : World) : Calls Try.prog 62 #[.string s, .int .u8 c] w fun e w' => e = .returned (.int .i64 (Lib.indexByte s.data.toList c.toNat.toUInt8)) ∧ w' = w := Try.strings_IndexByte s c w
end Go.Rf
end
section
set_option linter.unusedSimpArgs false
set_option linter.unusedVariables false
noncomputable section
namespace Go.Rf
open Go.Proofs
set_option maxRecDepth 100000
namespace strings_Builder_WriteByte
def S : Spec En := ⟨[], fun xs vs => match xs, vs with
  | [.leaf ⟨.ptr, some (0, 0)⟩ false, .leaf ⟨.int .u8, c⟩ false], [.blk t [(⟨.self, _⟩, false), (⟨.sl 0, ys⟩, true)], .any] => bif Nat.beq t t_strings_Builder then
      .req (0 ≤ c ∧ c < 256) (.req (lenB ys + 1 ≤ 140737488355328) (.leaf ([.leaf ⟨.err, false⟩ false], [bldV (snocB ys (u8 c)) true, .any]))) else .fail
  | _, _ => .fail⟩
abbrev c := cx f_strings_Builder_WriteByte [(i_strings_Builder_copyCheck, S_copyCheck)] [] []
theorem fn_t (ys : List UInt8) (c : Int) : fnRun strings_Builder_WriteByte.c f_strings_Builder_WriteByte (codeOf f_strings_Builder_WriteByte) [tP 0 0, tU c] [bldV ys true, .any] =
  Tree.req (((0 : Int) ≤ c ∧ c < (256 : LT.den kindA (LT.int IntKind.u8))) ∧ True)
  (Tree.req ((List.length ys + List.length [UInt8.ofNat (Int.toNat c)]) * (1 : Nat) ≤ (140737488355328 : Nat))
    (Tree.leaf ([TV.leaf (Leaf.mk LT.err false) false], [RV.blk t_strings_Builder [(Leaf.mk LT.self (), false), (Leaf.mk (LT.sl (0 : Nat)) (ys ++ [UInt8.ofNat (Int.toNat c)]), true)], RV.any]))) := by kernel_rfl
theorem ok : SpecOk pr i_strings_Builder_WriteByte S := by
  refine fnOk (ctx := c) (cx_ok (.cons copyCheck_ok .nil) nil_ok) mixed h_strings_Builder_WriteByte (by kernel_rfl) (no_loop (by kernel_rfl)) fun xs vs r h => ?_
  dsimp only [S] at h
  split at h
  case h_2 => cases h
  rename_i c t u ys
  cases ht : Nat.beq t t_strings_Builder with
  | false => rw [ht] at h; cases h
  | true =>
    rw [ht] at h
    obtain rfl := nbeq ht
    obtain ⟨h1, h2, rfl⟩ := h
    exact ⟨rfl, (congrArg (Tree.reach · _) (fn_t ys c)).mpr ⟨⟨h1, trivial⟩, by rw [Nat.mul_one]; exact h2, rfl⟩⟩
end strings_Builder_WriteByte
namespace strings_IndexByte
def F : List TV' → Tree (List TV')
  | [.leaf ⟨.str, s⟩ false, .leaf ⟨.int .u8, c⟩ false] => .leaf [tI (Lib.indexByte s c.toNat.toUInt8)]
  | _ => .fail
abbrev S : Spec En := pureSpec 2 F
theorem ok : SpecOk pr i_strings_IndexByte S := by
  obtain ⟨hn, hb⟩ := hop i_strings_IndexByte f_strings_IndexByte (by kernel_rfl)
  refine pure_of_calls h_strings_IndexByte hn hb fun xs r h => ?_
  unfold F at h
  split at h
  case h_2 => cases h
  rename_i s c
  obtain rfl := h
  refine ⟨rfl, by simp, fun args w loc Fr hs hv => ?_⟩
  have h0 := tvr_str.1 (hv 0 _ rfl)
  have h1 := tvr_int.1 (hv 1 _ rfl)
  have ha : args = #[.string ⟨s.toArray⟩, .int .u8 c] := by
    apply Array.ext
    · simp [hs]
    · intro j g1 g2
      have : j = 0 ∨ j = 1 := by omega
      rcases this with rfl | rfl
      · simpa [Array.getD_eq_getD_getElem?, g1] using h0
      · simpa [Array.getD_eq_getD_getElem?, g1] using h1
  subst ha
  refine (strings_IndexByte_lib ⟨s.toArray⟩ c w).mono ?_
  rintro e w' ⟨rfl, rfl⟩
  refine ⟨#[_], _, rfl, .inl ⟨_, rfl, rfl⟩, rfl, RowKit.Below.refl _ _, fun j y hj => ?_⟩
  cases j with
  | zero => simp at hj; subst hj; exact ⟨tvr_int.2 (by simp), rfl, rfl⟩
  | succ j => simp at hj
end strings_IndexByte
namespace token_sign
abbrev c := cx f_token_sign [(i_strings_IndexByte, strings_IndexByte.S)] [] []
theorem fn_t (s : List UInt8) (a : Int) : fnRun token_sign.c f_token_sign (codeOf f_token_sign) [tS s, tI a] (anys 2) =
  Tree.ite (decide (IntKind.wrap IntKind.i64 (a + (2 : Int)) ≤ (↑(List.length s) : Int)))
  (Tree.req ((0 : Int) ≤ a ∧ a ≤ IntKind.wrap IntKind.i64 (a + (2 : Int)) ∧ IntKind.wrap IntKind.i64 (a + (2 : Int)) ≤ (↑(List.length s) : Int))
    (Tree.ite (List.drop (Int.toNat a) (List.take (Int.toNat (IntKind.wrap IntKind.i64 (a + (2 : Int)))) s) == [(60 : UInt8), (62 : UInt8)])
      (Tree.ite (List.drop (Int.toNat a) (List.take (Int.toNat (IntKind.wrap IntKind.i64 (a + (2 : Int)))) s) == [(60 : UInt8), (62 : UInt8)]) (Tree.leaf ([tI (IntKind.wrap IntKind.i64 (a + (2 : Int)))], [RV.any, RV.any]))
        (Tree.req ((0 : Int) ≤ a ∧ a < (↑(List.length s) : Int))
          (Tree.ite
            (decide (Lib.indexByte [(43 : UInt8), (45 : UInt8), (42 : UInt8), (47 : UInt8), (38 : UInt8), (61 : UInt8), (60 : UInt8), (62 : UInt8), (40 : UInt8), (41 : UInt8), (44 : UInt8), (58 : UInt8), (33 : UInt8)] (Nat.toUInt8 (UInt8.toNat (List.getD s (Int.toNat a) (0 : UInt8)))) ≥ (0 : Int)))
            (Tree.leaf ([tI (IntKind.wrap IntKind.i64 (a + (1 : Int)))], [RV.any, RV.any])) (Tree.leaf ([tI a], [RV.any, RV.any])))))
      (Tree.ite (List.drop (Int.toNat a) (List.take (Int.toNat (IntKind.wrap IntKind.i64 (a + (2 : Int)))) s) == [(60 : UInt8), (61 : UInt8)])
        (Tree.ite (List.drop (Int.toNat a) (List.take (Int.toNat (IntKind.wrap IntKind.i64 (a + (2 : Int)))) s) == [(60 : UInt8), (61 : UInt8)]) (Tree.leaf ([tI (IntKind.wrap IntKind.i64 (a + (2 : Int)))], [RV.any, RV.any]))
          (Tree.req ((0 : Int) ≤ a ∧ a < (↑(List.length s) : Int))
            (Tree.ite
              (decide
                (Lib.indexByte [(43 : UInt8), (45 : UInt8), (42 : UInt8), (47 : UInt8), (38 : UInt8), (61 : UInt8), (60 : UInt8), (62 : UInt8), (40 : UInt8), (41 : UInt8), (44 : UInt8), (58 : UInt8), (33 : UInt8)] (Nat.toUInt8 (UInt8.toNat (List.getD s (Int.toNat a) (0 : UInt8)))) ≥ (0 : Int)))
              (Tree.leaf ([tI (IntKind.wrap IntKind.i64 (a + (1 : Int)))], [RV.any, RV.any])) (Tree.leaf ([tI a], [RV.any, RV.any])))))
        (Tree.ite (List.drop (Int.toNat a) (List.take (Int.toNat (IntKind.wrap IntKind.i64 (a + (2 : Int)))) s) == [(62 : UInt8), (61 : UInt8)]) (Tree.leaf ([tI (IntKind.wrap IntKind.i64 (a + (2 : Int)))], [RV.any, RV.any]))
          (Tree.req ((0 : Int) ≤ a ∧ a < (↑(List.length s) : Int))
            (Tree.ite
              (decide
                (Lib.indexByte [(43 : UInt8), (45 : UInt8), (42 : UInt8), (47 : UInt8), (38 : UInt8), (61 : UInt8), (60 : UInt8), (62 : UInt8), (40 : UInt8), (41 : UInt8), (44 : UInt8), (58 : UInt8), (33 : UInt8)] (Nat.toUInt8 (UInt8.toNat (List.getD s (Int.toNat a) (0 : UInt8)))) ≥ (0 : Int)))
              (Tree.leaf ([tI (IntKind.wrap IntKind.i64 (a + (1 : Int)))], [RV.any, RV.any])) (Tree.leaf ([tI a], [RV.any, RV.any]))))))))
  (Tree.req ((0 : Int) ≤ a ∧ a < (↑(List.length s) : Int))
    (Tree.ite
      (decide (Lib.indexByte [(43 : UInt8), (45 : UInt8), (42 : UInt8), (47 : UInt8), (38 : UInt8), (61 : UInt8), (60 : UInt8), (62 : UInt8), (40 : UInt8), (41 : UInt8), (44 : UInt8), (58 : UInt8), (33 : UInt8)] (Nat.toUInt8 (UInt8.toNat (List.getD s (Int.toNat a) (0 : UInt8)))) ≥ (0 : Int)))
      (Tree.leaf ([tI (IntKind.wrap IntKind.i64 (a + (1 : Int)))], [RV.any, RV.any])) (Tree.leaf ([tI a], [RV.any, RV.any])))) := by kernel_rfl
def F : List TV' → Tree (List TV') := aS fun s => aI fun a => a0 (.req (0 ≤ a ∧ a < s.length ∧ few s.length) (.leaf [tI (a + (sg (s.drop a.toNat) : Nat))]))
abbrev S : Spec En := pureSpec 2 F
theorem idx_mem : ∀ (l : List UInt8) (c : UInt8), (Lib.indexByte l c ≥ 0) ↔ c ∈ l
  | [], c => by simp [Lib.indexByte]
  | b :: l, c => by
    have ih := idx_mem l c
    have hg := Lib.indexByte_ge l c
    unfold Lib.indexByte
    by_cases h : b = c
    · subst h; simp
    · have hb : (b == c) = false := by simpa using h
      rw [hb]
      simp only [Bool.false_eq_true, if_false, List.mem_cons]
      by_cases h1 : Lib.indexByte l c = -1
      · simp only [h1, beq_self_eq_true, if_true]
        have : c ∉ l := fun hm => by have := ih.2 hm; omega
        constructor
        · intro h2; omega
        · rintro (rfl | hm)
          · exact absurd rfl h
          · exact absurd hm this
      · have h2 : (Lib.indexByte l c == -1) = false := by simpa using h1
        rw [h2]
        simp only [Bool.false_eq_true, if_false]
        constructor
        · intro _; exact .inr (ih.1 (by omega))
        · rintro (rfl | hm)
          · exact absurd rfl h
          · have := ih.2 hm; omega
theorem ok : SpecOk pr i_token_sign S := by
  refine pureOk (ctx := c) (cx_ok (.cons strings_IndexByte.ok .nil) nil_ok) mixed h_token_sign (by kernel_rfl) (no_loop (by kernel_rfl)) (by kernel_rfl) fun xs r h => ?_
  obtain ⟨s, _, rfl, h⟩ := aS_r h
  obtain ⟨a, _, rfl, h⟩ := aI_r h
  obtain ⟨rfl, ⟨h0, h1, h2⟩, rfl⟩ := a0_r h
  refine ⟨rfl, ?_⟩
  obtain ⟨n, rfl⟩ := Int.eq_ofNat_of_zero_le h0
  unfold few at h2
  rw [fn_t, wrap_i64 (x := (n : Int) + 2) (by omega) (by omega), wrap_i64 (x := (n : Int) + 1) (by omega) (by omega)]
  have e2 : ((n : Int) + 2).toNat = n + 2 := by omega
  have ed : List.drop n (List.take (n + 2) s) = (List.drop n s).take 2 := by rw [List.drop_take]; congr 1; omega
  have hd := drop_byt (s := s) (a := n) (by omega)
  have hb : Nat.toUInt8 (UInt8.toNat (List.getD s n 0)) = List.getD s n 0 := by simp
  simp only [e2, ed, Int.toNat_natCast, hb]
  have hl1 : ∀ b, (List.drop n s).take 2 = [b, 61] ∨ (List.drop n s).take 2 = [60, b] → (n : Int) + 2 ≤ s.length := by
    rintro b (h | h) <;> (have := congrArg List.length h; simp at this; omega)
  have key : sg (List.drop n s) = if (List.drop n s).take 2 = [60, 62] ∨ (List.drop n s).take 2 = [60, 61] ∨ (List.drop n s).take 2 = [62, 61] then 2 else if List.getD s n 0 ∈ signs then 1 else 0 := by
    unfold sg; rw [hd]
  by_cases q1 : (List.drop n s).take 2 = [60, 62]
  · have := hl1 62 (.inr q1)
    simp [Tree.reach, anys, q1, key, this]; omega
  · by_cases q2 : (List.drop n s).take 2 = [60, 61]
    · have := hl1 60 (.inl q2)
      simp [Tree.reach, anys, q2, key, this]; omega
    · by_cases q3 : (List.drop n s).take 2 = [62, 61]
      · have := hl1 62 (.inl q3)
        simp [Tree.reach, anys, q3, key, this]; omega
      · have key : sg (List.drop n s) = if List.getD s n 0 ∈ signs then 1 else 0 := by rw [key, if_neg (by simp [q1, q2, q3])]
        by_cases q4 : List.getD s n 0 ∈ signs
        · rw [key, if_pos q4]
          have q5 : List.getD s n 0 ∈ ([43, 45, 42, 47, 38, 61, 60, 62, 40, 41, 44, 58, 33] : List UInt8) := q4
          simp only [decide_eq_true ((idx_mem _ _).2 q5)]
          by_cases hl : (n : Int) + 2 ≤ s.length <;> simp [Tree.reach, anys, q1, q2, q3, h1, hl] <;> omega
        · rw [key, if_neg q4]
          have q5 : ¬ List.getD s n 0 ∈ ([43, 45, 42, 47, 38, 61, 60, 62, 40, 41, 44, 58, 33] : List UInt8) := q4
          simp only [decide_eq_false (fun h => q5 ((idx_mem _ _).1 h))]
          by_cases hl : (n : Int) + 2 ≤ s.length <;> simp [Tree.reach, anys, q1, q2, q3, h1, hl] <;> omega
end token_sign
end Go.Rf
end
end
section
set_option linter.unusedSimpArgs false
set_option linter.unusedVariables false
noncomputable section
namespace Go.Rf
open Go.Proofs
set_option maxRecDepth 100000
/-- A Builder that holds such bytes, as its own. -/
def bldO (k : List UInt8 → Tree (Ex × List RV')) (cs : List (Lf × Bool)) : Tree (Ex × List RV') :=
  match cs with
  | [(⟨.self, _⟩, false), (⟨.sl 0, ys⟩, true)] => k ys
  | _ => .fail
theorem bldO_r {k : List UInt8 → Tree (Ex × List RV')} {cs : List (Lf × Bool)} {r : Ex × List RV'} (h : (bldO k cs).reach r) : ∃ ys : List UInt8, cs = bldC ys true ∧ (k ys).reach r := by
  unfold bldO at h; split at h
  case h_2 => cases h
  exact ⟨_, rfl, h⟩
namespace token_quoted
def out (s ys : List UInt8) (n : Nat) (x4 : List UInt8) (x5 : Int) (x6 : Bool) : Tree (Ex × List RV') :=
  .ite (qt (s.drop n)).1 (.leaf (.ret, [vS s, vI ((n + (qt (s.drop n)).2.2 : Nat) - 1 : Int), vS (ys ++ (qt (s.drop n)).2.1), vI (n + (qt (s.drop n)).2.2 : Nat), .kn true, .v (tP 7 0), bldV (ys ++ (qt (s.drop n)).2.1) false]))
    (.leaf (.normal, [vS s, vI (n + (qt (s.drop n)).2.2 : Nat), vS x4, vI x5, .kn x6, .v (tP 7 0), bldV (ys ++ (qt (s.drop n)).2.1) true]))
def L0 : LoopSum En := ⟨[0, 1, 4, 5, 6, 7, bk 7], rS fun s => rI fun a => rS fun x4 => rI fun x5 => rK fun x6 => rP 7 (rBlk t_strings_Builder fun cs vs => bldO (fun ys => r0 (.req (0 ≤ a ∧ a ≤ s.length ∧ few s.length ∧ ys.length ≤ a) (out s ys a.toNat x4 x5 x6)) vs) cs)⟩
abbrev c := cx f_token_quoted [(i_strings_Builder_WriteByte, strings_Builder_WriteByte.S), (i_strings_Builder_String, S_String)] [] [(0, L0)]
theorem cok : CtxOk pr c := cx_ok (.cons strings_Builder_WriteByte.ok (.cons String_ok .nil)) nil_ok
theorem body_t (s t : List UInt8) (a : Int) (x4 : List UInt8) (x5 : Int) (x6 : Bool) : bodyRun token_quoted.c [0, 1, 4, 5, 6, 7, bk 7] (lb (codeOf f_token_quoted) 0) [vS s, vI a, vS x4, vI x5, .kn x6, .v (tP 7 0), bldV t true] =
  Tree.ite (decide (a < (↑(List.length s) : Int)))
  (Tree.req ((0 : Int) ≤ a ∧ a < (↑(List.length s) : Int))
    (Tree.ite ((↑(UInt8.toNat (List.getD s (Int.toNat a) (0 : UInt8))) : Int) != (34 : Int))
      (Tree.req ((0 : Int) ≤ a ∧ a < (↑(List.length s) : Int))
        (Tree.req ((0 : LT.den (Env.A En) (LT.int IntKind.u8)) ≤ (↑(UInt8.toNat (List.getD s (Int.toNat a) (0 : UInt8))) : Int) ∧ (↑(UInt8.toNat (List.getD s (Int.toNat a) (0 : UInt8))) : Int) < (256 : LT.den (Env.A En) (LT.int IntKind.u8)))
          (Tree.req (lenB t + (1 : Nat) ≤ (140737488355328 : Nat))
            (Tree.leaf
              (Ex.normal,
                [vS s, vI (IntKind.wrap IntKind.i64 (a + (1 : Int))), vS x4, vI x5, RV.kn x6, RV.v (TV.leaf (Leaf.mk LT.ptr (some ((7 : Nat), (0 : Nat)))) false),
                  RV.blk t_strings_Builder [(Leaf.mk LT.self (), false), (Leaf.mk (LT.sl (0 : Nat)) (snocB t (u8 (↑(UInt8.toNat (List.getD s (Int.toNat a) (0 : UInt8))) : Int))), true)]])))))
      (Tree.ite (IntKind.wrap IntKind.i64 (a + (1 : Int)) == (↑(List.length s) : Int))
        (Tree.ite true (Tree.leaf (Ex.ret, [vS s, vI a, vS t, vI (IntKind.wrap IntKind.i64 (a + (1 : Int))), RV.kn true, RV.v (TV.leaf (Leaf.mk LT.ptr (some ((7 : Nat), (0 : Nat)))) false), RV.blk t_strings_Builder [(Leaf.mk LT.self (), false), (Leaf.mk (LT.sl (0 : Nat)) t, false)]]))
          (Tree.req ((0 : LT.den (Env.A En) (LT.int IntKind.u8)) ≤ (34 : Int) ∧ (34 : Int) < (256 : LT.den (Env.A En) (LT.int IntKind.u8)))
            (Tree.req (lenB t + (1 : Nat) ≤ (140737488355328 : Nat))
              (Tree.leaf
                (Ex.normal,
                  [vS s, vI (IntKind.wrap IntKind.i64 (IntKind.wrap IntKind.i64 (a + (1 : Int)) + (1 : Int))), vS x4, vI x5, RV.kn x6, RV.v (TV.leaf (Leaf.mk LT.ptr (some ((7 : Nat), (0 : Nat)))) false),
                    RV.blk t_strings_Builder [(Leaf.mk LT.self (), false), (Leaf.mk (LT.sl (0 : Nat)) (snocB t (u8 (34 : Int))), true)]])))))
        (Tree.req ((0 : Int) ≤ IntKind.wrap IntKind.i64 (a + (1 : Int)) ∧ IntKind.wrap IntKind.i64 (a + (1 : Int)) < (↑(List.length s) : Int))
          (Tree.ite ((↑(UInt8.toNat (List.getD s (Int.toNat (IntKind.wrap IntKind.i64 (a + (1 : Int)))) (0 : UInt8))) : Int) != (34 : Int))
            (Tree.leaf (Ex.ret, [vS s, vI a, vS t, vI (IntKind.wrap IntKind.i64 (a + (1 : Int))), RV.kn true, RV.v (TV.leaf (Leaf.mk LT.ptr (some ((7 : Nat), (0 : Nat)))) false), RV.blk t_strings_Builder [(Leaf.mk LT.self (), false), (Leaf.mk (LT.sl (0 : Nat)) t, false)]]))
            (Tree.req ((0 : LT.den (Env.A En) (LT.int IntKind.u8)) ≤ (34 : Int) ∧ (34 : Int) < (256 : LT.den (Env.A En) (LT.int IntKind.u8)))
              (Tree.req (lenB t + (1 : Nat) ≤ (140737488355328 : Nat))
                (Tree.leaf
                  (Ex.normal,
                    [vS s, vI (IntKind.wrap IntKind.i64 (IntKind.wrap IntKind.i64 (a + (1 : Int)) + (1 : Int))), vS x4, vI x5, RV.kn x6, RV.v (TV.leaf (Leaf.mk LT.ptr (some ((7 : Nat), (0 : Nat)))) false),
                      RV.blk t_strings_Builder [(Leaf.mk LT.self (), false), (Leaf.mk (LT.sl (0 : Nat)) (snocB t (u8 (34 : Int))), true)]])))))))))
  (Tree.leaf (Ex.exit (0 : Nat), [vS s, vI a, vS x4, vI x5, RV.kn x6, RV.v (TV.leaf (Leaf.mk LT.ptr (some ((7 : Nat), (0 : Nat)))) false), RV.blk t_strings_Builder [(Leaf.mk LT.self (), false), (Leaf.mk (LT.sl (0 : Nat)) t, true)]])) := by kernel_rfl
theorem fn_t (s : List UInt8) (a : Int) : fnRun token_quoted.c f_token_quoted (codeOf f_token_quoted) [tS s, tI a] (anys 2) =
  Tree.req ((0 : Int) ≤ IntKind.wrap IntKind.i64 (a + (1 : Int)) ∧ IntKind.wrap IntKind.i64 (a + (1 : Int)) ≤ (↑(List.length s) : Int) ∧ few (List.length s) ∧ (↑(0 : Nat) : Int) ≤ IntKind.wrap IntKind.i64 (a + (1 : Int)))
  (Tree.ite (Prod.fst (qt (List.drop (Int.toNat (IntKind.wrap IntKind.i64 (a + (1 : Int)))) s)))
    (Tree.leaf
      ([tS (Prod.fst (Prod.snd (qt (List.drop (Int.toNat (IntKind.wrap IntKind.i64 (a + (1 : Int)))) s)))), tI (↑(Int.toNat (IntKind.wrap IntKind.i64 (a + (1 : Int))) + Prod.snd (Prod.snd (qt (List.drop (Int.toNat (IntKind.wrap IntKind.i64 (a + (1 : Int)))) s)))) : Int), tB true], [RV.any, RV.any]))
    (Tree.leaf ([tS [], tI (0 : Int), tB false], [RV.any, RV.any]))) := by kernel_rfl
theorem out_char {s ys : List UInt8} {n : Nat} {x4 : List UInt8} {x5 : Int} {x6 : Bool} (h : n < s.length) (hc : (s.getD n 0).toNat ≠ 34) : out s ys n x4 x5 x6 = out s (ys ++ [s.getD n 0]) (n + 1) x4 x5 x6 := by
  unfold out
  rw [drop_byt h, qt_char hc]
  simp only [List.append_assoc, List.cons_append, List.nil_append, Nat.add_assoc, Nat.add_comm 1]
theorem out_two {s ys : List UInt8} {n : Nat} {x4 : List UInt8} {x5 : Int} {x6 : Bool} (h : n + 1 < s.length) (hc : (s.getD n 0).toNat = 34) (hd : (s.getD (n + 1) 0).toNat = 34) : out s ys n x4 x5 x6 = out s (ys ++ [34]) (n + 2) x4 x5 x6 := by
  unfold out
  rw [drop_byt (by omega), drop_byt h, qt_two hc hd]
  simp only [List.append_assoc, List.cons_append, List.nil_append, Nat.add_assoc, Nat.add_comm 2]
theorem out_end {s ys : List UInt8} {n : Nat} {x4 : List UInt8} {x5 : Int} {x6 : Bool} (h : n < s.length) (hc : (s.getD n 0).toNat = 34) (hd : n + 1 < s.length → (s.getD (n + 1) 0).toNat ≠ 34) :
    out s ys n x4 x5 x6 = .ite true (.leaf (.ret, [vS s, vI n, vS ys, vI (n + 1 : Nat), .kn true, .v (tP 7 0), bldV ys false])) (.leaf (.normal, [vS s, vI (n + 1 : Nat), vS x4, vI x5, .kn x6, .v (tP 7 0), bldV ys true])) := by
  unfold out
  rw [drop_byt h, qt_end hc (fun d r' e => by
    have l1 : n + 1 < s.length := by have := congrArg List.length e; simp at this; omega
    rw [drop_byt l1] at e; injection e with e _; rw [← e]; exact hd l1)]
  simp only [List.append_nil]
  congr 5
  simp
theorem L0_ok : LoopOk pr c 0 (lb (codeOf f_token_quoted) 0) L0 := by
  refine loopOk cok mixed (no_loop (by kernel_rfl)) (fun vs => match vs with | .v (.leaf ⟨.str, s⟩ _) :: .v (.leaf ⟨.int .i64, a⟩ _) :: _ => s.length - a.toNat | _ => 0) fun vs r h => ?_
  obtain ⟨s, _, rfl, h⟩ := rS_r h
  obtain ⟨a, _, rfl, h⟩ := rI_r h
  obtain ⟨x4, _, rfl, h⟩ := rS_r h
  obtain ⟨x5, _, rfl, h⟩ := rI_r h
  obtain ⟨x6, _, rfl, h⟩ := rK_r h
  obtain ⟨_, rfl, h⟩ := rP_r h
  obtain ⟨_, _, rfl, h⟩ := rBlk_r h
  obtain ⟨ys, rfl, h⟩ := bldO_r h
  obtain ⟨rfl, ⟨h0, h1, h2, h3⟩, h⟩ := r0_r h
  obtain ⟨n, rfl⟩ := Int.eq_ofNat_of_zero_le h0
  unfold few at h2
  have hb := body_t s ys n x4 x5 x6
  simp only [Int.toNat_natCast] at h hb
  have hb34 : ∀ b : UInt8, ((b.toNat : Int) != 34) = false ↔ b.toNat = 34 := fun b => by simp; omega
  have hb35 : ∀ b : UInt8, ((b.toNat : Int) != 34) = true ↔ b.toNat ≠ 34 := fun b => by simp; omega
  rw [wrap_i64 (x := (n : Int) + 1) (by omega) (by omega), wrap_i64 (x := (n : Int) + 1 + 1) (by omega) (by omega)] at hb
  by_cases lt : n < s.length
  · by_cases hc : (s.getD n 0).toNat = 34
    · by_cases hd : n + 1 < s.length ∧ (s.getD (n + 1) 0).toNat = 34
      · obtain ⟨l1, hd⟩ := hd
        refine ⟨(.normal, [vS s, vI ((n + 2 : Nat) : Int), vS x4, vI x5, .kn x6, .v (tP 7 0), bldV (ys ++ [34]) true]), ?_, ?_, ?_⟩
        · refine Tree.reach_of hb ?_
          refine Tree.reach_ite (fun _ => ?_) (fun hx => by simp at hx; omega)
          refine Tree.reach_req (by omega) (Tree.reach_ite (fun hx => absurd hc ((hb35 _).1 hx)) fun _ => ?_)
          refine Tree.reach_ite (fun hx => by simp at hx; omega) fun _ => Tree.reach_req (by omega) (Tree.reach_ite (fun hx => ?_) fun _ => ?_)
          · rw [show ((n : Int) + 1).toNat = n + 1 by omega] at hx; exact absurd hd ((hb35 _).1 hx)
          · exact Tree.reach_req (by decide) (Tree.reach_req (by simp only [lenB]; omega) (Tree.reach_leaf rfl))
        · simp; omega
        · rw [out_two l1 hc hd] at h
          exact ⟨⟨by omega, by omega, h2, by simp; omega⟩, h⟩
      · have hd' : n + 1 < s.length → (s.getD (n + 1) 0).toNat ≠ 34 := fun l e => hd ⟨l, e⟩
        obtain rfl := Tree.of_tt (Tree.of_eq (out_end lt hc hd') h)
        refine ⟨(.ret, _), ?_, rfl⟩
        refine Tree.reach_of hb ?_
        refine Tree.reach_ite (fun _ => ?_) (fun hx => by simp at hx; omega)
        refine Tree.reach_req (by omega) (Tree.reach_ite (fun hx => absurd hc ((hb35 _).1 hx)) fun _ => ?_)
        refine Tree.reach_ite (fun hx => ?_) fun hx => Tree.reach_req (by simp at hx; omega) (Tree.reach_ite (fun _ => ?_) fun hy => ?_)
        · exact Tree.reach_tt rfl
        · exact Tree.reach_leaf rfl
        · rw [show ((n : Int) + 1).toNat = n + 1 by omega] at hy
          exact absurd ((hb34 _).1 hy) (hd' (by simp at hx; omega))
    · refine ⟨(.normal, [vS s, vI ((n + 1 : Nat) : Int), vS x4, vI x5, .kn x6, .v (tP 7 0), bldV (ys ++ [s.getD n 0]) true]), ?_, ?_, ?_⟩
      · refine Tree.reach_of hb ?_
        refine Tree.reach_ite (fun _ => ?_) (fun hx => by simp at hx; omega)
        refine Tree.reach_req (by omega) (Tree.reach_ite (fun _ => ?_) fun hx => absurd ((hb34 _).1 hx) hc)
        refine Tree.reach_req (by omega) (Tree.reach_req ⟨Int.natCast_nonneg _, byte_lt _⟩ (Tree.reach_req (by simp only [lenB]; omega) (Tree.reach_leaf ?_)))
        rw [u8_byte]; rfl
      · simp; omega
      · rw [out_char lt hc] at h
        exact ⟨⟨by omega, by omega, h2, by simp; omega⟩, h⟩
  · have e : out s ys n x4 x5 x6 = .ite false (.leaf (.ret, [vS s, vI ((n : Nat) - 1 : Int), vS ys, vI (n : Nat), .kn true, .v (tP 7 0), bldV ys false])) (.leaf (.normal, [vS s, vI (n : Nat), vS x4, vI x5, .kn x6, .v (tP 7 0), bldV ys true])) := by
      unfold out
      rw [List.drop_eq_nil_of_le (by omega)]
      simp [qt]
    obtain rfl := Tree.of_ff (Tree.of_eq e h)
    refine ⟨(.exit 0, _), ?_, rfl⟩
    refine Tree.reach_of hb ?_
    exact Tree.reach_ite (fun hx => by simp at hx; omega) fun _ => Tree.reach_leaf rfl
def F : List TV' → Tree (List TV') := aS fun s => aI fun a => a0 (.req (0 ≤ a ∧ a < s.length ∧ few s.length)
  (.ite (qt (s.drop (a.toNat + 1))).1 (.leaf [tS (qt (s.drop (a.toNat + 1))).2.1, tI (a + 1 + (qt (s.drop (a.toNat + 1))).2.2), tB true]) (.leaf [tS [], tI 0, tB false])))
abbrev S : Spec En := pureSpec 2 F
theorem ok : SpecOk pr i_token_quoted S := by
  refine pureOk (ctx := c) cok mixed h_token_quoted (by kernel_rfl) (one_loop (by kernel_rfl) (by kernel_rfl) L0_ok) (by kernel_rfl) fun xs r h => ?_
  obtain ⟨s, _, rfl, h⟩ := aS_r h
  obtain ⟨a, _, rfl, h⟩ := aI_r h
  obtain ⟨rfl, ⟨h0, h1, h2⟩, h⟩ := a0_r h
  refine ⟨rfl, Tree.reach_of (fn_t s a) ?_⟩
  obtain ⟨n, rfl⟩ := Int.eq_ofNat_of_zero_le h0
  have h2' := h2
  unfold few at h2'
  rw [wrap_i64 (x := (n : Int) + 1) (by omega) (by omega), show ((n : Int) + 1).toNat = n + 1 by omega]
  rw [Int.toNat_natCast] at h
  refine Tree.reach_req ⟨by omega, by omega, h2, by show ((0 : Nat) : Int) ≤ _; omega⟩ ?_
  rcases h with ⟨hq, rfl⟩ | ⟨hq, rfl⟩
  · exact .inl ⟨hq, rfl⟩
  · exact .inr ⟨hq, rfl⟩
end token_quoted
end Go.Rf
end
end
section
set_option linter.unusedSimpArgs false
set_option linter.unusedVariables false
noncomputable section
namespace Go.Rf
open Go.Proofs
set_option maxRecDepth 100000
namespace token_next
def F : List TV' → Tree (List TV') := aS fun s => aI fun a => a0 (.req (0 ≤ a ∧ a < s.length ∧ few s.length) (.leaf [tTok (nx s a.toNat).1, tI (nx s a.toNat).2.1, tB (nx s a.toNat).2.2]))
abbrev S : Spec En := pureSpec 2 F
abbrev c := cx f_token_next [(i_token_digit, byteS dg), (i_token_great, byteS gr), (i_token_small, byteS sm), (i_token_run, token_run.S), (i_token_quoted, token_quoted.S), (i_token_sign, token_sign.S)] [] []
theorem cok : CtxOk pr c := cx_ok (.cons token_digit.ok (.cons token_great.ok (.cons token_small.ok (.cons token_run.ok (.cons token_quoted.ok (.cons token_sign.ok .nil)))))) nil_ok
theorem fn_t (s : List UInt8) (a : Int) : fnRun token_next.c f_token_next (codeOf f_token_next) [tS s, tI a] (anys 2) =
  Tree.req ((0 : Int) ≤ a ∧ a < (↑(List.length s) : Int))
  (Tree.ite (dg (↑(UInt8.toNat (List.getD s (Int.toNat a) (0 : UInt8))) : Int))
    (Tree.req ((0 : Int) ≤ a ∧ a ≤ (↑(List.length s) : Int) ∧ few (List.length s))
      (Tree.req ((0 : Int) ≤ a ∧ a ≤ (↑(runE dg s (Int.toNat a)) : Int) ∧ (↑(runE dg s (Int.toNat a)) : Int) ≤ (↑(List.length s) : Int))
        (Tree.leaf ([TV.agg [Leaf.mk (LT.int IntKind.i64) (1 : Int), Leaf.mk (LT.int IntKind.i64) a, Leaf.mk LT.str (List.drop (Int.toNat a) (List.take (runE dg s (Int.toNat a)) s))], tI (↑(runE dg s (Int.toNat a)) : Int), tB (decide ((↑(runE dg s (Int.toNat a)) : Int) > a))], [RV.any, RV.any]))))
    (Tree.ite (gr (↑(UInt8.toNat (List.getD s (Int.toNat a) (0 : UInt8))) : Int))
      (Tree.req ((0 : Int) ≤ a ∧ a ≤ (↑(List.length s) : Int) ∧ few (List.length s))
        (Tree.req ((0 : Int) ≤ a ∧ a ≤ (↑(runE (fun c => gr c || dg c) s (Int.toNat a)) : Int) ∧ (↑(runE (fun c => gr c || dg c) s (Int.toNat a)) : Int) ≤ (↑(List.length s) : Int))
          (Tree.leaf
            ([TV.agg [Leaf.mk (LT.int IntKind.i64) (3 : Int), Leaf.mk (LT.int IntKind.i64) a, Leaf.mk LT.str (List.drop (Int.toNat a) (List.take (runE (fun c => gr c || dg c) s (Int.toNat a)) s))], tI (↑(runE (fun c => gr c || dg c) s (Int.toNat a)) : Int),
                tB (decide ((↑(runE (fun c => gr c || dg c) s (Int.toNat a)) : Int) > a))],
              [RV.any, RV.any]))))
      (Tree.ite (sm (↑(UInt8.toNat (List.getD s (Int.toNat a) (0 : UInt8))) : Int))
        (Tree.req ((0 : Int) ≤ a ∧ a ≤ (↑(List.length s) : Int) ∧ few (List.length s))
          (Tree.req ((0 : Int) ≤ a ∧ a ≤ (↑(runE (fun c => sm c || dg c) s (Int.toNat a)) : Int) ∧ (↑(runE (fun c => sm c || dg c) s (Int.toNat a)) : Int) ≤ (↑(List.length s) : Int))
            (Tree.leaf
              ([TV.agg [Leaf.mk (LT.int IntKind.i64) (4 : Int), Leaf.mk (LT.int IntKind.i64) a, Leaf.mk LT.str (List.drop (Int.toNat a) (List.take (runE (fun c => sm c || dg c) s (Int.toNat a)) s))], tI (↑(runE (fun c => sm c || dg c) s (Int.toNat a)) : Int),
                  tB (decide ((↑(runE (fun c => sm c || dg c) s (Int.toNat a)) : Int) > a))],
                [RV.any, RV.any]))))
        (Tree.ite ((↑(UInt8.toNat (List.getD s (Int.toNat a) (0 : UInt8))) : Int) == (34 : Int))
          (Tree.req ((0 : Int) ≤ a ∧ a < (↑(List.length s) : Int) ∧ few (List.length s))
            (Tree.ite (Prod.fst (qt (List.drop (Int.toNat a + (1 : Nat)) s)))
              (Tree.leaf
                ([TV.agg [Leaf.mk (LT.int IntKind.i64) (2 : Int), Leaf.mk (LT.int IntKind.i64) a, Leaf.mk LT.str (Prod.fst (Prod.snd (qt (List.drop (Int.toNat a + (1 : Nat)) s))))], tI (a + (1 : Int) + (↑(Prod.snd (Prod.snd (qt (List.drop (Int.toNat a + (1 : Nat)) s)))) : Int)), tB true],
                  [RV.any, RV.any]))
              (Tree.leaf ([TV.agg [Leaf.mk (LT.int IntKind.i64) (2 : Int), Leaf.mk (LT.int IntKind.i64) a, Leaf.mk LT.str []], tI (0 : Int), tB false], [RV.any, RV.any]))))
          (Tree.req ((0 : Int) ≤ a ∧ a < (↑(List.length s) : Int) ∧ few (List.length s))
            (Tree.req ((0 : Int) ≤ a ∧ a ≤ a + (↑(sg (List.drop (Int.toNat a) s)) : Int) ∧ a + (↑(sg (List.drop (Int.toNat a) s)) : Int) ≤ (↑(List.length s) : Int))
              (Tree.leaf
                ([TV.agg [Leaf.mk (LT.int IntKind.i64) (5 : Int), Leaf.mk (LT.int IntKind.i64) a, Leaf.mk LT.str (List.drop (Int.toNat a) (List.take (Int.toNat (a + (↑(sg (List.drop (Int.toNat a) s)) : Int))) s))], tI (a + (↑(sg (List.drop (Int.toNat a) s)) : Int)),
                    tB (decide (a + (↑(sg (List.drop (Int.toNat a) s)) : Int) > a))],
                  [RV.any, RV.any])))))))) := by kernel_rfl
theorem ok : SpecOk pr i_token_next S := by
  refine pureOk (ctx := c) cok mixed h_token_next (by kernel_rfl) (no_loop (by kernel_rfl)) (by kernel_rfl) fun xs r h => ?_
  obtain ⟨s, _, rfl, h⟩ := aS_r h
  obtain ⟨a, _, rfl, h⟩ := aI_r h
  obtain ⟨rfl, ⟨h0, h1, h2⟩, rfl⟩ := a0_r h
  refine ⟨rfl, Tree.reach_of (fn_t s a) ?_⟩
  obtain ⟨n, rfl⟩ := Int.eq_ofNat_of_zero_le h0
  have hn : n < s.length := by omega
  simp only [Int.toNat_natCast]
  have hr := fun p => runE_le (p := p) (s := s) (a := n) (by omega)
  have hs := sg_le (s.drop n)
  rw [List.length_drop] at hs
  have hdec : ∀ e : Nat, decide ((e : Int) > (n : Int)) = decide (n < e) := fun e => by congr 1; simp
  refine Tree.reach_req ⟨h0, h1⟩ ?_
  refine Tree.reach_ite (fun c1 => ?_) fun c1 => ?_
  · refine Tree.reach_req ⟨h0, by omega, h2⟩ (Tree.reach_req ⟨h0, by have := hr dg; omega, by have := hr dg; omega⟩ (Tree.reach_leaf ?_))
    have e : nx s n = nxF s n 1 (runE dg s n) := by unfold nx; rw [byt_nat, if_pos c1]
    rw [e, hdec]; rfl
  have e1 : ¬ dg (byt s n) = true := by rw [byt_nat, c1]; simp
  refine Tree.reach_ite (fun c2 => ?_) fun c2 => ?_
  · refine Tree.reach_req ⟨h0, by omega, h2⟩ (Tree.reach_req ⟨h0, by have := hr (fun c => gr c || dg c); omega, by have := hr (fun c => gr c || dg c); omega⟩ (Tree.reach_leaf ?_))
    have e : nx s n = nxF s n 3 (runE (fun c => gr c || dg c) s n) := by unfold nx; rw [if_neg e1, byt_nat, if_pos c2]
    rw [e, hdec]; rfl
  have e2 : ¬ gr (byt s n) = true := by rw [byt_nat, c2]; simp
  refine Tree.reach_ite (fun c3 => ?_) fun c3 => ?_
  · refine Tree.reach_req ⟨h0, by omega, h2⟩ (Tree.reach_req ⟨h0, by have := hr (fun c => sm c || dg c); omega, by have := hr (fun c => sm c || dg c); omega⟩ (Tree.reach_leaf ?_))
    have e : nx s n = nxF s n 4 (runE (fun c => sm c || dg c) s n) := by unfold nx; rw [if_neg e1, if_neg e2, byt_nat, if_pos c3]
    rw [e, hdec]; rfl
  have e3 : ¬ sm (byt s n) = true := by rw [byt_nat, c3]; simp
  refine Tree.reach_ite (fun c4 => ?_) fun c4 => ?_
  · refine Tree.reach_req ⟨h0, h1, h2⟩ (Tree.reach_ite (fun c5 => Tree.reach_leaf ?_) fun c5 => Tree.reach_leaf ?_)
    · have e : nx s n = (⟨2, n, (qt (s.drop (n + 1))).2.1⟩, n + 1 + (qt (s.drop (n + 1))).2.2, true) := by unfold nx; rw [if_neg e1, if_neg e2, if_neg e3, byt_nat, if_pos c4, if_pos c5]
      rw [e]; rfl
    · have e : nx s n = (⟨2, n, []⟩, 0, false) := by unfold nx; rw [if_neg e1, if_neg e2, if_neg e3, byt_nat, if_pos c4, if_neg (by rw [c5]; simp)]
      rw [e]; rfl
  · refine Tree.reach_req ⟨h0, h1, h2⟩ (Tree.reach_req ⟨h0, by omega, by omega⟩ (Tree.reach_leaf ?_))
    have e : nx s n = nxF s n 5 (n + sg (s.drop n)) := by unfold nx; rw [if_neg e1, if_neg e2, if_neg e3, byt_nat, if_neg (by rw [c4]; simp)]
    rw [e]; simp only [nxF]; rw [← hdec]; rfl
end token_next
namespace token_Split
def out (s : List UInt8) (x2 : List Tok) (x3 x4 : Int) (o : List Tok) (n : Nat) : Tree (Ex × List RV') :=
  .ite (spl s n o).1 (.leaf (.normal, [vS s, vL 1 x2 true, vI x3, vI x4, vL 1 (spl s n o).2.1 true, vI (spl s n o).2.2])) (.leaf (.ret, [vS s, vL 1 [] true, vI (spl s n o).2.2, vI 3, vL 1 (spl s n o).2.1 true, vI (spl s n o).2.2]))
def L0 : LoopSum En := ⟨[0, 2, 3, 4, 5, 6], rS fun s => rToksO fun x2 => rI fun x3 => rI fun x4 => rToksO fun o => rI fun a => r0 (.req (0 ≤ a ∧ a ≤ s.length ∧ s.length ≤ 200 ∧ (o.length : Int) ≤ a) (out s x2 x3 x4 o a.toNat))⟩
abbrev c := cx f_token_Split [(i_token_next, token_next.S)] [] [(0, L0)]
theorem cok : CtxOk pr c := cx_ok (.cons token_next.ok .nil) nil_ok
theorem body_t (s : List UInt8) (x2 : List Tok) (x3 x4 : Int) (o : List Tok) (a : Int) : bodyRun token_Split.c [0, 2, 3, 4, 5, 6] (lb (codeOf f_token_Split) 0) [vS s, vL 1 x2 true, vI x3, vI x4, vL 1 o true, vI a] =
  Tree.ite (decide (a < (↑(List.length s) : Int)))
  (Tree.req ((0 : Int) ≤ a ∧ a < (↑(List.length s) : Int))
    (Tree.ite ((↑(UInt8.toNat (List.getD s (Int.toNat a) (0 : UInt8))) : Int) == (32 : Int)) (Tree.leaf (Ex.normal, [vS s, vL (1 : Nat) x2 true, vI x3, vI x4, vL (1 : Nat) o true, vI (IntKind.wrap IntKind.i64 (a + (1 : Int)))]))
      (Tree.req ((0 : Int) ≤ a ∧ a < (↑(List.length s) : Int) ∧ few (List.length s))
        (Tree.ite (!Prod.snd (Prod.snd (nx s (Int.toNat a)))) (Tree.leaf (Ex.ret, [vS s, vL (1 : Nat) [] true, vI a, vI (3 : Int), vL (1 : Nat) o true, vI a]))
          (Tree.req (True ∧ True)
            (Tree.req ((List.length o + List.length [Tok.mk (Tok.kind (Prod.fst (nx s (Int.toNat a)))) (Tok.at_ (Prod.fst (nx s (Int.toNat a)))) (Tok.text (Prod.fst (nx s (Int.toNat a))))]) * (32 : Nat) ≤ (140737488355328 : Nat))
              (Tree.leaf
                (Ex.normal, [vS s, vL (1 : Nat) x2 true, vI x3, vI x4, vL (1 : Nat) (o ++ [Tok.mk (Tok.kind (Prod.fst (nx s (Int.toNat a)))) (Tok.at_ (Prod.fst (nx s (Int.toNat a)))) (Tok.text (Prod.fst (nx s (Int.toNat a))))]) true, vI (↑(Prod.fst (Prod.snd (nx s (Int.toNat a)))) : Int)]))))))))
  (Tree.leaf (Ex.exit (0 : Nat), [vS s, vL (1 : Nat) x2 true, vI x3, vI x4, vL (1 : Nat) o true, vI a])) := by kernel_rfl
theorem fn_t (s : List UInt8) : fnRun token_Split.c f_token_Split (codeOf f_token_Split) [tS s] (anys 1) =
  Tree.ite (decide ((↑(List.length s) : Int) > (200 : Int))) (Tree.leaf ([tL (1 : Nat) [] true, tI (0 : Int), tI (5 : Int)], [RV.any]))
  (Tree.req ((0 : Int) ≤ (0 : Int) ∧ (0 : Int) ≤ (↑(List.length s) : Int) ∧ List.length s ≤ (200 : Nat) ∧ (↑(0 : Nat) : Int) ≤ (0 : Int))
    (Tree.ite (Prod.fst (spl s (0 : Nat) [])) (Tree.leaf ([tL (1 : Nat) (Prod.fst (Prod.snd (spl s (0 : Nat) []))) false, tI (-1 : Int), tI (0 : Int)], [RV.any])) (Tree.leaf ([tL (1 : Nat) [] true, tI (↑(Prod.snd (Prod.snd (spl s (0 : Nat) []))) : Int), tI (3 : Int)], [RV.any])))) := by kernel_rfl
theorem L0_ok : LoopOk pr c 0 (lb (codeOf f_token_Split) 0) L0 := by
  refine loopOk cok mixed (no_loop (by kernel_rfl)) (fun vs => match vs with | [.v (.leaf ⟨.str, s⟩ _), _, _, _, _, .v (.leaf ⟨.int .i64, a⟩ _)] => s.length - a.toNat | _ => 0) fun vs r h => ?_
  obtain ⟨s, _, rfl, h⟩ := rS_r h
  obtain ⟨x2, _, rfl, h⟩ := rToksO_r h
  obtain ⟨x3, _, rfl, h⟩ := rI_r h
  obtain ⟨x4, _, rfl, h⟩ := rI_r h
  obtain ⟨o, _, rfl, h⟩ := rToksO_r h
  obtain ⟨a, _, rfl, h⟩ := rI_r h
  obtain ⟨rfl, ⟨h0, h1, h2, h3⟩, h⟩ := r0_r h
  obtain ⟨n, rfl⟩ := Int.eq_ofNat_of_zero_le h0
  have hb := body_t s x2 x3 x4 o n
  simp only [Int.toNat_natCast] at h hb
  rw [wrap_i64 (x := (n : Int) + 1) (by omega) (by omega)] at hb
  by_cases lt : n < s.length
  · by_cases hc : (byt s n == 32) = true
    · refine ⟨(.normal, [vS s, vL 1 x2 true, vI x3, vI x4, vL 1 o true, vI ((n + 1 : Nat) : Int)]), Tree.reach_of hb ?_, ?_, ?_⟩
      · rw [byt_nat] at hc
        exact Tree.reach_ite (fun _ => Tree.reach_req (by omega) (Tree.reach_ite (fun _ => rfl) fun hx => by rw [hx] at hc; cases hc)) fun hx => by simp at hx; omega
      · simp; omega
      · have e : out s x2 x3 x4 o n = out s x2 x3 x4 o (n + 1) := by
          have : spl s n o = spl s (n + 1) o := by rw [spl, dif_pos lt, if_pos hc]
          unfold out; rw [this]
        exact ⟨⟨by omega, by omega, h2, by omega⟩, Tree.of_eq e h⟩
    · have hc' : (byt s n == 32) = false := by simpa using hc
      cases hn : (nx s n).2.2 with
      | true =>
        obtain ⟨hl1, hl2⟩ := nx_le lt hn
        have e : out s x2 x3 x4 o n = out s x2 x3 x4 (o ++ [(nx s n).1]) (nx s n).2.1 := by
          have : spl s n o = spl s (nx s n).2.1 (o ++ [(nx s n).1]) := by rw [spl, dif_pos lt, if_neg hc, dif_pos hn]
          unfold out; rw [this]
        refine ⟨(.normal, [vS s, vL 1 x2 true, vI x3, vI x4, vL 1 (o ++ [(nx s n).1]) true, vI ((nx s n).2.1 : Nat)]), Tree.reach_of hb ?_, ?_, ?_⟩
        · rw [byt_nat] at hc'
          refine Tree.reach_ite (fun _ => Tree.reach_req (by omega) (Tree.reach_ite (fun hx => by rw [hx] at hc'; cases hc') fun _ => ?_)) fun hx => by simp at hx; omega
          refine Tree.reach_req ⟨h0, by omega, by unfold few; omega⟩ (Tree.reach_ite (fun hx => by rw [hn] at hx; cases hx) fun _ => ?_)
          exact Tree.reach_req ⟨trivial, trivial⟩ (Tree.reach_req (by show (o.length + 1) * 32 ≤ _; omega) (Tree.reach_leaf rfl))
        · simp; omega
        · exact ⟨⟨by omega, by omega, h2, by simp; omega⟩, Tree.of_eq e h⟩
      | false =>
        have e : out s x2 x3 x4 o n = .ite false (.leaf (.normal, [vS s, vL 1 x2 true, vI x3, vI x4, vL 1 o true, vI n])) (.leaf (.ret, [vS s, vL 1 [] true, vI n, vI 3, vL 1 o true, vI n])) := by
          have : spl s n o = (false, o, n) := by rw [spl, dif_pos lt, if_neg hc, dif_neg (by rw [hn]; simp)]
          unfold out; rw [this]
        obtain rfl := Tree.of_ff (Tree.of_eq e h)
        refine ⟨(.ret, _), Tree.reach_of hb ?_, rfl⟩
        rw [byt_nat] at hc'
        refine Tree.reach_ite (fun _ => Tree.reach_req (by omega) (Tree.reach_ite (fun hx => by rw [hx] at hc'; cases hc') fun _ => ?_)) fun hx => by simp at hx; omega
        exact Tree.reach_req ⟨h0, by omega, by unfold few; omega⟩ (Tree.reach_ite (fun _ => rfl) fun hx => by rw [hn] at hx; cases hx)
  · have e : out s x2 x3 x4 o n = .ite true (.leaf (.normal, [vS s, vL 1 x2 true, vI x3, vI x4, vL 1 o true, vI n])) (.leaf (.ret, [vS s, vL 1 [] true, vI n, vI 3, vL 1 o true, vI n])) := by
      have : spl s n o = (true, o, n) := by rw [spl, dif_neg lt]
      unfold out; rw [this]
    obtain rfl := Tree.of_tt (Tree.of_eq e h)
    exact ⟨(.exit 0, _), Tree.reach_of hb (Tree.reach_ite (fun hx => by simp at hx; omega) fun _ => rfl), rfl⟩
def F : List TV' → Tree (List TV') := aS fun s => a0 (  .leaf [tL 1 (splitR s).1 false, tI (splitR s).2.1, tI (splitR s).2.2])
abbrev S : Spec En := pureSpec 1 F
theorem ok : SpecOk pr i_token_Split S := by
  refine pureOkU (ctx := c) cok mixed h_token_Split (by kernel_rfl) (one_loop (by kernel_rfl) (by kernel_rfl) L0_ok) (by kernel_rfl) fun xs r h => ?_
  obtain ⟨s, _, rfl, g1⟩ := aS_r h
  obtain ⟨rfl, rfl⟩ := a0_r g1
  by_cases hl : 200 < s.length
  · have e : splitR s = ([], 0, 5) := by unfold splitR; rw [if_pos hl]
    rw [e]
    exact ⟨rfl, [tL 1 [] true, tI 0, tI 5], Tree.reach_of (fn_t s) (Tree.reach_ite (fun _ => rfl) fun hx => by simp at hx; omega), rfl⟩
  cases hs : (spl s 0 []).1 with
  | true =>
    have e : splitR s = ((spl s 0 []).2.1, -1, 0) := by unfold splitR; rw [if_neg hl, if_pos hs]
    rw [e]
    refine ⟨rfl, _, Tree.reach_of (fn_t s) (Tree.reach_ite (fun hx => by simp at hx; omega) fun _ => Tree.reach_req ⟨by omega, by omega, by omega, by show ((0 : Nat) : Int) ≤ _; omega⟩ (Tree.reach_ite (fun _ => rfl) fun hx => ?_)), rfl⟩
    exact absurd (hx.symm.trans hs) (by simp)
  | false =>
    have e : splitR s = ([], ((spl s 0 []).2.2 : Int), 3) := by unfold splitR; rw [if_neg hl, if_neg (by rw [hs]; simp)]
    rw [e]
    refine ⟨rfl, [tL 1 [] true, tI (spl s 0 []).2.2, tI 3], Tree.reach_of (fn_t s) (Tree.reach_ite (fun hx => by simp at hx; omega) fun _ => Tree.reach_req ⟨by omega, by omega, by omega, by show ((0 : Nat) : Int) ≤ _; omega⟩ (Tree.reach_ite (fun hx => ?_) fun _ => rfl)), rfl⟩
    exact absurd (hx.symm.trans hs) (by simp)
end token_Split
end Go.Rf
end
end
section
set_option linter.unusedSimpArgs false
set_option linter.unusedVariables false
noncomputable section
namespace Go.Rf
open Go.Proofs
set_option maxRecDepth 100000
namespace ref1_Digit
abbrev c := cx f_ref1_Digit [] [] []
theorem fn_t (c : Int) : fnRun ref1_Digit.c f_ref1_Digit (codeOf f_ref1_Digit) [tU c] (anys 1) =
  Tree.ite (decide (c ≥ (48 : Int))) (Tree.leaf ([tB (decide (c ≤ (57 : Int)))], [RV.any])) (Tree.leaf ([tB false], [RV.any])) := by kernel_rfl
theorem ok : SpecOk pr i_ref1_Digit (byteS dg) := byte_ok (ctx := c) (cx_ok nil_ok nil_ok) h_ref1_Digit (by kernel_rfl) (by kernel_rfl) (by kernel_rfl) fun c => by
  rw [fn_t]; by_cases h : c ≥ 48 <;> simp [Tree.reach, anys, dg, h]
end ref1_Digit
namespace ref1_Great
abbrev c := cx f_ref1_Great [] [] []
theorem fn_t (c : Int) : fnRun ref1_Great.c f_ref1_Great (codeOf f_ref1_Great) [tU c] (anys 1) =
  Tree.ite (decide (c ≥ (65 : Int))) (Tree.leaf ([tB (decide (c ≤ (90 : Int)))], [RV.any])) (Tree.leaf ([tB false], [RV.any])) := by kernel_rfl
theorem ok : SpecOk pr i_ref1_Great (byteS gr) := byte_ok (ctx := c) (cx_ok nil_ok nil_ok) h_ref1_Great (by kernel_rfl) (by kernel_rfl) (by kernel_rfl) fun c => by
  rw [fn_t]; by_cases h : c ≥ 65 <;> simp [Tree.reach, anys, gr, h]
end ref1_Great
namespace ref1_Small
abbrev c := cx f_ref1_Small [] [] []
theorem fn_t (c : Int) : fnRun ref1_Small.c f_ref1_Small (codeOf f_ref1_Small) [tU c] (anys 1) =
  Tree.ite (decide (c ≥ (97 : Int))) (Tree.leaf ([tB (decide (c ≤ (122 : Int)))], [RV.any])) (Tree.leaf ([tB false], [RV.any])) := by kernel_rfl
theorem ok : SpecOk pr i_ref1_Small (byteS sm) := byte_ok (ctx := c) (cx_ok nil_ok nil_ok) h_ref1_Small (by kernel_rfl) (by kernel_rfl) (by kernel_rfl) fun c => by
  rw [fn_t]; by_cases h : c ≥ 97 <;> simp [Tree.reach, anys, sm, h]
end ref1_Small
namespace ref1_quoted
def out (s : List UInt8) (a : Int) (x4 : List UInt8) (x5 : Int) (x6 : Bool) (t : List UInt8) (n : Nat) : Tree (Ex × List RV') :=
  .ite (qt (s.drop n)).1 (.leaf (.ret, [vS s, vI a, vS (t ++ (qt (s.drop n)).2.1), vI (n + (qt (s.drop n)).2.2 : Nat), .kn true, .any, .any])) (.leaf (.normal, [vS s, vI a, vS x4, vI x5, .kn x6, .any, .any]))
def L0 : LoopSum En := ⟨[0, 1, 4, 5, 6, 7, 8], rS fun s => rI fun a => rS fun x4 => rI fun x5 => rK fun x6 => rS fun t => rI fun k => r0 (.req (0 ≤ k ∧ k ≤ s.length ∧ few s.length ∧ t.length ≤ k) (out s a x4 x5 x6 t k.toNat))⟩
abbrev c := cx f_ref1_quoted [] [] [(0, L0)]
theorem cok : CtxOk pr c := cx_ok nil_ok nil_ok
theorem body_t (s : List UInt8) (a : Int) (x4 : List UInt8) (x5 : Int) (x6 : Bool) (t : List UInt8) (k : Int) : bodyRun ref1_quoted.c [0, 1, 4, 5, 6, 7, 8] (lb (codeOf f_ref1_quoted) 0) [vS s, vI a, vS x4, vI x5, .kn x6, vS t, vI k] =
  Tree.ite (decide (k < (↑(List.length s) : Int)))
  (Tree.req ((0 : Int) ≤ k ∧ k < (↑(List.length s) : Int))
    (Tree.ite ((↑(UInt8.toNat (List.getD s (Int.toNat k) (0 : UInt8))) : Int) != (34 : Int))
      (Tree.req ((0 : Int) ≤ k ∧ k ≤ IntKind.wrap IntKind.i64 (k + (1 : Int)) ∧ IntKind.wrap IntKind.i64 (k + (1 : Int)) ≤ (↑(List.length s) : Int))
        (Tree.req (List.length t + List.length (List.drop (Int.toNat k) (List.take (Int.toNat (IntKind.wrap IntKind.i64 (k + (1 : Int)))) s)) ≤ (9223372036854775807 : Nat))
          (Tree.leaf (Ex.normal, [vS s, vI a, vS x4, vI x5, RV.kn x6, vS (t ++ List.drop (Int.toNat k) (List.take (Int.toNat (IntKind.wrap IntKind.i64 (k + (1 : Int)))) s)), vI (IntKind.wrap IntKind.i64 (k + (1 : Int)))]))))
      (Tree.ite (decide (IntKind.wrap IntKind.i64 (k + (1 : Int)) < (↑(List.length s) : Int)))
        (Tree.req ((0 : Int) ≤ IntKind.wrap IntKind.i64 (k + (1 : Int)) ∧ IntKind.wrap IntKind.i64 (k + (1 : Int)) < (↑(List.length s) : Int))
          (Tree.ite ((↑(UInt8.toNat (List.getD s (Int.toNat (IntKind.wrap IntKind.i64 (k + (1 : Int)))) (0 : UInt8))) : Int) == (34 : Int))
            (Tree.req (List.length t + List.length [(34 : UInt8)] ≤ (9223372036854775807 : Nat)) (Tree.leaf (Ex.normal, [vS s, vI a, vS x4, vI x5, RV.kn x6, vS (t ++ [(34 : UInt8)]), vI (IntKind.wrap IntKind.i64 (IntKind.wrap IntKind.i64 (k + (1 : Int)) + (1 : Int)))])))
            (Tree.leaf (Ex.ret, [vS s, vI a, vS t, vI (IntKind.wrap IntKind.i64 (k + (1 : Int))), RV.kn true, vS t, vI k]))))
        (Tree.ite false (Tree.req (List.length t + List.length [(34 : UInt8)] ≤ (9223372036854775807 : Nat)) (Tree.leaf (Ex.normal, [vS s, vI a, vS x4, vI x5, RV.kn x6, vS (t ++ [(34 : UInt8)]), vI (IntKind.wrap IntKind.i64 (IntKind.wrap IntKind.i64 (k + (1 : Int)) + (1 : Int)))])))
          (Tree.leaf (Ex.ret, [vS s, vI a, vS t, vI (IntKind.wrap IntKind.i64 (k + (1 : Int))), RV.kn true, vS t, vI k]))))))
  (Tree.leaf (Ex.exit (0 : Nat), [vS s, vI a, vS x4, vI x5, RV.kn x6, vS t, vI k])) := by kernel_rfl
theorem fn_t (s : List UInt8) (a : Int) : fnRun ref1_quoted.c f_ref1_quoted (codeOf f_ref1_quoted) [tS s, tI a] (anys 2) =
  Tree.req ((0 : Int) ≤ IntKind.wrap IntKind.i64 (a + (1 : Int)) ∧ IntKind.wrap IntKind.i64 (a + (1 : Int)) ≤ (↑(List.length s) : Int) ∧ few (List.length s) ∧ (↑(0 : Nat) : Int) ≤ IntKind.wrap IntKind.i64 (a + (1 : Int)))
  (Tree.ite (Prod.fst (qt (List.drop (Int.toNat (IntKind.wrap IntKind.i64 (a + (1 : Int)))) s)))
    (Tree.leaf
      ([tS (Prod.fst (Prod.snd (qt (List.drop (Int.toNat (IntKind.wrap IntKind.i64 (a + (1 : Int)))) s)))), tI (↑(Int.toNat (IntKind.wrap IntKind.i64 (a + (1 : Int))) + Prod.snd (Prod.snd (qt (List.drop (Int.toNat (IntKind.wrap IntKind.i64 (a + (1 : Int)))) s)))) : Int), tB true], [RV.any, RV.any]))
    (Tree.leaf ([tS [], tI (0 : Int), tB false], [RV.any, RV.any]))) := by kernel_rfl
theorem L0_ok : LoopOk pr c 0 (lb (codeOf f_ref1_quoted) 0) L0 := by
  refine loopOk2 cok mixed (no_loop (by kernel_rfl)) (fun vs => match vs with | [.v (.leaf ⟨.str, s⟩ _), _, _, _, _, _, .v (.leaf ⟨.int .i64, a⟩ _)] => s.length - a.toNat | _ => 0) fun vs r h => ?_
  obtain ⟨s, _, rfl, g1⟩ := rS_r h
  obtain ⟨a, _, rfl, g2⟩ := rI_r g1
  obtain ⟨x4, _, rfl, g3⟩ := rS_r g2
  obtain ⟨x5, _, rfl, g4⟩ := rI_r g3
  obtain ⟨x6, _, rfl, g5⟩ := rK_r g4
  obtain ⟨t, _, rfl, g6⟩ := rS_r g5
  obtain ⟨k, _, rfl, g7⟩ := rI_r g6
  obtain ⟨rfl, ⟨h0, h1, h2, h3⟩, g⟩ := r0_r g7
  clear g1 g2 g3 g4 g5 g6 g7 h
  obtain ⟨n, rfl⟩ := Int.eq_ofNat_of_zero_le h0
  have h2' := h2
  unfold few at h2'
  have hb := body_t s a x4 x5 x6 t n
  simp only [Int.toNat_natCast] at g hb
  have hb34 : ∀ b : UInt8, ((b.toNat : Int) != 34) = false ↔ b.toNat = 34 := fun b => by simp; omega
  have hb35 : ∀ b : UInt8, ((b.toNat : Int) != 34) = true ↔ b.toNat ≠ 34 := fun b => by simp; omega
  have hb36 : ∀ b : UInt8, ((b.toNat : Int) == 34) = true ↔ b.toNat = 34 := fun b => by simp; omega
  have hb37 : ∀ b : UInt8, ((b.toNat : Int) == 34) = false ↔ b.toNat ≠ 34 := fun b => by simp; omega
  have e1 : ((n : Int) + 1).toNat = n + 1 := by omega
  rw [wrap_i64 (x := (n : Int) + 1) (by omega) (by omega), wrap_i64 (x := (n : Int) + 1 + 1) (by omega) (by omega)] at hb
  simp only [e1] at hb
  by_cases lt : n < s.length
  · have hd1 := drop_byt lt
    by_cases hc : (s.getD n 0).toNat = 34
    · by_cases hd : n + 1 < s.length ∧ (s.getD (n + 1) 0).toNat = 34
      · obtain ⟨l1, hd⟩ := hd
        have e : out s a x4 x5 x6 t n = out s a x4 x5 x6 (t ++ [34]) (n + 2) := by
          unfold out
          rw [drop_byt lt, drop_byt l1, qt_two hc hd]
          simp only [List.append_assoc, List.cons_append, List.nil_append, Nat.add_assoc, Nat.add_comm 2]
        refine ⟨(.normal, [vS s, vI a, vS x4, vI x5, .kn x6, vS (t ++ [34]), vI ((n + 2 : Nat) : Int)]), Tree.reach_of hb ?_, onward2 ⟨?_, ?_⟩⟩
        · refine Tree.reach_ite (fun _ => ?_) (fun hx => by simp at hx; omega)
          refine Tree.reach_req (by omega) (Tree.reach_ite (fun hx => absurd hc ((hb35 _).1 hx)) fun _ => ?_)
          refine Tree.reach_ite (fun _ => Tree.reach_req (by omega) (Tree.reach_ite (fun _ => ?_) fun hx => absurd hd ((hb37 _).1 hx))) fun hx => by simp at hx; omega
          exact Tree.reach_req (by show t.length + 1 ≤ _; omega) rfl
        · simp; omega
        · exact ⟨⟨by omega, by omega, h2, by simp; omega⟩, Tree.of_eq e g⟩
      · have hd' : n + 1 < s.length → (s.getD (n + 1) 0).toNat ≠ 34 := fun l e => hd ⟨l, e⟩
        have e : out s a x4 x5 x6 t n = .ite true (.leaf (.ret, [vS s, vI a, vS t, vI (n + 1 : Nat), .kn true, .any, .any])) (.leaf (.normal, [vS s, vI a, vS x4, vI x5, .kn x6, .any, .any])) := by
          unfold out
          rw [drop_byt lt, qt_end hc (fun d r' e => by
            have l1 : n + 1 < s.length := by have := congrArg List.length e; simp at this; omega
            rw [drop_byt l1] at e; injection e with e _; rw [← e]; exact hd' l1)]
          simp only [List.append_nil]
        obtain rfl := Tree.of_tt (Tree.of_eq e g)
        refine ⟨(.ret, [vS s, vI a, vS t, vI ((n : Int) + 1), .kn true, vS t, vI n]), Tree.reach_of hb ?_, onw_ret ⟨wkE, wkE, wkE, wkE, wkE, wkV, wkV, trivial⟩⟩
        refine Tree.reach_ite (fun _ => ?_) (fun hx => by simp at hx; omega)
        refine Tree.reach_req (by omega) (Tree.reach_ite (fun hx => absurd hc ((hb35 _).1 hx)) fun _ => ?_)
        refine Tree.reach_ite (fun hx => Tree.reach_req (by simp at hx; omega) (Tree.reach_ite (fun hy => ?_) fun _ => rfl)) fun hx => Tree.reach_ff rfl
        exact absurd ((hb36 _).1 hy) (hd' (by simp at hx; omega))
    · have e : out s a x4 x5 x6 t n = out s a x4 x5 x6 (t ++ [s.getD n 0]) (n + 1) := by
        unfold out
        rw [drop_byt lt, qt_char hc]
        simp only [List.append_assoc, List.cons_append, List.nil_append, Nat.add_assoc, Nat.add_comm 1]
      have es : List.drop n (List.take (n + 1) s) = [s.getD n 0] := by
        rw [List.drop_take, drop_byt lt, show n + 1 - n = 1 by omega]; rfl
      rw [es] at hb
      refine ⟨(.normal, [vS s, vI a, vS x4, vI x5, .kn x6, vS (t ++ [s.getD n 0]), vI ((n + 1 : Nat) : Int)]), Tree.reach_of hb ?_, onward2 ⟨?_, ?_⟩⟩
      · refine Tree.reach_ite (fun _ => ?_) (fun hx => by simp at hx; omega)
        refine Tree.reach_req (by omega) (Tree.reach_ite (fun _ => ?_) fun hx => absurd ((hb34 _).1 hx) hc)
        exact Tree.reach_req (by omega) (Tree.reach_req (by show t.length + 1 ≤ _; omega) rfl)
      · simp; omega
      · exact ⟨⟨by omega, by omega, h2, by simp; omega⟩, Tree.of_eq e g⟩
  · have e : out s a x4 x5 x6 t n = .ite false (.leaf (.ret, [vS s, vI a, vS t, vI n, .kn true, .any, .any])) (.leaf (.normal, [vS s, vI a, vS x4, vI x5, .kn x6, .any, .any])) := by
      unfold out
      rw [List.drop_eq_nil_of_le (by omega)]
      simp [qt]
    obtain rfl := Tree.of_ff (Tree.of_eq e g)
    exact ⟨(.exit 0, [vS s, vI a, vS x4, vI x5, .kn x6, vS t, vI n]), Tree.reach_of hb (Tree.reach_ite (fun hx => by simp at hx; omega) fun _ => rfl), onw_exit ⟨wkE, wkE, wkE, wkE, wkE, wkV, wkV, trivial⟩⟩
theorem ok : SpecOk pr i_ref1_quoted token_quoted.S := by
  refine pureOk (ctx := c) cok mixed h_ref1_quoted (by kernel_rfl) (one_loop (by kernel_rfl) (by kernel_rfl) L0_ok) (by kernel_rfl) fun xs r h => ?_
  obtain ⟨s, _, rfl, g1⟩ := aS_r h
  obtain ⟨a, _, rfl, g2⟩ := aI_r g1
  obtain ⟨rfl, ⟨h0, h1, h2⟩, g⟩ := a0_r g2
  refine ⟨rfl, Tree.reach_of (fn_t s a) ?_⟩
  obtain ⟨n, rfl⟩ := Int.eq_ofNat_of_zero_le h0
  have h2' := h2
  unfold few at h2'
  rw [wrap_i64 (x := (n : Int) + 1) (by omega) (by omega), show ((n : Int) + 1).toNat = n + 1 by omega]
  rw [Int.toNat_natCast] at g
  refine Tree.reach_req ⟨by omega, by omega, h2, by show ((0 : Nat) : Int) ≤ _; omega⟩ ?_
  rcases g with ⟨hq, rfl⟩ | ⟨hq, rfl⟩
  · exact .inl ⟨hq, rfl⟩
  · exact .inr ⟨hq, rfl⟩
end ref1_quoted
namespace ref1_sign
def L0 : LoopSum En := ⟨[0, 1, 4, 6, 7], rS fun s => rI fun a => rI fun x4 => rS fun l => rI fun k => r0 (.req (0 ≤ a ∧ a < s.length ∧ 0 ≤ k ∧ k ≤ l.length ∧ few l.length)
  (.ite (decide (s.getD a.toNat 0 ∈ l.drop k.toNat)) (.leaf (.ret, [vS s, vI a, vI 1, vS l, .any])) (.leaf (.normal, [vS s, vI a, vI x4, vS l, .any]))))⟩
abbrev c := cx f_ref1_sign [] [] [(0, L0)]
theorem cok : CtxOk pr c := cx_ok nil_ok nil_ok
theorem body_t (s : List UInt8) (a x4 : Int) (l : List UInt8) (k : Int) : bodyRun ref1_sign.c [0, 1, 4, 6, 7] (lb (codeOf f_ref1_sign) 0) [vS s, vI a, vI x4, vS l, vI k] =
  Tree.ite (decide (k < (↑(List.length l) : Int)))
  (Tree.req ((0 : Int) ≤ k ∧ k < (↑(List.length l) : Int))
    (Tree.req ((0 : Int) ≤ a ∧ a < (↑(List.length s) : Int))
      (Tree.ite ((↑(UInt8.toNat (List.getD l (Int.toNat k) (0 : UInt8))) : Int) == (↑(UInt8.toNat (List.getD s (Int.toNat a) (0 : UInt8))) : Int)) (Tree.leaf (Ex.ret, [vS s, vI a, vI (1 : Int), vS l, vI k]))
        (Tree.leaf (Ex.normal, [vS s, vI a, vI x4, vS l, vI (IntKind.wrap IntKind.i64 (k + (1 : Int)))])))))
  (Tree.leaf (Ex.exit (0 : Nat), [vS s, vI a, vI x4, vS l, vI k])) := by kernel_rfl
theorem fn_t (s : List UInt8) (a : Int) : fnRun ref1_sign.c f_ref1_sign (codeOf f_ref1_sign) [tS s, tI a] (anys 2) =
  Tree.ite (decide (IntKind.wrap IntKind.i64 (a + (1 : Int)) < (↑(List.length s) : Int)))
  (Tree.req ((0 : Int) ≤ a ∧ a ≤ IntKind.wrap IntKind.i64 (a + (2 : Int)) ∧ IntKind.wrap IntKind.i64 (a + (2 : Int)) ≤ (↑(List.length s) : Int))
    (Tree.ite (List.drop (Int.toNat a) (List.take (Int.toNat (IntKind.wrap IntKind.i64 (a + (2 : Int)))) s) == [(60 : UInt8), (62 : UInt8)])
      (Tree.ite true
        (Tree.ite true (Tree.leaf ([tI (2 : Int)], [RV.any, RV.any]))
          (Tree.req
            ((0 : Int) ≤ a ∧
              a < (↑(List.length s) : Int) ∧
                (0 : Int) ≤ (0 : Int) ∧
                  (0 : Int) ≤ (↑(List.length [(43 : UInt8), (45 : UInt8), (42 : UInt8), (47 : UInt8), (38 : UInt8), (61 : UInt8), (60 : UInt8), (62 : UInt8), (40 : UInt8), (41 : UInt8), (44 : UInt8), (58 : UInt8), (33 : UInt8)]) : Int) ∧
                    few (List.length [(43 : UInt8), (45 : UInt8), (42 : UInt8), (47 : UInt8), (38 : UInt8), (61 : UInt8), (60 : UInt8), (62 : UInt8), (40 : UInt8), (41 : UInt8), (44 : UInt8), (58 : UInt8), (33 : UInt8)]))
            (Tree.ite (decide (List.getD s (Int.toNat a) (0 : UInt8) ∈ List.drop (0 : Nat) [(43 : UInt8), (45 : UInt8), (42 : UInt8), (47 : UInt8), (38 : UInt8), (61 : UInt8), (60 : UInt8), (62 : UInt8), (40 : UInt8), (41 : UInt8), (44 : UInt8), (58 : UInt8), (33 : UInt8)]))
              (Tree.leaf ([tI (1 : Int)], [RV.any, RV.any])) (Tree.leaf ([tI (0 : Int)], [RV.any, RV.any])))))
        (Tree.ite (List.drop (Int.toNat a) (List.take (Int.toNat (IntKind.wrap IntKind.i64 (a + (2 : Int)))) s) == [(62 : UInt8), (61 : UInt8)]) (Tree.leaf ([tI (2 : Int)], [RV.any, RV.any]))
          (Tree.req
            ((0 : Int) ≤ a ∧
              a < (↑(List.length s) : Int) ∧
                (0 : Int) ≤ (0 : Int) ∧
                  (0 : Int) ≤ (↑(List.length [(43 : UInt8), (45 : UInt8), (42 : UInt8), (47 : UInt8), (38 : UInt8), (61 : UInt8), (60 : UInt8), (62 : UInt8), (40 : UInt8), (41 : UInt8), (44 : UInt8), (58 : UInt8), (33 : UInt8)]) : Int) ∧
                    few (List.length [(43 : UInt8), (45 : UInt8), (42 : UInt8), (47 : UInt8), (38 : UInt8), (61 : UInt8), (60 : UInt8), (62 : UInt8), (40 : UInt8), (41 : UInt8), (44 : UInt8), (58 : UInt8), (33 : UInt8)]))
            (Tree.ite (decide (List.getD s (Int.toNat a) (0 : UInt8) ∈ List.drop (0 : Nat) [(43 : UInt8), (45 : UInt8), (42 : UInt8), (47 : UInt8), (38 : UInt8), (61 : UInt8), (60 : UInt8), (62 : UInt8), (40 : UInt8), (41 : UInt8), (44 : UInt8), (58 : UInt8), (33 : UInt8)]))
              (Tree.leaf ([tI (1 : Int)], [RV.any, RV.any])) (Tree.leaf ([tI (0 : Int)], [RV.any, RV.any]))))))
      (Tree.ite (List.drop (Int.toNat a) (List.take (Int.toNat (IntKind.wrap IntKind.i64 (a + (2 : Int)))) s) == [(60 : UInt8), (61 : UInt8)])
        (Tree.ite true (Tree.leaf ([tI (2 : Int)], [RV.any, RV.any]))
          (Tree.req
            ((0 : Int) ≤ a ∧
              a < (↑(List.length s) : Int) ∧
                (0 : Int) ≤ (0 : Int) ∧
                  (0 : Int) ≤ (↑(List.length [(43 : UInt8), (45 : UInt8), (42 : UInt8), (47 : UInt8), (38 : UInt8), (61 : UInt8), (60 : UInt8), (62 : UInt8), (40 : UInt8), (41 : UInt8), (44 : UInt8), (58 : UInt8), (33 : UInt8)]) : Int) ∧
                    few (List.length [(43 : UInt8), (45 : UInt8), (42 : UInt8), (47 : UInt8), (38 : UInt8), (61 : UInt8), (60 : UInt8), (62 : UInt8), (40 : UInt8), (41 : UInt8), (44 : UInt8), (58 : UInt8), (33 : UInt8)]))
            (Tree.ite (decide (List.getD s (Int.toNat a) (0 : UInt8) ∈ List.drop (0 : Nat) [(43 : UInt8), (45 : UInt8), (42 : UInt8), (47 : UInt8), (38 : UInt8), (61 : UInt8), (60 : UInt8), (62 : UInt8), (40 : UInt8), (41 : UInt8), (44 : UInt8), (58 : UInt8), (33 : UInt8)]))
              (Tree.leaf ([tI (1 : Int)], [RV.any, RV.any])) (Tree.leaf ([tI (0 : Int)], [RV.any, RV.any])))))
        (Tree.ite (List.drop (Int.toNat a) (List.take (Int.toNat (IntKind.wrap IntKind.i64 (a + (2 : Int)))) s) == [(62 : UInt8), (61 : UInt8)]) (Tree.leaf ([tI (2 : Int)], [RV.any, RV.any]))
          (Tree.req
            ((0 : Int) ≤ a ∧
              a < (↑(List.length s) : Int) ∧
                (0 : Int) ≤ (0 : Int) ∧
                  (0 : Int) ≤ (↑(List.length [(43 : UInt8), (45 : UInt8), (42 : UInt8), (47 : UInt8), (38 : UInt8), (61 : UInt8), (60 : UInt8), (62 : UInt8), (40 : UInt8), (41 : UInt8), (44 : UInt8), (58 : UInt8), (33 : UInt8)]) : Int) ∧
                    few (List.length [(43 : UInt8), (45 : UInt8), (42 : UInt8), (47 : UInt8), (38 : UInt8), (61 : UInt8), (60 : UInt8), (62 : UInt8), (40 : UInt8), (41 : UInt8), (44 : UInt8), (58 : UInt8), (33 : UInt8)]))
            (Tree.ite (decide (List.getD s (Int.toNat a) (0 : UInt8) ∈ List.drop (0 : Nat) [(43 : UInt8), (45 : UInt8), (42 : UInt8), (47 : UInt8), (38 : UInt8), (61 : UInt8), (60 : UInt8), (62 : UInt8), (40 : UInt8), (41 : UInt8), (44 : UInt8), (58 : UInt8), (33 : UInt8)]))
              (Tree.leaf ([tI (1 : Int)], [RV.any, RV.any])) (Tree.leaf ([tI (0 : Int)], [RV.any, RV.any]))))))))
  (Tree.ite false
    (Tree.ite true
      (Tree.ite true (Tree.leaf ([tI (2 : Int)], [RV.any, RV.any]))
        (Tree.req
          ((0 : Int) ≤ a ∧
            a < (↑(List.length s) : Int) ∧
              (0 : Int) ≤ (0 : Int) ∧
                (0 : Int) ≤ (↑(List.length [(43 : UInt8), (45 : UInt8), (42 : UInt8), (47 : UInt8), (38 : UInt8), (61 : UInt8), (60 : UInt8), (62 : UInt8), (40 : UInt8), (41 : UInt8), (44 : UInt8), (58 : UInt8), (33 : UInt8)]) : Int) ∧
                  few (List.length [(43 : UInt8), (45 : UInt8), (42 : UInt8), (47 : UInt8), (38 : UInt8), (61 : UInt8), (60 : UInt8), (62 : UInt8), (40 : UInt8), (41 : UInt8), (44 : UInt8), (58 : UInt8), (33 : UInt8)]))
          (Tree.ite (decide (List.getD s (Int.toNat a) (0 : UInt8) ∈ List.drop (0 : Nat) [(43 : UInt8), (45 : UInt8), (42 : UInt8), (47 : UInt8), (38 : UInt8), (61 : UInt8), (60 : UInt8), (62 : UInt8), (40 : UInt8), (41 : UInt8), (44 : UInt8), (58 : UInt8), (33 : UInt8)]))
            (Tree.leaf ([tI (1 : Int)], [RV.any, RV.any])) (Tree.leaf ([tI (0 : Int)], [RV.any, RV.any])))))
      (Tree.ite false (Tree.leaf ([tI (2 : Int)], [RV.any, RV.any]))
        (Tree.req
          ((0 : Int) ≤ a ∧
            a < (↑(List.length s) : Int) ∧
              (0 : Int) ≤ (0 : Int) ∧
                (0 : Int) ≤ (↑(List.length [(43 : UInt8), (45 : UInt8), (42 : UInt8), (47 : UInt8), (38 : UInt8), (61 : UInt8), (60 : UInt8), (62 : UInt8), (40 : UInt8), (41 : UInt8), (44 : UInt8), (58 : UInt8), (33 : UInt8)]) : Int) ∧
                  few (List.length [(43 : UInt8), (45 : UInt8), (42 : UInt8), (47 : UInt8), (38 : UInt8), (61 : UInt8), (60 : UInt8), (62 : UInt8), (40 : UInt8), (41 : UInt8), (44 : UInt8), (58 : UInt8), (33 : UInt8)]))
          (Tree.ite (decide (List.getD s (Int.toNat a) (0 : UInt8) ∈ List.drop (0 : Nat) [(43 : UInt8), (45 : UInt8), (42 : UInt8), (47 : UInt8), (38 : UInt8), (61 : UInt8), (60 : UInt8), (62 : UInt8), (40 : UInt8), (41 : UInt8), (44 : UInt8), (58 : UInt8), (33 : UInt8)]))
            (Tree.leaf ([tI (1 : Int)], [RV.any, RV.any])) (Tree.leaf ([tI (0 : Int)], [RV.any, RV.any]))))))
    (Tree.ite false
      (Tree.ite true (Tree.leaf ([tI (2 : Int)], [RV.any, RV.any]))
        (Tree.req
          ((0 : Int) ≤ a ∧
            a < (↑(List.length s) : Int) ∧
              (0 : Int) ≤ (0 : Int) ∧
                (0 : Int) ≤ (↑(List.length [(43 : UInt8), (45 : UInt8), (42 : UInt8), (47 : UInt8), (38 : UInt8), (61 : UInt8), (60 : UInt8), (62 : UInt8), (40 : UInt8), (41 : UInt8), (44 : UInt8), (58 : UInt8), (33 : UInt8)]) : Int) ∧
                  few (List.length [(43 : UInt8), (45 : UInt8), (42 : UInt8), (47 : UInt8), (38 : UInt8), (61 : UInt8), (60 : UInt8), (62 : UInt8), (40 : UInt8), (41 : UInt8), (44 : UInt8), (58 : UInt8), (33 : UInt8)]))
          (Tree.ite (decide (List.getD s (Int.toNat a) (0 : UInt8) ∈ List.drop (0 : Nat) [(43 : UInt8), (45 : UInt8), (42 : UInt8), (47 : UInt8), (38 : UInt8), (61 : UInt8), (60 : UInt8), (62 : UInt8), (40 : UInt8), (41 : UInt8), (44 : UInt8), (58 : UInt8), (33 : UInt8)]))
            (Tree.leaf ([tI (1 : Int)], [RV.any, RV.any])) (Tree.leaf ([tI (0 : Int)], [RV.any, RV.any])))))
      (Tree.ite false (Tree.leaf ([tI (2 : Int)], [RV.any, RV.any]))
        (Tree.req
          ((0 : Int) ≤ a ∧
            a < (↑(List.length s) : Int) ∧
              (0 : Int) ≤ (0 : Int) ∧
                (0 : Int) ≤ (↑(List.length [(43 : UInt8), (45 : UInt8), (42 : UInt8), (47 : UInt8), (38 : UInt8), (61 : UInt8), (60 : UInt8), (62 : UInt8), (40 : UInt8), (41 : UInt8), (44 : UInt8), (58 : UInt8), (33 : UInt8)]) : Int) ∧
                  few (List.length [(43 : UInt8), (45 : UInt8), (42 : UInt8), (47 : UInt8), (38 : UInt8), (61 : UInt8), (60 : UInt8), (62 : UInt8), (40 : UInt8), (41 : UInt8), (44 : UInt8), (58 : UInt8), (33 : UInt8)]))
          (Tree.ite (decide (List.getD s (Int.toNat a) (0 : UInt8) ∈ List.drop (0 : Nat) [(43 : UInt8), (45 : UInt8), (42 : UInt8), (47 : UInt8), (38 : UInt8), (61 : UInt8), (60 : UInt8), (62 : UInt8), (40 : UInt8), (41 : UInt8), (44 : UInt8), (58 : UInt8), (33 : UInt8)]))
            (Tree.leaf ([tI (1 : Int)], [RV.any, RV.any])) (Tree.leaf ([tI (0 : Int)], [RV.any, RV.any]))))))) := by kernel_rfl
theorem L0_ok : LoopOk pr c 0 (lb (codeOf f_ref1_sign) 0) L0 := by
  refine loopOk2 cok mixed (no_loop (by kernel_rfl)) (fun vs => match vs with | [_, _, _, .v (.leaf ⟨.str, s⟩ _), .v (.leaf ⟨.int .i64, a⟩ _)] => s.length - a.toNat | _ => 0) fun vs r h => ?_
  obtain ⟨s, _, rfl, g1⟩ := rS_r h
  obtain ⟨a, _, rfl, g2⟩ := rI_r g1
  obtain ⟨x4, _, rfl, g3⟩ := rI_r g2
  obtain ⟨l, _, rfl, g4⟩ := rS_r g3
  obtain ⟨k, _, rfl, g5⟩ := rI_r g4
  obtain ⟨rfl, ⟨h0, h1, h2, h3, h4⟩, g⟩ := r0_r g5
  clear g1 g2 g3 g4 g5 h
  obtain ⟨n, rfl⟩ := Int.eq_ofNat_of_zero_le h2
  have h4' := h4
  unfold few at h4'
  have hb := body_t s a x4 l n
  simp only [Int.toNat_natCast] at g hb
  rw [wrap_i64 (x := (n : Int) + 1) (by omega) (by omega)] at hb
  by_cases lt : n < l.length
  · have hd1 := drop_byt lt
    have hq : ((((l.getD n 0).toNat : Int) == ((s.getD a.toNat 0).toNat : Int)) = true) ↔ l.getD n 0 = s.getD a.toNat 0 := by
      rw [beq_iff_eq]; exact ⟨fun h => UInt8.toNat_inj.1 (by omega), fun h => by rw [h]⟩
    by_cases hc : l.getD n 0 = s.getD a.toNat 0
    · have e : decide (s.getD a.toNat 0 ∈ l.drop n) = true := by rw [hd1, ← hc]; simp
      rw [e] at g
      obtain rfl := Tree.of_tt g
      refine ⟨(.ret, [vS s, vI a, vI 1, vS l, vI n]), Tree.reach_of hb ?_, onw_ret ⟨wkE, wkE, wkE, wkE, wkV, trivial⟩⟩
      exact Tree.reach_ite (fun _ => Tree.reach_req (by omega) (Tree.reach_req ⟨h0, h1⟩ (Tree.reach_ite (fun _ => rfl) fun hx => by rw [hq.2 hc] at hx; cases hx))) fun hx => by simp at hx; omega
    · have e : decide (s.getD a.toNat 0 ∈ l.drop n) = decide (s.getD a.toNat 0 ∈ l.drop (n + 1)) := by
        rw [hd1]; apply decide_eq_decide.2; rw [List.mem_cons]; exact or_iff_right (Ne.symm hc)
      rw [e] at g
      refine ⟨(.normal, [vS s, vI a, vI x4, vS l, vI ((n + 1 : Nat) : Int)]), Tree.reach_of hb ?_, onward2 ⟨?_, ⟨h0, h1, by omega, by omega, h4⟩, g⟩⟩
      · exact Tree.reach_ite (fun _ => Tree.reach_req (by omega) (Tree.reach_req ⟨h0, h1⟩ (Tree.reach_ite (fun hx => absurd (hq.1 hx) hc) fun _ => rfl))) fun hx => by simp at hx; omega
      · simp; omega
  · have e : decide (s.getD a.toNat 0 ∈ l.drop n) = false := by rw [List.drop_eq_nil_of_le (by omega)]; simp
    rw [e] at g
    obtain rfl := Tree.of_ff g
    exact ⟨(.exit 0, [vS s, vI a, vI x4, vS l, vI n]), Tree.reach_of hb (Tree.reach_ite (fun hx => by simp at hx; omega) fun _ => rfl), onw_exit ⟨wkE, wkE, wkE, wkE, wkV, trivial⟩⟩
def F : List TV' → Tree (List TV') := aS fun s => aI fun a => a0 (.req (0 ≤ a ∧ a < s.length ∧ few s.length) (.leaf [tI (sg (s.drop a.toNat) : Nat)]))
abbrev S : Spec En := pureSpec 2 F
theorem ok : SpecOk pr i_ref1_sign S := by
  refine pureOk (ctx := c) cok mixed h_ref1_sign (by kernel_rfl) (one_loop (by kernel_rfl) (by kernel_rfl) L0_ok) (by kernel_rfl) fun xs r h => ?_
  obtain ⟨s, _, rfl, g1⟩ := aS_r h
  obtain ⟨a, _, rfl, g2⟩ := aI_r g1
  obtain ⟨rfl, ⟨h0, h1, h2⟩, rfl⟩ := a0_r g2
  refine ⟨rfl, Tree.reach_of (fn_t s a) ?_⟩
  obtain ⟨n, rfl⟩ := Int.eq_ofNat_of_zero_le h0
  unfold few at h2
  have hn : n < s.length := by omega
  have hd := drop_byt hn
  rw [wrap_i64 (x := (n : Int) + 1) (by omega) (by omega), wrap_i64 (x := (n : Int) + 2) (by omega) (by omega)]
  have e2 : ((n : Int) + 2).toNat = n + 2 := by omega
  have ed : List.drop n (List.take (n + 2) s) = (List.drop n s).take 2 := by rw [List.drop_take]; congr 1; omega
  simp only [e2, ed, Int.toNat_natCast]
  have hl1 : ∀ b, (List.drop n s).take 2 = [b, 61] ∨ (List.drop n s).take 2 = [60, b] → (n : Int) + 1 < s.length := by
    rintro b (h | h) <;> (have := congrArg List.length h; simp at this; omega)
  have key : sg (List.drop n s) = if (List.drop n s).take 2 = [60, 62] ∨ (List.drop n s).take 2 = [60, 61] ∨ (List.drop n s).take 2 = [62, 61] then 2 else if List.getD s n 0 ∈ signs then 1 else 0 := by
    unfold sg; rw [hd]
  have h02 : (0 : Int) ≤ n := Int.natCast_nonneg _
  have one : ∀ m : Bool, decide (List.getD s n 0 ∈ List.drop 0 ([43, 45, 42, 47, 38, 61, 60, 62, 40, 41, 44, 58, 33] : List UInt8)) = m → ¬ ((List.drop n s).take 2 = [60, 62] ∨ (List.drop n s).take 2 = [60, 61] ∨ (List.drop n s).take 2 = [62, 61]) →
      sg (List.drop n s) = if m then 1 else 0 := by
    intro m hm hno
    rw [key, if_neg hno]
    cases m with
    | true => rw [if_pos (show List.getD s n 0 ∈ signs from of_decide_eq_true hm), if_pos rfl]
    | false => rw [if_neg (show ¬ List.getD s n 0 ∈ signs from of_decide_eq_false hm), if_neg (by simp)]
  have r1 : ((n : Int) + 1 < s.length) → (0 : Int) ≤ n ∧ (n : Int) ≤ n + 2 ∧ (n : Int) + 2 ≤ s.length := fun h => by omega
  have r2 : 0 ≤ (n : Int) ∧ (n : Int) < s.length ∧ (0 : Int) ≤ 0 ∧ (0 : Int) ≤ (List.length ([43, 45, 42, 47, 38, 61, 60, 62, 40, 41, 44, 58, 33] : List UInt8) : Nat) ∧ few (List.length ([43, 45, 42, 47, 38, 61, 60, 62, 40, 41, 44, 58, 33] : List UInt8)) := ⟨h02, h1, by omega, by simp, by simp [few]⟩
  by_cases q1 : (List.drop n s).take 2 = [60, 62]
  · have hl := hl1 62 (.inr q1)
    rw [key, if_pos (.inl q1)]
    simp [Tree.reach, q1, hl, r1 hl, anys]
  by_cases q2 : (List.drop n s).take 2 = [60, 61]
  · have hl := hl1 61 (.inr q2)
    rw [key, if_pos (.inr (.inl q2))]
    simp [Tree.reach, q2, hl, r1 hl, anys]
  by_cases q3 : (List.drop n s).take 2 = [62, 61]
  · have hl := hl1 62 (.inl q3)
    rw [key, if_pos (.inr (.inr q3))]
    simp [Tree.reach, q3, hl, r1 hl, anys]
  have hno : ¬ ((List.drop n s).take 2 = [60, 62] ∨ (List.drop n s).take 2 = [60, 61] ∨ (List.drop n s).take 2 = [62, 61]) := by simp [q1, q2, q3]
  have b1 : (List.take 2 (List.drop n s) == [60, 62]) = false := by simpa using q1
  have b2 : (List.take 2 (List.drop n s) == [60, 61]) = false := by simpa using q2
  have b3 : (List.take 2 (List.drop n s) == [62, 61]) = false := by simpa using q3
  rw [b1, b2, b3]
  have fin : (Tree.ite (decide (List.getD s n 0 ∈ List.drop 0 ([43, 45, 42, 47, 38, 61, 60, 62, 40, 41, 44, 58, 33] : List UInt8))) (Tree.leaf (([tI 1], [RV.any, RV.any]) : List TV' × List RV')) (Tree.leaf ([tI 0], [RV.any, RV.any]))).reach ([tI (sg (List.drop n s) : Nat)], anys (E := En) 2) :=
    Tree.reach_ite (fun h => by rw [one true h hno]; rfl) fun h => by rw [one false h hno]; rfl
  exact Tree.reach_ite (fun h => Tree.reach_req (r1 (by simpa using h)) (Tree.reach_ff (Tree.reach_ff (Tree.reach_ff (Tree.reach_req r2 fin))))) fun h => Tree.reach_ff (Tree.reach_ff (Tree.reach_ff (Tree.reach_req r2 fin)))
end ref1_sign
end Go.Rf
end
end
section
set_option linter.unusedSimpArgs false
set_option linter.unusedVariables false
noncomputable section
namespace Go.Rf
open Go.Proofs
set_option maxRecDepth 100000
namespace ref1_Split
/-- An inner loop: on to where the bytes of a kind end. -/
def Lp (p : Int → Bool) : LoopSum En := ⟨[0, 2, 3, 4, 5, 6, 8], rS fun s => rToksO fun x2 => rI fun x3 => rI fun x4 => rToksO fun l => rI fun i => rI fun k => r0 (.req (0 ≤ i ∧ i ≤ s.length ∧ few s.length)
  (.leaf (.normal, [vS s, vL 1 x2 true, vI x3, vI x4, vL 1 l true, vI (runE p s i.toNat), vI k])))⟩
def sp : List (Nat × Spec En) := [(i_ref1_Digit, byteS dg), (i_ref1_Great, byteS gr), (i_ref1_Small, byteS sm), (i_ref1_quoted, token_quoted.S), (i_ref1_sign, ref1_sign.S)]
theorem sp_ok : SpAll pr sp := .cons ref1_Digit.ok (.cons ref1_Great.ok (.cons ref1_Small.ok (.cons ref1_quoted.ok (.cons ref1_sign.ok .nil))))
def ok3 (s : List UInt8) (x2 : List Tok) (x3 x4 : Int) (o : List Tok) (n : Nat) : Tree (Ex × List RV') :=
  .ite (spl s n o).1 (.leaf (.normal, [vS s, vL 1 x2 true, vI x3, vI x4, vL 1 (spl s n o).2.1 true, .any])) (.leaf (.ret, [vS s, vL 1 [] true, vI (spl s n o).2.2, vI 3, .any, .any]))
def L0 : LoopSum En := ⟨[0, 2, 3, 4, 5, 6], rS fun s => rToksO fun x2 => rI fun x3 => rI fun x4 => rToksO fun o => rI fun a => r0 (.req (0 ≤ a ∧ a ≤ s.length ∧ s.length ≤ 200 ∧ (o.length : Int) ≤ a) (ok3 s x2 x3 x4 o a.toNat))⟩
abbrev c := cx f_ref1_Split sp [] [(3, Lp dg), (5, Lp fun c => gr c || dg c), (7, Lp fun c => sm c || dg c), (0, L0)]
theorem cok : CtxOk pr c := cx_ok sp_ok nil_ok
theorem b3 (s : List UInt8) (x2 : List Tok) (x3 x4 : Int) (l : List Tok) (i k : Int) : bodyRun ref1_Split.c [0, 2, 3, 4, 5, 6, 8] (lb (lb (codeOf f_ref1_Split) 0) 3) [vS s, vL 1 x2 true, vI x3, vI x4, vL 1 l true, vI i, vI k] =
  Tree.ite (decide (i < (↑(List.length s) : Int)))
  (Tree.req ((0 : Int) ≤ i ∧ i < (↑(List.length s) : Int))
    (Tree.ite (dg (↑(UInt8.toNat (List.getD s (Int.toNat i) (0 : UInt8))) : Int)) (Tree.leaf (Ex.normal, [vS s, vL (1 : Nat) x2 true, vI x3, vI x4, vL (1 : Nat) l true, vI (IntKind.wrap IntKind.i64 (i + (1 : Int))), vI k]))
      (Tree.leaf (Ex.exit (3 : Nat), [vS s, vL (1 : Nat) x2 true, vI x3, vI x4, vL (1 : Nat) l true, vI i, vI k]))))
  (Tree.ite false (Tree.leaf (Ex.normal, [vS s, vL (1 : Nat) x2 true, vI x3, vI x4, vL (1 : Nat) l true, vI (IntKind.wrap IntKind.i64 (i + (1 : Int))), vI k])) (Tree.leaf (Ex.exit (3 : Nat), [vS s, vL (1 : Nat) x2 true, vI x3, vI x4, vL (1 : Nat) l true, vI i, vI k]))) := by kernel_rfl
theorem b5 (s : List UInt8) (x2 : List Tok) (x3 x4 : Int) (l : List Tok) (i k : Int) : bodyRun ref1_Split.c [0, 2, 3, 4, 5, 6, 8] (lb (lb (codeOf f_ref1_Split) 0) 5) [vS s, vL 1 x2 true, vI x3, vI x4, vL 1 l true, vI i, vI k] =
  Tree.ite (decide (i < (↑(List.length s) : Int)))
  (Tree.req ((0 : Int) ≤ i ∧ i < (↑(List.length s) : Int))
    (Tree.ite (gr (↑(UInt8.toNat (List.getD s (Int.toNat i) (0 : UInt8))) : Int))
      (Tree.ite true (Tree.leaf (Ex.normal, [vS s, vL (1 : Nat) x2 true, vI x3, vI x4, vL (1 : Nat) l true, vI (IntKind.wrap IntKind.i64 (i + (1 : Int))), vI k])) (Tree.leaf (Ex.exit (5 : Nat), [vS s, vL (1 : Nat) x2 true, vI x3, vI x4, vL (1 : Nat) l true, vI i, vI k])))
      (Tree.req ((0 : Int) ≤ i ∧ i < (↑(List.length s) : Int))
        (Tree.ite (dg (↑(UInt8.toNat (List.getD s (Int.toNat i) (0 : UInt8))) : Int)) (Tree.leaf (Ex.normal, [vS s, vL (1 : Nat) x2 true, vI x3, vI x4, vL (1 : Nat) l true, vI (IntKind.wrap IntKind.i64 (i + (1 : Int))), vI k]))
          (Tree.leaf (Ex.exit (5 : Nat), [vS s, vL (1 : Nat) x2 true, vI x3, vI x4, vL (1 : Nat) l true, vI i, vI k]))))))
  (Tree.ite false (Tree.leaf (Ex.normal, [vS s, vL (1 : Nat) x2 true, vI x3, vI x4, vL (1 : Nat) l true, vI (IntKind.wrap IntKind.i64 (i + (1 : Int))), vI k])) (Tree.leaf (Ex.exit (5 : Nat), [vS s, vL (1 : Nat) x2 true, vI x3, vI x4, vL (1 : Nat) l true, vI i, vI k]))) := by kernel_rfl
theorem b7 (s : List UInt8) (x2 : List Tok) (x3 x4 : Int) (l : List Tok) (i k : Int) : bodyRun ref1_Split.c [0, 2, 3, 4, 5, 6, 8] (lb (lb (codeOf f_ref1_Split) 0) 7) [vS s, vL 1 x2 true, vI x3, vI x4, vL 1 l true, vI i, vI k] =
  Tree.ite (decide (i < (↑(List.length s) : Int)))
  (Tree.req ((0 : Int) ≤ i ∧ i < (↑(List.length s) : Int))
    (Tree.ite (sm (↑(UInt8.toNat (List.getD s (Int.toNat i) (0 : UInt8))) : Int))
      (Tree.ite true (Tree.leaf (Ex.normal, [vS s, vL (1 : Nat) x2 true, vI x3, vI x4, vL (1 : Nat) l true, vI (IntKind.wrap IntKind.i64 (i + (1 : Int))), vI k])) (Tree.leaf (Ex.exit (7 : Nat), [vS s, vL (1 : Nat) x2 true, vI x3, vI x4, vL (1 : Nat) l true, vI i, vI k])))
      (Tree.req ((0 : Int) ≤ i ∧ i < (↑(List.length s) : Int))
        (Tree.ite (dg (↑(UInt8.toNat (List.getD s (Int.toNat i) (0 : UInt8))) : Int)) (Tree.leaf (Ex.normal, [vS s, vL (1 : Nat) x2 true, vI x3, vI x4, vL (1 : Nat) l true, vI (IntKind.wrap IntKind.i64 (i + (1 : Int))), vI k]))
          (Tree.leaf (Ex.exit (7 : Nat), [vS s, vL (1 : Nat) x2 true, vI x3, vI x4, vL (1 : Nat) l true, vI i, vI k]))))))
  (Tree.ite false (Tree.leaf (Ex.normal, [vS s, vL (1 : Nat) x2 true, vI x3, vI x4, vL (1 : Nat) l true, vI (IntKind.wrap IntKind.i64 (i + (1 : Int))), vI k])) (Tree.leaf (Ex.exit (7 : Nat), [vS s, vL (1 : Nat) x2 true, vI x3, vI x4, vL (1 : Nat) l true, vI i, vI k]))) := by kernel_rfl
theorem body_t (s : List UInt8) (x2 : List Tok) (x3 x4 : Int) (l : List Tok) (i : Int) : bodyRun ref1_Split.c [0, 2, 3, 4, 5, 6] (lb (codeOf f_ref1_Split) 0) [vS s, vL 1 x2 true, vI x3, vI x4, vL 1 l true, vI i] =
  Tree.ite (decide (i < (↑(List.length s) : Int)))
  (Tree.req ((0 : Int) ≤ i ∧ i < (↑(List.length s) : Int))
    (Tree.ite ((↑(UInt8.toNat (List.getD s (Int.toNat i) (0 : UInt8))) : Int) == (32 : Int)) (Tree.leaf (Ex.normal, [vS s, vL (1 : Nat) x2 true, vI x3, vI x4, vL (1 : Nat) l true, vI (IntKind.wrap IntKind.i64 (i + (1 : Int)))]))
      (Tree.ite (dg (↑(UInt8.toNat (List.getD s (Int.toNat i) (0 : UInt8))) : Int))
        (Tree.req ((0 : Int) ≤ i ∧ i ≤ (↑(List.length s) : Int) ∧ few (List.length s))
          (Tree.req ((0 : Int) ≤ i ∧ i ≤ (↑(runE dg s (Int.toNat i)) : Int) ∧ (↑(runE dg s (Int.toNat i)) : Int) ≤ (↑(List.length s) : Int))
            (Tree.req (True ∧ True)
              (Tree.req ((List.length l + List.length [Tok.mk (1 : Int) i (List.drop (Int.toNat i) (List.take (runE dg s (Int.toNat i)) s))]) * (32 : Nat) ≤ (140737488355328 : Nat))
                (Tree.leaf (Ex.normal, [vS s, vL (1 : Nat) x2 true, vI x3, vI x4, vL (1 : Nat) (l ++ [Tok.mk (1 : Int) i (List.drop (Int.toNat i) (List.take (runE dg s (Int.toNat i)) s))]) true, vI (↑(runE dg s (Int.toNat i)) : Int)]))))))
        (Tree.ite (gr (↑(UInt8.toNat (List.getD s (Int.toNat i) (0 : UInt8))) : Int))
          (Tree.req ((0 : Int) ≤ i ∧ i ≤ (↑(List.length s) : Int) ∧ few (List.length s))
            (Tree.req ((0 : Int) ≤ i ∧ i ≤ (↑(runE (fun c => gr c || dg c) s (Int.toNat i)) : Int) ∧ (↑(runE (fun c => gr c || dg c) s (Int.toNat i)) : Int) ≤ (↑(List.length s) : Int))
              (Tree.req (True ∧ True)
                (Tree.req ((List.length l + List.length [Tok.mk (3 : Int) i (List.drop (Int.toNat i) (List.take (runE (fun c => gr c || dg c) s (Int.toNat i)) s))]) * (32 : Nat) ≤ (140737488355328 : Nat))
                  (Tree.leaf (Ex.normal, [vS s, vL (1 : Nat) x2 true, vI x3, vI x4, vL (1 : Nat) (l ++ [Tok.mk (3 : Int) i (List.drop (Int.toNat i) (List.take (runE (fun c => gr c || dg c) s (Int.toNat i)) s))]) true, vI (↑(runE (fun c => gr c || dg c) s (Int.toNat i)) : Int)]))))))
          (Tree.ite (sm (↑(UInt8.toNat (List.getD s (Int.toNat i) (0 : UInt8))) : Int))
            (Tree.req ((0 : Int) ≤ i ∧ i ≤ (↑(List.length s) : Int) ∧ few (List.length s))
              (Tree.req ((0 : Int) ≤ i ∧ i ≤ (↑(runE (fun c => sm c || dg c) s (Int.toNat i)) : Int) ∧ (↑(runE (fun c => sm c || dg c) s (Int.toNat i)) : Int) ≤ (↑(List.length s) : Int))
                (Tree.req (True ∧ True)
                  (Tree.req ((List.length l + List.length [Tok.mk (4 : Int) i (List.drop (Int.toNat i) (List.take (runE (fun c => sm c || dg c) s (Int.toNat i)) s))]) * (32 : Nat) ≤ (140737488355328 : Nat))
                    (Tree.leaf (Ex.normal, [vS s, vL (1 : Nat) x2 true, vI x3, vI x4, vL (1 : Nat) (l ++ [Tok.mk (4 : Int) i (List.drop (Int.toNat i) (List.take (runE (fun c => sm c || dg c) s (Int.toNat i)) s))]) true, vI (↑(runE (fun c => sm c || dg c) s (Int.toNat i)) : Int)]))))))
            (Tree.ite ((↑(UInt8.toNat (List.getD s (Int.toNat i) (0 : UInt8))) : Int) == (34 : Int))
              (Tree.req ((0 : Int) ≤ i ∧ i < (↑(List.length s) : Int) ∧ few (List.length s))
                (Tree.ite (Prod.fst (qt (List.drop (Int.toNat i + (1 : Nat)) s)))
                  (Tree.ite false (Tree.leaf (Ex.ret, [vS s, vL (1 : Nat) [] true, vI i, vI (3 : Int), vL (1 : Nat) l true, vI i]))
                    (Tree.req (True ∧ True)
                      (Tree.req ((List.length l + List.length [Tok.mk (2 : Int) i (Prod.fst (Prod.snd (qt (List.drop (Int.toNat i + (1 : Nat)) s))))]) * (32 : Nat) ≤ (140737488355328 : Nat))
                        (Tree.leaf
                          (Ex.normal, [vS s, vL (1 : Nat) x2 true, vI x3, vI x4, vL (1 : Nat) (l ++ [Tok.mk (2 : Int) i (Prod.fst (Prod.snd (qt (List.drop (Int.toNat i + (1 : Nat)) s))))]) true, vI (i + (1 : Int) + (↑(Prod.snd (Prod.snd (qt (List.drop (Int.toNat i + (1 : Nat)) s)))) : Int))])))))
                  (Tree.ite true (Tree.leaf (Ex.ret, [vS s, vL (1 : Nat) [] true, vI i, vI (3 : Int), vL (1 : Nat) l true, vI i]))
                    (Tree.req (True ∧ True) (Tree.req ((List.length l + List.length [Tok.mk (2 : Int) i []]) * (32 : Nat) ≤ (140737488355328 : Nat)) (Tree.leaf (Ex.normal, [vS s, vL (1 : Nat) x2 true, vI x3, vI x4, vL (1 : Nat) (l ++ [Tok.mk (2 : Int) i []]) true, vI (0 : Int)])))))))
              (Tree.req ((0 : Int) ≤ i ∧ i < (↑(List.length s) : Int) ∧ few (List.length s))
                (Tree.ite ((↑(sg (List.drop (Int.toNat i) s)) : Int) == (0 : Int)) (Tree.leaf (Ex.ret, [vS s, vL (1 : Nat) [] true, vI i, vI (3 : Int), vL (1 : Nat) l true, vI i]))
                  (Tree.req ((0 : Int) ≤ i ∧ i ≤ IntKind.wrap IntKind.i64 (i + (↑(sg (List.drop (Int.toNat i) s)) : Int)) ∧ IntKind.wrap IntKind.i64 (i + (↑(sg (List.drop (Int.toNat i) s)) : Int)) ≤ (↑(List.length s) : Int))
                    (Tree.req (True ∧ True)
                      (Tree.req ((List.length l + List.length [Tok.mk (5 : Int) i (List.drop (Int.toNat i) (List.take (Int.toNat (IntKind.wrap IntKind.i64 (i + (↑(sg (List.drop (Int.toNat i) s)) : Int)))) s))]) * (32 : Nat) ≤ (140737488355328 : Nat))
                        (Tree.leaf
                          (Ex.normal,
                            [vS s, vL (1 : Nat) x2 true, vI x3, vI x4, vL (1 : Nat) (l ++ [Tok.mk (5 : Int) i (List.drop (Int.toNat i) (List.take (Int.toNat (IntKind.wrap IntKind.i64 (i + (↑(sg (List.drop (Int.toNat i) s)) : Int)))) s))]) true,
                              vI (IntKind.wrap IntKind.i64 (i + (↑(sg (List.drop (Int.toNat i) s)) : Int)))])))))))))))))
  (Tree.leaf (Ex.exit (0 : Nat), [vS s, vL (1 : Nat) x2 true, vI x3, vI x4, vL (1 : Nat) l true, vI i])) := by kernel_rfl
theorem fn_t (s : List UInt8) : fnRun ref1_Split.c f_ref1_Split (codeOf f_ref1_Split) [tS s] (anys 1) =
  Tree.ite (decide ((↑(List.length s) : Int) > (200 : Int))) (Tree.leaf ([tL (1 : Nat) [] true, tI (0 : Int), tI (5 : Int)], [RV.any]))
  (Tree.req ((0 : Int) ≤ (0 : Int) ∧ (0 : Int) ≤ (↑(List.length s) : Int) ∧ List.length s ≤ (200 : Nat) ∧ (↑(0 : Nat) : Int) ≤ (0 : Int))
    (Tree.ite (Prod.fst (spl s (0 : Nat) [])) (Tree.leaf ([tL (1 : Nat) (Prod.fst (Prod.snd (spl s (0 : Nat) []))) false, tI (-1 : Int), tI (0 : Int)], [RV.any])) (Tree.leaf ([tL (1 : Nat) [] true, tI (↑(Prod.snd (Prod.snd (spl s (0 : Nat) []))) : Int), tI (3 : Int)], [RV.any])))) := by kernel_rfl
theorem Lp_ok {p : Int → Bool} {id : Nat} {code : Code} (hl : loopsIn code = [])
    (yes : ∀ (s : List UInt8) (x2 : List Tok) (x3 x4 : Int) (l : List Tok) (n : Nat) (k : Int), n < s.length → few s.length → p (byt s n) = true → (bodyRun c [0, 2, 3, 4, 5, 6, 8] code [vS s, vL 1 x2 true, vI x3, vI x4, vL 1 l true, vI n, vI k]).reach (.normal, [vS s, vL 1 x2 true, vI x3, vI x4, vL 1 l true, vI (n + 1 : Nat), vI k]))
    (no : ∀ (s : List UInt8) (x2 : List Tok) (x3 x4 : Int) (l : List Tok) (n : Nat) (k : Int), (n < s.length → p (byt s n) = false) → few s.length → (bodyRun c [0, 2, 3, 4, 5, 6, 8] code [vS s, vL 1 x2 true, vI x3, vI x4, vL 1 l true, vI n, vI k]).reach (.exit id, [vS s, vL 1 x2 true, vI x3, vI x4, vL 1 l true, vI n, vI k])) : LoopOk pr c id code (Lp p) := by
  refine loopOk cok mixed (no_loop hl) (fun vs => match vs with | [.v (.leaf ⟨.str, s⟩ _), _, _, _, _, .v (.leaf ⟨.int .i64, a⟩ _), _] => s.length - a.toNat | _ => 0) fun vs r h => ?_
  obtain ⟨s, _, rfl, g1⟩ := rS_r h
  obtain ⟨x2, _, rfl, g2⟩ := rToksO_r g1
  obtain ⟨x3, _, rfl, g3⟩ := rI_r g2
  obtain ⟨x4, _, rfl, g4⟩ := rI_r g3
  obtain ⟨l, _, rfl, g5⟩ := rToksO_r g4
  obtain ⟨i, _, rfl, g6⟩ := rI_r g5
  obtain ⟨k, _, rfl, g7⟩ := rI_r g6
  obtain ⟨rfl, ⟨h0, h1, h2⟩, rfl⟩ := r0_r g7
  clear g1 g2 g3 g4 g5 g6 g7 h
  obtain ⟨n, rfl⟩ := Int.eq_ofNat_of_zero_le h0
  by_cases hc : n < s.length ∧ p (byt s n) = true
  · refine ⟨_, yes s x2 x3 x4 l n k hc.1 h2 hc.2, by simp; omega, ?_⟩
    refine ⟨⟨by omega, by omega, h2⟩, ?_⟩
    rw [Int.toNat_natCast, Int.toNat_natCast, runE_yes hc.1 hc.2]
    rfl
  · have hc' : n < s.length → p (byt s n) = false := fun l => by cases h : p (byt s n) with | false => rfl | true => exact absurd ⟨l, h⟩ hc
    refine ⟨_, no s x2 x3 x4 l n k hc' h2, ?_⟩
    show _ = (if id = id then _ else _, _)
    rw [if_pos rfl, Int.toNat_natCast, runE_no hc']
theorem inc {n : Nat} {s : List UInt8} (h : n < s.length) (h2 : few s.length) : IntKind.i64.wrap ((n : Int) + 1) = (n + 1 : Nat) := by
  unfold few at h2
  rw [wrap_i64 (by omega) (by omega)]; rfl
theorem l3 : LoopOk pr c 3 (lb (lb (codeOf f_ref1_Split) 0) 3) (Lp dg) := Lp_ok (by kernel_rfl)
  (fun s x2 x3 x4 l n k h h2 hp => Tree.reach_of (b3 s x2 x3 x4 l n k) (by
    rw [byt_nat] at hp
    rw [inc h h2]
    exact Tree.reach_ite (fun _ => Tree.reach_req (by omega) (Tree.reach_ite (fun _ => rfl) fun hx => by rw [Int.toNat_natCast, hp] at hx; cases hx)) fun hx => by simp at hx; omega))
  (fun s x2 x3 x4 l n k hp h2 => Tree.reach_of (b3 s x2 x3 x4 l n k) (by
    refine Tree.reach_ite (fun hx => ?_) fun hx => Tree.reach_ff rfl
    have hlt : n < s.length := by simpa using hx
    have hp := hp hlt
    rw [byt_nat] at hp
    exact Tree.reach_req (by omega) (Tree.reach_ite (fun hx => by rw [Int.toNat_natCast, hp] at hx; cases hx) fun _ => rfl)))
theorem l5 : LoopOk pr c 5 (lb (lb (codeOf f_ref1_Split) 0) 5) (Lp fun c => gr c || dg c) := Lp_ok (by kernel_rfl)
  (fun s x2 x3 x4 l n k h h2 hp => Tree.reach_of (b5 s x2 x3 x4 l n k) (by
    rw [byt_nat, Bool.or_eq_true] at hp
    rw [inc h h2, Int.toNat_natCast]
    refine Tree.reach_ite (fun _ => Tree.reach_req (by omega) (Tree.reach_ite (fun _ => Tree.reach_tt rfl) fun hx => Tree.reach_req (by omega) (Tree.reach_ite (fun _ => rfl) fun hy => ?_))) fun hx => by simp at hx; omega
    rw [hx, hy] at hp; simp at hp))
  (fun s x2 x3 x4 l n k hp h2 => Tree.reach_of (b5 s x2 x3 x4 l n k) (by
    refine Tree.reach_ite (fun hx => ?_) fun hx => Tree.reach_ff rfl
    have hlt : n < s.length := by simpa using hx
    have hp := hp hlt
    rw [byt_nat, Bool.or_eq_false_iff] at hp
    rw [Int.toNat_natCast]
    exact Tree.reach_req (by omega) (Tree.reach_ite (fun hx => by rw [hp.1] at hx; cases hx) fun _ => Tree.reach_req (by omega) (Tree.reach_ite (fun hx => by rw [hp.2] at hx; cases hx) fun _ => rfl))))
theorem l7 : LoopOk pr c 7 (lb (lb (codeOf f_ref1_Split) 0) 7) (Lp fun c => sm c || dg c) := Lp_ok (by kernel_rfl)
  (fun s x2 x3 x4 l n k h h2 hp => Tree.reach_of (b7 s x2 x3 x4 l n k) (by
    rw [byt_nat, Bool.or_eq_true] at hp
    rw [inc h h2, Int.toNat_natCast]
    refine Tree.reach_ite (fun _ => Tree.reach_req (by omega) (Tree.reach_ite (fun _ => Tree.reach_tt rfl) fun hx => Tree.reach_req (by omega) (Tree.reach_ite (fun _ => rfl) fun hy => ?_))) fun hx => by simp at hx; omega
    rw [hx, hy] at hp; simp at hp))
  (fun s x2 x3 x4 l n k hp h2 => Tree.reach_of (b7 s x2 x3 x4 l n k) (by
    refine Tree.reach_ite (fun hx => ?_) fun hx => Tree.reach_ff rfl
    have hlt : n < s.length := by simpa using hx
    have hp := hp hlt
    rw [byt_nat, Bool.or_eq_false_iff] at hp
    rw [Int.toNat_natCast]
    exact Tree.reach_req (by omega) (Tree.reach_ite (fun hx => by rw [hp.1] at hx; cases hx) fun _ => Tree.reach_req (by omega) (Tree.reach_ite (fun hx => by rw [hp.2] at hx; cases hx) fun _ => rfl))))
theorem L0_ok : LoopOk pr c 0 (lb (codeOf f_ref1_Split) 0) L0 := by
  refine loopOk2 cok mixed (show LoopAll pr c (loopsIn (lb (codeOf f_ref1_Split) 0)) by
    rw [show loopsIn (lb (codeOf f_ref1_Split) 0) = [(3, lb (lb (codeOf f_ref1_Split) 0) 3), (5, lb (lb (codeOf f_ref1_Split) 0) 5), (7, lb (lb (codeOf f_ref1_Split) 0) 7)] by kernel_rfl]
    exact .cons (by kernel_rfl) l3 (.cons (by kernel_rfl) l5 (.cons (by kernel_rfl) l7 .nil))) (fun vs => match vs with | [.v (.leaf ⟨.str, s⟩ _), _, _, _, _, .v (.leaf ⟨.int .i64, a⟩ _)] => s.length - a.toNat | _ => 0) fun vs r h => ?_
  obtain ⟨s, _, rfl, g1⟩ := rS_r h
  obtain ⟨x2, _, rfl, g2⟩ := rToksO_r g1
  obtain ⟨x3, _, rfl, g3⟩ := rI_r g2
  obtain ⟨x4, _, rfl, g4⟩ := rI_r g3
  obtain ⟨o, _, rfl, g5⟩ := rToksO_r g4
  obtain ⟨a, _, rfl, g6⟩ := rI_r g5
  obtain ⟨rfl, ⟨h0, h1, h2, h3⟩, g⟩ := r0_r g6
  clear g1 g2 g3 g4 g5 g6 h
  obtain ⟨n, rfl⟩ := Int.eq_ofNat_of_zero_le h0
  have hb := body_t s x2 x3 x4 o n
  simp only [Int.toNat_natCast] at g hb
  rw [wrap_i64 (x := (n : Int) + 1) (by omega) (by omega)] at hb
  have hfew : few s.length := by unfold few; omega
  by_cases lt : n < s.length
  · have hr := fun p => runE_le (p := p) (s := s) (a := n) (by omega)
    have hs := sg_le (s.drop n)
    rw [List.length_drop] at hs
    have hq := qt_le _ (s.drop (n + 1)) (Nat.le_refl _)
    rw [List.length_drop] at hq
    rw [wrap_i64 (x := (n : Int) + (sg (s.drop n) : Nat)) (by omega) (by omega)] at hb
    have go : ∀ e : Nat, n < e → e ≤ s.length → (spl s n o = spl s e (o ++ [(nx s n).1])) → (r1 : Ex × List RV') → r1 = (.normal, [vS s, vL 1 x2 true, vI x3, vI x4, vL 1 (o ++ [(nx s n).1]) true, vI (e : Nat)]) → Onward2 L0 0 (fun vs => match vs with | [.v (.leaf ⟨.str, s⟩ _), _, _, _, _, .v (.leaf ⟨.int .i64, a⟩ _)] => s.length - a.toNat | _ => 0) [vS s, vL 1 x2 true, vI x3, vI x4, vL 1 o true, vI n] r r1 := by
      rintro e he1 he2 he3 r1 rfl
      refine onward2 ⟨by simp; omega, ⟨by omega, by omega, h2, by simp; omega⟩, ?_⟩
      have : ok3 s x2 x3 x4 o n = ok3 s x2 x3 x4 (o ++ [(nx s n).1]) e := by unfold ok3; rw [he3]
      rw [Int.toNat_natCast]
      exact Tree.of_eq this g
    have pos : ∀ p : Int → Bool, p (byt s n) = true → n < runE p s n := fun p hp => by
      rw [runE_yes lt hp]
      have := (runE_le (p := p) (s := s) (a := n + 1) (by omega)).1
      omega
    by_cases h32 : (byt s n == 32) = true
    · refine ⟨(.normal, [vS s, vL 1 x2 true, vI x3, vI x4, vL 1 o true, vI ((n + 1 : Nat) : Int)]), Tree.reach_of hb ?_, onward2 ⟨by simp; omega, ⟨by omega, by omega, h2, by omega⟩, ?_⟩⟩
      · rw [byt_nat] at h32
        exact Tree.reach_ite (fun _ => Tree.reach_req (by omega) (Tree.reach_ite (fun _ => rfl) fun hx => by rw [hx] at h32; cases h32)) fun hx => by simp at hx; omega
      · have e : ok3 s x2 x3 x4 o n = ok3 s x2 x3 x4 o (n + 1) := by
          have : spl s n o = spl s (n + 1) o := by rw [spl, dif_pos lt, if_pos h32]
          unfold ok3; rw [this]
        exact Tree.of_eq e g
    have h32' : (((s.getD n 0).toNat : Int) == 32) = false := by rw [← byt_nat]; simpa using h32
    have hspl : ∀ t e, nx s n = (t, e, true) → spl s n o = spl s e (o ++ [t]) := fun t e he => by
      rw [spl, dif_pos lt, if_neg h32, dif_pos (by rw [he])]
      show spl s (nx s n).2.1 (o ++ [(nx s n).1]) = _
      rw [he]
    cases c1 : dg ((s.getD n 0).toNat : Int) with
    | true =>
      have e : nx s n = nxF s n 1 (runE dg s n) := by unfold nx; rw [byt_nat, if_pos c1]
      have hp := pos dg (by rw [byt_nat]; exact c1)
      have e' : nx s n = (⟨1, n, seg s n (runE dg s n)⟩, runE dg s n, true) := by rw [e]; unfold nxF; rw [decide_eq_true hp]
      refine ⟨_, Tree.reach_of hb (Tree.reach_ite (fun _ => Tree.reach_req (by omega) (Tree.reach_ite (fun hx => by rw [h32'] at hx; cases hx) fun _ => Tree.reach_ite (fun _ => ?_) fun hx => by rw [c1] at hx; cases hx)) fun hx => by simp at hx; omega), go _ hp (hr dg).2 (by rw [hspl _ _ e', e']) _ rfl⟩
      rw [e']
      exact Tree.reach_req ⟨h0, h1, hfew⟩ (Tree.reach_req ⟨h0, by omega, by have := (hr dg).2; omega⟩ (Tree.reach_req ⟨trivial, trivial⟩ (Tree.reach_req (by show (o.length + 1) * 32 ≤ _; omega) rfl)))
    | false =>
    cases c2 : gr ((s.getD n 0).toNat : Int) with
    | true =>
      have hp := pos (fun c => gr c || dg c) (by rw [byt_nat]; simp only [c2, Bool.true_or])
      have e' : nx s n = (⟨3, n, seg s n (runE (fun c => gr c || dg c) s n)⟩, runE (fun c => gr c || dg c) s n, true) := by
        unfold nx; rw [byt_nat, if_neg (by rw [c1]; simp), if_pos c2]; unfold nxF; rw [decide_eq_true hp]
      refine ⟨_, Tree.reach_of hb (Tree.reach_ite (fun _ => Tree.reach_req (by omega) (Tree.reach_ite (fun hx => by rw [h32'] at hx; cases hx) fun _ => Tree.reach_ite (fun hx => by rw [c1] at hx; cases hx) fun _ => Tree.reach_ite (fun _ => ?_) fun hx => by rw [c2] at hx; cases hx)) fun hx => by simp at hx; omega), go _ hp (hr _).2 (by rw [hspl _ _ e', e']) _ rfl⟩
      rw [e']
      exact Tree.reach_req ⟨h0, h1, hfew⟩ (Tree.reach_req ⟨h0, by omega, by have := (hr (fun c => gr c || dg c)).2; omega⟩ (Tree.reach_req ⟨trivial, trivial⟩ (Tree.reach_req (by show (o.length + 1) * 32 ≤ _; omega) rfl)))
    | false =>
    cases c3 : sm ((s.getD n 0).toNat : Int) with
    | true =>
      have hp := pos (fun c => sm c || dg c) (by rw [byt_nat]; simp only [c3, Bool.true_or])
      have e' : nx s n = (⟨4, n, seg s n (runE (fun c => sm c || dg c) s n)⟩, runE (fun c => sm c || dg c) s n, true) := by
        unfold nx; rw [byt_nat, if_neg (by rw [c1]; simp), if_neg (by rw [c2]; simp), if_pos c3]; unfold nxF; rw [decide_eq_true hp]
      refine ⟨_, Tree.reach_of hb (Tree.reach_ite (fun _ => Tree.reach_req (by omega) (Tree.reach_ite (fun hx => by rw [h32'] at hx; cases hx) fun _ => Tree.reach_ite (fun hx => by rw [c1] at hx; cases hx) fun _ => Tree.reach_ite (fun hx => by rw [c2] at hx; cases hx) fun _ => Tree.reach_ite (fun _ => ?_) fun hx => by rw [c3] at hx; cases hx)) fun hx => by simp at hx; omega), go _ hp (hr _).2 (by rw [hspl _ _ e', e']) _ rfl⟩
      rw [e']
      exact Tree.reach_req ⟨h0, h1, hfew⟩ (Tree.reach_req ⟨h0, by omega, by have := (hr (fun c => sm c || dg c)).2; omega⟩ (Tree.reach_req ⟨trivial, trivial⟩ (Tree.reach_req (by show (o.length + 1) * 32 ≤ _; omega) rfl)))
    | false =>
    have fail : spl s n o = (false, o, n) → r = (.ret, [vS s, vL 1 [] true, vI n, vI 3, .any, .any]) := fun he => by
      have : ok3 s x2 x3 x4 o n = .ite false (.leaf (.normal, [vS s, vL 1 x2 true, vI x3, vI x4, vL 1 o true, .any])) (.leaf (.ret, [vS s, vL 1 [] true, vI n, vI 3, .any, .any])) := by unfold ok3; rw [he]
      exact Tree.of_ff (Tree.of_eq this g)
    cases c4 : (((s.getD n 0).toNat : Int) == 34) with
    | true =>
      have c4' : (byt s n == 34) = true := by rw [byt_nat]; exact c4
      cases c5 : (qt (s.drop (n + 1))).1 with
      | true =>
        have e' : nx s n = (⟨2, n, (qt (s.drop (n + 1))).2.1⟩, n + 1 + (qt (s.drop (n + 1))).2.2, true) := by
          unfold nx; rw [byt_nat, if_neg (by rw [c1]; simp), if_neg (by rw [c2]; simp), if_neg (by rw [c3]; simp), if_pos c4, if_pos c5]
        refine ⟨_, Tree.reach_of hb (Tree.reach_ite (fun _ => Tree.reach_req (by omega) (Tree.reach_ite (fun hx => by rw [h32'] at hx; cases hx) fun _ => Tree.reach_ite (fun hx => by rw [c1] at hx; cases hx) fun _ => Tree.reach_ite (fun hx => by rw [c2] at hx; cases hx) fun _ => Tree.reach_ite (fun hx => by rw [c3] at hx; cases hx) fun _ => Tree.reach_ite (fun _ => ?_) fun hx => by rw [c4] at hx; cases hx)) fun hx => by simp at hx; omega), go (n + 1 + (qt (s.drop (n + 1))).2.2) (by omega) (by omega) (by rw [hspl _ _ e', e']) _ rfl⟩
        rw [e']
        refine Tree.reach_req ⟨h0, by omega, hfew⟩ (Tree.reach_ite (fun _ => Tree.reach_ff (Tree.reach_req ⟨trivial, trivial⟩ (Tree.reach_req (by show (o.length + 1) * 32 ≤ _; omega) rfl))) fun hx => by rw [c5] at hx; cases hx)
      | false =>
        have e' : nx s n = (⟨2, n, []⟩, 0, false) := by
          unfold nx; rw [byt_nat, if_neg (by rw [c1]; simp), if_neg (by rw [c2]; simp), if_neg (by rw [c3]; simp), if_pos c4, if_neg (by rw [c5]; simp)]
        obtain rfl := fail (by rw [spl, dif_pos lt, if_neg h32, dif_neg (by rw [e']; simp)])
        refine ⟨(.ret, [vS s, vL 1 [] true, vI n, vI 3, vL 1 o true, vI n]), Tree.reach_of hb (Tree.reach_ite (fun _ => Tree.reach_req (by omega) (Tree.reach_ite (fun hx => by rw [h32'] at hx; cases hx) fun _ => Tree.reach_ite (fun hx => by rw [c1] at hx; cases hx) fun _ => Tree.reach_ite (fun hx => by rw [c2] at hx; cases hx) fun _ => Tree.reach_ite (fun hx => by rw [c3] at hx; cases hx) fun _ => Tree.reach_ite (fun _ => ?_) fun hx => by rw [c4] at hx; cases hx)) fun hx => by simp at hx; omega), onw_ret ⟨wkE, wkE, wkE, wkE, wkV, wkV, trivial⟩⟩
        exact Tree.reach_req ⟨h0, by omega, hfew⟩ (Tree.reach_ite (fun hx => by rw [c5] at hx; cases hx) fun _ => Tree.reach_tt rfl)
    | false =>
      have e : nx s n = nxF s n 5 (n + sg (s.drop n)) := by
        unfold nx; rw [byt_nat, if_neg (by rw [c1]; simp), if_neg (by rw [c2]; simp), if_neg (by rw [c3]; simp), if_neg (by rw [c4]; simp)]
      by_cases h0' : sg (s.drop n) = 0
      · obtain rfl := fail (by rw [spl, dif_pos lt, if_neg h32, dif_neg (by rw [e]; simp [nxF, h0'])])
        refine ⟨(.ret, [vS s, vL 1 [] true, vI n, vI 3, vL 1 o true, vI n]), Tree.reach_of hb (Tree.reach_ite (fun _ => Tree.reach_req (by omega) (Tree.reach_ite (fun hx => by rw [h32'] at hx; cases hx) fun _ => Tree.reach_ite (fun hx => by rw [c1] at hx; cases hx) fun _ => Tree.reach_ite (fun hx => by rw [c2] at hx; cases hx) fun _ => Tree.reach_ite (fun hx => by rw [c3] at hx; cases hx) fun _ => Tree.reach_ite (fun hx => by rw [c4] at hx; cases hx) fun _ => ?_)) fun hx => by simp at hx; omega), onw_ret ⟨wkE, wkE, wkE, wkE, wkV, wkV, trivial⟩⟩
        exact Tree.reach_req ⟨h0, by omega, hfew⟩ (Tree.reach_ite (fun _ => rfl) fun hx => by rw [h0'] at hx; simp at hx)
      · have e' : nx s n = (⟨5, n, seg s n (n + sg (s.drop n))⟩, n + sg (s.drop n), true) := by
          rw [e]; unfold nxF; rw [decide_eq_true (by omega)]
        refine ⟨_, Tree.reach_of hb (Tree.reach_ite (fun _ => Tree.reach_req (by omega) (Tree.reach_ite (fun hx => by rw [h32'] at hx; cases hx) fun _ => Tree.reach_ite (fun hx => by rw [c1] at hx; cases hx) fun _ => Tree.reach_ite (fun hx => by rw [c2] at hx; cases hx) fun _ => Tree.reach_ite (fun hx => by rw [c3] at hx; cases hx) fun _ => Tree.reach_ite (fun hx => by rw [c4] at hx; cases hx) fun _ => ?_)) fun hx => by simp at hx; omega), go (n + sg (s.drop n)) (by omega) (by omega) (by rw [hspl _ _ e', e']) _ rfl⟩
        rw [e']
        exact Tree.reach_req ⟨h0, by omega, hfew⟩ (Tree.reach_ite (fun hx => by simp at hx; omega) fun _ => Tree.reach_req ⟨h0, by omega, by omega⟩ (Tree.reach_req ⟨trivial, trivial⟩ (Tree.reach_req (by show (o.length + 1) * 32 ≤ _; omega) rfl)))
  · have e : ok3 s x2 x3 x4 o n = .ite true (.leaf (.normal, [vS s, vL 1 x2 true, vI x3, vI x4, vL 1 o true, .any])) (.leaf (.ret, [vS s, vL 1 [] true, vI n, vI 3, .any, .any])) := by
      have : spl s n o = (true, o, n) := by rw [spl, dif_neg lt]
      unfold ok3; rw [this]
    obtain rfl := Tree.of_tt (Tree.of_eq e g)
    exact ⟨(.exit 0, [vS s, vL 1 x2 true, vI x3, vI x4, vL 1 o true, vI n]), Tree.reach_of hb (Tree.reach_ite (fun hx => by simp at hx; omega) fun _ => rfl), onw_exit ⟨wkE, wkE, wkE, wkE, wkE, wkV, trivial⟩⟩
theorem ok : SpecOk pr i_ref1_Split token_Split.S := by
  refine pureOkU (ctx := c) cok mixed h_ref1_Split (by kernel_rfl) (one_loop (by kernel_rfl) (by kernel_rfl) L0_ok) (by kernel_rfl) fun xs r h => ?_
  obtain ⟨s, _, rfl, g1⟩ := aS_r h
  obtain ⟨rfl, rfl⟩ := a0_r g1
  by_cases hl : 200 < s.length
  · have e : splitR s = ([], 0, 5) := by unfold splitR; rw [if_pos hl]
    rw [e]
    exact ⟨rfl, [tL 1 [] true, tI 0, tI 5], Tree.reach_of (fn_t s) (Tree.reach_ite (fun _ => rfl) fun hx => by simp at hx; omega), rfl⟩
  cases hs : (spl s 0 []).1 with
  | true =>
    have e : splitR s = ((spl s 0 []).2.1, -1, 0) := by unfold splitR; rw [if_neg hl, if_pos hs]
    rw [e]
    refine ⟨rfl, _, Tree.reach_of (fn_t s) (Tree.reach_ite (fun hx => by simp at hx; omega) fun _ => Tree.reach_req ⟨by omega, by omega, by omega, by show ((0 : Nat) : Int) ≤ _; omega⟩ (Tree.reach_ite (fun _ => rfl) fun hx => ?_)), rfl⟩
    exact absurd (hx.symm.trans hs) (by simp)
  | false =>
    have e : splitR s = ([], ((spl s 0 []).2.2 : Int), 3) := by unfold splitR; rw [if_neg hl, if_neg (by rw [hs]; simp)]
    rw [e]
    refine ⟨rfl, [tL 1 [] true, tI (spl s 0 []).2.2, tI 3], Tree.reach_of (fn_t s) (Tree.reach_ite (fun hx => by simp at hx; omega) fun _ => Tree.reach_req ⟨by omega, by omega, by omega, by show ((0 : Nat) : Int) ≤ _; omega⟩ (Tree.reach_ite (fun hx => ?_) fun _ => rfl)), rfl⟩
    exact absurd (hx.symm.trans hs) (by simp)
end ref1_Split
end Go.Rf
end
end
section
set_option linter.unusedSimpArgs false
set_option linter.unusedVariables false
noncomputable section
namespace Go.Rf
open Go.Proofs
set_option maxRecDepth 100000
namespace law4_num
abbrev c := cx f_law4_num [] [] []
theorem fn_t (e : Int) : fnRun law4_num.c f_law4_num (codeOf f_law4_num) [tI e] (anys 1) =
  Tree.leaf ([tI e], [RV.any]) := by kernel_rfl
def F : List TV' → Tree (List TV') := aI fun e => a0 (.leaf [tI e])
abbrev S : Spec En := pureSpec 1 F
theorem ok : SpecOk pr i_law4_num S := by
  refine pureOk (ctx := c) (cx_ok nil_ok nil_ok) mixed h_law4_num (by kernel_rfl) (no_loop (by kernel_rfl)) (by kernel_rfl) fun xs r h => ?_
  obtain ⟨e, _, rfl, g1⟩ := aI_r h
  obtain ⟨rfl, rfl⟩ := a0_r g1
  exact ⟨rfl, Tree.reach_of (fn_t e) rfl⟩
end law4_num
theorem drop_at {α : Type} {l : List α} {n : Nat} {d : α} (h : n < l.length) : l.drop n = l.getD n d :: l.drop (n + 1) := by
  rw [List.drop_eq_getElem_cons h, List.getD_eq_getElem?_getD, List.getElem?_eq_getElem h]; rfl
namespace law4_same
def L0 : LoopSum En := ⟨[0, 1, 4, 5], rToks fun a => rToks fun b => rK fun r => rI fun i => r0 (.req (0 ≤ i ∧ i ≤ a.length ∧ a.length = b.length ∧ few a.length)
  (.ite (lEq (a.drop i.toNat) (b.drop i.toNat)) (.leaf (.normal, [vL 1 a false, vL 1 b false, .kn r, .any])) (.leaf (.ret, [vL 1 a false, vL 1 b false, .kn false, .any]))))⟩
abbrev c := cx f_law4_same [] [] [(0, L0)]
theorem cok : CtxOk pr c := cx_ok nil_ok nil_ok
theorem body_t (a b : List Tok) (i : Int) (r : Bool) : bodyRun law4_same.c [0, 1, 4, 5] (lb (codeOf f_law4_same) 0) [vL 1 a false, vL 1 b false, .kn r, vI i] =
  Tree.ite (decide (i < (↑(List.length a) : Int)))
  (Tree.req ((0 : Int) ≤ i ∧ i < (↑(List.length a) : Int))
    (Tree.req ((0 : Int) ≤ i ∧ i < (↑(List.length b) : Int))
      (Tree.ite
        (!(Tok.kind (List.getD a (Int.toNat i) (Env.dflt En (1 : Nat))) == Tok.kind (List.getD b (Int.toNat i) (Env.dflt En (1 : Nat))) &&
            (Tok.at_ (List.getD a (Int.toNat i) (Env.dflt En (1 : Nat))) == Tok.at_ (List.getD b (Int.toNat i) (Env.dflt En (1 : Nat))) && (Tok.text (List.getD a (Int.toNat i) (Env.dflt En (1 : Nat))) == Tok.text (List.getD b (Int.toNat i) (Env.dflt En (1 : Nat))) && true))))
        (Tree.leaf (Ex.ret, [vL (1 : Nat) a false, vL (1 : Nat) b false, RV.kn false, vI i])) (Tree.leaf (Ex.normal, [vL (1 : Nat) a false, vL (1 : Nat) b false, RV.kn r, vI (IntKind.wrap IntKind.i64 (i + (1 : Int)))])))))
  (Tree.leaf (Ex.exit (0 : Nat), [vL (1 : Nat) a false, vL (1 : Nat) b false, RV.kn r, vI i])) := by kernel_rfl
theorem fn_t (a b : List Tok) : fnRun law4_same.c f_law4_same (codeOf f_law4_same) [tL 1 a false, tL 1 b false] (anys 2) =
  Tree.ite ((↑(List.length a) : Int) != (↑(List.length b) : Int)) (Tree.leaf ([tB false], [RV.any, RV.any]))
  (Tree.req ((0 : Int) ≤ (0 : Int) ∧ (0 : Int) ≤ (↑(List.length a) : Int) ∧ List.length a = List.length b ∧ few (List.length a)) (Tree.ite (lEq (List.drop (0 : Nat) a) (List.drop (0 : Nat) b)) (Tree.leaf ([tB true], [RV.any, RV.any])) (Tree.leaf ([tB false], [RV.any, RV.any])))) := by kernel_rfl
theorem L0_ok : LoopOk pr c 0 (lb (codeOf f_law4_same) 0) L0 := by
  refine loopOk2 cok mixed (no_loop (by kernel_rfl)) (fun vs => match vs with | [.v (.leaf ⟨.sl 1, a⟩ _), _, _, .v (.leaf ⟨.int .i64, i⟩ _)] => List.length a - i.toNat | _ => 0) fun vs r h => ?_
  obtain ⟨a, _, rfl, g1⟩ := rToks_r h
  obtain ⟨b, _, rfl, g2⟩ := rToks_r g1
  obtain ⟨q, _, rfl, g3⟩ := rK_r g2
  obtain ⟨i, _, rfl, g4⟩ := rI_r g3
  obtain ⟨rfl, ⟨h0, h1, h2, h3⟩, g⟩ := r0_r g4
  clear g1 g2 g3 g4 h
  obtain ⟨n, rfl⟩ := Int.eq_ofNat_of_zero_le h0
  have h3' := h3
  unfold few at h3'
  have hb := body_t a b n q
  simp only [Int.toNat_natCast] at g hb
  rw [wrap_i64 (x := (n : Int) + 1) (by omega) (by omega)] at hb
  by_cases lt : n < a.length
  · generalize ha : List.getD a n (Env.dflt En 1) = x at hb
    generalize hb' : List.getD b n (Env.dflt En 1) = y at hb
    have da : a.drop n = x :: a.drop (n + 1) := by rw [← ha]; exact drop_at lt
    have db : b.drop n = y :: b.drop (n + 1) := by rw [← hb']; exact drop_at (by omega)
    rw [da, db, lEq_cons] at g
    have hxy : (!(Tok.kind x == Tok.kind y && (Tok.at_ x == Tok.at_ y && (Tok.text x == Tok.text y && true)))) = !(decide (x = y)) := by
      congr 1
      obtain ⟨a1, a2, a3⟩ := (x : Tok)
      obtain ⟨b1, b2, b3⟩ := (y : Tok)
      rw [Bool.eq_iff_iff]
      simp
    rw [hxy] at hb
    by_cases e : x = y
    · rw [decide_eq_true e, Bool.true_and] at g
      refine ⟨(.normal, [vL 1 a false, vL 1 b false, .kn q, vI ((n + 1 : Nat) : Int)]), Tree.reach_of hb ?_, onward2 ⟨?_, ⟨by omega, by omega, h2, h3⟩, ?_⟩⟩
      · exact Tree.reach_ite (fun _ => Tree.reach_req (by omega) (Tree.reach_req (by omega) (Tree.reach_ite (fun hx => by rw [decide_eq_true e] at hx; cases hx) fun _ => rfl))) fun hx => by simp at hx; omega
      · show a.length - (n + 1) < a.length - n; omega
      · rw [Int.toNat_natCast]; exact g
    · rw [decide_eq_false e, Bool.false_and] at g
      obtain rfl := Tree.of_ff g
      refine ⟨(.ret, [vL 1 a false, vL 1 b false, .kn false, vI n]), Tree.reach_of hb ?_, onw_ret ⟨wkE, wkE, wkE, wkV, trivial⟩⟩
      exact Tree.reach_ite (fun _ => Tree.reach_req (by omega) (Tree.reach_req (by omega) (Tree.reach_ite (fun _ => rfl) fun hx => by rw [decide_eq_false e] at hx; cases hx))) fun hx => by simp at hx; omega
  · rw [List.drop_eq_nil_of_le (by omega), List.drop_eq_nil_of_le (by omega), lEq_nil] at g
    obtain rfl := Tree.of_tt g
    exact ⟨(.exit 0, [vL 1 a false, vL 1 b false, .kn q, vI n]), Tree.reach_of hb (Tree.reach_ite (fun hx => by simp at hx; omega) fun _ => rfl), onw_exit ⟨wkE, wkE, wkE, wkV, trivial⟩⟩
def F : List TV' → Tree (List TV') := aToks fun a => aToks fun b => a0 (.req (few a.length) (.leaf [tB (lEq a b)]))
abbrev S : Spec En := pureSpec 2 F
theorem ok : SpecOk pr i_law4_same S := by
  refine pureOk (ctx := c) cok mixed h_law4_same (by kernel_rfl) (one_loop (by kernel_rfl) (by kernel_rfl) L0_ok) (by kernel_rfl) fun xs r h => ?_
  obtain ⟨a, _, rfl, g1⟩ := aToks_r h
  obtain ⟨b, _, rfl, g2⟩ := aToks_r g1
  obtain ⟨rfl, h1, rfl⟩ := a0_r g2
  refine ⟨rfl, Tree.reach_of (fn_t a b) ?_⟩
  by_cases hl : a.length = b.length
  · refine Tree.reach_ite (fun hx => by simp at hx; omega) fun _ => Tree.reach_req ⟨by omega, by omega, hl, h1⟩ ?_
    cases e : lEq a b with
    | true => exact Tree.reach_ite (fun _ => rfl) fun hx => absurd (hx.symm.trans e) (by simp)
    | false => exact Tree.reach_ite (fun hx => absurd (hx.symm.trans e) (by simp)) fun _ => rfl
  · rw [lEq_len hl]
    exact Tree.reach_ite (fun _ => rfl) fun hx => by simp at hx; omega
end law4_same
abbrev aliveF : List TV' → Tree (List TV') := a0 (.leaf [tB true])
namespace law4_alive
abbrev S : Spec En := pureSpec 0 aliveF
abbrev c := cx f_law4_alive [(i_token_Split, token_Split.S), (i_law4_num, law4_num.S)] [] []
theorem fn_t  : fnRun law4_alive.c f_law4_alive (codeOf f_law4_alive) [] (anys 0) =
  Tree.ite ((↑(List.length (Prod.fst (splitR []))) : Int) == (0 : Int))
  (Tree.ite (Prod.fst (Prod.snd (splitR [])) == (-1 : Int))
    (Tree.ite (Prod.snd (Prod.snd (splitR [])) == (0 : Int))
      (Tree.ite (Prod.snd (Prod.snd (splitR [(65 : UInt8), (49 : UInt8), (43 : UInt8), (50 : UInt8)])) == (0 : Int))
        (Tree.ite ((↑(List.length (Prod.fst (splitR [(65 : UInt8), (49 : UInt8), (43 : UInt8), (50 : UInt8)]))) : Int) == (3 : Int))
          (Tree.req ((0 : Int) ≤ (0 : Int) ∧ (0 : Int) < (↑(List.length (Prod.fst (splitR [(65 : UInt8), (49 : UInt8), (43 : UInt8), (50 : UInt8)]))) : Int))
            (Tree.leaf ([tB (Tok.text (List.getD (Prod.fst (splitR [(65 : UInt8), (49 : UInt8), (43 : UInt8), (50 : UInt8)])) (0 : Nat) (Env.dflt En (1 : Nat))) == [(65 : UInt8), (49 : UInt8)])], [])))
          (Tree.leaf ([tB false], [])))
        (Tree.ite false
          (Tree.req ((0 : Int) ≤ (0 : Int) ∧ (0 : Int) < (↑(List.length (Prod.fst (splitR [(65 : UInt8), (49 : UInt8), (43 : UInt8), (50 : UInt8)]))) : Int))
            (Tree.leaf ([tB (Tok.text (List.getD (Prod.fst (splitR [(65 : UInt8), (49 : UInt8), (43 : UInt8), (50 : UInt8)])) (0 : Nat) (Env.dflt En (1 : Nat))) == [(65 : UInt8), (49 : UInt8)])], [])))
          (Tree.leaf ([tB false], []))))
      (Tree.ite false
        (Tree.ite ((↑(List.length (Prod.fst (splitR [(65 : UInt8), (49 : UInt8), (43 : UInt8), (50 : UInt8)]))) : Int) == (3 : Int))
          (Tree.req ((0 : Int) ≤ (0 : Int) ∧ (0 : Int) < (↑(List.length (Prod.fst (splitR [(65 : UInt8), (49 : UInt8), (43 : UInt8), (50 : UInt8)]))) : Int))
            (Tree.leaf ([tB (Tok.text (List.getD (Prod.fst (splitR [(65 : UInt8), (49 : UInt8), (43 : UInt8), (50 : UInt8)])) (0 : Nat) (Env.dflt En (1 : Nat))) == [(65 : UInt8), (49 : UInt8)])], [])))
          (Tree.leaf ([tB false], [])))
        (Tree.ite false
          (Tree.req ((0 : Int) ≤ (0 : Int) ∧ (0 : Int) < (↑(List.length (Prod.fst (splitR [(65 : UInt8), (49 : UInt8), (43 : UInt8), (50 : UInt8)]))) : Int))
            (Tree.leaf ([tB (Tok.text (List.getD (Prod.fst (splitR [(65 : UInt8), (49 : UInt8), (43 : UInt8), (50 : UInt8)])) (0 : Nat) (Env.dflt En (1 : Nat))) == [(65 : UInt8), (49 : UInt8)])], [])))
          (Tree.leaf ([tB false], [])))))
    (Tree.ite false
      (Tree.ite (Prod.snd (Prod.snd (splitR [(65 : UInt8), (49 : UInt8), (43 : UInt8), (50 : UInt8)])) == (0 : Int))
        (Tree.ite ((↑(List.length (Prod.fst (splitR [(65 : UInt8), (49 : UInt8), (43 : UInt8), (50 : UInt8)]))) : Int) == (3 : Int))
          (Tree.req ((0 : Int) ≤ (0 : Int) ∧ (0 : Int) < (↑(List.length (Prod.fst (splitR [(65 : UInt8), (49 : UInt8), (43 : UInt8), (50 : UInt8)]))) : Int))
            (Tree.leaf ([tB (Tok.text (List.getD (Prod.fst (splitR [(65 : UInt8), (49 : UInt8), (43 : UInt8), (50 : UInt8)])) (0 : Nat) (Env.dflt En (1 : Nat))) == [(65 : UInt8), (49 : UInt8)])], [])))
          (Tree.leaf ([tB false], [])))
        (Tree.ite false
          (Tree.req ((0 : Int) ≤ (0 : Int) ∧ (0 : Int) < (↑(List.length (Prod.fst (splitR [(65 : UInt8), (49 : UInt8), (43 : UInt8), (50 : UInt8)]))) : Int))
            (Tree.leaf ([tB (Tok.text (List.getD (Prod.fst (splitR [(65 : UInt8), (49 : UInt8), (43 : UInt8), (50 : UInt8)])) (0 : Nat) (Env.dflt En (1 : Nat))) == [(65 : UInt8), (49 : UInt8)])], [])))
          (Tree.leaf ([tB false], []))))
      (Tree.ite false
        (Tree.ite ((↑(List.length (Prod.fst (splitR [(65 : UInt8), (49 : UInt8), (43 : UInt8), (50 : UInt8)]))) : Int) == (3 : Int))
          (Tree.req ((0 : Int) ≤ (0 : Int) ∧ (0 : Int) < (↑(List.length (Prod.fst (splitR [(65 : UInt8), (49 : UInt8), (43 : UInt8), (50 : UInt8)]))) : Int))
            (Tree.leaf ([tB (Tok.text (List.getD (Prod.fst (splitR [(65 : UInt8), (49 : UInt8), (43 : UInt8), (50 : UInt8)])) (0 : Nat) (Env.dflt En (1 : Nat))) == [(65 : UInt8), (49 : UInt8)])], [])))
          (Tree.leaf ([tB false], [])))
        (Tree.ite false
          (Tree.req ((0 : Int) ≤ (0 : Int) ∧ (0 : Int) < (↑(List.length (Prod.fst (splitR [(65 : UInt8), (49 : UInt8), (43 : UInt8), (50 : UInt8)]))) : Int))
            (Tree.leaf ([tB (Tok.text (List.getD (Prod.fst (splitR [(65 : UInt8), (49 : UInt8), (43 : UInt8), (50 : UInt8)])) (0 : Nat) (Env.dflt En (1 : Nat))) == [(65 : UInt8), (49 : UInt8)])], [])))
          (Tree.leaf ([tB false], []))))))
  (Tree.ite false
    (Tree.ite (Prod.snd (Prod.snd (splitR [])) == (0 : Int))
      (Tree.ite (Prod.snd (Prod.snd (splitR [(65 : UInt8), (49 : UInt8), (43 : UInt8), (50 : UInt8)])) == (0 : Int))
        (Tree.ite ((↑(List.length (Prod.fst (splitR [(65 : UInt8), (49 : UInt8), (43 : UInt8), (50 : UInt8)]))) : Int) == (3 : Int))
          (Tree.req ((0 : Int) ≤ (0 : Int) ∧ (0 : Int) < (↑(List.length (Prod.fst (splitR [(65 : UInt8), (49 : UInt8), (43 : UInt8), (50 : UInt8)]))) : Int))
            (Tree.leaf ([tB (Tok.text (List.getD (Prod.fst (splitR [(65 : UInt8), (49 : UInt8), (43 : UInt8), (50 : UInt8)])) (0 : Nat) (Env.dflt En (1 : Nat))) == [(65 : UInt8), (49 : UInt8)])], [])))
          (Tree.leaf ([tB false], [])))
        (Tree.ite false
          (Tree.req ((0 : Int) ≤ (0 : Int) ∧ (0 : Int) < (↑(List.length (Prod.fst (splitR [(65 : UInt8), (49 : UInt8), (43 : UInt8), (50 : UInt8)]))) : Int))
            (Tree.leaf ([tB (Tok.text (List.getD (Prod.fst (splitR [(65 : UInt8), (49 : UInt8), (43 : UInt8), (50 : UInt8)])) (0 : Nat) (Env.dflt En (1 : Nat))) == [(65 : UInt8), (49 : UInt8)])], [])))
          (Tree.leaf ([tB false], []))))
      (Tree.ite false
        (Tree.ite ((↑(List.length (Prod.fst (splitR [(65 : UInt8), (49 : UInt8), (43 : UInt8), (50 : UInt8)]))) : Int) == (3 : Int))
          (Tree.req ((0 : Int) ≤ (0 : Int) ∧ (0 : Int) < (↑(List.length (Prod.fst (splitR [(65 : UInt8), (49 : UInt8), (43 : UInt8), (50 : UInt8)]))) : Int))
            (Tree.leaf ([tB (Tok.text (List.getD (Prod.fst (splitR [(65 : UInt8), (49 : UInt8), (43 : UInt8), (50 : UInt8)])) (0 : Nat) (Env.dflt En (1 : Nat))) == [(65 : UInt8), (49 : UInt8)])], [])))
          (Tree.leaf ([tB false], [])))
        (Tree.ite false
          (Tree.req ((0 : Int) ≤ (0 : Int) ∧ (0 : Int) < (↑(List.length (Prod.fst (splitR [(65 : UInt8), (49 : UInt8), (43 : UInt8), (50 : UInt8)]))) : Int))
            (Tree.leaf ([tB (Tok.text (List.getD (Prod.fst (splitR [(65 : UInt8), (49 : UInt8), (43 : UInt8), (50 : UInt8)])) (0 : Nat) (Env.dflt En (1 : Nat))) == [(65 : UInt8), (49 : UInt8)])], [])))
          (Tree.leaf ([tB false], [])))))
    (Tree.ite false
      (Tree.ite (Prod.snd (Prod.snd (splitR [(65 : UInt8), (49 : UInt8), (43 : UInt8), (50 : UInt8)])) == (0 : Int))
        (Tree.ite ((↑(List.length (Prod.fst (splitR [(65 : UInt8), (49 : UInt8), (43 : UInt8), (50 : UInt8)]))) : Int) == (3 : Int))
          (Tree.req ((0 : Int) ≤ (0 : Int) ∧ (0 : Int) < (↑(List.length (Prod.fst (splitR [(65 : UInt8), (49 : UInt8), (43 : UInt8), (50 : UInt8)]))) : Int))
            (Tree.leaf ([tB (Tok.text (List.getD (Prod.fst (splitR [(65 : UInt8), (49 : UInt8), (43 : UInt8), (50 : UInt8)])) (0 : Nat) (Env.dflt En (1 : Nat))) == [(65 : UInt8), (49 : UInt8)])], [])))
          (Tree.leaf ([tB false], [])))
        (Tree.ite false
          (Tree.req ((0 : Int) ≤ (0 : Int) ∧ (0 : Int) < (↑(List.length (Prod.fst (splitR [(65 : UInt8), (49 : UInt8), (43 : UInt8), (50 : UInt8)]))) : Int))
            (Tree.leaf ([tB (Tok.text (List.getD (Prod.fst (splitR [(65 : UInt8), (49 : UInt8), (43 : UInt8), (50 : UInt8)])) (0 : Nat) (Env.dflt En (1 : Nat))) == [(65 : UInt8), (49 : UInt8)])], [])))
          (Tree.leaf ([tB false], []))))
      (Tree.ite false
        (Tree.ite ((↑(List.length (Prod.fst (splitR [(65 : UInt8), (49 : UInt8), (43 : UInt8), (50 : UInt8)]))) : Int) == (3 : Int))
          (Tree.req ((0 : Int) ≤ (0 : Int) ∧ (0 : Int) < (↑(List.length (Prod.fst (splitR [(65 : UInt8), (49 : UInt8), (43 : UInt8), (50 : UInt8)]))) : Int))
            (Tree.leaf ([tB (Tok.text (List.getD (Prod.fst (splitR [(65 : UInt8), (49 : UInt8), (43 : UInt8), (50 : UInt8)])) (0 : Nat) (Env.dflt En (1 : Nat))) == [(65 : UInt8), (49 : UInt8)])], [])))
          (Tree.leaf ([tB false], [])))
        (Tree.ite false
          (Tree.req ((0 : Int) ≤ (0 : Int) ∧ (0 : Int) < (↑(List.length (Prod.fst (splitR [(65 : UInt8), (49 : UInt8), (43 : UInt8), (50 : UInt8)]))) : Int))
            (Tree.leaf ([tB (Tok.text (List.getD (Prod.fst (splitR [(65 : UInt8), (49 : UInt8), (43 : UInt8), (50 : UInt8)])) (0 : Nat) (Env.dflt En (1 : Nat))) == [(65 : UInt8), (49 : UInt8)])], [])))
          (Tree.leaf ([tB false], [])))))) := by kernel_rfl
theorem e0 : splitR [] = ([], -1, 0) := by unfold splitR; rw [spl_end (by simp)]; rfl
theorem e1 : splitR [65, 49, 43, 50] = ([⟨3, 0, [65, 49]⟩, ⟨5, 2, [43]⟩, ⟨1, 3, [50]⟩], -1, 0) := by
  have h : spl [65, 49, 43, 50] 0 [] = (true, [⟨3, 0, [65, 49]⟩, ⟨5, 2, [43]⟩, ⟨1, 3, [50]⟩], 4) := by
    rw [spl_tok (t := ⟨3, 0, [65, 49]⟩) (e := 2) (by decide) (by decide) (by kernel_rfl), spl_tok (t := ⟨5, 2, [43]⟩) (e := 3) (by decide) (by decide) (by kernel_rfl), spl_tok (t := ⟨1, 3, [50]⟩) (e := 4) (by decide) (by decide) (by kernel_rfl), spl_end (by decide)]
    rfl
  unfold splitR
  rw [h]; rfl
theorem ok : SpecOk pr i_law4_alive S := by
  refine pureOk (ctx := c) (cx_ok (.cons token_Split.ok (.cons law4_num.ok .nil)) nil_ok) mixed h_law4_alive (by kernel_rfl) (no_loop (by kernel_rfl)) (by kernel_rfl) fun xs r h => ?_
  obtain ⟨rfl, rfl⟩ := a0_r h
  refine ⟨rfl, Tree.reach_of fn_t ?_⟩
  rw [e0, e1]
  exact Tree.reach_ite (fun _ => Tree.reach_ite (fun _ => Tree.reach_ite (fun _ => Tree.reach_ite (fun _ => Tree.reach_ite (fun _ => Tree.reach_req (by decide) rfl) fun h => by cases h) fun h => by cases h) fun h => by cases h) fun h => by cases h) fun h => by cases h
end law4_alive
namespace law4_TokenTells
abbrev c := cx f_law4_TokenTells [(i_law4_alive, law4_alive.S), (i_token_Split, token_Split.S), (i_ref1_Split, token_Split.S), (i_law4_same, law4_same.S), (i_law4_num, law4_num.S)] [] []
theorem fn_t (s : List UInt8) : fnRun law4_TokenTells.c f_law4_TokenTells (codeOf f_law4_TokenTells) [tS s] (anys 1) =
  Tree.ite false
  (Tree.ite true (Tree.leaf ([tB true], [RV.any]))
    (Tree.req (few (List.length (Prod.fst (splitR s))))
      (Tree.ite (lEq (Prod.fst (splitR s)) (Prod.fst (splitR s))) (Tree.ite (Prod.fst (Prod.snd (splitR s)) == Prod.fst (Prod.snd (splitR s))) (Tree.leaf ([tB (Prod.snd (Prod.snd (splitR s)) == Prod.snd (Prod.snd (splitR s)))], [RV.any])) (Tree.leaf ([tB false], [RV.any])))
        (Tree.ite false (Tree.leaf ([tB (Prod.snd (Prod.snd (splitR s)) == Prod.snd (Prod.snd (splitR s)))], [RV.any])) (Tree.leaf ([tB false], [RV.any]))))))
  (Tree.ite (decide ((↑(List.length s) : Int) > (300 : Int))) (Tree.leaf ([tB true], [RV.any]))
    (Tree.req (few (List.length (Prod.fst (splitR s))))
      (Tree.ite (lEq (Prod.fst (splitR s)) (Prod.fst (splitR s))) (Tree.ite (Prod.fst (Prod.snd (splitR s)) == Prod.fst (Prod.snd (splitR s))) (Tree.leaf ([tB (Prod.snd (Prod.snd (splitR s)) == Prod.snd (Prod.snd (splitR s)))], [RV.any])) (Tree.leaf ([tB false], [RV.any])))
        (Tree.ite false (Tree.leaf ([tB (Prod.snd (Prod.snd (splitR s)) == Prod.snd (Prod.snd (splitR s)))], [RV.any])) (Tree.leaf ([tB false], [RV.any])))))) := by kernel_rfl
def F : List TV' → Tree (List TV') := aS fun s => a0 (.leaf [tB true])
abbrev S : Spec En := pureSpec 1 F
theorem ok : SpecOk pr i_law4_TokenTells S := by
  refine pureOk (ctx := c) (cx_ok (.cons law4_alive.ok (.cons token_Split.ok (.cons ref1_Split.ok (.cons law4_same.ok (.cons law4_num.ok .nil))))) nil_ok) mixed h_law4_TokenTells (by kernel_rfl) (no_loop (by kernel_rfl)) (by kernel_rfl) fun xs r h => ?_
  obtain ⟨s, _, rfl, g1⟩ := aS_r h
  obtain ⟨rfl, rfl⟩ := a0_r g1
  refine ⟨rfl, Tree.reach_of (fn_t s) ?_⟩
  refine Tree.reach_ff (Tree.reach_ite (fun _ => rfl) fun hx => ?_)
  refine Tree.reach_req ?_ (Tree.reach_ite (fun _ => Tree.reach_ite (fun _ => ?_) fun hy => by simp at hy) fun hy => by rw [lEq_refl] at hy; cases hy)
  · have := (splitR_len s).1; unfold few; omega
  · rw [beq_self_eq_true]; rfl
end law4_TokenTells
end Go.Rf
end
end
section
set_option linter.unusedSimpArgs false
set_option linter.unusedVariables false
noncomputable section
namespace Go.Rf
open Go.Proofs
set_option maxRecDepth 100000
namespace frame_writer_number
def L0 : LoopSum En := ⟨[0, 1, 8, 1000000], rP 0 fun vs => rI (fun n => rI fun i => rSt t_frame_writer true fun w => r0 (.req (-1 ≤ i ∧ i ≤ 7 ∧ room (w.1.length + (i + 1).toNat))
  (.leaf (.normal, [.any, .any, .any, stV t_frame_writer true (w.1 ++ be n (i + 1).toNat, w.2)])))) vs⟩
abbrev c := cx f_frame_writer_number [] [] [(0, L0)]
theorem body_t (n i : Int) (ys : List UInt8) (bad : Bool) : bodyRun frame_writer_number.c [0, 1, 8, 1000000] (lb (codeOf f_frame_writer_number) 0) [.v (tP 0 0), vI n, vI i, stV t_frame_writer true (ys, bad)] =
  Tree.ite (decide (i ≥ (0 : Int)))
  (Tree.req ((0 : Int) ≤ IntKind.wrap IntKind.i64 ((8 : Int) * i))
    (Tree.req
      (((0 : Int) ≤ IntKind.wrap IntKind.u8 (Int.fdiv n ((2 : Int) ^ min (Int.toNat (IntKind.wrap IntKind.i64 ((8 : Int) * i))) (IntKind.bits IntKind.i64))) ∧
          IntKind.wrap IntKind.u8 (Int.fdiv n ((2 : Int) ^ min (Int.toNat (IntKind.wrap IntKind.i64 ((8 : Int) * i))) (IntKind.bits IntKind.i64))) < (256 : LT.den kindA (LT.int IntKind.u8))) ∧
        True)
      (Tree.req ((List.length ys + List.length [UInt8.ofNat (Int.toNat (IntKind.wrap IntKind.u8 (Int.fdiv n ((2 : Int) ^ min (Int.toNat (IntKind.wrap IntKind.i64 ((8 : Int) * i))) (IntKind.bits IntKind.i64)))))]) * (1 : Nat) ≤ (140737488355328 : Nat))
        (Tree.leaf
          (Ex.normal,
            [RV.v (TV.leaf (Leaf.mk LT.ptr (some ((0 : Nat), (0 : Nat)))) false), vI n, vI (IntKind.wrap IntKind.i64 (i - (1 : Int))),
              RV.blk t_frame_writer [(Leaf.mk (LT.sl (0 : Nat)) (ys ++ [UInt8.ofNat (Int.toNat (IntKind.wrap IntKind.u8 (Int.fdiv n ((2 : Int) ^ min (Int.toNat (IntKind.wrap IntKind.i64 ((8 : Int) * i))) (IntKind.bits IntKind.i64)))))]), true), (Leaf.mk LT.bool bad, false)]])))))
  (Tree.leaf (Ex.exit (0 : Nat), [RV.v (TV.leaf (Leaf.mk LT.ptr (some ((0 : Nat), (0 : Nat)))) false), vI n, vI i, RV.blk t_frame_writer [(Leaf.mk (LT.sl (0 : Nat)) ys, true), (Leaf.mk LT.bool bad, false)]])) := by kernel_rfl
theorem fn_t (n k m : Int) (w : BF) : fnRun frame_writer_number.c f_frame_writer_number (codeOf f_frame_writer_number) [tP 0 0, tI n, tI k, tI m] [stV t_frame_writer true w, .any, .any, .any] =
  Tree.ite (Prod.snd w)
  (Tree.ite true
    (Tree.req ((-1 : Int) ≤ IntKind.wrap IntKind.i64 (k - (1 : Int)) ∧ IntKind.wrap IntKind.i64 (k - (1 : Int)) ≤ (7 : Int) ∧ room (List.length (Prod.fst w) + Int.toNat (IntKind.wrap IntKind.i64 (k - (1 : Int)) + (1 : Int))))
      (Tree.leaf ([], [RV.blk t_frame_writer [(Leaf.mk (LT.sl (0 : Nat)) (Prod.fst w ++ be n (Int.toNat (IntKind.wrap IntKind.i64 (k - (1 : Int)) + (1 : Int)))), true), (Leaf.mk LT.bool true, false)], RV.any, RV.any, RV.any])))
    (Tree.req ((-1 : Int) ≤ IntKind.wrap IntKind.i64 (k - (1 : Int)) ∧ IntKind.wrap IntKind.i64 (k - (1 : Int)) ≤ (7 : Int) ∧ room (List.length (Prod.fst w) + Int.toNat (IntKind.wrap IntKind.i64 (k - (1 : Int)) + (1 : Int))))
      (Tree.leaf ([], [RV.blk t_frame_writer [(Leaf.mk (LT.sl (0 : Nat)) (Prod.fst w ++ be n (Int.toNat (IntKind.wrap IntKind.i64 (k - (1 : Int)) + (1 : Int)))), true), (Leaf.mk LT.bool (decide (n > m)), false)], RV.any, RV.any, RV.any]))))
  (Tree.ite (decide (n < (0 : Int)))
    (Tree.req ((-1 : Int) ≤ IntKind.wrap IntKind.i64 (k - (1 : Int)) ∧ IntKind.wrap IntKind.i64 (k - (1 : Int)) ≤ (7 : Int) ∧ room (List.length (Prod.fst w) + Int.toNat (IntKind.wrap IntKind.i64 (k - (1 : Int)) + (1 : Int))))
      (Tree.leaf ([], [RV.blk t_frame_writer [(Leaf.mk (LT.sl (0 : Nat)) (Prod.fst w ++ be n (Int.toNat (IntKind.wrap IntKind.i64 (k - (1 : Int)) + (1 : Int)))), true), (Leaf.mk LT.bool true, false)], RV.any, RV.any, RV.any])))
    (Tree.req ((-1 : Int) ≤ IntKind.wrap IntKind.i64 (k - (1 : Int)) ∧ IntKind.wrap IntKind.i64 (k - (1 : Int)) ≤ (7 : Int) ∧ room (List.length (Prod.fst w) + Int.toNat (IntKind.wrap IntKind.i64 (k - (1 : Int)) + (1 : Int))))
      (Tree.leaf ([], [RV.blk t_frame_writer [(Leaf.mk (LT.sl (0 : Nat)) (Prod.fst w ++ be n (Int.toNat (IntKind.wrap IntKind.i64 (k - (1 : Int)) + (1 : Int)))), true), (Leaf.mk LT.bool (decide (n > m)), false)], RV.any, RV.any, RV.any])))) := by kernel_rfl
def F (w : BF) : List TV' → Tree (List TV' × BF) := aP 0 (aI fun n => aI fun k => aI fun m => a0 (.req (0 ≤ k ∧ k ≤ 8 ∧ room (w.1.length + k.toNat)) (.leaf ([], wNum w n k.toNat m))))
abbrev S : Spec En := stSpec t_frame_writer true 3 F
theorem cok : CtxOk pr c := cx_ok nil_ok nil_ok
theorem L0_ok : LoopOk pr c 0 (lb (codeOf f_frame_writer_number) 0) L0 := by
  refine loopOk2 cok mixed (no_loop (by kernel_rfl)) (fun vs => match vs with | [_, _, .v (.leaf ⟨.int .i64, i⟩ _), _] => (i + 1).toNat | _ => 0) fun vs r h => ?_
  obtain ⟨vs1, rfl, g1⟩ := rP_r h
  obtain ⟨n, _, rfl, g2⟩ := rI_r g1
  obtain ⟨i, _, rfl, g3⟩ := rI_r g2
  obtain ⟨⟨ys, bad⟩, _, rfl, g4⟩ := rSt_r g3
  obtain ⟨rfl, ⟨h0, h1, h2⟩, rfl⟩ := r0_r g4
  clear g1 g2 g3 g4 h
  have hb := body_t n i ys bad
  rw [wrap_i64 (x := i - 1) (by omega) (by omega), wrap_i64 (x := 8 * i) (by omega) (by omega)] at hb
  by_cases lt : 0 ≤ i
  · obtain ⟨k, rfl⟩ := Int.eq_ofNat_of_zero_le lt
    have hm : min (Int.toNat (8 * (k : Int))) (IntKind.bits IntKind.i64) = 8 * k := by
      have : IntKind.bits IntKind.i64 = 64 := rfl
      rw [this]; omega
    rw [hm] at hb
    have hk : ((k : Int) + 1).toNat = k + 1 := by omega
    rw [hk] at h2 ⊢
    unfold room at h2
    have hu := wrap_u8 (Int.fdiv n (2 ^ (8 * k)))
    refine ⟨(.normal, [.v (tP 0 0), vI n, vI ((k : Int) - 1), stV t_frame_writer true (ys ++ [bt (Int.fdiv n (2 ^ (8 * k)))], bad)]), Tree.reach_of hb ?_, onward2 ⟨?_, ⟨by omega, by omega, ?_⟩, ?_⟩⟩
    · refine Tree.reach_ite (fun _ => Tree.reach_req (by omega) (Tree.reach_req ⟨?_, trivial⟩ (Tree.reach_req ?_ rfl))) fun hx => by simp at hx
      · rw [hu]
        show 0 ≤ _ ∧ (_ : Int) < (256 : Int)
        omega
      · simp only [List.length_singleton, Nat.mul_one]; dsimp only at h2; omega
    · show ((k : Int) - 1 + 1).toNat < ((k : Int) + 1).toNat; omega
    · unfold room; simp only [List.length_append, List.length_singleton]; dsimp only at h2; omega
    · have e : ((k : Int) - 1 + 1).toNat = k := by omega
      rw [e]
      show (Ex.normal, [RV.any, RV.any, RV.any, stV t_frame_writer true (ys ++ be n (k + 1), bad)]) = (Ex.normal, [RV.any, RV.any, RV.any, stV t_frame_writer true ((ys ++ [bt (Int.fdiv n (2 ^ (8 * k)))]) ++ be n k, bad)])
      rw [List.append_assoc]; rfl
  · have e : (i + 1).toNat = 0 := by omega
    rw [e]
    refine ⟨(.exit 0, [.v (tP 0 0), vI n, vI i, stV t_frame_writer true (ys, bad)]), Tree.reach_of hb (Tree.reach_ite (fun hx => by simp at hx; omega) fun _ => rfl), onw_exit ⟨wkV, wkV, wkV, ?_, trivial⟩⟩
    show Wk (E := En) (stV t_frame_writer true (ys, bad)) (stV t_frame_writer true (ys ++ [], bad))
    rw [List.append_nil]
    exact wkE
theorem ok : SpecOk pr i_frame_writer_number S := by
  refine stOk (ctx := c) cok h_frame_writer_number (by kernel_rfl) (one_loop (by kernel_rfl) (by kernel_rfl) L0_ok) fun w xs rs w' h => ?_
  obtain ⟨xs, rfl, g1⟩ := aP_r h
  obtain ⟨n, _, rfl, g2⟩ := aI_r g1
  obtain ⟨k, _, rfl, g3⟩ := aI_r g2
  obtain ⟨m, _, rfl, g4⟩ := aI_r g3
  obtain ⟨rfl, ⟨h0, h1, h2⟩, g⟩ := a0_r g4
  obtain ⟨rfl, rfl⟩ := Prod.mk.inj g
  refine ⟨rfl, Tree.reach_of (fn_t n k m w) ?_⟩
  rw [wrap_i64 (x := k - 1) (by omega) (by omega)]
  have e : Int.toNat (k - 1 + 1) = Int.toNat k := by congr 1; omega
  rw [e]
  have hq : (-1 : Int) ≤ k - 1 ∧ k - 1 ≤ 7 ∧ room (w.1.length + k.toNat) := ⟨by omega, by omega, h2⟩
  unfold wNum
  refine Tree.reach_ite (fun hw => Tree.reach_tt (Tree.reach_req hq (Tree.reach_leaf ?_))) fun hw => Tree.reach_ite (fun hn => Tree.reach_req hq (Tree.reach_leaf ?_)) fun hn => Tree.reach_req hq (Tree.reach_leaf ?_)
  · rw [hw]; rfl
  · rw [hw, hn]; rfl
  · rw [hw, hn]; rfl
end frame_writer_number
namespace frame_writer_short
abbrev c := cx f_frame_writer_short [(i_frame_writer_number, frame_writer_number.S)] [] []
theorem fn_t (s : List UInt8) (w : BF) : fnRun frame_writer_short.c f_frame_writer_short (codeOf f_frame_writer_short) [tP 0 0, tS s] [stV t_frame_writer true w, .any] =
  Tree.req ((0 : Int) ≤ (1 : Int) ∧ (1 : Int) ≤ (8 : Int) ∧ room (List.length (Prod.fst w) + (1 : Nat)))
  (Tree.ite (!Prod.snd (wNum w (↑(List.length s) : Int) (1 : Nat) (255 : Int)))
    (Tree.req ((List.length (Prod.fst (wNum w (↑(List.length s) : Int) (1 : Nat) (255 : Int))) + List.length s) * (1 : Nat) ≤ (140737488355328 : Nat))
      (Tree.leaf ([], [RV.blk t_frame_writer [(Leaf.mk (LT.sl (0 : Nat)) (Prod.fst (wNum w (↑(List.length s) : Int) (1 : Nat) (255 : Int)) ++ s), true), (Leaf.mk LT.bool (Prod.snd (wNum w (↑(List.length s) : Int) (1 : Nat) (255 : Int))), false)], RV.any])))
    (Tree.leaf ([], [RV.blk t_frame_writer [(Leaf.mk (LT.sl (0 : Nat)) (Prod.fst (wNum w (↑(List.length s) : Int) (1 : Nat) (255 : Int))), true), (Leaf.mk LT.bool (Prod.snd (wNum w (↑(List.length s) : Int) (1 : Nat) (255 : Int))), false)], RV.any]))) := by kernel_rfl
def F (w : BF) : List TV' → Tree (List TV' × BF) := aP 0 (aS fun s => a0 (.req (room (w.1.length + 256)) (.leaf ([], wShort w s))))
abbrev S : Spec En := stSpec t_frame_writer true 1 F
theorem ok : SpecOk pr i_frame_writer_short S := by
  refine stOk (ctx := c) (cx_ok (.cons frame_writer_number.ok .nil) nil_ok) h_frame_writer_short (by kernel_rfl) (no_loop (by kernel_rfl)) fun w xs rs w' h => ?_
  obtain ⟨xs, rfl, g1⟩ := aP_r h
  obtain ⟨s, _, rfl, g2⟩ := aS_r g1
  obtain ⟨rfl, h0, g⟩ := a0_r g2
  obtain ⟨rfl, rfl⟩ := Prod.mk.inj g
  have hl := wNum_len w s.length 1 255
  unfold room at h0
  refine ⟨rfl, Tree.reach_of (fn_t s w) (Tree.reach_req ⟨by omega, by omega, by unfold room; omega⟩ (Tree.reach_ite (fun hb => Tree.reach_req ?_ (Tree.reach_leaf ?_)) fun hb => Tree.reach_leaf ?_))⟩
  · rw [Bool.not_eq_true'] at hb
    simp only [wNum, Bool.or_eq_false_iff, decide_eq_false_iff_not] at hb
    rw [hl]; omega
  · rw [Bool.not_eq_true'] at hb
    unfold wShort; rw [hb]; rfl
  · rw [Bool.not_eq_false'] at hb
    have e : wShort w s = wNum w s.length 1 255 := by unfold wShort; rw [hb]; rfl
    rw [e]; rfl
end frame_writer_short
namespace frame_writer_cell
abbrev c := cx f_frame_writer_cell [(i_frame_writer_number, frame_writer_number.S), (i_frame_writer_short, frame_writer_short.S)] [] []
theorem fn_t (x y : Int) (s : List UInt8) (w : BF) : fnRun frame_writer_cell.c f_frame_writer_cell (codeOf f_frame_writer_cell) [tP 0 0, .agg (Cell.lv ⟨s, x, y⟩)] [stV t_frame_writer true w, .any] =
  Tree.req (room (List.length (Prod.fst w) + (256 : Nat)))
  (Tree.req ((0 : Int) ≤ (2 : Int) ∧ (2 : Int) ≤ (8 : Int) ∧ room (List.length (Prod.fst (wShort w s)) + (2 : Nat)))
    (Tree.req ((0 : Int) ≤ (2 : Int) ∧ (2 : Int) ≤ (8 : Int) ∧ room (List.length (Prod.fst (wNum (wShort w s) x (2 : Nat) (65535 : Int))) + (2 : Nat)))
      (Tree.leaf ([], [RV.blk t_frame_writer [(Leaf.mk (LT.sl (0 : Nat)) (Prod.fst (wNum (wNum (wShort w s) x (2 : Nat) (65535 : Int)) y (2 : Nat) (65535 : Int))), true), (Leaf.mk LT.bool (Prod.snd (wNum (wNum (wShort w s) x (2 : Nat) (65535 : Int)) y (2 : Nat) (65535 : Int))), false)], RV.any])))) := by kernel_rfl
def F (w : BF) : List TV' → Tree (List TV' × BF) := aP 0 (aCell fun c => a0 (.req (room (w.1.length + 260)) (.leaf ([], wCell w c))))
abbrev S : Spec En := stSpec t_frame_writer true 1 F
theorem ok : SpecOk pr i_frame_writer_cell S := by
  refine stOk (ctx := c) (cx_ok (.cons frame_writer_number.ok (.cons frame_writer_short.ok .nil)) nil_ok) h_frame_writer_cell (by kernel_rfl) (no_loop (by kernel_rfl)) fun w xs rs w' h => ?_
  obtain ⟨xs, rfl, g1⟩ := aP_r h
  obtain ⟨⟨s, x, y⟩, _, rfl, g2⟩ := aCell_r g1
  obtain ⟨rfl, h0, g⟩ := a0_r g2
  obtain ⟨rfl, rfl⟩ := Prod.mk.inj g
  have hl := wShort_len w s
  have hl2 := wNum_len (wShort w s) x 2 65535
  unfold room at h0
  exact ⟨rfl, Tree.reach_of (fn_t x y s w) (Tree.reach_req (by unfold room; omega) (Tree.reach_req ⟨by omega, by omega, by unfold room; omega⟩ (Tree.reach_req ⟨by omega, by omega, by unfold room; omega⟩ rfl)))⟩
end frame_writer_cell
namespace frame_writer_all
abbrev c := cx f_frame_writer_all [] [] []
theorem fn_t (w : BF) : fnRun frame_writer_all.c f_frame_writer_all (codeOf f_frame_writer_all) [tP 0 0] [stV t_frame_writer true w] =
  Tree.ite (Prod.snd w) (Tree.leaf ([tL (0 : Nat) [] true], [RV.blk t_frame_writer [(Leaf.mk (LT.sl (0 : Nat)) (Prod.fst w), true), (Leaf.mk LT.bool (Prod.snd w), false)]]))
  (Tree.leaf ([tL (0 : Nat) (Prod.fst w) false], [RV.blk t_frame_writer [(Leaf.mk (LT.sl (0 : Nat)) (Prod.fst w), true), (Leaf.mk LT.bool (Prod.snd w), false)]])) := by kernel_rfl
def F (w : BF) : List TV' → Tree (List TV' × BF) := aP 0 (a0 (.leaf ([tL 0 (wAll w) false], w)))
abbrev S : Spec En := stSpec t_frame_writer true 0 F
theorem ok : SpecOk pr i_frame_writer_all S := by
  have h0 : SpecOk pr i_frame_writer_all (stSpec t_frame_writer true 0 fun w => aP 0 (a0 (.leaf ([tL 0 (wAll w) w.2], w)))) := by
    refine stOk (ctx := c) (cx_ok nil_ok nil_ok) h_frame_writer_all (by kernel_rfl) (no_loop (by kernel_rfl)) fun w xs rs w' h => ?_
    obtain ⟨xs, rfl, g1⟩ := aP_r h
    obtain ⟨rfl, g⟩ := a0_r g1
    obtain ⟨rfl, rfl⟩ := Prod.mk.inj g
    refine ⟨rfl, Tree.reach_of (fn_t w') (Tree.reach_ite (fun hb => Tree.reach_leaf ?_) fun hb => Tree.reach_leaf ?_)⟩
    · obtain ⟨ys, b⟩ := w'
      dsimp only at hb; subst hb; rfl
    · obtain ⟨ys, b⟩ := w'
      dsimp only at hb; subst hb; rfl
  refine stUn h0 fun w xs rs w' h => ?_
  obtain ⟨xs, rfl, g1⟩ := aP_r h
  obtain ⟨rfl, g⟩ := a0_r g1
  obtain ⟨rfl, rfl⟩ := Prod.mk.inj g
  exact ⟨[tL 0 (wAll w') w'.2], rfl, rfl, by simp, by intro x hx; simp at hx; subst hx; rfl⟩
end frame_writer_all
end Go.Rf
end
end
