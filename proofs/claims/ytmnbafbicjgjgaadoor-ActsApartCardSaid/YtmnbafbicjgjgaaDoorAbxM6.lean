/- The intermediate code is the code of the translation: the kernel says so. -/
import Derived.Test.YtmnbafbicjgjgaaDoorProg
import Derived.KernelRfl
import Derived.Test.YtmnbafbicjgjgaaDoorAbxM
import Derived.Test.YtmnbafbicjgjgaaDoorAbxI6
namespace Go.Abx
set_option maxRecDepth 1000000

def fnTab : List (Nat × FuncId) := [(0, 7), (1, 8), (2, 9), (3, 10), (4, 12), (5, 13), (6, 18), (7, 17), (8, 11), (9, 14), (10, 15), (11, 23), (12, 24), (13, 32), (14, 35), (15, 33), (16, 20), (17, 19), (18, 21), (19, 22), (20, 31), (21, 30), (22, 34), (23, 38), (24, 39), (25, 16), (26, 25), (27, 26), (28, 27), (29, 28), (30, 29), (31, 36), (32, 37), (33, 3), (34, 4), (35, 5), (36, 6), (37, 40), (38, 41), (39, 43), (40, 49), (41, 56), (42, 57), (43, 44), (44, 45), (45, 46), (46, 47), (47, 50), (48, 51)]
def tabGet : List (Nat × FuncId) → Nat → Option FuncId
  | [], _ => none
  | (a, b) :: r, n => bif Nat.beq a n then some b else tabGet r n
def cx : Cx := { fn := tabGet fnTab, ty := some }

theorem m_slices_Clip_byte_byte : mFun Go.Proofs.Tryd.prog cx 17 i_slices_Clip_byte_byte 0 = true := by kernel_rfl
theorem m_slices_Clone_byte_byte : mFun Go.Proofs.Tryd.prog cx 18 i_slices_Clone_byte_byte 0 = true := by kernel_rfl
theorem m_code_Num : mFun Go.Proofs.Tryd.prog cx 12 i_code_Num 0 = true := by kernel_rfl
theorem m_code_Bytes : mFun Go.Proofs.Tryd.prog cx 13 i_code_Bytes 0 = true := by kernel_rfl
theorem m_acts_Bytes : mFun Go.Proofs.Tryd.prog cx 8 i_acts_Bytes 0 = true := by kernel_rfl
theorem m_fettlelaw6_Act : mFun Go.Proofs.Tryd.prog cx 7 i_fettlelaw6_Act 0 = true := by kernel_rfl
theorem m_acts_begins : mFun Go.Proofs.Tryd.prog cx 24 i_acts_begins 0 = true := by kernel_rfl
theorem m_acts_fits : mFun Go.Proofs.Tryd.prog cx 35 i_acts_fits 0 = true := by kernel_rfl
theorem m_acts_text : mFun Go.Proofs.Tryd.prog cx 32 i_acts_text 0 = true := by kernel_rfl
theorem m_acts_top : mFun Go.Proofs.Tryd.prog cx 33 i_acts_top 0 = true := by kernel_rfl
theorem m_acts_right : mFun Go.Proofs.Tryd.prog cx 23 i_acts_right 0 = true := by kernel_rfl
theorem m_acts_Ok : mFun Go.Proofs.Tryd.prog cx 15 i_acts_Ok 0 = true := by kernel_rfl
theorem m_acts_Parse_1 : mFun Go.Proofs.Tryd.prog cx 20 i_acts_Parse_1 0 = true := by kernel_rfl
theorem m_internal_strconv_lower : mFun Go.Proofs.Tryd.prog cx 56 i_internal_strconv_lower 0 = true := by kernel_rfl
theorem m_internal_strconv_underscoreOK : mFun Go.Proofs.Tryd.prog cx 57 i_internal_strconv_underscoreOK 0 = true := by kernel_rfl
theorem m_internal_strconv_ParseUint : mFun Go.Proofs.Tryd.prog cx 49 i_internal_strconv_ParseUint 0 = true := by kernel_rfl
theorem m_internal_strconv_ParseInt : mFun Go.Proofs.Tryd.prog cx 43 i_internal_strconv_ParseInt 0 = true := by kernel_rfl
theorem m_internal_strconv_Atoi : mFun Go.Proofs.Tryd.prog cx 40 i_internal_strconv_Atoi 0 = true := by kernel_rfl
theorem m_errors_New : mFun Go.Proofs.Tryd.prog cx 51 i_errors_New 0 = true := by kernel_rfl
theorem m_strconv_baseError : mFun Go.Proofs.Tryd.prog cx 46 i_strconv_baseError 0 = true := by kernel_rfl
theorem m_strconv_bitSizeError : mFun Go.Proofs.Tryd.prog cx 47 i_strconv_bitSizeError 0 = true := by kernel_rfl
theorem m_strconv_toError : mFun Go.Proofs.Tryd.prog cx 41 i_strconv_toError 0 = true := by kernel_rfl
theorem m_strconv_Atoi : mFun Go.Proofs.Tryd.prog cx 38 i_strconv_Atoi 0 = true := by kernel_rfl
theorem m_acts_num : mFun Go.Proofs.Tryd.prog cx 34 i_acts_num 0 = true := by kernel_rfl
theorem m_acts_words : mFun Go.Proofs.Tryd.prog cx 31 i_acts_words 0 = true := by kernel_rfl
theorem m_slices_Index_string_string : mFun Go.Proofs.Tryd.prog cx 30 i_slices_Index_string_string 0 = true := by kernel_rfl
theorem m_acts_one : mFun Go.Proofs.Tryd.prog cx 21 i_acts_one 0 = true := by kernel_rfl
theorem m_api_Do : mFun Go.Proofs.Tryd.prog cx 22 i_api_Do 0 = true := by kernel_rfl
theorem m_api_Word : mFun Go.Proofs.Tryd.prog cx 19 i_api_Word 0 = true := by kernel_rfl
theorem m_acts_Parse : mFun Go.Proofs.Tryd.prog cx 14 i_acts_Parse 0 = true := by kernel_rfl
theorem m_bytes_Join : mFun Go.Proofs.Tryd.prog cx 25 i_bytes_Join 0 = true := by kernel_rfl
theorem m_acts_joined : mFun Go.Proofs.Tryd.prog cx 29 i_acts_joined 0 = true := by kernel_rfl
theorem m_acts_turned : mFun Go.Proofs.Tryd.prog cx 26 i_acts_turned 0 = true := by kernel_rfl
theorem m_slices_Grow_byte_byte : mFun Go.Proofs.Tryd.prog cx 37 i_slices_Grow_byte_byte 0 = true := by kernel_rfl
theorem m_slices_Concat_byte_byte : mFun Go.Proofs.Tryd.prog cx 28 i_slices_Concat_byte_byte 0 = true := by kernel_rfl
theorem m_slices_Reverse_byte_byte : mFun Go.Proofs.Tryd.prog cx 27 i_slices_Reverse_byte_byte 0 = true := by kernel_rfl
theorem m_acts_step : mFun Go.Proofs.Tryd.prog cx 16 i_acts_step 0 = true := by kernel_rfl
theorem m_acts_Run : mFun Go.Proofs.Tryd.prog cx 11 i_acts_Run 0 = true := by kernel_rfl
theorem m_fettlelaw6_awake : mFun Go.Proofs.Tryd.prog cx 10 i_fettlelaw6_awake 0 = true := by kernel_rfl
theorem m_fettleref4_SameAct : mFun Go.Proofs.Tryd.prog cx 9 i_fettleref4_SameAct 0 = true := by kernel_rfl
theorem m_fettlelaw6_ActsApart : mFun Go.Proofs.Tryd.prog cx 3 i_fettlelaw6_ActsApart 0 = true := by kernel_rfl
theorem m_fettlelaw6_ActsOwn : mFun Go.Proofs.Tryd.prog cx 4 i_fettlelaw6_ActsOwn 0 = true := by kernel_rfl
theorem m_fettlelaw6_ActsForms : mFun Go.Proofs.Tryd.prog cx 5 i_fettlelaw6_ActsForms 0 = true := by kernel_rfl
theorem m_fettlelaw6_ActsGrow : mFun Go.Proofs.Tryd.prog cx 6 i_fettlelaw6_ActsGrow 0 = true := by kernel_rfl
end Go.Abx
