/- Each function of the seat comes to what the executor makes of it. -/
import Derived.Test.YtmnbafbicjgjgaaDoorAbxZ
import Derived.Test.YtmnbafbicjgjgaaDoorAbxM6
import Derived.Test.YtmnbafbicjgjgaaDoorShelf
import Derived.Test.YtmnbafbicjgjgaaDoorChecked
namespace Go.Abx
set_option maxRecDepth 1000000

theorem ok_strconv_Itoa : EntOk Go.Proofs.Tryd.prog cx 39 e_strconv_Itoa := itoa_ok (F := Go.Proofs.Tryd.f39) Go.Proofs.Tryd.func39 (by kernel_rfl) (by kernel_rfl) fun i hi w => Go.Proofs.Tryd.strconv_Itoa_small i hi w
theorem u28 : ∃ e, Go.Proofs.Tryd.prog.underlying 28 = some (.slice e) := ⟨_, Go.Proofs.Tryd.underlying28⟩
theorem ok_internal_bytealg_MakeNoZero : EntOk Go.Proofs.Tryd.prog cx 36 e_internal_bytealg_MakeNoZero := by
  obtain ⟨e, he⟩ := u28
  exact makeNoZero_ok (fn := Go.Proofs.Tryd.f36) (t := 28) (ps := #[3]) Go.Proofs.Tryd.func36 (by kernel_rfl) (by kernel_rfl) (by kernel_rfl) rfl he

theorem ok_slices_Clip_byte_byte : EntOk Go.Proofs.Tryd.prog cx 17 e_slices_Clip_byte_byte := raw_ok (k := 0) (env_nil) m_slices_Clip_byte_byte
theorem ok_slices_Clone_byte_byte : EntOk Go.Proofs.Tryd.prog cx 18 e_slices_Clone_byte_byte := own_ok (k := 0) (env_nil) m_slices_Clone_byte_byte
theorem ok_code_Num : EntOk Go.Proofs.Tryd.prog cx 12 e_code_Num := own_ok (k := 0) (env_cons (f := 17) (by rfl) ok_slices_Clip_byte_byte (env_cons (f := 18) (by rfl) ok_slices_Clone_byte_byte (env_nil))) m_code_Num
theorem ok_code_Bytes : EntOk Go.Proofs.Tryd.prog cx 13 e_code_Bytes := own_ok (k := 0) (env_cons (f := 12) (by rfl) ok_code_Num (env_nil)) m_code_Bytes
theorem ok_acts_Bytes : EntOk Go.Proofs.Tryd.prog cx 8 e_acts_Bytes := own_ok (k := 0) (env_cons (f := 13) (by rfl) ok_code_Bytes (env_cons (f := 12) (by rfl) ok_code_Num (env_nil))) m_acts_Bytes
theorem ok_fettlelaw6_Act : EntOk Go.Proofs.Tryd.prog cx 7 e_fettlelaw6_Act := own_ok (k := 0) (env_nil) m_fettlelaw6_Act
theorem ok_acts_begins : EntOk Go.Proofs.Tryd.prog cx 24 e_acts_begins := pure_ok (k := 0) (env_nil) m_acts_begins
theorem ok_acts_fits : EntOk Go.Proofs.Tryd.prog cx 35 e_acts_fits := pure_ok (k := 0) (env_nil) m_acts_fits
theorem ok_acts_text : EntOk Go.Proofs.Tryd.prog cx 32 e_acts_text := pure_ok (k := 0) (env_nil) m_acts_text
theorem ok_acts_top : EntOk Go.Proofs.Tryd.prog cx 33 e_acts_top := pure_ok (k := 0) (env_nil) m_acts_top
theorem ok_acts_right : EntOk Go.Proofs.Tryd.prog cx 23 e_acts_right := pure_ok (k := 0) (env_cons (f := 35) (by rfl) ok_acts_fits (env_cons (f := 32) (by rfl) ok_acts_text (env_cons (f := 33) (by rfl) ok_acts_top (env_nil)))) m_acts_right
theorem ok_acts_Ok : EntOk Go.Proofs.Tryd.prog cx 15 e_acts_Ok := pure_ok (k := 0) (env_cons (f := 24) (by rfl) ok_acts_begins (env_cons (f := 23) (by rfl) ok_acts_right (env_nil))) m_acts_Ok
theorem ok_acts_Parse_1 : EntOk Go.Proofs.Tryd.prog cx 20 e_acts_Parse_1 := pure_ok (k := 0) (env_nil) m_acts_Parse_1
theorem ok_internal_strconv_lower : EntOk Go.Proofs.Tryd.prog cx 56 e_internal_strconv_lower := pure_ok (k := 0) (env_nil) m_internal_strconv_lower
theorem ok_internal_strconv_underscoreOK : EntOk Go.Proofs.Tryd.prog cx 57 e_internal_strconv_underscoreOK := pure_ok (k := 0) (env_cons (f := 56) (by rfl) ok_internal_strconv_lower (env_nil)) m_internal_strconv_underscoreOK
theorem ok_internal_strconv_ParseUint : EntOk Go.Proofs.Tryd.prog cx 49 e_internal_strconv_ParseUint := pure_ok (k := 0) (env_cons (f := 56) (by rfl) ok_internal_strconv_lower (env_cons (f := 57) (by rfl) ok_internal_strconv_underscoreOK (env_nil))) m_internal_strconv_ParseUint
theorem ok_internal_strconv_ParseInt : EntOk Go.Proofs.Tryd.prog cx 43 e_internal_strconv_ParseInt := pure_ok (k := 0) (env_cons (f := 49) (by rfl) ok_internal_strconv_ParseUint (env_nil)) m_internal_strconv_ParseInt
theorem ok_internal_strconv_Atoi : EntOk Go.Proofs.Tryd.prog cx 40 e_internal_strconv_Atoi := pure_ok (k := 0) (env_cons (f := 43) (by rfl) ok_internal_strconv_ParseInt (env_nil)) m_internal_strconv_Atoi
theorem ok_errors_New : EntOk Go.Proofs.Tryd.prog cx 51 e_errors_New := pure_ok (k := 0) (env_nil) m_errors_New
theorem ok_strconv_baseError : EntOk Go.Proofs.Tryd.prog cx 46 e_strconv_baseError := pure_ok (k := 0) (env_cons (f := 51) (by rfl) ok_errors_New (env_cons (f := 39) (by rfl) ok_strconv_Itoa (env_nil))) m_strconv_baseError
theorem ok_strconv_bitSizeError : EntOk Go.Proofs.Tryd.prog cx 47 e_strconv_bitSizeError := pure_ok (k := 0) (env_cons (f := 51) (by rfl) ok_errors_New (env_cons (f := 39) (by rfl) ok_strconv_Itoa (env_nil))) m_strconv_bitSizeError
theorem ok_strconv_toError : EntOk Go.Proofs.Tryd.prog cx 41 e_strconv_toError := pure_ok (k := 0) (env_cons (f := 46) (by rfl) ok_strconv_baseError (env_cons (f := 47) (by rfl) ok_strconv_bitSizeError (env_nil))) m_strconv_toError
theorem ok_strconv_Atoi : EntOk Go.Proofs.Tryd.prog cx 38 e_strconv_Atoi := pure_ok (k := 0) (env_cons (f := 40) (by rfl) ok_internal_strconv_Atoi (env_cons (f := 41) (by rfl) ok_strconv_toError (env_nil))) m_strconv_Atoi
theorem ok_acts_num : EntOk Go.Proofs.Tryd.prog cx 34 e_acts_num := pure_ok (k := 0) (env_cons (f := 38) (by rfl) ok_strconv_Atoi (env_cons (f := 39) (by rfl) ok_strconv_Itoa (env_nil))) m_acts_num
theorem ok_acts_words : EntOk Go.Proofs.Tryd.prog cx 31 e_acts_words := pure_ok (k := 0) (env_nil) m_acts_words
theorem ok_slices_Index_string_string : EntOk Go.Proofs.Tryd.prog cx 30 e_slices_Index_string_string := pure_ok (k := 0) (env_nil) m_slices_Index_string_string
theorem ok_acts_one : EntOk Go.Proofs.Tryd.prog cx 21 e_acts_one := pure_ok (k := 0) (env_cons (f := 34) (by rfl) ok_acts_num (env_cons (f := 32) (by rfl) ok_acts_text (env_cons (f := 33) (by rfl) ok_acts_top (env_cons (f := 31) (by rfl) ok_acts_words (env_cons (f := 30) (by rfl) ok_slices_Index_string_string (env_nil)))))) m_acts_one
theorem ok_api_Do : EntOk Go.Proofs.Tryd.prog cx 22 e_api_Do := raw_ok (k := 0) (env_nil) m_api_Do
theorem ok_api_Word : EntOk Go.Proofs.Tryd.prog cx 19 e_api_Word := pure_ok (k := 0) (env_cons (f := 20) (by rfl) ok_acts_Parse_1 (env_nil)) m_api_Word
theorem ok_acts_Parse : EntOk Go.Proofs.Tryd.prog cx 14 e_acts_Parse := pure_ok (k := 0) (env_cons (f := 15) (by rfl) ok_acts_Ok (env_cons (f := 20) (by rfl) ok_acts_Parse_1 (env_cons (f := 21) (by rfl) ok_acts_one (env_cons (f := 22) (by rfl) ok_api_Do (env_cons (f := 19) (by rfl) ok_api_Word (env_nil)))))) m_acts_Parse
theorem ok_bytes_Join : EntOk Go.Proofs.Tryd.prog cx 25 e_bytes_Join := own_ok (k := 0) (env_cons (f := 36) (by rfl) ok_internal_bytealg_MakeNoZero (env_nil)) m_bytes_Join
theorem ok_acts_joined : EntOk Go.Proofs.Tryd.prog cx 29 e_acts_joined := own_ok (k := 0) (env_nil) m_acts_joined
theorem ok_acts_turned : EntOk Go.Proofs.Tryd.prog cx 26 e_acts_turned := own_ok (k := 0) (env_cons (f := 18) (by rfl) ok_slices_Clone_byte_byte (env_nil)) m_acts_turned
theorem ok_slices_Grow_byte_byte : EntOk Go.Proofs.Tryd.prog cx 37 e_slices_Grow_byte_byte := raw_ok (k := 0) (env_nil) m_slices_Grow_byte_byte
theorem ok_slices_Concat_byte_byte : EntOk Go.Proofs.Tryd.prog cx 28 e_slices_Concat_byte_byte := own_ok (k := 0) (env_cons (f := 37) (by rfl) ok_slices_Grow_byte_byte (env_nil)) m_slices_Concat_byte_byte
theorem ok_slices_Reverse_byte_byte : EntOk Go.Proofs.Tryd.prog cx 27 e_slices_Reverse_byte_byte := raw_ok (k := 0) (env_nil) m_slices_Reverse_byte_byte
theorem ok_acts_step : EntOk Go.Proofs.Tryd.prog cx 16 e_acts_step := pure_ok (k := 0) (env_cons (f := 25) (by rfl) ok_bytes_Join (env_cons (f := 29) (by rfl) ok_acts_joined (env_cons (f := 26) (by rfl) ok_acts_turned (env_cons (f := 18) (by rfl) ok_slices_Clone_byte_byte (env_cons (f := 28) (by rfl) ok_slices_Concat_byte_byte (env_cons (f := 27) (by rfl) ok_slices_Reverse_byte_byte (env_nil))))))) m_acts_step
theorem ok_acts_Run : EntOk Go.Proofs.Tryd.prog cx 11 e_acts_Run := own_ok (k := 0) (env_cons (f := 15) (by rfl) ok_acts_Ok (env_cons (f := 16) (by rfl) ok_acts_step (env_cons (f := 17) (by rfl) ok_slices_Clip_byte_byte (env_cons (f := 18) (by rfl) ok_slices_Clone_byte_byte (env_nil))))) m_acts_Run
theorem ok_fettlelaw6_awake : EntOk Go.Proofs.Tryd.prog cx 10 e_fettlelaw6_awake := pure_ok (k := 0) (env_cons (f := 8) (by rfl) ok_acts_Bytes (env_cons (f := 15) (by rfl) ok_acts_Ok (env_cons (f := 14) (by rfl) ok_acts_Parse (env_cons (f := 11) (by rfl) ok_acts_Run (env_nil))))) m_fettlelaw6_awake
theorem ok_fettleref4_SameAct : EntOk Go.Proofs.Tryd.prog cx 9 e_fettleref4_SameAct := pure_ok (k := 0) (env_nil) m_fettleref4_SameAct
theorem ok_fettlelaw6_ActsApart : EntOk Go.Proofs.Tryd.prog cx 3 e_fettlelaw6_ActsApart := pure_ok (k := 0) (env_cons (f := 8) (by rfl) ok_acts_Bytes (env_cons (f := 7) (by rfl) ok_fettlelaw6_Act (env_cons (f := 10) (by rfl) ok_fettlelaw6_awake (env_cons (f := 9) (by rfl) ok_fettleref4_SameAct (env_nil))))) m_fettlelaw6_ActsApart
theorem ok_fettlelaw6_ActsOwn : EntOk Go.Proofs.Tryd.prog cx 4 e_fettlelaw6_ActsOwn := pure_ok (k := 0) (env_cons (f := 11) (by rfl) ok_acts_Run (env_cons (f := 7) (by rfl) ok_fettlelaw6_Act (env_cons (f := 10) (by rfl) ok_fettlelaw6_awake (env_nil)))) m_fettlelaw6_ActsOwn
theorem ok_fettlelaw6_ActsForms : EntOk Go.Proofs.Tryd.prog cx 5 e_fettlelaw6_ActsForms := pure_ok (k := 0) (env_cons (f := 11) (by rfl) ok_acts_Run (env_cons (f := 10) (by rfl) ok_fettlelaw6_awake (env_nil))) m_fettlelaw6_ActsForms
theorem ok_fettlelaw6_ActsGrow : EntOk Go.Proofs.Tryd.prog cx 6 e_fettlelaw6_ActsGrow := pure_ok (k := 0) (env_cons (f := 11) (by rfl) ok_acts_Run (env_cons (f := 10) (by rfl) ok_fettlelaw6_awake (env_nil))) m_fettlelaw6_ActsGrow
end Go.Abx
