/- The types of this seat as cells; the numbers of its functions. Written by vcgen.py. -/
import Derived.Test.YtccebpahnnfceaaGreatDoorProg
import Derived.Test.YtccebpahnnfceaaGreatDoorVcMem
namespace Go.Proofs.YtccebpahnnfceaaGreatDoor
open Go.Vc
set_option linter.unusedVariables false
set_option maxRecDepth 100000
theorem mixed : Tryz.prog.follows .mixedOrders = true := by kernel_rfl
@[ext] structure S_api_Frame where
  f_Kind : Int
  f_Body : Sl
def ty_api_Frame : Ty S_api_Frame := ⟨fun x => [.int .u8 x.f_Kind, .slice x.f_Body.a x.f_Body.len x.f_Body.cap], fun x => .agg #[.int .u8 x.f_Kind, .slice x.f_Body.a x.f_Body.len x.f_Body.cap]⟩
@[ext] structure S_disk_Disk where
  f_files : Option Nat
  f_room : Int
  f_fused : Bool
  f_fuse : Int
  f_off : Bool
  f_steps : Int
def ty_disk_Disk : Ty S_disk_Disk := ⟨fun x => [.map x.f_files, .int .i64 x.f_room, .bool x.f_fused, .int .i64 x.f_fuse, .bool x.f_off, .int .i64 x.f_steps], fun x => .agg #[.map x.f_files, .int .i64 x.f_room, .bool x.f_fused, .int .i64 x.f_fuse, .bool x.f_off, .int .i64 x.f_steps]⟩
@[ext] structure S_disk_file where
  f_b : Sl
  f_synced : Int
def ty_disk_file : Ty S_disk_file := ⟨fun x => [.slice x.f_b.a x.f_b.len x.f_b.cap, .int .i64 x.f_synced], fun x => .agg #[.slice x.f_b.a x.f_b.len x.f_b.cap, .int .i64 x.f_synced]⟩
@[ext] structure S_journal_Journal where
  f_d : Option Addr
  f_name : ByteArray
  f_l : Sl
  f_records : Sl
  f_next : Int
  f_off : Bool
def ty_journal_Journal : Ty S_journal_Journal := ⟨fun x => [.pointer x.f_d, .string x.f_name, .slice x.f_l.a x.f_l.len x.f_l.cap, .slice x.f_records.a x.f_records.len x.f_records.cap, .int .u64 x.f_next, .bool x.f_off], fun x => .agg #[.pointer x.f_d, .string x.f_name, .slice x.f_l.a x.f_l.len x.f_l.cap, .slice x.f_records.a x.f_records.len x.f_records.cap, .int .u64 x.f_next, .bool x.f_off]⟩
@[ext] structure S_journal_segment where
  f_first : Int
  f_size : Int
def ty_journal_segment : Ty S_journal_segment := ⟨fun x => [.int .u64 x.f_first, .int .i64 x.f_size], fun x => .agg #[.int .u64 x.f_first, .int .i64 x.f_size]⟩
@[ext] structure S_24_uint8 where
  e0 : Int
  e1 : Int
  e2 : Int
  e3 : Int
  e4 : Int
  e5 : Int
  e6 : Int
  e7 : Int
  e8 : Int
  e9 : Int
  e10 : Int
  e11 : Int
  e12 : Int
  e13 : Int
  e14 : Int
  e15 : Int
  e16 : Int
  e17 : Int
  e18 : Int
  e19 : Int
  e20 : Int
  e21 : Int
  e22 : Int
  e23 : Int
def ty_24_uint8 : Ty S_24_uint8 := ⟨fun x => [.int .u8 x.e0, .int .u8 x.e1, .int .u8 x.e2, .int .u8 x.e3, .int .u8 x.e4, .int .u8 x.e5, .int .u8 x.e6, .int .u8 x.e7, .int .u8 x.e8, .int .u8 x.e9, .int .u8 x.e10, .int .u8 x.e11, .int .u8 x.e12, .int .u8 x.e13, .int .u8 x.e14, .int .u8 x.e15, .int .u8 x.e16, .int .u8 x.e17, .int .u8 x.e18, .int .u8 x.e19, .int .u8 x.e20, .int .u8 x.e21, .int .u8 x.e22, .int .u8 x.e23], fun x => .agg #[.int .u8 x.e0, .int .u8 x.e1, .int .u8 x.e2, .int .u8 x.e3, .int .u8 x.e4, .int .u8 x.e5, .int .u8 x.e6, .int .u8 x.e7, .int .u8 x.e8, .int .u8 x.e9, .int .u8 x.e10, .int .u8 x.e11, .int .u8 x.e12, .int .u8 x.e13, .int .u8 x.e14, .int .u8 x.e15, .int .u8 x.e16, .int .u8 x.e17, .int .u8 x.e18, .int .u8 x.e19, .int .u8 x.e20, .int .u8 x.e21, .int .u8 x.e22, .int .u8 x.e23]⟩
abbrev T_ : TypeId := 0
abbrev T_func : TypeId := 1
abbrev T_int64 : TypeId := 2
abbrev T_int : TypeId := 3
abbrev T_bool : TypeId := 4
abbrev T_uint8 : TypeId := 5
abbrev T_abi_BoundsErrorCode : TypeId := 6
abbrev T_struct7 : TypeId := 7
abbrev T_runtime_boundsError : TypeId := 8
abbrev T_string : TypeId := 9
abbrev T_runtime_errorString : TypeId := 10
abbrev T_runtime_plainError : TypeId := 11
abbrev T_uintptr : TypeId := 12
abbrev T_struct13 : TypeId := 13
abbrev T_runtime_errorAddressString : TypeId := 14
abbrev T_p_runtime_TypeAssertionError : TypeId := 15
abbrev T_p_runtime_PanicNilError : TypeId := 16
abbrev T_p_abi_Type : TypeId := 17
abbrev T_struct18 : TypeId := 18
abbrev T_maps_unhashableTypeError : TypeId := 19
abbrev T_interface : TypeId := 20
abbrev T_int32 : TypeId := 21
abbrev T_sl_sl_uint8 : TypeId := 22
abbrev T_uint32 : TypeId := 23
abbrev T_func_bool : TypeId := 24
abbrev T_p_disk_Disk : TypeId := 25
abbrev T_api_Errno : TypeId := 26
abbrev T_p_disk_Disk_api_Errno : TypeId := 27
abbrev T_func_int_p_disk_Disk_api_Errno : TypeId := 28
abbrev T_p_journal_Journal : TypeId := 29
abbrev T_p_journal_Journal_api_Errno : TypeId := 30
abbrev T_func_p_disk_Disk_string_p_journal_Journa : TypeId := 31
abbrev T_sl_uint8 : TypeId := 32
abbrev T_uint64 : TypeId := 33
abbrev T_uint64_api_Errno : TypeId := 34
abbrev T_func_sl_uint8_uint64_api_Errno : TypeId := 35
abbrev T_sl_string : TypeId := 36
abbrev T_func_sl_string_37 : TypeId := 37
abbrev T_func_api_Errno : TypeId := 38
abbrev T_func_int_int_int : TypeId := 39
abbrev T_sl_uint8_api_Errno : TypeId := 40
abbrev T_func_string_sl_uint8_api_Errno_41 : TypeId := 41
abbrev T_uint : TypeId := 42
abbrev T_func_string_int_uint8_api_Errno : TypeId := 43
abbrev T_func_sl_sl_uint8 : TypeId := 44
abbrev T_func_sl_sl_uint8_sl_sl_uint8_bool : TypeId := 45
abbrev T_func_sl_sl_uint8_int_int_uint32_bool : TypeId := 46
abbrev T_sl_bool : TypeId := 47
abbrev T_sl_int : TypeId := 48
abbrev T_func_int_api_Errno : TypeId := 49
abbrev T_func_sl_int_api_Errno : TypeId := 50
abbrev T_func_sl_int_bool : TypeId := 51
abbrev T_func_uint64 : TypeId := 52
abbrev T_func_sl_sl_uint8_sl_bool_int_sl_int_bool : TypeId := 53
abbrev T_func_sl_string_sl_string_bool : TypeId := 54
abbrev T_map_string_p_disk_file : TypeId := 55
abbrev T_struct56 : TypeId := 56
abbrev T_disk_Disk : TypeId := 57
abbrev T_func_string_api_Errno_58 : TypeId := 58
abbrev T_func_string_int_bool : TypeId := 59
abbrev T_sl_journal_segment : TypeId := 60
abbrev T_struct61 : TypeId := 61
abbrev T_journal_Journal : TypeId := 62
abbrev T_struct63 : TypeId := 63
abbrev T_journal_segment : TypeId := 64
abbrev T_func_api_Errno_api_Errno : TypeId := 65
abbrev T_func_sl_uint8_api_Frame_sl_uint8_api_Err : TypeId := 66
abbrev T_struct67 : TypeId := 67
abbrev T_api_Frame : TypeId := 68
abbrev T_p_journal_segment : TypeId := 69
abbrev T_func_string_sl_uint8_api_Errno_70 : TypeId := 70
abbrev T_func_uint64_string : TypeId := 71
abbrev T_func_sl_uint8_sl_uint8 : TypeId := 72
abbrev T_func_string_api_Errno_73 : TypeId := 73
abbrev T_func_iter_Seq_string_sl_string : TypeId := 74
abbrev T_func_func_string_bool : TypeId := 75
abbrev T_iter_Seq_string : TypeId := 76
abbrev T_func_map_string_p_disk_file_iter_Seq_str : TypeId := 77
abbrev T_p_disk_file : TypeId := 78
abbrev T_func_p_disk_Disk_string_api_Errno : TypeId := 79
abbrev T_p_disk_file_api_Errno : TypeId := 80
abbrev T_func_string_p_disk_file_api_Errno : TypeId := 81
abbrev T_struct82 : TypeId := 82
abbrev T_disk_file : TypeId := 83
abbrev T_func_string_bool : TypeId := 84
abbrev T_func_sl_uint8_sl_uint8_bool : TypeId := 85
abbrev T_func_func_api_Errno : TypeId := 86
abbrev T_sl_uint64 : TypeId := 87
abbrev T_func_string : TypeId := 88
abbrev T_uint64_bool : TypeId := 89
abbrev T_func_string_uint64_bool : TypeId := 90
abbrev T_func_sl_uint64 : TypeId := 91
abbrev T_sl_sl_uint8_int : TypeId := 92
abbrev T_func_sl_uint8_sl_sl_uint8_int : TypeId := 93
abbrev T_func_uint64_sl_uint8_api_Errno : TypeId := 94
abbrev T_func_sl_uint8_uint32 : TypeId := 95
abbrev T_func_sl_uint8_uint32_sl_uint8 : TypeId := 96
abbrev T_func_uint32_sl_uint8_uint32 : TypeId := 97
abbrev T_func_int_98 : TypeId := 98
abbrev T_func_uint64_int_string : TypeId := 99
abbrev T_func_string_int_string : TypeId := 100
abbrev T_func_sl_string_101 : TypeId := 101
abbrev T_string_bool : TypeId := 102
abbrev T_func_string_string_string_bool : TypeId := 103
abbrev T_Error : TypeId := 104
abbrev T_error : TypeId := 105
abbrev T_uint64_error : TypeId := 106
abbrev T_func_string_int_int_uint64_error : TypeId := 107
abbrev T_func_sl_uint64_int_int_int : TypeId := 108
abbrev T_func_uint_int : TypeId := 109
abbrev T_sl_api_Frame : TypeId := 110
abbrev T_sl_api_Frame_int_api_Errno : TypeId := 111
abbrev T_func_sl_uint8_sl_api_Frame_int_api_Errno : TypeId := 112
abbrev T_func_string_string_api_Errno : TypeId := 113
abbrev T_func_uint32_uint8_uint32 : TypeId := 114
abbrev T_uint_uint : TypeId := 115
abbrev T_func_uint_uint_uint_uint : TypeId := 116
abbrev T_func_string_string_bool : TypeId := 117
abbrev T_p_strings_Builder : TypeId := 118
abbrev T_struct119 : TypeId := 119
abbrev T_strings_Builder : TypeId := 120
abbrev T_func_int_121 : TypeId := 121
abbrev T_int_error : TypeId := 122
abbrev T_func_string_int_error : TypeId := 123
abbrev T_func_sl_string_iter_Seq_string_sl_string : TypeId := 124
abbrev T_func_sl_string_int_int_int : TypeId := 125
abbrev T_func_string_string_int_int_error_error : TypeId := 126
abbrev T_func_sl_uint64_int_int : TypeId := 127
abbrev T_slices_sortedHint : TypeId := 128
abbrev T_int_slices_sortedHint : TypeId := 129
abbrev T_func_sl_uint64_int_int_int_slices_sorted : TypeId := 130
abbrev T_func_sl_uint64_int_int_bool : TypeId := 131
abbrev T_func_uint64_uint64_bool : TypeId := 132
abbrev T_func_sl_uint64_int_int_int_int : TypeId := 133
abbrev T_int_bool : TypeId := 134
abbrev T_func_sl_uint64_int_int_int_int_bool : TypeId := 135
abbrev T_func_uint32_int : TypeId := 136
abbrev T_func_uint64_int : TypeId := 137
abbrev T_api_Frame_int_api_Errno : TypeId := 138
abbrev T_func_sl_uint8_api_Frame_int_api_Errno : TypeId := 139
abbrev T_func_int_string : TypeId := 140
abbrev T_24_uint8 : TypeId := 141
abbrev T_func_sl_uint8_uint64 : TypeId := 142
abbrev T_sl_uint8_string : TypeId := 143
abbrev T_func_sl_uint8_uint64_int_bool_bool_sl_ui : TypeId := 144
abbrev T_uint32_uint32 : TypeId := 145
abbrev T_func_uint32_uint32_uint32_uint32 : TypeId := 146
abbrev T_uint64_uint64 : TypeId := 147
abbrev T_func_uint64_uint64_uint64_uint64 : TypeId := 148
abbrev T_p_uint8 : TypeId := 149
abbrev T_func_sl_string_int_int : TypeId := 150
abbrev T_func_sl_string_int_int_int_slices_sorted : TypeId := 151
abbrev T_func_sl_string_int_int_bool : TypeId := 152
abbrev T_func_sl_string_int_int_int_int : TypeId := 153
abbrev T_func_sl_string_int_int_int_int_bool : TypeId := 154
abbrev T_strconv_Error : TypeId := 155
abbrev T_func_uint8_uint8 : TypeId := 156
abbrev T_p_strconv_NumError : TypeId := 157
abbrev T_func_string_string_p_strconv_NumError : TypeId := 158
abbrev T_func_string_string_int_p_strconv_NumErro : TypeId := 159
abbrev T_slices_xorshift : TypeId := 160
abbrev T_func_int_uint : TypeId := 161
abbrev T_func_sl_uint64_int_p_int_int : TypeId := 162
abbrev T_p_int : TypeId := 163
abbrev T_func_sl_uint64_int_int_int_p_int_int : TypeId := 164
abbrev T_func_uint64_bool : TypeId := 165
abbrev T_func_int_int : TypeId := 166
abbrev T_func_bool_int : TypeId := 167
abbrev T_20_uint64 : TypeId := 168
abbrev T_65_uint8 : TypeId := 169
abbrev T_func_int_bool : TypeId := 170
abbrev T_unsafe_Pointer : TypeId := 171
abbrev T_func_unsafe_Pointer_unsafe_Pointer : TypeId := 172
abbrev T_func_int_sl_uint8 : TypeId := 173
abbrev T_func_sl_string_int_p_int_int : TypeId := 174
abbrev T_func_sl_string_int_int_int_p_int_int : TypeId := 175
abbrev T_func_string_string : TypeId := 176
abbrev T_struct177 : TypeId := 177
abbrev T_strconv_NumError : TypeId := 178
abbrev T_func_string_error : TypeId := 179
abbrev T_p_slices_xorshift : TypeId := 180
abbrev T_int_int : TypeId := 181
abbrev T_func_sl_uint64_int_int_p_int_int_int : TypeId := 182
abbrev T_func_sl_string_int_int_p_int_int_int : TypeId := 183
abbrev T_p_errors_errorString : TypeId := 184
abbrev T_struct185 : TypeId := 185
abbrev T_errors_errorString : TypeId := 186
abbrev T_32_uint8 : TypeId := 187
abbrev T_64_uint8 : TypeId := 188
abbrev T_func_int64_int_string : TypeId := 189
abbrev T_struct190 : TypeId := 190
abbrev T_runtime_TypeAssertionError : TypeId := 191
abbrev T_0_p_runtime_PanicNilError : TypeId := 192
abbrev T_struct193 : TypeId := 193
abbrev T_runtime_PanicNilError : TypeId := 194
abbrev T_abi_TFlag : TypeId := 195
abbrev T_abi_Kind : TypeId := 196
abbrev T_func_unsafe_Pointer_unsafe_Pointer_bool : TypeId := 197
abbrev T_abi_NameOff : TypeId := 198
abbrev T_abi_TypeOff : TypeId := 199
abbrev T_struct200 : TypeId := 200
abbrev T_abi_Type : TypeId := 201
theorem ok_5 : TyOk Tryz.prog 5 (tI .u8) := tI_ok Tryz.underlying5 (by kernel_rfl)
theorem ok_68 : TyOk Tryz.prog 68 ty_api_Frame := TyOk.agg 2 Tryz.underlying68 (by kernel_rfl) rfl (fun _ => rfl) (fun _ => rfl) (fun _ => rfl)
theorem ok_32 : TyOk Tryz.prog 32 tSl := tSl_ok Tryz.underlying32 (by kernel_rfl)
theorem ok_57 : TyOk Tryz.prog 57 ty_disk_Disk := TyOk.agg 6 Tryz.underlying57 (by kernel_rfl) rfl (fun _ => rfl) (fun _ => rfl) (fun _ => rfl)
theorem ok_55 : TyOk Tryz.prog 55 tM := tM_ok Tryz.underlying55 (by kernel_rfl)
theorem ok_4 : TyOk Tryz.prog 4 tB := tB_ok Tryz.underlying4 (by kernel_rfl)
theorem ok_9 : TyOk Tryz.prog 9 tS := tS_ok Tryz.underlying9 (by kernel_rfl)
theorem ok_3 : TyOk Tryz.prog 3 (tI .i64) := tI_ok Tryz.underlying3 (by kernel_rfl)
theorem ok_25 : TyOk Tryz.prog 25 tP := tP_ok Tryz.underlying25 (by kernel_rfl)
theorem ok_83 : TyOk Tryz.prog 83 ty_disk_file := TyOk.agg 2 Tryz.underlying83 (by kernel_rfl) rfl (fun _ => rfl) (fun _ => rfl) (fun _ => rfl)
theorem ok_78 : TyOk Tryz.prog 78 tP := tP_ok Tryz.underlying78 (by kernel_rfl)
theorem ok_62 : TyOk Tryz.prog 62 ty_journal_Journal := TyOk.agg 6 Tryz.underlying62 (by kernel_rfl) rfl (fun _ => rfl) (fun _ => rfl) (fun _ => rfl)
theorem ok_33 : TyOk Tryz.prog 33 (tI .u64) := tI_ok Tryz.underlying33 (by kernel_rfl)
theorem ok_22 : TyOk Tryz.prog 22 tSl := tSl_ok Tryz.underlying22 (by kernel_rfl)
theorem ok_60 : TyOk Tryz.prog 60 tSl := tSl_ok Tryz.underlying60 (by kernel_rfl)
theorem ok_64 : TyOk Tryz.prog 64 ty_journal_segment := TyOk.agg 2 Tryz.underlying64 (by kernel_rfl) rfl (fun _ => rfl) (fun _ => rfl) (fun _ => rfl)
theorem ok_141 : TyOk Tryz.prog 141 ty_24_uint8 := TyOk.agg 24 Tryz.underlying141 (by kernel_rfl) rfl (fun _ => rfl) (fun _ => rfl) (fun _ => rfl)
theorem sz_3 : (Tryz.prog.info? 3).map (·.size) = some 1 := by kernel_rfl
theorem sz_4 : (Tryz.prog.info? 4).map (·.size) = some 1 := by kernel_rfl
theorem sz_5 : (Tryz.prog.info? 5).map (·.size) = some 1 := by kernel_rfl
theorem sz_9 : (Tryz.prog.info? 9).map (·.size) = some 1 := by kernel_rfl
theorem sz_32 : (Tryz.prog.info? 32).map (·.size) = some 1 := by kernel_rfl
theorem sz_33 : (Tryz.prog.info? 33).map (·.size) = some 1 := by kernel_rfl
theorem sz_64 : (Tryz.prog.info? 64).map (·.size) = some 2 := by kernel_rfl
theorem sz_68 : (Tryz.prog.info? 68).map (·.size) = some 2 := by kernel_rfl
theorem nz_3 : (Tryz.prog.info? 3).any (fun i => i.size != 0) = true := by kernel_rfl
theorem nz_4 : (Tryz.prog.info? 4).any (fun i => i.size != 0) = true := by kernel_rfl
theorem nz_5 : (Tryz.prog.info? 5).any (fun i => i.size != 0) = true := by kernel_rfl
theorem nz_9 : (Tryz.prog.info? 9).any (fun i => i.size != 0) = true := by kernel_rfl
theorem nz_22 : (Tryz.prog.info? 22).any (fun i => i.size != 0) = true := by kernel_rfl
theorem nz_25 : (Tryz.prog.info? 25).any (fun i => i.size != 0) = true := by kernel_rfl
theorem nz_32 : (Tryz.prog.info? 32).any (fun i => i.size != 0) = true := by kernel_rfl
theorem nz_33 : (Tryz.prog.info? 33).any (fun i => i.size != 0) = true := by kernel_rfl
theorem nz_55 : (Tryz.prog.info? 55).any (fun i => i.size != 0) = true := by kernel_rfl
theorem nz_60 : (Tryz.prog.info? 60).any (fun i => i.size != 0) = true := by kernel_rfl
abbrev n_main_main : FuncId := 0
abbrev n_gosem_cut : FuncId := 1
abbrev n_gosem_cut_init : FuncId := 2
abbrev n_berthmasterlaw05_JournalAltered : FuncId := 3
abbrev n_berthmasterlaw05_JournalCrash : FuncId := 4
abbrev n_berthmasterlaw05_lives : FuncId := 5
abbrev n_disk_New : FuncId := 6
abbrev n_journal_Open : FuncId := 7
abbrev n_journal_Journal_Append : FuncId := 8
abbrev n_disk_Disk_Names : FuncId := 9
abbrev n_journal_Journal_Sync : FuncId := 10
abbrev n_berthmasterkit_Pick : FuncId := 11
abbrev n_disk_Disk_Read : FuncId := 12
abbrev n_disk_Disk_Turn : FuncId := 13
abbrev n_journal_Journal_All : FuncId := 14
abbrev n_berthmasterkit_SameLists : FuncId := 15
abbrev n_disk_Disk_Fuse : FuncId := 16
abbrev n_disk_Disk_Crash : FuncId := 17
abbrev n_berthmasterlaw05_fine : FuncId := 18
abbrev n_journal_Journal_First : FuncId := 19
abbrev n_journal_Journal_Next : FuncId := 20
abbrev n_berthmasterkit_SameTexts : FuncId := 21
abbrev n_disk_Disk_On : FuncId := 22
abbrev n_disk_Disk_Sync : FuncId := 23
abbrev n_journal_named : FuncId := 24
abbrev n_journal_Journal_recover : FuncId := 25
abbrev n_journal_Journal_asked : FuncId := 26
abbrev n_journal_Journal_begin : FuncId := 27
abbrev n_journal_Journal_ended : FuncId := 28
abbrev n_frame_Append : FuncId := 29
abbrev n_disk_Disk_Append : FuncId := 30
abbrev n_journal_Journal_file : FuncId := 31
abbrev n_bytes_Clone : FuncId := 32
abbrev n_disk_Disk_asked : FuncId := 33
abbrev n_slices_Sorted_string : FuncId := 34
abbrev n_maps_Keys_map_string_disk_file_string_disk_file : FuncId := 35
abbrev n_disk_Disk_find : FuncId := 36
abbrev n_disk_Disk_none : FuncId := 37
abbrev n_disk_named : FuncId := 38
abbrev n_journal_Journal_none : FuncId := 39
abbrev n_berthmasterkit_SameBytes : FuncId := 40
abbrev n_journal_Journal_first : FuncId := 41
abbrev n_disk_Disk_step : FuncId := 42
abbrev n_disk_Disk_Sync_c1 : FuncId := 43
abbrev n_journal_Journal_cut : FuncId := 44
abbrev n_disk_Disk_Remove : FuncId := 45
abbrev n_journal_Journal_number : FuncId := 46
abbrev n_slices_Sort_uint64_uint64 : FuncId := 47
abbrev n_journal_recordsOf : FuncId := 48
abbrev n_journal_Journal_recut : FuncId := 49
abbrev n_disk_Disk_Make : FuncId := 50
abbrev n_crc_Sum : FuncId := 51
abbrev n_frame_put : FuncId := 52
abbrev n_crc_More : FuncId := 53
abbrev n_disk_Disk_left : FuncId := 54
abbrev n_disk_Disk_Append_c1 : FuncId := 55
abbrev n_strconv_FormatUint : FuncId := 56
abbrev n_strings_Repeat : FuncId := 57
abbrev n_slices_Collect_string : FuncId := 58
abbrev n_slices_Sort_string_string : FuncId := 59
abbrev n_maps_Keys_map_string_disk_file_string_disk_file__c1 : FuncId := 60
abbrev n_disk_Disk_Remove_c1 : FuncId := 61
abbrev n_strings_CutPrefix : FuncId := 62
abbrev n_strconv_ParseUint : FuncId := 63
abbrev n_slices_pdqsortOrdered_uint64 : FuncId := 64
abbrev n_math_bits_Len : FuncId := 65
abbrev n_frame_Scan : FuncId := 66
abbrev n_disk_Disk_Rename : FuncId := 67
abbrev n_disk_Disk_Make_c1 : FuncId := 68
abbrev n_crc_byByte : FuncId := 69
abbrev n_internal_strconv_FormatUint : FuncId := 70
abbrev n_math_bits_Mul : FuncId := 71
abbrev n_strings_HasPrefix : FuncId := 72
abbrev n_strings_Builder_Grow : FuncId := 73
abbrev n_strings_Builder_WriteString : FuncId := 74
abbrev n_strings_Builder_Len : FuncId := 75
abbrev n_strings_Builder_String : FuncId := 76
abbrev n_slices_AppendSeq_string_string : FuncId := 77
abbrev n_slices_pdqsortOrdered_string : FuncId := 78
abbrev n_internal_stringslite_CutPrefix : FuncId := 79
abbrev n_internal_strconv_ParseUint : FuncId := 80
abbrev n_strconv_toError : FuncId := 81
abbrev n_slices_insertionSortOrdered_uint64 : FuncId := 82
abbrev n_slices_heapSortOrdered_uint64 : FuncId := 83
abbrev n_slices_breakPatternsOrdered_uint64 : FuncId := 84
abbrev n_slices_choosePivotOrdered_uint64 : FuncId := 85
abbrev n_slices_reverseRangeOrdered_uint64 : FuncId := 86
abbrev n_slices_partialInsertionSortOrdered_uint64 : FuncId := 87
abbrev n_cmp_Less_uint64 : FuncId := 88
abbrev n_slices_partitionEqualOrdered_uint64 : FuncId := 89
abbrev n_slices_partitionOrdered_uint64 : FuncId := 90
abbrev n_math_bits_Len32 : FuncId := 91
abbrev n_math_bits_Len64 : FuncId := 92
abbrev n_frame_Read : FuncId := 93
abbrev n_disk_Disk_Rename_c1 : FuncId := 94
abbrev n_internal_strconv_small : FuncId := 95
abbrev n_internal_strconv_numDigits : FuncId := 96
abbrev n_internal_strconv_formatBase10 : FuncId := 97
abbrev n_internal_strconv_formatBits : FuncId := 98
abbrev n_math_bits_Mul32 : FuncId := 99
abbrev n_math_bits_Mul64 : FuncId := 100
abbrev n_internal_stringslite_HasPrefix : FuncId := 101
abbrev n_strings_Builder_copyCheck : FuncId := 102
abbrev n_strings_Builder_grow : FuncId := 103
abbrev n_slices_insertionSortOrdered_string : FuncId := 104
abbrev n_slices_heapSortOrdered_string : FuncId := 105
abbrev n_slices_breakPatternsOrdered_string : FuncId := 106
abbrev n_slices_choosePivotOrdered_string : FuncId := 107
abbrev n_slices_reverseRangeOrdered_string : FuncId := 108
abbrev n_slices_partialInsertionSortOrdered_string : FuncId := 109
abbrev n_cmp_Less_string : FuncId := 110
abbrev n_slices_partitionEqualOrdered_string : FuncId := 111
abbrev n_slices_partitionOrdered_string : FuncId := 112
abbrev n_internal_strconv_lower : FuncId := 113
abbrev n_internal_strconv_underscoreOK : FuncId := 114
abbrev n_strconv_syntaxError : FuncId := 115
abbrev n_strconv_rangeError : FuncId := 116
abbrev n_strconv_baseError : FuncId := 117
abbrev n_strconv_bitSizeError : FuncId := 118
abbrev n_slices_siftDownOrdered_uint64 : FuncId := 119
abbrev n_slices_nextPowerOfTwo : FuncId := 120
abbrev n_slices_xorshift_Next : FuncId := 121
abbrev n_slices_medianAdjacentOrdered_uint64 : FuncId := 122
abbrev n_slices_medianOrdered_uint64 : FuncId := 123
abbrev n_cmp_isNaN_uint64 : FuncId := 124
abbrev n_frame_get : FuncId := 125
abbrev n_internal_strconv_log10Pow2 : FuncId := 126
abbrev n_internal_strconv_bool2_int : FuncId := 127
abbrev n_internal_strconv_isPowerOfTwo : FuncId := 128
abbrev n_math_bits_TrailingZeros : FuncId := 129
abbrev n_internal_abi_NoEscape : FuncId := 130
abbrev n_internal_bytealg_MakeNoZero : FuncId := 131
abbrev n_slices_siftDownOrdered_string : FuncId := 132
abbrev n_slices_medianAdjacentOrdered_string : FuncId := 133
abbrev n_slices_medianOrdered_string : FuncId := 134
abbrev n_cmp_isNaN_string : FuncId := 135
abbrev n_internal_stringslite_Clone : FuncId := 136
abbrev n_errors_New : FuncId := 137
abbrev n_strconv_Itoa : FuncId := 138
abbrev n_slices_order2Ordered_uint64 : FuncId := 139
abbrev n_math_bits_TrailingZeros32 : FuncId := 140
abbrev n_math_bits_TrailingZeros64 : FuncId := 141
abbrev n_slices_order2Ordered_string : FuncId := 142
abbrev n_internal_strconv_Itoa : FuncId := 143
abbrev n_internal_strconv_FormatInt : FuncId := 144
abbrev n_runtime_boundsError_Error : FuncId := 145
abbrev n_runtime_boundsError_RuntimeError : FuncId := 146
abbrev n_runtime_errorString_Error : FuncId := 147
abbrev n_runtime_errorString_RuntimeError : FuncId := 148
abbrev n_runtime_plainError_Error : FuncId := 149
abbrev n_runtime_plainError_RuntimeError : FuncId := 150
abbrev n_runtime_errorAddressString_Error : FuncId := 151
abbrev n_runtime_errorAddressString_RuntimeError : FuncId := 152
abbrev n_runtime_TypeAssertionError_Error : FuncId := 153
abbrev n_runtime_TypeAssertionError_RuntimeError : FuncId := 154
abbrev n_runtime_PanicNilError_Error : FuncId := 155
abbrev n_runtime_PanicNilError_RuntimeError : FuncId := 156
abbrev n_internal_abi_Type_Align : FuncId := 157
abbrev n_internal_runtime_maps_unhashableTypeError_Error : FuncId := 158
abbrev n_internal_runtime_maps_unhashableTypeError_RuntimeError : FuncId := 159
abbrev n_disk_Disk_Left : FuncId := 160
abbrev n_strings_Builder_Reset : FuncId := 161
abbrev n_internal_strconv_Error_Error : FuncId := 162
abbrev n_strconv_NumError_Error : FuncId := 163
abbrev n_errors_errorString_Error : FuncId := 164
abbrev n_internal_abi_Kind_String : FuncId := 165
abbrev n_gosem_cut_vars : FuncId := 173
end Go.Proofs.YtccebpahnnfceaaGreatDoor
