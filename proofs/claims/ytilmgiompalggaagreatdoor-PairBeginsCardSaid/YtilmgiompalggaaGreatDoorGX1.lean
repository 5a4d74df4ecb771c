/- Numbers of functions and types, as this seat's program has them. No condition. -/
import Derived.Test.YtilmgiompalggaaGreatDoorProg
import Derived.Test.YtilmgiompalggaaGreatDoorEn35
import Derived.Test.YtilmgiompalggaaGreatDoorEn18
import Derived.KernelRfl
namespace Go.Proofs.YtilmgiompalggaaGreatDoor.W
open Go
abbrev F_main_main : Nat := 0
abbrev F_gosem_cut : Nat := 1
abbrev F_gosem_cut_init : Nat := 2
abbrev F_mummerlaw28_PairBegins : Nat := 3
abbrev F_pair_Pair_Turn : Nat := 4
abbrev F_pair_Pair_Run : Nat := 5
abbrev F_pair_Pair_Monitor : Nat := 6
abbrev F_pair_Pair_Machine : Nat := 7
abbrev F_pair_New : Nat := 8
abbrev F_mummerlaw28_works : Nat := 9
abbrev F_pair_Pair_none : Nat := 10
abbrev F_monitor_Monitor_Turn : Nat := 11
abbrev F_pair_Pair_feed : Nat := 12
abbrev F_pair_Pair_follow : Nat := 13
abbrev F_pair_Pair_differ : Nat := 14
abbrev F_monitor_New : Nat := 15
abbrev F_machine_New : Nat := 16
abbrev F_mummerlaw26_Setup_Config : Nat := 17
abbrev F_machine_Machine_Steps : Nat := 18
abbrev F_monitor_Monitor_Steps : Nat := 19
abbrev F_monitor_Monitor_none : Nat := 20
abbrev F_machine_Machine_State : Nat := 21
abbrev F_sync_atomic_Int64_Add : Nat := 22
abbrev F_machine_Machine_Come : Nat := 23
abbrev F_monitor_Monitor_wrote : Nat := 24
abbrev F_machine_Machine_Take : Nat := 25
abbrev F_machine_Machine_Next : Nat := 26
abbrev F_monitor_Monitor_run : Nat := 27
abbrev F_monitor_Monitor_Came : Nat := 28
abbrev F_machine_Machine_Save : Nat := 29
abbrev F_machine_Load : Nat := 30
abbrev F_machine_Machine_Step : Nat := 31
abbrev F_judge_Tell : Nat := 32
abbrev F_pair_seen : Nat := 33
abbrev F_monitor_may : Nat := 34
abbrev F_monitor_begun : Nat := 35
abbrev F_ram_RAM_Fill : Nat := 36
abbrev F_machine_Over : Nat := 37
abbrev F_ram_New : Nat := 38
abbrev F_machine_Machine_none : Nat := 39
abbrev F_sync_atomic_AddInt64 : Nat := 40
abbrev F_dev_Dev_Come : Nat := 41
abbrev F_marks_Marks_Has : Nat := 42
abbrev F_monitor_Monitor_forget : Nat := 43
abbrev F_monitor_Monitor_drop : Nat := 44
abbrev F_dev_Dev_Wants : Nat := 45
abbrev F_dev_Dev_Taken : Nat := 46
abbrev F_machine_Machine_deliver : Nat := 47
abbrev F_dev_Dev_Next : Nat := 48
abbrev F_monitor_Monitor_run_1 : Nat := 49
abbrev F_monitor_Monitor_translated : Nat := 50
abbrev F_monitor_Monitor_direct : Nat := 51
abbrev F_slices_Clone_api_Event_api_Event : Nat := 52
abbrev F_dev_Dev_Save : Nat := 53
abbrev F_ram_RAM_Size : Nat := 54
abbrev F_ram_RAM_Frame : Nat := 55
abbrev F_machine_Machine_Notes : Nat := 56
abbrev F_machine_fits : Nat := 57
abbrev F_machine_Resume : Nat := 58
abbrev F_machine_Machine_One : Nat := 59
abbrev F_judge_parts : Nat := 60
abbrev F_judge_teller_say : Nat := 61
abbrev F_monitor_within : Nat := 62
abbrev F_monitor_planned : Nat := 63
abbrev F_strew_New : Nat := 64
abbrev F_ram_RAM_Window : Nat := 65
abbrev F_strew_Map_List : Nat := 66
abbrev F_monitor_row : Nat := 67
abbrev F_pool_New : Nat := 68
abbrev F_spaces_New : Nat := 69
abbrev F_monitor_plan_tables : Nat := 70
abbrev F_host_New : Nat := 71
abbrev F_marks_New : Nat := 72
abbrev F_cache_New : Nat := 73
abbrev F_chain_New : Nat := 74
abbrev F_ram_lay : Nat := 75
abbrev F_ram_RAM_within : Nat := 76
abbrev F_ram_RAM_at : Nat := 77
abbrev F_dev_New : Nat := 78
abbrev F_dev_Dev_none : Nat := 79
abbrev F_dev_Dev_due : Nat := 80
abbrev F_dev_waiting_press : Nat := 81
abbrev F_dev_disk_busy : Nat := 82
abbrev F_dev_disk_done : Nat := 83
abbrev F_slices_Sort_int_int : Nat := 84
abbrev F_slices_Compact_int_int : Nat := 85
abbrev F_marks_Marks_set : Nat := 86
abbrev F_monitor_Monitor_empty : Nat := 87
abbrev F_marks_Marks_Clear : Nat := 88
abbrev F_monitor_Monitor_bare : Nat := 89
abbrev F_cache_Cache_Drop : Nat := 90
abbrev F_chain_Chain_Dropped : Nat := 91
abbrev F_monitor_Monitor_mark : Nat := 92
abbrev F_cache_Cache_Frames : Nat := 93
abbrev F_trap_Wants : Nat := 94
abbrev F_dev_waiting_asked : Nat := 95
abbrev F_trap_Enter : Nat := 96
abbrev F_monitor_Monitor_made : Nat := 97
abbrev F_monitor_key : Nat := 98
abbrev F_monitor_Monitor_use : Nat := 99
abbrev F_monitor_Monitor_loaded : Nat := 100
abbrev F_host_Host_Tally : Nat := 101
abbrev F_host_Host_Run : Nat := 102
abbrev F_host_Host_State : Nat := 103
abbrev F_cache_Cache_At : Nat := 104
abbrev F_host_Host_Count : Nat := 105
abbrev F_monitor_back : Nat := 106
abbrev F_monitor_kind : Nat := 107
abbrev F_lead_Decide : Nat := 108
abbrev F_monitor_Monitor_met : Nat := 109
abbrev F_machine_Machine_Put : Nat := 110
abbrev F_monitor_Monitor_out : Nat := 111
abbrev F_monitor_Monitor_stop : Nat := 112
abbrev F_monitor_Monitor_deliver : Nat := 113
abbrev F_slices_Clone_byte_byte : Nat := 114
abbrev F_dev_disk_all : Nat := 115
abbrev F_dev_Load : Nat := 116
abbrev F_machine_Machine_fetch : Nat := 117
abbrev F_machine_Machine_sensed : Nat := 118
abbrev F_machine_Machine_plain : Nat := 119
abbrev F_machine_Machine_write : Nat := 120
abbrev F_machine_Machine_Deliver : Nat := 121
abbrev F_judge_numbers : Nat := 122
abbrev F_judge_states : Nat := 123
abbrev F_judge_bytes : Nat := 124
abbrev F_judge_list : Nat := 125
abbrev F_judge_Notes : Nat := 126
abbrev F_judge_Events : Nat := 127
abbrev F_judge_devices : Nat := 128
abbrev F_judge_parts_1 : Nat := 129
abbrev F_strew_Order : Nat := 130
abbrev F_spaces_apart : Nat := 131
abbrev F_slices_Max_int_int : Nat := 132
abbrev F_slices_Clone_uint32_uint32 : Nat := 133
abbrev F_shadow_New : Nat := 134
abbrev F_ram_RAM_SetWord : Nat := 135
abbrev F_tlb_New : Nat := 136
abbrev F_cache_Cache_Flush : Nat := 137
abbrev F_dev_may : Nat := 138
abbrev F_dev_laid : Nat := 139
abbrev F_dev_Dev_due_1 : Nat := 140
abbrev F_slices_pdqsortOrdered_int : Nat := 141
abbrev F_math_bits_Len : Nat := 142
abbrev F_chain_Chain_Flush : Nat := 143
abbrev F_spaces_Spaces_Clear : Nat := 144
abbrev F_host_Host_Flush : Nat := 145
abbrev F_cache_Cache_each : Nat := 146
abbrev F_slices_Contains_int_int : Nat := 147
abbrev F_chain_Chain_none : Nat := 148
abbrev F_chain_Chain_each : Nat := 149
abbrev F_chain_among_from : Nat := 150
abbrev F_chain_among_to : Nat := 151
abbrev F_chain_Chain_restore : Nat := 152
abbrev F_marks_Marks_Mark : Nat := 153
abbrev F_trap_without : Nat := 154
abbrev F_cache_Cache_Find : Nat := 155
abbrev F_scan_Scan : Nat := 156
abbrev F_monitor_Monitor_cut : Nat := 157
abbrev F_cache_Cache_Put : Nat := 158
abbrev F_monitor_Monitor_alone : Nat := 159
abbrev F_spaces_Spaces_Select : Nat := 160
abbrev F_spaces_Spaces_Root : Nat := 161
abbrev F_host_Host_Load : Nat := 162
abbrev F_host_Host_none : Nat := 163
abbrev F_host_Host_Run_1 : Nat := 164
abbrev F_host_Host_one : Nat := 165
abbrev F_cache_Cache_none : Nat := 166
abbrev F_sort_Search : Nat := 167
abbrev F_cache_Cache_At_1 : Nat := 168
abbrev F_rows_Find : Nat := 169
abbrev F_lead_watched : Nat := 170
abbrev F_lead_access_way : Nat := 171
abbrev F_lead_failed : Nat := 172
abbrev F_monitor_Monitor_watch : Nat := 173
abbrev F_monitor_Monitor_lead : Nat := 174
abbrev F_cache_Cache_Asks : Nat := 175
abbrev F_monitor_Monitor_link : Nat := 176
abbrev F_slices_BinarySearch_uint32_uint32 : Nat := 177
abbrev F_dev_ordered : Nat := 178
abbrev F_machine_Machine_fetch_1 : Nat := 179
abbrev F_machine_Machine_to : Nat := 180
abbrev F_ram_RAM_Byte : Nat := 181
abbrev F_isa_Size : Nat := 182
abbrev F_isa_Decode : Nat := 183
abbrev F_dev_Dev_In : Nat := 184
abbrev F_sense_Do : Nat := 185
abbrev F_dev_Dev_Read : Nat := 186
abbrev F_dev_Dev_Write : Nat := 187
abbrev F_core_Want : Nat := 188
abbrev F_machine_Machine_read : Nat := 189
abbrev F_core_Do : Nat := 190
abbrev F_walk_Look : Nat := 191
abbrev F_walk_Soil : Nat := 192
abbrev F_ram_RAM_SetByte : Nat := 193
abbrev F_trap_Back : Nat := 194
abbrev F_judge_numbers_1 : Nat := 195
abbrev F_judge_both : Nat := 196
abbrev F_judge_number : Nat := 197
abbrev F_judge_apart : Nat := 198
abbrev F_judge_states_1 : Nat := 199
abbrev F_judge_first_byte : Nat := 200
abbrev F_judge_bytes_1 : Nat := 201
abbrev F_judge_at : Nat := 202
abbrev F_judge_list_1 : Nat := 203
abbrev F_judge_first_api_Note : Nat := 204
abbrev F_judge_first_api_Event : Nat := 205
abbrev F_strew_Order_1 : Nat := 206
abbrev F_slices_Sorted_int : Nat := 207
abbrev F_slices_Values_int_int : Nat := 208
abbrev F_shadow_frames : Nat := 209
abbrev F_shadow_Shadow_begin : Nat := 210
abbrev F_slices_insertionSortOrdered_int : Nat := 211
abbrev F_slices_heapSortOrdered_int : Nat := 212
abbrev F_slices_breakPatternsOrdered_int : Nat := 213
abbrev F_slices_choosePivotOrdered_int : Nat := 214
abbrev F_slices_reverseRangeOrdered_int : Nat := 215
abbrev F_slices_partialInsertionSortOrdered_int : Nat := 216
abbrev F_cmp_Less_int : Nat := 217
abbrev F_slices_partitionEqualOrdered_int : Nat := 218
abbrev F_slices_partitionOrdered_int : Nat := 219
abbrev F_math_bits_Len32 : Nat := 220
abbrev F_math_bits_Len64 : Nat := 221
abbrev F_spaces_Spaces_none : Nat := 222
abbrev F_shadow_Shadow_Clear : Nat := 223
abbrev F_tlb_TLB_Flush : Nat := 224
abbrev F_cache_Cache_each_1 : Nat := 225
abbrev F_slices_Index_int_int : Nat := 226
abbrev F_chain_Chain_each_1 : Nat := 227
abbrev F_slices_Contains_chain_among_api_Key : Nat := 228
abbrev F_stub_Stub : Nat := 229
abbrev F_marks_Marks_Watched : Nat := 230
abbrev F_kind_New : Nat := 231
abbrev F_scan_fetch : Nat := 232
abbrev F_scan_put_uint32 : Nat := 233
abbrev F_scan_lay : Nat := 234
abbrev F_kind_Table_Ends : Nat := 235
abbrev F_translate_May : Nat := 236
abbrev F_translate_Translate : Nat := 237
abbrev F_slices_Clone_int_int : Nat := 238
abbrev F_rows_Exits : Nat := 239
abbrev F_spaces_Spaces_young : Nat := 240
abbrev F_shadow_Shadow_Upper : Nat := 241
abbrev F_spaces_Spaces_now : Nat := 242
abbrev F_shadow_Shadow_Root : Nat := 243
abbrev F_host_Host_fetch : Nat := 244
abbrev F_host_Host_tallied : Nat := 245
abbrev F_host_Host_sensed : Nat := 246
abbrev F_host_Host_plain : Nat := 247
abbrev F_rows_Last : Nat := 248
abbrev F_lead_watched_1 : Nat := 249
abbrev F_lead_watched_2 : Nat := 250
abbrev F_lead_access_paged : Nat := 251
abbrev F_lead_both : Nat := 252
abbrev F_lead_Bits : Nat := 253
abbrev F_walk_To : Nat := 254
abbrev F_monitor_Monitor_soiled : Nat := 255
abbrev F_strew_Map_Host : Nat := 256
abbrev F_spaces_Spaces_Put : Nat := 257
abbrev F_cache_Cache_owned : Nat := 258
abbrev F_chain_Chain_Link : Nat := 259
abbrev F_cmp_Less_uint32 : Nat := 260
abbrev F_slices_isNaN_uint32 : Nat := 261
abbrev F_isa_formOf : Nat := 262
abbrev F_isa_reader_next : Nat := 263
abbrev F_isa_form_number : Nat := 264
abbrev F_isa_May : Nat := 265
abbrev F_dev_waiting_first : Nat := 266
abbrev F_sense_Do_1 : Nat := 267
abbrev F_sense_doing_pick : Nat := 268
abbrev F_dev_disk_command : Nat := 269
abbrev F_core_size : Nat := 270
abbrev F_core_none : Nat := 271
abbrev F_core_jump : Nat := 272
abbrev F_core_plain : Nat := 273
abbrev F_ram_RAM_Word : Nat := 274
abbrev F_walk_both : Nat := 275
abbrev F_strconv_Itoa : Nat := 276
abbrev F_judge_values : Nat := 277
abbrev F_judge_first_byte_1 : Nat := 278
abbrev F_judge_first_api_Note_1 : Nat := 279
abbrev F_judge_first_api_Event_1 : Nat := 280
abbrev F_slices_Collect_int : Nat := 281
abbrev F_slices_Values_int_int_1 : Nat := 282
abbrev F_slices_siftDownOrdered_int : Nat := 283
abbrev F_slices_nextPowerOfTwo : Nat := 284
abbrev F_slices_xorshift_Next : Nat := 285
abbrev F_slices_medianAdjacentOrdered_int : Nat := 286
abbrev F_slices_medianOrdered_int : Nat := 287
abbrev F_cmp_isNaN_int : Nat := 288
abbrev F_shadow_Shadow_none : Nat := 289
abbrev F_pool_Pool_Give : Nat := 290
abbrev F_tlb_TLB_none : Nat := 291
abbrev F_slices_Index_chain_among_api_Key : Nat := 292
abbrev F_stub_laid : Nat := 293
abbrev F_scan_fetch_1 : Nat := 294
abbrev F_scan_found_byteAt : Nat := 295
abbrev F_slices_Insert_uint32_uint32 : Nat := 296
abbrev F_scan_put_int : Nat := 297
abbrev F_kind_Table_of : Nat := 298
abbrev F_translate_fits : Nat := 299
abbrev F_translate_writer_lay : Nat := 300
abbrev F_translate_work_end : Nat := 301
abbrev F_rows_kept_api_Row : Nat := 302
abbrev F_rows_Exits_1 : Nat := 303
abbrev F_slices_Delete_int_int : Nat := 304
abbrev F_host_Host_to : Nat := 305
abbrev F_host_fault : Nat := 306
abbrev F_host_Host_read : Nat := 307
abbrev F_host_Host_soil : Nat := 308
abbrev F_rows_behind : Nat := 309
abbrev F_walk_May : Nat := 310
abbrev F_shadow_Shadow_Put : Nat := 311
abbrev F_spaces_Spaces_wants : Nat := 312
abbrev F_shadow_Shadow_Tables : Nat := 313
abbrev F_cache_Cache_Out : Nat := 314
abbrev F_stub_Jump : Nat := 315
abbrev F_cmp_isNaN_uint32 : Nat := 316
abbrev F_isa_form_fits : Nat := 317
abbrev F_sense_doing_hlt : Nat := 318
abbrev F_sense_doing_iret : Nat := 319
abbrev F_sense_doing_flush : Nat := 320
abbrev F_sense_doing_rdps : Nat := 321
abbrev F_sense_doing_wrps : Nat := 322
abbrev F_sense_doing_rdcr : Nat := 323
abbrev F_sense_doing_wrcr : Nat := 324
abbrev F_sense_doing_read : Nat := 325
abbrev F_sense_doing_out : Nat := 326
abbrev F_flags_Holds : Nat := 327
abbrev F_core_near_to : Nat := 328
abbrev F_core_far_to : Nat := 329
abbrev F_core_parted : Nat := 330
abbrev F_core_moved : Nat := 331
abbrev F_core_sums : Nat := 332
abbrev F_core_turned : Nat := 333
abbrev F_internal_strconv_Itoa : Nat := 334
abbrev F_slices_AppendSeq_int_int : Nat := 335
abbrev F_slices_order2Ordered_int : Nat := 336
abbrev F_pool_Pool_none : Nat := 337
abbrev F_isa_Encode : Nat := 338
abbrev F_slices_overlaps_uint32 : Nat := 339
abbrev F_slices_rotateRight_uint32 : Nat := 340
abbrev F_slices_BinarySearch_int_int : Nat := 341
abbrev F_slices_Insert_int_int : Nat := 342
abbrev F_sync_Once_Do : Nat := 343
abbrev F_kind_Table_fill : Nat := 344
abbrev F_translate_work_stub : Nat := 345
abbrev F_tlb_TLB_Look : Nat := 346
abbrev F_tlb_TLB_Put : Nat := 347
abbrev F_rows_behind_1 : Nat := 348
abbrev F_shadow_Shadow_table : Nat := 349
abbrev F_shadow_Shadow_lay : Nat := 350
abbrev F_pool_Pool_Left : Nat := 351
abbrev F_shadow_Shadow_Has : Nat := 352
abbrev F_sense_doing_system : Nat := 353
abbrev F_flags_Div : Nat := 354
abbrev F_flags_Rem : Nat := 355
abbrev F_flags_Add : Nat := 356
abbrev F_flags_Sub : Nat := 357
abbrev F_flags_And : Nat := 358
abbrev F_flags_Ror : Nat := 359
abbrev F_flags_Sar : Nat := 360
abbrev F_flags_Mulh : Nat := 361
abbrev F_flags_Or : Nat := 362
abbrev F_flags_Xor : Nat := 363
abbrev F_flags_Shl : Nat := 364
abbrev F_flags_Shr : Nat := 365
abbrev F_flags_Mul : Nat := 366
abbrev F_internal_strconv_FormatInt : Nat := 367
abbrev F_slices_rotateLeft_uint32 : Nat := 368
abbrev F_slices_isNaN_int : Nat := 369
abbrev F_slices_overlaps_int : Nat := 370
abbrev F_slices_rotateRight_int : Nat := 371
abbrev F_sync_atomic_Bool_Load : Nat := 372
abbrev F_sync_Once_doSlow : Nat := 373
abbrev F_kind_Table_fill_1 : Nat := 374
abbrev F_translate_on_leads : Nat := 375
abbrev F_translate_ask_leads : Nat := 376
abbrev F_tlb_TLB_place : Nat := 377
abbrev F_pool_Pool_Take : Nat := 378
abbrev F_flags_put : Nat := 379
abbrev F_flags_moved : Nat := 380
abbrev F_flags_row_round : Nat := 381
abbrev F_flags_row_signed : Nat := 382
abbrev F_flags_row_up : Nat := 383
abbrev F_flags_row_down : Nat := 384
abbrev F_internal_strconv_small : Nat := 385
abbrev F_internal_strconv_numDigits : Nat := 386
abbrev F_internal_strconv_formatBase10 : Nat := 387
abbrev F_internal_strconv_formatBits : Nat := 388
abbrev F_slices_Reverse_uint32_uint32 : Nat := 389
abbrev F_slices_rotateLeft_int : Nat := 390
abbrev F_sync_atomic_LoadUint32 : Nat := 391
abbrev F_sync_Mutex_Lock : Nat := 392
abbrev F_sync_Mutex_Unlock : Nat := 393
abbrev F_sync_atomic_Bool_Store : Nat := 394
abbrev F_internal_strconv_log10Pow2 : Nat := 395
abbrev F_internal_strconv_bool2_int : Nat := 396
abbrev F_internal_strconv_isPowerOfTwo : Nat := 397
abbrev F_math_bits_TrailingZeros : Nat := 398
abbrev F_slices_Reverse_int_int : Nat := 399
abbrev F_internal_sync_Mutex_Lock : Nat := 400
abbrev F_internal_sync_Mutex_Unlock : Nat := 401
abbrev F_sync_atomic_StoreUint32 : Nat := 402
abbrev F_sync_atomic_b32 : Nat := 403
abbrev F_math_bits_TrailingZeros32 : Nat := 404
abbrev F_math_bits_TrailingZeros64 : Nat := 405
abbrev F_internal_race_Disable : Nat := 406
abbrev F_sync_atomic_CompareAndSwapInt32 : Nat := 407
abbrev F_internal_race_Enable : Nat := 408
abbrev F_internal_race_Acquire : Nat := 409
abbrev F_internal_sync_Mutex_lockSlow : Nat := 410
abbrev F_internal_race_ReleaseMerge : Nat := 411
abbrev F_sync_atomic_AddInt32 : Nat := 412
abbrev F_internal_sync_Mutex_unlockSlow : Nat := 413
abbrev F_internal_sync_runtime_canSpin : Nat := 414
abbrev F_internal_sync_runtime_doSpin : Nat := 415
abbrev F_internal_sync_throw : Nat := 416
abbrev F_internal_sync_runtime_nanotime : Nat := 417
abbrev F_internal_sync_runtime_SemacquireMutex : Nat := 418
abbrev F_internal_sync_fatal : Nat := 419
abbrev F_internal_sync_runtime_Semrelease : Nat := 420
abbrev F_runtime_boundsError_Error : Nat := 421
abbrev F_runtime_boundsError_RuntimeError : Nat := 422
abbrev F_runtime_errorString_Error : Nat := 423
abbrev F_runtime_errorString_RuntimeError : Nat := 424
abbrev F_runtime_plainError_Error : Nat := 425
abbrev F_runtime_plainError_RuntimeError : Nat := 426
abbrev F_runtime_errorAddressString_Error : Nat := 427
abbrev F_runtime_errorAddressString_RuntimeError : Nat := 428
abbrev F_runtime_TypeAssertionError_Error : Nat := 429
abbrev F_runtime_TypeAssertionError_RuntimeError : Nat := 430
abbrev F_runtime_PanicNilError_Error : Nat := 431
abbrev F_runtime_PanicNilError_RuntimeError : Nat := 432
abbrev F_internal_abi_Type_Align : Nat := 433
abbrev F_internal_runtime_maps_unhashableTypeError_Error : Nat := 434
abbrev F_internal_runtime_maps_unhashableTypeError_RuntimeError : Nat := 435
abbrev F_monitor_Monitor_Save : Nat := 436
abbrev F_api_Errno_Error : Nat := 437
abbrev F_strew_Map_Guest : Nat := 438
abbrev F_sync_atomic_Int64_Load : Nat := 439
abbrev F_pool_Pool_Reset : Nat := 440
abbrev F_machine_fails_ends : Nat := 441
abbrev F_machine_goes_ends : Nat := 442
abbrev F_chain_link_any : Nat := 443
abbrev F_kind_known_has : Nat := 444
abbrev F_internal_abi_Kind_String : Nat := 445
abbrev F_var_s_door_gosem_cut_vars_holds_initialisers_alone_see_the_manifest_s_row_cutvarsword_look_11_test_files_too : Nat := 446
abbrev F_var_s_door_internal_strconv_uint64pow10_is_laid_by_its_own_initialiser_plain_data_look_11 : Nat := 447
abbrev F_var_s_door_math_bits_deBruijn32tab_is_laid_by_its_own_initialiser_plain_data_look_11 : Nat := 448
abbrev F_var_s_door_math_bits_deBruijn64tab_is_laid_by_its_own_initialiser_plain_data_look_11 : Nat := 449
abbrev F_var_s_door_the_look_of_gosem_cut_vars_went_over_the_folder_that_the_caller_named_as_the_repository_s_root_look_11 : Nat := 450
abbrev F_gosem_cut_vars : Nat := 451
abbrev T_abi_BoundsErrorCode : Nat := 6
abbrev T_maps_unhashableTypeError : Nat := 19
abbrev T_api_Config : Nat := 24
abbrev T_pair_Pair : Nat := 29
abbrev T_api_Errno : Nat := 37
abbrev T_api_State : Nat := 42
abbrev T_mummerlaw26_Setup : Nat := 54
abbrev T_atomic_noCopy : Nat := 66
abbrev T_atomic_align64 : Nat := 67
abbrev T_atomic_Int64 : Nat := 69
abbrev T_monitor_counts : Nat := 71
abbrev T_monitor_Monitor : Nat := 73
abbrev T_api_Saved : Nat := 85
abbrev T_pair_runs : Nat := 89
abbrev T_machine_Machine : Nat := 101
abbrev T_api_Fault : Nat := 110
abbrev T_monitor_over : Nat := 112
abbrev T_api_Event : Nat := 116
abbrev T_judge_part : Nat := 127
abbrev T_judge_teller : Nat := 128
abbrev T_monitor_plan : Nat := 132
abbrev T_ram_RAM : Nat := 160
abbrev T_dev_waiting : Nat := 165
abbrev T_dev_order : Nat := 168
abbrev T_dev_disk : Nat := 170
abbrev T_dev_Dev : Nat := 172
abbrev T_api_Note : Nat := 185
abbrev T_api_Key : Nat := 189
abbrev T_api_Exit : Nat := 195
abbrev T_api_Row : Nat := 198
abbrev T_lead_Verdict : Nat := 204
abbrev T_machine_end : Nat := 215
abbrev T_api_Ins : Nat := 217
abbrev T_machine_fails : Nat := 221
abbrev T_api_Access : Nat := 224
abbrev T_machine_goes : Nat := 226
abbrev T_strew_Map : Nat := 239
abbrev T_pool_Pool : Nat := 242
abbrev T_spaces_space : Nat := 248
abbrev T_spaces_Spaces : Nat := 251
abbrev T_host_Host : Nat := 259
abbrev T_marks_Marks : Nat := 262
abbrev T_cache_Cache : Nat := 266
abbrev T_chain_Chain : Nat := 269
abbrev T_dev_block : Nat := 275
abbrev T_iter_Seq2_int_mummer_cache_laid : Nat := 280
abbrev T_api_Code : Nat := 284
abbrev T_cache_laid : Nat := 286
abbrev T_chain_among : Nat := 291
abbrev T_chain_link : Nat := 294
abbrev T_api_Block : Nat := 300
abbrev T_host_stop : Nat := 309
abbrev T_lead_access : Nat := 315
abbrev T_lead_judge : Nat := 318
abbrev T_api_Way : Nat := 320
abbrev T_api_Effect : Nat := 336
abbrev T_judge_value : Nat := 355
abbrev T_shadow_table : Nat := 364
abbrev T_shadow_Shadow : Nat := 367
abbrev T_tlb_TLB : Nat := 370
abbrev T_scan_found : Nat := 388
abbrev T_isa_form : Nat := 411
abbrev T_isa_reader : Nat := 415
abbrev T_sense_refused : Nat := 420
abbrev T_sense_doing : Nat := 424
abbrev T_atomic_Bool : Nat := 445
abbrev T_sync_Mutex : Nat := 447
abbrev T_kind_Table : Nat := 454
abbrev T_kind_known : Nat := 459
abbrev T_translate_writer : Nat := 464
abbrev T_translate_work : Nat := 466
abbrev T_cache_Out : Nat := 478
abbrev T_core_near : Nat := 483
abbrev T_core_place : Nat := 485
abbrev T_core_far : Nat := 487
abbrev T_core_sum : Nat := 493
abbrev T_translate_on : Nat := 512
abbrev T_translate_ask : Nat := 514
abbrev T_translate_exit : Nat := 529
abbrev T_tlb_slot : Nat := 533
abbrev T_flags_row : Nat := 536
abbrev T_abi_TFlag : Nat := 567
abbrev T_abi_Kind : Nat := 568
abbrev T_abi_NameOff : Nat := 571
abbrev T_abi_TypeOff : Nat := 572
abbrev T_abi_Type : Nat := 574
end Go.Proofs.YtilmgiompalggaaGreatDoor.W
/- A monitor that is made, of whatever configuration: what is reckoned. No condition. -/
namespace Go.Proofs.YtilmgiompalggaaGreatDoor.W
open Go Go.RowKit Go.Eng
set_option maxRecDepth 100000
set_option linter.unusedVariables false
set_option linter.unusedSimpArgs false
theorem spI {b : Bool} {A B : Prop} (h : b = true → A) (g : b = false → B) : sp b A B := sp_iff.2 ⟨h, g⟩
theorem hmix : (Go.Proofs.Tryz.prog).follows .mixedOrders = true := by kernel_rfl
/-! ### so many numbers, each so far behind the one ahead -/
def rowN (a d k : Nat) : List Int := (List.range k).map fun i => ((a + i * d : Nat) : Int)
structure RowX where
  a : Nat
  n : Nat
  d : Nat
structure RowI where
  x : RowX
  k : Nat
  s : Bool
def rowLp (P : Program) : Lp RowI where
  B := 0
  n := ntmpsOf P F_monitor_row
  code := loopOf P F_monitor_row 0
  fit s H := match s.get 0, s.get 2, s.get 9 with
    | .int _ a, .int _ d, .int _ n => some ⟨⟨a.toNat, n.toNat, d.toNat⟩, 0, false⟩
    | _, _, _ => none
  pre i := 1 ≤ i.x.n ∧ i.x.a ≤ 512 ∧ i.x.n ≤ 64 ∧ i.x.d ≤ 2 ∧ i.k ≤ i.x.n ∧ (i.s = true → 1 ≤ i.k) ∧ (i.s = false → i.k = 0)
  slots i := [(0, .int .i64 i.x.a), (2, .int .i64 i.x.d), (7, bif i.s then .sl 0 0 0 i.k i.k false else .nils), (9, .int .i64 i.x.n), (10, .int .i64 i.k)]
  nx i := bif i.s then 1 else 0
  L i := bif i.s then [(0, ⟨true, 1, .ints .i64 (rowN i.x.a i.x.d i.k)⟩)] else []
  m i := i.x.n - i.k
  outs i := [(true, ⟨.exit 0, [(7, .sl 0 0 0 i.x.n i.x.n false)], 1, [(0, ⟨true, 1, .ints .i64 (rowN i.x.a i.x.d i.x.n)⟩)]⟩)]
  sh j := { j with s := true }
def rowC : Con RowX Unit where
  f := F_monitor_row
  fit vs H := match vs with
    | [.int _ a, .int _ n, .int _ d] => some ([], ⟨a.toNat, n.toNat, d.toNat⟩)
    | _ => none
  n0 := 0
  pre x := 1 ≤ x.n ∧ x.a ≤ 512 ∧ x.n ≤ 64 ∧ x.d ≤ 2
  args x := [.int .i64 x.a, .int .i64 x.n, .int .i64 x.d]
  L0 _ := []
  outs x := [(fun _ => True, fun _ => (.ret (.sl 0 0 0 x.n x.n false), 1, [(0, ⟨true, 1, .ints .i64 (rowN x.a x.d x.n)⟩)]))]
end Go.Proofs.YtilmgiompalggaaGreatDoor.W
/- A monitor that is made: the walks of what it calls. No condition. -/
namespace Go.Proofs.YtilmgiompalggaaGreatDoor.W
open Go Go.RowKit Go.Eng
set_option maxRecDepth 100000
set_option linter.unusedVariables false
set_option linter.unusedSimpArgs false
def rowA_c_V (a n d k : Nat) : Prop :=
  sp (decide ((↑k : Int) < (↑n : Int))) (sp (decide (0 + k ≤ (rowN a d k).length) && true && true && true && true && decide ((k + 1) * 8 ≤ 140737488355328) && decide (k + 1 ≤ 9223372036854775807)) (∃ (j : RowI), (1 ≤ j.x.n ∧ j.x.a ≤ 512 ∧ j.x.n ≤ 64 ∧ j.x.d ≤ 2 ∧ j.k ≤ j.x.n ∧ (true = true → 1 ≤ j.k) ∧ (true = false → j.k = 0)) ∧ j.x.n - j.k < n - k ∧ [(true, LOut.mk (AX.exit 0) [(7, AV.sl 0 0 0 j.x.n j.x.n false)] 1 [(0, ABlk.mk true 1 (AC.ints IntKind.i64 (rowN j.x.a j.x.d j.x.n)))])] = [(true, LOut.mk (AX.exit 0) [(7, AV.sl 0 0 0 n n false)] 1 [(0, ABlk.mk true 1 (AC.ints IntKind.i64 (rowN a d n)))])] ∧ (nI (↑a : Int) = nI (↑j.x.a : Int) ∧ nI (↑d : Int) = nI (↑j.x.d : Int) ∧ AV.sl 2 0 0 (k + 1) (k + 1) false = AV.sl 2 0 0 j.k j.k false ∧ nI (↑n : Int) = nI (↑j.x.n : Int) ∧ nI (IntKind.i64.wrap ((↑k : Int) + 1)) = nI (↑j.k : Int) ∧ True) ∧ ABlk.mk true 1 (AC.ints IntKind.i64 (List.take k
  (List.drop 0 (rowN a d k)) ++ List.take 1 (List.drop 0 [IntKind.i64.wrap ((↑a : Int) + IntKind.i64.wrap ((↑k : Int) * (↑d : Int)))]))) = ABlk.mk true 1 (AC.ints IntKind.i64 (rowN j.x.a j.x.d j.k)) ∧ True) False) ((AV.sl 0 0 0 k k false = AV.sl 0 0 0 n n false ∧ True) ∧ ABlk.mk true 1 (AC.ints IntKind.i64 (rowN a d k)) = ABlk.mk true 1 (AC.ints IntKind.i64 (rowN a d n)) ∧ True)
theorem rowA_c_e (a n d k : Nat) : some (rowA_c_V a n d k) = (some ((rowLp Go.Proofs.Tryz.prog).body sp Go.Proofs.Tryz.prog noBaseK (drP sp Go.Proofs.Tryz.prog noBaseK) noLo 40 ⟨⟨a, n, d⟩, k, true⟩)) := by kernel_rfl
def rowB_c_V (a n d : Nat) : Prop :=
  sp (decide (0 < (↑n : Int))) (∃ (j : RowI), (1 ≤ j.x.n ∧ j.x.a ≤ 512 ∧ j.x.n ≤ 64 ∧ j.x.d ≤ 2 ∧ j.k ≤ j.x.n ∧ (true = true → 1 ≤ j.k) ∧ (true = false → j.k = 0)) ∧ j.x.n - j.k < n - 0 ∧ [(true, LOut.mk (AX.exit 0) [(7, AV.sl 0 0 0 j.x.n j.x.n false)] 1 [(0, ABlk.mk true 1 (AC.ints IntKind.i64 (rowN j.x.a j.x.d j.x.n)))])] = [(true, LOut.mk (AX.exit 0) [(7, AV.sl 0 0 0 n n false)] 1 [(0, ABlk.mk true 1 (AC.ints IntKind.i64 (rowN a d n)))])] ∧ (nI (↑a : Int) = nI (↑j.x.a : Int) ∧ nI (↑d : Int) = nI (↑j.x.d : Int) ∧ AV.sl 1 0 0 1 1 false = AV.sl 1 0 0 j.k j.k false ∧ nI (↑n : Int) = nI (↑j.x.n : Int) ∧ nI 1 = nI (↑j.k : Int) ∧ True) ∧ ABlk.mk true 1 (AC.ints IntKind.i64 (List.take 1 (List.drop 0 [IntKind.i64.wrap ((↑a : Int) + IntKind.i64.wrap (0 * (↑d : Int)))]))) = ABlk.mk true 1 (AC.ints IntKind.i64 (rowN j.x.a j.x.d j.k)) ∧ True) ((AV.nils = AV.sl 0 0 0 n n false ∧ True) ∧ False ∧ True)
theorem rowB_c_e (a n d : Nat) : some (rowB_c_V a n d) = (some ((rowLp Go.Proofs.Tryz.prog).body sp Go.Proofs.Tryz.prog noBaseK (drP sp Go.Proofs.Tryz.prog noBaseK) noLo 40 ⟨⟨a, n, d⟩, 0, false⟩)) := by kernel_rfl
theorem rowN_len (a d k : Nat) : (rowN a d k).length = k := by simp [rowN]
theorem rowN_succ (a d k : Nat) : rowN a d (k + 1) = rowN a d k ++ [((a + k * d : Nat) : Int)] := by simp [rowN, List.range_succ]
set_option maxRecDepth 100000 in
theorem rowB_ok (a n d : Nat) (h1 : 1 ≤ n) (h2 : a ≤ 512) (h3 : n ≤ 64) (h4 : d ≤ 2) : rowB_c_V a n d := by
  unfold rowB_c_V
  refine spI (fun _ => ⟨⟨⟨a, n, d⟩, 1, true⟩, ⟨h1, h2, h3, h4, h1, fun _ => Nat.le_refl _, fun h => by cases h⟩, ?_, rfl, ⟨rfl, rfl, rfl, rfl, rfl, trivial⟩, ?_, trivial⟩) (fun h => ?_)
  · show n - 1 < n - 0; omega
  · have e1 : IntKind.wrap .i64 ((0 : Int) * (d : Int)) = 0 := by rw [Int.zero_mul]; rfl
    have e2 : IntKind.wrap .i64 ((a : Int) + 0) = (a : Int) := by rw [IntWalk.i64_in _ (by omega)]; omega
    rw [e1, e2]
    simp [rowN]
  · simp at h; omega
set_option maxRecDepth 100000 in
theorem rowA_ok (a n d k : Nat) (h1 : 1 ≤ n) (h2 : a ≤ 512) (h3 : n ≤ 64) (h4 : d ≤ 2) (h5 : k ≤ n) (h6 : 1 ≤ k) : rowA_c_V a n d k := by
  unfold rowA_c_V
  refine spI (fun h => ?_) (fun h => ?_)
  · have hk : k < n := by simp at h; omega
    have hkd : k * d ≤ 64 * 2 := Nat.mul_le_mul (by omega) h4
    refine spI (fun _ => ⟨⟨⟨a, n, d⟩, k + 1, true⟩, ⟨h1, h2, h3, h4, hk, fun _ => by show 1 ≤ k + 1; omega, fun h => by cases h⟩, ?_, rfl, ⟨rfl, rfl, ?_, rfl, ?_, trivial⟩, ?_, trivial⟩) (fun h => ?_)
    · show n - (k + 1) < n - k; omega
    · simp
    · rw [IntWalk.i64_in _ (by omega)]; simp
    · have e1 : IntKind.wrap .i64 ((k : Int) * (d : Int)) = ((k * d : Nat) : Int) := by rw [IntWalk.i64_in _ (by omega)]; simp
      have e2 : IntKind.wrap .i64 ((a : Int) + ((k * d : Nat) : Int)) = ((a + k * d : Nat) : Int) := by rw [IntWalk.i64_in _ (by omega)]; simp
      rw [e1, e2, rowN_succ]
      simp [rowN_len]
      exact List.take_of_length_le (by rw [rowN_len]; omega)
    · simp [rowN_len] at h; omega
  · have hk : k = n := by simp at h; omega
    subst hk
    simp
set_option maxRecDepth 100000 in
theorem rowLp_ok : (rowLp Go.Proofs.Tryz.prog).OK Go.Proofs.Tryz.prog := by
  refine Lp.ok_of (noBaseK_ok _) (drP_ok hmix _ (noBaseK_ok _)) (noLo_ok _) (by decide) 40 (fun i hi => ?_)
  obtain ⟨⟨a, n, d⟩, k, s⟩ := i
  obtain ⟨h1, h2, h3, h4, h5, h6, h7⟩ := hi
  cases s with
  | true =>
    rw [← Option.some.inj (rowA_c_e a n d k)]
    exact rowA_ok a n d k h1 h2 h3 h4 h5 (h6 rfl)
  | false =>
    have e : k = 0 := h7 rfl
    rw [e, ← Option.some.inj (rowB_c_e a n d)]
    exact rowB_ok a n d h1 h2 h3 h4
def rowC_c_V (x : RowX) : Prop :=
  same (loopOf Proofs.Tryz.prog F_monitor_row 0) (loopOf Proofs.Tryz.prog F_monitor_row 0) ∧ (1 ≤ (↑x.n : Int).toNat ∧ (↑x.a : Int).toNat ≤ 512 ∧ (↑x.n : Int).toNat ≤ 64 ∧ (↑x.d : Int).toNat ≤ 2 ∧ 0 ≤ (↑x.n : Int).toNat ∧ (false = true → 1 ≤ 0) ∧ (false = false → 0 = 0)) ∧ ((nI (↑x.a : Int) = nI (↑(↑x.a : Int).toNat : Int) ∧ nI (↑x.d : Int) = nI (↑(↑x.d : Int).toNat : Int) ∧ AV.nils = AV.nils ∧ nI (↑x.n : Int) = nI (↑(↑x.n : Int).toNat : Int) ∧ nI 0 = nI 0 ∧ True) ∧ True) ∧ ∃ (y : Unit), True ∧ [AV.sl 0 0 0 (↑x.n : Int).toNat (↑x.n : Int).toNat false] = [AV.sl 0 0 0 x.n x.n false] ∧ ABlk.mk true 1 (AC.ints IntKind.i64 (rowN (↑x.a : Int).toNat (↑x.d : Int).toNat (↑x.n : Int).toNat)) = ABlk.mk true 1 (AC.ints IntKind.i64 (rowN x.a x.d x.n)) ∧ True
theorem rowC_c_e (x : RowX) : some (rowC_c_V x) = (rowC.cond sp Go.Proofs.Tryz.prog (drP sp Go.Proofs.Tryz.prog) (forF F_monitor_row ((rowLp Go.Proofs.Tryz.prog).lo sp Go.Proofs.Tryz.prog (isLoop 3) (loopOf Go.Proofs.Tryz.prog F_monitor_row 0)) noLoops) noBaseK 40 2 x) := by kernel_rfl
theorem rowC_ok : rowC.OK Go.Proofs.Tryz.prog := by
  refine Con.by hmix (forF_ok (Lp.lo_ok rowLp_ok rfl) (noLoops_ok _)) (noBaseK_ok _) rowC_c_V rowC_c_e (fun x hx => ?_)
  obtain ⟨h1, h2, h3, h4⟩ := hx
  unfold rowC_c_V
  simp [same, h1, h2, h3, h4]
end Go.Proofs.YtilmgiompalggaaGreatDoor.W
/- A memory in frames, of whatever size, and windows of it: what is reckoned. No condition. -/
namespace Go.Proofs.YtilmgiompalggaaGreatDoor.W
open Go Go.RowKit Go.Eng
set_option maxRecDepth 100000
set_option linter.unusedVariables false
set_option linter.unusedSimpArgs false
/-! ### a memory: block b its record, b + 1 its frames, b + 2 its bytes -/
def ramB (b N : Nat) : ABlk := ⟨true, 1, .cells [.sl b 0 0 N N false]⟩
def frameB (b N : Nat) : ABlk := ⟨true, 1, .recs N (fun i => [.sl b (64 * i) 0 64 64 true])⟩
def frameP (b N : Nat) (p : Nat → Nat) : ABlk := ⟨true, 1, .recs N (fun i => [.sl b (64 * p i) 0 64 64 true])⟩
def byteB (l : List Int) : ABlk := ⟨true, 1, .ints .u8 l⟩
def rowB (l : List Int) : ABlk := ⟨true, 1, .ints .i64 l⟩
def sizeC : Con Nat Unit where
  f := F_ram_RAM_Size
  fit vs H := match vs with
    | [.ptr b _ _] => match H.get b with
      | some k => match k.c with
        | .cells [.sl b1 _ _ n _ _] => some ([b, b1], n)
        | _ => none
      | none => none
    | _ => none
  n0 := 2
  pre n := n ≤ 512
  args n := [.ptr 0 0 0]
  L0 n := [(0, ramB 1 n)]
  outs n := [(fun _ => True, fun _ => (.ret (.int .u32 (64 * n : Nat)), 2, [(0, ramB 1 n)]))]
/-! ### a window -/
structure WinX where
  N : Nat
  xs : List Int
/-- The k-th number of a row, as a place. -/
def nth (xs : List Int) (k : Nat) : Nat := (xs.getD k 0).toNat
def tkn (xs : List Int) (k j : Nat) : Bool := (xs.take k).contains (j : Int)
structure WinI where
  x : WinX
  k : Nat
  s : Bool
def winP (x : WinX) : Prop := 1 ≤ x.N ∧ x.N ≤ 512 ∧ 1 ≤ x.xs.length ∧ x.xs.length ≤ 512 ∧ (∀ y ∈ x.xs, 0 ≤ y ∧ y < x.N) ∧ x.xs.Nodup
def winL (P : Program) : Lp WinI where
  B := 4
  n := ntmpsOf P F_ram_RAM_Window
  code := loopOf P F_ram_RAM_Window 0
  fit s H := match s.get 0, s.get 29 with
    | .ptr b _ _, .sl b3 _ _ _ _ _ => match H.get b, H.get b3 with
      | some k, some k3 => match k.c, k3.c with
        | .cells [.sl _ _ _ n _ _], .ints _ l => some ⟨⟨n, l⟩, 0, false⟩
        | _, _ => none
      | _, _ => none
    | _, _ => none
  pre i := winP i.x ∧ i.k ≤ i.x.xs.length ∧ (i.s = true → 1 ≤ i.k) ∧ (i.s = false → i.k = 0)
  slots i := [(0, .ptr 0 0 0), (6, .ptr 4 0 0), (7, .sl 5 0 0 i.x.N i.x.N true), (29, .sl 3 0 0 i.x.xs.length i.x.xs.length false), (30, .int .i64 i.x.xs.length), (31, .int .i64 i.k)]
  nx i := bif i.s then 7 else 6
  L i := bif i.s then [(0, ramB 1 i.x.N), (1, frameB 2 i.x.N), (3, rowB i.x.xs), (4, ⟨true, 1, .cells [.sl 6 0 0 i.k i.k false]⟩), (5, ⟨true, 1, .recs i.x.N (fun j => [.bool (tkn i.x.xs i.k j)])⟩), (6, frameP 2 i.k (nth i.x.xs))]
    else [(0, ramB 1 i.x.N), (1, frameB 2 i.x.N), (3, rowB i.x.xs), (4, ⟨true, 1, .cells [.nils]⟩), (5, ⟨true, 1, .recs i.x.N (fun j => [.bool false])⟩)]
  m i := i.x.xs.length - i.k
  outs i := [(true, ⟨.exit 0, [(6, .ptr 4 0 0)], 7, [(0, ramB 1 i.x.N), (1, frameB 2 i.x.N), (3, rowB i.x.xs), (4, ramB 6 i.x.xs.length), (6, frameP 2 i.x.xs.length (nth i.x.xs))]⟩)]
  sh j := { j with s := true }
def winC : Con WinX Unit where
  f := F_ram_RAM_Window
  fit vs H := match vs with
    | [.ptr b _ _, .sl b3 _ _ _ _ _] => match H.get b, H.get b3 with
      | some k, some k3 => match k.c, k3.c with
        | .cells [.sl b1 _ _ n _ _], .ints _ l => match H.get b1 with
          | some k1 => match k1.c with
            | .recs _ f => match f 0 with
              | [.sl b2 _ _ _ _ _] => some ([b, b1, b2, b3], ⟨n, l⟩)
              | _ => none
            | _ => none
          | none => none
        | _, _ => none
      | _, _ => none
    | _ => none
  n0 := 4
  pre := winP
  args x := [.ptr 0 0 0, .sl 3 0 0 x.xs.length x.xs.length false]
  L0 x := [(0, ramB 1 x.N), (1, frameB 2 x.N), (3, rowB x.xs)]
  outs x := [(fun _ => True, fun _ => (.ret (.tup [.ptr 4 0 0, .int .i64 0]), 6, [(0, ramB 1 x.N), (1, frameB 2 x.N), (3, rowB x.xs), (4, ramB 5 x.xs.length), (5, frameP 2 x.xs.length (nth x.xs))]))]
end Go.Proofs.YtilmgiompalggaaGreatDoor.W
/- A memory in frames, of whatever size, and windows of it: the walks. No condition. -/
namespace Go.Proofs.YtilmgiompalggaaGreatDoor.W
open Go Go.RowKit Go.Eng
set_option maxRecDepth 100000
set_option linter.unusedVariables false
set_option linter.unusedSimpArgs false
def sizeC_c_V (n : Nat) : Prop :=
  ∃ (y : Unit), True ∧ [nU (IntKind.u32.wrap (IntKind.i64.wrap ((↑n : Int) * 64)))] = [nU (↑(64 * n) : Int)] ∧ bC [AV.sl 1 0 0 n n false] = bC [AV.sl 1 0 0 n n false] ∧ True
theorem sizeC_c_e (n : Nat) : some (sizeC_c_V n) = (sizeC.cond sp Go.Proofs.Tryz.prog (drP sp Go.Proofs.Tryz.prog) noLoops noBaseK 40 2 n) := by kernel_rfl
theorem sizeC_ok : sizeC.OK Go.Proofs.Tryz.prog := by
  refine Con.by hmix (noLoops_ok _) (noBaseK_ok _) sizeC_c_V sizeC_c_e (fun n hn => ?_)
  have h : n ≤ 512 := hn
  have e1 : IntKind.wrap .i64 ((n : Int) * 64) = ((64 * n : Nat) : Int) := by rw [IntWalk.i64_in _ (by omega)]; omega
  have e2 : IntKind.wrap .u32 ((64 * n : Nat) : Int) = ((64 * n : Nat) : Int) := IntWalk.u32_in _ (by omega)
  unfold sizeC_c_V
  rw [e1, e2]
  exact ⟨(), trivial, rfl, rfl, trivial⟩
def winA_c_V (N : Nat) (xs : List Int) (k : Nat) : Prop :=
  sp (decide ((↑k : Int) < (↑xs.length : Int))) (sp (decide ((↑k : Int) < (↑xs.length : Int)) && true) (sp (decide (0 + (↑k : Int).toNat + 0 < xs.length)) (sp (decide (xs.getD (0 + (↑k : Int).toNat + 0) 0 < 0)) False (sp (bif false then true else decide (xs.getD (0 + (↑k : Int).toNat + 0) 0 ≥ (↑N : Int))) False (sp (decide (0 ≤ xs.getD (0 + (↑k : Int).toNat + 0) 0) && decide (xs.getD (0 + (↑k : Int).toNat + 0) 0 < (↑N : Int)) && true) (sp (decide (0 + (xs.getD (0 + (↑k : Int).toNat + 0) 0).toNat < N) && true) (sp (bif false then true else tkn xs k (0 + (xs.getD (0 + (↑k : Int).toNat + 0) 0).toNat)) False (sp (decide (0 ≤ xs.getD (0 + (↑k : Int).toNat + 0) 0) && decide (xs.getD (0 + (↑k : Int).toNat + 0) 0 < (↑N : Int)) && true) (sp (decide (0 + (xs.getD (0 + (↑k : Int).toNat + 0) 0).toNat < N) && true && true) (sp (decide (0 + (xs.getD (0 + (↑k : Int).toNat + 0) 0).toNat < N) && true &&
  ((64 * (0 + (xs.getD (0 + (↑k : Int).toNat + 0) 0).toNat)).beq (64 * (0 + (xs.getD (0 + (↑k : Int).toNat + 0) 0).toNat)) && true && true && true && true)) (sp (decide (0 ≤ xs.getD (0 + (↑k : Int).toNat + 0) 0) && decide (xs.getD (0 + (↑k : Int).toNat + 0) 0 < (↑N : Int)) && true && ((0 + (xs.getD (0 + (↑k : Int).toNat + 0) 0).toNat).beq (0 + (xs.getD (0 + (↑k : Int).toNat + 0) 0).toNat) && true)) (sp (decide (xs.getD (0 + (↑k : Int).toNat + 0) 0 = xs.getD (0 + (↑k : Int).toNat + 0) 0)) (sp (N.beq N && N.beq N && true) (sp (k.beq k && k.beq k && true) (sp (k.beq k && k.beq k && true) (sp (decide (0 + k ≤ k) && true && true && true && true && decide ((k + 1) * 24 ≤ 140737488355328) && decide (k + 1 ≤ 9223372036854775807)) (∃ (j : WinI), ((1 ≤ j.x.N ∧ j.x.N ≤ 512 ∧ 1 ≤ j.x.xs.length ∧ j.x.xs.length ≤ 512 ∧ (∀ (y : Int), List.Mem y j.x.xs → 0 ≤ y ∧ y < (↑j.x.N : Int)) ∧ List.Pairwise (fun (x1
  x2 : Int) => x1 ≠ x2) j.x.xs) ∧ j.k ≤ j.x.xs.length ∧ (true = true → 1 ≤ j.k) ∧ (true = false → j.k = 0)) ∧ j.x.xs.length - j.k < xs.length - k ∧ [(true, LOut.mk (AX.exit 0) [(6, AV.ptr 4 0 0)] 7 [(0, bC [AV.sl 1 0 0 j.x.N j.x.N false]), (1, ABlk.mk true 1 (AC.recs j.x.N fun (i : Nat) => [AV.sl 2 (64 * i) 0 64 64 true])), (3, ABlk.mk true 1 (AC.ints IntKind.i64 j.x.xs)), (4, bC [AV.sl 6 0 0 j.x.xs.length j.x.xs.length false]), (6, ABlk.mk true 1 (AC.recs j.x.xs.length fun (i : Nat) => [AV.sl 2 (64 * nth j.x.xs i) 0 64 64 true]))])] = [(true, LOut.mk (AX.exit 0) [(6, AV.ptr 4 0 0)] 7 [(0, bC [AV.sl 1 0 0 N N false]), (1, ABlk.mk true 1 (AC.recs N fun (i : Nat) => [AV.sl 2 (64 * i) 0 64 64 true])), (3, ABlk.mk true 1 (AC.ints IntKind.i64 xs)), (4, bC [AV.sl 6 0 0 xs.length xs.length false]), (6, ABlk.mk true 1 (AC.recs xs.length fun (i : Nat) => [AV.sl 2 (64 * nth xs i) 0 64 64 true]))])] ∧
  (AV.ptr 0 0 0 = AV.ptr 0 0 0 ∧ AV.ptr 4 0 0 = AV.ptr 4 0 0 ∧ AV.sl 5 0 0 N N true = AV.sl 5 0 0 j.x.N j.x.N true ∧ AV.sl 3 0 0 xs.length xs.length false = AV.sl 3 0 0 j.x.xs.length j.x.xs.length false ∧ nI (↑xs.length : Int) = nI (↑j.x.xs.length : Int) ∧ nI (IntKind.i64.wrap ((↑k : Int) + 1)) = nI (↑j.k : Int) ∧ True) ∧ bC [AV.sl 1 0 0 N N false] = bC [AV.sl 1 0 0 j.x.N j.x.N false] ∧ (true = true ∧ 1 = 1 ∧ N = j.x.N ∧ ∀ (i : Nat), i < N → [AV.sl 2 (64 * i) 0 64 64 true] = [AV.sl 2 (64 * i) 0 64 64 true]) ∧ ABlk.mk true 1 (AC.ints IntKind.i64 xs) = ABlk.mk true 1 (AC.ints IntKind.i64 j.x.xs) ∧ bC (([AV.sl 6 0 0 k k false].set 0 (AV.sl 8 0 0 (k + 1) (k + 1) false))) = bC [AV.sl 8 0 0 j.k j.k false] ∧ (true = true ∧ 1 = 1 ∧ N = j.x.N ∧ ∀ (i : Nat), i < N → (bif i.beq (0 + (xs.getD (0 + (↑k : Int).toNat + 0) 0).toNat) then [AV.bool (tkn xs k i)].set 0 (AV.bool true) else [AV.bool (tkn xs k
  i)]) = [AV.bool (tkn j.x.xs j.k i)]) ∧ (true = true ∧ 1 = 1 ∧ k + (List.take 1 (List.drop 0 [AV.sl 2 (64 * (0 + (xs.getD (0 + (↑k : Int).toNat + 0) 0).toNat)) 0 64 64 true])).length / 1 = j.k ∧ ∀ (i : Nat), i < k + (List.take 1 (List.drop 0 [AV.sl 2 (64 * (0 + (xs.getD (0 + (↑k : Int).toNat + 0) 0).toNat)) 0 64 64 true])).length / 1 → (bif i.blt k then [AV.sl 2 (64 * nth xs (0 + i)) 0 64 64 true] else List.take 1 (List.drop ((i - k) * 1) (List.take 1 (List.drop 0 [AV.sl 2 (64 * (0 + (xs.getD (0 + (↑k : Int).toNat + 0) 0).toNat)) 0 64 64 true])))) = [AV.sl 2 (64 * nth j.x.xs i) 0 64 64 true]) ∧ True) False) False) False) False) False) False) False) False) False)) False) False))) False) False) ((AV.ptr 4 0 0 = AV.ptr 4 0 0 ∧ True) ∧ bC [AV.sl 1 0 0 N N false] = bC [AV.sl 1 0 0 N N false] ∧ (true = true ∧ 1 = 1 ∧ N = N ∧ ∀ (i : Nat), i < N → [AV.sl 2 (64 * i) 0 64 64 true] = [AV.sl 2 (64 *
  i) 0 64 64 true]) ∧ ABlk.mk true 1 (AC.ints IntKind.i64 xs) = ABlk.mk true 1 (AC.ints IntKind.i64 xs) ∧ bC [AV.sl 6 0 0 k k false] = bC [AV.sl 6 0 0 xs.length xs.length false] ∧ (true = true ∧ 1 = 1 ∧ k = xs.length ∧ ∀ (i : Nat), i < k → [AV.sl 2 (64 * nth xs i) 0 64 64 true] = [AV.sl 2 (64 * nth xs i) 0 64 64 true]) ∧ True)
theorem winA_c_e (N : Nat) (xs : List Int) (k : Nat) : some (winA_c_V N xs k) = (some ((winL Go.Proofs.Tryz.prog).body sp Go.Proofs.Tryz.prog noBaseK (drP sp Go.Proofs.Tryz.prog noBaseK) noLo 40 ⟨⟨N, xs⟩, k, true⟩)) := by kernel_rfl
def winB_c_V (N : Nat) (xs : List Int) : Prop :=
  sp (decide (0 < (↑xs.length : Int))) (sp (decide (0 < (↑xs.length : Int)) && true) (sp (decide (0 < xs.length)) (sp (decide (xs.getD 0 0 < 0)) False (sp (bif false then true else decide (xs.getD 0 0 ≥ (↑N : Int))) False (sp (decide (0 ≤ xs.getD 0 0) && decide (xs.getD 0 0 < (↑N : Int)) && true) (sp (decide (0 + (xs.getD 0 0).toNat < N) && true) (sp (decide (0 ≤ xs.getD 0 0) && decide (xs.getD 0 0 < (↑N : Int)) && true) (sp (decide (0 + (xs.getD 0 0).toNat < N) && true && true) (sp (decide (0 + (xs.getD 0 0).toNat < N) && true && ((64 * (0 + (xs.getD 0 0).toNat)).beq (64 * (0 + (xs.getD 0 0).toNat)) && true && true && true && true)) (sp (decide (0 ≤ xs.getD 0 0) && decide (xs.getD 0 0 < (↑N : Int)) && true && ((0 + (xs.getD 0 0).toNat).beq (0 + (xs.getD 0 0).toNat) && true)) (sp (decide (xs.getD 0 0 = xs.getD 0 0)) (sp (N.beq N && N.beq N && true) (∃ (j : WinI), ((1 ≤ j.x.N ∧ j.x.N ≤ 512 ∧
  1 ≤ j.x.xs.length ∧ j.x.xs.length ≤ 512 ∧ (∀ (y : Int), List.Mem y j.x.xs → 0 ≤ y ∧ y < (↑j.x.N : Int)) ∧ List.Pairwise (fun (x1 x2 : Int) => x1 ≠ x2) j.x.xs) ∧ j.k ≤ j.x.xs.length ∧ (true = true → 1 ≤ j.k) ∧ (true = false → j.k = 0)) ∧ j.x.xs.length - j.k < xs.length - 0 ∧ [(true, LOut.mk (AX.exit 0) [(6, AV.ptr 4 0 0)] 7 [(0, bC [AV.sl 1 0 0 j.x.N j.x.N false]), (1, ABlk.mk true 1 (AC.recs j.x.N fun (i : Nat) => [AV.sl 2 (64 * i) 0 64 64 true])), (3, ABlk.mk true 1 (AC.ints IntKind.i64 j.x.xs)), (4, bC [AV.sl 6 0 0 j.x.xs.length j.x.xs.length false]), (6, ABlk.mk true 1 (AC.recs j.x.xs.length fun (i : Nat) => [AV.sl 2 (64 * nth j.x.xs i) 0 64 64 true]))])] = [(true, LOut.mk (AX.exit 0) [(6, AV.ptr 4 0 0)] 7 [(0, bC [AV.sl 1 0 0 N N false]), (1, ABlk.mk true 1 (AC.recs N fun (i : Nat) => [AV.sl 2 (64 * i) 0 64 64 true])), (3, ABlk.mk true 1 (AC.ints IntKind.i64 xs)), (4, bC [AV.sl 6 0 0
  xs.length xs.length false]), (6, ABlk.mk true 1 (AC.recs xs.length fun (i : Nat) => [AV.sl 2 (64 * nth xs i) 0 64 64 true]))])] ∧ (AV.ptr 0 0 0 = AV.ptr 0 0 0 ∧ AV.ptr 4 0 0 = AV.ptr 4 0 0 ∧ AV.sl 5 0 0 N N true = AV.sl 5 0 0 j.x.N j.x.N true ∧ AV.sl 3 0 0 xs.length xs.length false = AV.sl 3 0 0 j.x.xs.length j.x.xs.length false ∧ nI (↑xs.length : Int) = nI (↑j.x.xs.length : Int) ∧ nI 1 = nI (↑j.k : Int) ∧ True) ∧ bC [AV.sl 1 0 0 N N false] = bC [AV.sl 1 0 0 j.x.N j.x.N false] ∧ (true = true ∧ 1 = 1 ∧ N = j.x.N ∧ ∀ (i : Nat), i < N → [AV.sl 2 (64 * i) 0 64 64 true] = [AV.sl 2 (64 * i) 0 64 64 true]) ∧ ABlk.mk true 1 (AC.ints IntKind.i64 xs) = ABlk.mk true 1 (AC.ints IntKind.i64 j.x.xs) ∧ bC [AV.sl 7 0 0 1 1 false] = bC [AV.sl 7 0 0 j.k j.k false] ∧ (true = true ∧ 1 = 1 ∧ N = j.x.N ∧ ∀ (i : Nat), i < N → (bif i.beq (0 + (xs.getD 0 0).toNat) then [AV.bool true] else [AV.bool false]) =
  [AV.bool (tkn j.x.xs j.k i)]) ∧ (true = true ∧ 1 = 1 ∧ (List.take 1 (List.drop 0 [AV.sl 2 (64 * (0 + (xs.getD 0 0).toNat)) 0 64 64 true])).length = j.k * 1 ∧ ∀ (i : Nat), i < j.k → ∀ (j_1 : Nat), j_1 < 1 → (List.take 1 (List.drop 0 [AV.sl 2 (64 * (0 + (xs.getD 0 0).toNat)) 0 64 64 true])).getD (i * 1 + j_1) AV.any = [AV.sl 2 (64 * nth j.x.xs i) 0 64 64 true].getD j_1 AV.any) ∧ True) False) False) False) False) False) False) False) False))) False) False) ((AV.ptr 4 0 0 = AV.ptr 4 0 0 ∧ True) ∧ bC [AV.sl 1 0 0 N N false] = bC [AV.sl 1 0 0 N N false] ∧ (true = true ∧ 1 = 1 ∧ N = N ∧ ∀ (i : Nat), i < N → [AV.sl 2 (64 * i) 0 64 64 true] = [AV.sl 2 (64 * i) 0 64 64 true]) ∧ ABlk.mk true 1 (AC.ints IntKind.i64 xs) = ABlk.mk true 1 (AC.ints IntKind.i64 xs) ∧ bC [AV.nils] = bC [AV.sl 6 0 0 xs.length xs.length false] ∧ False ∧ True)
theorem winB_c_e (N : Nat) (xs : List Int) : some (winB_c_V N xs) = (some ((winL Go.Proofs.Tryz.prog).body sp Go.Proofs.Tryz.prog noBaseK (drP sp Go.Proofs.Tryz.prog noBaseK) noLo 40 ⟨⟨N, xs⟩, 0, false⟩)) := by kernel_rfl
theorem take_no {xs : List Int} (hn : xs.Nodup) {k : Nat} (hk : k < xs.length) : (xs.take k).contains (xs.getD k 0) = false := by
  rcases hq : (xs.take k).contains (xs.getD k 0) with _ | _
  · rfl
  · exfalso
    have hm := List.contains_iff_mem.1 hq
    rw [List.mem_iff_getElem?] at hm
    obtain ⟨i, hi⟩ := hm
    rw [List.getElem?_take] at hi
    split at hi
    · rename_i hik
      rw [List.getD_eq_getElem?_getD, List.getElem?_eq_getElem hk] at hi
      simp only [Option.getD_some] at hi
      rw [List.getElem?_eq_getElem (by omega)] at hi
      exact (List.pairwise_iff_getElem.1 hn) i k (by omega) hk hik (Option.some.inj hi)
    · cases hi
theorem tkn_succ {xs : List Int} {k : Nat} (hk : k < xs.length) (h0 : 0 ≤ xs.getD k 0) (i : Nat) : tkn xs (k + 1) i = (bif Nat.beq i (nth xs k) then true else tkn xs k i) := by
  unfold tkn nth
  have e : xs.take (k + 1) = xs.take k ++ [xs.getD k 0] := by
    rw [List.take_add_one, List.getD_eq_getElem?_getD, List.getElem?_eq_getElem hk]; rfl
  rw [e]
  have hc : ∀ (a : List Int) (b x : Int), (a ++ [b]).contains x = (a.contains x || (x == b)) := fun a b x => by
    induction a with
    | nil => simp [List.contains_cons]; rfl
    | cons y a ih => rw [List.cons_append, List.contains_cons, List.contains_cons, ih, Bool.or_assoc]
  rw [hc]
  by_cases hi : i = (xs.getD k 0).toNat
  · have h1 : ((i : Int) == xs.getD k 0) = true := by rw [beq_iff_eq]; omega
    rw [h1, hi, Nat.beq_refl, Bool.or_true]; rfl
  · have h1 : ((i : Int) == xs.getD k 0) = false := by rw [beq_eq_false_iff_ne]; omega
    have h2 : Nat.beq i (xs.getD k 0).toNat = false := by
      rcases hq : Nat.beq i (xs.getD k 0).toNat with _ | _
      · rfl
      · exact absurd (Nat.eq_of_beq_eq_true hq) hi
    rw [h1, h2, Bool.or_false]; rfl
set_option maxRecDepth 100000 in
set_option maxHeartbeats 1000000 in
theorem winA_ok (N : Nat) (xs : List Int) (k : Nat) (hp : winP ⟨N, xs⟩) (h5 : k ≤ xs.length) (h6 : 1 ≤ k) : winA_c_V N xs k := by
  obtain ⟨h1, h2, h3, h4, hr, hn⟩ := hp
  have h1 : 1 ≤ N := h1
  have h2 : N ≤ 512 := h2
  have h3 : 1 ≤ xs.length := h3
  have h4 : xs.length ≤ 512 := h4
  have hr : ∀ y ∈ xs, 0 ≤ y ∧ y < (N : Int) := hr
  have hn : xs.Nodup := hn
  unfold winA_c_V
  by_cases hk : k < xs.length
  · have e0 : 0 + (k : Int).toNat + 0 = k := by omega
    have hm : xs.getD k 0 ∈ xs := by rw [List.getD_eq_getElem?_getD, List.getElem?_eq_getElem hk]; exact List.getElem_mem hk
    have hv := hr _ hm
    have ht := take_no hn hk
    have hs := tkn_succ hk hv.1
    have hnth : nth xs k = (xs.getD k 0).toNat := rfl
    have htk : tkn xs k (xs.getD k 0).toNat = false := by
      unfold tkn
      rw [show (((xs.getD k 0).toNat : Nat) : Int) = xs.getD k 0 by omega]
      exact ht
    simp only [e0]
    generalize hg : xs.getD k 0 = v at *
    have hlt : v.toNat < N := by have : v < (N : Int) := hv.2
                                 omega
    have h0 : 0 ≤ v := hv.1
    have h0' : v < (N : Int) := hv.2
    have e1 : IntKind.wrap .i64 ((k : Int) + 1) = ((k + 1 : Nat) : Int) := by rw [IntWalk.i64_in _ (by omega)]; omega
    have b0 : ∀ a : Nat, a.beq a = true := Nat.beq_refl
    have z0 : 0 + v.toNat = v.toNat := by omega
    have d1 : decide ((k : Int) < (xs.length : Int)) = true := decide_eq_true (by omega)
    have d2 : decide (k < xs.length) = true := decide_eq_true hk
    have d3 : decide (v < 0) = false := decide_eq_false (by omega)
    have d4 : decide (v ≥ (N : Int)) = false := decide_eq_false (by omega)
    have d5 : decide (0 ≤ v) = true := decide_eq_true h0
    have d6 : decide (v < (N : Int)) = true := decide_eq_true h0'
    have d7 : decide (v.toNat < N) = true := decide_eq_true hlt
    have d8 : decide (0 + k ≤ k) = true := decide_eq_true (by omega)
    have d9 : decide ((k + 1) * 24 ≤ 140737488355328) = true := decide_eq_true (by omega)
    have d10 : decide (k + 1 ≤ 9223372036854775807) = true := decide_eq_true (by omega)
    have d11 : decide (v = v) = true := decide_eq_true rfl
    simp only [z0, d1, d2, d3, d4, d5, d6, d7, d8, d9, d10, d11, b0, htk, e1, sp, Bool.and_self, Bool.and_true, cond_false]
    refine ⟨⟨⟨N, xs⟩, k + 1, true⟩, ⟨⟨h1, h2, h3, h4, hr, hn⟩, hk, fun _ => by show 1 ≤ k + 1; omega, fun h => by cases h⟩, (by show xs.length - (k + 1) < xs.length - k; omega), ?_⟩
    repeat' (first | trivial | exact rfl | exact fun _ _ => trivial | exact fun _ _ => rfl | apply And.intro | (simp; done))
    all_goals intro i hi
    · show _ = [AV.bool (tkn xs (k + 1) i)]
      rw [hs i, hnth]
      cases Nat.beq i v.toNat <;> rfl
    · have hi : i < k + 1 := by simpa using hi
      show _ = [AV.sl 2 (64 * nth xs i) 0 64 64 true]
      by_cases hik : i < k
      · rw [blt_true hik, Nat.zero_add]; rfl
      · obtain rfl : i = k := by omega
        rw [blt_false hik, Nat.sub_self, hnth]; rfl
  · obtain rfl : k = xs.length := by omega
    have d1 : decide ((xs.length : Int) < (xs.length : Int)) = false := decide_eq_false (by omega)
    simp only [d1, sp]
    repeat' (first | trivial | exact rfl | exact fun _ _ => trivial | exact fun _ _ => rfl | apply And.intro | (simp; done))
set_option maxRecDepth 100000 in
set_option maxHeartbeats 1000000 in
theorem winB_ok (N : Nat) (xs : List Int) (hp : winP ⟨N, xs⟩) : winB_c_V N xs := by
  obtain ⟨h1, h2, h3, h4, hr, hn⟩ := hp
  have h1 : 1 ≤ N := h1
  have h2 : N ≤ 512 := h2
  have h3 : 1 ≤ xs.length := h3
  have h4 : xs.length ≤ 512 := h4
  have hr : ∀ y ∈ xs, 0 ≤ y ∧ y < (N : Int) := hr
  have hn : xs.Nodup := hn
  unfold winB_c_V
  have hk : 0 < xs.length := h3
  have hm : xs.getD 0 0 ∈ xs := by rw [List.getD_eq_getElem?_getD, List.getElem?_eq_getElem hk]; exact List.getElem_mem hk
  have hv := hr _ hm
  have hs := tkn_succ hk hv.1
  have hnth : nth xs 0 = (xs.getD 0 0).toNat := rfl
  generalize hg : xs.getD 0 0 = v at *
  have h0 : 0 ≤ v := hv.1
  have h0' : v < (N : Int) := hv.2
  have hlt : v.toNat < N := by omega
  have b0 : ∀ a : Nat, a.beq a = true := Nat.beq_refl
  have z0 : 0 + v.toNat = v.toNat := by omega
  have d1 : decide ((0 : Int) < (xs.length : Int)) = true := decide_eq_true (by omega)
  have d2 : decide (0 < xs.length) = true := decide_eq_true hk
  have d3 : decide (v < 0) = false := decide_eq_false (by omega)
  have d4 : decide (v ≥ (N : Int)) = false := decide_eq_false (by omega)
  have d5 : decide (0 ≤ v) = true := decide_eq_true h0
  have d6 : decide (v < (N : Int)) = true := decide_eq_true h0'
  have d7 : decide (v.toNat < N) = true := decide_eq_true hlt
  have d11 : decide (v = v) = true := decide_eq_true rfl
  simp only [z0, d1, d2, d3, d4, d5, d6, d7, d11, b0, sp, Bool.and_self, Bool.and_true, cond_false]
  refine ⟨⟨⟨N, xs⟩, 1, true⟩, ⟨⟨h1, h2, h3, h4, hr, hn⟩, h3, fun _ => Nat.le_refl _, fun h => by cases h⟩, (by show xs.length - 1 < xs.length - 0; omega), ?_⟩
  repeat' (first | trivial | exact rfl | exact fun _ _ => trivial | exact fun _ _ => rfl | apply And.intro | (simp; done))
  all_goals intro i hi
  · show _ = [AV.bool (tkn xs 1 i)]
    rw [show (1 : Nat) = 0 + 1 from rfl, hs i, hnth]
    have : tkn xs 0 i = false := rfl
    rw [this]
    cases Nat.beq i v.toNat <;> rfl
  · intro j hj
    have hi : i < 1 := hi
    obtain rfl : i = 0 := by omega
    obtain rfl : j = 0 := by omega
    show _ = [AV.sl 2 (64 * nth xs 0) 0 64 64 true].getD 0 AV.any
    rw [hnth]; rfl
set_option maxRecDepth 100000 in
theorem winL_ok : (winL Go.Proofs.Tryz.prog).OK Go.Proofs.Tryz.prog := by
  refine Lp.ok_of (noBaseK_ok _) (drP_ok hmix _ (noBaseK_ok _)) (noLo_ok _) (by decide) 40 (fun i hi => ?_)
  obtain ⟨⟨N, xs⟩, k, s⟩ := i
  obtain ⟨hp, h5, h6, h7⟩ := hi
  cases s with
  | true =>
    rw [← Option.some.inj (winA_c_e N xs k)]
    exact winA_ok N xs k hp h5 (h6 rfl)
  | false =>
    have e : k = 0 := h7 rfl
    rw [e, ← Option.some.inj (winB_c_e N xs)]
    exact winB_ok N xs hp
def winC_c_V (x : WinX) : Prop :=
  x.N.le 512 ∧ [AV.ptr 0 0 0] = [AV.ptr 0 0 0] ∧ (some (bC [AV.sl 1 0 0 x.N x.N false]) = some (bC [AV.sl 1 0 0 x.N x.N false]) ∧ True) ∧ (∀ (y : Unit), True → sp ((↑(64 * x.N) : Int) == 0) (∃ (y : Unit), True ∧ False) (sp ((↑x.xs.length : Int) == 0) (∃ (y : Unit), True ∧ False) (sp (bif false then true else decide ((↑x.xs.length : Int) > 512)) (∃ (y : Unit), True ∧ False) (sp (decide ((↑x.N : Int) ≤ (↑x.N : Int)) && decide (1 * (↑x.N : Int) ≤ 281474976710656) && decide ((↑x.N : Int) ≤ 9223372036854775807)) (same (loopOf Proofs.Tryz.prog F_ram_RAM_Window 0) (loopOf Proofs.Tryz.prog F_ram_RAM_Window 0) ∧ ((1 ≤ x.N ∧ x.N ≤ 512 ∧ 1 ≤ x.xs.length ∧ x.xs.length ≤ 512 ∧ (∀ (y : Int), List.Mem y x.xs → 0 ≤ y ∧ y < (↑x.N : Int)) ∧ List.Pairwise (fun (x1 x2 : Int) => x1 ≠ x2) x.xs) ∧ 0 ≤ x.xs.length ∧ (false = true → 1 ≤ 0) ∧ (false = false → 0 = 0)) ∧ ((AV.ptr 0 0 0 = AV.ptr 0 0 0 ∧ AV.ptr 4 0 0 =
  AV.ptr 4 0 0 ∧ AV.sl 5 0 0 (↑x.N : Int).toNat (↑x.N : Int).toNat true = AV.sl 5 0 0 x.N x.N true ∧ AV.sl 3 0 0 x.xs.length x.xs.length false = AV.sl 3 0 0 x.xs.length x.xs.length false ∧ nI (↑x.xs.length : Int) = nI (↑x.xs.length : Int) ∧ nI 0 = nI 0 ∧ True) ∧ bC [AV.sl 1 0 0 x.N x.N false] = bC [AV.sl 1 0 0 x.N x.N false] ∧ (true = true ∧ 1 = 1 ∧ x.N = x.N ∧ ∀ (i : Nat), i < x.N → [AV.sl 2 (64 * i) 0 64 64 true] = [AV.sl 2 (64 * i) 0 64 64 true]) ∧ ABlk.mk true 1 (AC.ints IntKind.i64 x.xs) = ABlk.mk true 1 (AC.ints IntKind.i64 x.xs) ∧ bC [AV.nils] = bC [AV.nils] ∧ (true = true ∧ 1 = 1 ∧ (↑x.N : Int).toNat = x.N ∧ ∀ (i : Nat), i < (↑x.N : Int).toNat → [AV.bool false] = [AV.bool false]) ∧ True) ∧ ∃ (y : Unit), True ∧ [AV.tup [AV.ptr 4 0 0, nI 0]] = [AV.tup [AV.ptr 4 0 0, nI 0]] ∧ bC [AV.sl 1 0 0 x.N x.N false] = bC [AV.sl 1 0 0 x.N x.N false] ∧ (true = true ∧ 1 = 1 ∧ x.N = x.N ∧ ∀ (i :
  Nat), i < x.N → [AV.sl 2 (64 * i) 0 64 64 true] = [AV.sl 2 (64 * i) 0 64 64 true]) ∧ ABlk.mk true 1 (AC.ints IntKind.i64 x.xs) = ABlk.mk true 1 (AC.ints IntKind.i64 x.xs) ∧ bC [AV.sl 6 0 0 x.xs.length x.xs.length false] = bC [AV.sl 6 0 0 x.xs.length x.xs.length false] ∧ (true = true ∧ 1 = 1 ∧ x.xs.length = x.xs.length ∧ ∀ (i : Nat), i < x.xs.length → [AV.sl 2 (64 * nth x.xs i) 0 64 64 true] = [AV.sl 2 (64 * nth x.xs i) 0 64 64 true]) ∧ True) False)))) ∧ True
theorem winC_c_e (x : WinX) : some (winC_c_V x) = (winC.cond sp Go.Proofs.Tryz.prog (drP sp Go.Proofs.Tryz.prog) (forF F_ram_RAM_Window ((winL Go.Proofs.Tryz.prog).lo sp Go.Proofs.Tryz.prog (isLoop 8) (loopOf Go.Proofs.Tryz.prog F_ram_RAM_Window 0)) noLoops) (sizeC.orc sp) 40 2 x) := by kernel_rfl
set_option maxRecDepth 100000 in
theorem winC_ok : winC.OK Go.Proofs.Tryz.prog := by
  refine Con.by hmix (forF_ok (Lp.lo_ok winL_ok rfl) (noLoops_ok _)) (Con.orc_ok sizeC_ok) winC_c_V winC_c_e (fun x hx => ?_)
  obtain ⟨N, xs⟩ := x
  obtain ⟨h1, h2, h3, h4, hr, hn⟩ := hx
  have h1 : 1 ≤ N := h1
  have h2 : N ≤ 512 := h2
  have h3 : 1 ≤ xs.length := h3
  have h4 : xs.length ≤ 512 := h4
  unfold winC_c_V
  have d1 : (((64 * N : Nat) : Int) == 0) = false := by rw [beq_eq_false_iff_ne]; omega
  have d2 : ((xs.length : Int) == 0) = false := by rw [beq_eq_false_iff_ne]; omega
  have d3 : decide ((xs.length : Int) > 512) = false := decide_eq_false (by omega)
  have d4 : decide ((N : Int) ≤ (N : Int)) = true := decide_eq_true (Int.le_refl _)
  have d5 : decide (1 * (N : Int) ≤ 281474976710656) = true := decide_eq_true (by omega)
  have d6 : decide ((N : Int) ≤ 9223372036854775807) = true := decide_eq_true (by omega)
  simp only [d1, d2, d3, d4, d5, d6, sp, cond_false, Bool.and_self]
  refine ⟨h2, trivial, ?_, fun _ _ => ⟨rfl, ⟨⟨h1, h2, h3, h4, hr, hn⟩, Nat.zero_le _, (fun h => by cases h), (fun _ => trivial)⟩, ?_, (), trivial, ?_⟩, trivial⟩
  all_goals repeat' (first | trivial | exact rfl | exact fun _ _ => trivial | exact fun _ _ => rfl | apply And.intro | (simp; done))
end Go.Proofs.YtilmgiompalggaaGreatDoor.W
/- Bytes that are laid into a memory, at whatever place: what is reckoned. No condition. -/
namespace Go.Proofs.YtilmgiompalggaaGreatDoor.W
open Go Go.RowKit Go.Eng
set_option maxRecDepth 100000
set_option linter.unusedVariables false
set_option linter.unusedSimpArgs false
structure WiX where
  N : Nat
  a : Nat
  n : Nat
  al : Nat
/-- Do so many bytes stand from there on, at a place that al divides? -/
def wiB (x : WiX) : Bool := decide (x.a % x.al = 0) && (decide (x.n ≤ 64 * x.N) && decide (x.a + x.n ≤ 64 * x.N))
def wiC : Con WiX Unit where
  f := F_ram_RAM_within
  fit vs H := match vs with
    | [.ptr b _ _, .int _ a, .int _ n, .int _ al] => match H.get b with
      | some k => match k.c with
        | .cells [.sl b1 _ _ m _ _] => some ([b, b1], ⟨m, a.toNat, n.toNat, al.toNat⟩)
        | _ => none
      | none => none
    | _ => none
  n0 := 2
  pre x := x.N ≤ 512 ∧ x.a < 4294967296 ∧ x.n ≤ 1048576 ∧ 1 ≤ x.al ∧ x.al ≤ 4
  args x := [.ptr 0 0 0, .int .u32 x.a, .int .i64 x.n, .int .i64 x.al]
  L0 x := [(0, ramB 1 x.N)]
  outs x := [(fun _ => True, fun _ => (.ret (.bool (wiB x)), 2, [(0, ramB 1 x.N)]))]
structure AtX where
  N : Nat
  a : Nat
  all : List Int
def atC : Con AtX Unit where
  f := F_ram_RAM_at
  fit vs H := match vs with
    | [.ptr b _ _, .int _ a] => match H.get b with
      | some k => match k.c with
        | .cells [.sl b1 _ _ n _ _] => match H.get b1 with
          | some k1 => match k1.c with
            | .recs _ f => match f 0 with
              | [.sl b2 _ _ _ _ _] => match H.get b2 with
                | some k2 => match k2.c with
                  | .ints _ l => some ([b, b1, b2], ⟨n, a.toNat, l⟩)
                  | _ => none
                | none => none
              | _ => none
            | _ => none
          | none => none
        | _ => none
      | none => none
    | _ => none
  n0 := 3
  pre x := x.N ≤ 512 ∧ x.a < 64 * x.N
  args x := [.ptr 0 0 0, .int .u32 x.a]
  L0 x := [(0, ramB 1 x.N), (1, frameB 2 x.N), (2, byteB x.all)]
  outs x := [(fun _ => True, fun _ => (.ret (.sl 2 (64 * (x.a / 64) + x.a % 64) 0 (64 - x.a % 64) (64 - x.a % 64) true), 3, [(0, ramB 1 x.N), (1, frameB 2 x.N), (2, byteB x.all)]))]
structure LayX where
  N : Nat
  a : Nat
  al : Nat
  all : List Int
  bs : List Int
/-- So many of the bytes are laid. -/
def midL (x : LayX) (k : Nat) : List Int := x.all.take x.a ++ x.bs.take k ++ x.all.drop (x.a + k)
structure LayI where
  x : LayX
  k : Nat
def atF (b : Nat) : AV := .fn (.func F_ram_RAM_at) [.ptr b 0 0] []
def withinF (b : Nat) : AV := .fn (.func F_ram_RAM_within) [.ptr b 0 0] []
def layFit (b b3 : Nat) (a al : Int) (H : AH) : Option (List Nat × LayX) := match H.get b with
  | some k => match k.c with
    | .cells [.sl b1 _ _ n _ _] => match H.get b1 with
      | some k1 => match k1.c with
        | .recs _ f => match f 0 with
          | [.sl b2 _ _ _ _ _] => match H.get b2, H.get b3 with
            | some k2, some k3 => match k2.c, k3.c with
              | .ints _ l, .ints _ bs => some ([b, b1, b2, b3], ⟨n, a.toNat, al.toNat, l, bs⟩)
              | _, _ => none
            | _, _ => none
          | _ => none
        | _ => none
      | none => none
    | _ => none
  | none => none
def layL (P : Program) : Lp LayI where
  B := 4
  n := ntmpsOf P F_ram_lay
  code := loopOf P F_ram_lay 0
  fit s H := match s.get 4, s.get 1, s.get 0 with
    | .fn _ [.ptr b _ _] _, .sl b3 _ _ _ _ _, .int _ a => (layFit b b3 a 1 H).map fun p => ⟨p.2, 0⟩
    | _, _, _ => none
  pre i := i.x.N ≤ 512 ∧ i.x.all.length = 64 * i.x.N ∧ i.x.a + i.x.bs.length ≤ 64 * i.x.N ∧ i.k ≤ i.x.bs.length
  slots i := [(0, .int .u32 (i.x.a + i.k : Nat)), (1, .sl 3 i.k 0 (i.x.bs.length - i.k) (i.x.bs.length - i.k) true), (4, atF 0)]
  nx i := 4
  L i := [(0, ramB 1 i.x.N), (1, frameB 2 i.x.N), (2, byteB (midL i.x i.k)), (3, byteB i.x.bs)]
  m i := i.x.bs.length - i.k
  outs i := [(true, ⟨.exit 0, [], 4, [(0, ramB 1 i.x.N), (1, frameB 2 i.x.N), (2, byteB (midL i.x i.x.bs.length)), (3, byteB i.x.bs)]⟩)]
def layOut (x : LayX) : Outs Unit := [(fun _ => wiB ⟨x.N, x.a, x.bs.length, x.al⟩ = true, fun _ => (.ret (.bool true), 4, [(0, ramB 1 x.N), (1, frameB 2 x.N), (2, byteB (midL x x.bs.length)), (3, byteB x.bs)])),
  (fun _ => wiB ⟨x.N, x.a, x.bs.length, x.al⟩ = false, fun _ => (.ret (.bool false), 4, [(0, ramB 1 x.N), (1, frameB 2 x.N), (2, byteB x.all), (3, byteB x.bs)]))]
def layP (x : LayX) : Prop := x.N ≤ 512 ∧ x.all.length = 64 * x.N ∧ x.a < 4294967296 ∧ x.bs.length ≤ 1048576 ∧ 1 ≤ x.al ∧ x.al ≤ 4
def layC : Con LayX Unit where
  f := F_ram_lay
  fit vs H := match vs with
    | [.int _ a, .sl b3 _ _ _ _ _, .int _ al, _, .fn _ [.ptr b _ _] _] => layFit b b3 a al H
    | _ => none
  n0 := 4
  pre := layP
  args x := [.int .u32 x.a, .sl 3 0 0 x.bs.length x.bs.length true, .int .i64 x.al, withinF 0, atF 0]
  L0 x := [(0, ramB 1 x.N), (1, frameB 2 x.N), (2, byteB x.all), (3, byteB x.bs)]
  outs := layOut
def fillC : Con LayX Unit where
  f := F_ram_RAM_Fill
  fit vs H := match vs with
    | [.ptr b _ _, .int _ a, .sl b3 _ _ _ _ _] => layFit b b3 a 1 H
    | _ => none
  n0 := 4
  pre x := layP x ∧ x.al = 1
  args x := [.ptr 0 0 0, .int .u32 x.a, .sl 3 0 0 x.bs.length x.bs.length true]
  L0 x := [(0, ramB 1 x.N), (1, frameB 2 x.N), (2, byteB x.all), (3, byteB x.bs)]
  outs := layOut
/-- A word is laid, or it is not: some bytes. -/
structure SwX where
  N : Nat
  a : Nat
  w : Int
  all : List Int
def swC : Con SwX (List Int) where
  f := F_ram_RAM_SetWord
  fit vs H := match vs with
    | [.ptr b _ _, .int _ a, .int _ w] => match H.get b with
      | some k => match k.c with
        | .cells [.sl b1 _ _ n _ _] => match H.get b1 with
          | some k1 => match k1.c with
            | .recs _ f => match f 0 with
              | [.sl b2 _ _ _ _ _] => match H.get b2 with
                | some k2 => match k2.c with
                  | .ints _ l => some ([b, b1, b2], ⟨n, a.toNat, w, l⟩)
                  | _ => none
                | none => none
              | _ => none
            | _ => none
          | none => none
        | _ => none
      | none => none
    | _ => none
  n0 := 3
  pre x := x.N ≤ 512 ∧ x.all.length = 64 * x.N ∧ x.a < 4294967296
  args x := [.ptr 0 0 0, .int .u32 x.a, .int .u32 x.w]
  L0 x := [(0, ramB 1 x.N), (1, frameB 2 x.N), (2, byteB x.all)]
  outs x := [(fun y => y.length = 64 * x.N, fun y => (.ret (.bool true), 3, [(0, ramB 1 x.N), (1, frameB 2 x.N), (2, byteB y)])), (fun y => y.length = 64 * x.N, fun y => (.ret (.bool false), 3, [(0, ramB 1 x.N), (1, frameB 2 x.N), (2, byteB y)]))]
end Go.Proofs.YtilmgiompalggaaGreatDoor.W
/- Bytes that are laid into a memory, at whatever place: the walks. No condition. -/
namespace Go.Proofs.YtilmgiompalggaaGreatDoor.W
open Go Go.RowKit Go.Eng
set_option maxRecDepth 100000
set_option linter.unusedVariables false
set_option linter.unusedSimpArgs false
def wiC_c_V (x : WiX) : Prop :=
  sp (!(↑x.al : Int) == 0) (sp ((IntKind.i64.wrap (↑x.a : Int)).tmod (↑x.al : Int) == 0) (x.N.le 512 ∧ [AV.ptr 0 0 0] = [AV.ptr 0 0 0] ∧ (some (bC [AV.sl 1 0 0 x.N x.N false]) = some (bC [AV.sl 1 0 0 x.N x.N false]) ∧ True) ∧ (∀ (y : Unit), True → sp (bif true then decide ((↑x.n : Int) ≤ IntKind.i64.wrap (↑(64 * x.N) : Int)) else false) (x.N.le 512 ∧ [AV.ptr 0 0 0] = [AV.ptr 0 0 0] ∧ (some (bC [AV.sl 1 0 0 x.N x.N false]) = some (bC [AV.sl 1 0 0 x.N x.N false]) ∧ True) ∧ (∀ (y : Unit), True → ∃ (y : Unit), True ∧ [AV.bool (bif true then decide (IntKind.i64.wrap (↑x.a : Int) ≤ IntKind.i64.wrap (IntKind.i64.wrap (↑(64 * x.N) : Int) - (↑x.n : Int))) else false)] = [AV.bool (wiB x)] ∧ bC [AV.sl 1 0 0 x.N x.N false] = bC [AV.sl 1 0 0 x.N x.N false] ∧ True) ∧ True) (∃ (y : Unit), True ∧ [AV.bool false] = [AV.bool (wiB x)] ∧ bC [AV.sl 1 0 0 x.N x.N false] = bC [AV.sl 1 0 0 x.N x.N false] ∧ True))
  ∧ True) (∃ (y : Unit), True ∧ [AV.bool false] = [AV.bool (wiB x)] ∧ bC [AV.sl 1 0 0 x.N x.N false] = bC [AV.sl 1 0 0 x.N x.N false] ∧ True)) False
theorem wiC_c_e (x : WiX) : some (wiC_c_V x) = (wiC.cond sp Go.Proofs.Tryz.prog (drP sp Go.Proofs.Tryz.prog) noLoops (sizeC.orc sp) 40 2 x) := by kernel_rfl
theorem tmod_nat (a b : Nat) : (a : Int).tmod (b : Int) = ((a % b : Nat) : Int) := by
  rw [Int.tmod_eq_emod_of_nonneg (by omega)]; rfl
theorem tdiv_nat (a b : Nat) : (a : Int).tdiv (b : Int) = ((a / b : Nat) : Int) := by
  rw [Int.tdiv_eq_ediv_of_nonneg (by omega)]; rfl
set_option maxRecDepth 100000 in
theorem wiC_ok : wiC.OK Go.Proofs.Tryz.prog := by
  refine Con.by hmix (noLoops_ok _) (Con.orc_ok sizeC_ok) wiC_c_V wiC_c_e (fun x hx => ?_)
  obtain ⟨N, a, n, al⟩ := x
  obtain ⟨h1, h2, h3, h4, h5⟩ := hx
  have h1 : N ≤ 512 := h1
  have h2 : a < 4294967296 := h2
  have h3 : n ≤ 1048576 := h3
  have h4 : 1 ≤ al := h4
  have h5 : al ≤ 4 := h5
  unfold wiC_c_V wiB
  have e1 : IntKind.wrap .i64 (a : Int) = (a : Int) := IntWalk.i64_in _ (by omega)
  have e2 : IntKind.wrap .i64 ((64 * N : Nat) : Int) = ((64 * N : Nat) : Int) := IntWalk.i64_in _ (by omega)
  have e3 : IntKind.wrap .i64 (((64 * N : Nat) : Int) - (n : Int)) = ((64 * N : Nat) : Int) - (n : Int) := IntWalk.i64_in _ (by omega)
  have d0 : (!((al : Int) == 0)) = true := by
    have : ((al : Int) == 0) = false := by rw [beq_eq_false_iff_ne]; omega
    rw [this]; rfl
  have d1 : (((a % al : Nat) : Int) == 0) = decide (a % al = 0) := by
    by_cases h : a % al = 0
    · rw [h]; rfl
    · rw [decide_eq_false h, beq_eq_false_iff_ne]; omega
  have d2 : decide ((n : Int) ≤ ((64 * N : Nat) : Int)) = decide (n ≤ 64 * N) := by
    congr 1; rw [eq_iff_iff]; omega
  have d3 : decide ((a : Int) ≤ ((64 * N : Nat) : Int) - (n : Int)) = decide (a + n ≤ 64 * N) := by
    congr 1; rw [eq_iff_iff]; omega
  simp only [e1, e2, e3, tmod_nat, d0, d1, d2, d3, cond_true, sp]
  have hle : N.le 512 := h1
  generalize decide (a % al = 0) = p
  generalize decide (n ≤ 64 * N) = q
  generalize decide (a + n ≤ 64 * N) = r
  cases p <;> cases q <;> cases r <;> repeat' (first | trivial | exact hle | exact rfl | refine ⟨(), trivial, ?_⟩ | apply And.intro | intro _ _)
def atC_c_V (x : AtX) : Prop :=
  sp (decide (IntKind.u32.wrap ((↑x.a : Int).tdiv 64) < (↑x.N : Int)) && true) (sp (decide (0 + (IntKind.u32.wrap ((↑x.a : Int).tdiv 64)).toNat < x.N) && true) (sp (decide (((↑x.a : Int).tmod 64).toNat ≤ 64) && true && true && true && true) (∃ (y : Unit), True ∧ [AV.sl 2 (64 * (0 + (IntKind.u32.wrap ((↑x.a : Int).tdiv 64)).toNat) + ((↑x.a : Int).tmod 64).toNat) 0 (64 - ((↑x.a : Int).tmod 64).toNat) (64 - ((↑x.a : Int).tmod 64).toNat) true] = [AV.sl 2 (64 * (x.a / 64) + x.a % 64) 0 (64 - x.a % 64) (64 - x.a % 64) true] ∧ bC [AV.sl 1 0 0 x.N x.N false] = bC [AV.sl 1 0 0 x.N x.N false] ∧ (true = true ∧ 1 = 1 ∧ x.N = x.N ∧ ∀ (i : Nat), i < x.N → [AV.sl 2 (64 * i) 0 64 64 true] = [AV.sl 2 (64 * i) 0 64 64 true]) ∧ bW x.all = bW x.all ∧ True) False) False) False
theorem atC_c_e (x : AtX) : some (atC_c_V x) = (atC.cond sp Go.Proofs.Tryz.prog (drP sp Go.Proofs.Tryz.prog) noLoops noBaseK 40 2 x) := by kernel_rfl
set_option maxRecDepth 100000 in
theorem atC_ok : atC.OK Go.Proofs.Tryz.prog := by
  refine Con.by hmix (noLoops_ok _) (noBaseK_ok _) atC_c_V atC_c_e (fun x hx => ?_)
  obtain ⟨N, a, all⟩ := x
  have h1 : N ≤ 512 := hx.1
  have h2 : a < 64 * N := hx.2
  unfold atC_c_V
  have e1 : (a : Int).tdiv 64 = ((a / 64 : Nat) : Int) := tdiv_nat a 64
  have e2 : (a : Int).tmod 64 = ((a % 64 : Nat) : Int) := tmod_nat a 64
  have e3 : IntKind.wrap .u32 ((a / 64 : Nat) : Int) = ((a / 64 : Nat) : Int) := IntWalk.u32_in _ (by omega)
  have d1 : decide (((a / 64 : Nat) : Int) < (N : Int)) = true := decide_eq_true (by omega)
  have d2 : decide (0 + a / 64 < N) = true := decide_eq_true (by omega)
  have d3 : decide (a % 64 ≤ 64) = true := decide_eq_true (by omega)
  simp only [e1, e2, e3, Int.toNat_natCast, d1, d2, d3, Bool.and_self, sp]
  refine ⟨(), trivial, ?_, ?_⟩
  · rw [Nat.zero_add]
  · repeat' (first | trivial | exact rfl | exact fun _ _ => trivial | exact fun _ _ => rfl | refine ⟨(), trivial, ?_⟩ | apply And.intro | (simp; done))
def layL_c_V (i : LayI) : Prop :=
  sp (decide ((↑(i.x.bs.length - i.k) : Int) > 0)) ((i.x.N ≤ 512 ∧ (↑(i.x.a + i.k) : Int).toNat < 64 * i.x.N) ∧ [AV.ptr 0 0 0] ++ [nU (↑(i.x.a + i.k) : Int)] ++ [] = [AV.ptr 0 0 0, nU (↑(↑(i.x.a + i.k) : Int).toNat : Int)] ∧ (some (bC [AV.sl 1 0 0 i.x.N i.x.N false]) = some (bC [AV.sl 1 0 0 i.x.N i.x.N false]) ∧ some (ABlk.mk true 1 (AC.recs i.x.N fun (i : Nat) => [AV.sl 2 (64 * i) 0 64 64 true])) = some (ABlk.mk true 1 (AC.recs i.x.N fun (i : Nat) => [AV.sl 2 (64 * i) 0 64 64 true])) ∧ some (bW ((midL i.x i.k))) = some (bW ((midL i.x i.k))) ∧ True) ∧ (∀ (y : Unit), True → sp (decide (64 * ((↑(i.x.a + i.k) : Int).toNat / 64) + (↑(i.x.a + i.k) : Int).toNat % 64 + 0 + (i.x.bs.length - i.k).min (64 - (↑(i.x.a + i.k) : Int).toNat % 64) ≤ (midL i.x i.k).length) && decide (i.k + 0 + (i.x.bs.length - i.k).min (64 - (↑(i.x.a + i.k) : Int).toNat % 64) ≤ i.x.bs.length)) (sp (decide ((↑((i.x.bs.length
  - i.k).min (64 - (↑(i.x.a + i.k) : Int).toNat % 64)) : Int).toNat ≤ i.x.bs.length - i.k) && decide (i.x.bs.length - i.k ≤ i.x.bs.length - i.k) && decide (i.x.bs.length - i.k ≤ i.x.bs.length - i.k) && true && true) (∃ (j : LayI), (j.x.N ≤ 512 ∧ j.x.all.length = 64 * j.x.N ∧ j.x.a + j.x.bs.length ≤ 64 * j.x.N ∧ j.k ≤ j.x.bs.length) ∧ j.x.bs.length - j.k < i.x.bs.length - i.k ∧ [(true, LOut.mk (AX.exit 0) [] 4 [(0, bC [AV.sl 1 0 0 j.x.N j.x.N false]), (1, ABlk.mk true 1 (AC.recs j.x.N fun (i : Nat) => [AV.sl 2 (64 * i) 0 64 64 true])), (2, bW ((midL j.x j.x.bs.length))), (3, bW j.x.bs)])] = [(true, LOut.mk (AX.exit 0) [] 4 [(0, bC [AV.sl 1 0 0 i.x.N i.x.N false]), (1, ABlk.mk true 1 (AC.recs i.x.N fun (i : Nat) => [AV.sl 2 (64 * i) 0 64 64 true])), (2, bW ((midL i.x i.x.bs.length))), (3, bW i.x.bs)])] ∧ (nU (IntKind.u32.wrap ((↑(i.x.a + i.k) : Int) + IntKind.u32.wrap (↑((i.x.bs.length -
  i.k).min (64 - (↑(i.x.a + i.k) : Int).toNat % 64)) : Int))) = nU (↑(j.x.a + j.k) : Int) ∧ AV.sl 3 (i.k + (↑((i.x.bs.length - i.k).min (64 - (↑(i.x.a + i.k) : Int).toNat % 64)) : Int).toNat) 0 (i.x.bs.length - i.k - (↑((i.x.bs.length - i.k).min (64 - (↑(i.x.a + i.k) : Int).toNat % 64)) : Int).toNat) (i.x.bs.length - i.k - (↑((i.x.bs.length - i.k).min (64 - (↑(i.x.a + i.k) : Int).toNat % 64)) : Int).toNat) true = AV.sl 3 j.k 0 (j.x.bs.length - j.k) (j.x.bs.length - j.k) true ∧ AV.fn (Fn.func F_ram_RAM_at) [AV.ptr 0 0 0] [] = AV.fn (Fn.func F_ram_RAM_at) [AV.ptr 0 0 0] [] ∧ True) ∧ bC [AV.sl 1 0 0 i.x.N i.x.N false] = bC [AV.sl 1 0 0 j.x.N j.x.N false] ∧ (true = true ∧ 1 = 1 ∧ i.x.N = j.x.N ∧ ∀ (i_1 : Nat), i_1 < i.x.N → [AV.sl 2 (64 * i_1) 0 64 64 true] = [AV.sl 2 (64 * i_1) 0 64 64 true]) ∧ bW ((List.take (64 * ((↑(i.x.a + i.k) : Int).toNat / 64) + (↑(i.x.a + i.k) : Int).toNat % 64 + 0)
  (midL i.x i.k) ++ List.take ((i.x.bs.length - i.k).min (64 - (↑(i.x.a + i.k) : Int).toNat % 64)) (List.drop (i.k + 0) i.x.bs) ++ List.drop (64 * ((↑(i.x.a + i.k) : Int).toNat / 64) + (↑(i.x.a + i.k) : Int).toNat % 64 + 0 + (List.take ((i.x.bs.length - i.k).min (64 - (↑(i.x.a + i.k) : Int).toNat % 64)) (List.drop (i.k + 0) i.x.bs)).length) (midL i.x i.k))) = bW ((midL j.x j.k)) ∧ bW i.x.bs = bW j.x.bs ∧ True) False) False) ∧ True) (True ∧ bC [AV.sl 1 0 0 i.x.N i.x.N false] = bC [AV.sl 1 0 0 i.x.N i.x.N false] ∧ (true = true ∧ 1 = 1 ∧ i.x.N = i.x.N ∧ ∀ (i_1 : Nat), i_1 < i.x.N → [AV.sl 2 (64 * i_1) 0 64 64 true] = [AV.sl 2 (64 * i_1) 0 64 64 true]) ∧ bW ((midL i.x i.k)) = bW ((midL i.x i.x.bs.length)) ∧ bW i.x.bs = bW i.x.bs ∧ True)
theorem layL_c_e (i : LayI) : some (layL_c_V i) = (some ((layL Go.Proofs.Tryz.prog).body sp Go.Proofs.Tryz.prog (atC.orc sp) (drP sp Go.Proofs.Tryz.prog (atC.orc sp)) noLo 40 i)) := by kernel_rfl
theorem midL_len (x : LayX) (k : Nat) (h : x.a + k ≤ x.all.length) (hk : k ≤ x.bs.length) : (midL x k).length = x.all.length := by
  unfold midL
  simp
  omega
theorem midL_step (x : LayX) (k c : Nat) (h : x.a + k + c ≤ x.all.length) (hk : k + c ≤ x.bs.length) : List.take (x.a + k) (midL x k) ++ List.take c (List.drop k x.bs) ++ List.drop (x.a + k + (List.take c (List.drop k x.bs)).length) (midL x k) = midL x (k + c) := by
  have e : (x.all.take x.a ++ x.bs.take k).length = x.a + k := by simp; omega
  have e2 : (List.take c (List.drop k x.bs)).length = c := by simp; omega
  unfold midL
  rw [List.take_left' e, e2, ← List.drop_drop, List.drop_left' e, List.drop_drop, List.append_assoc (x.all.take x.a), ← List.take_add]
  congr 2
  omega
set_option maxRecDepth 100000 in
theorem layL_ok : (layL Go.Proofs.Tryz.prog).OK Go.Proofs.Tryz.prog := by
  refine Lp.ok_of (Con.orc_ok atC_ok) (drP_ok hmix _ (Con.orc_ok atC_ok)) (noLo_ok _) (by decide) 40 (fun i hi => ?_)
  rw [← Option.some.inj (layL_c_e i)]
  obtain ⟨x, k⟩ := i
  obtain ⟨h1, h2, h3, h4⟩ := hi
  have h1 : x.N ≤ 512 := h1
  have h2 : x.all.length = 64 * x.N := h2
  have h3 : x.a + x.bs.length ≤ 64 * x.N := h3
  have h4 : k ≤ x.bs.length := h4
  unfold layL_c_V
  simp only [Int.toNat_natCast]
  by_cases hk : k < x.bs.length
  · have hd : 64 * ((x.a + k) / 64) + (x.a + k) % 64 = x.a + k := Nat.div_add_mod _ _
    obtain ⟨c, hc⟩ : ∃ c, (x.bs.length - k).min (64 - (x.a + k) % 64) = c := ⟨_, rfl⟩
    have hm : (x.a + k) % 64 < 64 := Nat.mod_lt _ (by omega)
    have hc1 : 1 ≤ c := by rw [← hc]; exact Nat.le_min.2 ⟨by omega, by omega⟩
    have hc2 : c ≤ x.bs.length - k := by rw [← hc]; exact Nat.min_le_left _ _
    have hc3 : c ≤ 64 := by rw [← hc]; exact Nat.le_trans (Nat.min_le_right _ _) (by omega)
    have hl := midL_len x k (by omega) h4
    have hs := midL_step x k c (by omega) (by omega)
    have e1 : IntKind.wrap .u32 (c : Int) = (c : Int) := IntWalk.u32_in _ (by omega)
    have e2 : IntKind.wrap .u32 (((x.a + k : Nat) : Int) + (c : Int)) = ((x.a + (k + c) : Nat) : Int) := by rw [IntWalk.u32_in _ (by omega)]; omega
    have d1 : decide (((x.bs.length - k : Nat) : Int) > 0) = true := decide_eq_true (by omega)
    have d2 : decide (x.a + k + c ≤ 64 * x.N) = true := decide_eq_true (by omega)
    have d3 : decide (k + c ≤ x.bs.length) = true := decide_eq_true (by omega)
    have d4 : decide (c ≤ x.bs.length - k) = true := decide_eq_true hc2
    have d5 : decide (x.bs.length - k ≤ x.bs.length - k) = true := decide_eq_true (Nat.le_refl _)
    simp only [hc, hd, Nat.add_zero, hl, h2, Int.toNat_natCast, e1, e2, hs, d1, d2, d3, d4, d5, Bool.and_self, sp]
    refine ⟨⟨h1, by omega⟩, rfl, ?_, fun _ _ => ⟨⟨x, k + c⟩, ⟨h1, h2, h3, by show k + c ≤ x.bs.length; omega⟩, (by show x.bs.length - (k + c) < x.bs.length - k; omega), rfl, ⟨rfl, ?_, ?_⟩, ?_⟩, trivial⟩
    · repeat' (first | trivial | exact rfl | exact fun _ _ => trivial | exact fun _ _ => rfl | refine ⟨(), trivial, ?_⟩ | apply And.intro | (simp; done))
    · show AV.sl 3 (k + c) 0 (x.bs.length - k - c) (x.bs.length - k - c) true = AV.sl 3 (k + c) 0 (x.bs.length - (k + c)) (x.bs.length - (k + c)) true
      rw [Nat.sub_sub]
    · repeat' (first | trivial | exact rfl | exact fun _ _ => trivial | exact fun _ _ => rfl | refine ⟨(), trivial, ?_⟩ | apply And.intro | (simp; done))
    · repeat' (first | trivial | exact rfl | exact fun _ _ => trivial | exact fun _ _ => rfl | refine ⟨(), trivial, ?_⟩ | apply And.intro | (simp; done))
  · obtain rfl : k = x.bs.length := by omega
    have d1 : decide (((x.bs.length - x.bs.length : Nat) : Int) > 0) = false := decide_eq_false (by omega)
    simp only [d1, sp]
    repeat' (first | trivial | exact rfl | exact fun _ _ => trivial | exact fun _ _ => rfl | refine ⟨(), trivial, ?_⟩ | apply And.intro | (simp; done))
def layC_c_V (x : LayX) : Prop :=
  (x.N ≤ 512 ∧ (↑x.a : Int).toNat < 4294967296 ∧ (↑x.bs.length : Int).toNat ≤ 1048576 ∧ 1 ≤ (↑x.al : Int).toNat ∧ (↑x.al : Int).toNat ≤ 4) ∧ [AV.ptr 0 0 0] ++ [nU (↑x.a : Int), nI (↑x.bs.length : Int), nI (↑x.al : Int)] ++ [] = [AV.ptr 0 0 0, nU (↑(↑x.a : Int).toNat : Int), nI (↑(↑x.bs.length : Int).toNat : Int), nI (↑(↑x.al : Int).toNat : Int)] ∧ (some (bC [AV.sl 1 0 0 x.N x.N false]) = some (bC [AV.sl 1 0 0 x.N x.N false]) ∧ True) ∧ (∀ (y : Unit), True → sp (!wiB (WiX.mk x.N (↑x.a : Int).toNat (↑x.bs.length : Int).toNat (↑x.al : Int).toNat)) ((∃ (y : Unit), wiB (WiX.mk x.N x.a x.bs.length x.al) = true ∧ [AV.bool false] = [AV.bool true] ∧ bC [AV.sl 1 0 0 x.N x.N false] = bC [AV.sl 1 0 0 x.N x.N false] ∧ (true = true ∧ 1 = 1 ∧ x.N = x.N ∧ ∀ (i : Nat), i < x.N → [AV.sl 2 (64 * i) 0 64 64 true] = [AV.sl 2 (64 * i) 0 64 64 true]) ∧ bW x.all = bW ((midL x x.bs.length)) ∧ bW x.bs = bW x.bs ∧
  True) ∨ ∃ (y : Unit), wiB (WiX.mk x.N x.a x.bs.length x.al) = false ∧ [AV.bool false] = [AV.bool false] ∧ bC [AV.sl 1 0 0 x.N x.N false] = bC [AV.sl 1 0 0 x.N x.N false] ∧ (true = true ∧ 1 = 1 ∧ x.N = x.N ∧ ∀ (i : Nat), i < x.N → [AV.sl 2 (64 * i) 0 64 64 true] = [AV.sl 2 (64 * i) 0 64 64 true]) ∧ bW x.all = bW x.all ∧ bW x.bs = bW x.bs ∧ True) (same (loopOf Proofs.Tryz.prog F_ram_lay 0) (loopOf Proofs.Tryz.prog F_ram_lay 0) ∧ (x.N ≤ 512 ∧ x.all.length = 64 * x.N ∧ (↑x.a : Int).toNat + x.bs.length ≤ 64 * x.N ∧ 0 ≤ x.bs.length) ∧ ((nU (↑x.a : Int) = nU (↑((↑x.a : Int).toNat + 0) : Int) ∧ AV.sl 3 0 0 x.bs.length x.bs.length true = AV.sl 3 0 0 (x.bs.length - 0) (x.bs.length - 0) true ∧ AV.fn (Fn.func F_ram_RAM_at) [AV.ptr 0 0 0] [] = AV.fn (Fn.func F_ram_RAM_at) [AV.ptr 0 0 0] [] ∧ True) ∧ bC [AV.sl 1 0 0 x.N x.N false] = bC [AV.sl 1 0 0 x.N x.N false] ∧ (true = true ∧ 1 = 1 ∧ x.N = x.N ∧ ∀
  (i : Nat), i < x.N → [AV.sl 2 (64 * i) 0 64 64 true] = [AV.sl 2 (64 * i) 0 64 64 true]) ∧ bW x.all = bW ((midL (LayX.mk x.N (↑x.a : Int).toNat 1 x.all x.bs) 0)) ∧ bW x.bs = bW x.bs ∧ True) ∧ ((∃ (y : Unit), wiB (WiX.mk x.N x.a x.bs.length x.al) = true ∧ [AV.bool true] = [AV.bool true] ∧ bC [AV.sl 1 0 0 x.N x.N false] = bC [AV.sl 1 0 0 x.N x.N false] ∧ (true = true ∧ 1 = 1 ∧ x.N = x.N ∧ ∀ (i : Nat), i < x.N → [AV.sl 2 (64 * i) 0 64 64 true] = [AV.sl 2 (64 * i) 0 64 64 true]) ∧ bW ((midL (LayX.mk x.N (↑x.a : Int).toNat 1 x.all x.bs) x.bs.length)) = bW ((midL x x.bs.length)) ∧ bW x.bs = bW x.bs ∧ True) ∨ ∃ (y : Unit), wiB (WiX.mk x.N x.a x.bs.length x.al) = false ∧ [AV.bool true] = [AV.bool false] ∧ bC [AV.sl 1 0 0 x.N x.N false] = bC [AV.sl 1 0 0 x.N x.N false] ∧ (true = true ∧ 1 = 1 ∧ x.N = x.N ∧ ∀ (i : Nat), i < x.N → [AV.sl 2 (64 * i) 0 64 64 true] = [AV.sl 2 (64 * i) 0 64 64 true]) ∧ bW
  ((midL (LayX.mk x.N (↑x.a : Int).toNat 1 x.all x.bs) x.bs.length)) = bW x.all ∧ bW x.bs = bW x.bs ∧ True))) ∧ True
theorem layC_c_e (x : LayX) : some (layC_c_V x) = (layC.cond sp Go.Proofs.Tryz.prog (drP sp Go.Proofs.Tryz.prog) (forF F_ram_lay ((layL Go.Proofs.Tryz.prog).lo sp Go.Proofs.Tryz.prog (isLoop 3) (loopOf Go.Proofs.Tryz.prog F_ram_lay 0)) noLoops) (orK (wiC.orc sp) (atC.orc sp)) 40 2 x) := by kernel_rfl
theorem wiB_le {x : WiX} (h : wiB x = true) : x.a + x.n ≤ 64 * x.N := by
  unfold wiB at h
  simp only [Bool.and_eq_true, decide_eq_true_eq] at h
  exact h.2.2
set_option maxRecDepth 100000 in
theorem layC_ok : layC.OK Go.Proofs.Tryz.prog := by
  refine Con.by hmix (forF_ok (Lp.lo_ok layL_ok rfl) (noLoops_ok _)) (orK_ok (Con.orc_ok wiC_ok) (Con.orc_ok atC_ok)) layC_c_V layC_c_e (fun x hx => ?_)
  obtain ⟨N, a, al, all, bs⟩ := x
  obtain ⟨h1, h2, h3, h4, h5, h6⟩ := hx
  have h1 : N ≤ 512 := h1
  have h2 : all.length = 64 * N := h2
  have h3 : a < 4294967296 := h3
  have h4 : bs.length ≤ 1048576 := h4
  have h5 : 1 ≤ al := h5
  have h6 : al ≤ 4 := h6
  unfold layC_c_V
  simp only [Int.toNat_natCast]
  refine ⟨⟨h1, h3, h4, h5, h6⟩, by first | trivial | rfl, by repeat' (first | trivial | exact rfl | exact fun _ _ => trivial | exact fun _ _ => rfl | apply And.intro), fun _ _ => ?_, trivial⟩
  have em : midL ⟨N, a, 1, all, bs⟩ 0 = all := by simp [midL]
  have em2 : midL ⟨N, a, 1, all, bs⟩ bs.length = midL ⟨N, a, al, all, bs⟩ bs.length := rfl
  rcases hb : wiB ⟨N, a, bs.length, al⟩ with _ | _
  · simp only [hb, Bool.not_false, sp]
    refine .inr ⟨(), ?_⟩
    repeat' (first | trivial | exact rfl | exact fun _ _ => trivial | exact fun _ _ => rfl | apply And.intro)
  · have hle : a + bs.length ≤ 64 * N := wiB_le hb
    simp only [hb, Bool.not_true, sp, em, em2]
    refine ⟨rfl, ⟨h1, h2, hle, Nat.zero_le _⟩, ?_, .inl ⟨(), ?_⟩⟩
    · repeat' (first | trivial | exact rfl | exact fun _ _ => trivial | exact fun _ _ => rfl | apply And.intro)
    · repeat' (first | trivial | exact rfl | exact fun _ _ => trivial | exact fun _ _ => rfl | apply And.intro)
def fillC_c_V (x : LayX) : Prop :=
  (x.N ≤ 512 ∧ x.all.length = 64 * x.N ∧ (↑x.a : Int).toNat < 4294967296 ∧ x.bs.length ≤ 1048576 ∧ 1 ≤ 1 ∧ 1 ≤ 4) ∧ [] ++ [nU (↑x.a : Int), AV.sl 3 0 0 x.bs.length x.bs.length true, nI 1, AV.fn (Fn.func 76) [AV.ptr 0 0 0] [], AV.fn (Fn.func 77) [AV.ptr 0 0 0] []] ++ [] = [nU (↑(↑x.a : Int).toNat : Int), AV.sl 3 0 0 x.bs.length x.bs.length true, nI 1, AV.fn (Fn.func F_ram_RAM_within) [AV.ptr 0 0 0] [], AV.fn (Fn.func F_ram_RAM_at) [AV.ptr 0 0 0] []] ∧ (some (bC [AV.sl 1 0 0 x.N x.N false]) = some (bC [AV.sl 1 0 0 x.N x.N false]) ∧ some (ABlk.mk true 1 (AC.recs x.N fun (i : Nat) => [AV.sl 2 (64 * i) 0 64 64 true])) = some (ABlk.mk true 1 (AC.recs x.N fun (i : Nat) => [AV.sl 2 (64 * i) 0 64 64 true])) ∧ some (bW x.all) = some (bW x.all) ∧ some (bW x.bs) = some (bW x.bs) ∧ True) ∧ (∀ (y : Unit), wiB (WiX.mk x.N (↑x.a : Int).toNat x.bs.length 1) = true → (∃ (y : Unit), wiB (WiX.mk x.N x.a
  x.bs.length x.al) = true ∧ [AV.bool true] = [AV.bool true] ∧ bC [AV.sl 1 0 0 x.N x.N false] = bC [AV.sl 1 0 0 x.N x.N false] ∧ (true = true ∧ 1 = 1 ∧ x.N = x.N ∧ ∀ (i : Nat), i < x.N → [AV.sl 2 (64 * i) 0 64 64 true] = [AV.sl 2 (64 * i) 0 64 64 true]) ∧ bW ((midL (LayX.mk x.N (↑x.a : Int).toNat 1 x.all x.bs) x.bs.length)) = bW ((midL x x.bs.length)) ∧ bW x.bs = bW x.bs ∧ True) ∨ ∃ (y : Unit), wiB (WiX.mk x.N x.a x.bs.length x.al) = false ∧ [AV.bool true] = [AV.bool false] ∧ bC [AV.sl 1 0 0 x.N x.N false] = bC [AV.sl 1 0 0 x.N x.N false] ∧ (true = true ∧ 1 = 1 ∧ x.N = x.N ∧ ∀ (i : Nat), i < x.N → [AV.sl 2 (64 * i) 0 64 64 true] = [AV.sl 2 (64 * i) 0 64 64 true]) ∧ bW ((midL (LayX.mk x.N (↑x.a : Int).toNat 1 x.all x.bs) x.bs.length)) = bW x.all ∧ bW x.bs = bW x.bs ∧ True) ∧ (∀ (y : Unit), wiB (WiX.mk x.N (↑x.a : Int).toNat x.bs.length 1) = false → (∃ (y : Unit), wiB (WiX.mk x.N x.a
  x.bs.length x.al) = true ∧ [AV.bool false] = [AV.bool true] ∧ bC [AV.sl 1 0 0 x.N x.N false] = bC [AV.sl 1 0 0 x.N x.N false] ∧ (true = true ∧ 1 = 1 ∧ x.N = x.N ∧ ∀ (i : Nat), i < x.N → [AV.sl 2 (64 * i) 0 64 64 true] = [AV.sl 2 (64 * i) 0 64 64 true]) ∧ bW x.all = bW ((midL x x.bs.length)) ∧ bW x.bs = bW x.bs ∧ True) ∨ ∃ (y : Unit), wiB (WiX.mk x.N x.a x.bs.length x.al) = false ∧ [AV.bool false] = [AV.bool false] ∧ bC [AV.sl 1 0 0 x.N x.N false] = bC [AV.sl 1 0 0 x.N x.N false] ∧ (true = true ∧ 1 = 1 ∧ x.N = x.N ∧ ∀ (i : Nat), i < x.N → [AV.sl 2 (64 * i) 0 64 64 true] = [AV.sl 2 (64 * i) 0 64 64 true]) ∧ bW x.all = bW x.all ∧ bW x.bs = bW x.bs ∧ True) ∧ True
theorem fillC_c_e (x : LayX) : some (fillC_c_V x) = (fillC.cond sp Go.Proofs.Tryz.prog (drP sp Go.Proofs.Tryz.prog) noLoops (layC.orc sp) 40 2 x) := by kernel_rfl
set_option maxRecDepth 100000 in
theorem fillC_ok : fillC.OK Go.Proofs.Tryz.prog := by
  refine Con.by hmix (noLoops_ok _) (Con.orc_ok layC_ok) fillC_c_V fillC_c_e (fun x hx => ?_)
  obtain ⟨N, a, al, all, bs⟩ := x
  obtain ⟨⟨h1, h2, h3, h4, h5, h6⟩, h7⟩ := hx
  have h1 : N ≤ 512 := h1
  have h2 : all.length = 64 * N := h2
  have h3 : a < 4294967296 := h3
  have h4 : bs.length ≤ 1048576 := h4
  have h7 : al = 1 := h7
  subst h7
  unfold fillC_c_V
  simp only [Int.toNat_natCast]
  refine ⟨⟨h1, h2, h3, h4, Nat.le_refl _, by omega⟩, rfl, ?_, fun _ hb => .inl ⟨(), ?_⟩, fun _ hb => .inr ⟨(), ?_⟩, trivial⟩
  · repeat' (first | trivial | exact rfl | exact fun _ _ => trivial | exact fun _ _ => rfl | apply And.intro)
  · refine ⟨hb, ?_⟩
    repeat' (first | trivial | exact rfl | exact fun _ _ => trivial | exact fun _ _ => rfl | apply And.intro)
  · refine ⟨hb, ?_⟩
    repeat' (first | trivial | exact rfl | exact fun _ _ => trivial | exact fun _ _ => rfl | apply And.intro)
def swC_c_V (x : SwX) : Prop :=
  (x.N ≤ 512 ∧ x.all.length = 64 * x.N ∧ (↑x.a : Int).toNat < 4294967296 ∧ [IntKind.u8.wrap x.w, IntKind.u8.wrap (x.w.fdiv 256), IntKind.u8.wrap (x.w.fdiv 65536), IntKind.u8.wrap (x.w.fdiv 16777216)].length ≤ 1048576 ∧ 1 ≤ 4 ∧ 4 ≤ 4) ∧ [] ++ [nU (↑x.a : Int), AV.sl 3 0 0 4 4 true, nI 4, AV.fn (Fn.func 76) [AV.ptr 0 0 0] [], AV.fn (Fn.func 77) [AV.ptr 0 0 0] []] ++ [] = [nU (↑(↑x.a : Int).toNat : Int), AV.sl 3 0 0 [IntKind.u8.wrap x.w, IntKind.u8.wrap (x.w.fdiv 256), IntKind.u8.wrap (x.w.fdiv 65536), IntKind.u8.wrap (x.w.fdiv 16777216)].length [IntKind.u8.wrap x.w, IntKind.u8.wrap (x.w.fdiv 256), IntKind.u8.wrap (x.w.fdiv 65536), IntKind.u8.wrap (x.w.fdiv 16777216)].length true, nI 4, AV.fn (Fn.func F_ram_RAM_within) [AV.ptr 0 0 0] [], AV.fn (Fn.func F_ram_RAM_at) [AV.ptr 0 0 0] []] ∧ (some (bC [AV.sl 1 0 0 x.N x.N false]) = some (bC [AV.sl 1 0 0 x.N x.N false]) ∧ some (ABlk.mk true 1
  (AC.recs x.N fun (i : Nat) => [AV.sl 2 (64 * i) 0 64 64 true])) = some (ABlk.mk true 1 (AC.recs x.N fun (i : Nat) => [AV.sl 2 (64 * i) 0 64 64 true])) ∧ some (bW x.all) = some (bW x.all) ∧ some (bW [IntKind.u8.wrap x.w, IntKind.u8.wrap (x.w.fdiv 256), IntKind.u8.wrap (x.w.fdiv 65536), IntKind.u8.wrap (x.w.fdiv 16777216)]) = some (bW [IntKind.u8.wrap x.w, IntKind.u8.wrap (x.w.fdiv 256), IntKind.u8.wrap (x.w.fdiv 65536), IntKind.u8.wrap (x.w.fdiv 16777216)]) ∧ True) ∧ (∀ (y : Unit), wiB (WiX.mk x.N (↑x.a : Int).toNat [IntKind.u8.wrap x.w, IntKind.u8.wrap (x.w.fdiv 256), IntKind.u8.wrap (x.w.fdiv 65536), IntKind.u8.wrap (x.w.fdiv 16777216)].length 4) = true → (∃ (y : List Int), y.length = 64 * x.N ∧ [AV.bool true] = [AV.bool true] ∧ bC [AV.sl 1 0 0 x.N x.N false] = bC [AV.sl 1 0 0 x.N x.N false] ∧ (true = true ∧ 1 = 1 ∧ x.N = x.N ∧ ∀ (i : Nat), i < x.N → [AV.sl 2 (64 * i) 0 64 64 true] =
  [AV.sl 2 (64 * i) 0 64 64 true]) ∧ bW ((midL (LayX.mk x.N (↑x.a : Int).toNat 4 x.all [IntKind.u8.wrap x.w, IntKind.u8.wrap (x.w.fdiv 256), IntKind.u8.wrap (x.w.fdiv 65536), IntKind.u8.wrap (x.w.fdiv 16777216)]) [IntKind.u8.wrap x.w, IntKind.u8.wrap (x.w.fdiv 256), IntKind.u8.wrap (x.w.fdiv 65536), IntKind.u8.wrap (x.w.fdiv 16777216)].length)) = bW y ∧ True) ∨ ∃ (y : List Int), y.length = 64 * x.N ∧ [AV.bool true] = [AV.bool false] ∧ bC [AV.sl 1 0 0 x.N x.N false] = bC [AV.sl 1 0 0 x.N x.N false] ∧ (true = true ∧ 1 = 1 ∧ x.N = x.N ∧ ∀ (i : Nat), i < x.N → [AV.sl 2 (64 * i) 0 64 64 true] = [AV.sl 2 (64 * i) 0 64 64 true]) ∧ bW ((midL (LayX.mk x.N (↑x.a : Int).toNat 4 x.all [IntKind.u8.wrap x.w, IntKind.u8.wrap (x.w.fdiv 256), IntKind.u8.wrap (x.w.fdiv 65536), IntKind.u8.wrap (x.w.fdiv 16777216)]) [IntKind.u8.wrap x.w, IntKind.u8.wrap (x.w.fdiv 256), IntKind.u8.wrap (x.w.fdiv 65536),
  IntKind.u8.wrap (x.w.fdiv 16777216)].length)) = bW y ∧ True) ∧ (∀ (y : Unit), wiB (WiX.mk x.N (↑x.a : Int).toNat [IntKind.u8.wrap x.w, IntKind.u8.wrap (x.w.fdiv 256), IntKind.u8.wrap (x.w.fdiv 65536), IntKind.u8.wrap (x.w.fdiv 16777216)].length 4) = false → (∃ (y : List Int), y.length = 64 * x.N ∧ [AV.bool false] = [AV.bool true] ∧ bC [AV.sl 1 0 0 x.N x.N false] = bC [AV.sl 1 0 0 x.N x.N false] ∧ (true = true ∧ 1 = 1 ∧ x.N = x.N ∧ ∀ (i : Nat), i < x.N → [AV.sl 2 (64 * i) 0 64 64 true] = [AV.sl 2 (64 * i) 0 64 64 true]) ∧ bW x.all = bW y ∧ True) ∨ ∃ (y : List Int), y.length = 64 * x.N ∧ [AV.bool false] = [AV.bool false] ∧ bC [AV.sl 1 0 0 x.N x.N false] = bC [AV.sl 1 0 0 x.N x.N false] ∧ (true = true ∧ 1 = 1 ∧ x.N = x.N ∧ ∀ (i : Nat), i < x.N → [AV.sl 2 (64 * i) 0 64 64 true] = [AV.sl 2 (64 * i) 0 64 64 true]) ∧ bW x.all = bW y ∧ True) ∧ True
theorem swC_c_e (x : SwX) : some (swC_c_V x) = (swC.cond sp Go.Proofs.Tryz.prog (drP sp Go.Proofs.Tryz.prog) noLoops (layC.orc sp) 40 2 x) := by kernel_rfl
set_option maxRecDepth 100000 in
theorem swC_ok : swC.OK Go.Proofs.Tryz.prog := by
  refine Con.by hmix (noLoops_ok _) (Con.orc_ok layC_ok) swC_c_V swC_c_e (fun x hx => ?_)
  obtain ⟨N, a, w, all⟩ := x
  obtain ⟨h1, h2, h3⟩ := hx
  have h1 : N ≤ 512 := h1
  have h2 : all.length = 64 * N := h2
  have h3 : a < 4294967296 := h3
  unfold swC_c_V
  simp only [Int.toNat_natCast]
  generalize hbs : [IntKind.u8.wrap w, IntKind.u8.wrap (w.fdiv 256), IntKind.u8.wrap (w.fdiv 65536), IntKind.u8.wrap (w.fdiv 16777216)] = bs
  have hl : bs.length = 4 := by rw [← hbs]; rfl
  refine ⟨⟨h1, h2, h3, by omega, by omega, by omega⟩, by rw [hl]; rfl, ?_, fun _ hb => .inl ⟨midL ⟨N, a, 4, all, bs⟩ bs.length, ?_, ?_⟩, fun _ hb => .inr ⟨all, h2, ?_⟩, trivial⟩
  · repeat' (first | trivial | exact rfl | exact fun _ _ => trivial | exact fun _ _ => rfl | apply And.intro)
  · have := wiB_le hb
    rw [midL_len _ _ (by show a + bs.length ≤ all.length; rw [h2]; exact this) (Nat.le_refl _)]
    exact h2
  · repeat' (first | trivial | exact rfl | exact fun _ _ => trivial | exact fun _ _ => rfl | apply And.intro)
  · repeat' (first | trivial | exact rfl | exact fun _ _ => trivial | exact fun _ _ => rfl | apply And.intro)
end Go.Proofs.YtilmgiompalggaaGreatDoor.W
/- Tables that a host goes through, made; a cache's tables: what is reckoned. No condition. -/
namespace Go.Proofs.YtilmgiompalggaaGreatDoor.W
open Go Go.RowKit Go.Eng
set_option maxRecDepth 100000
set_option linter.unusedVariables false
set_option linter.unusedSimpArgs false
structure ShX where
  N : Nat
  d : Int
  all : List Int
def shC : Con ShX (List Int) where
  f := F_shadow_New
  fit vs H := match vs with
    | [.ptr b _ _, .int _ d, .ptr b3 _ _] => match H.get b with
      | some k => match k.c with
        | .cells [.sl b1 _ _ n _ _] => match H.get b1 with
          | some k1 => match k1.c with
            | .recs _ f => match f 0 with
              | [.sl b2 _ _ _ _ _] => match H.get b2 with
                | some k2 => match k2.c with
                  | .ints _ l => some ([b, b1, b2, b3], ⟨n, d, l⟩)
                  | _ => none
                | none => none
              | _ => none
            | _ => none
          | none => none
        | _ => none
      | none => none
    | _ => none
  n0 := 4
  pre x := x.N ≤ 512 ∧ x.all.length = 64 * x.N ∧ 0 ≤ x.d ∧ x.d ≤ 512
  args x := [.ptr 0 0 0, .int .i64 x.d, .ptr 3 0 0]
  L0 x := [(0, ramB 1 x.N), (1, frameB 2 x.N), (2, byteB x.all)]
  outs x := [(fun y => y.length = 64 * x.N, fun y => (.ret (.tup [.nilp, .int .i64 1]), 4, [(0, ramB 1 x.N), (1, frameB 2 x.N), (2, byteB y)])), (fun y => y.length = 64 * x.N, fun y => (.ret (.tup [.nilp, .int .i64 2]), 4, [(0, ramB 1 x.N), (1, frameB 2 x.N), (2, byteB y)])),
    (fun y => y.length = 64 * x.N, fun y => (.ret (.tup [.ptr 4 0 0, .int .i64 0]), 5, [(0, ramB 1 x.N), (1, frameB 2 x.N), (2, byteB y)]))]
end Go.Proofs.YtilmgiompalggaaGreatDoor.W
/- Tables that a host goes through, made: the walks. No condition. -/
namespace Go.Proofs.YtilmgiompalggaaGreatDoor.W
open Go Go.RowKit Go.Eng
set_option maxRecDepth 100000
set_option linter.unusedVariables false
set_option linter.unusedSimpArgs false
def shC_c_V (x : ShX) : Prop :=
  x.N.le 512 ∧ [AV.ptr 0 0 0] = [AV.ptr 0 0 0] ∧ (some (bC [AV.sl 1 0 0 x.N x.N false]) = some (bC [AV.sl 1 0 0 x.N x.N false]) ∧ True) ∧ (∀ (y : Unit), True → sp ((↑(64 * x.N) : Int) == 0) ((∃ (y : List Int), y.length = 64 * x.N ∧ [AV.tup [AV.nilp, nI 1]] = [AV.tup [AV.nilp, nI 1]] ∧ bC [AV.sl 1 0 0 x.N x.N false] = bC [AV.sl 1 0 0 x.N x.N false] ∧ (true = true ∧ 1 = 1 ∧ x.N = x.N ∧ ∀ (i : Nat), i < x.N → [AV.sl 2 (64 * i) 0 64 64 true] = [AV.sl 2 (64 * i) 0 64 64 true]) ∧ bW x.all = bW y ∧ True) ∨ (∃ (y : List Int), y.length = 64 * x.N ∧ [AV.tup [AV.nilp, nI 1]] = [AV.tup [AV.nilp, nI 2]] ∧ bC [AV.sl 1 0 0 x.N x.N false] = bC [AV.sl 1 0 0 x.N x.N false] ∧ (true = true ∧ 1 = 1 ∧ x.N = x.N ∧ ∀ (i : Nat), i < x.N → [AV.sl 2 (64 * i) 0 64 64 true] = [AV.sl 2 (64 * i) 0 64 64 true]) ∧ bW x.all = bW y ∧ True) ∨ ∃ (y : List Int), y.length = 64 * x.N ∧ [AV.tup [AV.nilp, nI 1]] = [AV.tup [AV.ptr 4
  0 0, nI 0]] ∧ bC [AV.sl 1 0 0 x.N x.N false] = bC [AV.sl 1 0 0 x.N x.N false] ∧ (true = true ∧ 1 = 1 ∧ x.N = x.N ∧ ∀ (i : Nat), i < x.N → [AV.sl 2 (64 * i) 0 64 64 true] = [AV.sl 2 (64 * i) 0 64 64 true]) ∧ bW x.all = bW y ∧ True) (sp (decide (x.d < 0)) ((∃ (y : List Int), y.length = 64 * x.N ∧ [AV.tup [AV.nilp, nI 2]] = [AV.tup [AV.nilp, nI 1]] ∧ bC [AV.sl 1 0 0 x.N x.N false] = bC [AV.sl 1 0 0 x.N x.N false] ∧ (true = true ∧ 1 = 1 ∧ x.N = x.N ∧ ∀ (i : Nat), i < x.N → [AV.sl 2 (64 * i) 0 64 64 true] = [AV.sl 2 (64 * i) 0 64 64 true]) ∧ bW x.all = bW y ∧ True) ∨ (∃ (y : List Int), y.length = 64 * x.N ∧ [AV.tup [AV.nilp, nI 2]] = [AV.tup [AV.nilp, nI 2]] ∧ bC [AV.sl 1 0 0 x.N x.N false] = bC [AV.sl 1 0 0 x.N x.N false] ∧ (true = true ∧ 1 = 1 ∧ x.N = x.N ∧ ∀ (i : Nat), i < x.N → [AV.sl 2 (64 * i) 0 64 64 true] = [AV.sl 2 (64 * i) 0 64 64 true]) ∧ bW x.all = bW y ∧ True) ∨ ∃ (y : List Int),
  y.length = 64 * x.N ∧ [AV.tup [AV.nilp, nI 2]] = [AV.tup [AV.ptr 4 0 0, nI 0]] ∧ bC [AV.sl 1 0 0 x.N x.N false] = bC [AV.sl 1 0 0 x.N x.N false] ∧ (true = true ∧ 1 = 1 ∧ x.N = x.N ∧ ∀ (i : Nat), i < x.N → [AV.sl 2 (64 * i) 0 64 64 true] = [AV.sl 2 (64 * i) 0 64 64 true]) ∧ bW x.all = bW y ∧ True) (x.N.le 512 ∧ [AV.ptr 0 0 0] = [AV.ptr 0 0 0] ∧ (some (bC [AV.sl 1 0 0 x.N x.N false]) = some (bC [AV.sl 1 0 0 x.N x.N false]) ∧ True) ∧ (∀ (y : Unit), True → sp (bif false then true else decide (x.d ≥ IntKind.i64.wrap (IntKind.i64.wrap ((IntKind.i64.wrap (↑(64 * x.N) : Int)).tdiv 64) - 1))) ((∃ (y : List Int), y.length = 64 * x.N ∧ [AV.tup [AV.nilp, nI 2]] = [AV.tup [AV.nilp, nI 1]] ∧ bC [AV.sl 1 0 0 x.N x.N false] = bC [AV.sl 1 0 0 x.N x.N false] ∧ (true = true ∧ 1 = 1 ∧ x.N = x.N ∧ ∀ (i : Nat), i < x.N → [AV.sl 2 (64 * i) 0 64 64 true] = [AV.sl 2 (64 * i) 0 64 64 true]) ∧ bW x.all = bW y ∧
  True) ∨ (∃ (y : List Int), y.length = 64 * x.N ∧ [AV.tup [AV.nilp, nI 2]] = [AV.tup [AV.nilp, nI 2]] ∧ bC [AV.sl 1 0 0 x.N x.N false] = bC [AV.sl 1 0 0 x.N x.N false] ∧ (true = true ∧ 1 = 1 ∧ x.N = x.N ∧ ∀ (i : Nat), i < x.N → [AV.sl 2 (64 * i) 0 64 64 true] = [AV.sl 2 (64 * i) 0 64 64 true]) ∧ bW x.all = bW y ∧ True) ∨ ∃ (y : List Int), y.length = 64 * x.N ∧ [AV.tup [AV.nilp, nI 2]] = [AV.tup [AV.ptr 4 0 0, nI 0]] ∧ bC [AV.sl 1 0 0 x.N x.N false] = bC [AV.sl 1 0 0 x.N x.N false] ∧ (true = true ∧ 1 = 1 ∧ x.N = x.N ∧ ∀ (i : Nat), i < x.N → [AV.sl 2 (64 * i) 0 64 64 true] = [AV.sl 2 (64 * i) 0 64 64 true]) ∧ bW x.all = bW y ∧ True) (((x.N ≤ 512 ∧ x.all.length = 64 * x.N ∧ (IntKind.u32.wrap (IntKind.i64.wrap (x.d * 64))).toNat < 4294967296 ∧ 128 ≤ 1048576 ∧ 1 ≤ 1 ∧ 1 ≤ 4) ∧ 1 = 1) ∧ [] ++ [AV.ptr 0 0 0, nU (IntKind.u32.wrap (IntKind.i64.wrap (x.d * 64))), AV.sl 7 0 0 128 128 true] ++ [] =
  [AV.ptr 0 0 0, nU (↑(IntKind.u32.wrap (IntKind.i64.wrap (x.d * 64))).toNat : Int), AV.sl 7 0 0 128 128 true] ∧ (some (bC [AV.sl 1 0 0 x.N x.N false]) = some (bC [AV.sl 1 0 0 x.N x.N false]) ∧ some (ABlk.mk true 1 (AC.recs x.N fun (i : Nat) => [AV.sl 2 (64 * i) 0 64 64 true])) = some (ABlk.mk true 1 (AC.recs x.N fun (i : Nat) => [AV.sl 2 (64 * i) 0 64 64 true])) ∧ some (bW x.all) = some (bW x.all) ∧ some (bW [0, 0, 0, 0, 0, 0, 0, 0, 0, 0, 0, 0, 0, 0, 0, 0, 0, 0, 0, 0, 0, 0, 0, 0, 0, 0, 0, 0, 0, 0, 0, 0, 0, 0, 0, 0, 0, 0, 0, 0, 0, 0, 0, 0, 0, 0, 0, 0, 0, 0, 0, 0, 0, 0, 0, 0, 0, 0, 0, 0, 0, 0, 0, 0, 0, 0, 0, 0, 0, 0, 0, 0, 0, 0, 0, 0, 0, 0, 0, 0, 0, 0, 0, 0, 0, 0, 0, 0, 0, 0, 0, 0, 0, 0, 0, 0, 0, 0, 0, 0, 0, 0, 0, 0, 0, 0, 0, 0, 0, 0, 0, 0, 0, 0, 0, 0, 0, 0, 0, 0, 0, 0, 0, 0, 0, 0, 0, 0]) = some (bW [0, 0, 0, 0, 0, 0, 0, 0, 0, 0, 0, 0, 0, 0, 0, 0, 0, 0, 0, 0, 0, 0, 0, 0, 0, 0, 0, 0, 0, 0, 0,
  0, 0, 0, 0, 0, 0, 0, 0, 0, 0, 0, 0, 0, 0, 0, 0, 0, 0, 0, 0, 0, 0, 0, 0, 0, 0, 0, 0, 0, 0, 0, 0, 0, 0, 0, 0, 0, 0, 0, 0, 0, 0, 0, 0, 0, 0, 0, 0, 0, 0, 0, 0, 0, 0, 0, 0, 0, 0, 0, 0, 0, 0, 0, 0, 0, 0, 0, 0, 0, 0, 0, 0, 0, 0, 0, 0, 0, 0, 0, 0, 0, 0, 0, 0, 0, 0, 0, 0, 0, 0, 0, 0, 0, 0, 0, 0, 0]) ∧ True) ∧ (∀ (y : Unit), wiB (WiX.mk x.N (IntKind.u32.wrap (IntKind.i64.wrap (x.d * 64))).toNat 128 1) = true → (∃ (y : List Int), y.length = 64 * x.N ∧ [AV.tup [AV.ptr 4 0 0, nI 0]] = [AV.tup [AV.nilp, nI 1]] ∧ bC [AV.sl 1 0 0 x.N x.N false] = bC [AV.sl 1 0 0 x.N x.N false] ∧ (true = true ∧ 1 = 1 ∧ x.N = x.N ∧ ∀ (i : Nat), i < x.N → [AV.sl 2 (64 * i) 0 64 64 true] = [AV.sl 2 (64 * i) 0 64 64 true]) ∧ bW ((midL (LayX.mk x.N (IntKind.u32.wrap (IntKind.i64.wrap (x.d * 64))).toNat 1 x.all [0, 0, 0, 0, 0, 0, 0, 0, 0, 0, 0, 0, 0, 0, 0, 0, 0, 0, 0, 0, 0, 0, 0, 0, 0, 0, 0, 0, 0, 0, 0, 0, 0, 0, 0, 0, 0, 0, 0,
  0, 0, 0, 0, 0, 0, 0, 0, 0, 0, 0, 0, 0, 0, 0, 0, 0, 0, 0, 0, 0, 0, 0, 0, 0, 0, 0, 0, 0, 0, 0, 0, 0, 0, 0, 0, 0, 0, 0, 0, 0, 0, 0, 0, 0, 0, 0, 0, 0, 0, 0, 0, 0, 0, 0, 0, 0, 0, 0, 0, 0, 0, 0, 0, 0, 0, 0, 0, 0, 0, 0, 0, 0, 0, 0, 0, 0, 0, 0, 0, 0, 0, 0, 0, 0, 0, 0, 0, 0]) 128)) = bW y ∧ True) ∨ (∃ (y : List Int), y.length = 64 * x.N ∧ [AV.tup [AV.ptr 4 0 0, nI 0]] = [AV.tup [AV.nilp, nI 2]] ∧ bC [AV.sl 1 0 0 x.N x.N false] = bC [AV.sl 1 0 0 x.N x.N false] ∧ (true = true ∧ 1 = 1 ∧ x.N = x.N ∧ ∀ (i : Nat), i < x.N → [AV.sl 2 (64 * i) 0 64 64 true] = [AV.sl 2 (64 * i) 0 64 64 true]) ∧ bW ((midL (LayX.mk x.N (IntKind.u32.wrap (IntKind.i64.wrap (x.d * 64))).toNat 1 x.all [0, 0, 0, 0, 0, 0, 0, 0, 0, 0, 0, 0, 0, 0, 0, 0, 0, 0, 0, 0, 0, 0, 0, 0, 0, 0, 0, 0, 0, 0, 0, 0, 0, 0, 0, 0, 0, 0, 0, 0, 0, 0, 0, 0, 0, 0, 0, 0, 0, 0, 0, 0, 0, 0, 0, 0, 0, 0, 0, 0, 0, 0, 0, 0, 0, 0, 0, 0, 0, 0, 0, 0, 0, 0, 0, 0, 0,
  0, 0, 0, 0, 0, 0, 0, 0, 0, 0, 0, 0, 0, 0, 0, 0, 0, 0, 0, 0, 0, 0, 0, 0, 0, 0, 0, 0, 0, 0, 0, 0, 0, 0, 0, 0, 0, 0, 0, 0, 0, 0, 0, 0, 0, 0, 0, 0, 0, 0, 0]) 128)) = bW y ∧ True) ∨ ∃ (y : List Int), y.length = 64 * x.N ∧ [AV.tup [AV.ptr 4 0 0, nI 0]] = [AV.tup [AV.ptr 4 0 0, nI 0]] ∧ bC [AV.sl 1 0 0 x.N x.N false] = bC [AV.sl 1 0 0 x.N x.N false] ∧ (true = true ∧ 1 = 1 ∧ x.N = x.N ∧ ∀ (i : Nat), i < x.N → [AV.sl 2 (64 * i) 0 64 64 true] = [AV.sl 2 (64 * i) 0 64 64 true]) ∧ bW ((midL (LayX.mk x.N (IntKind.u32.wrap (IntKind.i64.wrap (x.d * 64))).toNat 1 x.all [0, 0, 0, 0, 0, 0, 0, 0, 0, 0, 0, 0, 0, 0, 0, 0, 0, 0, 0, 0, 0, 0, 0, 0, 0, 0, 0, 0, 0, 0, 0, 0, 0, 0, 0, 0, 0, 0, 0, 0, 0, 0, 0, 0, 0, 0, 0, 0, 0, 0, 0, 0, 0, 0, 0, 0, 0, 0, 0, 0, 0, 0, 0, 0, 0, 0, 0, 0, 0, 0, 0, 0, 0, 0, 0, 0, 0, 0, 0, 0, 0, 0, 0, 0, 0, 0, 0, 0, 0, 0, 0, 0, 0, 0, 0, 0, 0, 0, 0, 0, 0, 0, 0, 0, 0, 0, 0, 0, 0, 0, 0, 0, 0,
  0, 0, 0, 0, 0, 0, 0, 0, 0, 0, 0, 0, 0, 0, 0]) 128)) = bW y ∧ True) ∧ (∀ (y : Unit), wiB (WiX.mk x.N (IntKind.u32.wrap (IntKind.i64.wrap (x.d * 64))).toNat 128 1) = false → (∃ (y : List Int), y.length = 64 * x.N ∧ [AV.tup [AV.ptr 4 0 0, nI 0]] = [AV.tup [AV.nilp, nI 1]] ∧ bC [AV.sl 1 0 0 x.N x.N false] = bC [AV.sl 1 0 0 x.N x.N false] ∧ (true = true ∧ 1 = 1 ∧ x.N = x.N ∧ ∀ (i : Nat), i < x.N → [AV.sl 2 (64 * i) 0 64 64 true] = [AV.sl 2 (64 * i) 0 64 64 true]) ∧ bW x.all = bW y ∧ True) ∨ (∃ (y : List Int), y.length = 64 * x.N ∧ [AV.tup [AV.ptr 4 0 0, nI 0]] = [AV.tup [AV.nilp, nI 2]] ∧ bC [AV.sl 1 0 0 x.N x.N false] = bC [AV.sl 1 0 0 x.N x.N false] ∧ (true = true ∧ 1 = 1 ∧ x.N = x.N ∧ ∀ (i : Nat), i < x.N → [AV.sl 2 (64 * i) 0 64 64 true] = [AV.sl 2 (64 * i) 0 64 64 true]) ∧ bW x.all = bW y ∧ True) ∨ ∃ (y : List Int), y.length = 64 * x.N ∧ [AV.tup [AV.ptr 4 0 0, nI 0]] = [AV.tup [AV.ptr 4 0
  0, nI 0]] ∧ bC [AV.sl 1 0 0 x.N x.N false] = bC [AV.sl 1 0 0 x.N x.N false] ∧ (true = true ∧ 1 = 1 ∧ x.N = x.N ∧ ∀ (i : Nat), i < x.N → [AV.sl 2 (64 * i) 0 64 64 true] = [AV.sl 2 (64 * i) 0 64 64 true]) ∧ bW x.all = bW y ∧ True) ∧ True)) ∧ True))) ∧ True
theorem shC_c_e (x : ShX) : some (shC_c_V x) = (shC.cond sp Go.Proofs.Tryz.prog (drPL sp Go.Proofs.Tryz.prog) noLoops (orK (sizeC.orc sp) (fillC.orc sp)) 60 4 x) := by kernel_rfl
theorem ex_bytes {n : Nat} {l : List Int} {A B C D : Prop} (h : l.length = n ∧ A ∧ B ∧ C ∧ D) : ∃ y : List Int, y.length = n ∧ A ∧ B ∧ C ∧ bW l = bW y ∧ D := ⟨l, h.1, h.2.1, h.2.2.1, h.2.2.2.1, rfl, h.2.2.2.2⟩
set_option maxRecDepth 100000 in
theorem shC_ok : shC.OK Go.Proofs.Tryz.prog := by
  refine Con.byL' hmix (noLoops_ok _) (orK_ok (Con.orc_ok sizeC_ok) (Con.orc_ok fillC_ok)) shC_c_V shC_c_e (fun x hx => ?_)
  obtain ⟨N, d, all⟩ := x
  obtain ⟨h1, h2, h3, h4⟩ := hx
  have h1 : N ≤ 512 := h1
  have h2 : all.length = 64 * N := h2
  have h3 : 0 ≤ d := h3
  have h4 : d ≤ 512 := h4
  unfold shC_c_V
  have e1 : IntKind.wrap .i64 (d * 64) = d * 64 := IntWalk.i64_in _ (by omega)
  have e2 : IntKind.wrap .u32 (d * 64) = d * 64 := IntWalk.u32_in _ (by omega)
  have e3 : (((d * 64).toNat : Nat) : Int) = d * 64 := by omega
  have hlt : (d * 64).toNat < 4294967296 := by omega
  simp only [e1, e2, e3]
  generalize (d * 64).toNat = a at *
  have hle : N.le 512 := h1
  refine ⟨hle, by first | trivial | rfl, by repeat' (first | trivial | exact rfl | exact fun _ _ => trivial | exact fun _ _ => rfl | apply And.intro), fun _ _ => spI (fun _ => .inl ⟨all, h2, by repeat' (first | trivial | exact rfl | exact fun _ _ => trivial | exact fun _ _ => rfl | apply And.intro)⟩) (fun _ => spI (fun _ => .inr (.inl ⟨all, h2, by repeat' (first | trivial | exact rfl | exact fun _ _ => trivial | exact fun _ _ => rfl | apply And.intro)⟩)) (fun _ => ⟨hle, by first | trivial | rfl, by repeat' (first | trivial | exact rfl | exact fun _ _ => trivial | exact fun _ _ => rfl | apply And.intro), fun _ _ => spI (fun _ => .inr (.inl ⟨all, h2, by repeat' (first | trivial | exact rfl | exact fun _ _ => trivial | exact fun _ _ => rfl | apply And.intro)⟩)) (fun _ => ⟨?_, ?_, by repeat' (first | trivial | exact rfl | exact fun _ _ => trivial | exact fun _ _ => rfl | apply And.intro), fun _ hb => .inr (.inr (ex_bytes ?_)), fun _ hb => .inr (.inr ⟨all, h2, by repeat' (first | trivial | exact rfl | exact fun _ _ => trivial | exact fun _ _ => rfl | apply And.intro)⟩), trivial⟩), trivial⟩)), trivial⟩
  · exact ⟨⟨h1, h2, hlt, by omega, Nat.le_refl _, by omega⟩, trivial⟩
  · first | trivial | rfl
  · refine ⟨?_, by repeat' (first | trivial | exact rfl | exact fun _ _ => trivial | exact fun _ _ => rfl | apply And.intro)⟩
    have := wiB_le hb
    refine (midL_len _ _ (by show a + 128 ≤ all.length; rw [h2]; exact this) (Nat.le_refl _)).trans h2
end Go.Proofs.YtilmgiompalggaaGreatDoor.W
/- The tables by which a cache is fetched: what is reckoned. No condition. -/
namespace Go.Proofs.YtilmgiompalggaaGreatDoor.W
open Go Go.RowKit Go.Eng
set_option maxRecDepth 100000
set_option linter.unusedVariables false
set_option linter.unusedSimpArgs false
structure TaX where
  N : Nat
  c : Nat
  u : Nat
  d : Nat
  p : Nat
  e : Nat
structure TaI where
  x : TaX
  k : Nat
  xs : List Int
  all : List Int
  s : Bool
def planB (x : TaX) : ABlk := ⟨true, 5, .cells [.int .i64 x.c, .int .i64 x.u, .int .i64 x.d, .int .i64 x.p, .int .i64 x.e]⟩
def wordB (l : List Int) : ABlk := ⟨true, 1, .ints .u32 l⟩
def taP (x : TaX) : Prop := x.N ≤ 512 ∧ x.c < x.u ∧ x.u ≤ x.c + 64 ∧ x.u ≤ 400
def taL (P : Program) : LpE TaI TaX (List Int × List Int) where
  B := 3
  n := ntmpsOf P F_monitor_plan_tables
  code := loopOf P F_monitor_plan_tables 0
  fit s H := match s.get 1, s.get 2 with
    | .ptr b _ _, .ptr b3 _ _ => match H.get b, H.get b3, H.get 2 with
      | some k, some k3, some k2 => match k.c, k3.c, k2.c with
        | .cells [.sl _ _ _ n _ _], .cells [.int _ c, .int _ u, .int _ d, .int _ p, .int _ e], .ints _ l => some ⟨⟨n, c.toNat, u.toNat, d.toNat, p.toNat, e.toNat⟩, c.toNat, [], l, false⟩
        | _, _, _ => none
      | _, _, _ => none
    | _, _ => none
  pre i := taP i.x ∧ i.all.length = 64 * i.x.N ∧ i.x.c ≤ i.k ∧ i.k ≤ i.x.u ∧ i.xs.length ≤ i.k - i.x.c ∧ (i.s = true → 1 ≤ i.xs.length) ∧ (i.s = false → i.k = i.x.c)
  slots i := [(1, .ptr 0 0 0), (2, .ptr 3 0 0), (5, bif i.s then .sl 4 0 0 i.xs.length i.xs.length false else .nils), (6, .int .i64 i.k)]
  nx i := bif i.s then 5 else 4
  L i := bif i.s then [(0, ramB 1 i.x.N), (1, frameB 2 i.x.N), (2, byteB i.all), (3, planB i.x), (4, wordB i.xs)] else [(0, ramB 1 i.x.N), (1, frameB 2 i.x.N), (2, byteB i.all), (3, planB i.x)]
  m i := i.x.u - i.k
  par i := i.x
  post x y := y.1.length ≤ 64 ∧ 1 ≤ y.1.length ∧ y.2.length = 64 * x.N
  out x y := ⟨.exit 0, [(5, .sl 4 0 0 y.1.length y.1.length false)], 5, [(0, ramB 1 x.N), (1, frameB 2 x.N), (2, byteB y.2), (4, wordB y.1)]⟩
  sh j := { j with s := true }
structure TaC where
  x : TaX
  all : List Int
def taC : Con TaC (List Int × List Int) where
  f := F_monitor_plan_tables
  fit vs H := match vs with
    | [.agg [.int _ c, .int _ u, .int _ d, .int _ p, .int _ e], .ptr b _ _] => match H.get b with
      | some k => match k.c with
        | .cells [.sl b1 _ _ n _ _] => match H.get b1 with
          | some k1 => match k1.c with
            | .recs _ f => match f 0 with
              | [.sl b2 _ _ _ _ _] => match H.get b2 with
                | some k2 => match k2.c with
                  | .ints _ l => some ([b, b1, b2], ⟨⟨n, c.toNat, u.toNat, d.toNat, p.toNat, e.toNat⟩, l⟩)
                  | _ => none
                | none => none
              | _ => none
            | _ => none
          | none => none
        | _ => none
      | none => none
    | _ => none
  n0 := 3
  pre x := taP x.x ∧ x.all.length = 64 * x.x.N
  args x := [.agg [.int .i64 x.x.c, .int .i64 x.x.u, .int .i64 x.x.d, .int .i64 x.x.p, .int .i64 x.x.e], .ptr 0 0 0]
  L0 x := [(0, ramB 1 x.x.N), (1, frameB 2 x.x.N), (2, byteB x.all)]
  outs x := [(fun y => y.1.length ≤ 64 ∧ 1 ≤ y.1.length ∧ y.2.length = 64 * x.x.N, fun y => (.ret (.sl 3 0 0 y.1.length y.1.length false), 4, [(0, ramB 1 x.x.N), (1, frameB 2 x.x.N), (2, byteB y.2), (3, wordB y.1)]))]
end Go.Proofs.YtilmgiompalggaaGreatDoor.W
/- The tables by which a cache is fetched: the walks. No condition. -/
namespace Go.Proofs.YtilmgiompalggaaGreatDoor.W
open Go Go.RowKit Go.Eng
set_option maxRecDepth 100000
set_option linter.unusedVariables false
set_option linter.unusedSimpArgs false
def taA_c_V (x : TaX) (k : Nat) (xs all : List Int) : Prop :=
  sp (decide ((↑k : Int) < (↑x.u : Int))) (sp ((IntKind.i64.wrap ((↑k : Int) - (↑x.c : Int))).tmod 16 == 0) (sp (decide (0 + xs.length ≤ xs.length) && true && true && true && true && decide ((xs.length + 1) * 4 ≤ 140737488355328) && decide (xs.length + 1 ≤ 9223372036854775807)) ((x.N ≤ 512 ∧ all.length = 64 * x.N ∧ (IntKind.u32.wrap (IntKind.u32.wrap (IntKind.u32.wrap (IntKind.i64.wrap ((↑x.u : Int) + IntKind.i64.wrap ((IntKind.i64.wrap ((↑k : Int) - (↑x.c : Int))).tdiv 16))) * 64) + IntKind.u32.wrap (4 * IntKind.u32.wrap ((IntKind.i64.wrap ((↑k : Int) - (↑x.c : Int))).tmod 16)))).toNat < 4294967296) ∧ [] ++ [AV.ptr 0 0 0, nU (IntKind.u32.wrap (IntKind.u32.wrap (IntKind.u32.wrap (IntKind.i64.wrap ((↑x.u : Int) + IntKind.i64.wrap ((IntKind.i64.wrap ((↑k : Int) - (↑x.c : Int))).tdiv 16))) * 64) + IntKind.u32.wrap (4 * IntKind.u32.wrap ((IntKind.i64.wrap ((↑k : Int) - (↑x.c : Int))).tmod
  16)))), nU (bits BinOp.or IntKind.u32 (bits BinOp.or IntKind.u32 (bits BinOp.or IntKind.u32 (IntKind.u32.wrap (IntKind.u32.wrap (↑k : Int) * 64)) 1) 4) 8)] ++ [] = [AV.ptr 0 0 0, nU (↑(IntKind.u32.wrap (IntKind.u32.wrap (IntKind.u32.wrap (IntKind.i64.wrap ((↑x.u : Int) + IntKind.i64.wrap ((IntKind.i64.wrap ((↑k : Int) - (↑x.c : Int))).tdiv 16))) * 64) + IntKind.u32.wrap (4 * IntKind.u32.wrap ((IntKind.i64.wrap ((↑k : Int) - (↑x.c : Int))).tmod 16)))).toNat : Int), nU (bits BinOp.or IntKind.u32 (bits BinOp.or IntKind.u32 (bits BinOp.or IntKind.u32 (IntKind.u32.wrap (IntKind.u32.wrap (↑k : Int) * 64)) 1) 4) 8)] ∧ (some (bC [AV.sl 1 0 0 x.N x.N false]) = some (bC [AV.sl 1 0 0 x.N x.N false]) ∧ some (ABlk.mk true 1 (AC.recs x.N fun (i : Nat) => [AV.sl 2 (64 * i) 0 64 64 true])) = some (ABlk.mk true 1 (AC.recs x.N fun (i : Nat) => [AV.sl 2 (64 * i) 0 64 64 true])) ∧ some (bW all) = some (bW
  all) ∧ True) ∧ (∀ (y : List Int), y.length = 64 * x.N → ∃ (j : TaI), ((j.x.N ≤ 512 ∧ j.x.c < j.x.u ∧ j.x.u ≤ j.x.c + 64 ∧ j.x.u ≤ 400) ∧ j.all.length = 64 * j.x.N ∧ j.x.c ≤ j.k ∧ j.k ≤ j.x.u ∧ j.xs.length ≤ j.k - j.x.c ∧ (true = true → 1 ≤ j.xs.length) ∧ (true = false → j.k = j.x.c)) ∧ j.x.u - j.k < x.u - k ∧ j.x = x ∧ (AV.ptr 0 0 0 = AV.ptr 0 0 0 ∧ AV.ptr 3 0 0 = AV.ptr 3 0 0 ∧ AV.sl 6 0 0 (xs.length + 1) (xs.length + 1) false = AV.sl 6 0 0 j.xs.length j.xs.length false ∧ nI (IntKind.i64.wrap ((↑k : Int) + 1)) = nI (↑j.k : Int) ∧ True) ∧ bC [AV.sl 1 0 0 x.N x.N false] = bC [AV.sl 1 0 0 j.x.N j.x.N false] ∧ (true = true ∧ 1 = 1 ∧ x.N = j.x.N ∧ ∀ (i : Nat), i < x.N → [AV.sl 2 (64 * i) 0 64 64 true] = [AV.sl 2 (64 * i) 0 64 64 true]) ∧ bW y = bW j.all ∧ ABlk.mk true 5 (AC.cells [nI (↑x.c : Int), nI (↑x.u : Int), nI (↑x.d : Int), nI (↑x.p : Int), nI (↑x.e : Int)]) = ABlk.mk true 5 (AC.cells
  [nI (↑j.x.c : Int), nI (↑j.x.u : Int), nI (↑j.x.d : Int), nI (↑j.x.p : Int), nI (↑j.x.e : Int)]) ∧ ABlk.mk true 1 (AC.ints IntKind.u32 (List.take xs.length (List.drop 0 xs) ++ List.take 1 (List.drop 0 [bits BinOp.or IntKind.u32 (bits BinOp.or IntKind.u32 (bits BinOp.or IntKind.u32 (IntKind.u32.wrap (IntKind.u32.wrap (IntKind.i64.wrap ((↑x.u : Int) + IntKind.i64.wrap ((IntKind.i64.wrap ((↑k : Int) - (↑x.c : Int))).tdiv 16))) * 64)) 1) 2) 4]))) = ABlk.mk true 1 (AC.ints IntKind.u32 j.xs) ∧ True) ∧ (∀ (y : List Int), y.length = 64 * x.N → ∃ (j : TaI), ((j.x.N ≤ 512 ∧ j.x.c < j.x.u ∧ j.x.u ≤ j.x.c + 64 ∧ j.x.u ≤ 400) ∧ j.all.length = 64 * j.x.N ∧ j.x.c ≤ j.k ∧ j.k ≤ j.x.u ∧ j.xs.length ≤ j.k - j.x.c ∧ (true = true → 1 ≤ j.xs.length) ∧ (true = false → j.k = j.x.c)) ∧ j.x.u - j.k < x.u - k ∧ j.x = x ∧ (AV.ptr 0 0 0 = AV.ptr 0 0 0 ∧ AV.ptr 3 0 0 = AV.ptr 3 0 0 ∧ AV.sl 6 0 0 (xs.length + 1)
  (xs.length + 1) false = AV.sl 6 0 0 j.xs.length j.xs.length false ∧ nI (IntKind.i64.wrap ((↑k : Int) + 1)) = nI (↑j.k : Int) ∧ True) ∧ bC [AV.sl 1 0 0 x.N x.N false] = bC [AV.sl 1 0 0 j.x.N j.x.N false] ∧ (true = true ∧ 1 = 1 ∧ x.N = j.x.N ∧ ∀ (i : Nat), i < x.N → [AV.sl 2 (64 * i) 0 64 64 true] = [AV.sl 2 (64 * i) 0 64 64 true]) ∧ bW y = bW j.all ∧ ABlk.mk true 5 (AC.cells [nI (↑x.c : Int), nI (↑x.u : Int), nI (↑x.d : Int), nI (↑x.p : Int), nI (↑x.e : Int)]) = ABlk.mk true 5 (AC.cells [nI (↑j.x.c : Int), nI (↑j.x.u : Int), nI (↑j.x.d : Int), nI (↑j.x.p : Int), nI (↑j.x.e : Int)]) ∧ ABlk.mk true 1 (AC.ints IntKind.u32 (List.take xs.length (List.drop 0 xs) ++ List.take 1 (List.drop 0 [bits BinOp.or IntKind.u32 (bits BinOp.or IntKind.u32 (bits BinOp.or IntKind.u32 (IntKind.u32.wrap (IntKind.u32.wrap (IntKind.i64.wrap ((↑x.u : Int) + IntKind.i64.wrap ((IntKind.i64.wrap ((↑k : Int) - (↑x.c :
  Int))).tdiv 16))) * 64)) 1) 2) 4]))) = ABlk.mk true 1 (AC.ints IntKind.u32 j.xs) ∧ True) ∧ True) False) ((x.N ≤ 512 ∧ all.length = 64 * x.N ∧ (IntKind.u32.wrap (IntKind.u32.wrap (IntKind.u32.wrap (IntKind.i64.wrap ((↑x.u : Int) + IntKind.i64.wrap ((IntKind.i64.wrap ((↑k : Int) - (↑x.c : Int))).tdiv 16))) * 64) + IntKind.u32.wrap (4 * IntKind.u32.wrap ((IntKind.i64.wrap ((↑k : Int) - (↑x.c : Int))).tmod 16)))).toNat < 4294967296) ∧ [] ++ [AV.ptr 0 0 0, nU (IntKind.u32.wrap (IntKind.u32.wrap (IntKind.u32.wrap (IntKind.i64.wrap ((↑x.u : Int) + IntKind.i64.wrap ((IntKind.i64.wrap ((↑k : Int) - (↑x.c : Int))).tdiv 16))) * 64) + IntKind.u32.wrap (4 * IntKind.u32.wrap ((IntKind.i64.wrap ((↑k : Int) - (↑x.c : Int))).tmod 16)))), nU (bits BinOp.or IntKind.u32 (bits BinOp.or IntKind.u32 (bits BinOp.or IntKind.u32 (IntKind.u32.wrap (IntKind.u32.wrap (↑k : Int) * 64)) 1) 4) 8)] ++ [] = [AV.ptr 0 0 0,
  nU (↑(IntKind.u32.wrap (IntKind.u32.wrap (IntKind.u32.wrap (IntKind.i64.wrap ((↑x.u : Int) + IntKind.i64.wrap ((IntKind.i64.wrap ((↑k : Int) - (↑x.c : Int))).tdiv 16))) * 64) + IntKind.u32.wrap (4 * IntKind.u32.wrap ((IntKind.i64.wrap ((↑k : Int) - (↑x.c : Int))).tmod 16)))).toNat : Int), nU (bits BinOp.or IntKind.u32 (bits BinOp.or IntKind.u32 (bits BinOp.or IntKind.u32 (IntKind.u32.wrap (IntKind.u32.wrap (↑k : Int) * 64)) 1) 4) 8)] ∧ (some (bC [AV.sl 1 0 0 x.N x.N false]) = some (bC [AV.sl 1 0 0 x.N x.N false]) ∧ some (ABlk.mk true 1 (AC.recs x.N fun (i : Nat) => [AV.sl 2 (64 * i) 0 64 64 true])) = some (ABlk.mk true 1 (AC.recs x.N fun (i : Nat) => [AV.sl 2 (64 * i) 0 64 64 true])) ∧ some (bW all) = some (bW all) ∧ True) ∧ (∀ (y : List Int), y.length = 64 * x.N → ∃ (j : TaI), ((j.x.N ≤ 512 ∧ j.x.c < j.x.u ∧ j.x.u ≤ j.x.c + 64 ∧ j.x.u ≤ 400) ∧ j.all.length = 64 * j.x.N ∧ j.x.c ≤ j.k ∧
  j.k ≤ j.x.u ∧ j.xs.length ≤ j.k - j.x.c ∧ (true = true → 1 ≤ j.xs.length) ∧ (true = false → j.k = j.x.c)) ∧ j.x.u - j.k < x.u - k ∧ j.x = x ∧ (AV.ptr 0 0 0 = AV.ptr 0 0 0 ∧ AV.ptr 3 0 0 = AV.ptr 3 0 0 ∧ AV.sl 4 0 0 xs.length xs.length false = AV.sl 4 0 0 j.xs.length j.xs.length false ∧ nI (IntKind.i64.wrap ((↑k : Int) + 1)) = nI (↑j.k : Int) ∧ True) ∧ bC [AV.sl 1 0 0 x.N x.N false] = bC [AV.sl 1 0 0 j.x.N j.x.N false] ∧ (true = true ∧ 1 = 1 ∧ x.N = j.x.N ∧ ∀ (i : Nat), i < x.N → [AV.sl 2 (64 * i) 0 64 64 true] = [AV.sl 2 (64 * i) 0 64 64 true]) ∧ bW y = bW j.all ∧ ABlk.mk true 5 (AC.cells [nI (↑x.c : Int), nI (↑x.u : Int), nI (↑x.d : Int), nI (↑x.p : Int), nI (↑x.e : Int)]) = ABlk.mk true 5 (AC.cells [nI (↑j.x.c : Int), nI (↑j.x.u : Int), nI (↑j.x.d : Int), nI (↑j.x.p : Int), nI (↑j.x.e : Int)]) ∧ ABlk.mk true 1 (AC.ints IntKind.u32 xs) = ABlk.mk true 1 (AC.ints IntKind.u32 j.xs) ∧ True)
  ∧ (∀ (y : List Int), y.length = 64 * x.N → ∃ (j : TaI), ((j.x.N ≤ 512 ∧ j.x.c < j.x.u ∧ j.x.u ≤ j.x.c + 64 ∧ j.x.u ≤ 400) ∧ j.all.length = 64 * j.x.N ∧ j.x.c ≤ j.k ∧ j.k ≤ j.x.u ∧ j.xs.length ≤ j.k - j.x.c ∧ (true = true → 1 ≤ j.xs.length) ∧ (true = false → j.k = j.x.c)) ∧ j.x.u - j.k < x.u - k ∧ j.x = x ∧ (AV.ptr 0 0 0 = AV.ptr 0 0 0 ∧ AV.ptr 3 0 0 = AV.ptr 3 0 0 ∧ AV.sl 4 0 0 xs.length xs.length false = AV.sl 4 0 0 j.xs.length j.xs.length false ∧ nI (IntKind.i64.wrap ((↑k : Int) + 1)) = nI (↑j.k : Int) ∧ True) ∧ bC [AV.sl 1 0 0 x.N x.N false] = bC [AV.sl 1 0 0 j.x.N j.x.N false] ∧ (true = true ∧ 1 = 1 ∧ x.N = j.x.N ∧ ∀ (i : Nat), i < x.N → [AV.sl 2 (64 * i) 0 64 64 true] = [AV.sl 2 (64 * i) 0 64 64 true]) ∧ bW y = bW j.all ∧ ABlk.mk true 5 (AC.cells [nI (↑x.c : Int), nI (↑x.u : Int), nI (↑x.d : Int), nI (↑x.p : Int), nI (↑x.e : Int)]) = ABlk.mk true 5 (AC.cells [nI (↑j.x.c : Int), nI
  (↑j.x.u : Int), nI (↑j.x.d : Int), nI (↑j.x.p : Int), nI (↑j.x.e : Int)]) ∧ ABlk.mk true 1 (AC.ints IntKind.u32 xs) = ABlk.mk true 1 (AC.ints IntKind.u32 j.xs) ∧ True) ∧ True)) (∃ (y : List Int × List Int), (y.fst.length ≤ 64 ∧ 1 ≤ y.fst.length ∧ y.snd.length = 64 * x.N) ∧ (AV.sl 4 0 0 xs.length xs.length false = AV.sl 4 0 0 y.fst.length y.fst.length false ∧ True) ∧ bC [AV.sl 1 0 0 x.N x.N false] = bC [AV.sl 1 0 0 x.N x.N false] ∧ (true = true ∧ 1 = 1 ∧ x.N = x.N ∧ ∀ (i : Nat), i < x.N → [AV.sl 2 (64 * i) 0 64 64 true] = [AV.sl 2 (64 * i) 0 64 64 true]) ∧ bW all = bW y.snd ∧ ABlk.mk true 1 (AC.ints IntKind.u32 xs) = ABlk.mk true 1 (AC.ints IntKind.u32 y.fst) ∧ True)
theorem taA_c_e (x : TaX) (k : Nat) (xs all : List Int) : some (taA_c_V x k xs all) = (some ((taL Go.Proofs.Tryz.prog).body sp Go.Proofs.Tryz.prog (swC.orc sp) (drPL sp Go.Proofs.Tryz.prog (swC.orc sp)) noLo 40 ⟨x, k, xs, all, true⟩)) := by kernel_rfl
def taB_c_V (x : TaX) (all : List Int) : Prop :=
  sp (decide ((↑x.c : Int) < (↑x.u : Int))) (sp ((IntKind.i64.wrap ((↑x.c : Int) - (↑x.c : Int))).tmod 16 == 0) ((x.N ≤ 512 ∧ all.length = 64 * x.N ∧ (IntKind.u32.wrap (IntKind.u32.wrap (IntKind.u32.wrap (IntKind.i64.wrap ((↑x.u : Int) + IntKind.i64.wrap ((IntKind.i64.wrap ((↑x.c : Int) - (↑x.c : Int))).tdiv 16))) * 64) + IntKind.u32.wrap (4 * IntKind.u32.wrap ((IntKind.i64.wrap ((↑x.c : Int) - (↑x.c : Int))).tmod 16)))).toNat < 4294967296) ∧ [] ++ [AV.ptr 0 0 0, nU (IntKind.u32.wrap (IntKind.u32.wrap (IntKind.u32.wrap (IntKind.i64.wrap ((↑x.u : Int) + IntKind.i64.wrap ((IntKind.i64.wrap ((↑x.c : Int) - (↑x.c : Int))).tdiv 16))) * 64) + IntKind.u32.wrap (4 * IntKind.u32.wrap ((IntKind.i64.wrap ((↑x.c : Int) - (↑x.c : Int))).tmod 16)))), nU (bits BinOp.or IntKind.u32 (bits BinOp.or IntKind.u32 (bits BinOp.or IntKind.u32 (IntKind.u32.wrap (IntKind.u32.wrap (↑x.c : Int) * 64)) 1) 4) 8)] ++ []
  = [AV.ptr 0 0 0, nU (↑(IntKind.u32.wrap (IntKind.u32.wrap (IntKind.u32.wrap (IntKind.i64.wrap ((↑x.u : Int) + IntKind.i64.wrap ((IntKind.i64.wrap ((↑x.c : Int) - (↑x.c : Int))).tdiv 16))) * 64) + IntKind.u32.wrap (4 * IntKind.u32.wrap ((IntKind.i64.wrap ((↑x.c : Int) - (↑x.c : Int))).tmod 16)))).toNat : Int), nU (bits BinOp.or IntKind.u32 (bits BinOp.or IntKind.u32 (bits BinOp.or IntKind.u32 (IntKind.u32.wrap (IntKind.u32.wrap (↑x.c : Int) * 64)) 1) 4) 8)] ∧ (some (bC [AV.sl 1 0 0 x.N x.N false]) = some (bC [AV.sl 1 0 0 x.N x.N false]) ∧ some (ABlk.mk true 1 (AC.recs x.N fun (i : Nat) => [AV.sl 2 (64 * i) 0 64 64 true])) = some (ABlk.mk true 1 (AC.recs x.N fun (i : Nat) => [AV.sl 2 (64 * i) 0 64 64 true])) ∧ some (bW all) = some (bW all) ∧ True) ∧ (∀ (y : List Int), y.length = 64 * x.N → ∃ (j : TaI), ((j.x.N ≤ 512 ∧ j.x.c < j.x.u ∧ j.x.u ≤ j.x.c + 64 ∧ j.x.u ≤ 400) ∧ j.all.length = 64 *
  j.x.N ∧ j.x.c ≤ j.k ∧ j.k ≤ j.x.u ∧ j.xs.length ≤ j.k - j.x.c ∧ (true = true → 1 ≤ j.xs.length) ∧ (true = false → j.k = j.x.c)) ∧ j.x.u - j.k < x.u - x.c ∧ j.x = x ∧ (AV.ptr 0 0 0 = AV.ptr 0 0 0 ∧ AV.ptr 3 0 0 = AV.ptr 3 0 0 ∧ AV.sl 5 0 0 1 1 false = AV.sl 5 0 0 j.xs.length j.xs.length false ∧ nI (IntKind.i64.wrap ((↑x.c : Int) + 1)) = nI (↑j.k : Int) ∧ True) ∧ bC [AV.sl 1 0 0 x.N x.N false] = bC [AV.sl 1 0 0 j.x.N j.x.N false] ∧ (true = true ∧ 1 = 1 ∧ x.N = j.x.N ∧ ∀ (i : Nat), i < x.N → [AV.sl 2 (64 * i) 0 64 64 true] = [AV.sl 2 (64 * i) 0 64 64 true]) ∧ bW y = bW j.all ∧ ABlk.mk true 5 (AC.cells [nI (↑x.c : Int), nI (↑x.u : Int), nI (↑x.d : Int), nI (↑x.p : Int), nI (↑x.e : Int)]) = ABlk.mk true 5 (AC.cells [nI (↑j.x.c : Int), nI (↑j.x.u : Int), nI (↑j.x.d : Int), nI (↑j.x.p : Int), nI (↑j.x.e : Int)]) ∧ ABlk.mk true 1 (AC.ints IntKind.u32 (List.take 1 (List.drop 0 [bits BinOp.or
  IntKind.u32 (bits BinOp.or IntKind.u32 (bits BinOp.or IntKind.u32 (IntKind.u32.wrap (IntKind.u32.wrap (IntKind.i64.wrap ((↑x.u : Int) + IntKind.i64.wrap ((IntKind.i64.wrap ((↑x.c : Int) - (↑x.c : Int))).tdiv 16))) * 64)) 1) 2) 4]))) = ABlk.mk true 1 (AC.ints IntKind.u32 j.xs) ∧ True) ∧ (∀ (y : List Int), y.length = 64 * x.N → ∃ (j : TaI), ((j.x.N ≤ 512 ∧ j.x.c < j.x.u ∧ j.x.u ≤ j.x.c + 64 ∧ j.x.u ≤ 400) ∧ j.all.length = 64 * j.x.N ∧ j.x.c ≤ j.k ∧ j.k ≤ j.x.u ∧ j.xs.length ≤ j.k - j.x.c ∧ (true = true → 1 ≤ j.xs.length) ∧ (true = false → j.k = j.x.c)) ∧ j.x.u - j.k < x.u - x.c ∧ j.x = x ∧ (AV.ptr 0 0 0 = AV.ptr 0 0 0 ∧ AV.ptr 3 0 0 = AV.ptr 3 0 0 ∧ AV.sl 5 0 0 1 1 false = AV.sl 5 0 0 j.xs.length j.xs.length false ∧ nI (IntKind.i64.wrap ((↑x.c : Int) + 1)) = nI (↑j.k : Int) ∧ True) ∧ bC [AV.sl 1 0 0 x.N x.N false] = bC [AV.sl 1 0 0 j.x.N j.x.N false] ∧ (true = true ∧ 1 = 1 ∧ x.N = j.x.N ∧ ∀
  (i : Nat), i < x.N → [AV.sl 2 (64 * i) 0 64 64 true] = [AV.sl 2 (64 * i) 0 64 64 true]) ∧ bW y = bW j.all ∧ ABlk.mk true 5 (AC.cells [nI (↑x.c : Int), nI (↑x.u : Int), nI (↑x.d : Int), nI (↑x.p : Int), nI (↑x.e : Int)]) = ABlk.mk true 5 (AC.cells [nI (↑j.x.c : Int), nI (↑j.x.u : Int), nI (↑j.x.d : Int), nI (↑j.x.p : Int), nI (↑j.x.e : Int)]) ∧ ABlk.mk true 1 (AC.ints IntKind.u32 (List.take 1 (List.drop 0 [bits BinOp.or IntKind.u32 (bits BinOp.or IntKind.u32 (bits BinOp.or IntKind.u32 (IntKind.u32.wrap (IntKind.u32.wrap (IntKind.i64.wrap ((↑x.u : Int) + IntKind.i64.wrap ((IntKind.i64.wrap ((↑x.c : Int) - (↑x.c : Int))).tdiv 16))) * 64)) 1) 2) 4]))) = ABlk.mk true 1 (AC.ints IntKind.u32 j.xs) ∧ True) ∧ True) ((x.N ≤ 512 ∧ all.length = 64 * x.N ∧ (IntKind.u32.wrap (IntKind.u32.wrap (IntKind.u32.wrap (IntKind.i64.wrap ((↑x.u : Int) + IntKind.i64.wrap ((IntKind.i64.wrap ((↑x.c : Int) - (↑x.c :
  Int))).tdiv 16))) * 64) + IntKind.u32.wrap (4 * IntKind.u32.wrap ((IntKind.i64.wrap ((↑x.c : Int) - (↑x.c : Int))).tmod 16)))).toNat < 4294967296) ∧ [] ++ [AV.ptr 0 0 0, nU (IntKind.u32.wrap (IntKind.u32.wrap (IntKind.u32.wrap (IntKind.i64.wrap ((↑x.u : Int) + IntKind.i64.wrap ((IntKind.i64.wrap ((↑x.c : Int) - (↑x.c : Int))).tdiv 16))) * 64) + IntKind.u32.wrap (4 * IntKind.u32.wrap ((IntKind.i64.wrap ((↑x.c : Int) - (↑x.c : Int))).tmod 16)))), nU (bits BinOp.or IntKind.u32 (bits BinOp.or IntKind.u32 (bits BinOp.or IntKind.u32 (IntKind.u32.wrap (IntKind.u32.wrap (↑x.c : Int) * 64)) 1) 4) 8)] ++ [] = [AV.ptr 0 0 0, nU (↑(IntKind.u32.wrap (IntKind.u32.wrap (IntKind.u32.wrap (IntKind.i64.wrap ((↑x.u : Int) + IntKind.i64.wrap ((IntKind.i64.wrap ((↑x.c : Int) - (↑x.c : Int))).tdiv 16))) * 64) + IntKind.u32.wrap (4 * IntKind.u32.wrap ((IntKind.i64.wrap ((↑x.c : Int) - (↑x.c : Int))).tmod
  16)))).toNat : Int), nU (bits BinOp.or IntKind.u32 (bits BinOp.or IntKind.u32 (bits BinOp.or IntKind.u32 (IntKind.u32.wrap (IntKind.u32.wrap (↑x.c : Int) * 64)) 1) 4) 8)] ∧ (some (bC [AV.sl 1 0 0 x.N x.N false]) = some (bC [AV.sl 1 0 0 x.N x.N false]) ∧ some (ABlk.mk true 1 (AC.recs x.N fun (i : Nat) => [AV.sl 2 (64 * i) 0 64 64 true])) = some (ABlk.mk true 1 (AC.recs x.N fun (i : Nat) => [AV.sl 2 (64 * i) 0 64 64 true])) ∧ some (bW all) = some (bW all) ∧ True) ∧ (∀ (y : List Int), y.length = 64 * x.N → ∃ (j : TaI), ((j.x.N ≤ 512 ∧ j.x.c < j.x.u ∧ j.x.u ≤ j.x.c + 64 ∧ j.x.u ≤ 400) ∧ j.all.length = 64 * j.x.N ∧ j.x.c ≤ j.k ∧ j.k ≤ j.x.u ∧ j.xs.length ≤ j.k - j.x.c ∧ (true = true → 1 ≤ j.xs.length) ∧ (true = false → j.k = j.x.c)) ∧ j.x.u - j.k < x.u - x.c ∧ j.x = x ∧ (AV.ptr 0 0 0 = AV.ptr 0 0 0 ∧ AV.ptr 3 0 0 = AV.ptr 3 0 0 ∧ AV.nils = AV.sl 4 0 0 j.xs.length j.xs.length false ∧ nI
  (IntKind.i64.wrap ((↑x.c : Int) + 1)) = nI (↑j.k : Int) ∧ True) ∧ bC [AV.sl 1 0 0 x.N x.N false] = bC [AV.sl 1 0 0 j.x.N j.x.N false] ∧ (true = true ∧ 1 = 1 ∧ x.N = j.x.N ∧ ∀ (i : Nat), i < x.N → [AV.sl 2 (64 * i) 0 64 64 true] = [AV.sl 2 (64 * i) 0 64 64 true]) ∧ bW y = bW j.all ∧ ABlk.mk true 5 (AC.cells [nI (↑x.c : Int), nI (↑x.u : Int), nI (↑x.d : Int), nI (↑x.p : Int), nI (↑x.e : Int)]) = ABlk.mk true 5 (AC.cells [nI (↑j.x.c : Int), nI (↑j.x.u : Int), nI (↑j.x.d : Int), nI (↑j.x.p : Int), nI (↑j.x.e : Int)]) ∧ False ∧ True) ∧ (∀ (y : List Int), y.length = 64 * x.N → ∃ (j : TaI), ((j.x.N ≤ 512 ∧ j.x.c < j.x.u ∧ j.x.u ≤ j.x.c + 64 ∧ j.x.u ≤ 400) ∧ j.all.length = 64 * j.x.N ∧ j.x.c ≤ j.k ∧ j.k ≤ j.x.u ∧ j.xs.length ≤ j.k - j.x.c ∧ (true = true → 1 ≤ j.xs.length) ∧ (true = false → j.k = j.x.c)) ∧ j.x.u - j.k < x.u - x.c ∧ j.x = x ∧ (AV.ptr 0 0 0 = AV.ptr 0 0 0 ∧ AV.ptr 3 0 0 = AV.ptr 3 0
  0 ∧ AV.nils = AV.sl 4 0 0 j.xs.length j.xs.length false ∧ nI (IntKind.i64.wrap ((↑x.c : Int) + 1)) = nI (↑j.k : Int) ∧ True) ∧ bC [AV.sl 1 0 0 x.N x.N false] = bC [AV.sl 1 0 0 j.x.N j.x.N false] ∧ (true = true ∧ 1 = 1 ∧ x.N = j.x.N ∧ ∀ (i : Nat), i < x.N → [AV.sl 2 (64 * i) 0 64 64 true] = [AV.sl 2 (64 * i) 0 64 64 true]) ∧ bW y = bW j.all ∧ ABlk.mk true 5 (AC.cells [nI (↑x.c : Int), nI (↑x.u : Int), nI (↑x.d : Int), nI (↑x.p : Int), nI (↑x.e : Int)]) = ABlk.mk true 5 (AC.cells [nI (↑j.x.c : Int), nI (↑j.x.u : Int), nI (↑j.x.d : Int), nI (↑j.x.p : Int), nI (↑j.x.e : Int)]) ∧ False ∧ True) ∧ True)) (∃ (y : List Int × List Int), (y.fst.length ≤ 64 ∧ 1 ≤ y.fst.length ∧ y.snd.length = 64 * x.N) ∧ (AV.nils = AV.sl 4 0 0 y.fst.length y.fst.length false ∧ True) ∧ bC [AV.sl 1 0 0 x.N x.N false] = bC [AV.sl 1 0 0 x.N x.N false] ∧ (true = true ∧ 1 = 1 ∧ x.N = x.N ∧ ∀ (i : Nat), i < x.N → [AV.sl 2
  (64 * i) 0 64 64 true] = [AV.sl 2 (64 * i) 0 64 64 true]) ∧ bW all = bW y.snd ∧ False ∧ True)
theorem taB_c_e (x : TaX) (all : List Int) : some (taB_c_V x all) = (some ((taL Go.Proofs.Tryz.prog).body sp Go.Proofs.Tryz.prog (swC.orc sp) (drPL sp Go.Proofs.Tryz.prog (swC.orc sp)) noLo 40 ⟨x, x.c, [], all, false⟩)) := by kernel_rfl
theorem u32_bd (z : Int) : 0 ≤ IntKind.u32.wrap z ∧ IntKind.u32.wrap z < 4294967296 := by rw [IntKind.wrap_u32]; omega
theorem u32_nat (z : Int) : (((IntKind.u32.wrap z).toNat : Nat) : Int) = IntKind.u32.wrap z := by have := u32_bd z; omega
theorem u32_lt (z : Int) : (IntKind.u32.wrap z).toNat < 4294967296 := by have := u32_bd z; omega
set_option maxRecDepth 100000 in
theorem taB_ok (x : TaX) (all : List Int) (hp : taP x) (ha : all.length = 64 * x.N) : taB_c_V x all := by
  obtain ⟨h1, h2, h3, h4⟩ := hp
  unfold taB_c_V
  have e1 : IntKind.wrap .i64 ((x.c : Int) + 1) = ((x.c + 1 : Nat) : Int) := by rw [IntWalk.i64_in _ (by omega)]; omega
  have d1 : decide ((x.c : Int) < (x.u : Int)) = true := decide_eq_true (by omega)
  have d2 : ((IntKind.wrap .i64 ((x.c : Int) - (x.c : Int))).tmod 16 == 0) = true := by rw [Int.sub_self]; rfl
  simp only [d1, d2, e1, u32_nat, sp]
  refine ⟨⟨h1, ha, u32_lt _⟩, by first | trivial | rfl, by repeat' (first | trivial | exact rfl | exact fun _ _ => trivial | exact fun _ _ => rfl | apply And.intro), ?_, ?_, trivial⟩
  all_goals
    intro y hy
    refine ⟨⟨x, x.c + 1, _, y, true⟩, ?_, ?_, rfl, ⟨trivial, trivial, ?_, rfl, trivial⟩, ?_, ?_, rfl, rfl, rfl, trivial⟩
    rotate_left 4
    · repeat' (first | trivial | exact rfl | exact fun _ _ => trivial | exact fun _ _ => rfl | apply And.intro)
    · refine ⟨⟨h1, h2, h3, h4⟩, hy, ?_, ?_, ?_, fun _ => Nat.le_refl _, fun h => by cases h⟩
      · show x.c ≤ x.c + 1; omega
      · show x.c + 1 ≤ x.u; omega
      · show 1 ≤ x.c + 1 - x.c; omega
    · show x.u - (x.c + 1) < x.u - x.c; omega
    · rfl
    · repeat' (first | trivial | exact rfl | exact fun _ _ => trivial | exact fun _ _ => rfl | apply And.intro)
set_option maxRecDepth 100000 in
theorem taA_ok (x : TaX) (k : Nat) (xs all : List Int) (hp : taP x) (ha : all.length = 64 * x.N) (hk1 : x.c ≤ k) (hk2 : k ≤ x.u) (hx : xs.length ≤ k - x.c) (hx1 : 1 ≤ xs.length) : taA_c_V x k xs all := by
  obtain ⟨h1, h2, h3, h4⟩ := hp
  unfold taA_c_V
  by_cases hk : k < x.u
  · have e1 : IntKind.wrap .i64 ((k : Int) + 1) = ((k + 1 : Nat) : Int) := by rw [IntWalk.i64_in _ (by omega)]; omega
    have d1 : decide ((k : Int) < (x.u : Int)) = true := decide_eq_true (by omega)
    simp only [d1, e1, u32_nat]
    refine spI (fun _ => spI (fun _ => spI (fun _ => ?_) (fun h => ?_)) (fun _ => ?_)) (fun h => by cases h)
    · refine ⟨⟨h1, ha, u32_lt _⟩, by first | trivial | rfl, by repeat' (first | trivial | exact rfl | exact fun _ _ => trivial | exact fun _ _ => rfl | apply And.intro), ?_, ?_, trivial⟩
      all_goals
        intro y hy
        refine ⟨⟨x, k + 1, _, y, true⟩, ?_, ?_, rfl, ⟨trivial, trivial, ?_, rfl, trivial⟩, ?_, ?_, rfl, rfl, rfl, trivial⟩
        rotate_left 4
        · repeat' (first | trivial | exact rfl | exact fun _ _ => trivial | exact fun _ _ => rfl | apply And.intro)
        · refine ⟨⟨h1, h2, h3, h4⟩, hy, ?_, hk, ?_, ?_, fun h => by cases h⟩
          · show x.c ≤ k + 1; omega
          · show (List.take xs.length (List.drop 0 xs) ++ List.take 1 (List.drop 0 _)).length ≤ k + 1 - x.c
            simp; omega
          · intro _
            show 1 ≤ (List.take xs.length (List.drop 0 xs) ++ List.take 1 (List.drop 0 _)).length
            simp
        · show x.u - (k + 1) < x.u - k; omega
        · show AV.sl 6 0 0 (xs.length + 1) (xs.length + 1) false = AV.sl 6 0 0 (List.take xs.length (List.drop 0 xs) ++ List.take 1 (List.drop 0 _)).length (List.take xs.length (List.drop 0 xs) ++ List.take 1 (List.drop 0 _)).length false
          simp
        · repeat' (first | trivial | exact rfl | exact fun _ _ => trivial | exact fun _ _ => rfl | apply And.intro)
    · simp at h; omega
    · refine ⟨⟨h1, ha, u32_lt _⟩, by first | trivial | rfl, by repeat' (first | trivial | exact rfl | exact fun _ _ => trivial | exact fun _ _ => rfl | apply And.intro), ?_, ?_, trivial⟩
      all_goals
        intro y hy
        refine ⟨⟨x, k + 1, xs, y, true⟩, ⟨⟨h1, h2, h3, h4⟩, hy, ?_, hk, ?_, fun _ => hx1, fun h => by cases h⟩, ?_, rfl, ⟨trivial, trivial, rfl, rfl, trivial⟩, by repeat' (first | trivial | exact rfl | exact fun _ _ => trivial | exact fun _ _ => rfl | apply And.intro), by repeat' (first | trivial | exact rfl | exact fun _ _ => trivial | exact fun _ _ => rfl | apply And.intro), rfl, rfl, rfl, trivial⟩
        · show x.c ≤ k + 1; omega
        · show xs.length ≤ k + 1 - x.c; omega
        · show x.u - (k + 1) < x.u - k; omega
  · have d1 : decide ((k : Int) < (x.u : Int)) = false := decide_eq_false (by omega)
    simp only [d1, sp]
    refine ⟨(xs, all), ⟨by show xs.length ≤ 64; omega, hx1, ha⟩, ?_⟩
    repeat' (first | trivial | exact rfl | exact fun _ _ => trivial | exact fun _ _ => rfl | apply And.intro)
set_option maxRecDepth 100000 in
theorem taL_ok : (taL Go.Proofs.Tryz.prog).OK Go.Proofs.Tryz.prog := by
  refine LpE.ok_of (Con.orc_ok swC_ok) (drPL_ok hmix _ (Con.orc_ok swC_ok)) (noLo_ok _) (by decide) 40 (fun i hi => ?_)
  obtain ⟨x, k, xs, all, s⟩ := i
  obtain ⟨hp, ha, h1, h2, h3, h4, h5⟩ := hi
  cases s with
  | true =>
    rw [← Option.some.inj (taA_c_e x k xs all)]
    exact taA_ok x k xs all hp ha h1 h2 h3 (h4 rfl)
  | false =>
    have e : k = x.c := h5 rfl
    subst e
    have ex : xs = [] := List.eq_nil_of_length_eq_zero (by have h3 : xs.length ≤ x.c - x.c := h3
                                                           omega)
    subst ex
    rw [← Option.some.inj (taB_c_e x all)]
    exact taB_ok x all hp ha
def taC_c_V (x : TaC) : Prop :=
  same (loopOf Proofs.Tryz.prog F_monitor_plan_tables 0) (loopOf Proofs.Tryz.prog F_monitor_plan_tables 0) ∧ ((x.x.N ≤ 512 ∧ (↑x.x.c : Int).toNat < (↑x.x.u : Int).toNat ∧ (↑x.x.u : Int).toNat ≤ (↑x.x.c : Int).toNat + 64 ∧ (↑x.x.u : Int).toNat ≤ 400) ∧ x.all.length = 64 * x.x.N ∧ (↑x.x.c : Int).toNat ≤ (↑x.x.c : Int).toNat ∧ (↑x.x.c : Int).toNat ≤ (↑x.x.u : Int).toNat ∧ 0 ≤ (↑x.x.c : Int).toNat - (↑x.x.c : Int).toNat ∧ (false = true → 1 ≤ 0) ∧ (false = false → (↑x.x.c : Int).toNat = (↑x.x.c : Int).toNat)) ∧ ((AV.ptr 0 0 0 = AV.ptr 0 0 0 ∧ AV.ptr 3 0 0 = AV.ptr 3 0 0 ∧ AV.nils = AV.nils ∧ nI (↑x.x.c : Int) = nI (↑(↑x.x.c : Int).toNat : Int) ∧ True) ∧ bC [AV.sl 1 0 0 x.x.N x.x.N false] = bC [AV.sl 1 0 0 x.x.N x.x.N false] ∧ (true = true ∧ 1 = 1 ∧ x.x.N = x.x.N ∧ ∀ (i : Nat), i < x.x.N → [AV.sl 2 (64 * i) 0 64 64 true] = [AV.sl 2 (64 * i) 0 64 64 true]) ∧ bW x.all = bW x.all ∧ ABlk.mk true [nI
  (↑x.x.c : Int), nI (↑x.x.u : Int), nI (↑x.x.d : Int), nI (↑x.x.p : Int), nI (↑x.x.e : Int)].length (AC.cells [nI (↑x.x.c : Int), nI (↑x.x.u : Int), nI (↑x.x.d : Int), nI (↑x.x.p : Int), nI (↑x.x.e : Int)]) = ABlk.mk true 5 (AC.cells [nI (↑(↑x.x.c : Int).toNat : Int), nI (↑(↑x.x.u : Int).toNat : Int), nI (↑(↑x.x.d : Int).toNat : Int), nI (↑(↑x.x.p : Int).toNat : Int), nI (↑(↑x.x.e : Int).toNat : Int)]) ∧ True) ∧ ∀ (y : List Int × List Int), y.fst.length ≤ 64 ∧ 1 ≤ y.fst.length ∧ y.snd.length = 64 * x.x.N → ∃ (y_1 : List Int × List Int), (y_1.fst.length ≤ 64 ∧ 1 ≤ y_1.fst.length ∧ y_1.snd.length = 64 * x.x.N) ∧ [AV.sl 4 0 0 y.fst.length y.fst.length false] = [AV.sl 4 0 0 y_1.fst.length y_1.fst.length false] ∧ bC [AV.sl 1 0 0 x.x.N x.x.N false] = bC [AV.sl 1 0 0 x.x.N x.x.N false] ∧ (true = true ∧ 1 = 1 ∧ x.x.N = x.x.N ∧ ∀ (i : Nat), i < x.x.N → [AV.sl 2 (64 * i) 0 64 64 true] = [AV.sl 2 (64
  * i) 0 64 64 true]) ∧ bW y.snd = bW y_1.snd ∧ ABlk.mk true 1 (AC.ints IntKind.u32 y.fst) = ABlk.mk true 1 (AC.ints IntKind.u32 y_1.fst) ∧ True
theorem taC_c_e (x : TaC) : some (taC_c_V x) = (taC.cond sp Go.Proofs.Tryz.prog (drPL sp Go.Proofs.Tryz.prog) (forF F_monitor_plan_tables ((taL Go.Proofs.Tryz.prog).lo sp Go.Proofs.Tryz.prog (isLoop 3) (loopOf Go.Proofs.Tryz.prog F_monitor_plan_tables 0)) noLoops) noBaseK 40 2 x) := by kernel_rfl
set_option maxRecDepth 100000 in
theorem taC_ok : taC.OK Go.Proofs.Tryz.prog := by
  refine Con.byL' hmix (forF_ok (LpE.lo_ok taL_ok rfl) (noLoops_ok _)) (noBaseK_ok _) taC_c_V taC_c_e (fun x hx => ?_)
  obtain ⟨x, all⟩ := x
  obtain ⟨⟨h1, h2, h3, h4⟩, ha⟩ := hx
  have ha : all.length = 64 * x.N := ha
  unfold taC_c_V
  simp only [Int.toNat_natCast]
  refine ⟨rfl, ⟨⟨h1, h2, h3, h4⟩, ha, Nat.le_refl _, Nat.le_of_lt h2, Nat.zero_le _, (fun h => by cases h), (fun _ => by first | trivial | rfl)⟩, ?_, fun y hy => ⟨y, hy, ?_⟩⟩
  · repeat' (first | trivial | exact rfl | exact fun _ _ => trivial | exact fun _ _ => rfl | apply And.intro)
  · repeat' (first | trivial | exact rfl | exact fun _ _ => trivial | exact fun _ _ => rfl | apply And.intro)
end Go.Proofs.YtilmgiompalggaaGreatDoor.W
/- Where a guest's frames lie: what is reckoned. No condition. -/
namespace Go.Proofs.YtilmgiompalggaaGreatDoor.W
open Go Go.RowKit Go.Eng
set_option maxRecDepth 100000
set_option linter.unusedVariables false
set_option linter.unusedSimpArgs false
/-- All places below n, each once. -/
def Gd (n : Nat) (l : List Int) : Prop := l.length = n ∧ (∀ i, i < n → 0 ≤ l.getD i 0 ∧ l.getD i 0 < (n : Int)) ∧ ∀ i j, i < n → j < n → l.getD i 0 = l.getD j 0 → i = j
def up1 (n k : Nat) (l : List Int) : Prop := l.length = n ∧ ∀ i, i < k → l.getD i 0 = (i : Int)
theorem getD_set' (l : List Int) (a i : Nat) (y : Int) (ha : a < l.length) : (l.set a y).getD i 0 = if i = a then y else l.getD i 0 := by
  rw [List.getD_eq_getElem?_getD, List.getD_eq_getElem?_getD, List.getElem?_set]
  by_cases h : i = a
  · subst h; simp [ha]
  · rw [if_neg (fun e => h e.symm), if_neg h]
theorem Gd.swap {n : Nat} {l : List Int} {a b : Nat} (ha : a < n) (hb : b < n) (h : Gd n l) : Gd n ((l.set a (l.getD b 0)).set b (l.getD a 0)) := by
  obtain ⟨hl, hr, hi⟩ := h
  have e : ∀ i : Nat, ((l.set a (l.getD b 0)).set b (l.getD a 0)).getD i 0 = l.getD (if i = b then a else if i = a then b else i) 0 := by
    intro i
    rw [getD_set' _ _ _ _ (by simp [hl]; omega), getD_set' _ _ _ _ (by omega)]
    split
    · rfl
    · split <;> rfl
  have s : ∀ i : Nat, i < n → (if i = b then a else if i = a then b else i) < n := by intro i hi; (repeat' split) <;> assumption
  refine ⟨by simp [hl], fun i hin => ?_, fun i j hin hjn hij => ?_⟩
  · rw [e]; exact hr _ (s i hin)
  · rw [e, e] at hij
    have := hi _ _ (s i hin) (s j hjn) hij
    split at this <;> split at this <;> (try split at this) <;> (try split at this) <;> omega
theorem up1.gd {n : Nat} {l : List Int} (h : up1 n n l) : Gd n l := by
  refine ⟨h.1, fun i hi => ?_, fun i j hi hj e => ?_⟩
  · rw [h.2 i hi]; omega
  · rw [h.2 i hi, h.2 j hj] at e; omega
theorem up1.step {n k : Nat} {l : List Int} (h : up1 n k l) (hk : k < n) : up1 n (k + 1) (l.set k (k : Int)) := by
  refine ⟨by simp [h.1], fun i hi => ?_⟩
  rw [getD_set' _ _ _ _ (by rw [h.1]; exact hk)]
  split
  · rename_i e; rw [e]
  · exact h.2 i (by omega)
theorem Gd.range {n : Nat} {l : List Int} (h : Gd n l) : ∀ y ∈ l, 0 ≤ y ∧ y < (n : Int) := by
  intro y hy
  obtain ⟨i, hi⟩ := List.getElem?_of_mem hy
  obtain ⟨hlt, e⟩ := List.getElem?_eq_some_iff.1 hi
  have := h.2.1 i (by rw [← h.1]; exact hlt)
  rw [List.getD_eq_getElem?_getD, hi] at this
  exact this
theorem Gd.nodup {n : Nat} {l : List Int} (h : Gd n l) : l.Nodup := by
  refine List.pairwise_iff_getElem.2 (fun i j hi hj hij e => ?_)
  have := h.2.2 i j (by rw [← h.1]; exact hi) (by rw [← h.1]; exact hj) (by rw [List.getD_eq_getElem?_getD, List.getD_eq_getElem?_getD, List.getElem?_eq_getElem hi, List.getElem?_eq_getElem hj]; exact e)
  omega
structure OrX where
  n : Nat
  key : Int
structure OrI where
  x : OrX
  k : Nat
  xs : List Int
def orP (x : OrX) : Prop := 1 ≤ x.n ∧ x.n ≤ 64 ∧ 0 ≤ x.key ∧ x.key < 4294967296
def orL1 (P : Program) : LpE OrI OrX (List Int) where
  B := 0
  n := ntmpsOf P F_strew_Order
  code := loopOf P F_strew_Order 0
  fit s H := match s.get 0, s.get 1, s.get 5 with
    | .int _ n, .int _ key, .sl b _ _ _ _ _ => match H.get b with
      | some k => match k.c with
        | .ints _ l => some ⟨⟨n.toNat, key⟩, 0, l⟩
        | _ => none
      | none => none
    | _, _, _ => none
  pre i := orP i.x ∧ i.k ≤ i.x.n ∧ up1 i.x.n i.k i.xs
  slots i := [(0, .int .i64 i.x.n), (1, .int .u32 i.x.key), (5, .sl 0 0 0 i.x.n i.x.n true), (19, .int .i64 i.x.n), (20, .int .i64 i.k)]
  nx _ := 1
  L i := [(0, rowB i.xs)]
  m i := i.x.n - i.k
  par i := i.x
  post x y := Gd x.n y
  out x y := ⟨.exit 0, [(0, .int .i64 x.n), (1, .int .u32 x.key), (5, .sl 0 0 0 x.n x.n true)], 1, [(0, rowB y)]⟩
structure NxX where
  x : Int
  n : Nat
def cellB (x : Int) : ABlk := ⟨true, 1, .cells [.int .u32 x]⟩
/-- The next number. -/
def nxC : Con NxX (Nat × Int) where
  f := F_strew_Order_1
  fit vs H := match vs with
    | [.int _ n, .ptr b _ _] => match H.get b with
      | some k => match k.c with
        | .cells [.int _ x] => some ([b], ⟨x, n.toNat⟩)
        | _ => none
      | none => none
    | _ => none
  n0 := 1
  pre x := 0 ≤ x.x ∧ x.x < 4294967296 ∧ 1 ≤ x.n ∧ x.n ≤ 64
  args x := [.int .i64 x.n, .ptr 0 0 0]
  L0 x := [(0, cellB x.x)]
  outs x := [(fun y => y.1 < x.n ∧ 0 ≤ y.2 ∧ y.2 < 4294967296, fun y => (.ret (.int .i64 y.1), 1, [(0, cellB y.2)]))]
structure OsI where
  n : Nat
  i : Nat
  x : Int
  xs : List Int
def orL2 (P : Program) : LpE OsI Nat (List Int) where
  B := 0
  n := ntmpsOf P F_strew_Order
  code := loopOf P F_strew_Order 1
  fit s H := match s.get 5, s.get 8, s.get 9 with
    | .sl b _ _ n _ _, .fn _ _ [.ptr b2 _ _], .int _ i => match H.get b, H.get b2 with
      | some k, some k2 => match k.c, k2.c with
        | .ints _ l, .cells [.int _ x] => some ⟨n, i.toNat, x, l⟩
        | _, _ => none
      | _, _ => none
    | _, _, _ => none
  pre i := i.i < i.n ∧ i.n ≤ 64 ∧ 0 ≤ i.x ∧ i.x < 4294967296 ∧ Gd i.n i.xs
  slots i := [(5, .sl 0 0 0 i.n i.n true), (8, .fn (.func F_strew_Order_1) [] [.ptr 1 0 0]), (9, .int .i64 i.i)]
  nx _ := 2
  L i := [(0, rowB i.xs), (1, cellB i.x)]
  m i := i.i
  par i := i.n
  post n y := Gd n y
  out n y := ⟨.exit 2, [(5, .sl 0 0 0 n n true)], 2, [(0, rowB y)]⟩
def orC : Con OrX (List Int) where
  f := F_strew_Order
  fit vs H := match vs with
    | [.int _ n, .int _ key] => some ([], ⟨n.toNat, key⟩)
    | _ => none
  n0 := 0
  pre := orP
  args x := [.int .i64 x.n, .int .u32 x.key]
  L0 _ := []
  outs x := [(fun y => Gd x.n y, fun y => (.ret (.sl 0 0 0 x.n x.n true), 1, [(0, rowB y)]))]
/-! ### the map -/
def mkE (xs : List Int) (k : Nat) : List (AV × AV) := (List.range k).map fun i => (.int .i64 (xs.getD i 0), .int .i64 i)
theorem mfind_no {xs : List Int} {v : Int} : ∀ (l : List Nat), (∀ i ∈ l, xs.getD i 0 ≠ v) → ∀ j, mfind (.one .i) (.int .i64 v) (l.map fun i => (.int .i64 (xs.getD i 0), .int .i64 (i : Int))) j = some none
  | [], _, _ => rfl
  | i :: l, h, j => by
    have h1 : (v == xs.getD i 0) = false := by rw [beq_eq_false_iff_ne]; exact fun e => h i (List.mem_cons_self ..) e.symm
    have h2 := mfind_no l (fun i hi => h i (List.mem_cons_of_mem _ hi)) (j + 1)
    have h3 : eqS (.one .i) (.int .i64 v) (.int .i64 (xs.getD i 0)) = some false := by
      show eqLeaf .i (.int .i64 v) (.int .i64 (xs.getD i 0)) = some false
      simp [eqLeaf]
      exact beq_eq_false_iff_ne.1 h1
    simp only [List.map_cons, mfind, h3]
    exact h2
theorem mkE_no {n : Nat} {xs : List Int} (h : Gd n xs) {k : Nat} (hk : k < n) : mfind (.one .i) (.int .i64 (xs.getD k 0)) (mkE xs k) 0 = some none := by
  refine mfind_no _ (fun i hi e => ?_) 0
  have hi := List.mem_range.1 hi
  have := h.2.2 i k (by omega) hk e
  omega
theorem mkE_succ (xs : List Int) (k : Nat) : mkE xs (k + 1) = mkE xs k ++ [(.int .i64 (xs.getD k 0), .int .i64 (k : Int))] := by
  unfold mkE
  rw [List.range_succ, List.map_append]; rfl
theorem mkE_up {n : Nat} {xs : List Int} (h : Gd n xs) {k : Nat} (hk : k < n) : mup (.one .i) (.int .i64 (xs.getD k 0)) (.int .i64 (k : Int)) (mkE xs k) = mkE xs (k + 1) ∧ mupOK (.one .i) (.int .i64 (xs.getD k 0)) (mkE xs k) = true := by
  unfold mup mupOK
  rw [mkE_no h hk]
  exact ⟨(mkE_succ xs k).symm, rfl⟩
structure StI where
  x : OrX
  k : Nat
  xs : List Int
def mapB (b n : Nat) : ABlk := ⟨true, 2, .cells [.sl b 0 0 n n true, .map (b + 1)]⟩
def stL (P : Program) : LpE StI OrX (List Int) where
  B := 0
  n := ntmpsOf P F_strew_New
  code := loopOf P F_strew_New 0
  fit s H := match s.get 0, s.get 2, s.get 8 with
    | .int _ n, .int _ key, .ptr b _ _ => match H.get b with
      | some k => match k.c with
        | .cells [.sl b1 _ _ _ _ _, _] => match H.get b1 with
          | some k1 => match k1.c with
            | .ints _ l => some ⟨⟨n.toNat, key⟩, 0, l⟩
            | _ => none
          | none => none
        | _ => none
      | none => none
    | _, _, _ => none
  pre i := orP i.x ∧ i.k ≤ i.x.n ∧ Gd i.x.n i.xs
  slots i := [(1, .int .i64 0), (8, .ptr 2 0 0), (32, .int .i64 i.x.n), (33, .int .i64 i.k)]
  nx _ := 3
  L i := [(0, rowB i.xs), (1, ⟨true, 1, .map (mkE i.xs i.k)⟩), (2, mapB 0 i.x.n)]
  m i := i.x.n - i.k
  par i := i.x
  post x y := Gd x.n y
  out x y := ⟨.exit 0, [(8, .ptr 2 0 0)], 3, [(0, rowB y), (2, mapB 0 x.n)]⟩
def stC : Con OrX (List Int) where
  f := F_strew_New
  fit vs H := match vs with
    | [.int _ n, .int _ _, .int _ key] => some ([], ⟨n.toNat, key⟩)
    | _ => none
  n0 := 0
  pre := orP
  args x := [.int .i64 x.n, .int .i64 0, .int .u32 x.key]
  L0 _ := []
  outs x := [(fun y => Gd x.n y, fun y => (.ret (.tup [.ptr 2 0 0, .int .i64 0]), 3, [(0, rowB y), (2, mapB 0 x.n)]))]
end Go.Proofs.YtilmgiompalggaaGreatDoor.W
/- Where a guest's frames lie: the walks of strew.Order. No condition. -/
namespace Go.Proofs.YtilmgiompalggaaGreatDoor.W
open Go Go.RowKit Go.Eng
set_option maxRecDepth 100000
set_option linter.unusedVariables false
set_option linter.unusedSimpArgs false
def orA_c_V (i : OrI) : Prop :=
  sp (decide ((↑i.k : Int) < (↑i.x.n : Int))) (sp (decide ((↑i.k : Int) < (↑i.x.n : Int)) && true) (sp (decide (0 + (↑i.k : Int).toNat + 0 < i.xs.length) && true) (∃ (j : OrI), ((1 ≤ j.x.n ∧ j.x.n ≤ 64 ∧ 0 ≤ j.x.key ∧ j.x.key < 4294967296) ∧ j.k ≤ j.x.n ∧ j.xs.length = j.x.n ∧ ∀ (i : Nat), i < j.k → j.xs.getD i 0 = (↑i : Int)) ∧ j.x.n - j.k < i.x.n - i.k ∧ j.x = i.x ∧ (nI (↑i.x.n : Int) = nI (↑j.x.n : Int) ∧ nU i.x.key = nU j.x.key ∧ AV.sl 0 0 0 i.x.n i.x.n true = AV.sl 0 0 0 j.x.n j.x.n true ∧ nI (↑i.x.n : Int) = nI (↑j.x.n : Int) ∧ nI (IntKind.i64.wrap ((↑i.k : Int) + 1)) = nI (↑j.k : Int) ∧ True) ∧ ABlk.mk true 1 (AC.ints IntKind.i64 (i.xs.set (0 + (↑i.k : Int).toNat + 0) (↑i.k : Int))) = ABlk.mk true 1 (AC.ints IntKind.i64 j.xs) ∧ True) False) False) (∃ (y : List Int), (y.length = i.x.n ∧ (∀ (i_1 : Nat), i_1 < i.x.n → 0 ≤ y.getD i_1 0 ∧ y.getD i_1 0 < (↑i.x.n : Int)) ∧ ∀ (i_1 j : Nat),
  i_1 < i.x.n → j < i.x.n → y.getD i_1 0 = y.getD j 0 → i_1 = j) ∧ (nI (↑i.x.n : Int) = nI (↑i.x.n : Int) ∧ nU i.x.key = nU i.x.key ∧ AV.sl 0 0 0 i.x.n i.x.n true = AV.sl 0 0 0 i.x.n i.x.n true ∧ True) ∧ ABlk.mk true 1 (AC.ints IntKind.i64 i.xs) = ABlk.mk true 1 (AC.ints IntKind.i64 y) ∧ True)
theorem orA_c_e (i : OrI) : some (orA_c_V i) = (some ((orL1 Go.Proofs.Tryz.prog).body sp Go.Proofs.Tryz.prog noBaseK (drPL sp Go.Proofs.Tryz.prog noBaseK) noLo 40 i)) := by kernel_rfl
def nxC_c_V (x : NxX) : Prop :=
  sp (!(↑x.n : Int) == 0) (∃ (y : Nat × Int), (y.fst < x.n ∧ 0 ≤ y.snd ∧ y.snd < 4294967296) ∧ [nI ((IntKind.i64.wrap ((IntKind.u32.wrap (IntKind.u32.wrap (x.x * 1664525) + 1013904223)).fdiv 256)).tmod (↑x.n : Int))] = [nI (↑y.fst : Int)] ∧ bC (([nU x.x].set 0 (nU (IntKind.u32.wrap (IntKind.u32.wrap (x.x * 1664525) + 1013904223))))) = bC [nU y.snd] ∧ True) False
theorem nxC_c_e (x : NxX) : some (nxC_c_V x) = (nxC.cond sp Go.Proofs.Tryz.prog (drPL sp Go.Proofs.Tryz.prog) noLoops noBaseK 40 2 x) := by kernel_rfl
def orB_c_V (i : OsI) : Prop :=
  sp (decide ((↑i.i : Int) > 0)) ((0 ≤ i.x ∧ i.x < 4294967296 ∧ 1 ≤ (IntKind.i64.wrap ((↑i.i : Int) + 1)).toNat ∧ (IntKind.i64.wrap ((↑i.i : Int) + 1)).toNat ≤ 64) ∧ [] ++ [nI (IntKind.i64.wrap ((↑i.i : Int) + 1))] ++ [AV.ptr 1 0 0] = [nI (↑(IntKind.i64.wrap ((↑i.i : Int) + 1)).toNat : Int), AV.ptr 1 0 0] ∧ (some (bC [nU i.x]) = some (bC [nU i.x]) ∧ True) ∧ (∀ (y : Nat × Int), y.fst < (IntKind.i64.wrap ((↑i.i : Int) + 1)).toNat ∧ 0 ≤ y.snd ∧ y.snd < 4294967296 → sp (decide ((↑i.i : Int) < (↑i.n : Int)) && true && ((0 + (↑i.i : Int).toNat).beq (0 + (↑i.i : Int).toNat) && true)) (sp (decide (0 + (↑i.i : Int).toNat + 0 < i.xs.length) && decide (i.xs.getD (0 + (↑i.i : Int).toNat + 0) 0 = i.xs.getD (0 + (↑i.i : Int).toNat + 0) 0)) (sp (decide ((↑i.i : Int) < (↑i.n : Int)) && true && ((0 + (↑i.i : Int).toNat).beq (0 + (↑i.i : Int).toNat) && true)) (sp (decide ((↑i.i : Int) = (↑i.i : Int))) (sp
  (i.n.beq i.n && i.n.beq i.n && true) (sp (decide (0 + (↑y.fst : Int).toNat + 0 < i.xs.length) && decide (i.xs.getD (0 + (↑y.fst : Int).toNat + 0) 0 = i.xs.getD (0 + (↑y.fst : Int).toNat + 0) 0)) (sp (decide ((↑y.fst : Int) < (↑i.n : Int)) && true && ((0 + (↑y.fst : Int).toNat).beq (0 + (↑y.fst : Int).toNat) && true)) (sp (decide ((↑y.fst : Int) = (↑y.fst : Int))) (sp (i.n.beq i.n && i.n.beq i.n && true) (sp (decide ((↑y.fst : Int) = (↑y.fst : Int))) (sp (i.n.beq i.n && i.n.beq i.n && true) (sp (decide ((↑i.i : Int) = (↑i.i : Int))) (sp (i.n.beq i.n && i.n.beq i.n && true) (sp (decide (0 + (↑i.i : Int).toNat + 0 < i.xs.length) && true) (sp (decide ((↑y.fst : Int) < (↑i.n : Int)) && true && ((0 + (↑y.fst : Int).toNat).beq (0 + (↑y.fst : Int).toNat) && true)) (sp (decide ((↑y.fst : Int) = (↑y.fst : Int))) (sp (i.n.beq i.n && i.n.beq i.n && true) (sp (decide (0 + (↑y.fst : Int).toNat + 0 <
  (i.xs.set (0 + (↑i.i : Int).toNat + 0) (i.xs.getD (0 + (↑y.fst : Int).toNat + 0) 0)).length) && true) (∃ (j : OsI), (j.i < j.n ∧ j.n ≤ 64 ∧ 0 ≤ j.x ∧ j.x < 4294967296 ∧ j.xs.length = j.n ∧ (∀ (i : Nat), i < j.n → 0 ≤ j.xs.getD i 0 ∧ j.xs.getD i 0 < (↑j.n : Int)) ∧ ∀ (i j_1 : Nat), i < j.n → j_1 < j.n → j.xs.getD i 0 = j.xs.getD j_1 0 → i = j_1) ∧ j.i < i.i ∧ j.n = i.n ∧ (AV.sl 0 0 0 i.n i.n true = AV.sl 0 0 0 j.n j.n true ∧ AV.fn (Fn.func F_strew_Order_1) [] [AV.ptr 1 0 0] = AV.fn (Fn.func F_strew_Order_1) [] [AV.ptr 1 0 0] ∧ nI (IntKind.i64.wrap ((↑i.i : Int) - 1)) = nI (↑j.i : Int) ∧ True) ∧ ABlk.mk true 1 (AC.ints IntKind.i64 ((i.xs.set (0 + (↑i.i : Int).toNat + 0) (i.xs.getD (0 + (↑y.fst : Int).toNat + 0) 0)).set (0 + (↑y.fst : Int).toNat + 0) (i.xs.getD (0 + (↑i.i : Int).toNat + 0) 0))) = ABlk.mk true 1 (AC.ints IntKind.i64 j.xs) ∧ bC [nU y.snd] = bC [nU j.x] ∧ True) False) False)
  False) False) False) False) False) False) False) False) False) False) False) False) False) False) False) False) ∧ True) (∃ (y : List Int), (y.length = i.n ∧ (∀ (i_1 : Nat), i_1 < i.n → 0 ≤ y.getD i_1 0 ∧ y.getD i_1 0 < (↑i.n : Int)) ∧ ∀ (i_1 j : Nat), i_1 < i.n → j < i.n → y.getD i_1 0 = y.getD j 0 → i_1 = j) ∧ (AV.sl 0 0 0 i.n i.n true = AV.sl 0 0 0 i.n i.n true ∧ True) ∧ ABlk.mk true 1 (AC.ints IntKind.i64 i.xs) = ABlk.mk true 1 (AC.ints IntKind.i64 y) ∧ True)
theorem orB_c_e (i : OsI) : some (orB_c_V i) = (some ((orL2 Go.Proofs.Tryz.prog).body sp Go.Proofs.Tryz.prog (nxC.orc sp) (drPL sp Go.Proofs.Tryz.prog (nxC.orc sp)) noLo 40 i)) := by kernel_rfl
theorem ub (z : Int) : 0 ≤ IntKind.u32.wrap z ∧ IntKind.u32.wrap z < 4294967296 := by rw [IntKind.wrap_u32]; omega
theorem nxC_ok : nxC.OK Go.Proofs.Tryz.prog := by
  refine Con.byL' hmix (noLoops_ok _) (noBaseK_ok _) nxC_c_V nxC_c_e (fun x hx => ?_)
  obtain ⟨x, n⟩ := x
  obtain ⟨h1, h2, h3, h4⟩ := hx
  have h3 : 1 ≤ n := h3
  have h4 : n ≤ 64 := h4
  unfold nxC_c_V
  refine spI (fun _ => ?_) (fun h => ?_)
  · have hu := ub (IntKind.u32.wrap (x * 1664525) + 1013904223)
    simp only []
    generalize IntKind.u32.wrap (IntKind.u32.wrap (x * 1664525) + 1013904223) = u at *
    have e1 : u.fdiv 256 = u / 256 := Int.fdiv_eq_ediv_of_nonneg _ (by omega)
    have e2 : IntKind.i64.wrap (u / 256) = u / 256 := IntWalk.i64_in _ (by omega)
    have e3 : (u / 256).tmod (n : Int) = (u / 256) % (n : Int) := Int.tmod_eq_emod_of_nonneg (by omega)
    have g1 := Int.emod_nonneg (u / 256) (show (n : Int) ≠ 0 by omega)
    have g2 := Int.emod_lt_of_pos (u / 256) (show 0 < (n : Int) by omega)
    refine ⟨(((u / 256) % (n : Int)).toNat, u), ⟨by show ((u / 256) % (n : Int)).toNat < n; omega, hu.1, hu.2⟩, ?_, rfl, trivial⟩
    rw [e1, e2, e3]
    show [nI _] = [nI ((((u / 256) % (n : Int)).toNat : Nat) : Int)]
    rw [Int.toNat_of_nonneg g1]
  · simp at h; omega
set_option maxRecDepth 100000 in
theorem orA_ok (i : OrI) (hi : (orL1 Go.Proofs.Tryz.prog).pre i) : orA_c_V i := by
  obtain ⟨⟨n, key⟩, k, xs⟩ := i
  obtain ⟨⟨h1, h2, h3, h4⟩, h5, h6⟩ := hi
  have h1 : 1 ≤ n := h1
  have h2 : n ≤ 64 := h2
  have h5 : k ≤ n := h5
  have h6 : up1 n k xs := h6
  unfold orA_c_V
  by_cases hk : k < n
  · have d1 : decide ((k : Int) < (n : Int)) = true := decide_eq_true (by omega)
    have d2 : decide (0 + (k : Int).toNat + 0 < xs.length) = true := decide_eq_true (by rw [h6.1]; omega)
    have e1 : IntKind.wrap .i64 ((k : Int) + 1) = ((k + 1 : Nat) : Int) := by rw [IntWalk.i64_in _ (by omega)]; omega
    have e2 : 0 + (k : Int).toNat + 0 = k := by omega
    simp only [d1, d2, e1, sp, Bool.and_self]
    rw [e2]
    refine ⟨⟨⟨n, key⟩, k + 1, xs.set k (k : Int)⟩, ⟨⟨h1, h2, h3, h4⟩, hk, h6.step hk⟩, (by show n - (k + 1) < n - k; omega), ?_⟩
    repeat' (first | trivial | exact rfl | exact fun _ _ => trivial | exact fun _ _ => rfl | apply And.intro)
  · obtain rfl : k = n := by omega
    have d1 : decide ((k : Int) < (k : Int)) = false := decide_eq_false (by omega)
    simp only [d1, sp]
    refine ⟨xs, h6.gd, ?_⟩
    repeat' (first | trivial | exact rfl | exact fun _ _ => trivial | exact fun _ _ => rfl | apply And.intro)
set_option maxRecDepth 100000 in
theorem orB_ok (i : OsI) (hi : (orL2 Go.Proofs.Tryz.prog).pre i) : orB_c_V i := by
  obtain ⟨n, i, x, xs⟩ := i
  obtain ⟨h1, h2, h3, h4, h5⟩ := hi
  have h1 : i < n := h1
  have h2 : n ≤ 64 := h2
  have h3 : 0 ≤ x := h3
  have h4 : x < 4294967296 := h4
  have h5 : Gd n xs := h5
  unfold orB_c_V
  by_cases hi : 0 < i
  · have d1 : decide ((i : Int) > 0) = true := decide_eq_true (by omega)
    have e1 : IntKind.wrap .i64 ((i : Int) + 1) = ((i + 1 : Nat) : Int) := by rw [IntWalk.i64_in _ (by omega)]; omega
    have e0 : (((i + 1 : Nat) : Int)).toNat = i + 1 := by omega
    simp only [d1, e1, e0]
    refine ⟨⟨h3, h4, by omega, by omega⟩, by first | trivial | rfl, by repeat' (first | trivial | exact rfl | apply And.intro), fun y hy => ?_, trivial⟩
    obtain ⟨j, z⟩ := y
    obtain ⟨g1, g2, g3⟩ := hy
    have g1 : j < i + 1 := g1
    have e2 : 0 + (i : Int).toNat + 0 = i := by omega
    have e3 : 0 + (i : Int).toNat = i := by omega
    have e4 : 0 + (j : Int).toNat + 0 = j := by omega
    have e5 : 0 + (j : Int).toNat = j := by omega
    have d2 : decide ((i : Int) < (n : Int)) = true := decide_eq_true (by omega)
    have d3 : decide ((j : Int) < (n : Int)) = true := decide_eq_true (by omega)
    have d4 : decide (i < xs.length) = true := decide_eq_true (by rw [h5.1]; omega)
    have d5 : decide (j < xs.length) = true := decide_eq_true (by rw [h5.1]; omega)
    have d6 : ∀ v : Int, decide (j < (xs.set i v).length) = true := fun v => decide_eq_true (by rw [List.length_set, h5.1]; omega)
    have b0 : ∀ a : Nat, a.beq a = true := Nat.beq_refl
    have f0 : ∀ a : Int, decide (a = a) = true := fun a => decide_eq_true rfl
    have e6 : IntKind.wrap .i64 ((i : Int) - 1) = ((i - 1 : Nat) : Int) := by rw [IntWalk.i64_in _ (by omega)]; omega
    simp only [e3, e5, Nat.add_zero, decide_true, d2, d3, d4, d5, d6, b0, e6, sp, Bool.and_self]
    refine ⟨⟨n, i - 1, z, (xs.set i (xs.getD j 0)).set j (xs.getD i 0)⟩, ⟨by show i - 1 < n; omega, h2, g2, g3, h5.swap h1 (show j < n by omega)⟩, (by show i - 1 < i; omega), ?_⟩
    repeat' (first | trivial | exact rfl | exact fun _ _ => trivial | exact fun _ _ => rfl | apply And.intro)
  · have d1 : decide ((i : Int) > 0) = false := decide_eq_false (by omega)
    simp only [d1, sp]
    refine ⟨xs, h5, ?_⟩
    repeat' (first | trivial | exact rfl | exact fun _ _ => trivial | exact fun _ _ => rfl | apply And.intro)
theorem orL1_ok : (orL1 Go.Proofs.Tryz.prog).OK Go.Proofs.Tryz.prog := by
  refine LpE.ok_of (noBaseK_ok _) (drPL_ok hmix _ (noBaseK_ok _)) (noLo_ok _) (by decide) 40 (fun i hi => ?_)
  rw [← Option.some.inj (orA_c_e i)]
  exact orA_ok i hi
theorem orL2_ok : (orL2 Go.Proofs.Tryz.prog).OK Go.Proofs.Tryz.prog := by
  refine LpE.ok_of (Con.orc_ok nxC_ok) (drPL_ok hmix _ (Con.orc_ok nxC_ok)) (noLo_ok _) (by decide) 40 (fun i hi => ?_)
  rw [← Option.some.inj (orB_c_e i)]
  exact orB_ok i hi
def orC_c_V (x : OrX) : Prop :=
  sp (decide ((↑x.n : Int) < 1)) (∃ (y : List Int), (y.length = x.n ∧ (∀ (i : Nat), i < x.n → 0 ≤ y.getD i 0 ∧ y.getD i 0 < (↑x.n : Int)) ∧ ∀ (i j : Nat), i < x.n → j < x.n → y.getD i 0 = y.getD j 0 → i = j) ∧ [AV.nils] = [AV.sl 0 0 0 x.n x.n true] ∧ False ∧ True) (sp (bif false then true else decide ((↑x.n : Int) > 512)) (∃ (y : List Int), (y.length = x.n ∧ (∀ (i : Nat), i < x.n → 0 ≤ y.getD i 0 ∧ y.getD i 0 < (↑x.n : Int)) ∧ ∀ (i j : Nat), i < x.n → j < x.n → y.getD i 0 = y.getD j 0 → i = j) ∧ [AV.nils] = [AV.sl 0 0 0 x.n x.n true] ∧ False ∧ True) (sp (decide ((↑x.n : Int) ≤ (↑x.n : Int)) && decide (8 * (↑x.n : Int) ≤ 281474976710656) && decide ((↑x.n : Int) ≤ 9223372036854775807)) (same (loopOf Proofs.Tryz.prog F_strew_Order 0) (loopOf Proofs.Tryz.prog F_strew_Order 0) ∧ ((1 ≤ (↑x.n : Int).toNat ∧ (↑x.n : Int).toNat ≤ 64 ∧ 0 ≤ x.key ∧ x.key < 4294967296) ∧ 0 ≤ (↑x.n : Int).toNat ∧
  (List.replicate (↑x.n : Int).toNat (0 : Int)).length = (↑x.n : Int).toNat ∧ ∀ (i : Nat), i < 0 → (List.replicate (↑x.n : Int).toNat (0 : Int)).getD i 0 = (↑i : Int)) ∧ ((nI (↑x.n : Int) = nI (↑(↑x.n : Int).toNat : Int) ∧ nU x.key = nU x.key ∧ AV.sl 0 0 0 (↑x.n : Int).toNat (↑x.n : Int).toNat true = AV.sl 0 0 0 (↑x.n : Int).toNat (↑x.n : Int).toNat true ∧ nI (↑x.n : Int) = nI (↑(↑x.n : Int).toNat : Int) ∧ nI 0 = nI 0 ∧ True) ∧ ABlk.mk true 1 (AC.ints IntKind.i64 (List.replicate (↑x.n : Int).toNat (0 : Int))) = ABlk.mk true 1 (AC.ints IntKind.i64 (List.replicate (↑x.n : Int).toNat (0 : Int))) ∧ True) ∧ ∀ (y : List Int), (y.length = (↑x.n : Int).toNat ∧ (∀ (i : Nat), i < (↑x.n : Int).toNat → 0 ≤ y.getD i 0 ∧ y.getD i 0 < (↑(↑x.n : Int).toNat : Int)) ∧ ∀ (i j : Nat), i < (↑x.n : Int).toNat → j < (↑x.n : Int).toNat → y.getD i 0 = y.getD j 0 → i = j) → same (loopOf Proofs.Tryz.prog
  F_strew_Order 1) (loopOf Proofs.Tryz.prog F_strew_Order 1) ∧ ((IntKind.i64.wrap ((↑(↑x.n : Int).toNat : Int) - 1)).toNat < (↑x.n : Int).toNat ∧ (↑x.n : Int).toNat ≤ 64 ∧ 0 ≤ x.key ∧ x.key < 4294967296 ∧ y.length = (↑x.n : Int).toNat ∧ (∀ (i : Nat), i < (↑x.n : Int).toNat → 0 ≤ y.getD i 0 ∧ y.getD i 0 < (↑(↑x.n : Int).toNat : Int)) ∧ ∀ (i j : Nat), i < (↑x.n : Int).toNat → j < (↑x.n : Int).toNat → y.getD i 0 = y.getD j 0 → i = j) ∧ ((AV.sl 0 0 0 (↑x.n : Int).toNat (↑x.n : Int).toNat true = AV.sl 0 0 0 (↑x.n : Int).toNat (↑x.n : Int).toNat true ∧ AV.fn (Fn.func 206) [] [AV.ptr 1 0 0] = AV.fn (Fn.func F_strew_Order_1) [] [AV.ptr 1 0 0] ∧ nI (IntKind.i64.wrap ((↑(↑x.n : Int).toNat : Int) - 1)) = nI (↑(IntKind.i64.wrap ((↑(↑x.n : Int).toNat : Int) - 1)).toNat : Int) ∧ True) ∧ ABlk.mk true 1 (AC.ints IntKind.i64 y) = ABlk.mk true 1 (AC.ints IntKind.i64 y) ∧ bC (([nU 0].set 0 (nU x.key))) = bC
  [nU x.key] ∧ True) ∧ ∀ (y : List Int), (y.length = (↑x.n : Int).toNat ∧ (∀ (i : Nat), i < (↑x.n : Int).toNat → 0 ≤ y.getD i 0 ∧ y.getD i 0 < (↑(↑x.n : Int).toNat : Int)) ∧ ∀ (i j : Nat), i < (↑x.n : Int).toNat → j < (↑x.n : Int).toNat → y.getD i 0 = y.getD j 0 → i = j) → ∃ (y_1 : List Int), (y_1.length = x.n ∧ (∀ (i : Nat), i < x.n → 0 ≤ y_1.getD i 0 ∧ y_1.getD i 0 < (↑x.n : Int)) ∧ ∀ (i j : Nat), i < x.n → j < x.n → y_1.getD i 0 = y_1.getD j 0 → i = j) ∧ [AV.sl 0 0 0 (↑x.n : Int).toNat (↑x.n : Int).toNat true] = [AV.sl 0 0 0 x.n x.n true] ∧ ABlk.mk true 1 (AC.ints IntKind.i64 y) = ABlk.mk true 1 (AC.ints IntKind.i64 y_1) ∧ True) False))
theorem orC_c_e (x : OrX) : some (orC_c_V x) = (orC.cond sp Go.Proofs.Tryz.prog (drPL sp Go.Proofs.Tryz.prog) (forF F_strew_Order (Go.Eng.orL ((orL1 Go.Proofs.Tryz.prog).lo sp Go.Proofs.Tryz.prog (isLoop 5) (loopOf Go.Proofs.Tryz.prog F_strew_Order 0)) ((orL2 Go.Proofs.Tryz.prog).lo sp Go.Proofs.Tryz.prog (isLoop 12) (loopOf Go.Proofs.Tryz.prog F_strew_Order 1))) noLoops) noBaseK 40 2 x) := by kernel_rfl
set_option maxRecDepth 100000 in
theorem orC_ok : orC.OK Go.Proofs.Tryz.prog := by
  refine Con.byL' hmix (forF_ok (Go.Eng.orL_ok (LpE.lo_ok orL1_ok rfl) (LpE.lo_ok orL2_ok rfl)) (noLoops_ok _)) (noBaseK_ok _) orC_c_V orC_c_e (fun x hx => ?_)
  obtain ⟨n, key⟩ := x
  obtain ⟨h1, h2, h3, h4⟩ := hx
  have h1 : 1 ≤ n := h1
  have h2 : n ≤ 64 := h2
  unfold orC_c_V
  have d1 : decide ((n : Int) < 1) = false := decide_eq_false (by omega)
  have d2 : decide ((n : Int) > 512) = false := decide_eq_false (by omega)
  have d3 : decide ((n : Int) ≤ (n : Int)) = true := decide_eq_true (by omega)
  have d4 : decide (8 * (n : Int) ≤ 281474976710656) = true := decide_eq_true (by omega)
  have d5 : decide ((n : Int) ≤ 9223372036854775807) = true := decide_eq_true (by omega)
  have e1 : IntKind.wrap .i64 ((n : Int) - 1) = ((n - 1 : Nat) : Int) := by rw [IntWalk.i64_in _ (by omega)]; omega
  have e2 : ((n - 1 : Nat) : Int).toNat = n - 1 := by omega
  simp only [d1, d2, d3, d4, d5, e1, e2, sp, Int.toNat_natCast, cond_false, Bool.and_self]
  refine ⟨rfl, ⟨⟨h1, h2, h3, h4⟩, Nat.zero_le _, by simp, fun i hi => by omega⟩, ?_, fun y hy => ⟨rfl, ⟨by omega, h2, h3, h4, hy⟩, ?_, fun z hz => ⟨z, hz, ?_⟩⟩⟩
  all_goals repeat' (first | trivial | exact rfl | exact fun _ _ => trivial | exact fun _ _ => rfl | apply And.intro)
end Go.Proofs.YtilmgiompalggaaGreatDoor.W
/- Where a guest's frames lie: the walks of strew.New. No condition. -/
namespace Go.Proofs.YtilmgiompalggaaGreatDoor.W
open Go Go.RowKit Go.Eng
set_option maxRecDepth 100000
set_option linter.unusedVariables false
set_option linter.unusedSimpArgs false
def stA_c_V (i : StI) : Prop :=
  sp (decide ((↑i.k : Int) < (↑i.x.n : Int))) (sp (decide ((↑i.k : Int) < (↑i.x.n : Int)) && true) (sp (decide (0 + (↑i.k : Int).toNat + 0 < i.xs.length)) (sp (decide ((↑i.k : Int) < (↑i.x.n : Int)) && true) (sp (decide (0 + (↑i.k : Int).toNat + 0 < i.xs.length) && true) (sp (decide ((↑i.k : Int) = (↑i.k : Int))) (sp (decide (0 + (↑i.k : Int).toNat + 0 < (i.xs.set (0 + (↑i.k : Int).toNat + 0) (IntKind.i64.wrap (i.xs.getD (0 + (↑i.k : Int).toNat + 0) 0 + 0))).length) && decide ((i.xs.set (0 + (↑i.k : Int).toNat + 0) (IntKind.i64.wrap (i.xs.getD (0 + (↑i.k : Int).toNat + 0) 0 + 0))).getD (0 + (↑i.k : Int).toNat + 0) 0 = (i.xs.set (0 + (↑i.k : Int).toNat + 0) (IntKind.i64.wrap (i.xs.getD (0 + (↑i.k : Int).toNat + 0) 0 + 0))).getD (0 + (↑i.k : Int).toNat + 0) 0)) (sp (decide ((↑i.k : Int) < (↑i.x.n : Int)) && true && ((0 + (↑i.k : Int).toNat).beq (0 + (↑i.k : Int).toNat) && true)) (sp (decide
  ((↑i.k : Int) = (↑i.k : Int))) (sp (i.x.n.beq i.x.n && i.x.n.beq i.x.n && true) (sp (mupOK (ES.one LK.i) (nI ((i.xs.set (0 + (↑i.k : Int).toNat + 0) (IntKind.i64.wrap (i.xs.getD (0 + (↑i.k : Int).toNat + 0) 0 + 0))).getD (0 + (↑i.k : Int).toNat + 0) 0)) (mkE i.xs i.k)) (∃ (j : StI), ((1 ≤ j.x.n ∧ j.x.n ≤ 64 ∧ 0 ≤ j.x.key ∧ j.x.key < 4294967296) ∧ j.k ≤ j.x.n ∧ j.xs.length = j.x.n ∧ (∀ (i : Nat), i < j.x.n → 0 ≤ j.xs.getD i 0 ∧ j.xs.getD i 0 < (↑j.x.n : Int)) ∧ ∀ (i j_1 : Nat), i < j.x.n → j_1 < j.x.n → j.xs.getD i 0 = j.xs.getD j_1 0 → i = j_1) ∧ j.x.n - j.k < i.x.n - i.k ∧ j.x = i.x ∧ (nI 0 = nI 0 ∧ AV.ptr 2 0 0 = AV.ptr 2 0 0 ∧ nI (↑i.x.n : Int) = nI (↑j.x.n : Int) ∧ nI (IntKind.i64.wrap ((↑i.k : Int) + 1)) = nI (↑j.k : Int) ∧ True) ∧ ABlk.mk true 1 (AC.ints IntKind.i64 (i.xs.set (0 + (↑i.k : Int).toNat + 0) (IntKind.i64.wrap (i.xs.getD (0 + (↑i.k : Int).toNat + 0) 0 + 0)))) = ABlk.mk
  true 1 (AC.ints IntKind.i64 j.xs) ∧ ABlk.mk true 1 (AC.map (mup (ES.one LK.i) (nI ((i.xs.set (0 + (↑i.k : Int).toNat + 0) (IntKind.i64.wrap (i.xs.getD (0 + (↑i.k : Int).toNat + 0) 0 + 0))).getD (0 + (↑i.k : Int).toNat + 0) 0)) (nI (↑i.k : Int)) (mkE i.xs i.k))) = ABlk.mk true 1 (AC.map (List.map (fun (p : AV × AV) => (AV.ren (sig [0, 1, 2] 3) p.fst, AV.ren (sig [0, 1, 2] 3) p.snd)) (mkE j.xs j.k))) ∧ ABlk.mk true 2 (AC.cells [AV.sl 0 0 0 i.x.n i.x.n true, AV.map 1]) = ABlk.mk true 2 (AC.cells [AV.sl 0 0 0 j.x.n j.x.n true, AV.map 1]) ∧ True) False) False) False) False) False) False) False) False) False) False) (∃ (y : List Int), (y.length = i.x.n ∧ (∀ (i_1 : Nat), i_1 < i.x.n → 0 ≤ y.getD i_1 0 ∧ y.getD i_1 0 < (↑i.x.n : Int)) ∧ ∀ (i_1 j : Nat), i_1 < i.x.n → j < i.x.n → y.getD i_1 0 = y.getD j 0 → i_1 = j) ∧ (AV.ptr 2 0 0 = AV.ptr 2 0 0 ∧ True) ∧ ABlk.mk true 1 (AC.ints IntKind.i64 i.xs)
  = ABlk.mk true 1 (AC.ints IntKind.i64 y) ∧ ABlk.mk true 2 (AC.cells [AV.sl 0 0 0 i.x.n i.x.n true, AV.map 1]) = ABlk.mk true 2 (AC.cells [AV.sl 0 0 0 i.x.n i.x.n true, AV.map 1]) ∧ True)
theorem stA_c_e (i : StI) : some (stA_c_V i) = (some ((stL Go.Proofs.Tryz.prog).body sp Go.Proofs.Tryz.prog noBaseK (drPL sp Go.Proofs.Tryz.prog noBaseK) noLo 40 i)) := by kernel_rfl
theorem mkE_ren (σ : Nat → Nat) (xs : List Int) (k : Nat) : List.map (fun (p : AV × AV) => (AV.ren σ p.fst, AV.ren σ p.snd)) (mkE xs k) = mkE xs k := by
  unfold mkE
  rw [List.map_map]
  rfl
theorem set_same (xs : List Int) (k : Nat) (hk : k < xs.length) : xs.set k (xs.getD k 0) = xs := by
  apply List.ext_getElem?
  intro i
  rw [List.getElem?_set]
  by_cases h : k = i
  · subst h
    rw [if_pos rfl, if_pos hk, List.getD_eq_getElem?_getD, List.getElem?_eq_getElem hk]; rfl
  · rw [if_neg h]
set_option maxRecDepth 100000 in
theorem stA_ok (i : StI) (hi : (stL Go.Proofs.Tryz.prog).pre i) : stA_c_V i := by
  obtain ⟨⟨n, key⟩, k, xs⟩ := i
  obtain ⟨⟨h1, h2, h3, h4⟩, h5, h6⟩ := hi
  have h1 : 1 ≤ n := h1
  have h2 : n ≤ 64 := h2
  have h5 : k ≤ n := h5
  have h6 : Gd n xs := h6
  unfold stA_c_V
  by_cases hk : k < n
  · have hkl : k < xs.length := by rw [h6.1]; exact hk
    have hb := h6.2.1 k hk
    have d1 : decide ((k : Int) < (n : Int)) = true := decide_eq_true (by omega)
    have d2 : decide (k < xs.length) = true := decide_eq_true hkl
    have e1 : IntKind.wrap .i64 ((k : Int) + 1) = ((k + 1 : Nat) : Int) := by rw [IntWalk.i64_in _ (by omega)]; omega
    have e2 : 0 + (k : Int).toNat = k := by omega
    have e3 : IntKind.wrap .i64 (xs.getD k 0 + 0) = xs.getD k 0 := by rw [IntWalk.i64_in _ (by omega)]; omega
    have b0 : ∀ a : Nat, a.beq a = true := Nat.beq_refl
    have mu := mkE_up h6 hk
    simp only [e2, Nat.add_zero, e3, set_same xs k hkl, d1, d2, e1, b0, mu.1, mu.2, mkE_ren, decide_true, sp, Bool.and_self]
    refine ⟨⟨⟨n, key⟩, k + 1, xs⟩, ⟨⟨h1, h2, h3, h4⟩, hk, h6⟩, (by show n - (k + 1) < n - k; omega), ?_⟩
    repeat' (first | trivial | exact rfl | exact fun _ _ => trivial | exact fun _ _ => rfl | apply And.intro)
  · obtain rfl : k = n := by omega
    have d1 : decide ((k : Int) < (k : Int)) = false := decide_eq_false (by omega)
    simp only [d1, sp]
    refine ⟨xs, h6, ?_⟩
    repeat' (first | trivial | exact rfl | exact fun _ _ => trivial | exact fun _ _ => rfl | apply And.intro)
theorem stL_ok : (stL Go.Proofs.Tryz.prog).OK Go.Proofs.Tryz.prog := by
  refine LpE.ok_of (noBaseK_ok _) (drPL_ok hmix _ (noBaseK_ok _)) (noLo_ok _) (by decide) 40 (fun i hi => ?_)
  rw [← Option.some.inj (stA_c_e i)]
  exact stA_ok i hi
def stC_c_V (x : OrX) : Prop :=
  sp (decide ((↑x.n : Int) < 1)) (∃ (y : List Int), (y.length = x.n ∧ (∀ (i : Nat), i < x.n → 0 ≤ y.getD i 0 ∧ y.getD i 0 < (↑x.n : Int)) ∧ ∀ (i j : Nat), i < x.n → j < x.n → y.getD i 0 = y.getD j 0 → i = j) ∧ False) (sp (bif false then true else decide ((↑x.n : Int) > 64)) (∃ (y : List Int), (y.length = x.n ∧ (∀ (i : Nat), i < x.n → 0 ≤ y.getD i 0 ∧ y.getD i 0 < (↑x.n : Int)) ∧ ∀ (i j : Nat), i < x.n → j < x.n → y.getD i 0 = y.getD j 0 → i = j) ∧ False) (sp (bif false then true else decide (0 > IntKind.i64.wrap (512 - (↑x.n : Int)))) (∃ (y : List Int), (y.length = x.n ∧ (∀ (i : Nat), i < x.n → 0 ≤ y.getD i 0 ∧ y.getD i 0 < (↑x.n : Int)) ∧ ∀ (i j : Nat), i < x.n → j < x.n → y.getD i 0 = y.getD j 0 → i = j) ∧ False) ((1 ≤ (↑x.n : Int).toNat ∧ (↑x.n : Int).toNat ≤ 64 ∧ 0 ≤ x.key ∧ x.key < 4294967296) ∧ [] ++ [nI (↑x.n : Int), nU x.key] ++ [] = [nI (↑(↑x.n : Int).toNat : Int), nU x.key] ∧ True
  ∧ (∀ (y : List Int), (y.length = (↑x.n : Int).toNat ∧ (∀ (i : Nat), i < (↑x.n : Int).toNat → 0 ≤ y.getD i 0 ∧ y.getD i 0 < (↑(↑x.n : Int).toNat : Int)) ∧ ∀ (i j : Nat), i < (↑x.n : Int).toNat → j < (↑x.n : Int).toNat → y.getD i 0 = y.getD j 0 → i = j) → same (loopOf Proofs.Tryz.prog F_strew_New 0) (loopOf Proofs.Tryz.prog F_strew_New 0) ∧ ((1 ≤ (↑x.n : Int).toNat ∧ (↑x.n : Int).toNat ≤ 64 ∧ 0 ≤ x.key ∧ x.key < 4294967296) ∧ 0 ≤ (↑x.n : Int).toNat ∧ y.length = (↑x.n : Int).toNat ∧ (∀ (i : Nat), i < (↑x.n : Int).toNat → 0 ≤ y.getD i 0 ∧ y.getD i 0 < (↑(↑x.n : Int).toNat : Int)) ∧ ∀ (i j : Nat), i < (↑x.n : Int).toNat → j < (↑x.n : Int).toNat → y.getD i 0 = y.getD j 0 → i = j) ∧ ((nI 0 = nI 0 ∧ AV.ptr 2 0 0 = AV.ptr 2 0 0 ∧ nI (↑x.n : Int) = nI (↑(↑x.n : Int).toNat : Int) ∧ nI 0 = nI 0 ∧ True) ∧ ABlk.mk true 1 (AC.ints IntKind.i64 y) = ABlk.mk true 1 (AC.ints IntKind.i64 y) ∧ ABlk.mk true 1
  (AC.map []) = ABlk.mk true 1 (AC.map []) ∧ ABlk.mk true [AV.sl 0 0 0 (↑x.n : Int).toNat (↑x.n : Int).toNat true, AV.map 1].length (AC.cells [AV.sl 0 0 0 (↑x.n : Int).toNat (↑x.n : Int).toNat true, AV.map 1]) = ABlk.mk true 2 (AC.cells [AV.sl 0 0 0 (↑x.n : Int).toNat (↑x.n : Int).toNat true, AV.map 1]) ∧ True) ∧ ∀ (y : List Int), (y.length = (↑x.n : Int).toNat ∧ (∀ (i : Nat), i < (↑x.n : Int).toNat → 0 ≤ y.getD i 0 ∧ y.getD i 0 < (↑(↑x.n : Int).toNat : Int)) ∧ ∀ (i j : Nat), i < (↑x.n : Int).toNat → j < (↑x.n : Int).toNat → y.getD i 0 = y.getD j 0 → i = j) → ∃ (y_1 : List Int), (y_1.length = x.n ∧ (∀ (i : Nat), i < x.n → 0 ≤ y_1.getD i 0 ∧ y_1.getD i 0 < (↑x.n : Int)) ∧ ∀ (i j : Nat), i < x.n → j < x.n → y_1.getD i 0 = y_1.getD j 0 → i = j) ∧ [AV.tup [AV.ptr 2 0 0, nI 0]] = [AV.tup [AV.ptr 2 0 0, nI 0]] ∧ ABlk.mk true 1 (AC.ints IntKind.i64 y) = ABlk.mk true 1 (AC.ints IntKind.i64 y_1) ∧
  ABlk.mk true 2 (AC.cells [AV.sl 0 0 0 (↑x.n : Int).toNat (↑x.n : Int).toNat true, AV.map 1]) = ABlk.mk true 2 (AC.cells [AV.sl 0 0 0 x.n x.n true, AV.map 1]) ∧ True) ∧ True)))
theorem stC_c_e (x : OrX) : some (stC_c_V x) = (stC.cond sp Go.Proofs.Tryz.prog (drPL sp Go.Proofs.Tryz.prog) (forF F_strew_New ((stL Go.Proofs.Tryz.prog).lo sp Go.Proofs.Tryz.prog (isLoop 5) (loopOf Go.Proofs.Tryz.prog F_strew_New 0)) noLoops) (orC.orc sp) 40 2 x) := by kernel_rfl
set_option maxRecDepth 100000 in
theorem stC_ok : stC.OK Go.Proofs.Tryz.prog := by
  refine Con.byL' hmix (forF_ok (LpE.lo_ok stL_ok rfl) (noLoops_ok _)) (Con.orc_ok orC_ok) stC_c_V stC_c_e (fun x hx => ?_)
  obtain ⟨n, key⟩ := x
  obtain ⟨h1, h2, h3, h4⟩ := hx
  have h1 : 1 ≤ n := h1
  have h2 : n ≤ 64 := h2
  unfold stC_c_V
  have e0 : IntKind.wrap .i64 (512 - (n : Int)) = 512 - (n : Int) := IntWalk.i64_in _ (by omega)
  have d1 : decide ((n : Int) < 1) = false := decide_eq_false (by omega)
  have d2 : decide ((n : Int) > 64) = false := decide_eq_false (by omega)
  have d3 : decide ((0 : Int) > 512 - (n : Int)) = false := decide_eq_false (by omega)
  simp only [e0, d1, d2, d3, sp, Int.toNat_natCast, cond_false]
  refine ⟨⟨h1, h2, h3, h4⟩, by first | trivial | rfl, trivial, fun y hy => ⟨rfl, ⟨⟨h1, h2, h3, h4⟩, Nat.zero_le _, hy⟩, ?_, fun z hz => ⟨z, hz, ?_⟩⟩, trivial⟩
  all_goals repeat' (first | trivial | exact rfl | exact fun _ _ => trivial | exact fun _ _ => rfl | apply And.intro)
end Go.Proofs.YtilmgiompalggaaGreatDoor.W
