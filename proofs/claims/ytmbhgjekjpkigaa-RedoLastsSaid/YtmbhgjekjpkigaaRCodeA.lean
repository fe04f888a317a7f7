/- The functions of the statement, as code over values (printed), the first half. -/
import Derived.Test.YtmbhgjekjpkigaaAmS2
import Derived.KernelRfl
namespace Go.Proofs.Ytmbhgjekjpkigaa.AM
open Go
set_option linter.unusedVariables false
def n_gazetteerlaw12_RedoLasts : FuncId := 6
def n_gazetteerlaw12_wakes : FuncId := 9
def n_gazetteerlaw12_records : FuncId := 11
def n_redo_All : FuncId := 12
def n_redo_Check : FuncId := 19
def n_redo_Open : FuncId := 22
def n_redo_Done : FuncId := 23
def n_record_CheckRow : FuncId := 27
def n_bytes_Equal : FuncId := 28
def n_page_Set : FuncId := 31
def n_gazetteerlaw12_first : FuncId := 32
def n_redo_Undo : FuncId := 34
def n_redo_again : FuncId := 35
def n_redo_changes : FuncId := 40
def n_page_Check : FuncId := 41
def n_redo_end : FuncId := 42
def n_redo_rising_uint64_Open : FuncId := 46
def n_redo_rising_uint64_bool : FuncId := 47
def n_record_Check : FuncId := 49
def n_record_ahead : FuncId := 50
def n_octet_Equal : FuncId := 52
def n_page_at : FuncId := 53
def n_bytes_Clone : FuncId := 54
def n_slices_Clone_Open_Open : FuncId := 55
def n_slices_MinFunc_Open_Open : FuncId := 56
def n_redo_before : FuncId := 57
def n_slices_Index_Open_Open : FuncId := 58
def n_slices_Delete_Open_Open : FuncId := 59
def n_slices_Clone_byte_byte : FuncId := 60
def n_slices_Clone_Page_Page : FuncId := 61
def n_slices_BinarySearchFunc_Page_Page_int : FuncId := 62
def n_redo_again_1 : FuncId := 63
def n_cmp_Compare_int : FuncId := 64
def n_page_Check_1 : FuncId := 70
def n_page_numbered : FuncId := 71
def n_slices_ContainsFunc_Lbyte_Lbyte : FuncId := 72
def n_slices_Sorted_uint64 : FuncId := 73
def n_maps_Keys_map_uint64_Open_uint64_Open : FuncId := 74
def n_maps_Keys_map_uint64_bool_uint64_bool : FuncId := 75
def n_record_fields : FuncId := 76
def n_record_field_has : FuncId := 77
def n_record_ahead_1 : FuncId := 78
def n_slices_Equal_byte_byte : FuncId := 80
def n_cmp_Or_int : FuncId := 81
def n_cmp_Compare_uint64 : FuncId := 82
def n_cmp_isNaN_int : FuncId := 83
def n_slices_IndexFunc_Lbyte_Lbyte : FuncId := 84
def n_slices_Collect_uint64 : FuncId := 85
def n_slices_Sort_uint64_uint64 : FuncId := 86
def n_maps_Keys_map_uint64_Open_uint64_Open_1 : FuncId := 87
def n_maps_Keys_map_uint64_bool_uint64_bool_1 : FuncId := 88
def n_cmp_isNaN_uint64 : FuncId := 89
def n_slices_AppendSeq_uint64_uint64 : FuncId := 90
def n_slices_pdqsortOrdered_uint64 : FuncId := 91
def n_math_bits_Len : FuncId := 92
def n_slices_insertionSortOrdered_uint64 : FuncId := 93
def n_slices_heapSortOrdered_uint64 : FuncId := 94
def n_slices_breakPatternsOrdered_uint64 : FuncId := 95
def n_slices_choosePivotOrdered_uint64 : FuncId := 96
def n_slices_reverseRangeOrdered_uint64 : FuncId := 97
def n_slices_partialInsertionSortOrdered_uint64 : FuncId := 98
def n_cmp_Less_uint64 : FuncId := 99
def n_slices_partitionEqualOrdered_uint64 : FuncId := 100
def n_slices_partitionOrdered_uint64 : FuncId := 101
def n_math_bits_Len32 : FuncId := 102
def n_math_bits_Len64 : FuncId := 103
def n_slices_siftDownOrdered_uint64 : FuncId := 104
def n_slices_nextPowerOfTwo : FuncId := 105
def n_slices_xorshift_Next : FuncId := 106
def n_slices_medianAdjacentOrdered_uint64 : FuncId := 107
def n_slices_medianOrdered_uint64 : FuncId := 108
def n_slices_order2Ordered_uint64 : FuncId := 109

def c_gazetteerlaw12_RedoLasts : ACode := (.seq (.reg [⟨(some 2), none, (.mov (.c (.bool false)))⟩]) (.seq (.seq (.reg [⟨(some 27), none, (.call (.c (.fn (.func n_gazetteerlaw12_wakes) [] [])) [])⟩, ⟨(some 28), none, (.un .not (.s 27))⟩]) (.cond (.s 28) (.seq (.reg [⟨(some 2), none, (.mov (.c (.bool false)))⟩]) .ret) .skip)) (.seq (.reg [⟨(some 29), none, (.mov (.s 0))⟩, ⟨(some 30), none, (.call (.c (.fn (.func n_gazetteerlaw12_records) [] [])) [(.s 29)])⟩, ⟨(some 3), none, (.mov (.s 30))⟩]) (.seq (.seq (.reg [⟨(some 31), none, (.mov (.s 3))⟩, ⟨(some 32), none, (.call (.c (.fn (.func n_record_CheckRow) [] [])) [(.s 31)])⟩, ⟨(some 33), none, (.bin .neq (.s 32) (.c (.int .i64 0)))⟩, ⟨(some 34), none, (.mov (.s 33))⟩, ⟨(some 35), (some (34, false)), (.mov (.s 3))⟩, ⟨(some 36), (some (34, false)), (.len .sl (.s 35))⟩, ⟨(some 37), (some (34, false)), (.bin .eql (.s 36) (.c (.int .i64 0)))⟩, ⟨(some 38), none, (.pick (.s 34) (.c (.bool true)) (.s 37))⟩, ⟨(some 39), none, (.mov (.s 38))⟩, ⟨(some 40), (some (39, false)), (.mov (.s 3))⟩, ⟨(some 41), (some (39, false)), (.idx 9 (.s 40) (.c (.int .i64 0)))⟩, ⟨(some 42), (some (39, false)), (.fld 0 (.s 41))⟩, ⟨(some 43), (some (39, false)), (.ld none (.s 42))⟩, ⟨(some 44), (some (39, false)), (.bin .neq (.s 43) (.c (.int .u64 1)))⟩, ⟨(some 45), none, (.pick (.s 39) (.c (.bool true)) (.s 44))⟩]) (.cond (.s 45) (.seq (.reg [⟨(some 2), none, (.mov (.c (.bool true)))⟩]) .ret) .skip)) (.seq (.reg [⟨(some 4), none, (.mov (.c (.sl .nil 0 [] [])))⟩]) (.seq (.seq (.reg [⟨(some 46), none, (.mov (.c (.int .i64 0)))⟩]) (.block 0 (.loop [4, 46] [4, 5, 46, 47, 48, 49, 50, 51, 52, 53, 54] (.seq (.reg [⟨(some 47), none, (.bin .lss (.s 46) (.c (.int .i64 32)))⟩]) (.seq (.cond (.s 47) .skip (.exit 0)) (.seq (.block 1 (.seq (.reg [⟨(some 48), none, (.mov (.s 46))⟩, ⟨(some 5), none, (.mov (.s 48))⟩]) (.reg [⟨(some 49), none, (.mov (.s 4))⟩, ⟨(some 50), none, (.mov (.s 5))⟩, ⟨(some 51), none, (.build [(.int .i64 0), (.int .u64 0), (.sl .nil 0 [] []), (.sl .nil 0 [] []), (.sl .nil 0 [] []), (.sl .nil 0 [] [])] [(0, (1, (.s 50)))])⟩, ⟨(some 52), none, (.mkSl 6 1 [(.int .i64 0), (.int .u64 0), (.sl .nil 0 [] []), (.sl .nil 0 [] []), (.sl .nil 0 [] []), (.sl .nil 0 [] [])] [(0, (.s 51))])⟩, ⟨(some 53), none, (.append 6 112 (.s 49) (.s 52))⟩, ⟨(some 4), none, (.mov (.s 53))⟩]))) (.reg [⟨(some 54), none, (.bin .add (.s 46) (.c (.int .i64 1)))⟩, ⟨(some 46), none, (.mov (.s 54))⟩]))))))) (.seq (.reg [⟨(some 6), none, (.alloc [(.sl .nil 0 [] []), (.sl .nil 0 [] []), (.sl .nil 0 [] []), (.sl .nil 0 [] []), (.sl .nil 0 [] []), (.sl .nil 0 [] []), (.sl .nil 0 [] []), (.sl .nil 0 [] []), (.sl .nil 0 [] []), (.sl .nil 0 [] []), (.sl .nil 0 [] []), (.sl .nil 0 [] []), (.sl .nil 0 [] []), (.sl .nil 0 [] []), (.sl .nil 0 [] []), (.sl .nil 0 [] []), (.sl .nil 0 [] []), (.sl .nil 0 [] []), (.sl .nil 0 [] []), (.sl .nil 0 [] []), (.sl .nil 0 [] []), (.sl .nil 0 [] []), (.sl .nil 0 [] []), (.sl .nil 0 [] []), (.sl .nil 0 [] []), (.sl .nil 0 [] []), (.sl .nil 0 [] []), (.sl .nil 0 [] []), (.sl .nil 0 [] []), (.sl .nil 0 [] []), (.sl .nil 0 [] []), (.sl .nil 0 [] []), (.sl .nil 0 [] []), (.sl .nil 0 [] []), (.sl .nil 0 [] []), (.sl .nil 0 [] []), (.sl .nil 0 [] []), (.sl .nil 0 [] []), (.sl .nil 0 [] []), (.sl .nil 0 [] []), (.sl .nil 0 [] []), (.sl .nil 0 [] []), (.sl .nil 0 [] []), (.sl .nil 0 [] []), (.sl .nil 0 [] []), (.sl .nil 0 [] []), (.sl .nil 0 [] []), (.sl .nil 0 [] []), (.sl .nil 0 [] []), (.sl .nil 0 [] []), (.sl .nil 0 [] []), (.sl .nil 0 [] []), (.sl .nil 0 [] []), (.sl .nil 0 [] []), (.sl .nil 0 [] []), (.sl .nil 0 [] []), (.sl .nil 0 [] []), (.sl .nil 0 [] []), (.sl .nil 0 [] []), (.sl .nil 0 [] []), (.sl .nil 0 [] []), (.sl .nil 0 [] []), (.sl .nil 0 [] []), (.sl .nil 0 [] []), (.sl .nil 0 [] []), (.sl .nil 0 [] []), (.sl .nil 0 [] []), (.sl .nil 0 [] []), (.sl .nil 0 [] []), (.sl .nil 0 [] []), (.sl .nil 0 [] []), (.sl .nil 0 [] []), (.sl .nil 0 [] []), (.sl .nil 0 [] []), (.sl .nil 0 [] []), (.sl .nil 0 [] []), (.sl .nil 0 [] []), (.sl .nil 0 [] []), (.sl .nil 0 [] []), (.sl .nil 0 [] []), (.sl .nil 0 [] []), (.sl .nil 0 [] []), (.sl .nil 0 [] []), (.sl .nil 0 [] []), (.sl .nil 0 [] []), (.sl .nil 0 [] []), (.sl .nil 0 [] []), (.sl .nil 0 [] []), (.sl .nil 0 [] []), (.sl .nil 0 [] []), (.sl .nil 0 [] []), (.sl .nil 0 [] []), (.sl .nil 0 [] []), (.sl .nil 0 [] []), (.sl .nil 0 [] []), (.sl .nil 0 [] []), (.sl .nil 0 [] []), (.sl .nil 0 [] []), (.sl .nil 0 [] []), (.sl .nil 0 [] []), (.sl .nil 0 [] []), (.sl .nil 0 [] []), (.sl .nil 0 [] []), (.sl .nil 0 [] []), (.sl .nil 0 [] []), (.sl .nil 0 [] []), (.sl .nil 0 [] []), (.sl .nil 0 [] []), (.sl .nil 0 [] []), (.sl .nil 0 [] []), (.sl .nil 0 [] []), (.sl .nil 0 [] []), (.sl .nil 0 [] []), (.sl .nil 0 [] []), (.sl .nil 0 [] []), (.sl .nil 0 [] []), (.sl .nil 0 [] []), (.sl .nil 0 [] []), (.sl .nil 0 [] []), (.sl .nil 0 [] []), (.sl .nil 0 [] []), (.sl .nil 0 [] []), (.sl .nil 0 [] []), (.sl .nil 0 [] []), (.sl .nil 0 [] []), (.sl .nil 0 [] []), (.sl .nil 0 [] []), (.sl .nil 0 [] [])])⟩]) (.seq (.reg [⟨(some 55), none, .mkmap⟩, ⟨(some 7), none, (.mov (.s 55))⟩]) (.seq (.seq (.reg [⟨(some 56), none, (.mov (.s 3))⟩, ⟨(some 57), none, (.len .sl (.s 56))⟩, ⟨(some 58), none, (.mov (.c (.int .i64 0)))⟩]) (.block 2 (.loop [58] [2, 9, 58, 59, 60, 61, 62, 63, 64, 65, 66, 67, 68, 69, 70, 71, 72, 73, 74, 75, 76, 77, 78, 79, 80, 81, 82, 83, 84, 85, 86, 87, 88, 89, 90, 91, 92, 93, 94, 95, 96, 97, 98, 99, 100, 101, 102, 103, 104, 105, 106] (.seq (.reg [⟨(some 59), none, (.bin .lss (.s 58) (.s 57))⟩]) (.seq (.cond (.s 59) .skip (.exit 2)) (.seq (.block 3 (.seq (.reg [⟨(some 60), none, (.idx 9 (.s 56) (.s 58))⟩, ⟨(some 61), none, (.ld (some 9) (.s 60))⟩, ⟨(some 9), none, (.alloc [(.int .u64 0), (.int .i64 0), (.int .u64 0), (.int .u64 0), (.int .i64 0), (.int .i64 0), (.sl .nil 0 [] []), (.sl .nil 0 [] []), (.int .u64 0)])⟩, ⟨none, none, (.st 9 (.s 9) (.s 61))⟩]) (.seq (.seq (.reg [⟨(some 62), none, (.fld 1 (.s 9))⟩, ⟨(some 63), none, (.ld none (.s 62))⟩, ⟨(some 64), none, (.bin .eql (.s 63) (.c (.int .i64 2)))⟩, ⟨(some 65), none, (.mov (.s 64))⟩, ⟨(some 66), (some (65, false)), (.fld 1 (.s 9))⟩, ⟨(some 67), (some (65, false)), (.ld none (.s 66))⟩, ⟨(some 68), (some (65, false)), (.bin .eql (.s 67) (.c (.int .i64 4)))⟩, ⟨(some 69), none, (.pick (.s 65) (.c (.bool true)) (.s 68))⟩, ⟨(some 70), none, (.mov (.s 69))⟩, ⟨(some 71), (some (70, false)), (.fld 3 (.s 9))⟩, ⟨(some 72), (some (70, false)), (.ld none (.s 71))⟩, ⟨(some 73), (some (70, false)), (.mov (.s 7))⟩, ⟨(some 74), (some (70, false)), (.fld 2 (.s 9))⟩, ⟨(some 75), (some (70, false)), (.ld none (.s 74))⟩, ⟨(some 76), (some (70, false)), (.lookup (.one .int) (.int .u64 0) false (.s 73) (.s 75))⟩, ⟨(some 77), (some (70, false)), (.bin .neq (.s 72) (.s 76))⟩, ⟨(some 78), none, (.pick (.s 70) (.c (.bool true)) (.s 77))⟩]) (.cond (.s 78) (.seq (.reg [⟨(some 2), none, (.mov (.c (.bool true)))⟩]) .ret) .skip)) (.seq (.reg [⟨(some 79), none, (.mov (.s 7))⟩, ⟨(some 80), none, (.fld 2 (.s 9))⟩, ⟨(some 81), none, (.ld none (.s 80))⟩, ⟨(some 82), none, (.fld 0 (.s 9))⟩, ⟨(some 83), none, (.ld none (.s 82))⟩, ⟨none, none, (.mupd (.one .int) (.s 79) (.s 81) (.s 83))⟩]) (.seq (.reg [⟨(some 84), none, (.fld 1 (.s 9))⟩, ⟨(some 85), none, (.ld none (.s 84))⟩, ⟨(some 86), none, (.bin .eql (.s 85) (.c (.int .i64 1)))⟩]) (.cond (.s 86) (.seq (.seq (.regD [⟨(some 87), none, (.fld 4 (.s 9))⟩, ⟨(some 88), none, (.ld none (.s 87))⟩, ⟨(some 89), none, (.fld 5 (.s 9))⟩, ⟨(some 90), none, (.ld none (.s 89))⟩, ⟨(some 91), none, (.idxA 32 4 (.s 6) (.s 88))⟩, ⟨(some 92), none, (.idxA 4 1 (.s 91) (.s 90))⟩, ⟨(some 93), none, (.ld none (.s 92))⟩, ⟨(some 94), none, (.fld 6 (.s 9))⟩, ⟨(some 95), none, (.ld none (.s 94))⟩, ⟨(some 96), none, (.call (.c (.fn (.func n_bytes_Equal) [] [])) [(.s 93), (.s 95)])⟩, ⟨(some 97), none, (.un .not (.s 96))⟩] [(0, (false, [])), (1, (false, [])), (2, (false, [])), (3, (false, [])), (4, (false, [])), (5, (false, [])), (6, (false, [])), (7, (false, [])), (8, (false, [])), (9, (true, [])), (10, (false, []))]) (.cond (.s 97) (.seq (.reg [⟨(some 2), none, (.mov (.c (.bool true)))⟩]) .ret) .skip)) (.regD [⟨(some 98), none, (.fld 4 (.s 9))⟩, ⟨(some 99), none, (.ld none (.s 98))⟩, ⟨(some 100), none, (.fld 5 (.s 9))⟩, ⟨(some 101), none, (.ld none (.s 100))⟩, ⟨(some 102), none, (.fld 7 (.s 9))⟩, ⟨(some 103), none, (.ld none (.s 102))⟩, ⟨(some 104), none, (.idxA 32 4 (.s 6) (.s 99))⟩, ⟨(some 105), none, (.idxA 4 1 (.s 104) (.s 101))⟩, ⟨none, none, (.st 1 (.s 105) (.s 103))⟩] [(0, (false, [])), (1, (false, [])), (2, (false, [])), (3, (false, [])), (4, (false, [])), (5, (false, [])), (6, (false, [])), (7, (false, [])), (8, (true, []))])) .skip)))))) (.reg [⟨(some 106), none, (.bin .add (.s 58) (.c (.int .i64 1)))⟩, ⟨(some 58), none, (.mov (.s 106))⟩]))))))) (.seq (.reg [⟨(some 108), none, (.mov (.s 4))⟩, ⟨(some 109), none, (.mov (.s 3))⟩, ⟨(some 110), none, (.mov (.s 3))⟩, ⟨(some 111), none, (.mov (.s 3))⟩, ⟨(some 112), none, (.len .sl (.s 111))⟩, ⟨(some 113), none, (.bin .sub (.s 112) (.c (.int .i64 1)))⟩, ⟨(some 114), none, (.idx 9 (.s 110) (.s 113))⟩, ⟨(some 115), none, (.fld 0 (.s 114))⟩, ⟨(some 116), none, (.ld none (.s 115))⟩, ⟨(some 117), none, (.bin .add (.s 116) (.c (.int .u64 1)))⟩, ⟨(some 118), none, (.call (.c (.fn (.func n_redo_All) [] [])) [(.s 108), (.s 109), (.s 117)])⟩, ⟨(some 107), none, (.mov (.s 118))⟩, ⟨(some 119), none, (.ext 0 (.s 107))⟩, ⟨(some 120), none, (.ext 1 (.s 107))⟩, ⟨(some 121), none, (.ext 2 (.s 107))⟩, ⟨(some 10), none, (.mov (.s 119))⟩, ⟨(some 11), none, (.mov (.s 120))⟩, ⟨(some 12), none, (.mov (.s 121))⟩]) (.seq (.reg [⟨(some 123), none, (.mov (.s 3))⟩, ⟨(some 124), none, (.call (.c (.fn (.func n_redo_Done) [] [])) [(.s 123)])⟩, ⟨(some 122), none, (.mov (.s 124))⟩, ⟨(some 125), none, (.ext 0 (.s 122))⟩, ⟨(some 126), none, (.ext 1 (.s 122))⟩, ⟨(some 13), none, (.mov (.s 125))⟩, ⟨(some 14), none, (.mov (.s 126))⟩]) (.seq (.seq (.reg [⟨(some 127), none, (.mov (.s 12))⟩, ⟨(some 128), none, (.bin .neq (.s 127) (.c (.int .i64 0)))⟩, ⟨(some 129), none, (.mov (.s 128))⟩, ⟨(some 130), (some (129, false)), (.mov (.s 14))⟩, ⟨(some 131), (some (129, false)), (.bin .neq (.s 130) (.c (.int .i64 0)))⟩, ⟨(some 132), none, (.pick (.s 129) (.c (.bool true)) (.s 131))⟩]) (.cond (.s 132) (.seq (.reg [⟨(some 133), none, (.mov (.s 12))⟩, ⟨(some 134), none, (.bin .eql (.s 133) (.c (.int .i64 3)))⟩, ⟨(some 135), none, (.mov (.s 134))⟩, ⟨(some 136), (some (135, false)), (.mov (.s 12))⟩, ⟨(some 137), (some (135, false)), (.bin .eql (.s 136) (.c (.int .i64 220)))⟩, ⟨(some 138), (some (135, false)), (.mov (.s 137))⟩, ⟨(some 139), (some (138, true)), (.mov (.s 14))⟩, ⟨(some 140), (some (138, true)), (.bin .eql (.s 139) (.c (.int .i64 0)))⟩, ⟨(some 141), (some (135, false)), (.pick (.s 138) (.s 140) (.c (.bool false)))⟩, ⟨(some 142), none, (.pick (.s 135) (.c (.bool true)) (.s 141))⟩, ⟨(some 2), none, (.mov (.s 142))⟩]) .ret) .skip)) (.seq (.seq (.reg [⟨(some 143), none, (.mov (.c (.int .i64 0)))⟩]) (.block 4 (.loop [143] [2, 15, 16, 17, 18, 20, 21, 23, 24, 26, 143, 144, 145, 146, 147, 148, 149, 150, 151, 152, 153, 154, 155, 156, 157, 158, 159, 160, 161, 162, 163, 164, 165, 166, 167, 168, 169, 170, 171, 172, 173, 174, 175, 176, 177, 178, 179, 180, 181, 182, 183, 184, 185, 186, 187, 188, 189, 190, 191, 192, 193, 194, 195, 196, 197, 198, 199, 200, 201, 202, 203, 204, 205, 206, 207, 208, 209, 210, 211, 212, 213, 214, 215, 216, 217, 218, 219, 220, 221, 222, 223, 224, 225, 226, 227, 228] (.seq (.reg [⟨(some 144), none, (.bin .lss (.s 143) (.c (.int .i64 32)))⟩]) (.seq (.cond (.s 144) .skip (.exit 4)) (.seq (.block 5 (.seq (.reg [⟨(some 145), none, (.mov (.s 143))⟩, ⟨(some 15), none, (.mov (.s 145))⟩]) (.seq (.reg [⟨(some 146), none, (.mov (.c (.int .i64 0)))⟩]) (.block 6 (.loop [146] [2, 16, 17, 18, 20, 21, 23, 24, 26, 146, 147, 148, 149, 150, 151, 152, 153, 154, 155, 156, 157, 158, 159, 160, 161, 162, 163, 164, 165, 166, 167, 168, 169, 170, 171, 172, 173, 174, 175, 176, 177, 178, 179, 180, 181, 182, 183, 184, 185, 186, 187, 188, 189, 190, 191, 192, 193, 194, 195, 196, 197, 198, 199, 200, 201, 202, 203, 204, 205, 206, 207, 208, 209, 210, 211, 212, 213, 214, 215, 216, 217, 218, 219, 220, 221, 222, 223, 224, 225, 226, 227] (.seq (.reg [⟨(some 147), none, (.bin .lss (.s 146) (.c (.int .i64 4)))⟩]) (.seq (.cond (.s 147) .skip (.exit 6)) (.seq (.block 7 (.seq (.reg [⟨(some 148), none, (.mov (.s 146))⟩, ⟨(some 16), none, (.mov (.s 148))⟩]) (.seq (.reg [⟨(some 17), none, (.mov (.c (.sl .nil 0 [] [])))⟩]) (.seq (.reg [⟨(some 18), none, (.mov (.c (.sl .nil 0 [] [])))⟩]) (.seq (.seq (.reg [⟨(some 149), none, (.mov (.s 3))⟩, ⟨(some 150), none, (.len .sl (.s 149))⟩, ⟨(some 151), none, (.mov (.c (.int .i64 0)))⟩]) (.block 8 (.loop [17, 18, 151] [17, 18, 20, 151, 152, 153, 154, 155, 156, 157, 158, 159, 160, 161, 162, 163, 164, 165, 166, 167, 168, 169, 170, 171, 172, 173, 174, 175, 176, 177] (.seq (.reg [⟨(some 152), none, (.bin .lss (.s 151) (.s 150))⟩]) (.seq (.cond (.s 152) .skip (.exit 8)) (.seq (.block 9 (.seq (.reg [⟨(some 153), none, (.idx 9 (.s 149) (.s 151))⟩, ⟨(some 154), none, (.ld (some 9) (.s 153))⟩, ⟨(some 20), none, (.alloc [(.int .u64 0), (.int .i64 0), (.int .u64 0), (.int .u64 0), (.int .i64 0), (.int .i64 0), (.sl .nil 0 [] []), (.sl .nil 0 [] []), (.int .u64 0)])⟩, ⟨none, none, (.st 9 (.s 20) (.s 154))⟩]) (.seq (.reg [⟨(some 155), none, (.fld 1 (.s 20))⟩, ⟨(some 156), none, (.ld none (.s 155))⟩, ⟨(some 157), none, (.bin .eql (.s 156) (.c (.int .i64 1)))⟩, ⟨(some 158), none, (.mov (.s 157))⟩, ⟨(some 159), (some (158, true)), (.fld 4 (.s 20))⟩, ⟨(some 160), (some (158, true)), (.ld none (.s 159))⟩, ⟨(some 161), (some (158, true)), (.mov (.s 15))⟩, ⟨(some 162), (some (158, true)), (.bin .eql (.s 160) (.s 161))⟩, ⟨(some 163), none, (.pick (.s 158) (.s 162) (.c (.bool false)))⟩, ⟨(some 164), none, (.mov (.s 163))⟩, ⟨(some 165), (some (164, true)), (.fld 5 (.s 20))⟩, ⟨(some 166), (some (164, true)), (.ld none (.s 165))⟩, ⟨(some 167), (some (164, true)), (.mov (.s 16))⟩, ⟨(some 168), (some (164, true)), (.bin .eql (.s 166) (.s 167))⟩, ⟨(some 169), none, (.pick (.s 164) (.s 168) (.c (.bool false)))⟩]) (.cond (.s 169) (.regD [⟨(some 170), none, (.fld 7 (.s 20))⟩, ⟨(some 171), none, (.ld none (.s 170))⟩, ⟨(some 172), none, (.mov (.s 18))⟩, ⟨(some 173), none, (.fld 2 (.s 20))⟩, ⟨(some 174), none, (.ld none (.s 173))⟩, ⟨(some 175), none, (.mkSl 1 1 [(.int .u64 0)] [(0, (.s 174))])⟩, ⟨(some 176), none, (.append 1 8 (.s 172) (.s 175))⟩, ⟨(some 17), none, (.mov (.s 171))⟩, ⟨(some 18), none, (.mov (.s 176))⟩] [(0, (false, [])), (1, (false, [])), (2, (false, [])), (3, (false, [])), (4, (false, [])), (5, (true, [2, 1, 0])), (6, (true, [1, 0])), (7, (false, [])), (8, (true, []))]) .skip)))) (.reg [⟨(some 177), none, (.bin .add (.s 151) (.c (.int .i64 1)))⟩, ⟨(some 151), none, (.mov (.s 177))⟩]))))))) (.seq (.reg [⟨(some 21), none, (.mov (.c (.bool true)))⟩]) (.seq (.seq (.reg [⟨(some 178), none, (.mov (.s 18))⟩, ⟨(some 179), none, (.len .sl (.s 178))⟩, ⟨(some 180), none, (.mov (.c (.int .i64 0)))⟩]) (.block 10 (.loop [21, 180] [21, 23, 180, 181, 182, 183, 184, 185, 186, 187, 188, 189, 190, 191, 192] (.seq (.reg [⟨(some 181), none, (.bin .lss (.s 180) (.s 179))⟩]) (.seq (.cond (.s 181) .skip (.exit 10)) (.seq (.block 11 (.seq (.reg [⟨(some 182), none, (.idx 1 (.s 178) (.s 180))⟩, ⟨(some 183), none, (.ld none (.s 182))⟩, ⟨(some 23), none, (.mov (.s 183))⟩]) (.reg [⟨(some 184), none, (.mov (.s 21))⟩, ⟨(some 185), none, (.mov (.s 184))⟩, ⟨(some 186), (some (185, true)), (.mov (.s 23))⟩, ⟨(some 187), (some (185, true)), (.mov (.s 18))⟩, ⟨(some 188), (some (185, true)), (.idx 1 (.s 187) (.c (.int .i64 0)))⟩, ⟨(some 189), (some (185, true)), (.ld none (.s 188))⟩, ⟨(some 190), (some (185, true)), (.bin .eql (.s 186) (.s 189))⟩, ⟨(some 191), none, (.pick (.s 185) (.s 190) (.c (.bool false)))⟩, ⟨(some 21), none, (.mov (.s 191))⟩]))) (.reg [⟨(some 192), none, (.bin .add (.s 180) (.c (.int .i64 1)))⟩, ⟨(some 180), none, (.mov (.s 192))⟩]))))))) (.seq (.seq (.reg [⟨(some 193), none, (.mov (.s 18))⟩, ⟨(some 194), none, (.len .sl (.s 193))⟩, ⟨(some 195), none, (.bin .eql (.s 194) (.c (.int .i64 0)))⟩, ⟨(some 196), none, (.mov (.s 195))⟩, ⟨(some 197), (some (196, false)), (.mov (.s 21))⟩, ⟨(some 198), (some (196, false)), (.un .not (.s 197))⟩, ⟨(some 199), none, (.pick (.s 196) (.c (.bool true)) (.s 198))⟩]) (.cond (.s 199) (.exit 7) .skip)) (.seq (.reg [⟨(some 24), none, (.mov (.c (.bool false)))⟩]) (.seq (.seq (.reg [⟨(some 200), none, (.mov (.s 13))⟩, ⟨(some 201), none, (.len .sl (.s 200))⟩, ⟨(some 202), none, (.mov (.c (.int .i64 0)))⟩]) (.block 12 (.loop [24, 202] [24, 26, 202, 203, 204, 205, 206, 207, 208, 209, 210, 211, 212, 213, 214] (.seq (.reg [⟨(some 203), none, (.bin .lss (.s 202) (.s 201))⟩]) (.seq (.cond (.s 203) .skip (.exit 12)) (.seq (.block 13 (.seq (.reg [⟨(some 204), none, (.idx 1 (.s 200) (.s 202))⟩, ⟨(some 205), none, (.ld none (.s 204))⟩, ⟨(some 26), none, (.mov (.s 205))⟩]) (.reg [⟨(some 206), none, (.mov (.s 24))⟩, ⟨(some 207), none, (.mov (.s 206))⟩, ⟨(some 208), (some (207, false)), (.mov (.s 26))⟩, ⟨(some 209), (some (207, false)), (.mov (.s 18))⟩, ⟨(some 210), (some (207, false)), (.idx 1 (.s 209) (.c (.int .i64 0)))⟩, ⟨(some 211), (some (207, false)), (.ld none (.s 210))⟩, ⟨(some 212), (some (207, false)), (.bin .eql (.s 208) (.s 211))⟩, ⟨(some 213), none, (.pick (.s 207) (.c (.bool true)) (.s 212))⟩, ⟨(some 24), none, (.mov (.s 213))⟩]))) (.reg [⟨(some 214), none, (.bin .add (.s 202) (.c (.int .i64 1)))⟩, ⟨(some 202), none, (.mov (.s 214))⟩]))))))) (.seq (.seq (.reg [⟨(some 215), none, (.mov (.s 24))⟩, ⟨(some 216), none, (.un .not (.s 215))⟩]) (.cond (.s 216) (.reg [⟨(some 17), none, (.mov (.c (.sl .nil 0 [] [])))⟩]) .skip)) (.seq (.reg [⟨(some 217), none, (.mov (.s 10))⟩, ⟨(some 218), none, (.mov (.s 15))⟩, ⟨(some 219), none, (.mov (.s 16))⟩, ⟨(some 220), none, (.idx 6 (.s 217) (.s 218))⟩, ⟨(some 221), none, (.fld 2 (.s 220))⟩, ⟨(some 222), none, (.idxA 4 1 (.s 221) (.s 219))⟩, ⟨(some 223), none, (.ld none (.s 222))⟩, ⟨(some 224), none, (.mov (.s 17))⟩, ⟨(some 225), none, (.call (.c (.fn (.func n_bytes_Equal) [] [])) [(.s 223), (.s 224)])⟩, ⟨(some 226), none, (.un .not (.s 225))⟩]) (.cond (.s 226) (.seq (.reg [⟨(some 2), none, (.mov (.c (.bool false)))⟩]) .ret) .skip))))))))))))) (.reg [⟨(some 227), none, (.bin .add (.s 146) (.c (.int .i64 1)))⟩, ⟨(some 146), none, (.mov (.s 227))⟩]))))))))) (.reg [⟨(some 228), none, (.bin .add (.s 143) (.c (.int .i64 1)))⟩, ⟨(some 143), none, (.mov (.s 228))⟩]))))))) (.seq (.reg [⟨(some 2), none, (.mov (.c (.bool true)))⟩]) .ret))))))))))))))
def F_gazetteerlaw12_RedoLasts (P : Program) (a0 : V) (st : St) (K : V → St → Prop) : Prop :=
 @stp P (.call (.c (.fn (.func n_gazetteerlaw12_wakes) [] [])) []) st ⟨fun v27 st =>
 @stp P (.un .not (.c v27)) st ⟨fun v28 st =>
 @cnd v28 ⟨
 GhostV [(.bool false)] st fun vs st => K (mkres vs) st⟩
 ⟨
 @stp P (.call (.c (.fn (.func n_gazetteerlaw12_records) [] [])) [(.c a0)]) st ⟨fun v30 st =>
 @stp P (.call (.c (.fn (.func n_record_CheckRow) [] [])) [(.c v30)]) st ⟨fun v32 st =>
 @stp P (.bin .neq (.c v32) (.c (.int .i64 0))) st ⟨fun v33 st =>
 @gst P v33 false (.mov (.c v30)) st ⟨fun v35 st =>
 @gst P v33 false (.len .sl (.c v35)) st ⟨fun v36 st =>
 @gst P v33 false (.bin .eql (.c v36) (.c (.int .i64 0))) st ⟨fun v37 st =>
 @stp P (.pick (.c v33) (.c (.bool true)) (.c v37)) st ⟨fun v38 st =>
 @gst P v38 false (.mov (.c v30)) st ⟨fun v40 st =>
 @gst P v38 false (.idx 9 (.c v40) (.c (.int .i64 0))) st ⟨fun v41 st =>
 @gst P v38 false (.fld 0 (.c v41)) st ⟨fun v42 st =>
 @gst P v38 false (.ld none (.c v42)) st ⟨fun v43 st =>
 @gst P v38 false (.bin .neq (.c v43) (.c (.int .u64 1))) st ⟨fun v44 st =>
 @stp P (.pick (.c v38) (.c (.bool true)) (.c v44)) st ⟨fun v45 st =>
 @cnd v45 ⟨
 GhostV [(.bool true)] st fun vs st => K (mkres vs) st⟩
 ⟨
 @Hold ⟨∃ I1 : Nat → Rel 2, (∃ k, GhostV [(.sl .nil 0 [] []), (.int .i64 0)] st (app (I1 k))) ∧ ∀ k1 v4 v46, ∀ st, app (I1 k1) [v4, v46] st →
 @stp P (.bin .lss (.c v46) (.c (.int .i64 32))) st ⟨fun v47 st =>
 @cnd v47 ⟨
 @stp P (.build [(.int .i64 0), (.int .u64 0), (.sl .nil 0 [] []), (.sl .nil 0 [] []), (.sl .nil 0 [] []), (.sl .nil 0 [] [])] [(0, 1, (.c v46))]) st ⟨fun v51 st =>
 @stp P (.mkSl 6 1 [(.int .i64 0), (.int .u64 0), (.sl .nil 0 [] []), (.sl .nil 0 [] []), (.sl .nil 0 [] []), (.sl .nil 0 [] [])] [(0, (.c v51))]) st ⟨fun v52 st =>
 @stp P (.append 6 112 (.c v4) (.c v52)) st ⟨fun v53 st =>
 @stp P (.bin .add (.c v46) (.c (.int .i64 1))) st ⟨fun v54 st =>
 ∃ j, j < k1 ∧ GhostV [v53, v54] st (app (I1 j))⟩⟩⟩⟩⟩
 ⟨
 @stp P (.alloc [(.sl .nil 0 [] []), (.sl .nil 0 [] []), (.sl .nil 0 [] []), (.sl .nil 0 [] []), (.sl .nil 0 [] []), (.sl .nil 0 [] []), (.sl .nil 0 [] []), (.sl .nil 0 [] []), (.sl .nil 0 [] []), (.sl .nil 0 [] []), (.sl .nil 0 [] []), (.sl .nil 0 [] []), (.sl .nil 0 [] []), (.sl .nil 0 [] []), (.sl .nil 0 [] []), (.sl .nil 0 [] []), (.sl .nil 0 [] []), (.sl .nil 0 [] []), (.sl .nil 0 [] []), (.sl .nil 0 [] []), (.sl .nil 0 [] []), (.sl .nil 0 [] []), (.sl .nil 0 [] []), (.sl .nil 0 [] []), (.sl .nil 0 [] []), (.sl .nil 0 [] []), (.sl .nil 0 [] []), (.sl .nil 0 [] []), (.sl .nil 0 [] []), (.sl .nil 0 [] []), (.sl .nil 0 [] []), (.sl .nil 0 [] []), (.sl .nil 0 [] []), (.sl .nil 0 [] []), (.sl .nil 0 [] []), (.sl .nil 0 [] []), (.sl .nil 0 [] []), (.sl .nil 0 [] []), (.sl .nil 0 [] []), (.sl .nil 0 [] []), (.sl .nil 0 [] []), (.sl .nil 0 [] []), (.sl .nil 0 [] []), (.sl .nil 0 [] []), (.sl .nil 0 [] []), (.sl .nil 0 [] []), (.sl .nil 0 [] []), (.sl .nil 0 [] []), (.sl .nil 0 [] []), (.sl .nil 0 [] []), (.sl .nil 0 [] []), (.sl .nil 0 [] []), (.sl .nil 0 [] []), (.sl .nil 0 [] []), (.sl .nil 0 [] []), (.sl .nil 0 [] []), (.sl .nil 0 [] []), (.sl .nil 0 [] []), (.sl .nil 0 [] []), (.sl .nil 0 [] []), (.sl .nil 0 [] []), (.sl .nil 0 [] []), (.sl .nil 0 [] []), (.sl .nil 0 [] []), (.sl .nil 0 [] []), (.sl .nil 0 [] []), (.sl .nil 0 [] []), (.sl .nil 0 [] []), (.sl .nil 0 [] []), (.sl .nil 0 [] []), (.sl .nil 0 [] []), (.sl .nil 0 [] []), (.sl .nil 0 [] []), (.sl .nil 0 [] []), (.sl .nil 0 [] []), (.sl .nil 0 [] []), (.sl .nil 0 [] []), (.sl .nil 0 [] []), (.sl .nil 0 [] []), (.sl .nil 0 [] []), (.sl .nil 0 [] []), (.sl .nil 0 [] []), (.sl .nil 0 [] []), (.sl .nil 0 [] []), (.sl .nil 0 [] []), (.sl .nil 0 [] []), (.sl .nil 0 [] []), (.sl .nil 0 [] []), (.sl .nil 0 [] []), (.sl .nil 0 [] []), (.sl .nil 0 [] []), (.sl .nil 0 [] []), (.sl .nil 0 [] []), (.sl .nil 0 [] []), (.sl .nil 0 [] []), (.sl .nil 0 [] []), (.sl .nil 0 [] []), (.sl .nil 0 [] []), (.sl .nil 0 [] []), (.sl .nil 0 [] []), (.sl .nil 0 [] []), (.sl .nil 0 [] []), (.sl .nil 0 [] []), (.sl .nil 0 [] []), (.sl .nil 0 [] []), (.sl .nil 0 [] []), (.sl .nil 0 [] []), (.sl .nil 0 [] []), (.sl .nil 0 [] []), (.sl .nil 0 [] []), (.sl .nil 0 [] []), (.sl .nil 0 [] []), (.sl .nil 0 [] []), (.sl .nil 0 [] []), (.sl .nil 0 [] []), (.sl .nil 0 [] []), (.sl .nil 0 [] []), (.sl .nil 0 [] []), (.sl .nil 0 [] []), (.sl .nil 0 [] []), (.sl .nil 0 [] []), (.sl .nil 0 [] []), (.sl .nil 0 [] []), (.sl .nil 0 [] []), (.sl .nil 0 [] []), (.sl .nil 0 [] []), (.sl .nil 0 [] []), (.sl .nil 0 [] [])]) st ⟨fun v6 st =>
 @stp P .mkmap st ⟨fun v55 st =>
 @stp P (.len .sl (.c v30)) st ⟨fun v57 st =>
 @Hold ⟨∃ I2 : Nat → Rel 1, (∃ k, GhostV [(.int .i64 0)] st (app (I2 k))) ∧ ∀ k2 v58, ∀ st, app (I2 k2) [v58] st →
 @stp P (.bin .lss (.c v58) (.c v57)) st ⟨fun v59 st =>
 @cnd v59 ⟨
 @stp P (.idx 9 (.c v30) (.c v58)) st ⟨fun v60 st =>
 @stp P (.ld (some 9) (.c v60)) st ⟨fun v61 st =>
 @stp P (.alloc [(.int .u64 0), (.int .i64 0), (.int .u64 0), (.int .u64 0), (.int .i64 0), (.int .i64 0), (.sl .nil 0 [] []), (.sl .nil 0 [] []), (.int .u64 0)]) st ⟨fun v9 st =>
 @stp P (.st 9 (.c v9) (.c v61)) st ⟨fun _v st =>
 @stp P (.fld 1 (.c v9)) st ⟨fun v62 st =>
 @stp P (.ld none (.c v62)) st ⟨fun v63 st =>
 @stp P (.bin .eql (.c v63) (.c (.int .i64 2))) st ⟨fun v64 st =>
 @gst P v64 false (.fld 1 (.c v9)) st ⟨fun v66 st =>
 @gst P v64 false (.ld none (.c v66)) st ⟨fun v67 st =>
 @gst P v64 false (.bin .eql (.c v67) (.c (.int .i64 4))) st ⟨fun v68 st =>
 @stp P (.pick (.c v64) (.c (.bool true)) (.c v68)) st ⟨fun v69 st =>
 @gst P v69 false (.fld 3 (.c v9)) st ⟨fun v71 st =>
 @gst P v69 false (.ld none (.c v71)) st ⟨fun v72 st =>
 @gst P v69 false (.mov (.c v55)) st ⟨fun v73 st =>
 @gst P v69 false (.fld 2 (.c v9)) st ⟨fun v74 st =>
 @gst P v69 false (.ld none (.c v74)) st ⟨fun v75 st =>
 @gst P v69 false (.lookup (.one .int) (.int .u64 0) false (.c v73) (.c v75)) st ⟨fun v76 st =>
 @gst P v69 false (.bin .neq (.c v72) (.c v76)) st ⟨fun v77 st =>
 @stp P (.pick (.c v69) (.c (.bool true)) (.c v77)) st ⟨fun v78 st =>
 @cnd v78 ⟨
 GhostV [(.bool true)] st fun vs st => K (mkres vs) st⟩
 ⟨
 @stp P (.fld 2 (.c v9)) st ⟨fun v80 st =>
 @stp P (.ld none (.c v80)) st ⟨fun v81 st =>
 @stp P (.fld 0 (.c v9)) st ⟨fun v82 st =>
 @stp P (.ld none (.c v82)) st ⟨fun v83 st =>
 @stp P (.mupd (.one .int) (.c v55) (.c v81) (.c v83)) st ⟨fun _v st =>
 @stp P (.fld 1 (.c v9)) st ⟨fun v84 st =>
 @stp P (.ld none (.c v84)) st ⟨fun v85 st =>
 @stp P (.bin .eql (.c v85) (.c (.int .i64 1))) st ⟨fun v86 st =>
 @cnd v86 ⟨
 @stpD P (.fld 4 (.c v9)) st ⟨fun v87 st =>
 @stpD P (.ld none (.c v87)) st ⟨fun v88 st =>
 @stpD P (.fld 5 (.c v9)) st ⟨fun v89 st =>
 @stpD P (.ld none (.c v89)) st ⟨fun v90 st =>
 @stpD P (.idxA 32 4 (.c v6) (.c v88)) st ⟨fun v91 st =>
 @stpD P (.idxA 4 1 (.c v91) (.c v90)) st ⟨fun v92 st =>
 @stpD P (.ld none (.c v92)) st ⟨fun v93 st =>
 @stpD P (.fld 6 (.c v9)) st ⟨fun v94 st =>
 @stpD P (.ld none (.c v94)) st ⟨fun v95 st =>
 @stpD P (.call (.c (.fn (.func n_bytes_Equal) [] [])) [(.c v93), (.c v95)]) st ⟨fun v96 st =>
 @stpD P (.un .not (.c v96)) st ⟨fun v97 st =>
 @cnd v97 ⟨
 GhostV [(.bool true)] st fun vs st => K (mkres vs) st⟩
 ⟨
 @stpD P (.fld 4 (.c v9)) st ⟨fun v98 st =>
 @stpD P (.ld none (.c v98)) st ⟨fun v99 st =>
 @stpD P (.fld 5 (.c v9)) st ⟨fun v100 st =>
 @stpD P (.ld none (.c v100)) st ⟨fun v101 st =>
 @stpD P (.fld 7 (.c v9)) st ⟨fun v102 st =>
 @stpD P (.ld none (.c v102)) st ⟨fun v103 st =>
 @stpD P (.idxA 32 4 (.c v6) (.c v99)) st ⟨fun v104 st =>
 @stpD P (.idxA 4 1 (.c v104) (.c v101)) st ⟨fun v105 st =>
 @stpD P (.st 1 (.c v105) (.c v103)) st ⟨fun _v st =>
 @stp P (.bin .add (.c v58) (.c (.int .i64 1))) st ⟨fun v106 st =>
 ∃ j, j < k2 ∧ GhostV [v106] st (app (I2 j))⟩⟩⟩⟩⟩⟩⟩⟩⟩⟩⟩⟩⟩⟩⟩⟩⟩⟩⟩⟩⟩⟩⟩
 ⟨
 @stp P (.bin .add (.c v58) (.c (.int .i64 1))) st ⟨fun v106 st =>
 ∃ j, j < k2 ∧ GhostV [v106] st (app (I2 j))⟩⟩⟩⟩⟩⟩⟩⟩⟩⟩⟩⟩⟩⟩⟩⟩⟩⟩⟩⟩⟩⟩⟩⟩⟩⟩⟩⟩⟩⟩⟩
 ⟨
 @stp P (.len .sl (.c v30)) st ⟨fun v112 st =>
 @stp P (.bin .sub (.c v112) (.c (.int .i64 1))) st ⟨fun v113 st =>
 @stp P (.idx 9 (.c v30) (.c v113)) st ⟨fun v114 st =>
 @stp P (.fld 0 (.c v114)) st ⟨fun v115 st =>
 @stp P (.ld none (.c v115)) st ⟨fun v116 st =>
 @stp P (.bin .add (.c v116) (.c (.int .u64 1))) st ⟨fun v117 st =>
 @stp P (.call (.c (.fn (.func n_redo_All) [] [])) [(.c v4), (.c v30), (.c v117)]) st ⟨fun v118 st =>
 @stp P (.ext 0 (.c v118)) st ⟨fun v119 st =>
 @stp P (.ext 1 (.c v118)) st ⟨fun v120 st =>
 @stp P (.ext 2 (.c v118)) st ⟨fun v121 st =>
 @stp P (.call (.c (.fn (.func n_redo_Done) [] [])) [(.c v30)]) st ⟨fun v124 st =>
 @stp P (.ext 0 (.c v124)) st ⟨fun v125 st =>
 @stp P (.ext 1 (.c v124)) st ⟨fun v126 st =>
 @stp P (.bin .neq (.c v121) (.c (.int .i64 0))) st ⟨fun v128 st =>
 @gst P v128 false (.mov (.c v126)) st ⟨fun v130 st =>
 @gst P v128 false (.bin .neq (.c v130) (.c (.int .i64 0))) st ⟨fun v131 st =>
 @stp P (.pick (.c v128) (.c (.bool true)) (.c v131)) st ⟨fun v132 st =>
 @cnd v132 ⟨
 @stp P (.bin .eql (.c v121) (.c (.int .i64 3))) st ⟨fun v134 st =>
 @gst P v134 false (.mov (.c v121)) st ⟨fun v136 st =>
 @gst P v134 false (.bin .eql (.c v136) (.c (.int .i64 220))) st ⟨fun v137 st =>
 @gst P v134 false (.mov (.c v137)) st ⟨fun v138 st =>
 @gst P v138 true (.mov (.c v126)) st ⟨fun v139 st =>
 @gst P v138 true (.bin .eql (.c v139) (.c (.int .i64 0))) st ⟨fun v140 st =>
 @gst P v134 false (.pick (.c v138) (.c v140) (.c (.bool false))) st ⟨fun v141 st =>
 @stp P (.pick (.c v134) (.c (.bool true)) (.c v141)) st ⟨fun v142 st =>
 GhostV [v142] st fun vs st => K (mkres vs) st⟩⟩⟩⟩⟩⟩⟩⟩⟩
 ⟨
 @Hold ⟨∃ I3 : Nat → Rel 1, (∃ k, GhostV [(.int .i64 0)] st (app (I3 k))) ∧ ∀ k3 v143, ∀ st, app (I3 k3) [v143] st →
 @stp P (.bin .lss (.c v143) (.c (.int .i64 32))) st ⟨fun v144 st =>
 @cnd v144 ⟨
 @Hold ⟨∃ I4 : Nat → Rel 1, (∃ k, GhostV [(.int .i64 0)] st (app (I4 k))) ∧ ∀ k4 v146, ∀ st, app (I4 k4) [v146] st →
 @stp P (.bin .lss (.c v146) (.c (.int .i64 4))) st ⟨fun v147 st =>
 @cnd v147 ⟨
 @stp P (.len .sl (.c v30)) st ⟨fun v150 st =>
 @Hold ⟨∃ I5 : Nat → Rel 3, (∃ k, GhostV [(.sl .nil 0 [] []), (.sl .nil 0 [] []), (.int .i64 0)] st (app (I5 k))) ∧ ∀ k5 v17 v18 v151, ∀ st, app (I5 k5) [v17, v18, v151] st →
 @stp P (.bin .lss (.c v151) (.c v150)) st ⟨fun v152 st =>
 @cnd v152 ⟨
 @stp P (.idx 9 (.c v30) (.c v151)) st ⟨fun v153 st =>
 @stp P (.ld (some 9) (.c v153)) st ⟨fun v154 st =>
 @stp P (.alloc [(.int .u64 0), (.int .i64 0), (.int .u64 0), (.int .u64 0), (.int .i64 0), (.int .i64 0), (.sl .nil 0 [] []), (.sl .nil 0 [] []), (.int .u64 0)]) st ⟨fun v20 st =>
 @stp P (.st 9 (.c v20) (.c v154)) st ⟨fun _v st =>
 @stp P (.fld 1 (.c v20)) st ⟨fun v155 st =>
 @stp P (.ld none (.c v155)) st ⟨fun v156 st =>
 @stp P (.bin .eql (.c v156) (.c (.int .i64 1))) st ⟨fun v157 st =>
 @gst P v157 true (.fld 4 (.c v20)) st ⟨fun v159 st =>
 @gst P v157 true (.ld none (.c v159)) st ⟨fun v160 st =>
 @gst P v157 true (.mov (.c v143)) st ⟨fun v161 st =>
 @gst P v157 true (.bin .eql (.c v160) (.c v161)) st ⟨fun v162 st =>
 @stp P (.pick (.c v157) (.c v162) (.c (.bool false))) st ⟨fun v163 st =>
 @gst P v163 true (.fld 5 (.c v20)) st ⟨fun v165 st =>
 @gst P v163 true (.ld none (.c v165)) st ⟨fun v166 st =>
 @gst P v163 true (.mov (.c v146)) st ⟨fun v167 st =>
 @gst P v163 true (.bin .eql (.c v166) (.c v167)) st ⟨fun v168 st =>
 @stp P (.pick (.c v163) (.c v168) (.c (.bool false))) st ⟨fun v169 st =>
 @cnd v169 ⟨
 @stpD P (.fld 7 (.c v20)) st ⟨fun v170 st =>
 @stpD P (.ld none (.c v170)) st ⟨fun v171 st =>
 @stpD P (.fld 2 (.c v20)) st ⟨fun v173 st =>
 @stpD P (.ld none (.c v173)) st ⟨fun v174 st =>
 @stpD P (.mkSl 1 1 [(.int .u64 0)] [(0, (.c v174))]) st ⟨fun v175 st =>
 hwat P none (.mov (.c v18)) st v18 ∧ (
 hwat P none (.ld none (.c v170)) st v171 ∧ (
 hwat P none (.fld 7 (.c v20)) st v170 ∧ (
 @stpD P (.append 1 8 (.c v18) (.c v175)) st ⟨fun v176 st =>
 hwat P none (.ld none (.c v170)) st v171 ∧ (
 hwat P none (.fld 7 (.c v20)) st v170 ∧ (
 @stp P (.bin .add (.c v151) (.c (.int .i64 1))) st ⟨fun v177 st =>
 ∃ j, j < k5 ∧ GhostV [v171, v176, v177] st (app (I5 j))⟩))⟩)))⟩⟩⟩⟩⟩⟩
 ⟨
 @stp P (.bin .add (.c v151) (.c (.int .i64 1))) st ⟨fun v177 st =>
 ∃ j, j < k5 ∧ GhostV [v17, v18, v177] st (app (I5 j))⟩⟩⟩⟩⟩⟩⟩⟩⟩⟩⟩⟩⟩⟩⟩⟩⟩⟩⟩⟩
 ⟨
 @stp P (.len .sl (.c v18)) st ⟨fun v179 st =>
 @Hold ⟨∃ I6 : Nat → Rel 2, (∃ k, GhostV [(.bool true), (.int .i64 0)] st (app (I6 k))) ∧ ∀ k6 v21 v180, ∀ st, app (I6 k6) [v21, v180] st →
 @stp P (.bin .lss (.c v180) (.c v179)) st ⟨fun v181 st =>
 @cnd v181 ⟨
 @stp P (.idx 1 (.c v18) (.c v180)) st ⟨fun v182 st =>
 @stp P (.ld none (.c v182)) st ⟨fun v183 st =>
 @gst P v21 true (.mov (.c v183)) st ⟨fun v186 st =>
 @gst P v21 true (.mov (.c v18)) st ⟨fun v187 st =>
 @gst P v21 true (.idx 1 (.c v187) (.c (.int .i64 0))) st ⟨fun v188 st =>
 @gst P v21 true (.ld none (.c v188)) st ⟨fun v189 st =>
 @gst P v21 true (.bin .eql (.c v186) (.c v189)) st ⟨fun v190 st =>
 @stp P (.pick (.c v21) (.c v190) (.c (.bool false))) st ⟨fun v191 st =>
 @stp P (.bin .add (.c v180) (.c (.int .i64 1))) st ⟨fun v192 st =>
 ∃ j, j < k6 ∧ GhostV [v191, v192] st (app (I6 j))⟩⟩⟩⟩⟩⟩⟩⟩⟩⟩
 ⟨
 @stp P (.len .sl (.c v18)) st ⟨fun v194 st =>
 @stp P (.bin .eql (.c v194) (.c (.int .i64 0))) st ⟨fun v195 st =>
 @gst P v195 false (.mov (.c v21)) st ⟨fun v197 st =>
 @gst P v195 false (.un .not (.c v197)) st ⟨fun v198 st =>
 @stp P (.pick (.c v195) (.c (.bool true)) (.c v198)) st ⟨fun v199 st =>
 @cnd v199 ⟨
 @stp P (.bin .add (.c v146) (.c (.int .i64 1))) st ⟨fun v227 st =>
 ∃ j, j < k4 ∧ GhostV [v227] st (app (I4 j))⟩⟩
 ⟨
 @stp P (.len .sl (.c v125)) st ⟨fun v201 st =>
 @Hold ⟨∃ I7 : Nat → Rel 2, (∃ k, GhostV [(.bool false), (.int .i64 0)] st (app (I7 k))) ∧ ∀ k7 v24 v202, ∀ st, app (I7 k7) [v24, v202] st →
 @stp P (.bin .lss (.c v202) (.c v201)) st ⟨fun v203 st =>
 @cnd v203 ⟨
 @stp P (.idx 1 (.c v125) (.c v202)) st ⟨fun v204 st =>
 @stp P (.ld none (.c v204)) st ⟨fun v205 st =>
 @gst P v24 false (.mov (.c v205)) st ⟨fun v208 st =>
 @gst P v24 false (.mov (.c v18)) st ⟨fun v209 st =>
 @gst P v24 false (.idx 1 (.c v209) (.c (.int .i64 0))) st ⟨fun v210 st =>
 @gst P v24 false (.ld none (.c v210)) st ⟨fun v211 st =>
 @gst P v24 false (.bin .eql (.c v208) (.c v211)) st ⟨fun v212 st =>
 @stp P (.pick (.c v24) (.c (.bool true)) (.c v212)) st ⟨fun v213 st =>
 @stp P (.bin .add (.c v202) (.c (.int .i64 1))) st ⟨fun v214 st =>
 ∃ j, j < k7 ∧ GhostV [v213, v214] st (app (I7 j))⟩⟩⟩⟩⟩⟩⟩⟩⟩⟩
 ⟨
 @stp P (.un .not (.c v24)) st ⟨fun v216 st =>
 @cnd v216 ⟨
 @stp P (.idx 6 (.c v119) (.c v143)) st ⟨fun v220 st =>
 @stp P (.fld 2 (.c v220)) st ⟨fun v221 st =>
 @stp P (.idxA 4 1 (.c v221) (.c v146)) st ⟨fun v222 st =>
 @stp P (.ld none (.c v222)) st ⟨fun v223 st =>
 @stp P (.call (.c (.fn (.func n_bytes_Equal) [] [])) [(.c v223), (.c (.sl .nil 0 [] []))]) st ⟨fun v225 st =>
 @stp P (.un .not (.c v225)) st ⟨fun v226 st =>
 @cnd v226 ⟨
 GhostV [(.bool false)] st fun vs st => K (mkres vs) st⟩
 ⟨
 @stp P (.bin .add (.c v146) (.c (.int .i64 1))) st ⟨fun v227 st =>
 ∃ j, j < k4 ∧ GhostV [v227] st (app (I4 j))⟩⟩⟩⟩⟩⟩⟩⟩⟩
 ⟨
 @stp P (.idx 6 (.c v119) (.c v143)) st ⟨fun v220 st =>
 @stp P (.fld 2 (.c v220)) st ⟨fun v221 st =>
 @stp P (.idxA 4 1 (.c v221) (.c v146)) st ⟨fun v222 st =>
 @stp P (.ld none (.c v222)) st ⟨fun v223 st =>
 @stp P (.call (.c (.fn (.func n_bytes_Equal) [] [])) [(.c v223), (.c v17)]) st ⟨fun v225 st =>
 @stp P (.un .not (.c v225)) st ⟨fun v226 st =>
 @cnd v226 ⟨
 GhostV [(.bool false)] st fun vs st => K (mkres vs) st⟩
 ⟨
 @stp P (.bin .add (.c v146) (.c (.int .i64 1))) st ⟨fun v227 st =>
 ∃ j, j < k4 ∧ GhostV [v227] st (app (I4 j))⟩⟩⟩⟩⟩⟩⟩⟩⟩⟩⟩⟩⟩⟩⟩⟩⟩⟩⟩⟩⟩⟩⟩⟩⟩⟩⟩⟩⟩
 ⟨
 @stp P (.bin .add (.c v143) (.c (.int .i64 1))) st ⟨fun v228 st =>
 ∃ j, j < k3 ∧ GhostV [v228] st (app (I3 j))⟩⟩⟩⟩⟩
 ⟨
 GhostV [(.bool true)] st fun vs st => K (mkres vs) st⟩⟩⟩⟩⟩⟩⟩⟩⟩⟩⟩⟩⟩⟩⟩⟩⟩⟩⟩⟩⟩⟩⟩⟩⟩⟩⟩⟩⟩⟩⟩⟩⟩⟩⟩⟩⟩⟩⟩⟩⟩⟩⟩⟩⟩⟩⟩
theorem q_gazetteerlaw12_RedoLasts {P : Program} {a0 : V} {st : St} {K : V → St → Prop} : F_gazetteerlaw12_RedoLasts P a0 st K = hwp P c_gazetteerlaw12_RedoLasts (hretQ [.tmp 2] K) (enterFr [a0]) st := by kernel_rfl
abbrev R_gazetteerlaw12_RedoLasts (P : Program) : Prop := resFnH P n_gazetteerlaw12_RedoLasts = some (229, c_gazetteerlaw12_RedoLasts.er, [.tmp 2])
theorem A_gazetteerlaw12_RedoLasts {P : Program} (h : R_gazetteerlaw12_RedoLasts P) {a0 : V} {st : St} {K : V → St → Prop} (hF : F_gazetteerlaw12_RedoLasts P a0 st K) : ACalls P n_gazetteerlaw12_RedoLasts [a0] st K :=
  ACalls_h h rfl (by simp) (q_gazetteerlaw12_RedoLasts ▸ hF)

def c_gazetteerlaw12_wakes : ACode := (.seq (.reg [⟨(some 0), none, (.mov (.c (.bool false)))⟩]) (.seq (.reg [⟨(some 5), none, (.build [(.int .i64 0), (.int .u64 0), (.sl .nil 0 [] []), (.sl .nil 0 [] []), (.sl .nil 0 [] []), (.sl .nil 0 [] [])] [])⟩, ⟨(some 6), none, (.mkSl 6 1 [(.int .i64 0), (.int .u64 0), (.sl .nil 0 [] []), (.sl .nil 0 [] []), (.sl .nil 0 [] []), (.sl .nil 0 [] [])] [(0, (.s 5))])⟩, ⟨(some 7), none, (.call (.c (.fn (.func n_gazetteerlaw12_first) [] [])) [])⟩, ⟨(some 8), none, (.call (.c (.fn (.func n_redo_All) [] [])) [(.s 6), (.s 7), (.c (.int .u64 4))])⟩, ⟨(some 4), none, (.mov (.s 8))⟩, ⟨(some 9), none, (.ext 0 (.s 4))⟩, ⟨(some 10), none, (.ext 1 (.s 4))⟩, ⟨(some 11), none, (.ext 2 (.s 4))⟩, ⟨(some 1), none, (.mov (.s 9))⟩, ⟨(some 2), none, (.mov (.s 10))⟩, ⟨(some 3), none, (.mov (.s 11))⟩]) (.seq (.reg [⟨(some 12), none, (.mov (.s 3))⟩, ⟨(some 13), none, (.bin .eql (.s 12) (.c (.int .i64 0)))⟩, ⟨(some 14), none, (.mov (.s 13))⟩, ⟨(some 15), (some (14, true)), (.mov (.s 1))⟩, ⟨(some 16), (some (14, true)), (.len .sl (.s 15))⟩, ⟨(some 17), (some (14, true)), (.bin .eql (.s 16) (.c (.int .i64 1)))⟩, ⟨(some 18), none, (.pick (.s 14) (.s 17) (.c (.bool false)))⟩, ⟨(some 19), none, (.mov (.s 18))⟩, ⟨(some 20), (some (19, true)), (.mov (.s 1))⟩, ⟨(some 21), (some (19, true)), (.idx 6 (.s 20) (.c (.int .i64 0)))⟩, ⟨(some 22), (some (19, true)), (.fld 1 (.s 21))⟩, ⟨(some 23), (some (19, true)), (.ld none (.s 22))⟩, ⟨(some 24), (some (19, true)), (.bin .eql (.s 23) (.c (.int .u64 4)))⟩, ⟨(some 25), none, (.pick (.s 19) (.s 24) (.c (.bool false)))⟩, ⟨(some 26), none, (.mov (.s 25))⟩, ⟨(some 27), (some (26, true)), (.mov (.s 1))⟩, ⟨(some 28), (some (26, true)), (.idx 6 (.s 27) (.c (.int .i64 0)))⟩, ⟨(some 29), (some (26, true)), (.fld 2 (.s 28))⟩, ⟨(some 30), (some (26, true)), (.idxA 4 1 (.s 29) (.c (.int .i64 0)))⟩, ⟨(some 31), (some (26, true)), (.ld none (.s 30))⟩, ⟨(some 32), (some (26, true)), (.len .sl (.s 31))⟩, ⟨(some 33), (some (26, true)), (.bin .eql (.s 32) (.c (.int .i64 1)))⟩, ⟨(some 34), none, (.pick (.s 26) (.s 33) (.c (.bool false)))⟩, ⟨(some 35), none, (.mov (.s 34))⟩, ⟨(some 36), (some (35, true)), (.mov (.s 1))⟩, ⟨(some 37), (some (35, true)), (.idx 6 (.s 36) (.c (.int .i64 0)))⟩, ⟨(some 38), (some (35, true)), (.fld 2 (.s 37))⟩, ⟨(some 39), (some (35, true)), (.idxA 4 1 (.s 38) (.c (.int .i64 1)))⟩, ⟨(some 40), (some (35, true)), (.ld none (.s 39))⟩, ⟨(some 41), (some (35, true)), (.len .sl (.s 40))⟩, ⟨(some 42), (some (35, true)), (.bin .eql (.s 41) (.c (.int .i64 0)))⟩, ⟨(some 43), none, (.pick (.s 35) (.s 42) (.c (.bool false)))⟩, ⟨(some 44), none, (.mov (.s 43))⟩, ⟨(some 45), (some (44, true)), (.mov (.s 2))⟩, ⟨(some 46), (some (44, true)), (.len .sl (.s 45))⟩, ⟨(some 47), (some (44, true)), (.bin .eql (.s 46) (.c (.int .i64 2)))⟩, ⟨(some 48), none, (.pick (.s 44) (.s 47) (.c (.bool false)))⟩, ⟨(some 49), none, (.mov (.s 48))⟩, ⟨(some 50), (some (49, true)), (.mov (.s 2))⟩, ⟨(some 51), (some (49, true)), (.idx 9 (.s 50) (.c (.int .i64 1)))⟩, ⟨(some 52), (some (49, true)), (.fld 1 (.s 51))⟩, ⟨(some 53), (some (49, true)), (.ld none (.s 52))⟩, ⟨(some 54), (some (49, true)), (.bin .eql (.s 53) (.c (.int .i64 4)))⟩, ⟨(some 55), none, (.pick (.s 49) (.s 54) (.c (.bool false)))⟩, ⟨(some 56), none, (.mov (.s 55))⟩, ⟨(some 57), (some (56, true)), (.mov (.s 2))⟩, ⟨(some 58), (some (56, true)), (.idx 9 (.s 57) (.c (.int .i64 1)))⟩, ⟨(some 59), (some (56, true)), (.fld 3 (.s 58))⟩, ⟨(some 60), (some (56, true)), (.ld none (.s 59))⟩, ⟨(some 61), (some (56, true)), (.bin .eql (.s 60) (.c (.int .u64 4)))⟩, ⟨(some 62), none, (.pick (.s 56) (.s 61) (.c (.bool false)))⟩, ⟨(some 0), none, (.mov (.s 62))⟩]) .ret)))
def F_gazetteerlaw12_wakes (P : Program) (st : St) (K : V → St → Prop) : Prop :=
 @stp P (.build [(.int .i64 0), (.int .u64 0), (.sl .nil 0 [] []), (.sl .nil 0 [] []), (.sl .nil 0 [] []), (.sl .nil 0 [] [])] []) st ⟨fun v5 st =>
 @stp P (.mkSl 6 1 [(.int .i64 0), (.int .u64 0), (.sl .nil 0 [] []), (.sl .nil 0 [] []), (.sl .nil 0 [] []), (.sl .nil 0 [] [])] [(0, (.c v5))]) st ⟨fun v6 st =>
 @stp P (.call (.c (.fn (.func n_gazetteerlaw12_first) [] [])) []) st ⟨fun v7 st =>
 @stp P (.call (.c (.fn (.func n_redo_All) [] [])) [(.c v6), (.c v7), (.c (.int .u64 4))]) st ⟨fun v8 st =>
 @stp P (.ext 0 (.c v8)) st ⟨fun v9 st =>
 @stp P (.ext 1 (.c v8)) st ⟨fun v10 st =>
 @stp P (.ext 2 (.c v8)) st ⟨fun v11 st =>
 @stp P (.bin .eql (.c v11) (.c (.int .i64 0))) st ⟨fun v13 st =>
 @gst P v13 true (.mov (.c v9)) st ⟨fun v15 st =>
 @gst P v13 true (.len .sl (.c v15)) st ⟨fun v16 st =>
 @gst P v13 true (.bin .eql (.c v16) (.c (.int .i64 1))) st ⟨fun v17 st =>
 @stp P (.pick (.c v13) (.c v17) (.c (.bool false))) st ⟨fun v18 st =>
 @gst P v18 true (.mov (.c v9)) st ⟨fun v20 st =>
 @gst P v18 true (.idx 6 (.c v20) (.c (.int .i64 0))) st ⟨fun v21 st =>
 @gst P v18 true (.fld 1 (.c v21)) st ⟨fun v22 st =>
 @gst P v18 true (.ld none (.c v22)) st ⟨fun v23 st =>
 @gst P v18 true (.bin .eql (.c v23) (.c (.int .u64 4))) st ⟨fun v24 st =>
 @stp P (.pick (.c v18) (.c v24) (.c (.bool false))) st ⟨fun v25 st =>
 @gst P v25 true (.mov (.c v9)) st ⟨fun v27 st =>
 @gst P v25 true (.idx 6 (.c v27) (.c (.int .i64 0))) st ⟨fun v28 st =>
 @gst P v25 true (.fld 2 (.c v28)) st ⟨fun v29 st =>
 @gst P v25 true (.idxA 4 1 (.c v29) (.c (.int .i64 0))) st ⟨fun v30 st =>
 @gst P v25 true (.ld none (.c v30)) st ⟨fun v31 st =>
 @gst P v25 true (.len .sl (.c v31)) st ⟨fun v32 st =>
 @gst P v25 true (.bin .eql (.c v32) (.c (.int .i64 1))) st ⟨fun v33 st =>
 @stp P (.pick (.c v25) (.c v33) (.c (.bool false))) st ⟨fun v34 st =>
 @gst P v34 true (.mov (.c v9)) st ⟨fun v36 st =>
 @gst P v34 true (.idx 6 (.c v36) (.c (.int .i64 0))) st ⟨fun v37 st =>
 @gst P v34 true (.fld 2 (.c v37)) st ⟨fun v38 st =>
 @gst P v34 true (.idxA 4 1 (.c v38) (.c (.int .i64 1))) st ⟨fun v39 st =>
 @gst P v34 true (.ld none (.c v39)) st ⟨fun v40 st =>
 @gst P v34 true (.len .sl (.c v40)) st ⟨fun v41 st =>
 @gst P v34 true (.bin .eql (.c v41) (.c (.int .i64 0))) st ⟨fun v42 st =>
 @stp P (.pick (.c v34) (.c v42) (.c (.bool false))) st ⟨fun v43 st =>
 @gst P v43 true (.mov (.c v10)) st ⟨fun v45 st =>
 @gst P v43 true (.len .sl (.c v45)) st ⟨fun v46 st =>
 @gst P v43 true (.bin .eql (.c v46) (.c (.int .i64 2))) st ⟨fun v47 st =>
 @stp P (.pick (.c v43) (.c v47) (.c (.bool false))) st ⟨fun v48 st =>
 @gst P v48 true (.mov (.c v10)) st ⟨fun v50 st =>
 @gst P v48 true (.idx 9 (.c v50) (.c (.int .i64 1))) st ⟨fun v51 st =>
 @gst P v48 true (.fld 1 (.c v51)) st ⟨fun v52 st =>
 @gst P v48 true (.ld none (.c v52)) st ⟨fun v53 st =>
 @gst P v48 true (.bin .eql (.c v53) (.c (.int .i64 4))) st ⟨fun v54 st =>
 @stp P (.pick (.c v48) (.c v54) (.c (.bool false))) st ⟨fun v55 st =>
 @gst P v55 true (.mov (.c v10)) st ⟨fun v57 st =>
 @gst P v55 true (.idx 9 (.c v57) (.c (.int .i64 1))) st ⟨fun v58 st =>
 @gst P v55 true (.fld 3 (.c v58)) st ⟨fun v59 st =>
 @gst P v55 true (.ld none (.c v59)) st ⟨fun v60 st =>
 @gst P v55 true (.bin .eql (.c v60) (.c (.int .u64 4))) st ⟨fun v61 st =>
 @stp P (.pick (.c v55) (.c v61) (.c (.bool false))) st ⟨fun v62 st =>
 GhostV [v62] st fun vs st => K (mkres vs) st⟩⟩⟩⟩⟩⟩⟩⟩⟩⟩⟩⟩⟩⟩⟩⟩⟩⟩⟩⟩⟩⟩⟩⟩⟩⟩⟩⟩⟩⟩⟩⟩⟩⟩⟩⟩⟩⟩⟩⟩⟩⟩⟩⟩⟩⟩⟩⟩⟩⟩
theorem q_gazetteerlaw12_wakes {P : Program} {st : St} {K : V → St → Prop} : F_gazetteerlaw12_wakes P  st K = hwp P c_gazetteerlaw12_wakes (hretQ [.tmp 0] K) (enterFr []) st := by kernel_rfl
abbrev R_gazetteerlaw12_wakes (P : Program) : Prop := resFnH P n_gazetteerlaw12_wakes = some (63, c_gazetteerlaw12_wakes.er, [.tmp 0])
theorem A_gazetteerlaw12_wakes {P : Program} (h : R_gazetteerlaw12_wakes P) {st : St} {K : V → St → Prop} (hF : F_gazetteerlaw12_wakes P  st K) : ACalls P n_gazetteerlaw12_wakes [] st K :=
  ACalls_h h rfl (by simp) (q_gazetteerlaw12_wakes ▸ hF)

def c_gazetteerlaw12_records : ACode := (.seq (.reg [⟨(some 2), none, (.mov (.c (.sl .nil 0 [] [])))⟩]) (.seq (.reg [⟨(some 3), none, (.mov (.c (.sl .nil 0 [] [])))⟩]) (.seq (.seq (.reg [⟨(some 6), none, (.mov (.s 0))⟩, ⟨(some 7), none, (.len .sl (.s 6))⟩, ⟨(some 8), none, (.mov (.c (.int .i64 0)))⟩]) (.block 0 (.loop [3, 8] [3, 4, 5, 8, 9, 10, 11, 12, 13, 14, 15, 16, 17, 18, 19, 20, 21, 22, 23, 24, 25, 26, 27, 28, 29, 30, 31, 32, 33, 34, 35, 36, 37, 38, 39] (.seq (.reg [⟨(some 9), none, (.bin .lss (.s 8) (.s 7))⟩]) (.seq (.cond (.s 9) .skip (.exit 0)) (.seq (.block 1 (.seq (.reg [⟨(some 10), none, (.mov (.s 8))⟩, ⟨(some 11), none, (.idx 9 (.s 6) (.s 8))⟩, ⟨(some 12), none, (.ld (some 9) (.s 11))⟩, ⟨(some 5), none, (.alloc [(.int .u64 0), (.int .i64 0), (.int .u64 0), (.int .u64 0), (.int .i64 0), (.int .i64 0), (.sl .nil 0 [] []), (.sl .nil 0 [] []), (.int .u64 0)])⟩, ⟨(some 4), none, (.mov (.s 10))⟩, ⟨none, none, (.st 9 (.s 5) (.s 12))⟩]) (.seq (.seq (.reg [⟨(some 13), none, (.mov (.s 4))⟩, ⟨(some 14), none, (.bin .eql (.s 13) (.c (.int .i64 65)))⟩]) (.cond (.s 14) (.exit 0) .skip)) (.seq (.regD [⟨(some 15), none, (.mov (.c (.sl .cap0 1 [] [])))⟩, ⟨(some 16), none, (.fld 6 (.s 5))⟩, ⟨(some 17), none, (.ld none (.s 16))⟩, ⟨(some 18), none, (.fld 6 (.s 5))⟩, ⟨(some 19), none, (.ld none (.s 18))⟩, ⟨(some 20), none, (.len .sl (.s 19))⟩, ⟨(some 21), none, (.minmax false (.s 20) [(.c (.int .i64 53))])⟩, ⟨(some 22), none, (.slice 1 (.s 17) none (some (.s 21)) none)⟩, ⟨(some 23), none, (.appf 1 1 (.s 15) (.s 22))⟩, ⟨(some 24), none, (.mov (.c (.sl .cap0 1 [] [])))⟩, ⟨(some 25), none, (.fld 7 (.s 5))⟩, ⟨(some 26), none, (.ld none (.s 25))⟩, ⟨(some 27), none, (.fld 7 (.s 5))⟩, ⟨(some 28), none, (.ld none (.s 27))⟩, ⟨(some 29), none, (.len .sl (.s 28))⟩, ⟨(some 30), none, (.minmax false (.s 29) [(.c (.int .i64 53))])⟩, ⟨(some 31), none, (.slice 1 (.s 26) none (some (.s 30)) none)⟩, ⟨(some 32), none, (.appf 1 1 (.s 24) (.s 31))⟩, ⟨(some 33), none, (.fld 6 (.s 5))⟩, ⟨none, none, (.st 1 (.s 33) (.s 23))⟩, ⟨(some 34), none, (.fld 7 (.s 5))⟩, ⟨none, none, (.st 1 (.s 34) (.s 32))⟩] [(0, (false, [])), (1, (false, [])), (2, (false, [])), (3, (false, [])), (4, (false, [])), (5, (false, [])), (6, (false, [])), (7, (false, [])), (8, (false, [])), (9, (false, [])), (10, (false, [])), (11, (false, [])), (12, (false, [])), (13, (false, [])), (14, (false, [])), (15, (false, [])), (16, (false, [])), (17, (false, [])), (18, (false, [])), (19, (true, [])), (20, (false, [])), (21, (true, []))]) (.reg [⟨(some 35), none, (.mov (.s 3))⟩, ⟨(some 36), none, (.ld (some 9) (.s 5))⟩, ⟨(some 37), none, (.mkSl 9 1 [(.int .u64 0), (.int .i64 0), (.int .u64 0), (.int .u64 0), (.int .i64 0), (.int .i64 0), (.sl .nil 0 [] []), (.sl .nil 0 [] []), (.int .u64 0)] [(0, (.s 36))])⟩, ⟨(some 38), none, (.append 9 104 (.s 35) (.s 37))⟩, ⟨(some 3), none, (.mov (.s 38))⟩]))))) (.reg [⟨(some 39), none, (.bin .add (.s 8) (.c (.int .i64 1)))⟩, ⟨(some 8), none, (.mov (.s 39))⟩]))))))) (.seq (.reg [⟨(some 40), none, (.mov (.s 3))⟩, ⟨(some 2), none, (.mov (.s 40))⟩]) .ret))))
def F_gazetteerlaw12_records (P : Program) (a0 : V) (st : St) (K : V → St → Prop) : Prop :=
 @stp P (.len .sl (.c a0)) st ⟨fun v7 st =>
 @Hold ⟨∃ I1 : Nat → Rel 2, (∃ k, GhostV [(.sl .nil 0 [] []), (.int .i64 0)] st (app (I1 k))) ∧ ∀ k1 v3 v8, ∀ st, app (I1 k1) [v3, v8] st →
 @stp P (.bin .lss (.c v8) (.c v7)) st ⟨fun v9 st =>
 @cnd v9 ⟨
 @stp P (.idx 9 (.c a0) (.c v8)) st ⟨fun v11 st =>
 @stp P (.ld (some 9) (.c v11)) st ⟨fun v12 st =>
 @stp P (.alloc [(.int .u64 0), (.int .i64 0), (.int .u64 0), (.int .u64 0), (.int .i64 0), (.int .i64 0), (.sl .nil 0 [] []), (.sl .nil 0 [] []), (.int .u64 0)]) st ⟨fun v5 st =>
 @stp P (.st 9 (.c v5) (.c v12)) st ⟨fun _v st =>
 @stp P (.bin .eql (.c v8) (.c (.int .i64 65))) st ⟨fun v14 st =>
 @cnd v14 ⟨
 GhostV [v3] st fun vs st => K (mkres vs) st⟩
 ⟨
 @stpD P (.fld 6 (.c v5)) st ⟨fun v16 st =>
 @stpD P (.ld none (.c v16)) st ⟨fun v17 st =>
 @stpD P (.fld 6 (.c v5)) st ⟨fun v18 st =>
 @stpD P (.ld none (.c v18)) st ⟨fun v19 st =>
 @stpD P (.len .sl (.c v19)) st ⟨fun v20 st =>
 @stpD P (.minmax false (.c v20) [(.c (.int .i64 53))]) st ⟨fun v21 st =>
 @stpD P (.slice 1 (.c v17) none (some (.c v21)) none) st ⟨fun v22 st =>
 @stpD P (.appf 1 1 (.c (.sl .cap0 1 [] [])) (.c v22)) st ⟨fun v23 st =>
 @stpD P (.fld 7 (.c v5)) st ⟨fun v25 st =>
 @stpD P (.ld none (.c v25)) st ⟨fun v26 st =>
 @stpD P (.fld 7 (.c v5)) st ⟨fun v27 st =>
 @stpD P (.ld none (.c v27)) st ⟨fun v28 st =>
 @stpD P (.len .sl (.c v28)) st ⟨fun v29 st =>
 @stpD P (.minmax false (.c v29) [(.c (.int .i64 53))]) st ⟨fun v30 st =>
 @stpD P (.slice 1 (.c v26) none (some (.c v30)) none) st ⟨fun v31 st =>
 @stpD P (.appf 1 1 (.c (.sl .cap0 1 [] [])) (.c v31)) st ⟨fun v32 st =>
 @stpD P (.fld 6 (.c v5)) st ⟨fun v33 st =>
 @stpD P (.st 1 (.c v33) (.c v23)) st ⟨fun _v st =>
 @stpD P (.fld 7 (.c v5)) st ⟨fun v34 st =>
 @stpD P (.st 1 (.c v34) (.c v32)) st ⟨fun _v st =>
 @stp P (.ld (some 9) (.c v5)) st ⟨fun v36 st =>
 @stp P (.mkSl 9 1 [(.int .u64 0), (.int .i64 0), (.int .u64 0), (.int .u64 0), (.int .i64 0), (.int .i64 0), (.sl .nil 0 [] []), (.sl .nil 0 [] []), (.int .u64 0)] [(0, (.c v36))]) st ⟨fun v37 st =>
 @stp P (.append 9 104 (.c v3) (.c v37)) st ⟨fun v38 st =>
 @stp P (.bin .add (.c v8) (.c (.int .i64 1))) st ⟨fun v39 st =>
 ∃ j, j < k1 ∧ GhostV [v38, v39] st (app (I1 j))⟩⟩⟩⟩⟩⟩⟩⟩⟩⟩⟩⟩⟩⟩⟩⟩⟩⟩⟩⟩⟩⟩⟩⟩⟩⟩⟩⟩⟩⟩⟩
 ⟨
 GhostV [v3] st fun vs st => K (mkres vs) st⟩⟩⟩⟩
theorem q_gazetteerlaw12_records {P : Program} {a0 : V} {st : St} {K : V → St → Prop} : F_gazetteerlaw12_records P a0 st K = hwp P c_gazetteerlaw12_records (hretQ [.tmp 2] K) (enterFr [a0]) st := by kernel_rfl
abbrev R_gazetteerlaw12_records (P : Program) : Prop := resFnH P n_gazetteerlaw12_records = some (41, c_gazetteerlaw12_records.er, [.tmp 2])
theorem A_gazetteerlaw12_records {P : Program} (h : R_gazetteerlaw12_records P) {a0 : V} {st : St} {K : V → St → Prop} (hF : F_gazetteerlaw12_records P a0 st K) : ACalls P n_gazetteerlaw12_records [a0] st K :=
  ACalls_h h rfl (by simp) (q_gazetteerlaw12_records ▸ hF)

def c_redo_All : ACode := (.seq (.reg [⟨(some 6), none, (.mov (.c (.sl .nil 0 [] [])))⟩, ⟨(some 7), none, (.mov (.c (.sl .nil 0 [] [])))⟩, ⟨(some 8), none, (.mov (.c (.int .i64 0)))⟩]) (.seq (.seq (.reg [⟨(some 14), none, (.mov (.s 0))⟩, ⟨(some 15), none, (.mov (.s 1))⟩, ⟨(some 16), none, (.call (.c (.fn (.func n_redo_Check) [] [])) [(.s 14), (.s 15)])⟩, ⟨(some 9), none, (.mov (.s 16))⟩]) (.seq (.reg [⟨(some 17), none, (.mov (.s 9))⟩, ⟨(some 18), none, (.bin .neq (.s 17) (.c (.int .i64 0)))⟩]) (.cond (.s 18) (.seq (.reg [⟨(some 19), none, (.mov (.s 9))⟩, ⟨(some 6), none, (.mov (.c (.sl .nil 0 [] [])))⟩, ⟨(some 7), none, (.mov (.c (.sl .nil 0 [] [])))⟩, ⟨(some 8), none, (.mov (.s 19))⟩]) .ret) .skip))) (.seq (.reg [⟨(some 21), none, (.mov (.s 1))⟩, ⟨(some 22), none, (.call (.c (.fn (.func n_redo_Open) [] [])) [(.s 21)])⟩, ⟨(some 20), none, (.mov (.s 22))⟩, ⟨(some 23), none, (.ext 0 (.s 20))⟩, ⟨(some 24), none, (.ext 1 (.s 20))⟩, ⟨(some 10), none, (.mov (.s 23))⟩, ⟨(some 11), none, (.mov (.s 24))⟩]) (.seq (.reg [⟨(some 12), none, (.mov (.c (.sl .nil 0 [] [])))⟩]) (.seq (.seq (.reg [⟨(some 25), none, (.mov (.s 10))⟩, ⟨(some 26), none, (.len .sl (.s 25))⟩, ⟨(some 27), none, (.bin .gtr (.s 26) (.c (.int .i64 0)))⟩]) (.cond (.s 27) (.seq (.reg [⟨(some 13), none, (.mov (.c (.int .i64 0)))⟩]) (.seq (.reg [⟨(some 29), none, (.mov (.s 1))⟩, ⟨(some 30), none, (.mov (.s 10))⟩, ⟨(some 31), none, (.mov (.s 2))⟩, ⟨(some 32), none, (.call (.c (.fn (.func n_redo_Undo) [] [])) [(.s 29), (.s 30), (.s 31)])⟩, ⟨(some 28), none, (.mov (.s 32))⟩, ⟨(some 33), none, (.ext 0 (.s 28))⟩, ⟨(some 34), none, (.ext 1 (.s 28))⟩, ⟨(some 12), none, (.mov (.s 33))⟩, ⟨(some 13), none, (.mov (.s 34))⟩]) (.seq (.reg [⟨(some 35), none, (.mov (.s 13))⟩, ⟨(some 36), none, (.bin .neq (.s 35) (.c (.int .i64 0)))⟩]) (.cond (.s 36) (.seq (.reg [⟨(some 37), none, (.mov (.s 13))⟩, ⟨(some 6), none, (.mov (.c (.sl .nil 0 [] [])))⟩, ⟨(some 7), none, (.mov (.c (.sl .nil 0 [] [])))⟩, ⟨(some 8), none, (.mov (.s 37))⟩]) .ret) .skip)))) .skip)) (.seq (.reg [⟨(some 38), none, (.mov (.s 0))⟩, ⟨(some 39), none, (.mov (.s 1))⟩, ⟨(some 40), none, (.call (.c (.fn (.func n_redo_again) [] [])) [(.s 38), (.s 39)])⟩, ⟨(some 41), none, (.mov (.s 12))⟩, ⟨(some 42), none, (.call (.c (.fn (.func n_redo_again) [] [])) [(.s 40), (.s 41)])⟩, ⟨(some 43), none, (.mov (.s 12))⟩, ⟨(some 6), none, (.mov (.s 42))⟩, ⟨(some 7), none, (.mov (.s 43))⟩, ⟨(some 8), none, (.mov (.c (.int .i64 0)))⟩]) .ret))))))
def F_redo_All (P : Program) (a0 a1 a2 : V) (st : St) (K : V → St → Prop) : Prop :=
 @stp P (.call (.c (.fn (.func n_redo_Check) [] [])) [(.c a0), (.c a1)]) st ⟨fun v16 st =>
 @stp P (.bin .neq (.c v16) (.c (.int .i64 0))) st ⟨fun v18 st =>
 @cnd v18 ⟨
 GhostV [(.sl .nil 0 [] []), (.sl .nil 0 [] []), v16] st fun vs st => K (mkres vs) st⟩
 ⟨
 @stp P (.call (.c (.fn (.func n_redo_Open) [] [])) [(.c a1)]) st ⟨fun v22 st =>
 @stp P (.ext 0 (.c v22)) st ⟨fun v23 st =>
 @stp P (.ext 1 (.c v22)) st ⟨fun v24 st =>
 @stp P (.len .sl (.c v23)) st ⟨fun v26 st =>
 @stp P (.bin .gtr (.c v26) (.c (.int .i64 0))) st ⟨fun v27 st =>
 @cnd v27 ⟨
 @stp P (.call (.c (.fn (.func n_redo_Undo) [] [])) [(.c a1), (.c v23), (.c a2)]) st ⟨fun v32 st =>
 @stp P (.ext 0 (.c v32)) st ⟨fun v33 st =>
 @stp P (.ext 1 (.c v32)) st ⟨fun v34 st =>
 @stp P (.bin .neq (.c v34) (.c (.int .i64 0))) st ⟨fun v36 st =>
 @cnd v36 ⟨
 GhostV [(.sl .nil 0 [] []), (.sl .nil 0 [] []), v34] st fun vs st => K (mkres vs) st⟩
 ⟨
 @stp P (.call (.c (.fn (.func n_redo_again) [] [])) [(.c a0), (.c a1)]) st ⟨fun v40 st =>
 @stp P (.call (.c (.fn (.func n_redo_again) [] [])) [(.c v40), (.c v33)]) st ⟨fun v42 st =>
 GhostV [v42, v33, (.int .i64 0)] st fun vs st => K (mkres vs) st⟩⟩⟩⟩⟩⟩⟩⟩
 ⟨
 @stp P (.call (.c (.fn (.func n_redo_again) [] [])) [(.c a0), (.c a1)]) st ⟨fun v40 st =>
 @stp P (.call (.c (.fn (.func n_redo_again) [] [])) [(.c v40), (.c (.sl .nil 0 [] []))]) st ⟨fun v42 st =>
 GhostV [v42, (.sl .nil 0 [] []), (.int .i64 0)] st fun vs st => K (mkres vs) st⟩⟩⟩⟩⟩⟩⟩⟩⟩⟩⟩
theorem q_redo_All {P : Program} {a0 a1 a2 : V} {st : St} {K : V → St → Prop} : F_redo_All P a0 a1 a2 st K = hwp P c_redo_All (hretQ [.tmp 6, .tmp 7, .tmp 8] K) (enterFr [a0, a1, a2]) st := by kernel_rfl
abbrev R_redo_All (P : Program) : Prop := resFnH P n_redo_All = some (44, c_redo_All.er, [.tmp 6, .tmp 7, .tmp 8])
theorem A_redo_All {P : Program} (h : R_redo_All P) {a0 a1 a2 : V} {st : St} {K : V → St → Prop} (hF : F_redo_All P a0 a1 a2 st K) : ACalls P n_redo_All [a0, a1, a2] st K :=
  ACalls_h h rfl (by simp) (q_redo_All ▸ hF)

def c_redo_Check : ACode := (.seq (.reg [⟨(some 4), none, (.mov (.c (.int .i64 0)))⟩]) (.seq (.seq (.reg [⟨(some 12), none, (.mov (.s 1))⟩, ⟨(some 13), none, (.call (.c (.fn (.func n_record_CheckRow) [] [])) [(.s 12)])⟩, ⟨(some 5), none, (.mov (.s 13))⟩]) (.seq (.reg [⟨(some 14), none, (.mov (.s 5))⟩, ⟨(some 15), none, (.bin .neq (.s 14) (.c (.int .i64 0)))⟩]) (.cond (.s 15) (.seq (.reg [⟨(some 16), none, (.mov (.s 5))⟩, ⟨(some 4), none, (.mov (.s 16))⟩]) .ret) .skip))) (.seq (.reg [⟨(some 17), none, .mkmap⟩, ⟨(some 6), none, (.mov (.s 17))⟩]) (.seq (.seq (.reg [⟨(some 18), none, (.mov (.s 1))⟩, ⟨(some 19), none, (.len .sl (.s 18))⟩, ⟨(some 20), none, (.mov (.c (.int .i64 0)))⟩]) (.block 0 (.loop [20] [8, 20, 21, 22, 23, 24, 25, 26, 27, 28, 29] (.seq (.reg [⟨(some 21), none, (.bin .lss (.s 20) (.s 19))⟩]) (.seq (.cond (.s 21) .skip (.exit 0)) (.seq (.block 1 (.seq (.reg [⟨(some 22), none, (.idx 9 (.s 18) (.s 20))⟩, ⟨(some 23), none, (.ld (some 9) (.s 22))⟩, ⟨(some 8), none, (.alloc [(.int .u64 0), (.int .i64 0), (.int .u64 0), (.int .u64 0), (.int .i64 0), (.int .i64 0), (.sl .nil 0 [] []), (.sl .nil 0 [] []), (.int .u64 0)])⟩, ⟨none, none, (.st 9 (.s 8) (.s 23))⟩]) (.seq (.reg [⟨(some 24), none, (.ld (some 9) (.s 8))⟩, ⟨(some 25), none, (.call (.c (.fn (.func n_redo_changes) [] [])) [(.s 24)])⟩]) (.cond (.s 25) (.reg [⟨(some 26), none, (.mov (.s 6))⟩, ⟨(some 27), none, (.fld 4 (.s 8))⟩, ⟨(some 28), none, (.ld none (.s 27))⟩, ⟨none, none, (.mupd (.one .int) (.s 26) (.s 28) (.c (.bool true)))⟩]) .skip)))) (.reg [⟨(some 29), none, (.bin .add (.s 20) (.c (.int .i64 1)))⟩, ⟨(some 20), none, (.mov (.s 29))⟩]))))))) (.seq (.reg [⟨(some 30), none, (.mov (.s 0))⟩, ⟨(some 31), none, (.len .sl (.s 30))⟩, ⟨(some 32), none, (.bin .leq (.s 31) (.c (.int .i64 32)))⟩, ⟨(some 9), none, (.mov (.s 32))⟩]) (.seq (.seq (.reg [⟨(some 33), none, (.mov (.s 0))⟩, ⟨(some 34), none, (.len .sl (.s 33))⟩, ⟨(some 35), none, (.mov (.c (.int .i64 0)))⟩]) (.block 2 (.loop [9, 35] [9, 10, 11, 35, 36, 37, 38, 39, 40, 41, 42, 43, 44, 45, 46, 47, 48, 49, 50, 51, 52, 53, 54, 55, 56, 57, 58, 59, 60, 61, 62, 63, 64, 65, 66, 67, 68, 69, 70, 71, 72, 73, 74, 75, 76, 77, 78, 79] (.seq (.reg [⟨(some 36), none, (.bin .lss (.s 35) (.s 34))⟩]) (.seq (.cond (.s 36) .skip (.exit 2)) (.seq (.block 3 (.seq (.reg [⟨(some 37), none, (.mov (.s 35))⟩, ⟨(some 38), none, (.idx 6 (.s 33) (.s 35))⟩, ⟨(some 39), none, (.ld (some 6) (.s 38))⟩, ⟨(some 11), none, (.alloc [(.int .i64 0), (.int .u64 0), (.sl .nil 0 [] []), (.sl .nil 0 [] []), (.sl .nil 0 [] []), (.sl .nil 0 [] [])])⟩, ⟨(some 10), none, (.mov (.s 37))⟩, ⟨none, none, (.st 6 (.s 11) (.s 39))⟩]) (.seq (.regD [⟨(some 40), none, (.mov (.s 9))⟩, ⟨(some 41), none, (.mov (.s 40))⟩, ⟨(some 42), (some (41, true)), (.ld (some 6) (.s 11))⟩, ⟨(some 43), (some (41, true)), (.call (.c (.fn (.func n_page_Check) [] [])) [(.s 42)])⟩, ⟨(some 44), (some (41, true)), (.bin .eql (.s 43) (.c (.int .i64 0)))⟩, ⟨(some 45), none, (.pick (.s 41) (.s 44) (.c (.bool false)))⟩, ⟨(some 46), none, (.mov (.s 45))⟩, ⟨(some 47), (some (46, true)), (.mov (.s 10))⟩, ⟨(some 48), (some (46, true)), (.bin .eql (.s 47) (.c (.int .i64 0)))⟩, ⟨(some 49), (some (46, true)), (.mov (.s 48))⟩, ⟨(some 50), (some (49, false)), (.mov (.s 0))⟩, ⟨(some 51), (some (49, false)), (.mov (.s 10))⟩, ⟨(some 52), (some (49, false)), (.bin .sub (.s 51) (.c (.int .i64 1)))⟩, ⟨(some 53), (some (49, false)), (.idx 6 (.s 50) (.s 52))⟩, ⟨(some 54), (some (49, false)), (.fld 0 (.s 53))⟩, ⟨(some 55), (some (49, false)), (.ld none (.s 54))⟩, ⟨(some 56), (some (49, false)), (.fld 0 (.s 11))⟩, ⟨(some 57), (some (49, false)), (.ld none (.s 56))⟩, ⟨(some 58), (some (49, false)), (.bin .lss (.s 55) (.s 57))⟩, ⟨(some 59), (some (46, true)), (.pick (.s 49) (.c (.bool true)) (.s 58))⟩, ⟨(some 60), none, (.pick (.s 46) (.s 59) (.c (.bool false)))⟩, ⟨(some 9), none, (.mov (.s 60))⟩] [(0, (false, [])), (1, (false, [])), (2, (false, [])), (3, (true, [])), (4, (false, [])), (5, (false, [])), (6, (false, [])), (7, (false, [])), (8, (false, [])), (9, (false, [])), (10, (false, [])), (11, (false, [])), (12, (false, [])), (13, (false, [])), (14, (false, [])), (15, (false, [])), (16, (false, [])), (17, (false, [])), (18, (false, [])), (19, (false, [])), (20, (false, [])), (21, (true, []))]) (.seq (.regD [⟨(some 61), none, (.mov (.s 9))⟩, ⟨(some 62), none, (.mov (.s 61))⟩, ⟨(some 63), (some (62, true)), (.mov (.s 6))⟩, ⟨(some 64), (some (62, true)), (.fld 0 (.s 11))⟩, ⟨(some 65), (some (62, true)), (.ld none (.s 64))⟩, ⟨(some 66), (some (62, true)), (.lookup (.one .int) (.bool false) false (.s 63) (.s 65))⟩, ⟨(some 67), (some (62, true)), (.mov (.s 66))⟩, ⟨(some 68), (some (67, true)), (.fld 1 (.s 11))⟩, ⟨(some 69), (some (67, true)), (.ld none (.s 68))⟩, ⟨(some 70), (some (67, true)), (.mov (.s 1))⟩, ⟨(some 71), (some (67, true)), (.call (.c (.fn (.func n_redo_end) [] [])) [(.s 70)])⟩, ⟨(some 72), (some (67, true)), (.bin .gtr (.s 69) (.s 71))⟩, ⟨(some 73), (some (62, true)), (.pick (.s 67) (.s 72) (.c (.bool false)))⟩, ⟨(some 74), (some (62, true)), (.un .not (.s 73))⟩, ⟨(some 75), none, (.pick (.s 62) (.s 74) (.c (.bool false)))⟩, ⟨(some 9), none, (.mov (.s 75))⟩] [(0, (false, [])), (1, (false, [])), (2, (false, [])), (3, (false, [])), (4, (false, [])), (5, (false, [])), (6, (false, [])), (7, (false, [])), (8, (false, [])), (9, (false, [])), (10, (true, [8, 7])), (11, (false, [])), (12, (false, [])), (13, (false, [])), (14, (false, [])), (15, (true, []))]) (.reg [⟨(some 76), none, (.mov (.s 6))⟩, ⟨(some 77), none, (.fld 0 (.s 11))⟩, ⟨(some 78), none, (.ld none (.s 77))⟩, ⟨none, none, (.mdel (.one .int) (.s 76) (.s 78))⟩]))))) (.reg [⟨(some 79), none, (.bin .add (.s 35) (.c (.int .i64 1)))⟩, ⟨(some 35), none, (.mov (.s 79))⟩]))))))) (.seq (.seq (.reg [⟨(some 80), none, (.mov (.s 9))⟩, ⟨(some 81), none, (.un .not (.s 80))⟩, ⟨(some 82), none, (.mov (.s 81))⟩, ⟨(some 83), (some (82, false)), (.mov (.s 6))⟩, ⟨(some 84), (some (82, false)), (.len .map (.s 83))⟩, ⟨(some 85), (some (82, false)), (.bin .gtr (.s 84) (.c (.int .i64 0)))⟩, ⟨(some 86), none, (.pick (.s 82) (.c (.bool true)) (.s 85))⟩]) (.cond (.s 86) (.seq (.reg [⟨(some 4), none, (.mov (.c (.int .i64 220)))⟩]) .ret) .skip)) (.seq (.reg [⟨(some 4), none, (.mov (.c (.int .i64 0)))⟩]) .ret))))))))
def F_redo_Check (P : Program) (a0 a1 : V) (st : St) (K : V → St → Prop) : Prop :=
 @stp P (.call (.c (.fn (.func n_record_CheckRow) [] [])) [(.c a1)]) st ⟨fun v13 st =>
 @stp P (.bin .neq (.c v13) (.c (.int .i64 0))) st ⟨fun v15 st =>
 @cnd v15 ⟨
 GhostV [v13] st fun vs st => K (mkres vs) st⟩
 ⟨
 @stp P .mkmap st ⟨fun v17 st =>
 @stp P (.len .sl (.c a1)) st ⟨fun v19 st =>
 @Hold ⟨∃ I1 : Nat → Rel 1, (∃ k, GhostV [(.int .i64 0)] st (app (I1 k))) ∧ ∀ k1 v20, ∀ st, app (I1 k1) [v20] st →
 @stp P (.bin .lss (.c v20) (.c v19)) st ⟨fun v21 st =>
 @cnd v21 ⟨
 @stp P (.idx 9 (.c a1) (.c v20)) st ⟨fun v22 st =>
 @stp P (.ld (some 9) (.c v22)) st ⟨fun v23 st =>
 @stp P (.alloc [(.int .u64 0), (.int .i64 0), (.int .u64 0), (.int .u64 0), (.int .i64 0), (.int .i64 0), (.sl .nil 0 [] []), (.sl .nil 0 [] []), (.int .u64 0)]) st ⟨fun v8 st =>
 @stp P (.st 9 (.c v8) (.c v23)) st ⟨fun _v st =>
 @stp P (.ld (some 9) (.c v8)) st ⟨fun v24 st =>
 @stp P (.call (.c (.fn (.func n_redo_changes) [] [])) [(.c v24)]) st ⟨fun v25 st =>
 @cnd v25 ⟨
 @stp P (.fld 4 (.c v8)) st ⟨fun v27 st =>
 @stp P (.ld none (.c v27)) st ⟨fun v28 st =>
 @stp P (.mupd (.one .int) (.c v17) (.c v28) (.c (.bool true))) st ⟨fun _v st =>
 @stp P (.bin .add (.c v20) (.c (.int .i64 1))) st ⟨fun v29 st =>
 ∃ j, j < k1 ∧ GhostV [v29] st (app (I1 j))⟩⟩⟩⟩⟩
 ⟨
 @stp P (.bin .add (.c v20) (.c (.int .i64 1))) st ⟨fun v29 st =>
 ∃ j, j < k1 ∧ GhostV [v29] st (app (I1 j))⟩⟩⟩⟩⟩⟩⟩⟩⟩
 ⟨
 @stp P (.len .sl (.c a0)) st ⟨fun v31 st =>
 @stp P (.bin .leq (.c v31) (.c (.int .i64 32))) st ⟨fun v32 st =>
 @stp P (.len .sl (.c a0)) st ⟨fun v34 st =>
 @Hold ⟨∃ I2 : Nat → Rel 2, (∃ k, GhostV [v32, (.int .i64 0)] st (app (I2 k))) ∧ ∀ k2 v9 v35, ∀ st, app (I2 k2) [v9, v35] st →
 @stp P (.bin .lss (.c v35) (.c v34)) st ⟨fun v36 st =>
 @cnd v36 ⟨
 @stp P (.idx 6 (.c a0) (.c v35)) st ⟨fun v38 st =>
 @stp P (.ld (some 6) (.c v38)) st ⟨fun v39 st =>
 @stp P (.alloc [(.int .i64 0), (.int .u64 0), (.sl .nil 0 [] []), (.sl .nil 0 [] []), (.sl .nil 0 [] []), (.sl .nil 0 [] [])]) st ⟨fun v11 st =>
 @stp P (.st 6 (.c v11) (.c v39)) st ⟨fun _v st =>
 @gstD P v9 true (.ld (some 6) (.c v11)) st ⟨fun v42 st =>
 @gstD P v9 true (.call (.c (.fn (.func n_page_Check) [] [])) [(.c v42)]) st ⟨fun v43 st =>
 @gstD P v9 true (.bin .eql (.c v43) (.c (.int .i64 0))) st ⟨fun v44 st =>
 @stpD P (.pick (.c v9) (.c v44) (.c (.bool false))) st ⟨fun v45 st =>
 @gstD P v45 true (.mov (.c v35)) st ⟨fun v47 st =>
 @gstD P v45 true (.bin .eql (.c v47) (.c (.int .i64 0))) st ⟨fun v48 st =>
 @gstD P v45 true (.mov (.c v48)) st ⟨fun v49 st =>
 @gstD P v49 false (.mov (.c a0)) st ⟨fun v50 st =>
 @gstD P v49 false (.mov (.c v35)) st ⟨fun v51 st =>
 @gstD P v49 false (.bin .sub (.c v51) (.c (.int .i64 1))) st ⟨fun v52 st =>
 @gstD P v49 false (.idx 6 (.c v50) (.c v52)) st ⟨fun v53 st =>
 @gstD P v49 false (.fld 0 (.c v53)) st ⟨fun v54 st =>
 @gstD P v49 false (.ld none (.c v54)) st ⟨fun v55 st =>
 @gstD P v49 false (.fld 0 (.c v11)) st ⟨fun v56 st =>
 @gstD P v49 false (.ld none (.c v56)) st ⟨fun v57 st =>
 @gstD P v49 false (.bin .lss (.c v55) (.c v57)) st ⟨fun v58 st =>
 @gstD P v45 true (.pick (.c v49) (.c (.bool true)) (.c v58)) st ⟨fun v59 st =>
 @stpD P (.pick (.c v45) (.c v59) (.c (.bool false))) st ⟨fun v60 st =>
 @gstD P v60 true (.mov (.c v17)) st ⟨fun v63 st =>
 @gstD P v60 true (.fld 0 (.c v11)) st ⟨fun v64 st =>
 @gstD P v60 true (.ld none (.c v64)) st ⟨fun v65 st =>
 @gstD P v60 true (.lookup (.one .int) (.bool false) false (.c v63) (.c v65)) st ⟨fun v66 st =>
 @gstD P v60 true (.mov (.c v66)) st ⟨fun v67 st =>
 @gstD P v67 true (.fld 1 (.c v11)) st ⟨fun v68 st =>
 @gstD P v67 true (.ld none (.c v68)) st ⟨fun v69 st =>
 @gstD P v67 true (.mov (.c a1)) st ⟨fun v70 st =>
 @gstD P v67 true (.call (.c (.fn (.func n_redo_end) [] [])) [(.c v70)]) st ⟨fun v71 st =>
 hwat P (some (v67, true)) (.ld none (.c v68)) st v69 ∧ (
 hwat P (some (v67, true)) (.fld 1 (.c v11)) st v68 ∧ (
 @gstD P v67 true (.bin .gtr (.c v69) (.c v71)) st ⟨fun v72 st =>
 @gstD P v60 true (.pick (.c v67) (.c v72) (.c (.bool false))) st ⟨fun v73 st =>
 @gstD P v60 true (.un .not (.c v73)) st ⟨fun v74 st =>
 @stpD P (.pick (.c v60) (.c v74) (.c (.bool false))) st ⟨fun v75 st =>
 @stp P (.fld 0 (.c v11)) st ⟨fun v77 st =>
 @stp P (.ld none (.c v77)) st ⟨fun v78 st =>
 @stp P (.mdel (.one .int) (.c v17) (.c v78)) st ⟨fun _v st =>
 @stp P (.bin .add (.c v35) (.c (.int .i64 1))) st ⟨fun v79 st =>
 ∃ j, j < k2 ∧ GhostV [v75, v79] st (app (I2 j))⟩⟩⟩⟩⟩⟩⟩⟩))⟩⟩⟩⟩⟩⟩⟩⟩⟩⟩⟩⟩⟩⟩⟩⟩⟩⟩⟩⟩⟩⟩⟩⟩⟩⟩⟩⟩⟩⟩⟩⟩
 ⟨
 @stp P (.un .not (.c v9)) st ⟨fun v81 st =>
 @gst P v81 false (.mov (.c v17)) st ⟨fun v83 st =>
 @gst P v81 false (.len .map (.c v83)) st ⟨fun v84 st =>
 @gst P v81 false (.bin .gtr (.c v84) (.c (.int .i64 0))) st ⟨fun v85 st =>
 @stp P (.pick (.c v81) (.c (.bool true)) (.c v85)) st ⟨fun v86 st =>
 @cnd v86 ⟨
 GhostV [(.int .i64 220)] st fun vs st => K (mkres vs) st⟩
 ⟨
 GhostV [(.int .i64 0)] st fun vs st => K (mkres vs) st⟩⟩⟩⟩⟩⟩⟩⟩⟩⟩⟩⟩⟩⟩⟩⟩⟩⟩⟩⟩
theorem q_redo_Check {P : Program} {a0 a1 : V} {st : St} {K : V → St → Prop} : F_redo_Check P a0 a1 st K = hwp P c_redo_Check (hretQ [.tmp 4] K) (enterFr [a0, a1]) st := by kernel_rfl
abbrev R_redo_Check (P : Program) : Prop := resFnH P n_redo_Check = some (87, c_redo_Check.er, [.tmp 4])
theorem A_redo_Check {P : Program} (h : R_redo_Check P) {a0 a1 : V} {st : St} {K : V → St → Prop} (hF : F_redo_Check P a0 a1 st K) : ACalls P n_redo_Check [a0, a1] st K :=
  ACalls_h h rfl (by simp) (q_redo_Check ▸ hF)

def c_redo_Open : ACode := (.seq (.reg [⟨(some 2), none, (.mov (.c (.sl .nil 0 [] [])))⟩, ⟨(some 3), none, (.mov (.c (.int .i64 0)))⟩]) (.seq (.seq (.reg [⟨(some 13), none, (.mov (.s 0))⟩, ⟨(some 14), none, (.call (.c (.fn (.func n_record_CheckRow) [] [])) [(.s 13)])⟩, ⟨(some 4), none, (.mov (.s 14))⟩]) (.seq (.reg [⟨(some 15), none, (.mov (.s 4))⟩, ⟨(some 16), none, (.bin .neq (.s 15) (.c (.int .i64 0)))⟩]) (.cond (.s 16) (.seq (.reg [⟨(some 17), none, (.mov (.s 4))⟩, ⟨(some 2), none, (.mov (.c (.sl .nil 0 [] [])))⟩, ⟨(some 3), none, (.mov (.s 17))⟩]) .ret) .skip))) (.seq (.reg [⟨(some 18), none, .mkmap⟩, ⟨(some 19), none, .mkmap⟩, ⟨(some 5), none, (.mov (.s 18))⟩, ⟨(some 6), none, (.mov (.s 19))⟩]) (.seq (.seq (.reg [⟨(some 20), none, (.mov (.s 0))⟩, ⟨(some 21), none, (.len .sl (.s 20))⟩, ⟨(some 22), none, (.mov (.c (.int .i64 0)))⟩]) (.block 0 (.loop [22] [8, 9, 22, 23, 24, 25, 26, 27, 28, 29, 30, 31, 32, 33, 34, 35, 36, 37, 38, 39, 40, 41, 42, 43, 44, 45, 46, 47, 48, 49, 50] (.seq (.reg [⟨(some 23), none, (.bin .lss (.s 22) (.s 21))⟩]) (.seq (.cond (.s 23) .skip (.exit 0)) (.seq (.block 1 (.seq (.reg [⟨(some 24), none, (.idx 9 (.s 20) (.s 22))⟩, ⟨(some 25), none, (.ld (some 9) (.s 24))⟩, ⟨(some 8), none, (.alloc [(.int .u64 0), (.int .i64 0), (.int .u64 0), (.int .u64 0), (.int .i64 0), (.int .i64 0), (.sl .nil 0 [] []), (.sl .nil 0 [] []), (.int .u64 0)])⟩, ⟨none, none, (.st 9 (.s 8) (.s 25))⟩]) (.seq (.reg [⟨(some 26), none, (.fld 2 (.s 8))⟩, ⟨(some 27), none, (.ld none (.s 26))⟩, ⟨(some 28), none, (.fld 0 (.s 8))⟩, ⟨(some 29), none, (.ld none (.s 28))⟩, ⟨(some 30), none, (.fld 0 (.s 8))⟩, ⟨(some 31), none, (.ld none (.s 30))⟩, ⟨(some 32), none, (.build [(.int .u64 0), (.int .u64 0), (.int .u64 0)] [(0, (1, (.s 27))), (1, (1, (.s 29))), (2, (1, (.s 31)))])⟩, ⟨(some 9), none, (.alloc [(.int .u64 0), (.int .u64 0), (.int .u64 0)])⟩, ⟨none, none, (.st 3 (.s 9) (.s 32))⟩]) (.join [] [33, 34, 35, 36, 37, 38, 39, 40, 41, 42, 43, 44, 45] (.seq (.reg [⟨(some 33), none, (.fld 1 (.s 8))⟩, ⟨(some 34), none, (.ld none (.s 33))⟩]) (.block 2 (.seq (.reg [⟨(some 36), none, (.bin .eql (.s 34) (.c (.int .i64 2)))⟩, ⟨(some 35), none, (.mov (.s 36))⟩]) (.cond (.s 35) (.reg [⟨(some 37), none, (.fld 8 (.s 8))⟩, ⟨(some 38), none, (.ld none (.s 37))⟩, ⟨(some 39), none, (.fld 2 (.s 9))⟩, ⟨none, none, (.st 1 (.s 39) (.s 38))⟩]) (.seq (.seq (.reg [⟨(some 41), none, (.bin .eql (.s 34) (.c (.int .i64 3)))⟩, ⟨(some 40), none, (.mov (.s 41))⟩]) (.cond (.s 40) .skip (.reg [⟨(some 42), none, (.bin .eql (.s 34) (.c (.int .i64 4)))⟩, ⟨(some 40), none, (.mov (.s 42))⟩]))) (.cond (.s 40) (.reg [⟨(some 43), none, (.mov (.s 6))⟩, ⟨(some 44), none, (.fld 2 (.s 8))⟩, ⟨(some 45), none, (.ld none (.s 44))⟩, ⟨none, none, (.mupd (.one .int) (.s 43) (.s 45) (.c (.bool true)))⟩]) .skip)))))) (.reg [⟨(some 46), none, (.mov (.s 5))⟩, ⟨(some 47), none, (.fld 2 (.s 8))⟩, ⟨(some 48), none, (.ld none (.s 47))⟩, ⟨(some 49), none, (.ld (some 3) (.s 9))⟩, ⟨none, none, (.mupd (.one .int) (.s 46) (.s 48) (.s 49))⟩]))))) (.reg [⟨(some 50), none, (.bin .add (.s 22) (.c (.int .i64 1)))⟩, ⟨(some 22), none, (.mov (.s 50))⟩]))))))) (.seq (.reg [⟨(some 10), none, (.mov (.c (.sl .nil 0 [] [])))⟩]) (.seq (.seq (.reg [⟨(some 51), none, (.mov (.s 5))⟩, ⟨(some 52), none, (.call (.c (.fn (.func n_redo_rising_uint64_Open) [] [])) [(.s 51)])⟩, ⟨(some 53), none, (.len .sl (.s 52))⟩, ⟨(some 54), none, (.mov (.c (.int .i64 0)))⟩]) (.block 3 (.loop [10, 54] [10, 12, 54, 55, 56, 57, 58, 59, 60, 61, 62, 63, 64, 65, 66, 67, 68] (.seq (.reg [⟨(some 55), none, (.bin .lss (.s 54) (.s 53))⟩]) (.seq (.cond (.s 55) .skip (.exit 3)) (.seq (.block 4 (.seq (.reg [⟨(some 56), none, (.idx 1 (.s 52) (.s 54))⟩, ⟨(some 57), none, (.ld none (.s 56))⟩, ⟨(some 12), none, (.mov (.s 57))⟩]) (.seq (.reg [⟨(some 58), none, (.mov (.s 6))⟩, ⟨(some 59), none, (.mov (.s 12))⟩, ⟨(some 60), none, (.lookup (.one .int) (.bool false) false (.s 58) (.s 59))⟩, ⟨(some 61), none, (.un .not (.s 60))⟩]) (.cond (.s 61) (.reg [⟨(some 62), none, (.mov (.s 10))⟩, ⟨(some 63), none, (.mov (.s 5))⟩, ⟨(some 64), none, (.mov (.s 12))⟩, ⟨(some 65), none, (.lookup (.one .int) (.agg [(.int .u64 0), (.int .u64 0), (.int .u64 0)]) false (.s 63) (.s 64))⟩, ⟨(some 66), none, (.mkSl 3 1 [(.int .u64 0), (.int .u64 0), (.int .u64 0)] [(0, (.s 65))])⟩, ⟨(some 67), none, (.append 3 24 (.s 62) (.s 66))⟩, ⟨(some 10), none, (.mov (.s 67))⟩]) .skip)))) (.reg [⟨(some 68), none, (.bin .add (.s 54) (.c (.int .i64 1)))⟩, ⟨(some 54), none, (.mov (.s 68))⟩]))))))) (.seq (.reg [⟨(some 69), none, (.mov (.s 10))⟩, ⟨(some 2), none, (.mov (.s 69))⟩, ⟨(some 3), none, (.mov (.c (.int .i64 0)))⟩]) .ret)))))))
def F_redo_Open (P : Program) (a0 : V) (st : St) (K : V → St → Prop) : Prop :=
 @stp P (.call (.c (.fn (.func n_record_CheckRow) [] [])) [(.c a0)]) st ⟨fun v14 st =>
 @stp P (.bin .neq (.c v14) (.c (.int .i64 0))) st ⟨fun v16 st =>
 @cnd v16 ⟨
 GhostV [(.sl .nil 0 [] []), v14] st fun vs st => K (mkres vs) st⟩
 ⟨
 @stp P .mkmap st ⟨fun v18 st =>
 @stp P .mkmap st ⟨fun v19 st =>
 @stp P (.len .sl (.c a0)) st ⟨fun v21 st =>
 @Hold ⟨∃ I1 : Nat → Rel 1, (∃ k, GhostV [(.int .i64 0)] st (app (I1 k))) ∧ ∀ k1 v22, ∀ st, app (I1 k1) [v22] st →
 @stp P (.bin .lss (.c v22) (.c v21)) st ⟨fun v23 st =>
 @cnd v23 ⟨
 @stp P (.idx 9 (.c a0) (.c v22)) st ⟨fun v24 st =>
 @stp P (.ld (some 9) (.c v24)) st ⟨fun v25 st =>
 @stp P (.alloc [(.int .u64 0), (.int .i64 0), (.int .u64 0), (.int .u64 0), (.int .i64 0), (.int .i64 0), (.sl .nil 0 [] []), (.sl .nil 0 [] []), (.int .u64 0)]) st ⟨fun v8 st =>
 @stp P (.st 9 (.c v8) (.c v25)) st ⟨fun _v st =>
 @stp P (.fld 2 (.c v8)) st ⟨fun v26 st =>
 @stp P (.ld none (.c v26)) st ⟨fun v27 st =>
 @stp P (.fld 0 (.c v8)) st ⟨fun v28 st =>
 @stp P (.ld none (.c v28)) st ⟨fun v29 st =>
 @stp P (.fld 0 (.c v8)) st ⟨fun v30 st =>
 @stp P (.ld none (.c v30)) st ⟨fun v31 st =>
 @stp P (.build [(.int .u64 0), (.int .u64 0), (.int .u64 0)] [(0, 1, (.c v27)), (1, 1, (.c v29)), (2, 1, (.c v31))]) st ⟨fun v32 st =>
 @stp P (.alloc [(.int .u64 0), (.int .u64 0), (.int .u64 0)]) st ⟨fun v9 st =>
 @stp P (.st 3 (.c v9) (.c v32)) st ⟨fun _v st =>
 @Hold ⟨∃ J2 : Rel 0, (
 @stp P (.fld 1 (.c v8)) st ⟨fun v33 st =>
 @stp P (.ld none (.c v33)) st ⟨fun v34 st =>
 @stp P (.bin .eql (.c v34) (.c (.int .i64 2))) st ⟨fun v36 st =>
 @cnd v36 ⟨
 @stp P (.fld 8 (.c v8)) st ⟨fun v37 st =>
 @stp P (.ld none (.c v37)) st ⟨fun v38 st =>
 @stp P (.fld 2 (.c v9)) st ⟨fun v39 st =>
 @stp P (.st 1 (.c v39) (.c v38)) st ⟨fun _v st =>
 GhostV [] st (app J2)⟩⟩⟩⟩⟩
 ⟨
 @stp P (.bin .eql (.c v34) (.c (.int .i64 3))) st ⟨fun v41 st =>
 @cnd v41 ⟨
 @cnd v41 ⟨
 @stp P (.fld 2 (.c v8)) st ⟨fun v44 st =>
 @stp P (.ld none (.c v44)) st ⟨fun v45 st =>
 @stp P (.mupd (.one .int) (.c v19) (.c v45) (.c (.bool true))) st ⟨fun _v st =>
 GhostV [] st (app J2)⟩⟩⟩⟩
 ⟨
 GhostV [] st (app J2)⟩⟩
 ⟨
 @stp P (.bin .eql (.c v34) (.c (.int .i64 4))) st ⟨fun v42 st =>
 @cnd v42 ⟨
 @stp P (.fld 2 (.c v8)) st ⟨fun v44 st =>
 @stp P (.ld none (.c v44)) st ⟨fun v45 st =>
 @stp P (.mupd (.one .int) (.c v19) (.c v45) (.c (.bool true))) st ⟨fun _v st =>
 GhostV [] st (app J2)⟩⟩⟩⟩
 ⟨
 GhostV [] st (app J2)⟩⟩⟩⟩⟩⟩⟩⟩) ∧
 ∀ st, app J2 [] st →
 @stp P (.fld 2 (.c v8)) st ⟨fun v47 st =>
 @stp P (.ld none (.c v47)) st ⟨fun v48 st =>
 @stp P (.ld (some 3) (.c v9)) st ⟨fun v49 st =>
 @stp P (.mupd (.one .int) (.c v18) (.c v48) (.c v49)) st ⟨fun _v st =>
 @stp P (.bin .add (.c v22) (.c (.int .i64 1))) st ⟨fun v50 st =>
 ∃ j, j < k1 ∧ GhostV [v50] st (app (I1 j))⟩⟩⟩⟩⟩⟩⟩⟩⟩⟩⟩⟩⟩⟩⟩⟩⟩⟩⟩⟩
 ⟨
 @stp P (.call (.c (.fn (.func n_redo_rising_uint64_Open) [] [])) [(.c v18)]) st ⟨fun v52 st =>
 @stp P (.len .sl (.c v52)) st ⟨fun v53 st =>
 @Hold ⟨∃ I3 : Nat → Rel 2, (∃ k, GhostV [(.sl .nil 0 [] []), (.int .i64 0)] st (app (I3 k))) ∧ ∀ k3 v10 v54, ∀ st, app (I3 k3) [v10, v54] st →
 @stp P (.bin .lss (.c v54) (.c v53)) st ⟨fun v55 st =>
 @cnd v55 ⟨
 @stp P (.idx 1 (.c v52) (.c v54)) st ⟨fun v56 st =>
 @stp P (.ld none (.c v56)) st ⟨fun v57 st =>
 @stp P (.lookup (.one .int) (.bool false) false (.c v19) (.c v57)) st ⟨fun v60 st =>
 @stp P (.un .not (.c v60)) st ⟨fun v61 st =>
 @cnd v61 ⟨
 @stp P (.lookup (.one .int) (.agg [(.int .u64 0), (.int .u64 0), (.int .u64 0)]) false (.c v18) (.c v57)) st ⟨fun v65 st =>
 @stp P (.mkSl 3 1 [(.int .u64 0), (.int .u64 0), (.int .u64 0)] [(0, (.c v65))]) st ⟨fun v66 st =>
 @stp P (.append 3 24 (.c v10) (.c v66)) st ⟨fun v67 st =>
 @stp P (.bin .add (.c v54) (.c (.int .i64 1))) st ⟨fun v68 st =>
 ∃ j, j < k3 ∧ GhostV [v67, v68] st (app (I3 j))⟩⟩⟩⟩⟩
 ⟨
 @stp P (.bin .add (.c v54) (.c (.int .i64 1))) st ⟨fun v68 st =>
 ∃ j, j < k3 ∧ GhostV [v10, v68] st (app (I3 j))⟩⟩⟩⟩⟩⟩⟩
 ⟨
 GhostV [v10, (.int .i64 0)] st fun vs st => K (mkres vs) st⟩⟩⟩⟩⟩⟩⟩⟩⟩⟩⟩⟩⟩⟩
theorem q_redo_Open {P : Program} {a0 : V} {st : St} {K : V → St → Prop} : F_redo_Open P a0 st K = hwp P c_redo_Open (hretQ [.tmp 2, .tmp 3] K) (enterFr [a0]) st := by kernel_rfl
abbrev R_redo_Open (P : Program) : Prop := resFnH P n_redo_Open = some (70, c_redo_Open.er, [.tmp 2, .tmp 3])
theorem A_redo_Open {P : Program} (h : R_redo_Open P) {a0 : V} {st : St} {K : V → St → Prop} (hF : F_redo_Open P a0 st K) : ACalls P n_redo_Open [a0] st K :=
  ACalls_h h rfl (by simp) (q_redo_Open ▸ hF)

def c_redo_Done : ACode := (.seq (.reg [⟨(some 2), none, (.mov (.c (.sl .nil 0 [] [])))⟩, ⟨(some 3), none, (.mov (.c (.int .i64 0)))⟩]) (.seq (.seq (.reg [⟨(some 8), none, (.mov (.s 0))⟩, ⟨(some 9), none, (.call (.c (.fn (.func n_record_CheckRow) [] [])) [(.s 8)])⟩, ⟨(some 4), none, (.mov (.s 9))⟩]) (.seq (.reg [⟨(some 10), none, (.mov (.s 4))⟩, ⟨(some 11), none, (.bin .neq (.s 10) (.c (.int .i64 0)))⟩]) (.cond (.s 11) (.seq (.reg [⟨(some 12), none, (.mov (.s 4))⟩, ⟨(some 2), none, (.mov (.c (.sl .nil 0 [] [])))⟩, ⟨(some 3), none, (.mov (.s 12))⟩]) .ret) .skip))) (.seq (.reg [⟨(some 13), none, .mkmap⟩, ⟨(some 5), none, (.mov (.s 13))⟩]) (.seq (.seq (.reg [⟨(some 14), none, (.mov (.s 0))⟩, ⟨(some 15), none, (.len .sl (.s 14))⟩, ⟨(some 16), none, (.mov (.c (.int .i64 0)))⟩]) (.block 0 (.loop [16] [7, 16, 17, 18, 19, 20, 21, 22, 23, 24, 25, 26] (.seq (.reg [⟨(some 17), none, (.bin .lss (.s 16) (.s 15))⟩]) (.seq (.cond (.s 17) .skip (.exit 0)) (.seq (.block 1 (.seq (.reg [⟨(some 18), none, (.idx 9 (.s 14) (.s 16))⟩, ⟨(some 19), none, (.ld (some 9) (.s 18))⟩, ⟨(some 7), none, (.alloc [(.int .u64 0), (.int .i64 0), (.int .u64 0), (.int .u64 0), (.int .i64 0), (.int .i64 0), (.sl .nil 0 [] []), (.sl .nil 0 [] []), (.int .u64 0)])⟩, ⟨none, none, (.st 9 (.s 7) (.s 19))⟩]) (.seq (.reg [⟨(some 20), none, (.fld 1 (.s 7))⟩, ⟨(some 21), none, (.ld none (.s 20))⟩, ⟨(some 22), none, (.bin .eql (.s 21) (.c (.int .i64 3)))⟩]) (.cond (.s 22) (.reg [⟨(some 23), none, (.mov (.s 5))⟩, ⟨(some 24), none, (.fld 2 (.s 7))⟩, ⟨(some 25), none, (.ld none (.s 24))⟩, ⟨none, none, (.mupd (.one .int) (.s 23) (.s 25) (.c (.bool true)))⟩]) .skip)))) (.reg [⟨(some 26), none, (.bin .add (.s 16) (.c (.int .i64 1)))⟩, ⟨(some 16), none, (.mov (.s 26))⟩]))))))) (.seq (.reg [⟨(some 27), none, (.mov (.s 5))⟩, ⟨(some 28), none, (.call (.c (.fn (.func n_redo_rising_uint64_bool) [] [])) [(.s 27)])⟩, ⟨(some 2), none, (.mov (.s 28))⟩, ⟨(some 3), none, (.mov (.c (.int .i64 0)))⟩]) .ret)))))
def F_redo_Done (P : Program) (a0 : V) (st : St) (K : V → St → Prop) : Prop :=
 @stp P (.call (.c (.fn (.func n_record_CheckRow) [] [])) [(.c a0)]) st ⟨fun v9 st =>
 @stp P (.bin .neq (.c v9) (.c (.int .i64 0))) st ⟨fun v11 st =>
 @cnd v11 ⟨
 GhostV [(.sl .nil 0 [] []), v9] st fun vs st => K (mkres vs) st⟩
 ⟨
 @stp P .mkmap st ⟨fun v13 st =>
 @stp P (.len .sl (.c a0)) st ⟨fun v15 st =>
 @Hold ⟨∃ I1 : Nat → Rel 1, (∃ k, GhostV [(.int .i64 0)] st (app (I1 k))) ∧ ∀ k1 v16, ∀ st, app (I1 k1) [v16] st →
 @stp P (.bin .lss (.c v16) (.c v15)) st ⟨fun v17 st =>
 @cnd v17 ⟨
 @stp P (.idx 9 (.c a0) (.c v16)) st ⟨fun v18 st =>
 @stp P (.ld (some 9) (.c v18)) st ⟨fun v19 st =>
 @stp P (.alloc [(.int .u64 0), (.int .i64 0), (.int .u64 0), (.int .u64 0), (.int .i64 0), (.int .i64 0), (.sl .nil 0 [] []), (.sl .nil 0 [] []), (.int .u64 0)]) st ⟨fun v7 st =>
 @stp P (.st 9 (.c v7) (.c v19)) st ⟨fun _v st =>
 @stp P (.fld 1 (.c v7)) st ⟨fun v20 st =>
 @stp P (.ld none (.c v20)) st ⟨fun v21 st =>
 @stp P (.bin .eql (.c v21) (.c (.int .i64 3))) st ⟨fun v22 st =>
 @cnd v22 ⟨
 @stp P (.fld 2 (.c v7)) st ⟨fun v24 st =>
 @stp P (.ld none (.c v24)) st ⟨fun v25 st =>
 @stp P (.mupd (.one .int) (.c v13) (.c v25) (.c (.bool true))) st ⟨fun _v st =>
 @stp P (.bin .add (.c v16) (.c (.int .i64 1))) st ⟨fun v26 st =>
 ∃ j, j < k1 ∧ GhostV [v26] st (app (I1 j))⟩⟩⟩⟩⟩
 ⟨
 @stp P (.bin .add (.c v16) (.c (.int .i64 1))) st ⟨fun v26 st =>
 ∃ j, j < k1 ∧ GhostV [v26] st (app (I1 j))⟩⟩⟩⟩⟩⟩⟩⟩⟩⟩
 ⟨
 @stp P (.call (.c (.fn (.func n_redo_rising_uint64_bool) [] [])) [(.c v13)]) st ⟨fun v28 st =>
 GhostV [v28, (.int .i64 0)] st fun vs st => K (mkres vs) st⟩⟩⟩⟩⟩⟩⟩⟩⟩
theorem q_redo_Done {P : Program} {a0 : V} {st : St} {K : V → St → Prop} : F_redo_Done P a0 st K = hwp P c_redo_Done (hretQ [.tmp 2, .tmp 3] K) (enterFr [a0]) st := by kernel_rfl
abbrev R_redo_Done (P : Program) : Prop := resFnH P n_redo_Done = some (29, c_redo_Done.er, [.tmp 2, .tmp 3])
theorem A_redo_Done {P : Program} (h : R_redo_Done P) {a0 : V} {st : St} {K : V → St → Prop} (hF : F_redo_Done P a0 st K) : ACalls P n_redo_Done [a0] st K :=
  ACalls_h h rfl (by simp) (q_redo_Done ▸ hF)

def c_record_CheckRow : ACode := (.seq (.reg [⟨(some 2), none, (.mov (.c (.int .i64 0)))⟩]) (.seq (.seq (.reg [⟨(some 7), none, (.mov (.s 0))⟩, ⟨(some 8), none, (.len .sl (.s 7))⟩, ⟨(some 9), none, (.bin .gtr (.s 8) (.c (.int .i64 64)))⟩]) (.cond (.s 9) (.seq (.reg [⟨(some 2), none, (.mov (.c (.int .i64 3)))⟩]) .ret) .skip)) (.seq (.seq (.reg [⟨(some 10), none, (.mov (.s 0))⟩, ⟨(some 11), none, (.len .sl (.s 10))⟩, ⟨(some 12), none, (.mov (.c (.int .i64 0)))⟩]) (.block 0 (.loop [2, 12] [2, 3, 4, 5, 12, 13, 14, 15, 16, 17, 18, 19, 20, 21, 22, 23, 24, 25, 26, 27, 28, 29, 30, 31, 32, 33, 34, 35, 36, 37, 38, 39, 40, 41, 42, 43, 44, 45, 46, 47, 54, 55, 56] (.seq (.reg [⟨(some 13), none, (.bin .lss (.s 12) (.s 11))⟩]) (.seq (.cond (.s 13) .skip (.exit 0)) (.seq (.block 1 (.seq (.reg [⟨(some 14), none, (.mov (.s 12))⟩, ⟨(some 15), none, (.idx 9 (.s 10) (.s 12))⟩, ⟨(some 16), none, (.ld (some 9) (.s 15))⟩, ⟨(some 4), none, (.alloc [(.int .u64 0), (.int .i64 0), (.int .u64 0), (.int .u64 0), (.int .i64 0), (.int .i64 0), (.sl .nil 0 [] []), (.sl .nil 0 [] []), (.int .u64 0)])⟩, ⟨(some 3), none, (.mov (.s 14))⟩, ⟨none, none, (.st 9 (.s 4) (.s 16))⟩]) (.seq (.seq (.regD [⟨(some 17), none, (.ld (some 9) (.s 4))⟩, ⟨(some 18), none, (.call (.c (.fn (.func n_record_Check) [] [])) [(.s 17)])⟩, ⟨(some 19), none, (.bin .neq (.s 18) (.c (.int .i64 0)))⟩, ⟨(some 20), none, (.mov (.s 19))⟩, ⟨(some 21), (some (20, false)), (.mov (.s 3))⟩, ⟨(some 22), (some (20, false)), (.bin .gtr (.s 21) (.c (.int .i64 0)))⟩, ⟨(some 23), (some (20, false)), (.mov (.s 22))⟩, ⟨(some 24), (some (23, true)), (.fld 0 (.s 4))⟩, ⟨(some 25), (some (23, true)), (.ld none (.s 24))⟩, ⟨(some 26), (some (23, true)), (.mov (.s 0))⟩, ⟨(some 27), (some (23, true)), (.mov (.s 3))⟩, ⟨(some 28), (some (23, true)), (.bin .sub (.s 27) (.c (.int .i64 1)))⟩, ⟨(some 29), (some (23, true)), (.idx 9 (.s 26) (.s 28))⟩, ⟨(some 30), (some (23, true)), (.fld 0 (.s 29))⟩, ⟨(some 31), (some (23, true)), (.ld none (.s 30))⟩, ⟨(some 32), (some (23, true)), (.bin .add (.s 31) (.c (.int .u64 1)))⟩, ⟨(some 33), (some (23, true)), (.bin .neq (.s 25) (.s 32))⟩, ⟨(some 34), (some (20, false)), (.pick (.s 23) (.s 33) (.c (.bool false)))⟩, ⟨(some 35), none, (.pick (.s 20) (.c (.bool true)) (.s 34))⟩] [(0, (false, [])), (1, (true, [])), (2, (false, [])), (3, (false, [])), (4, (false, [])), (5, (false, [])), (6, (false, [])), (7, (false, [])), (8, (false, [])), (9, (false, [])), (10, (false, [])), (11, (false, [])), (12, (false, [])), (13, (false, [])), (14, (false, [])), (15, (false, [])), (16, (false, [])), (17, (false, [])), (18, (false, []))]) (.cond (.s 35) (.seq (.reg [⟨(some 2), none, (.mov (.c (.int .i64 150)))⟩]) .ret) .skip)) (.seq (.seq (.regD [⟨(some 36), none, (.fld 3 (.s 4))⟩, ⟨(some 37), none, (.ld none (.s 36))⟩, ⟨(some 38), none, (.mov (.s 0))⟩, ⟨(some 39), none, (.idx 9 (.s 38) (.c (.int .i64 0)))⟩, ⟨(some 40), none, (.fld 0 (.s 39))⟩, ⟨(some 41), none, (.ld none (.s 40))⟩, ⟨(some 42), none, (.bin .lss (.s 37) (.s 41))⟩] [(0, (false, [])), (1, (false, [])), (2, (false, [])), (3, (false, [])), (4, (false, [])), (5, (false, [])), (6, (false, []))]) (.cond (.s 42) (.exit 1) .skip)) (.seq (.reg [⟨(some 5), none, (.alloc [(.bool false)])⟩, ⟨none, none, (.st 1 (.s 5) (.c (.bool false)))⟩]) (.seq (.seq (.reg [⟨(some 43), none, (.mov (.s 0))⟩, ⟨(some 44), none, (.mov (.s 3))⟩, ⟨(some 45), none, (.fld 2 (.s 4))⟩, ⟨(some 46), none, (.ld none (.s 45))⟩, ⟨(some 47), none, (.call (.c (.fn (.func n_record_ahead) [] [])) [(.s 43), (.s 44), (.s 46)])⟩]) (.block 2 (.rfunc (.s 47) [48] (.reg [⟨(some 6), none, (.alloc [(.int .u64 0), (.int .i64 0), (.int .u64 0), (.int .u64 0), (.int .i64 0), (.int .i64 0), (.sl .nil 0 [] []), (.sl .nil 0 [] []), (.int .u64 0)])⟩, ⟨none, none, (.st 9 (.s 6) (.s 48))⟩]) (.block 3 (.seq (.reg [⟨(some 49), none, (.fld 0 (.s 6))⟩, ⟨(some 50), none, (.ld none (.s 49))⟩, ⟨(some 51), none, (.fld 3 (.s 4))⟩, ⟨(some 52), none, (.ld none (.s 51))⟩, ⟨(some 53), none, (.bin .eql (.s 50) (.s 52))⟩, ⟨none, none, (.st 1 (.s 5) (.s 53))⟩]) (.exit 2)))))) (.seq (.reg [⟨(some 54), none, (.ld none (.s 5))⟩, ⟨(some 55), none, (.un .not (.s 54))⟩]) (.cond (.s 55) (.seq (.reg [⟨(some 2), none, (.mov (.c (.int .i64 150)))⟩]) .ret) .skip)))))))) (.reg [⟨(some 56), none, (.bin .add (.s 12) (.c (.int .i64 1)))⟩, ⟨(some 12), none, (.mov (.s 56))⟩]))))))) (.seq (.reg [⟨(some 2), none, (.mov (.c (.int .i64 0)))⟩]) .ret))))
def F_record_CheckRow (P : Program) (a0 : V) (st : St) (K : V → St → Prop) : Prop :=
 @stp P (.len .sl (.c a0)) st ⟨fun v8 st =>
 @stp P (.bin .gtr (.c v8) (.c (.int .i64 64))) st ⟨fun v9 st =>
 @cnd v9 ⟨
 GhostV [(.int .i64 3)] st fun vs st => K (mkres vs) st⟩
 ⟨
 @stp P (.len .sl (.c a0)) st ⟨fun v11 st =>
 @Hold ⟨∃ I1 : Nat → Rel 2, (∃ k, GhostV [(.int .i64 0), (.int .i64 0)] st (app (I1 k))) ∧ ∀ k1 v2 v12, ∀ st, app (I1 k1) [v2, v12] st →
 @stp P (.bin .lss (.c v12) (.c v11)) st ⟨fun v13 st =>
 @cnd v13 ⟨
 @stp P (.idx 9 (.c a0) (.c v12)) st ⟨fun v15 st =>
 @stp P (.ld (some 9) (.c v15)) st ⟨fun v16 st =>
 @stp P (.alloc [(.int .u64 0), (.int .i64 0), (.int .u64 0), (.int .u64 0), (.int .i64 0), (.int .i64 0), (.sl .nil 0 [] []), (.sl .nil 0 [] []), (.int .u64 0)]) st ⟨fun v4 st =>
 @stp P (.st 9 (.c v4) (.c v16)) st ⟨fun _v st =>
 @stpD P (.ld (some 9) (.c v4)) st ⟨fun v17 st =>
 @stpD P (.call (.c (.fn (.func n_record_Check) [] [])) [(.c v17)]) st ⟨fun v18 st =>
 @stpD P (.bin .neq (.c v18) (.c (.int .i64 0))) st ⟨fun v19 st =>
 @gstD P v19 false (.mov (.c v12)) st ⟨fun v21 st =>
 @gstD P v19 false (.bin .gtr (.c v21) (.c (.int .i64 0))) st ⟨fun v22 st =>
 @gstD P v19 false (.mov (.c v22)) st ⟨fun v23 st =>
 @gstD P v23 true (.fld 0 (.c v4)) st ⟨fun v24 st =>
 @gstD P v23 true (.ld none (.c v24)) st ⟨fun v25 st =>
 @gstD P v23 true (.mov (.c a0)) st ⟨fun v26 st =>
 @gstD P v23 true (.mov (.c v12)) st ⟨fun v27 st =>
 @gstD P v23 true (.bin .sub (.c v27) (.c (.int .i64 1))) st ⟨fun v28 st =>
 @gstD P v23 true (.idx 9 (.c v26) (.c v28)) st ⟨fun v29 st =>
 @gstD P v23 true (.fld 0 (.c v29)) st ⟨fun v30 st =>
 @gstD P v23 true (.ld none (.c v30)) st ⟨fun v31 st =>
 @gstD P v23 true (.bin .add (.c v31) (.c (.int .u64 1))) st ⟨fun v32 st =>
 @gstD P v23 true (.bin .neq (.c v25) (.c v32)) st ⟨fun v33 st =>
 @gstD P v19 false (.pick (.c v23) (.c v33) (.c (.bool false))) st ⟨fun v34 st =>
 @stpD P (.pick (.c v19) (.c (.bool true)) (.c v34)) st ⟨fun v35 st =>
 @cnd v35 ⟨
 GhostV [(.int .i64 150)] st fun vs st => K (mkres vs) st⟩
 ⟨
 @stpD P (.fld 3 (.c v4)) st ⟨fun v36 st =>
 @stpD P (.ld none (.c v36)) st ⟨fun v37 st =>
 @stpD P (.idx 9 (.c a0) (.c (.int .i64 0))) st ⟨fun v39 st =>
 @stpD P (.fld 0 (.c v39)) st ⟨fun v40 st =>
 @stpD P (.ld none (.c v40)) st ⟨fun v41 st =>
 @stpD P (.bin .lss (.c v37) (.c v41)) st ⟨fun v42 st =>
 @cnd v42 ⟨
 @stp P (.bin .add (.c v12) (.c (.int .i64 1))) st ⟨fun v56 st =>
 ∃ j, j < k1 ∧ GhostV [v2, v56] st (app (I1 j))⟩⟩
 ⟨
 @stp P (.alloc [(.bool false)]) st ⟨fun v5 st =>
 @stp P (.st 1 (.c v5) (.c (.bool false))) st ⟨fun _v st =>
 @stp P (.fld 2 (.c v4)) st ⟨fun v45 st =>
 @stp P (.ld none (.c v45)) st ⟨fun v46 st =>
 @stp P (.call (.c (.fn (.func n_record_ahead) [] [])) [(.c a0), (.c v12), (.c v46)]) st ⟨fun v47 st =>
 @Hold ⟨(fun s2 : St => ∀ LP2 : LSt → Obj,
 (∀ (st : St) (K : V → St → Prop) (v48 : V), st.get s2.objs.length s2.nv = some (LP2 .ready) → (
 @stp P (.alloc [(.int .u64 0), (.int .i64 0), (.int .u64 0), (.int .u64 0), (.int .i64 0), (.int .i64 0), (.sl .nil 0 [] []), (.sl .nil 0 [] []), (.int .u64 0)]) st ⟨fun v6 st =>
 @stp P (.st 9 (.c v6) (.c v48)) st ⟨fun _v st =>
 st.get s2.objs.length s2.nv = some (LP2 .ready) ∧ (fun st : St =>
 @stp P (.fld 0 (.c v6)) st ⟨fun v49 st =>
 @stp P (.ld none (.c v49)) st ⟨fun v50 st =>
 @stp P (.fld 3 (.c v4)) st ⟨fun v51 st =>
 @stp P (.ld none (.c v51)) st ⟨fun v52 st =>
 @stp P (.bin .eql (.c v50) (.c v52)) st ⟨fun v53 st =>
 @stp P (.st 1 (.c v5) (.c v53)) st ⟨fun _v st =>
 st.get s2.objs.length s2.nv = some (LP2 .busy) ∧ K (.bool false) (st.setO s2.objs.length s2.nv (LP2 (.done (.exit 2))))⟩⟩⟩⟩⟩⟩) (st.setO s2.objs.length s2.nv (LP2 .busy))⟩⟩) →
 AInv P (.yld s2.objs.length s2.nv) [v48] st K) →
 AInvE P v47 [.yld s2.objs.length s2.nv] (s2.push (LP2 .ready)) fun _ st => ∃ s, st.get s2.objs.length s2.nv = some (LP2 s) ∧ (fun st : St => hend s (
 @stp P (.ld none (.c v5)) st ⟨fun v54 st =>
 @stp P (.un .not (.c v54)) st ⟨fun v55 st =>
 @cnd v55 ⟨
 GhostV [(.int .i64 150)] st fun vs st => K (mkres vs) st⟩
 ⟨
 @stp P (.bin .add (.c v12) (.c (.int .i64 1))) st ⟨fun v56 st =>
 ∃ j, j < k1 ∧ GhostV [v2, v56] st (app (I1 j))⟩⟩⟩⟩)
 (
 GhostV [v2] st fun vs st => K (mkres vs) st)
 (fun id : Nat =>                 (if id = 2 then
 @stp P (.ld none (.c v5)) st ⟨fun v54 st =>
 @stp P (.un .not (.c v54)) st ⟨fun v55 st =>
 @cnd v55 ⟨
 GhostV [(.int .i64 150)] st fun vs st => K (mkres vs) st⟩
 ⟨
 @stp P (.bin .add (.c v12) (.c (.int .i64 1))) st ⟨fun v56 st =>
 ∃ j, j < k1 ∧ GhostV [v2, v56] st (app (I1 j))⟩⟩⟩⟩
 else
 (if id = 1 then
 @stp P (.bin .add (.c v12) (.c (.int .i64 1))) st ⟨fun v56 st =>
 ∃ j, j < k1 ∧ GhostV [v2, v56] st (app (I1 j))⟩
 else
 (if id = 0 then
 GhostV [(.int .i64 0)] st fun vs st => K (mkres vs) st
 else
 False))))) (st.gone s2.objs.length)) st⟩⟩⟩⟩⟩⟩⟩⟩⟩⟩⟩⟩⟩⟩⟩⟩⟩⟩⟩⟩⟩⟩⟩⟩⟩⟩⟩⟩⟩⟩⟩⟩⟩⟩⟩⟩⟩
 ⟨
 GhostV [(.int .i64 0)] st fun vs st => K (mkres vs) st⟩⟩⟩⟩⟩⟩⟩
theorem q_record_CheckRow {P : Program} {a0 : V} {st : St} {K : V → St → Prop} : F_record_CheckRow P a0 st K = hwp P c_record_CheckRow (hretQ [.tmp 2] K) (enterFr [a0]) st := by kernel_rfl
abbrev R_record_CheckRow (P : Program) : Prop := resFnH P n_record_CheckRow = some (57, c_record_CheckRow.er, [.tmp 2])
theorem A_record_CheckRow {P : Program} (h : R_record_CheckRow P) {a0 : V} {st : St} {K : V → St → Prop} (hF : F_record_CheckRow P a0 st K) : ACalls P n_record_CheckRow [a0] st K :=
  ACalls_h h rfl (by simp) (q_record_CheckRow ▸ hF)

def c_bytes_Equal : ACode := (.seq (.reg [⟨(some 4), none, (.mov (.c (.bool false)))⟩]) (.seq (.reg [⟨(some 5), none, (.mov (.s 0))⟩, ⟨(some 6), none, (.strOf (.s 5))⟩, ⟨(some 7), none, (.mov (.s 1))⟩, ⟨(some 8), none, (.strOf (.s 7))⟩, ⟨(some 9), none, (.bin .eql (.s 6) (.s 8))⟩, ⟨(some 4), none, (.mov (.s 9))⟩]) .ret))
def F_bytes_Equal (P : Program) (a0 a1 : V) (st : St) (K : V → St → Prop) : Prop :=
 @stp P (.strOf (.c a0)) st ⟨fun v6 st =>
 @stp P (.strOf (.c a1)) st ⟨fun v8 st =>
 @stp P (.bin .eql (.c v6) (.c v8)) st ⟨fun v9 st =>
 GhostV [v9] st fun vs st => K (mkres vs) st⟩⟩⟩
theorem q_bytes_Equal {P : Program} {a0 a1 : V} {st : St} {K : V → St → Prop} : F_bytes_Equal P a0 a1 st K = hwp P c_bytes_Equal (hretQ [.tmp 4] K) (enterFr [a0, a1]) st := by kernel_rfl
abbrev R_bytes_Equal (P : Program) : Prop := resFnH P n_bytes_Equal = some (10, c_bytes_Equal.er, [.tmp 4])
theorem A_bytes_Equal {P : Program} (h : R_bytes_Equal P) {a0 a1 : V} {st : St} {K : V → St → Prop} (hF : F_bytes_Equal P a0 a1 st K) : ACalls P n_bytes_Equal [a0, a1] st K :=
  ACalls_h h rfl (by simp) (q_bytes_Equal ▸ hF)

def c_page_Set : ACode := (.seq (.reg [⟨(some 4), none, (.box (.s 0))⟩, ⟨(some 8), none, (.alloc [(.int .i64 0), (.int .u64 0), (.sl .nil 0 [] []), (.sl .nil 0 [] []), (.sl .nil 0 [] []), (.sl .nil 0 [] [])])⟩, ⟨(some 9), none, (.mov (.c (.int .i64 0)))⟩]) (.seq (.reg [⟨(some 13), none, (.ld (some 6) (.s 4))⟩, ⟨(some 14), none, (.mov (.s 1))⟩, ⟨(some 15), none, (.call (.c (.fn (.func n_page_at) [] [])) [(.s 13), (.s 14)])⟩, ⟨(some 12), none, (.mov (.s 15))⟩, ⟨(some 16), none, (.ext 0 (.s 12))⟩, ⟨(some 17), none, (.ext 1 (.s 12))⟩, ⟨(some 10), none, (.alloc [(.int .i64 0), (.int .u64 0), (.sl .nil 0 [] []), (.sl .nil 0 [] []), (.sl .nil 0 [] []), (.sl .nil 0 [] [])])⟩, ⟨none, none, (.st 6 (.s 10) (.s 16))⟩, ⟨(some 11), none, (.mov (.s 17))⟩]) (.seq (.block 0 (.seq (.reg [⟨(some 19), none, (.mov (.s 11))⟩, ⟨(some 20), none, (.bin .neq (.s 19) (.c (.int .i64 0)))⟩, ⟨(some 18), none, (.mov (.s 20))⟩]) (.cond (.s 18) (.seq (.reg [⟨(some 21), none, (.ld (some 6) (.s 10))⟩, ⟨(some 22), none, (.mov (.s 11))⟩, ⟨none, none, (.st 6 (.s 8) (.s 21))⟩, ⟨(some 9), none, (.mov (.s 22))⟩]) .ret) (.seq (.reg [⟨(some 24), none, (.mov (.s 2))⟩, ⟨(some 25), none, (.len .sl (.s 24))⟩, ⟨(some 26), none, (.bin .gtr (.s 25) (.c (.int .i64 52)))⟩, ⟨(some 23), none, (.mov (.s 26))⟩]) (.cond (.s 23) (.seq (.reg [⟨(some 27), none, (.build [(.int .i64 0), (.int .u64 0), (.sl .nil 0 [] []), (.sl .nil 0 [] []), (.sl .nil 0 [] []), (.sl .nil 0 [] [])] [])⟩, ⟨none, none, (.st 6 (.s 8) (.s 27))⟩, ⟨(some 9), none, (.mov (.c (.int .i64 3)))⟩]) .ret) .skip))))) (.seq (.reg [⟨(some 28), none, (.mov (.s 1))⟩, ⟨(some 29), none, (.mov (.s 2))⟩, ⟨(some 30), none, (.call (.c (.fn (.func n_bytes_Clone) [] [])) [(.s 29)])⟩, ⟨(some 31), none, (.mov (.s 3))⟩, ⟨(some 32), none, (.fld 2 (.s 10))⟩, ⟨(some 33), none, (.idxA 4 1 (.s 32) (.s 28))⟩, ⟨none, none, (.st 1 (.s 33) (.s 30))⟩, ⟨(some 34), none, (.fld 1 (.s 10))⟩, ⟨none, none, (.st 1 (.s 34) (.s 31))⟩]) (.seq (.reg [⟨(some 35), none, (.ld (some 6) (.s 10))⟩, ⟨none, none, (.st 6 (.s 8) (.s 35))⟩, ⟨(some 9), none, (.mov (.c (.int .i64 0)))⟩]) .ret)))))
def F_page_Set (P : Program) (a0 a1 a2 a3 : V) (st : St) (K : V → St → Prop) : Prop :=
 @stp P (.box (.c a0)) st ⟨fun v4 st =>
 @stp P (.alloc [(.int .i64 0), (.int .u64 0), (.sl .nil 0 [] []), (.sl .nil 0 [] []), (.sl .nil 0 [] []), (.sl .nil 0 [] [])]) st ⟨fun v8 st =>
 @stp P (.ld (some 6) (.c v4)) st ⟨fun v13 st =>
 @stp P (.call (.c (.fn (.func n_page_at) [] [])) [(.c v13), (.c a1)]) st ⟨fun v15 st =>
 @stp P (.ext 0 (.c v15)) st ⟨fun v16 st =>
 @stp P (.ext 1 (.c v15)) st ⟨fun v17 st =>
 @stp P (.alloc [(.int .i64 0), (.int .u64 0), (.sl .nil 0 [] []), (.sl .nil 0 [] []), (.sl .nil 0 [] []), (.sl .nil 0 [] [])]) st ⟨fun v10 st =>
 @stp P (.st 6 (.c v10) (.c v16)) st ⟨fun _v st =>
 @stp P (.bin .neq (.c v17) (.c (.int .i64 0))) st ⟨fun v20 st =>
 @cnd v20 ⟨
 @stp P (.ld (some 6) (.c v10)) st ⟨fun v21 st =>
 @stp P (.st 6 (.c v8) (.c v21)) st ⟨fun _v st =>
 @ldr (some 6) v8 st ⟨fun r1 =>
 GhostV [r1, v17] st fun vs st => K (mkres vs) st⟩⟩⟩⟩
 ⟨
 @stp P (.len .sl (.c a2)) st ⟨fun v25 st =>
 @stp P (.bin .gtr (.c v25) (.c (.int .i64 52))) st ⟨fun v26 st =>
 @cnd v26 ⟨
 @stp P (.build [(.int .i64 0), (.int .u64 0), (.sl .nil 0 [] []), (.sl .nil 0 [] []), (.sl .nil 0 [] []), (.sl .nil 0 [] [])] []) st ⟨fun v27 st =>
 @stp P (.st 6 (.c v8) (.c v27)) st ⟨fun _v st =>
 @ldr (some 6) v8 st ⟨fun r1 =>
 GhostV [r1, (.int .i64 3)] st fun vs st => K (mkres vs) st⟩⟩⟩⟩
 ⟨
 @stp P (.call (.c (.fn (.func n_bytes_Clone) [] [])) [(.c a2)]) st ⟨fun v30 st =>
 @stp P (.fld 2 (.c v10)) st ⟨fun v32 st =>
 @stp P (.idxA 4 1 (.c v32) (.c a1)) st ⟨fun v33 st =>
 @stp P (.st 1 (.c v33) (.c v30)) st ⟨fun _v st =>
 @stp P (.fld 1 (.c v10)) st ⟨fun v34 st =>
 @stp P (.st 1 (.c v34) (.c a3)) st ⟨fun _v st =>
 @stp P (.ld (some 6) (.c v10)) st ⟨fun v35 st =>
 @stp P (.st 6 (.c v8) (.c v35)) st ⟨fun _v st =>
 @ldr (some 6) v8 st ⟨fun r1 =>
 GhostV [r1, (.int .i64 0)] st fun vs st => K (mkres vs) st⟩⟩⟩⟩⟩⟩⟩⟩⟩⟩⟩⟩⟩⟩⟩⟩⟩⟩⟩⟩⟩⟩
theorem q_page_Set {P : Program} {a0 a1 a2 a3 : V} {st : St} {K : V → St → Prop} : F_page_Set P a0 a1 a2 a3 st K = hwp P c_page_Set (hretQ [.cell 8 (some 6), .tmp 9] K) (enterFr [a0, a1, a2, a3]) st := by kernel_rfl
abbrev R_page_Set (P : Program) : Prop := resFnH P n_page_Set = some (36, c_page_Set.er, [.cell 8 (some 6), .tmp 9])
theorem A_page_Set {P : Program} (h : R_page_Set P) {a0 a1 a2 a3 : V} {st : St} {K : V → St → Prop} (hF : F_page_Set P a0 a1 a2 a3 st K) : ACalls P n_page_Set [a0, a1, a2, a3] st K :=
  ACalls_h h rfl (by simp) (q_page_Set ▸ hF)

def c_gazetteerlaw12_first : ACode := (.seq (.reg [⟨(some 0), none, (.mov (.c (.sl .nil 0 [] [])))⟩]) (.seq (.reg [⟨(some 1), none, (.mkSl 1 1 [(.int .u8 0)] [(0, (.c (.int .u8 7)))])⟩, ⟨(some 2), none, (.build [(.int .u64 0), (.int .i64 0), (.int .u64 0), (.int .u64 0), (.int .i64 0), (.int .i64 0), (.sl .nil 0 [] []), (.sl .nil 0 [] []), (.int .u64 0)] [(0, (1, (.c (.int .u64 1)))), (1, (1, (.c (.int .i64 1)))), (2, (1, (.c (.int .u64 1)))), (7, (1, (.s 1)))])⟩, ⟨(some 3), none, (.mkSl 1 1 [(.int .u8 0)] [(0, (.c (.int .u8 8)))])⟩, ⟨(some 4), none, (.build [(.int .u64 0), (.int .i64 0), (.int .u64 0), (.int .u64 0), (.int .i64 0), (.int .i64 0), (.sl .nil 0 [] []), (.sl .nil 0 [] []), (.int .u64 0)] [(0, (1, (.c (.int .u64 2)))), (1, (1, (.c (.int .i64 1)))), (2, (1, (.c (.int .u64 2)))), (5, (1, (.c (.int .i64 1)))), (7, (1, (.s 3)))])⟩, ⟨(some 5), none, (.build [(.int .u64 0), (.int .i64 0), (.int .u64 0), (.int .u64 0), (.int .i64 0), (.int .i64 0), (.sl .nil 0 [] []), (.sl .nil 0 [] []), (.int .u64 0)] [(0, (1, (.c (.int .u64 3)))), (1, (1, (.c (.int .i64 3)))), (2, (1, (.c (.int .u64 1)))), (3, (1, (.c (.int .u64 1))))])⟩, ⟨(some 6), none, (.mkSl 9 3 [(.int .u64 0), (.int .i64 0), (.int .u64 0), (.int .u64 0), (.int .i64 0), (.int .i64 0), (.sl .nil 0 [] []), (.sl .nil 0 [] []), (.int .u64 0)] [(0, (.s 2)), (1, (.s 4)), (2, (.s 5))])⟩, ⟨(some 0), none, (.mov (.s 6))⟩]) .ret))
def F_gazetteerlaw12_first (P : Program) (st : St) (K : V → St → Prop) : Prop :=
 @stp P (.mkSl 1 1 [(.int .u8 0)] [(0, (.c (.int .u8 7)))]) st ⟨fun v1 st =>
 @stp P (.build [(.int .u64 0), (.int .i64 0), (.int .u64 0), (.int .u64 0), (.int .i64 0), (.int .i64 0), (.sl .nil 0 [] []), (.sl .nil 0 [] []), (.int .u64 0)] [(0, 1, (.c (.int .u64 1))), (1, 1, (.c (.int .i64 1))), (2, 1, (.c (.int .u64 1))), (7, 1, (.c v1))]) st ⟨fun v2 st =>
 @stp P (.mkSl 1 1 [(.int .u8 0)] [(0, (.c (.int .u8 8)))]) st ⟨fun v3 st =>
 @stp P (.build [(.int .u64 0), (.int .i64 0), (.int .u64 0), (.int .u64 0), (.int .i64 0), (.int .i64 0), (.sl .nil 0 [] []), (.sl .nil 0 [] []), (.int .u64 0)] [(0, 1, (.c (.int .u64 2))), (1, 1, (.c (.int .i64 1))), (2, 1, (.c (.int .u64 2))), (5, 1, (.c (.int .i64 1))), (7, 1, (.c v3))]) st ⟨fun v4 st =>
 @stp P (.build [(.int .u64 0), (.int .i64 0), (.int .u64 0), (.int .u64 0), (.int .i64 0), (.int .i64 0), (.sl .nil 0 [] []), (.sl .nil 0 [] []), (.int .u64 0)] [(0, 1, (.c (.int .u64 3))), (1, 1, (.c (.int .i64 3))), (2, 1, (.c (.int .u64 1))), (3, 1, (.c (.int .u64 1)))]) st ⟨fun v5 st =>
 @stp P (.mkSl 9 3 [(.int .u64 0), (.int .i64 0), (.int .u64 0), (.int .u64 0), (.int .i64 0), (.int .i64 0), (.sl .nil 0 [] []), (.sl .nil 0 [] []), (.int .u64 0)] [(0, (.c v2)), (1, (.c v4)), (2, (.c v5))]) st ⟨fun v6 st =>
 GhostV [v6] st fun vs st => K (mkres vs) st⟩⟩⟩⟩⟩⟩
theorem q_gazetteerlaw12_first {P : Program} {st : St} {K : V → St → Prop} : F_gazetteerlaw12_first P  st K = hwp P c_gazetteerlaw12_first (hretQ [.tmp 0] K) (enterFr []) st := by kernel_rfl
abbrev R_gazetteerlaw12_first (P : Program) : Prop := resFnH P n_gazetteerlaw12_first = some (7, c_gazetteerlaw12_first.er, [.tmp 0])
theorem A_gazetteerlaw12_first {P : Program} (h : R_gazetteerlaw12_first P) {st : St} {K : V → St → Prop} (hF : F_gazetteerlaw12_first P  st K) : ACalls P n_gazetteerlaw12_first [] st K :=
  ACalls_h h rfl (by simp) (q_gazetteerlaw12_first ▸ hF)

def c_redo_Undo : ACode := (.seq (.reg [⟨(some 6), none, (.mov (.c (.sl .nil 0 [] [])))⟩, ⟨(some 7), none, (.mov (.c (.int .i64 0)))⟩]) (.cond (.c (.bool true)) (.seq (.seq (.reg [⟨(some 23), none, (.mov (.s 0))⟩, ⟨(some 24), none, (.call (.c (.fn (.func n_record_CheckRow) [] [])) [(.s 23)])⟩, ⟨(some 8), none, (.mov (.s 24))⟩]) (.seq (.reg [⟨(some 25), none, (.mov (.s 8))⟩, ⟨(some 26), none, (.bin .neq (.s 25) (.c (.int .i64 0)))⟩]) (.cond (.s 26) (.seq (.reg [⟨(some 27), none, (.mov (.s 8))⟩, ⟨(some 6), none, (.mov (.c (.sl .nil 0 [] [])))⟩, ⟨(some 7), none, (.mov (.s 27))⟩]) .ret) .skip))) (.seq (.seq (.reg [⟨(some 28), none, (.mov (.s 2))⟩, ⟨(some 29), none, (.bin .eql (.s 28) (.c (.int .u64 0)))⟩, ⟨(some 30), none, (.mov (.s 29))⟩, ⟨(some 31), (some (30, false)), (.mov (.s 2))⟩, ⟨(some 32), (some (30, false)), (.mov (.s 0))⟩, ⟨(some 33), (some (30, false)), (.call (.c (.fn (.func n_redo_end) [] [])) [(.s 32)])⟩, ⟨(some 34), (some (30, false)), (.bin .leq (.s 31) (.s 33))⟩, ⟨(some 35), none, (.pick (.s 30) (.c (.bool true)) (.s 34))⟩]) (.cond (.s 35) (.seq (.reg [⟨(some 6), none, (.mov (.c (.sl .nil 0 [] [])))⟩, ⟨(some 7), none, (.mov (.c (.int .i64 2)))⟩]) .ret) .skip)) (.seq (.reg [⟨(some 36), none, .mkmap⟩, ⟨(some 9), none, (.mov (.s 36))⟩]) (.seq (.seq (.reg [⟨(some 37), none, (.mov (.s 0))⟩, ⟨(some 38), none, (.len .sl (.s 37))⟩, ⟨(some 39), none, (.mov (.c (.int .i64 0)))⟩]) (.block 0 (.loop [39] [11, 39, 40, 41, 42, 43, 44, 45, 46, 47] (.seq (.reg [⟨(some 40), none, (.bin .lss (.s 39) (.s 38))⟩]) (.seq (.cond (.s 40) .skip (.exit 0)) (.seq (.block 1 (.seq (.reg [⟨(some 41), none, (.idx 9 (.s 37) (.s 39))⟩, ⟨(some 42), none, (.ld (some 9) (.s 41))⟩, ⟨(some 11), none, (.alloc [(.int .u64 0), (.int .i64 0), (.int .u64 0), (.int .u64 0), (.int .i64 0), (.int .i64 0), (.sl .nil 0 [] []), (.sl .nil 0 [] []), (.int .u64 0)])⟩, ⟨none, none, (.st 9 (.s 11) (.s 42))⟩]) (.reg [⟨(some 43), none, (.mov (.s 9))⟩, ⟨(some 44), none, (.fld 0 (.s 11))⟩, ⟨(some 45), none, (.ld none (.s 44))⟩, ⟨(some 46), none, (.ld (some 9) (.s 11))⟩, ⟨none, none, (.mupd (.one .int) (.s 43) (.s 45) (.s 46))⟩]))) (.reg [⟨(some 47), none, (.bin .add (.s 39) (.c (.int .i64 1)))⟩, ⟨(some 39), none, (.mov (.s 47))⟩]))))))) (.seq (.seq (.reg [⟨(some 48), none, (.mov (.s 1))⟩, ⟨(some 49), none, (.len .sl (.s 48))⟩, ⟨(some 50), none, (.mov (.c (.int .i64 0)))⟩]) (.block 2 (.loop [50] [6, 7, 12, 13, 14, 15, 50, 51, 52, 53, 54, 55, 56, 57, 58, 59, 60, 61, 62, 63, 64, 65, 66, 67, 68, 69, 70, 71, 72, 73, 74, 75, 76, 77, 78, 79, 80, 81, 82, 83, 84, 85, 86, 87, 88, 89, 90, 91, 92, 93] (.seq (.reg [⟨(some 51), none, (.bin .lss (.s 50) (.s 49))⟩]) (.seq (.cond (.s 51) .skip (.exit 2)) (.seq (.block 3 (.seq (.reg [⟨(some 52), none, (.mov (.s 50))⟩, ⟨(some 53), none, (.idx 3 (.s 48) (.s 50))⟩, ⟨(some 54), none, (.ld (some 3) (.s 53))⟩, ⟨(some 13), none, (.alloc [(.int .u64 0), (.int .u64 0), (.int .u64 0)])⟩, ⟨(some 12), none, (.mov (.s 52))⟩, ⟨none, none, (.st 3 (.s 13) (.s 54))⟩]) (.seq (.reg [⟨(some 56), none, (.mov (.s 9))⟩, ⟨(some 57), none, (.fld 1 (.s 13))⟩, ⟨(some 58), none, (.ld none (.s 57))⟩, ⟨(some 59), none, (.lookup (.one .int) (.agg [(.int .u64 0), (.int .i64 0), (.int .u64 0), (.int .u64 0), (.int .i64 0), (.int .i64 0), (.sl .nil 0 [] []), (.sl .nil 0 [] []), (.int .u64 0)]) true (.s 56) (.s 58))⟩, ⟨(some 55), none, (.mov (.s 59))⟩, ⟨(some 60), none, (.ext 0 (.s 55))⟩, ⟨(some 61), none, (.ext 1 (.s 55))⟩, ⟨(some 14), none, (.alloc [(.int .u64 0), (.int .i64 0), (.int .u64 0), (.int .u64 0), (.int .i64 0), (.int .i64 0), (.sl .nil 0 [] []), (.sl .nil 0 [] []), (.int .u64 0)])⟩, ⟨none, none, (.st 9 (.s 14) (.s 60))⟩, ⟨(some 15), none, (.mov (.s 61))⟩]) (.seq (.regD [⟨(some 62), none, (.mov (.s 15))⟩, ⟨(some 63), none, (.un .not (.s 62))⟩, ⟨(some 64), none, (.mov (.s 63))⟩, ⟨(some 65), (some (64, false)), (.fld 2 (.s 14))⟩, ⟨(some 66), (some (64, false)), (.ld none (.s 65))⟩, ⟨(some 67), (some (64, false)), (.fld 0 (.s 13))⟩, ⟨(some 68), (some (64, false)), (.ld none (.s 67))⟩, ⟨(some 69), (some (64, false)), (.bin .neq (.s 66) (.s 68))⟩, ⟨(some 70), none, (.pick (.s 64) (.c (.bool true)) (.s 69))⟩, ⟨(some 71), none, (.mov (.s 70))⟩, ⟨(some 72), (some (71, false)), (.fld 2 (.s 13))⟩, ⟨(some 73), (some (71, false)), (.ld none (.s 72))⟩, ⟨(some 74), (some (71, false)), (.fld 1 (.s 13))⟩, ⟨(some 75), (some (71, false)), (.ld none (.s 74))⟩, ⟨(some 76), (some (71, false)), (.bin .gtr (.s 73) (.s 75))⟩, ⟨(some 77), none, (.pick (.s 71) (.c (.bool true)) (.s 76))⟩, ⟨(some 78), none, (.mov (.s 77))⟩, ⟨(some 79), (some (78, false)), (.mov (.s 12))⟩, ⟨(some 80), (some (78, false)), (.bin .gtr (.s 79) (.c (.int .i64 0)))⟩, ⟨(some 81), (some (78, false)), (.mov (.s 80))⟩, ⟨(some 82), (some (81, true)), (.mov (.s 1))⟩, ⟨(some 83), (some (81, true)), (.mov (.s 12))⟩, ⟨(some 84), (some (81, true)), (.bin .sub (.s 83) (.c (.int .i64 1)))⟩, ⟨(some 85), (some (81, true)), (.idx 3 (.s 82) (.s 84))⟩, ⟨(some 86), (some (81, true)), (.fld 0 (.s 85))⟩, ⟨(some 87), (some (81, true)), (.ld none (.s 86))⟩, ⟨(some 88), (some (81, true)), (.fld 0 (.s 13))⟩, ⟨(some 89), (some (81, true)), (.ld none (.s 88))⟩, ⟨(some 90), (some (81, true)), (.bin .geq (.s 87) (.s 89))⟩, ⟨(some 91), (some (78, false)), (.pick (.s 81) (.s 90) (.c (.bool false)))⟩, ⟨(some 92), none, (.pick (.s 78) (.c (.bool true)) (.s 91))⟩] [(0, (false, [])), (1, (false, [])), (2, (false, [])), (3, (false, [])), (4, (false, [])), (5, (false, [])), (6, (false, [])), (7, (false, [])), (8, (false, [])), (9, (false, [])), (10, (false, [])), (11, (false, [])), (12, (false, [])), (13, (false, [])), (14, (false, [])), (15, (false, [])), (16, (false, [])), (17, (false, [])), (18, (false, [])), (19, (false, [])), (20, (false, [])), (21, (false, [])), (22, (false, [])), (23, (false, [])), (24, (false, [])), (25, (false, [])), (26, (false, [])), (27, (false, [])), (28, (false, [])), (29, (false, [])), (30, (false, []))]) (.cond (.s 92) (.seq (.reg [⟨(some 6), none, (.mov (.c (.sl .nil 0 [] [])))⟩, ⟨(some 7), none, (.mov (.c (.int .i64 220)))⟩]) .ret) .skip))))) (.reg [⟨(some 93), none, (.bin .add (.s 50) (.c (.int .i64 1)))⟩, ⟨(some 50), none, (.mov (.s 93))⟩]))))))) (.seq (.reg [⟨(some 94), none, (.mov (.s 1))⟩, ⟨(some 95), none, (.call (.c (.fn (.func n_slices_Clone_Open_Open) [] [])) [(.s 94)])⟩, ⟨(some 16), none, (.mov (.s 95))⟩]) (.seq (.reg [⟨(some 17), none, (.mov (.c (.sl .nil 0 [] [])))⟩]) (.seq .skip (.seq (.block 4 (.loop [2, 16, 17] [2, 6, 7, 16, 17, 18, 19, 20, 21, 22, 96, 97, 98, 99, 100, 101, 102, 103, 104, 105, 106, 107, 108, 109, 110, 111, 112, 113, 114, 115, 116, 117, 118, 119, 120, 121, 122, 123, 124, 125, 126, 127, 128, 129, 130, 131, 132, 133, 134, 135, 136, 137, 138, 139, 140, 141, 142, 143, 144, 145, 146, 147, 148, 149, 150, 151, 152, 153, 154, 155, 156, 157, 158, 159, 160, 161, 162, 163, 164, 165, 166, 167, 168, 169, 170, 171, 172, 173, 174, 175, 176, 177, 178, 179, 180, 181, 182, 183, 184, 185, 186, 187, 188] (.seq (.seq (.reg [⟨(some 96), none, (.mov (.s 16))⟩, ⟨(some 97), none, (.len .sl (.s 96))⟩, ⟨(some 98), none, (.bin .gtr (.s 97) (.c (.int .i64 0)))⟩]) (.cond (.s 98) .skip (.exit 4))) (.block 5 (.seq (.reg [⟨(some 99), none, (.mov (.s 16))⟩, ⟨(some 100), none, (.call (.c (.fn (.func n_slices_MinFunc_Open_Open) [] [])) [(.s 99), (.c (.fn (.func n_redo_before) [] []))])⟩, ⟨(some 18), none, (.alloc [(.int .u64 0), (.int .u64 0), (.int .u64 0)])⟩, ⟨none, none, (.st 3 (.s 18) (.s 100))⟩]) (.seq (.reg [⟨(some 101), none, (.mov (.s 16))⟩, ⟨(some 102), none, (.ld (some 3) (.s 18))⟩, ⟨(some 103), none, (.call (.c (.fn (.func n_slices_Index_Open_Open) [] [])) [(.s 101), (.s 102)])⟩, ⟨(some 19), none, (.mov (.s 103))⟩]) (.seq (.reg [⟨(some 105), none, (.mov (.s 9))⟩, ⟨(some 106), none, (.fld 2 (.s 18))⟩, ⟨(some 107), none, (.ld none (.s 106))⟩, ⟨(some 108), none, (.lookup (.one .int) (.agg [(.int .u64 0), (.int .i64 0), (.int .u64 0), (.int .u64 0), (.int .i64 0), (.int .i64 0), (.sl .nil 0 [] []), (.sl .nil 0 [] []), (.int .u64 0)]) true (.s 105) (.s 107))⟩, ⟨(some 104), none, (.mov (.s 108))⟩, ⟨(some 109), none, (.ext 0 (.s 104))⟩, ⟨(some 110), none, (.ext 1 (.s 104))⟩, ⟨(some 20), none, (.alloc [(.int .u64 0), (.int .i64 0), (.int .u64 0), (.int .u64 0), (.int .i64 0), (.int .i64 0), (.sl .nil 0 [] []), (.sl .nil 0 [] []), (.int .u64 0)])⟩, ⟨none, none, (.st 9 (.s 20) (.s 109))⟩, ⟨(some 21), none, (.mov (.s 110))⟩]) (.seq (.reg [⟨(some 111), none, (.mov (.s 2))⟩, ⟨(some 112), none, (.fld 0 (.s 18))⟩, ⟨(some 113), none, (.ld none (.s 112))⟩, ⟨(some 114), none, (.fld 1 (.s 18))⟩, ⟨(some 115), none, (.ld none (.s 114))⟩, ⟨(some 116), none, (.build [(.int .u64 0), (.int .i64 0), (.int .u64 0), (.int .u64 0), (.int .i64 0), (.int .i64 0), (.sl .nil 0 [] []), (.sl .nil 0 [] []), (.int .u64 0)] [(0, (1, (.s 111))), (1, (1, (.c (.int .i64 4)))), (2, (1, (.s 113))), (3, (1, (.s 115)))])⟩, ⟨(some 22), none, (.alloc [(.int .u64 0), (.int .i64 0), (.int .u64 0), (.int .u64 0), (.int .i64 0), (.int .i64 0), (.sl .nil 0 [] []), (.sl .nil 0 [] []), (.int .u64 0)])⟩, ⟨none, none, (.st 9 (.s 22) (.s 116))⟩]) (.join [16] [6, 7, 16, 117, 118, 119, 120, 121, 122, 123, 124, 125, 126, 127, 128, 129, 130, 131, 132, 133, 134, 135, 136, 137, 138, 139, 140, 141, 142, 143, 144, 145, 146, 147, 148, 149, 150, 151, 152, 153, 154, 155, 156, 157, 158, 159, 160, 161, 162, 163, 164, 165, 166, 167, 168, 169, 170, 171, 172, 173, 174, 175] (.block 6 (.seq (.reg [⟨(some 143), none, (.fld 2 (.s 18))⟩, ⟨(some 144), none, (.ld none (.s 143))⟩, ⟨(some 145), none, (.bin .eql (.s 144) (.c (.int .u64 0)))⟩, ⟨(some 142), none, (.mov (.s 145))⟩]) (.cond (.s 142) (.reg [⟨(some 146), none, (.mov (.s 16))⟩, ⟨(some 147), none, (.mov (.s 19))⟩, ⟨(some 148), none, (.mov (.s 19))⟩, ⟨(some 149), none, (.bin .add (.s 148) (.c (.int .i64 1)))⟩, ⟨(some 150), none, (.call (.c (.fn (.func n_slices_Delete_Open_Open) [] [])) [(.s 146), (.s 147), (.s 149)])⟩, ⟨(some 16), none, (.mov (.s 150))⟩]) (.seq (.reg [⟨(some 152), none, (.mov (.s 21))⟩, ⟨(some 153), none, (.un .not (.s 152))⟩, ⟨(some 154), none, (.mov (.s 153))⟩, ⟨(some 155), (some (154, false)), (.fld 2 (.s 20))⟩, ⟨(some 156), (some (154, false)), (.ld none (.s 155))⟩, ⟨(some 157), (some (154, false)), (.fld 0 (.s 18))⟩, ⟨(some 158), (some (154, false)), (.ld none (.s 157))⟩, ⟨(some 159), (some (154, false)), (.bin .neq (.s 156) (.s 158))⟩, ⟨(some 160), none, (.pick (.s 154) (.c (.bool true)) (.s 159))⟩, ⟨(some 161), none, (.mov (.s 160))⟩, ⟨(some 162), (some (161, false)), (.ld (some 9) (.s 20))⟩, ⟨(some 163), (some (161, false)), (.call (.c (.fn (.func n_redo_changes) [] [])) [(.s 162)])⟩, ⟨(some 164), (some (161, false)), (.un .not (.s 163))⟩, ⟨(some 165), none, (.pick (.s 161) (.c (.bool true)) (.s 164))⟩, ⟨(some 151), none, (.mov (.s 165))⟩]) (.cond (.s 151) (.seq (.reg [⟨(some 6), none, (.mov (.c (.sl .nil 0 [] [])))⟩, ⟨(some 7), none, (.mov (.c (.int .i64 220)))⟩]) .ret) (.seq (.reg [⟨(some 167), none, (.fld 1 (.s 20))⟩, ⟨(some 168), none, (.ld none (.s 167))⟩, ⟨(some 169), none, (.bin .eql (.s 168) (.c (.int .i64 2)))⟩, ⟨(some 166), none, (.mov (.s 169))⟩]) (.cond (.s 166) (.seq (.reg [⟨(some 170), none, (.mov (.s 16))⟩, ⟨(some 171), none, (.mov (.s 19))⟩, ⟨(some 172), none, (.fld 8 (.s 20))⟩, ⟨(some 173), none, (.ld none (.s 172))⟩, ⟨(some 174), none, (.idx 3 (.s 170) (.s 171))⟩, ⟨(some 175), none, (.fld 2 (.s 174))⟩, ⟨none, none, (.st 1 (.s 175) (.s 173))⟩]) (.exit 5)) (.seq (.regD [⟨(some 117), none, (.fld 4 (.s 20))⟩, ⟨(some 118), none, (.ld none (.s 117))⟩, ⟨(some 119), none, (.fld 5 (.s 20))⟩, ⟨(some 120), none, (.ld none (.s 119))⟩, ⟨(some 121), none, (.fld 6 (.s 20))⟩, ⟨(some 122), none, (.ld none (.s 121))⟩, ⟨(some 123), none, (.call (.c (.fn (.func n_slices_Clone_byte_byte) [] [])) [(.s 122)])⟩, ⟨(some 124), none, (.fld 3 (.s 20))⟩, ⟨(some 125), none, (.ld none (.s 124))⟩, ⟨(some 126), none, (.fld 1 (.s 22))⟩, ⟨none, none, (.st 1 (.s 126) (.c (.int .i64 2)))⟩, ⟨(some 127), none, (.fld 4 (.s 22))⟩, ⟨none, none, (.st 1 (.s 127) (.s 118))⟩, ⟨(some 128), none, (.fld 5 (.s 22))⟩, ⟨none, none, (.st 1 (.s 128) (.s 120))⟩, ⟨(some 129), none, (.fld 7 (.s 22))⟩, ⟨none, none, (.st 1 (.s 129) (.s 123))⟩, ⟨(some 130), none, (.fld 8 (.s 22))⟩, ⟨none, none, (.st 1 (.s 130) (.s 125))⟩] [(0, (false, [])), (1, (false, [])), (2, (false, [])), (3, (false, [])), (4, (false, [])), (5, (false, [])), (7, (false, [])), (8, (false, [])), (9, (false, [])), (6, (true, [9, 8, 7, 3, 2, 1, 0])), (10, (true, [8, 7, 3, 2, 1, 0])), (11, (false, [])), (12, (true, [8, 7, 3, 2])), (13, (false, [])), (14, (true, [8, 7])), (15, (false, [])), (16, (true, [8, 7])), (17, (false, [])), (18, (true, []))]) (.regD [⟨(some 131), none, (.mov (.s 16))⟩, ⟨(some 132), none, (.mov (.s 19))⟩, ⟨(some 133), none, (.mov (.s 16))⟩, ⟨(some 134), none, (.mov (.s 19))⟩, ⟨(some 135), none, (.mov (.s 2))⟩, ⟨(some 136), none, (.fld 3 (.s 20))⟩, ⟨(some 137), none, (.ld none (.s 136))⟩, ⟨(some 138), none, (.idx 3 (.s 131) (.s 132))⟩, ⟨(some 139), none, (.fld 1 (.s 138))⟩, ⟨none, none, (.st 1 (.s 139) (.s 135))⟩, ⟨(some 140), none, (.idx 3 (.s 133) (.s 134))⟩, ⟨(some 141), none, (.fld 2 (.s 140))⟩, ⟨none, none, (.st 1 (.s 141) (.s 137))⟩] [(0, (false, [])), (1, (false, [])), (2, (false, [])), (3, (false, [])), (4, (false, [])), (5, (false, [])), (6, (false, [])), (7, (false, [])), (8, (false, [])), (9, (true, [6, 5, 3, 2])), (10, (false, [])), (11, (false, [])), (12, (true, []))]))))))))) (.seq (.seq (.reg [⟨(some 176), none, (.mov (.s 17))⟩, ⟨(some 177), none, (.len .sl (.s 176))⟩, ⟨(some 178), none, (.bin .eql (.s 177) (.c (.int .i64 64)))⟩, ⟨(some 179), none, (.mov (.s 178))⟩, ⟨(some 180), (some (179, false)), (.mov (.s 2))⟩, ⟨(some 181), (some (179, false)), (.bin .eql (.s 180) (.c (.int .u64 0)))⟩, ⟨(some 182), none, (.pick (.s 179) (.c (.bool true)) (.s 181))⟩]) (.cond (.s 182) (.seq (.reg [⟨(some 6), none, (.mov (.c (.sl .nil 0 [] [])))⟩, ⟨(some 7), none, (.mov (.c (.int .i64 3)))⟩]) .ret) .skip)) (.seq (.reg [⟨(some 183), none, (.mov (.s 17))⟩, ⟨(some 184), none, (.ld (some 9) (.s 22))⟩, ⟨(some 185), none, (.mkSl 9 1 [(.int .u64 0), (.int .i64 0), (.int .u64 0), (.int .u64 0), (.int .i64 0), (.int .i64 0), (.sl .nil 0 [] []), (.sl .nil 0 [] []), (.int .u64 0)] [(0, (.s 184))])⟩, ⟨(some 186), none, (.append 9 104 (.s 183) (.s 185))⟩, ⟨(some 17), none, (.mov (.s 186))⟩]) (.reg [⟨(some 187), none, (.mov (.s 2))⟩, ⟨(some 188), none, (.bin .add (.s 187) (.c (.int .u64 1)))⟩, ⟨(some 2), none, (.mov (.s 188))⟩])))))))))))) (.seq (.reg [⟨(some 189), none, (.mov (.s 17))⟩, ⟨(some 6), none, (.mov (.s 189))⟩, ⟨(some 7), none, (.mov (.c (.int .i64 0)))⟩]) .ret)))))))))) .skip))
def F_redo_Undo (P : Program) (a0 a1 a2 : V) (st : St) (K : V → St → Prop) : Prop :=
 @cnd (.bool true) ⟨
 @stp P (.call (.c (.fn (.func n_record_CheckRow) [] [])) [(.c a0)]) st ⟨fun v24 st =>
 @stp P (.bin .neq (.c v24) (.c (.int .i64 0))) st ⟨fun v26 st =>
 @cnd v26 ⟨
 GhostV [(.sl .nil 0 [] []), v24] st fun vs st => K (mkres vs) st⟩
 ⟨
 @stp P (.bin .eql (.c a2) (.c (.int .u64 0))) st ⟨fun v29 st =>
 @gst P v29 false (.mov (.c a2)) st ⟨fun v31 st =>
 @gst P v29 false (.mov (.c a0)) st ⟨fun v32 st =>
 @gst P v29 false (.call (.c (.fn (.func n_redo_end) [] [])) [(.c v32)]) st ⟨fun v33 st =>
 @gst P v29 false (.bin .leq (.c v31) (.c v33)) st ⟨fun v34 st =>
 @stp P (.pick (.c v29) (.c (.bool true)) (.c v34)) st ⟨fun v35 st =>
 @cnd v35 ⟨
 GhostV [(.sl .nil 0 [] []), (.int .i64 2)] st fun vs st => K (mkres vs) st⟩
 ⟨
 @stp P .mkmap st ⟨fun v36 st =>
 @stp P (.len .sl (.c a0)) st ⟨fun v38 st =>
 @Hold ⟨∃ I1 : Nat → Rel 1, (∃ k, GhostV [(.int .i64 0)] st (app (I1 k))) ∧ ∀ k1 v39, ∀ st, app (I1 k1) [v39] st →
 @stp P (.bin .lss (.c v39) (.c v38)) st ⟨fun v40 st =>
 @cnd v40 ⟨
 @stp P (.idx 9 (.c a0) (.c v39)) st ⟨fun v41 st =>
 @stp P (.ld (some 9) (.c v41)) st ⟨fun v42 st =>
 @stp P (.alloc [(.int .u64 0), (.int .i64 0), (.int .u64 0), (.int .u64 0), (.int .i64 0), (.int .i64 0), (.sl .nil 0 [] []), (.sl .nil 0 [] []), (.int .u64 0)]) st ⟨fun v11 st =>
 @stp P (.st 9 (.c v11) (.c v42)) st ⟨fun _v st =>
 @stp P (.fld 0 (.c v11)) st ⟨fun v44 st =>
 @stp P (.ld none (.c v44)) st ⟨fun v45 st =>
 @stp P (.ld (some 9) (.c v11)) st ⟨fun v46 st =>
 @stp P (.mupd (.one .int) (.c v36) (.c v45) (.c v46)) st ⟨fun _v st =>
 @stp P (.bin .add (.c v39) (.c (.int .i64 1))) st ⟨fun v47 st =>
 ∃ j, j < k1 ∧ GhostV [v47] st (app (I1 j))⟩⟩⟩⟩⟩⟩⟩⟩⟩⟩
 ⟨
 @stp P (.len .sl (.c a1)) st ⟨fun v49 st =>
 @Hold ⟨∃ I2 : Nat → Rel 1, (∃ k, GhostV [(.int .i64 0)] st (app (I2 k))) ∧ ∀ k2 v50, ∀ st, app (I2 k2) [v50] st →
 @stp P (.bin .lss (.c v50) (.c v49)) st ⟨fun v51 st =>
 @cnd v51 ⟨
 @stp P (.idx 3 (.c a1) (.c v50)) st ⟨fun v53 st =>
 @stp P (.ld (some 3) (.c v53)) st ⟨fun v54 st =>
 @stp P (.alloc [(.int .u64 0), (.int .u64 0), (.int .u64 0)]) st ⟨fun v13 st =>
 @stp P (.st 3 (.c v13) (.c v54)) st ⟨fun _v st =>
 @stp P (.fld 1 (.c v13)) st ⟨fun v57 st =>
 @stp P (.ld none (.c v57)) st ⟨fun v58 st =>
 @stp P (.lookup (.one .int) (.agg [(.int .u64 0), (.int .i64 0), (.int .u64 0), (.int .u64 0), (.int .i64 0), (.int .i64 0), (.sl .nil 0 [] []), (.sl .nil 0 [] []), (.int .u64 0)]) true (.c v36) (.c v58)) st ⟨fun v59 st =>
 @stp P (.ext 0 (.c v59)) st ⟨fun v60 st =>
 @stp P (.ext 1 (.c v59)) st ⟨fun v61 st =>
 @stp P (.alloc [(.int .u64 0), (.int .i64 0), (.int .u64 0), (.int .u64 0), (.int .i64 0), (.int .i64 0), (.sl .nil 0 [] []), (.sl .nil 0 [] []), (.int .u64 0)]) st ⟨fun v14 st =>
 @stp P (.st 9 (.c v14) (.c v60)) st ⟨fun _v st =>
 @stpD P (.un .not (.c v61)) st ⟨fun v63 st =>
 @gstD P v63 false (.fld 2 (.c v14)) st ⟨fun v65 st =>
 @gstD P v63 false (.ld none (.c v65)) st ⟨fun v66 st =>
 @gstD P v63 false (.fld 0 (.c v13)) st ⟨fun v67 st =>
 @gstD P v63 false (.ld none (.c v67)) st ⟨fun v68 st =>
 @gstD P v63 false (.bin .neq (.c v66) (.c v68)) st ⟨fun v69 st =>
 @stpD P (.pick (.c v63) (.c (.bool true)) (.c v69)) st ⟨fun v70 st =>
 @gstD P v70 false (.fld 2 (.c v13)) st ⟨fun v72 st =>
 @gstD P v70 false (.ld none (.c v72)) st ⟨fun v73 st =>
 @gstD P v70 false (.fld 1 (.c v13)) st ⟨fun v74 st =>
 @gstD P v70 false (.ld none (.c v74)) st ⟨fun v75 st =>
 @gstD P v70 false (.bin .gtr (.c v73) (.c v75)) st ⟨fun v76 st =>
 @stpD P (.pick (.c v70) (.c (.bool true)) (.c v76)) st ⟨fun v77 st =>
 @gstD P v77 false (.mov (.c v50)) st ⟨fun v79 st =>
 @gstD P v77 false (.bin .gtr (.c v79) (.c (.int .i64 0))) st ⟨fun v80 st =>
 @gstD P v77 false (.mov (.c v80)) st ⟨fun v81 st =>
 @gstD P v81 true (.mov (.c a1)) st ⟨fun v82 st =>
 @gstD P v81 true (.mov (.c v50)) st ⟨fun v83 st =>
 @gstD P v81 true (.bin .sub (.c v83) (.c (.int .i64 1))) st ⟨fun v84 st =>
 @gstD P v81 true (.idx 3 (.c v82) (.c v84)) st ⟨fun v85 st =>
 @gstD P v81 true (.fld 0 (.c v85)) st ⟨fun v86 st =>
 @gstD P v81 true (.ld none (.c v86)) st ⟨fun v87 st =>
 @gstD P v81 true (.fld 0 (.c v13)) st ⟨fun v88 st =>
 @gstD P v81 true (.ld none (.c v88)) st ⟨fun v89 st =>
 @gstD P v81 true (.bin .geq (.c v87) (.c v89)) st ⟨fun v90 st =>
 @gstD P v77 false (.pick (.c v81) (.c v90) (.c (.bool false))) st ⟨fun v91 st =>
 @stpD P (.pick (.c v77) (.c (.bool true)) (.c v91)) st ⟨fun v92 st =>
 @cnd v92 ⟨
 GhostV [(.sl .nil 0 [] []), (.int .i64 220)] st fun vs st => K (mkres vs) st⟩
 ⟨
 @stp P (.bin .add (.c v50) (.c (.int .i64 1))) st ⟨fun v93 st =>
 ∃ j, j < k2 ∧ GhostV [v93] st (app (I2 j))⟩⟩⟩⟩⟩⟩⟩⟩⟩⟩⟩⟩⟩⟩⟩⟩⟩⟩⟩⟩⟩⟩⟩⟩⟩⟩⟩⟩⟩⟩⟩⟩⟩⟩⟩⟩⟩⟩⟩⟩⟩
 ⟨
 @stp P (.call (.c (.fn (.func n_slices_Clone_Open_Open) [] [])) [(.c a1)]) st ⟨fun v95 st =>
 @Hold ⟨∃ I3 : Nat → Rel 3, (∃ k, GhostV [a2, v95, (.sl .nil 0 [] [])] st (app (I3 k))) ∧ ∀ k3 v2 v16 v17, ∀ st, app (I3 k3) [v2, v16, v17] st →
 @stp P (.len .sl (.c v16)) st ⟨fun v97 st =>
 @stp P (.bin .gtr (.c v97) (.c (.int .i64 0))) st ⟨fun v98 st =>
 @cnd v98 ⟨
 @stp P (.call (.c (.fn (.func n_slices_MinFunc_Open_Open) [] [])) [(.c v16), (.c (.fn (.func n_redo_before) [] []))]) st ⟨fun v100 st =>
 @stp P (.alloc [(.int .u64 0), (.int .u64 0), (.int .u64 0)]) st ⟨fun v18 st =>
 @stp P (.st 3 (.c v18) (.c v100)) st ⟨fun _v st =>
 @stp P (.ld (some 3) (.c v18)) st ⟨fun v102 st =>
 @stp P (.call (.c (.fn (.func n_slices_Index_Open_Open) [] [])) [(.c v16), (.c v102)]) st ⟨fun v103 st =>
 @stp P (.fld 2 (.c v18)) st ⟨fun v106 st =>
 @stp P (.ld none (.c v106)) st ⟨fun v107 st =>
 @stp P (.lookup (.one .int) (.agg [(.int .u64 0), (.int .i64 0), (.int .u64 0), (.int .u64 0), (.int .i64 0), (.int .i64 0), (.sl .nil 0 [] []), (.sl .nil 0 [] []), (.int .u64 0)]) true (.c v36) (.c v107)) st ⟨fun v108 st =>
 @stp P (.ext 0 (.c v108)) st ⟨fun v109 st =>
 @stp P (.ext 1 (.c v108)) st ⟨fun v110 st =>
 @stp P (.alloc [(.int .u64 0), (.int .i64 0), (.int .u64 0), (.int .u64 0), (.int .i64 0), (.int .i64 0), (.sl .nil 0 [] []), (.sl .nil 0 [] []), (.int .u64 0)]) st ⟨fun v20 st =>
 @stp P (.st 9 (.c v20) (.c v109)) st ⟨fun _v st =>
 @stp P (.fld 0 (.c v18)) st ⟨fun v112 st =>
 @stp P (.ld none (.c v112)) st ⟨fun v113 st =>
 @stp P (.fld 1 (.c v18)) st ⟨fun v114 st =>
 @stp P (.ld none (.c v114)) st ⟨fun v115 st =>
 @stp P (.build [(.int .u64 0), (.int .i64 0), (.int .u64 0), (.int .u64 0), (.int .i64 0), (.int .i64 0), (.sl .nil 0 [] []), (.sl .nil 0 [] []), (.int .u64 0)] [(0, 1, (.c v2)), (1, 1, (.c (.int .i64 4))), (2, 1, (.c v113)), (3, 1, (.c v115))]) st ⟨fun v116 st =>
 @stp P (.alloc [(.int .u64 0), (.int .i64 0), (.int .u64 0), (.int .u64 0), (.int .i64 0), (.int .i64 0), (.sl .nil 0 [] []), (.sl .nil 0 [] []), (.int .u64 0)]) st ⟨fun v22 st =>
 @stp P (.st 9 (.c v22) (.c v116)) st ⟨fun _v st =>
 @Hold ⟨∃ J4 : Rel 1, (
 @stp P (.fld 2 (.c v18)) st ⟨fun v143 st =>
 @stp P (.ld none (.c v143)) st ⟨fun v144 st =>
 @stp P (.bin .eql (.c v144) (.c (.int .u64 0))) st ⟨fun v145 st =>
 @cnd v145 ⟨
 @stp P (.bin .add (.c v103) (.c (.int .i64 1))) st ⟨fun v149 st =>
 @stp P (.call (.c (.fn (.func n_slices_Delete_Open_Open) [] [])) [(.c v16), (.c v103), (.c v149)]) st ⟨fun v150 st =>
 GhostV [v150] st (app J4)⟩⟩⟩
 ⟨
 @stp P (.un .not (.c v110)) st ⟨fun v153 st =>
 @gst P v153 false (.fld 2 (.c v20)) st ⟨fun v155 st =>
 @gst P v153 false (.ld none (.c v155)) st ⟨fun v156 st =>
 @gst P v153 false (.fld 0 (.c v18)) st ⟨fun v157 st =>
 @gst P v153 false (.ld none (.c v157)) st ⟨fun v158 st =>
 @gst P v153 false (.bin .neq (.c v156) (.c v158)) st ⟨fun v159 st =>
 @stp P (.pick (.c v153) (.c (.bool true)) (.c v159)) st ⟨fun v160 st =>
 @gst P v160 false (.ld (some 9) (.c v20)) st ⟨fun v162 st =>
 @gst P v160 false (.call (.c (.fn (.func n_redo_changes) [] [])) [(.c v162)]) st ⟨fun v163 st =>
 @gst P v160 false (.un .not (.c v163)) st ⟨fun v164 st =>
 @stp P (.pick (.c v160) (.c (.bool true)) (.c v164)) st ⟨fun v165 st =>
 @cnd v165 ⟨
 GhostV [(.sl .nil 0 [] []), (.int .i64 220)] st fun vs st => K (mkres vs) st⟩
 ⟨
 @stp P (.fld 1 (.c v20)) st ⟨fun v167 st =>
 @stp P (.ld none (.c v167)) st ⟨fun v168 st =>
 @stp P (.bin .eql (.c v168) (.c (.int .i64 2))) st ⟨fun v169 st =>
 @cnd v169 ⟨
 @stp P (.fld 8 (.c v20)) st ⟨fun v172 st =>
 @stp P (.ld none (.c v172)) st ⟨fun v173 st =>
 @stp P (.idx 3 (.c v16) (.c v103)) st ⟨fun v174 st =>
 @stp P (.fld 2 (.c v174)) st ⟨fun v175 st =>
 @stp P (.st 1 (.c v175) (.c v173)) st ⟨fun _v st =>
 ∃ j, j < k3 ∧ GhostV [v2, v16, v17] st (app (I3 j))⟩⟩⟩⟩⟩⟩
 ⟨
 @stpD P (.fld 4 (.c v20)) st ⟨fun v117 st =>
 @stpD P (.ld none (.c v117)) st ⟨fun v118 st =>
 @stpD P (.fld 5 (.c v20)) st ⟨fun v119 st =>
 @stpD P (.ld none (.c v119)) st ⟨fun v120 st =>
 @stpD P (.fld 6 (.c v20)) st ⟨fun v121 st =>
 @stpD P (.ld none (.c v121)) st ⟨fun v122 st =>
 @stpD P (.fld 3 (.c v20)) st ⟨fun v124 st =>
 @stpD P (.ld none (.c v124)) st ⟨fun v125 st =>
 @stpD P (.fld 1 (.c v22)) st ⟨fun v126 st =>
 @stpD P (.call (.c (.fn (.func n_slices_Clone_byte_byte) [] [])) [(.c v122)]) st ⟨fun v123 st =>
 hwat P none (.fld 1 (.c v22)) st v126 ∧ (
 hwat P none (.ld none (.c v124)) st v125 ∧ (
 hwat P none (.fld 3 (.c v20)) st v124 ∧ (
 hwat P none (.ld none (.c v119)) st v120 ∧ (
 hwat P none (.fld 5 (.c v20)) st v119 ∧ (
 hwat P none (.ld none (.c v117)) st v118 ∧ (
 hwat P none (.fld 4 (.c v20)) st v117 ∧ (
 @stpD P (.st 1 (.c v126) (.c (.int .i64 2))) st ⟨fun _v st =>
 hwat P none (.ld none (.c v124)) st v125 ∧ (
 hwat P none (.fld 3 (.c v20)) st v124 ∧ (
 hwat P none (.ld none (.c v119)) st v120 ∧ (
 hwat P none (.fld 5 (.c v20)) st v119 ∧ (
 hwat P none (.ld none (.c v117)) st v118 ∧ (
 hwat P none (.fld 4 (.c v20)) st v117 ∧ (
 @stpD P (.fld 4 (.c v22)) st ⟨fun v127 st =>
 @stpD P (.st 1 (.c v127) (.c v118)) st ⟨fun _v st =>
 hwat P none (.ld none (.c v124)) st v125 ∧ (
 hwat P none (.fld 3 (.c v20)) st v124 ∧ (
 hwat P none (.ld none (.c v119)) st v120 ∧ (
 hwat P none (.fld 5 (.c v20)) st v119 ∧ (
 @stpD P (.fld 5 (.c v22)) st ⟨fun v128 st =>
 @stpD P (.st 1 (.c v128) (.c v120)) st ⟨fun _v st =>
 hwat P none (.ld none (.c v124)) st v125 ∧ (
 hwat P none (.fld 3 (.c v20)) st v124 ∧ (
 @stpD P (.fld 7 (.c v22)) st ⟨fun v129 st =>
 @stpD P (.st 1 (.c v129) (.c v123)) st ⟨fun _v st =>
 hwat P none (.ld none (.c v124)) st v125 ∧ (
 hwat P none (.fld 3 (.c v20)) st v124 ∧ (
 @stpD P (.fld 8 (.c v22)) st ⟨fun v130 st =>
 @stpD P (.st 1 (.c v130) (.c v125)) st ⟨fun _v st =>
 @stpD P (.fld 3 (.c v20)) st ⟨fun v136 st =>
 @stpD P (.ld none (.c v136)) st ⟨fun v137 st =>
 @stpD P (.idx 3 (.c v16) (.c v103)) st ⟨fun v138 st =>
 @stpD P (.fld 1 (.c v138)) st ⟨fun v139 st =>
 @stpD P (.st 1 (.c v139) (.c v2)) st ⟨fun _v st =>
 hwat P none (.ld none (.c v136)) st v137 ∧ (
 hwat P none (.fld 3 (.c v20)) st v136 ∧ (
 hwat P none (.mov (.c v103)) st v103 ∧ (
 hwat P none (.mov (.c v16)) st v16 ∧ (
 @stpD P (.idx 3 (.c v16) (.c v103)) st ⟨fun v140 st =>
 @stpD P (.fld 2 (.c v140)) st ⟨fun v141 st =>
 @stpD P (.st 1 (.c v141) (.c v137)) st ⟨fun _v st =>
 GhostV [v16] st (app J4)⟩⟩⟩))))⟩⟩⟩⟩⟩⟩⟩))⟩⟩))⟩⟩))))⟩⟩))))))⟩)))))))⟩⟩⟩⟩⟩⟩⟩⟩⟩⟩⟩⟩⟩⟩⟩⟩⟩⟩⟩⟩⟩⟩⟩⟩⟩⟩⟩⟩⟩⟩) ∧
 ∀ v16_1 st, app J4 [v16_1] st →
 @stp P (.len .sl (.c v17)) st ⟨fun v177 st =>
 @stp P (.bin .eql (.c v177) (.c (.int .i64 64))) st ⟨fun v178 st =>
 @gst P v178 false (.mov (.c v2)) st ⟨fun v180 st =>
 @gst P v178 false (.bin .eql (.c v180) (.c (.int .u64 0))) st ⟨fun v181 st =>
 @stp P (.pick (.c v178) (.c (.bool true)) (.c v181)) st ⟨fun v182 st =>
 @cnd v182 ⟨
 GhostV [(.sl .nil 0 [] []), (.int .i64 3)] st fun vs st => K (mkres vs) st⟩
 ⟨
 @stp P (.ld (some 9) (.c v22)) st ⟨fun v184 st =>
 @stp P (.mkSl 9 1 [(.int .u64 0), (.int .i64 0), (.int .u64 0), (.int .u64 0), (.int .i64 0), (.int .i64 0), (.sl .nil 0 [] []), (.sl .nil 0 [] []), (.int .u64 0)] [(0, (.c v184))]) st ⟨fun v185 st =>
 @stp P (.append 9 104 (.c v17) (.c v185)) st ⟨fun v186 st =>
 @stp P (.bin .add (.c v2) (.c (.int .u64 1))) st ⟨fun v188 st =>
 ∃ j, j < k3 ∧ GhostV [v188, v16_1, v186] st (app (I3 j))⟩⟩⟩⟩⟩⟩⟩⟩⟩⟩⟩⟩⟩⟩⟩⟩⟩⟩⟩⟩⟩⟩⟩⟩⟩⟩⟩⟩⟩⟩⟩
 ⟨
 GhostV [v17, (.int .i64 0)] st fun vs st => K (mkres vs) st⟩⟩⟩⟩⟩⟩⟩⟩⟩⟩⟩⟩⟩⟩⟩⟩⟩⟩⟩⟩⟩⟩⟩⟩⟩
 ⟨
 GhostV [(.sl .nil 0 [] []), (.int .i64 0)] st fun vs st => K (mkres vs) st⟩
theorem q_redo_Undo {P : Program} {a0 a1 a2 : V} {st : St} {K : V → St → Prop} : F_redo_Undo P a0 a1 a2 st K = hwp P c_redo_Undo (hretQ [.tmp 6, .tmp 7] K) (enterFr [a0, a1, a2]) st := by kernel_rfl
abbrev R_redo_Undo (P : Program) : Prop := resFnH P n_redo_Undo = some (190, c_redo_Undo.er, [.tmp 6, .tmp 7])
theorem A_redo_Undo {P : Program} (h : R_redo_Undo P) {a0 a1 a2 : V} {st : St} {K : V → St → Prop} (hF : F_redo_Undo P a0 a1 a2 st K) : ACalls P n_redo_Undo [a0, a1, a2] st K :=
  ACalls_h h rfl (by simp) (q_redo_Undo ▸ hF)

def c_redo_again : ACode := (.seq (.reg [⟨(some 4), none, (.mov (.c (.sl .nil 0 [] [])))⟩]) (.seq (.reg [⟨(some 14), none, (.mov (.s 0))⟩, ⟨(some 15), none, (.call (.c (.fn (.func n_slices_Clone_Page_Page) [] [])) [(.s 14)])⟩, ⟨(some 5), none, (.mov (.s 15))⟩]) (.seq (.seq (.reg [⟨(some 16), none, (.mov (.s 5))⟩, ⟨(some 17), none, (.len .sl (.s 16))⟩, ⟨(some 18), none, (.mov (.c (.int .i64 0)))⟩]) (.block 0 (.loop [18] [6, 7, 8, 9, 18, 19, 20, 21, 22, 23, 24, 25, 26, 27, 28, 29, 30, 31, 32, 33, 34, 35, 36, 37, 38] (.seq (.reg [⟨(some 19), none, (.bin .lss (.s 18) (.s 17))⟩]) (.seq (.cond (.s 19) .skip (.exit 0)) (.seq (.block 1 (.seq (.reg [⟨(some 20), none, (.mov (.s 18))⟩, ⟨(some 21), none, (.idx 6 (.s 16) (.s 18))⟩, ⟨(some 22), none, (.ld (some 6) (.s 21))⟩, ⟨(some 7), none, (.alloc [(.int .i64 0), (.int .u64 0), (.sl .nil 0 [] []), (.sl .nil 0 [] []), (.sl .nil 0 [] []), (.sl .nil 0 [] [])])⟩, ⟨(some 6), none, (.mov (.s 20))⟩, ⟨none, none, (.st 6 (.s 7) (.s 22))⟩]) (.seq (.reg [⟨(some 23), none, (.fld 2 (.s 7))⟩, ⟨(some 24), none, (.ld (some 4) (.s 23))⟩, ⟨(some 25), none, (.mov (.c (.int .i64 0)))⟩]) (.block 2 (.loop [25] [8, 9, 25, 26, 27, 28, 29, 30, 31, 32, 33, 34, 35, 36, 37] (.seq (.reg [⟨(some 26), none, (.bin .lss (.s 25) (.c (.int .i64 4)))⟩]) (.seq (.cond (.s 26) .skip (.exit 2)) (.seq (.block 3 (.seq (.reg [⟨(some 27), none, (.mov (.s 25))⟩, ⟨(some 28), none, (.idxV 4 1 false (.s 24) (.s 25))⟩, ⟨(some 8), none, (.mov (.s 27))⟩, ⟨(some 9), none, (.mov (.s 28))⟩]) (.regD [⟨(some 29), none, (.mov (.s 5))⟩, ⟨(some 30), none, (.mov (.s 6))⟩, ⟨(some 31), none, (.mov (.s 8))⟩, ⟨(some 32), none, (.mov (.s 9))⟩, ⟨(some 33), none, (.call (.c (.fn (.func n_slices_Clone_byte_byte) [] [])) [(.s 32)])⟩, ⟨(some 34), none, (.idx 6 (.s 29) (.s 30))⟩, ⟨(some 35), none, (.fld 2 (.s 34))⟩, ⟨(some 36), none, (.idxA 4 1 (.s 35) (.s 31))⟩, ⟨none, none, (.st 1 (.s 36) (.s 33))⟩] [(0, (false, [])), (1, (false, [])), (2, (false, [])), (3, (false, [])), (5, (false, [])), (6, (false, [])), (4, (true, [6, 5, 2, 1, 0])), (7, (false, [])), (8, (true, []))]))) (.reg [⟨(some 37), none, (.bin .add (.s 25) (.c (.int .i64 1)))⟩, ⟨(some 25), none, (.mov (.s 37))⟩]))))))))) (.reg [⟨(some 38), none, (.bin .add (.s 18) (.c (.int .i64 1)))⟩, ⟨(some 18), none, (.mov (.s 38))⟩]))))))) (.seq (.seq (.reg [⟨(some 39), none, (.mov (.s 1))⟩, ⟨(some 40), none, (.len .sl (.s 39))⟩, ⟨(some 41), none, (.mov (.c (.int .i64 0)))⟩]) (.block 4 (.loop [41] [11, 12, 13, 41, 42, 43, 44, 45, 46, 47, 48, 49, 50, 51, 52, 53, 54, 55, 56, 57, 58, 59, 60, 61, 62, 63, 64, 65, 66, 67, 68, 69, 70, 71, 72, 73, 74, 75, 76, 77, 78, 79, 80, 81, 82, 83, 84] (.seq (.reg [⟨(some 42), none, (.bin .lss (.s 41) (.s 40))⟩]) (.seq (.cond (.s 42) .skip (.exit 4)) (.seq (.block 5 (.seq (.reg [⟨(some 43), none, (.idx 9 (.s 39) (.s 41))⟩, ⟨(some 44), none, (.ld (some 9) (.s 43))⟩, ⟨(some 11), none, (.alloc [(.int .u64 0), (.int .i64 0), (.int .u64 0), (.int .u64 0), (.int .i64 0), (.int .i64 0), (.sl .nil 0 [] []), (.sl .nil 0 [] []), (.int .u64 0)])⟩, ⟨none, none, (.st 9 (.s 11) (.s 44))⟩]) (.seq (.reg [⟨(some 46), none, (.mov (.s 5))⟩, ⟨(some 47), none, (.fld 4 (.s 11))⟩, ⟨(some 48), none, (.ld none (.s 47))⟩, ⟨(some 49), none, (.call (.c (.fn (.func n_slices_BinarySearchFunc_Page_Page_int) [] [])) [(.s 46), (.s 48), (.c (.fn (.func n_redo_again_1) [] []))])⟩, ⟨(some 45), none, (.mov (.s 49))⟩, ⟨(some 50), none, (.ext 0 (.s 45))⟩, ⟨(some 51), none, (.ext 1 (.s 45))⟩, ⟨(some 12), none, (.mov (.s 50))⟩, ⟨(some 13), none, (.mov (.s 51))⟩]) (.seq (.regD [⟨(some 52), none, (.mov (.s 13))⟩, ⟨(some 53), none, (.mov (.s 52))⟩, ⟨(some 54), (some (53, true)), (.ld (some 9) (.s 11))⟩, ⟨(some 55), (some (53, true)), (.call (.c (.fn (.func n_redo_changes) [] [])) [(.s 54)])⟩, ⟨(some 56), none, (.pick (.s 53) (.s 55) (.c (.bool false)))⟩, ⟨(some 57), none, (.mov (.s 56))⟩, ⟨(some 58), (some (57, true)), (.mov (.s 5))⟩, ⟨(some 59), (some (57, true)), (.mov (.s 12))⟩, ⟨(some 60), (some (57, true)), (.idx 6 (.s 58) (.s 59))⟩, ⟨(some 61), (some (57, true)), (.fld 1 (.s 60))⟩, ⟨(some 62), (some (57, true)), (.ld none (.s 61))⟩, ⟨(some 63), (some (57, true)), (.fld 0 (.s 11))⟩, ⟨(some 64), (some (57, true)), (.ld none (.s 63))⟩, ⟨(some 65), (some (57, true)), (.bin .lss (.s 62) (.s 64))⟩, ⟨(some 66), none, (.pick (.s 57) (.s 65) (.c (.bool false)))⟩] [(0, (false, [])), (1, (false, [])), (2, (false, [])), (3, (true, [])), (4, (false, [])), (5, (false, [])), (6, (false, [])), (7, (false, [])), (8, (false, [])), (9, (false, [])), (10, (false, [])), (11, (false, [])), (12, (false, [])), (13, (false, [])), (14, (false, []))]) (.cond (.s 66) (.regD [⟨(some 68), none, (.mov (.s 5))⟩, ⟨(some 69), none, (.mov (.s 12))⟩, ⟨(some 70), none, (.mov (.s 5))⟩, ⟨(some 71), none, (.mov (.s 12))⟩, ⟨(some 72), none, (.idx 6 (.s 70) (.s 71))⟩, ⟨(some 73), none, (.ld (some 6) (.s 72))⟩, ⟨(some 74), none, (.fld 5 (.s 11))⟩, ⟨(some 75), none, (.ld none (.s 74))⟩, ⟨(some 76), none, (.fld 7 (.s 11))⟩, ⟨(some 77), none, (.ld none (.s 76))⟩, ⟨(some 78), none, (.fld 0 (.s 11))⟩, ⟨(some 79), none, (.ld none (.s 78))⟩, ⟨(some 80), none, (.call (.c (.fn (.func n_page_Set) [] [])) [(.s 73), (.s 75), (.s 77), (.s 79)])⟩, ⟨(some 67), none, (.mov (.s 80))⟩, ⟨(some 81), none, (.ext 0 (.s 67))⟩, ⟨(some 82), none, (.ext 1 (.s 67))⟩, ⟨(some 83), none, (.idx 6 (.s 68) (.s 69))⟩, ⟨none, none, (.st 6 (.s 83) (.s 81))⟩] [(0, (false, [])), (1, (false, [])), (2, (false, [])), (3, (false, [])), (4, (false, [])), (5, (false, [])), (6, (false, [])), (7, (false, [])), (8, (false, [])), (9, (false, [])), (10, (false, [])), (11, (false, [])), (12, (true, [1, 0])), (13, (false, [])), (14, (false, [])), (15, (false, [])), (16, (false, [])), (17, (true, [15]))]) .skip))))) (.reg [⟨(some 84), none, (.bin .add (.s 41) (.c (.int .i64 1)))⟩, ⟨(some 41), none, (.mov (.s 84))⟩]))))))) (.seq (.reg [⟨(some 85), none, (.mov (.s 5))⟩, ⟨(some 4), none, (.mov (.s 85))⟩]) .ret)))))
def F_redo_again (P : Program) (a0 a1 : V) (st : St) (K : V → St → Prop) : Prop :=
 @stp P (.call (.c (.fn (.func n_slices_Clone_Page_Page) [] [])) [(.c a0)]) st ⟨fun v15 st =>
 @stp P (.len .sl (.c v15)) st ⟨fun v17 st =>
 @Hold ⟨∃ I1 : Nat → Rel 1, (∃ k, GhostV [(.int .i64 0)] st (app (I1 k))) ∧ ∀ k1 v18, ∀ st, app (I1 k1) [v18] st →
 @stp P (.bin .lss (.c v18) (.c v17)) st ⟨fun v19 st =>
 @cnd v19 ⟨
 @stp P (.idx 6 (.c v15) (.c v18)) st ⟨fun v21 st =>
 @stp P (.ld (some 6) (.c v21)) st ⟨fun v22 st =>
 @stp P (.alloc [(.int .i64 0), (.int .u64 0), (.sl .nil 0 [] []), (.sl .nil 0 [] []), (.sl .nil 0 [] []), (.sl .nil 0 [] [])]) st ⟨fun v7 st =>
 @stp P (.st 6 (.c v7) (.c v22)) st ⟨fun _v st =>
 @stp P (.fld 2 (.c v7)) st ⟨fun v23 st =>
 @stp P (.ld (some 4) (.c v23)) st ⟨fun v24 st =>
 @Hold ⟨∃ I2 : Nat → Rel 1, (∃ k, GhostV [(.int .i64 0)] st (app (I2 k))) ∧ ∀ k2 v25, ∀ st, app (I2 k2) [v25] st →
 @stp P (.bin .lss (.c v25) (.c (.int .i64 4))) st ⟨fun v26 st =>
 @cnd v26 ⟨
 @stp P (.idxV 4 1 false (.c v24) (.c v25)) st ⟨fun v28 st =>
 @stpD P (.idx 6 (.c v15) (.c v18)) st ⟨fun v34 st =>
 @stpD P (.fld 2 (.c v34)) st ⟨fun v35 st =>
 @stpD P (.call (.c (.fn (.func n_slices_Clone_byte_byte) [] [])) [(.c v28)]) st ⟨fun v33 st =>
 hwat P none (.fld 2 (.c v34)) st v35 ∧ (
 hwat P none (.idx 6 (.c v15) (.c v18)) st v34 ∧ (
 hwat P none (.mov (.c v25)) st v25 ∧ (
 hwat P none (.mov (.c v18)) st v18 ∧ (
 hwat P none (.mov (.c v15)) st v15 ∧ (
 @stpD P (.idxA 4 1 (.c v35) (.c v25)) st ⟨fun v36 st =>
 @stpD P (.st 1 (.c v36) (.c v33)) st ⟨fun _v st =>
 @stp P (.bin .add (.c v25) (.c (.int .i64 1))) st ⟨fun v37 st =>
 ∃ j, j < k2 ∧ GhostV [v37] st (app (I2 j))⟩⟩⟩)))))⟩⟩⟩⟩⟩
 ⟨
 @stp P (.bin .add (.c v18) (.c (.int .i64 1))) st ⟨fun v38 st =>
 ∃ j, j < k1 ∧ GhostV [v38] st (app (I1 j))⟩⟩⟩⟩⟩⟩⟩⟩⟩⟩⟩
 ⟨
 @stp P (.len .sl (.c a1)) st ⟨fun v40 st =>
 @Hold ⟨∃ I3 : Nat → Rel 1, (∃ k, GhostV [(.int .i64 0)] st (app (I3 k))) ∧ ∀ k3 v41, ∀ st, app (I3 k3) [v41] st →
 @stp P (.bin .lss (.c v41) (.c v40)) st ⟨fun v42 st =>
 @cnd v42 ⟨
 @stp P (.idx 9 (.c a1) (.c v41)) st ⟨fun v43 st =>
 @stp P (.ld (some 9) (.c v43)) st ⟨fun v44 st =>
 @stp P (.alloc [(.int .u64 0), (.int .i64 0), (.int .u64 0), (.int .u64 0), (.int .i64 0), (.int .i64 0), (.sl .nil 0 [] []), (.sl .nil 0 [] []), (.int .u64 0)]) st ⟨fun v11 st =>
 @stp P (.st 9 (.c v11) (.c v44)) st ⟨fun _v st =>
 @stp P (.fld 4 (.c v11)) st ⟨fun v47 st =>
 @stp P (.ld none (.c v47)) st ⟨fun v48 st =>
 @stp P (.call (.c (.fn (.func n_slices_BinarySearchFunc_Page_Page_int) [] [])) [(.c v15), (.c v48), (.c (.fn (.func n_redo_again_1) [] []))]) st ⟨fun v49 st =>
 @stp P (.ext 0 (.c v49)) st ⟨fun v50 st =>
 @stp P (.ext 1 (.c v49)) st ⟨fun v51 st =>
 @gstD P v51 true (.ld (some 9) (.c v11)) st ⟨fun v54 st =>
 @gstD P v51 true (.call (.c (.fn (.func n_redo_changes) [] [])) [(.c v54)]) st ⟨fun v55 st =>
 @stpD P (.pick (.c v51) (.c v55) (.c (.bool false))) st ⟨fun v56 st =>
 @gstD P v56 true (.mov (.c v15)) st ⟨fun v58 st =>
 @gstD P v56 true (.mov (.c v50)) st ⟨fun v59 st =>
 @gstD P v56 true (.idx 6 (.c v58) (.c v59)) st ⟨fun v60 st =>
 @gstD P v56 true (.fld 1 (.c v60)) st ⟨fun v61 st =>
 @gstD P v56 true (.ld none (.c v61)) st ⟨fun v62 st =>
 @gstD P v56 true (.fld 0 (.c v11)) st ⟨fun v63 st =>
 @gstD P v56 true (.ld none (.c v63)) st ⟨fun v64 st =>
 @gstD P v56 true (.bin .lss (.c v62) (.c v64)) st ⟨fun v65 st =>
 @stpD P (.pick (.c v56) (.c v65) (.c (.bool false))) st ⟨fun v66 st =>
 @cnd v66 ⟨
 @stpD P (.idx 6 (.c v15) (.c v50)) st ⟨fun v72 st =>
 @stpD P (.ld (some 6) (.c v72)) st ⟨fun v73 st =>
 @stpD P (.fld 5 (.c v11)) st ⟨fun v74 st =>
 @stpD P (.ld none (.c v74)) st ⟨fun v75 st =>
 @stpD P (.fld 7 (.c v11)) st ⟨fun v76 st =>
 @stpD P (.ld none (.c v76)) st ⟨fun v77 st =>
 @stpD P (.fld 0 (.c v11)) st ⟨fun v78 st =>
 @stpD P (.ld none (.c v78)) st ⟨fun v79 st =>
 @stpD P (.call (.c (.fn (.func n_page_Set) [] [])) [(.c v73), (.c v75), (.c v77), (.c v79)]) st ⟨fun v80 st =>
 hwat P none (.mov (.c v50)) st v50 ∧ (
 hwat P none (.mov (.c v15)) st v15 ∧ (
 @stpD P (.ext 0 (.c v80)) st ⟨fun v81 st =>
 @stpD P (.ext 1 (.c v80)) st ⟨fun v82 st =>
 @stpD P (.idx 6 (.c v15) (.c v50)) st ⟨fun v83 st =>
 @stpD P (.st 6 (.c v83) (.c v81)) st ⟨fun _v st =>
 hwat P none (.ext 1 (.c v80)) st v82 ∧ (
 @stp P (.bin .add (.c v41) (.c (.int .i64 1))) st ⟨fun v84 st =>
 ∃ j, j < k3 ∧ GhostV [v84] st (app (I3 j))⟩)⟩⟩⟩⟩))⟩⟩⟩⟩⟩⟩⟩⟩⟩⟩
 ⟨
 @stp P (.bin .add (.c v41) (.c (.int .i64 1))) st ⟨fun v84 st =>
 ∃ j, j < k3 ∧ GhostV [v84] st (app (I3 j))⟩⟩⟩⟩⟩⟩⟩⟩⟩⟩⟩⟩⟩⟩⟩⟩⟩⟩⟩⟩⟩⟩⟩⟩
 ⟨
 GhostV [v15] st fun vs st => K (mkres vs) st⟩⟩⟩⟩⟩⟩⟩⟩⟩
theorem q_redo_again {P : Program} {a0 a1 : V} {st : St} {K : V → St → Prop} : F_redo_again P a0 a1 st K = hwp P c_redo_again (hretQ [.tmp 4] K) (enterFr [a0, a1]) st := by kernel_rfl
abbrev R_redo_again (P : Program) : Prop := resFnH P n_redo_again = some (86, c_redo_again.er, [.tmp 4])
theorem A_redo_again {P : Program} (h : R_redo_again P) {a0 a1 : V} {st : St} {K : V → St → Prop} (hF : F_redo_again P a0 a1 st K) : ACalls P n_redo_again [a0, a1] st K :=
  ACalls_h h rfl (by simp) (q_redo_again ▸ hF)

def c_redo_changes : ACode := (.seq (.reg [⟨(some 1), none, (.box (.s 0))⟩, ⟨(some 2), none, (.mov (.c (.bool false)))⟩]) (.seq (.seq (.reg [⟨(some 3), none, (.fld 1 (.s 1))⟩, ⟨(some 4), none, (.ld none (.s 3))⟩]) (.block 0 (.seq (.seq (.reg [⟨(some 6), none, (.bin .eql (.s 4) (.c (.int .i64 1)))⟩, ⟨(some 5), none, (.mov (.s 6))⟩]) (.cond (.s 5) .skip (.reg [⟨(some 7), none, (.bin .eql (.s 4) (.c (.int .i64 2)))⟩, ⟨(some 5), none, (.mov (.s 7))⟩]))) (.cond (.s 5) (.seq (.reg [⟨(some 2), none, (.mov (.c (.bool true)))⟩]) .ret) .skip)))) (.seq (.reg [⟨(some 2), none, (.mov (.c (.bool false)))⟩]) .ret)))
def F_redo_changes (P : Program) (a0 : V) (st : St) (K : V → St → Prop) : Prop :=
 @stp P (.box (.c a0)) st ⟨fun v1 st =>
 @stp P (.fld 1 (.c v1)) st ⟨fun v3 st =>
 @stp P (.ld none (.c v3)) st ⟨fun v4 st =>
 @stp P (.bin .eql (.c v4) (.c (.int .i64 1))) st ⟨fun v6 st =>
 @cnd v6 ⟨
 @cnd v6 ⟨
 GhostV [(.bool true)] st fun vs st => K (mkres vs) st⟩
 ⟨
 GhostV [(.bool false)] st fun vs st => K (mkres vs) st⟩⟩
 ⟨
 @stp P (.bin .eql (.c v4) (.c (.int .i64 2))) st ⟨fun v7 st =>
 @cnd v7 ⟨
 GhostV [(.bool true)] st fun vs st => K (mkres vs) st⟩
 ⟨
 GhostV [(.bool false)] st fun vs st => K (mkres vs) st⟩⟩⟩⟩⟩⟩⟩
theorem q_redo_changes {P : Program} {a0 : V} {st : St} {K : V → St → Prop} : F_redo_changes P a0 st K = hwp P c_redo_changes (hretQ [.tmp 2] K) (enterFr [a0]) st := by kernel_rfl
abbrev R_redo_changes (P : Program) : Prop := resFnH P n_redo_changes = some (8, c_redo_changes.er, [.tmp 2])
theorem A_redo_changes {P : Program} (h : R_redo_changes P) {a0 : V} {st : St} {K : V → St → Prop} (hF : F_redo_changes P a0 st K) : ACalls P n_redo_changes [a0] st K :=
  ACalls_h h rfl (by simp) (q_redo_changes ▸ hF)

def c_page_Check : ACode := (.seq (.reg [⟨(some 1), none, (.box (.s 0))⟩, ⟨(some 2), none, (.mov (.c (.int .i64 0)))⟩]) (.seq (.reg [⟨(some 3), none, (.mov (.c (.fn (.func n_page_Check_1) [] [])))⟩]) (.seq (.seq (.reg [⟨(some 4), none, (.fld 0 (.s 1))⟩, ⟨(some 5), none, (.ld none (.s 4))⟩, ⟨(some 6), none, (.call (.c (.fn (.func n_page_numbered) [] [])) [(.s 5)])⟩, ⟨(some 7), none, (.un .not (.s 6))⟩, ⟨(some 8), none, (.mov (.s 7))⟩, ⟨(some 9), (some (8, false)), (.fld 2 (.s 1))⟩, ⟨(some 10), (some (8, false)), (.sliceA 4 1 (.s 9))⟩, ⟨(some 11), (some (8, false)), (.mov (.s 3))⟩, ⟨(some 12), (some (8, false)), (.call (.c (.fn (.func n_slices_ContainsFunc_Lbyte_Lbyte) [] [])) [(.s 10), (.s 11)])⟩, ⟨(some 13), none, (.pick (.s 8) (.c (.bool true)) (.s 12))⟩]) (.cond (.s 13) (.seq (.reg [⟨(some 2), none, (.mov (.c (.int .i64 160)))⟩]) .ret) .skip)) (.seq (.reg [⟨(some 2), none, (.mov (.c (.int .i64 0)))⟩]) .ret))))
def F_page_Check (P : Program) (a0 : V) (st : St) (K : V → St → Prop) : Prop :=
 @stp P (.box (.c a0)) st ⟨fun v1 st =>
 @stp P (.fld 0 (.c v1)) st ⟨fun v4 st =>
 @stp P (.ld none (.c v4)) st ⟨fun v5 st =>
 @stp P (.call (.c (.fn (.func n_page_numbered) [] [])) [(.c v5)]) st ⟨fun v6 st =>
 @stp P (.un .not (.c v6)) st ⟨fun v7 st =>
 @gst P v7 false (.fld 2 (.c v1)) st ⟨fun v9 st =>
 @gst P v7 false (.sliceA 4 1 (.c v9)) st ⟨fun v10 st =>
 @gst P v7 false (.mov (.c (.fn (.func n_page_Check_1) [] []))) st ⟨fun v11 st =>
 @gst P v7 false (.call (.c (.fn (.func n_slices_ContainsFunc_Lbyte_Lbyte) [] [])) [(.c v10), (.c v11)]) st ⟨fun v12 st =>
 @stp P (.pick (.c v7) (.c (.bool true)) (.c v12)) st ⟨fun v13 st =>
 @cnd v13 ⟨
 GhostV [(.int .i64 160)] st fun vs st => K (mkres vs) st⟩
 ⟨
 GhostV [(.int .i64 0)] st fun vs st => K (mkres vs) st⟩⟩⟩⟩⟩⟩⟩⟩⟩⟩⟩
theorem q_page_Check {P : Program} {a0 : V} {st : St} {K : V → St → Prop} : F_page_Check P a0 st K = hwp P c_page_Check (hretQ [.tmp 2] K) (enterFr [a0]) st := by kernel_rfl
abbrev R_page_Check (P : Program) : Prop := resFnH P n_page_Check = some (14, c_page_Check.er, [.tmp 2])
theorem A_page_Check {P : Program} (h : R_page_Check P) {a0 : V} {st : St} {K : V → St → Prop} (hF : F_page_Check P a0 st K) : ACalls P n_page_Check [a0] st K :=
  ACalls_h h rfl (by simp) (q_page_Check ▸ hF)

def c_redo_end : ACode := (.seq (.reg [⟨(some 2), none, (.mov (.c (.int .u64 0)))⟩]) (.seq (.seq (.reg [⟨(some 3), none, (.mov (.s 0))⟩, ⟨(some 4), none, (.len .sl (.s 3))⟩, ⟨(some 5), none, (.bin .eql (.s 4) (.c (.int .i64 0)))⟩]) (.cond (.s 5) (.seq (.reg [⟨(some 2), none, (.mov (.c (.int .u64 0)))⟩]) .ret) .skip)) (.seq (.reg [⟨(some 6), none, (.mov (.s 0))⟩, ⟨(some 7), none, (.mov (.s 0))⟩, ⟨(some 8), none, (.len .sl (.s 7))⟩, ⟨(some 9), none, (.bin .sub (.s 8) (.c (.int .i64 1)))⟩, ⟨(some 10), none, (.idx 9 (.s 6) (.s 9))⟩, ⟨(some 11), none, (.fld 0 (.s 10))⟩, ⟨(some 12), none, (.ld none (.s 11))⟩, ⟨(some 2), none, (.mov (.s 12))⟩]) .ret)))
def F_redo_end (P : Program) (a0 : V) (st : St) (K : V → St → Prop) : Prop :=
 @stp P (.len .sl (.c a0)) st ⟨fun v4 st =>
 @stp P (.bin .eql (.c v4) (.c (.int .i64 0))) st ⟨fun v5 st =>
 @cnd v5 ⟨
 GhostV [(.int .u64 0)] st fun vs st => K (mkres vs) st⟩
 ⟨
 @stp P (.len .sl (.c a0)) st ⟨fun v8 st =>
 @stp P (.bin .sub (.c v8) (.c (.int .i64 1))) st ⟨fun v9 st =>
 @stp P (.idx 9 (.c a0) (.c v9)) st ⟨fun v10 st =>
 @stp P (.fld 0 (.c v10)) st ⟨fun v11 st =>
 @stp P (.ld none (.c v11)) st ⟨fun v12 st =>
 GhostV [v12] st fun vs st => K (mkres vs) st⟩⟩⟩⟩⟩⟩⟩⟩
theorem q_redo_end {P : Program} {a0 : V} {st : St} {K : V → St → Prop} : F_redo_end P a0 st K = hwp P c_redo_end (hretQ [.tmp 2] K) (enterFr [a0]) st := by kernel_rfl
abbrev R_redo_end (P : Program) : Prop := resFnH P n_redo_end = some (13, c_redo_end.er, [.tmp 2])
theorem A_redo_end {P : Program} (h : R_redo_end P) {a0 : V} {st : St} {K : V → St → Prop} (hF : F_redo_end P a0 st K) : ACalls P n_redo_end [a0] st K :=
  ACalls_h h rfl (by simp) (q_redo_end ▸ hF)

def c_redo_rising_uint64_Open : ACode := (.seq (.reg [⟨(some 2), none, (.mov (.c (.sl .nil 0 [] [])))⟩]) (.seq (.reg [⟨(some 3), none, (.mov (.s 0))⟩, ⟨(some 4), none, (.call (.c (.fn (.func n_maps_Keys_map_uint64_Open_uint64_Open) [] [])) [(.s 3)])⟩, ⟨(some 5), none, (.call (.c (.fn (.func n_slices_Sorted_uint64) [] [])) [(.s 4)])⟩, ⟨(some 2), none, (.mov (.s 5))⟩]) .ret))
def F_redo_rising_uint64_Open (P : Program) (a0 : V) (st : St) (K : V → St → Prop) : Prop :=
 @stp P (.call (.c (.fn (.func n_maps_Keys_map_uint64_Open_uint64_Open) [] [])) [(.c a0)]) st ⟨fun v4 st =>
 @stp P (.call (.c (.fn (.func n_slices_Sorted_uint64) [] [])) [(.c v4)]) st ⟨fun v5 st =>
 GhostV [v5] st fun vs st => K (mkres vs) st⟩⟩
theorem q_redo_rising_uint64_Open {P : Program} {a0 : V} {st : St} {K : V → St → Prop} : F_redo_rising_uint64_Open P a0 st K = hwp P c_redo_rising_uint64_Open (hretQ [.tmp 2] K) (enterFr [a0]) st := by kernel_rfl
abbrev R_redo_rising_uint64_Open (P : Program) : Prop := resFnH P n_redo_rising_uint64_Open = some (6, c_redo_rising_uint64_Open.er, [.tmp 2])
theorem A_redo_rising_uint64_Open {P : Program} (h : R_redo_rising_uint64_Open P) {a0 : V} {st : St} {K : V → St → Prop} (hF : F_redo_rising_uint64_Open P a0 st K) : ACalls P n_redo_rising_uint64_Open [a0] st K :=
  ACalls_h h rfl (by simp) (q_redo_rising_uint64_Open ▸ hF)

def c_redo_rising_uint64_bool : ACode := (.seq (.reg [⟨(some 2), none, (.mov (.c (.sl .nil 0 [] [])))⟩]) (.seq (.reg [⟨(some 3), none, (.mov (.s 0))⟩, ⟨(some 4), none, (.call (.c (.fn (.func n_maps_Keys_map_uint64_bool_uint64_bool) [] [])) [(.s 3)])⟩, ⟨(some 5), none, (.call (.c (.fn (.func n_slices_Sorted_uint64) [] [])) [(.s 4)])⟩, ⟨(some 2), none, (.mov (.s 5))⟩]) .ret))
def F_redo_rising_uint64_bool (P : Program) (a0 : V) (st : St) (K : V → St → Prop) : Prop :=
 @stp P (.call (.c (.fn (.func n_maps_Keys_map_uint64_bool_uint64_bool) [] [])) [(.c a0)]) st ⟨fun v4 st =>
 @stp P (.call (.c (.fn (.func n_slices_Sorted_uint64) [] [])) [(.c v4)]) st ⟨fun v5 st =>
 GhostV [v5] st fun vs st => K (mkres vs) st⟩⟩
theorem q_redo_rising_uint64_bool {P : Program} {a0 : V} {st : St} {K : V → St → Prop} : F_redo_rising_uint64_bool P a0 st K = hwp P c_redo_rising_uint64_bool (hretQ [.tmp 2] K) (enterFr [a0]) st := by kernel_rfl
abbrev R_redo_rising_uint64_bool (P : Program) : Prop := resFnH P n_redo_rising_uint64_bool = some (6, c_redo_rising_uint64_bool.er, [.tmp 2])
theorem A_redo_rising_uint64_bool {P : Program} (h : R_redo_rising_uint64_bool P) {a0 : V} {st : St} {K : V → St → Prop} (hF : F_redo_rising_uint64_bool P a0 st K) : ACalls P n_redo_rising_uint64_bool [a0] st K :=
  ACalls_h h rfl (by simp) (q_redo_rising_uint64_bool ▸ hF)

def c_record_Check : ACode := (.seq (.reg [⟨(some 1), none, (.box (.s 0))⟩, ⟨(some 2), none, (.mov (.c (.int .i64 0)))⟩]) (.seq (.reg [⟨(some 6), none, (.fld 1 (.s 1))⟩, ⟨(some 7), none, (.ld none (.s 6))⟩, ⟨(some 8), none, (.call (.c (.fn (.func n_record_fields) [] [])) [(.s 7)])⟩, ⟨(some 5), none, (.mov (.s 8))⟩, ⟨(some 9), none, (.ext 0 (.s 5))⟩, ⟨(some 10), none, (.ext 1 (.s 5))⟩, ⟨(some 3), none, (.mov (.s 9))⟩, ⟨(some 4), none, (.mov (.s 10))⟩]) (.seq (.reg [⟨(some 11), none, (.mov (.s 4))⟩, ⟨(some 12), none, (.mov (.s 11))⟩, ⟨(some 13), (some (12, true)), (.fld 0 (.s 1))⟩, ⟨(some 14), (some (12, true)), (.ld none (.s 13))⟩, ⟨(some 15), (some (12, true)), (.bin .gtr (.s 14) (.c (.int .u64 0)))⟩, ⟨(some 16), none, (.pick (.s 12) (.s 15) (.c (.bool false)))⟩, ⟨(some 17), none, (.mov (.s 16))⟩, ⟨(some 18), (some (17, true)), (.fld 2 (.s 1))⟩, ⟨(some 19), (some (17, true)), (.ld none (.s 18))⟩, ⟨(some 20), (some (17, true)), (.bin .gtr (.s 19) (.c (.int .u64 0)))⟩, ⟨(some 21), none, (.pick (.s 17) (.s 20) (.c (.bool false)))⟩, ⟨(some 22), none, (.mov (.s 21))⟩, ⟨(some 23), (some (22, true)), (.fld 3 (.s 1))⟩, ⟨(some 24), (some (22, true)), (.ld none (.s 23))⟩, ⟨(some 25), (some (22, true)), (.fld 0 (.s 1))⟩, ⟨(some 26), (some (22, true)), (.ld none (.s 25))⟩, ⟨(some 27), (some (22, true)), (.bin .lss (.s 24) (.s 26))⟩, ⟨(some 28), none, (.pick (.s 22) (.s 27) (.c (.bool false)))⟩, ⟨(some 4), none, (.mov (.s 28))⟩]) (.seq (.reg [⟨(some 29), none, (.mov (.s 4))⟩, ⟨(some 30), none, (.mov (.s 29))⟩, ⟨(some 31), (some (30, true)), (.fld 4 (.s 1))⟩, ⟨(some 32), (some (30, true)), (.ld none (.s 31))⟩, ⟨(some 33), (some (30, true)), (.bin .geq (.s 32) (.c (.int .i64 0)))⟩, ⟨(some 34), none, (.pick (.s 30) (.s 33) (.c (.bool false)))⟩, ⟨(some 35), none, (.mov (.s 34))⟩, ⟨(some 36), (some (35, true)), (.fld 4 (.s 1))⟩, ⟨(some 37), (some (35, true)), (.ld none (.s 36))⟩, ⟨(some 38), (some (35, true)), (.bin .lss (.s 37) (.c (.int .i64 32)))⟩, ⟨(some 39), none, (.pick (.s 35) (.s 38) (.c (.bool false)))⟩, ⟨(some 40), none, (.mov (.s 39))⟩, ⟨(some 41), (some (40, true)), (.fld 5 (.s 1))⟩, ⟨(some 42), (some (40, true)), (.ld none (.s 41))⟩, ⟨(some 43), (some (40, true)), (.bin .geq (.s 42) (.c (.int .i64 0)))⟩, ⟨(some 44), none, (.pick (.s 40) (.s 43) (.c (.bool false)))⟩, ⟨(some 45), none, (.mov (.s 44))⟩, ⟨(some 46), (some (45, true)), (.fld 5 (.s 1))⟩, ⟨(some 47), (some (45, true)), (.ld none (.s 46))⟩, ⟨(some 48), (some (45, true)), (.bin .lss (.s 47) (.c (.int .i64 4)))⟩, ⟨(some 49), none, (.pick (.s 45) (.s 48) (.c (.bool false)))⟩, ⟨(some 50), none, (.mov (.s 49))⟩, ⟨(some 51), (some (50, true)), (.fld 6 (.s 1))⟩, ⟨(some 52), (some (50, true)), (.ld none (.s 51))⟩, ⟨(some 53), (some (50, true)), (.len .sl (.s 52))⟩, ⟨(some 54), (some (50, true)), (.bin .leq (.s 53) (.c (.int .i64 52)))⟩, ⟨(some 55), none, (.pick (.s 50) (.s 54) (.c (.bool false)))⟩, ⟨(some 56), none, (.mov (.s 55))⟩, ⟨(some 57), (some (56, true)), (.fld 7 (.s 1))⟩, ⟨(some 58), (some (56, true)), (.ld none (.s 57))⟩, ⟨(some 59), (some (56, true)), (.len .sl (.s 58))⟩, ⟨(some 60), (some (56, true)), (.bin .leq (.s 59) (.c (.int .i64 52)))⟩, ⟨(some 61), none, (.pick (.s 56) (.s 60) (.c (.bool false)))⟩, ⟨(some 4), none, (.mov (.s 61))⟩]) (.seq (.reg [⟨(some 62), none, (.mov (.s 4))⟩, ⟨(some 63), none, (.mov (.s 62))⟩, ⟨(some 64), (some (63, true)), (.mov (.s 3))⟩, ⟨(some 65), (some (63, true)), (.call (.c (.fn (.func n_record_field_has) [] [])) [(.s 64), (.c (.int .i64 1))])⟩, ⟨(some 66), (some (63, true)), (.mov (.s 65))⟩, ⟨(some 67), (some (66, false)), (.fld 4 (.s 1))⟩, ⟨(some 68), (some (66, false)), (.ld none (.s 67))⟩, ⟨(some 69), (some (66, false)), (.bin .eql (.s 68) (.c (.int .i64 0)))⟩, ⟨(some 70), (some (66, false)), (.mov (.s 69))⟩, ⟨(some 71), (some (70, true)), (.fld 5 (.s 1))⟩, ⟨(some 72), (some (70, true)), (.ld none (.s 71))⟩, ⟨(some 73), (some (70, true)), (.bin .eql (.s 72) (.c (.int .i64 0)))⟩, ⟨(some 74), (some (66, false)), (.pick (.s 70) (.s 73) (.c (.bool false)))⟩, ⟨(some 75), (some (63, true)), (.pick (.s 66) (.c (.bool true)) (.s 74))⟩, ⟨(some 76), none, (.pick (.s 63) (.s 75) (.c (.bool false)))⟩, ⟨(some 77), none, (.mov (.s 76))⟩, ⟨(some 78), (some (77, true)), (.mov (.s 3))⟩, ⟨(some 79), (some (77, true)), (.call (.c (.fn (.func n_record_field_has) [] [])) [(.s 78), (.c (.int .i64 2))])⟩, ⟨(some 80), (some (77, true)), (.mov (.s 79))⟩, ⟨(some 81), (some (80, false)), (.fld 6 (.s 1))⟩, ⟨(some 82), (some (80, false)), (.ld none (.s 81))⟩, ⟨(some 83), (some (80, false)), (.len .sl (.s 82))⟩, ⟨(some 84), (some (80, false)), (.bin .eql (.s 83) (.c (.int .i64 0)))⟩, ⟨(some 85), (some (77, true)), (.pick (.s 80) (.c (.bool true)) (.s 84))⟩, ⟨(some 86), none, (.pick (.s 77) (.s 85) (.c (.bool false)))⟩, ⟨(some 87), none, (.mov (.s 86))⟩, ⟨(some 88), (some (87, true)), (.mov (.s 3))⟩, ⟨(some 89), (some (87, true)), (.call (.c (.fn (.func n_record_field_has) [] [])) [(.s 88), (.c (.int .i64 4))])⟩, ⟨(some 90), (some (87, true)), (.mov (.s 89))⟩, ⟨(some 91), (some (90, false)), (.fld 7 (.s 1))⟩, ⟨(some 92), (some (90, false)), (.ld none (.s 91))⟩, ⟨(some 93), (some (90, false)), (.len .sl (.s 92))⟩, ⟨(some 94), (some (90, false)), (.bin .eql (.s 93) (.c (.int .i64 0)))⟩, ⟨(some 95), (some (87, true)), (.pick (.s 90) (.c (.bool true)) (.s 94))⟩, ⟨(some 96), none, (.pick (.s 87) (.s 95) (.c (.bool false)))⟩, ⟨(some 4), none, (.mov (.s 96))⟩]) (.seq (.reg [⟨(some 97), none, (.mov (.s 4))⟩, ⟨(some 98), none, (.mov (.s 97))⟩, ⟨(some 99), (some (98, true)), (.mov (.s 3))⟩, ⟨(some 100), (some (98, true)), (.call (.c (.fn (.func n_record_field_has) [] [])) [(.s 99), (.c (.int .i64 8))])⟩, ⟨(some 101), (some (98, true)), (.mov (.s 100))⟩, ⟨(some 102), (some (101, false)), (.fld 8 (.s 1))⟩, ⟨(some 103), (some (101, false)), (.ld none (.s 102))⟩, ⟨(some 104), (some (101, false)), (.bin .eql (.s 103) (.c (.int .u64 0)))⟩, ⟨(some 105), (some (98, true)), (.pick (.s 101) (.c (.bool true)) (.s 104))⟩, ⟨(some 106), none, (.pick (.s 98) (.s 105) (.c (.bool false)))⟩, ⟨(some 107), none, (.mov (.s 106))⟩, ⟨(some 108), (some (107, true)), (.fld 8 (.s 1))⟩, ⟨(some 109), (some (107, true)), (.ld none (.s 108))⟩, ⟨(some 110), (some (107, true)), (.fld 3 (.s 1))⟩, ⟨(some 111), (some (107, true)), (.ld none (.s 110))⟩, ⟨(some 112), (some (107, true)), (.bin .leq (.s 109) (.s 111))⟩, ⟨(some 113), none, (.pick (.s 107) (.s 112) (.c (.bool false)))⟩, ⟨(some 4), none, (.mov (.s 113))⟩]) (.seq (.reg [⟨(some 114), none, (.mov (.s 4))⟩, ⟨(some 115), none, (.mov (.s 114))⟩, ⟨(some 116), (some (115, true)), (.fld 1 (.s 1))⟩, ⟨(some 117), (some (115, true)), (.ld none (.s 116))⟩, ⟨(some 118), (some (115, true)), (.bin .neq (.s 117) (.c (.int .i64 1)))⟩, ⟨(some 119), (some (115, true)), (.mov (.s 118))⟩, ⟨(some 120), (some (119, false)), (.fld 6 (.s 1))⟩, ⟨(some 121), (some (119, false)), (.ld none (.s 120))⟩, ⟨(some 122), (some (119, false)), (.fld 7 (.s 1))⟩, ⟨(some 123), (some (119, false)), (.ld none (.s 122))⟩, ⟨(some 124), (some (119, false)), (.call (.c (.fn (.func n_octet_Equal) [] [])) [(.s 121), (.s 123)])⟩, ⟨(some 125), (some (119, false)), (.un .not (.s 124))⟩, ⟨(some 126), (some (115, true)), (.pick (.s 119) (.c (.bool true)) (.s 125))⟩, ⟨(some 127), none, (.pick (.s 115) (.s 126) (.c (.bool false)))⟩, ⟨(some 4), none, (.mov (.s 127))⟩]) (.seq (.seq (.reg [⟨(some 128), none, (.mov (.s 4))⟩, ⟨(some 129), none, (.un .not (.s 128))⟩]) (.cond (.s 129) (.seq (.reg [⟨(some 2), none, (.mov (.c (.int .i64 150)))⟩]) .ret) .skip)) (.seq (.reg [⟨(some 2), none, (.mov (.c (.int .i64 0)))⟩]) .ret)))))))))
def F_record_Check (P : Program) (a0 : V) (st : St) (K : V → St → Prop) : Prop :=
 @stp P (.box (.c a0)) st ⟨fun v1 st =>
 @stp P (.fld 1 (.c v1)) st ⟨fun v6 st =>
 @stp P (.ld none (.c v6)) st ⟨fun v7 st =>
 @stp P (.call (.c (.fn (.func n_record_fields) [] [])) [(.c v7)]) st ⟨fun v8 st =>
 @stp P (.ext 0 (.c v8)) st ⟨fun v9 st =>
 @stp P (.ext 1 (.c v8)) st ⟨fun v10 st =>
 @gst P v10 true (.fld 0 (.c v1)) st ⟨fun v13 st =>
 @gst P v10 true (.ld none (.c v13)) st ⟨fun v14 st =>
 @gst P v10 true (.bin .gtr (.c v14) (.c (.int .u64 0))) st ⟨fun v15 st =>
 @stp P (.pick (.c v10) (.c v15) (.c (.bool false))) st ⟨fun v16 st =>
 @gst P v16 true (.fld 2 (.c v1)) st ⟨fun v18 st =>
 @gst P v16 true (.ld none (.c v18)) st ⟨fun v19 st =>
 @gst P v16 true (.bin .gtr (.c v19) (.c (.int .u64 0))) st ⟨fun v20 st =>
 @stp P (.pick (.c v16) (.c v20) (.c (.bool false))) st ⟨fun v21 st =>
 @gst P v21 true (.fld 3 (.c v1)) st ⟨fun v23 st =>
 @gst P v21 true (.ld none (.c v23)) st ⟨fun v24 st =>
 @gst P v21 true (.fld 0 (.c v1)) st ⟨fun v25 st =>
 @gst P v21 true (.ld none (.c v25)) st ⟨fun v26 st =>
 @gst P v21 true (.bin .lss (.c v24) (.c v26)) st ⟨fun v27 st =>
 @stp P (.pick (.c v21) (.c v27) (.c (.bool false))) st ⟨fun v28 st =>
 @gst P v28 true (.fld 4 (.c v1)) st ⟨fun v31 st =>
 @gst P v28 true (.ld none (.c v31)) st ⟨fun v32 st =>
 @gst P v28 true (.bin .geq (.c v32) (.c (.int .i64 0))) st ⟨fun v33 st =>
 @stp P (.pick (.c v28) (.c v33) (.c (.bool false))) st ⟨fun v34 st =>
 @gst P v34 true (.fld 4 (.c v1)) st ⟨fun v36 st =>
 @gst P v34 true (.ld none (.c v36)) st ⟨fun v37 st =>
 @gst P v34 true (.bin .lss (.c v37) (.c (.int .i64 32))) st ⟨fun v38 st =>
 @stp P (.pick (.c v34) (.c v38) (.c (.bool false))) st ⟨fun v39 st =>
 @gst P v39 true (.fld 5 (.c v1)) st ⟨fun v41 st =>
 @gst P v39 true (.ld none (.c v41)) st ⟨fun v42 st =>
 @gst P v39 true (.bin .geq (.c v42) (.c (.int .i64 0))) st ⟨fun v43 st =>
 @stp P (.pick (.c v39) (.c v43) (.c (.bool false))) st ⟨fun v44 st =>
 @gst P v44 true (.fld 5 (.c v1)) st ⟨fun v46 st =>
 @gst P v44 true (.ld none (.c v46)) st ⟨fun v47 st =>
 @gst P v44 true (.bin .lss (.c v47) (.c (.int .i64 4))) st ⟨fun v48 st =>
 @stp P (.pick (.c v44) (.c v48) (.c (.bool false))) st ⟨fun v49 st =>
 @gst P v49 true (.fld 6 (.c v1)) st ⟨fun v51 st =>
 @gst P v49 true (.ld none (.c v51)) st ⟨fun v52 st =>
 @gst P v49 true (.len .sl (.c v52)) st ⟨fun v53 st =>
 @gst P v49 true (.bin .leq (.c v53) (.c (.int .i64 52))) st ⟨fun v54 st =>
 @stp P (.pick (.c v49) (.c v54) (.c (.bool false))) st ⟨fun v55 st =>
 @gst P v55 true (.fld 7 (.c v1)) st ⟨fun v57 st =>
 @gst P v55 true (.ld none (.c v57)) st ⟨fun v58 st =>
 @gst P v55 true (.len .sl (.c v58)) st ⟨fun v59 st =>
 @gst P v55 true (.bin .leq (.c v59) (.c (.int .i64 52))) st ⟨fun v60 st =>
 @stp P (.pick (.c v55) (.c v60) (.c (.bool false))) st ⟨fun v61 st =>
 @gst P v61 true (.mov (.c v9)) st ⟨fun v64 st =>
 @gst P v61 true (.call (.c (.fn (.func n_record_field_has) [] [])) [(.c v64), (.c (.int .i64 1))]) st ⟨fun v65 st =>
 @gst P v61 true (.mov (.c v65)) st ⟨fun v66 st =>
 @gst P v66 false (.fld 4 (.c v1)) st ⟨fun v67 st =>
 @gst P v66 false (.ld none (.c v67)) st ⟨fun v68 st =>
 @gst P v66 false (.bin .eql (.c v68) (.c (.int .i64 0))) st ⟨fun v69 st =>
 @gst P v66 false (.mov (.c v69)) st ⟨fun v70 st =>
 @gst P v70 true (.fld 5 (.c v1)) st ⟨fun v71 st =>
 @gst P v70 true (.ld none (.c v71)) st ⟨fun v72 st =>
 @gst P v70 true (.bin .eql (.c v72) (.c (.int .i64 0))) st ⟨fun v73 st =>
 @gst P v66 false (.pick (.c v70) (.c v73) (.c (.bool false))) st ⟨fun v74 st =>
 @gst P v61 true (.pick (.c v66) (.c (.bool true)) (.c v74)) st ⟨fun v75 st =>
 @stp P (.pick (.c v61) (.c v75) (.c (.bool false))) st ⟨fun v76 st =>
 @gst P v76 true (.mov (.c v9)) st ⟨fun v78 st =>
 @gst P v76 true (.call (.c (.fn (.func n_record_field_has) [] [])) [(.c v78), (.c (.int .i64 2))]) st ⟨fun v79 st =>
 @gst P v76 true (.mov (.c v79)) st ⟨fun v80 st =>
 @gst P v80 false (.fld 6 (.c v1)) st ⟨fun v81 st =>
 @gst P v80 false (.ld none (.c v81)) st ⟨fun v82 st =>
 @gst P v80 false (.len .sl (.c v82)) st ⟨fun v83 st =>
 @gst P v80 false (.bin .eql (.c v83) (.c (.int .i64 0))) st ⟨fun v84 st =>
 @gst P v76 true (.pick (.c v80) (.c (.bool true)) (.c v84)) st ⟨fun v85 st =>
 @stp P (.pick (.c v76) (.c v85) (.c (.bool false))) st ⟨fun v86 st =>
 @gst P v86 true (.mov (.c v9)) st ⟨fun v88 st =>
 @gst P v86 true (.call (.c (.fn (.func n_record_field_has) [] [])) [(.c v88), (.c (.int .i64 4))]) st ⟨fun v89 st =>
 @gst P v86 true (.mov (.c v89)) st ⟨fun v90 st =>
 @gst P v90 false (.fld 7 (.c v1)) st ⟨fun v91 st =>
 @gst P v90 false (.ld none (.c v91)) st ⟨fun v92 st =>
 @gst P v90 false (.len .sl (.c v92)) st ⟨fun v93 st =>
 @gst P v90 false (.bin .eql (.c v93) (.c (.int .i64 0))) st ⟨fun v94 st =>
 @gst P v86 true (.pick (.c v90) (.c (.bool true)) (.c v94)) st ⟨fun v95 st =>
 @stp P (.pick (.c v86) (.c v95) (.c (.bool false))) st ⟨fun v96 st =>
 @gst P v96 true (.mov (.c v9)) st ⟨fun v99 st =>
 @gst P v96 true (.call (.c (.fn (.func n_record_field_has) [] [])) [(.c v99), (.c (.int .i64 8))]) st ⟨fun v100 st =>
 @gst P v96 true (.mov (.c v100)) st ⟨fun v101 st =>
 @gst P v101 false (.fld 8 (.c v1)) st ⟨fun v102 st =>
 @gst P v101 false (.ld none (.c v102)) st ⟨fun v103 st =>
 @gst P v101 false (.bin .eql (.c v103) (.c (.int .u64 0))) st ⟨fun v104 st =>
 @gst P v96 true (.pick (.c v101) (.c (.bool true)) (.c v104)) st ⟨fun v105 st =>
 @stp P (.pick (.c v96) (.c v105) (.c (.bool false))) st ⟨fun v106 st =>
 @gst P v106 true (.fld 8 (.c v1)) st ⟨fun v108 st =>
 @gst P v106 true (.ld none (.c v108)) st ⟨fun v109 st =>
 @gst P v106 true (.fld 3 (.c v1)) st ⟨fun v110 st =>
 @gst P v106 true (.ld none (.c v110)) st ⟨fun v111 st =>
 @gst P v106 true (.bin .leq (.c v109) (.c v111)) st ⟨fun v112 st =>
 @stp P (.pick (.c v106) (.c v112) (.c (.bool false))) st ⟨fun v113 st =>
 @gst P v113 true (.fld 1 (.c v1)) st ⟨fun v116 st =>
 @gst P v113 true (.ld none (.c v116)) st ⟨fun v117 st =>
 @gst P v113 true (.bin .neq (.c v117) (.c (.int .i64 1))) st ⟨fun v118 st =>
 @gst P v113 true (.mov (.c v118)) st ⟨fun v119 st =>
 @gst P v119 false (.fld 6 (.c v1)) st ⟨fun v120 st =>
 @gst P v119 false (.ld none (.c v120)) st ⟨fun v121 st =>
 @gst P v119 false (.fld 7 (.c v1)) st ⟨fun v122 st =>
 @gst P v119 false (.ld none (.c v122)) st ⟨fun v123 st =>
 @gst P v119 false (.call (.c (.fn (.func n_octet_Equal) [] [])) [(.c v121), (.c v123)]) st ⟨fun v124 st =>
 @gst P v119 false (.un .not (.c v124)) st ⟨fun v125 st =>
 @gst P v113 true (.pick (.c v119) (.c (.bool true)) (.c v125)) st ⟨fun v126 st =>
 @stp P (.pick (.c v113) (.c v126) (.c (.bool false))) st ⟨fun v127 st =>
 @stp P (.un .not (.c v127)) st ⟨fun v129 st =>
 @cnd v129 ⟨
 GhostV [(.int .i64 150)] st fun vs st => K (mkres vs) st⟩
 ⟨
 GhostV [(.int .i64 0)] st fun vs st => K (mkres vs) st⟩⟩⟩⟩⟩⟩⟩⟩⟩⟩⟩⟩⟩⟩⟩⟩⟩⟩⟩⟩⟩⟩⟩⟩⟩⟩⟩⟩⟩⟩⟩⟩⟩⟩⟩⟩⟩⟩⟩⟩⟩⟩⟩⟩⟩⟩⟩⟩⟩⟩⟩⟩⟩⟩⟩⟩⟩⟩⟩⟩⟩⟩⟩⟩⟩⟩⟩⟩⟩⟩⟩⟩⟩⟩⟩⟩⟩⟩⟩⟩⟩⟩⟩⟩⟩⟩⟩⟩⟩⟩⟩⟩⟩⟩⟩⟩⟩⟩⟩⟩⟩⟩⟩⟩⟩
theorem q_record_Check {P : Program} {a0 : V} {st : St} {K : V → St → Prop} : F_record_Check P a0 st K = hwp P c_record_Check (hretQ [.tmp 2] K) (enterFr [a0]) st := by kernel_rfl
abbrev R_record_Check (P : Program) : Prop := resFnH P n_record_Check = some (130, c_record_Check.er, [.tmp 2])
theorem A_record_Check {P : Program} (h : R_record_Check P) {a0 : V} {st : St} {K : V → St → Prop} (hF : F_record_Check P a0 st K) : ACalls P n_record_Check [a0] st K :=
  ACalls_h h rfl (by simp) (q_record_Check ▸ hF)

def c_record_ahead : ACode := (.seq (.reg [⟨(some 3), none, (.box (.s 0))⟩, ⟨(some 4), none, (.box (.s 1))⟩, ⟨(some 5), none, (.box (.s 2))⟩, ⟨(some 6), none, (.mov (.c .nilf))⟩]) (.seq (.reg [⟨(some 7), none, (.mkfn (.func n_record_ahead_1) [] [(.s 4), (.s 3), (.s 5)])⟩, ⟨(some 6), none, (.mov (.s 7))⟩]) .ret))
def F_record_ahead (P : Program) (a0 a1 a2 : V) (st : St) (K : V → St → Prop) : Prop :=
 @stp P (.box (.c a0)) st ⟨fun v3 st =>
 @stp P (.box (.c a1)) st ⟨fun v4 st =>
 @stp P (.box (.c a2)) st ⟨fun v5 st =>
 @stp P (.mkfn (.func n_record_ahead_1) [] [(.c v4), (.c v3), (.c v5)]) st ⟨fun v7 st =>
 GhostV [v7] st fun vs st => K (mkres vs) st⟩⟩⟩⟩
theorem q_record_ahead {P : Program} {a0 a1 a2 : V} {st : St} {K : V → St → Prop} : F_record_ahead P a0 a1 a2 st K = hwp P c_record_ahead (hretQ [.tmp 6] K) (enterFr [a0, a1, a2]) st := by kernel_rfl
abbrev R_record_ahead (P : Program) : Prop := resFnH P n_record_ahead = some (8, c_record_ahead.er, [.tmp 6])
theorem A_record_ahead {P : Program} (h : R_record_ahead P) {a0 a1 a2 : V} {st : St} {K : V → St → Prop} (hF : F_record_ahead P a0 a1 a2 st K) : ACalls P n_record_ahead [a0, a1, a2] st K :=
  ACalls_h h rfl (by simp) (q_record_ahead ▸ hF)

def c_octet_Equal : ACode := (.seq (.reg [⟨(some 4), none, (.mov (.c (.bool false)))⟩]) (.seq (.reg [⟨(some 5), none, (.mov (.s 0))⟩, ⟨(some 6), none, (.mov (.s 1))⟩, ⟨(some 7), none, (.call (.c (.fn (.func n_slices_Equal_byte_byte) [] [])) [(.s 5), (.s 6)])⟩, ⟨(some 4), none, (.mov (.s 7))⟩]) .ret))
def F_octet_Equal (P : Program) (a0 a1 : V) (st : St) (K : V → St → Prop) : Prop :=
 @stp P (.call (.c (.fn (.func n_slices_Equal_byte_byte) [] [])) [(.c a0), (.c a1)]) st ⟨fun v7 st =>
 GhostV [v7] st fun vs st => K (mkres vs) st⟩
theorem q_octet_Equal {P : Program} {a0 a1 : V} {st : St} {K : V → St → Prop} : F_octet_Equal P a0 a1 st K = hwp P c_octet_Equal (hretQ [.tmp 4] K) (enterFr [a0, a1]) st := by kernel_rfl
abbrev R_octet_Equal (P : Program) : Prop := resFnH P n_octet_Equal = some (8, c_octet_Equal.er, [.tmp 4])
theorem A_octet_Equal {P : Program} (h : R_octet_Equal P) {a0 a1 : V} {st : St} {K : V → St → Prop} (hF : F_octet_Equal P a0 a1 st K) : ACalls P n_octet_Equal [a0, a1] st K :=
  ACalls_h h rfl (by simp) (q_octet_Equal ▸ hF)

def c_page_at : ACode := (.seq (.reg [⟨(some 2), none, (.box (.s 0))⟩, ⟨(some 4), none, (.alloc [(.int .i64 0), (.int .u64 0), (.sl .nil 0 [] []), (.sl .nil 0 [] []), (.sl .nil 0 [] []), (.sl .nil 0 [] [])])⟩, ⟨(some 5), none, (.mov (.c (.int .i64 0)))⟩]) (.seq (.block 0 (.seq (.reg [⟨(some 9), none, (.ld (some 6) (.s 2))⟩, ⟨(some 10), none, (.call (.c (.fn (.func n_page_Check) [] [])) [(.s 9)])⟩, ⟨(some 11), none, (.bin .neq (.s 10) (.c (.int .i64 0)))⟩, ⟨(some 8), none, (.mov (.s 11))⟩]) (.cond (.s 8) (.seq (.reg [⟨(some 12), none, (.build [(.int .i64 0), (.int .u64 0), (.sl .nil 0 [] []), (.sl .nil 0 [] []), (.sl .nil 0 [] []), (.sl .nil 0 [] [])] [])⟩, ⟨none, none, (.st 6 (.s 4) (.s 12))⟩, ⟨(some 5), none, (.mov (.c (.int .i64 160)))⟩]) .ret) (.seq (.reg [⟨(some 14), none, (.mov (.s 1))⟩, ⟨(some 15), none, (.bin .lss (.s 14) (.c (.int .i64 0)))⟩, ⟨(some 16), none, (.mov (.s 15))⟩, ⟨(some 17), (some (16, false)), (.mov (.s 1))⟩, ⟨(some 18), (some (16, false)), (.bin .geq (.s 17) (.c (.int .i64 4)))⟩, ⟨(some 19), none, (.pick (.s 16) (.c (.bool true)) (.s 18))⟩, ⟨(some 13), none, (.mov (.s 19))⟩]) (.cond (.s 13) (.seq (.reg [⟨(some 20), none, (.build [(.int .i64 0), (.int .u64 0), (.sl .nil 0 [] []), (.sl .nil 0 [] []), (.sl .nil 0 [] []), (.sl .nil 0 [] [])] [])⟩, ⟨none, none, (.st 6 (.s 4) (.s 20))⟩, ⟨(some 5), none, (.mov (.c (.int .i64 2)))⟩]) .ret) .skip))))) (.seq (.seq (.reg [⟨(some 21), none, (.fld 2 (.s 2))⟩, ⟨(some 22), none, (.ld (some 4) (.s 21))⟩, ⟨(some 23), none, (.mov (.c (.int .i64 0)))⟩]) (.block 1 (.loop [23] [6, 7, 23, 24, 25, 26, 27, 28, 29, 30, 31, 32] (.seq (.reg [⟨(some 24), none, (.bin .lss (.s 23) (.c (.int .i64 4)))⟩]) (.seq (.cond (.s 24) .skip (.exit 1)) (.seq (.block 2 (.seq (.reg [⟨(some 25), none, (.mov (.s 23))⟩, ⟨(some 26), none, (.idxV 4 1 false (.s 22) (.s 23))⟩, ⟨(some 6), none, (.mov (.s 25))⟩, ⟨(some 7), none, (.mov (.s 26))⟩]) (.reg [⟨(some 27), none, (.mov (.s 6))⟩, ⟨(some 28), none, (.mov (.s 7))⟩, ⟨(some 29), none, (.call (.c (.fn (.func n_bytes_Clone) [] [])) [(.s 28)])⟩, ⟨(some 30), none, (.fld 2 (.s 2))⟩, ⟨(some 31), none, (.idxA 4 1 (.s 30) (.s 27))⟩, ⟨none, none, (.st 1 (.s 31) (.s 29))⟩]))) (.reg [⟨(some 32), none, (.bin .add (.s 23) (.c (.int .i64 1)))⟩, ⟨(some 23), none, (.mov (.s 32))⟩]))))))) (.seq (.reg [⟨(some 33), none, (.ld (some 6) (.s 2))⟩, ⟨none, none, (.st 6 (.s 4) (.s 33))⟩, ⟨(some 5), none, (.mov (.c (.int .i64 0)))⟩]) .ret))))
def F_page_at (P : Program) (a0 a1 : V) (st : St) (K : V → St → Prop) : Prop :=
 @stp P (.box (.c a0)) st ⟨fun v2 st =>
 @stp P (.alloc [(.int .i64 0), (.int .u64 0), (.sl .nil 0 [] []), (.sl .nil 0 [] []), (.sl .nil 0 [] []), (.sl .nil 0 [] [])]) st ⟨fun v4 st =>
 @stp P (.ld (some 6) (.c v2)) st ⟨fun v9 st =>
 @stp P (.call (.c (.fn (.func n_page_Check) [] [])) [(.c v9)]) st ⟨fun v10 st =>
 @stp P (.bin .neq (.c v10) (.c (.int .i64 0))) st ⟨fun v11 st =>
 @cnd v11 ⟨
 @stp P (.build [(.int .i64 0), (.int .u64 0), (.sl .nil 0 [] []), (.sl .nil 0 [] []), (.sl .nil 0 [] []), (.sl .nil 0 [] [])] []) st ⟨fun v12 st =>
 @stp P (.st 6 (.c v4) (.c v12)) st ⟨fun _v st =>
 @ldr (some 6) v4 st ⟨fun r1 =>
 GhostV [r1, (.int .i64 160)] st fun vs st => K (mkres vs) st⟩⟩⟩⟩
 ⟨
 @stp P (.bin .lss (.c a1) (.c (.int .i64 0))) st ⟨fun v15 st =>
 @gst P v15 false (.mov (.c a1)) st ⟨fun v17 st =>
 @gst P v15 false (.bin .geq (.c v17) (.c (.int .i64 4))) st ⟨fun v18 st =>
 @stp P (.pick (.c v15) (.c (.bool true)) (.c v18)) st ⟨fun v19 st =>
 @cnd v19 ⟨
 @stp P (.build [(.int .i64 0), (.int .u64 0), (.sl .nil 0 [] []), (.sl .nil 0 [] []), (.sl .nil 0 [] []), (.sl .nil 0 [] [])] []) st ⟨fun v20 st =>
 @stp P (.st 6 (.c v4) (.c v20)) st ⟨fun _v st =>
 @ldr (some 6) v4 st ⟨fun r1 =>
 GhostV [r1, (.int .i64 2)] st fun vs st => K (mkres vs) st⟩⟩⟩⟩
 ⟨
 @stp P (.fld 2 (.c v2)) st ⟨fun v21 st =>
 @stp P (.ld (some 4) (.c v21)) st ⟨fun v22 st =>
 @Hold ⟨∃ I1 : Nat → Rel 1, (∃ k, GhostV [(.int .i64 0)] st (app (I1 k))) ∧ ∀ k1 v23, ∀ st, app (I1 k1) [v23] st →
 @stp P (.bin .lss (.c v23) (.c (.int .i64 4))) st ⟨fun v24 st =>
 @cnd v24 ⟨
 @stp P (.idxV 4 1 false (.c v22) (.c v23)) st ⟨fun v26 st =>
 @stp P (.call (.c (.fn (.func n_bytes_Clone) [] [])) [(.c v26)]) st ⟨fun v29 st =>
 @stp P (.fld 2 (.c v2)) st ⟨fun v30 st =>
 @stp P (.idxA 4 1 (.c v30) (.c v23)) st ⟨fun v31 st =>
 @stp P (.st 1 (.c v31) (.c v29)) st ⟨fun _v st =>
 @stp P (.bin .add (.c v23) (.c (.int .i64 1))) st ⟨fun v32 st =>
 ∃ j, j < k1 ∧ GhostV [v32] st (app (I1 j))⟩⟩⟩⟩⟩⟩⟩
 ⟨
 @stp P (.ld (some 6) (.c v2)) st ⟨fun v33 st =>
 @stp P (.st 6 (.c v4) (.c v33)) st ⟨fun _v st =>
 @ldr (some 6) v4 st ⟨fun r1 =>
 GhostV [r1, (.int .i64 0)] st fun vs st => K (mkres vs) st⟩⟩⟩⟩⟩⟩⟩⟩⟩⟩⟩⟩⟩⟩⟩⟩⟩⟩⟩
theorem q_page_at {P : Program} {a0 a1 : V} {st : St} {K : V → St → Prop} : F_page_at P a0 a1 st K = hwp P c_page_at (hretQ [.cell 4 (some 6), .tmp 5] K) (enterFr [a0, a1]) st := by kernel_rfl
abbrev R_page_at (P : Program) : Prop := resFnH P n_page_at = some (34, c_page_at.er, [.cell 4 (some 6), .tmp 5])
theorem A_page_at {P : Program} (h : R_page_at P) {a0 a1 : V} {st : St} {K : V → St → Prop} (hF : F_page_at P a0 a1 st K) : ACalls P n_page_at [a0, a1] st K :=
  ACalls_h h rfl (by simp) (q_page_at ▸ hF)

def c_bytes_Clone : ACode := (.seq (.reg [⟨(some 2), none, (.mov (.c (.sl .nil 0 [] [])))⟩]) (.seq (.seq (.reg [⟨(some 3), none, (.mov (.s 0))⟩, ⟨(some 4), none, (.eqs false .sl (.s 3) (.c (.sl .nil 0 [] [])))⟩]) (.cond (.s 4) (.seq (.reg [⟨(some 2), none, (.mov (.c (.sl .nil 0 [] [])))⟩]) .ret) .skip)) (.seq (.reg [⟨(some 5), none, (.mkSl 1 0 [(.int .u8 0)] [])⟩, ⟨(some 6), none, (.mov (.s 0))⟩, ⟨(some 7), none, (.append 1 1 (.s 5) (.s 6))⟩, ⟨(some 2), none, (.mov (.s 7))⟩]) .ret)))
def F_bytes_Clone (P : Program) (a0 : V) (st : St) (K : V → St → Prop) : Prop :=
 @stp P (.eqs false .sl (.c a0) (.c (.sl .nil 0 [] []))) st ⟨fun v4 st =>
 @cnd v4 ⟨
 GhostV [(.sl .nil 0 [] [])] st fun vs st => K (mkres vs) st⟩
 ⟨
 @stp P (.mkSl 1 0 [(.int .u8 0)] []) st ⟨fun v5 st =>
 @stp P (.append 1 1 (.c v5) (.c a0)) st ⟨fun v7 st =>
 GhostV [v7] st fun vs st => K (mkres vs) st⟩⟩⟩⟩
theorem q_bytes_Clone {P : Program} {a0 : V} {st : St} {K : V → St → Prop} : F_bytes_Clone P a0 st K = hwp P c_bytes_Clone (hretQ [.tmp 2] K) (enterFr [a0]) st := by kernel_rfl
abbrev R_bytes_Clone (P : Program) : Prop := resFnH P n_bytes_Clone = some (8, c_bytes_Clone.er, [.tmp 2])
theorem A_bytes_Clone {P : Program} (h : R_bytes_Clone P) {a0 : V} {st : St} {K : V → St → Prop} (hF : F_bytes_Clone P a0 st K) : ACalls P n_bytes_Clone [a0] st K :=
  ACalls_h h rfl (by simp) (q_bytes_Clone ▸ hF)

def c_slices_Clone_Open_Open : ACode := (.seq (.reg [⟨(some 2), none, (.mov (.c (.sl .nil 0 [] [])))⟩]) (.seq (.seq (.reg [⟨(some 3), none, (.mov (.s 0))⟩, ⟨(some 4), none, (.eqs false .sl (.s 3) (.c (.sl .nil 0 [] [])))⟩]) (.cond (.s 4) (.seq (.reg [⟨(some 2), none, (.mov (.c (.sl .nil 0 [] [])))⟩]) .ret) .skip)) (.seq (.reg [⟨(some 5), none, (.mkSl 3 0 [(.int .u64 0), (.int .u64 0), (.int .u64 0)] [])⟩, ⟨(some 6), none, (.mov (.s 0))⟩, ⟨(some 7), none, (.append 3 24 (.s 5) (.s 6))⟩, ⟨(some 2), none, (.mov (.s 7))⟩]) .ret)))
def F_slices_Clone_Open_Open (P : Program) (a0 : V) (st : St) (K : V → St → Prop) : Prop :=
 @stp P (.eqs false .sl (.c a0) (.c (.sl .nil 0 [] []))) st ⟨fun v4 st =>
 @cnd v4 ⟨
 GhostV [(.sl .nil 0 [] [])] st fun vs st => K (mkres vs) st⟩
 ⟨
 @stp P (.mkSl 3 0 [(.int .u64 0), (.int .u64 0), (.int .u64 0)] []) st ⟨fun v5 st =>
 @stp P (.append 3 24 (.c v5) (.c a0)) st ⟨fun v7 st =>
 GhostV [v7] st fun vs st => K (mkres vs) st⟩⟩⟩⟩
theorem q_slices_Clone_Open_Open {P : Program} {a0 : V} {st : St} {K : V → St → Prop} : F_slices_Clone_Open_Open P a0 st K = hwp P c_slices_Clone_Open_Open (hretQ [.tmp 2] K) (enterFr [a0]) st := by kernel_rfl
abbrev R_slices_Clone_Open_Open (P : Program) : Prop := resFnH P n_slices_Clone_Open_Open = some (8, c_slices_Clone_Open_Open.er, [.tmp 2])
theorem A_slices_Clone_Open_Open {P : Program} (h : R_slices_Clone_Open_Open P) {a0 : V} {st : St} {K : V → St → Prop} (hF : F_slices_Clone_Open_Open P a0 st K) : ACalls P n_slices_Clone_Open_Open [a0] st K :=
  ACalls_h h rfl (by simp) (q_slices_Clone_Open_Open ▸ hF)

def c_slices_MinFunc_Open_Open : ACode := (.seq (.reg [⟨(some 4), none, (.alloc [(.int .u64 0), (.int .u64 0), (.int .u64 0)])⟩]) (.join [] [7, 8, 9, 10] (.seq (.reg [⟨(some 7), none, (.mov (.s 0))⟩, ⟨(some 8), none, (.len .sl (.s 7))⟩, ⟨(some 9), none, (.bin .lss (.s 8) (.c (.int .i64 1)))⟩]) (.cond (.s 9) (.reg [⟨(some 10), none, .dead⟩, ⟨none, none, .dead⟩]) .skip)) (.seq (.reg [⟨(some 11), none, (.mov (.s 0))⟩, ⟨(some 12), none, (.idx 3 (.s 11) (.c (.int .i64 0)))⟩, ⟨(some 13), none, (.ld (some 3) (.s 12))⟩, ⟨(some 5), none, (.alloc [(.int .u64 0), (.int .u64 0), (.int .u64 0)])⟩, ⟨none, none, (.st 3 (.s 5) (.s 13))⟩]) (.seq (.seq (.reg [⟨(some 6), none, (.mov (.c (.int .i64 1)))⟩]) (.block 0 (.loop [6] [6, 14, 15, 16, 17, 18, 19, 20, 21, 22, 23, 24, 25, 26, 27, 28, 29, 30, 31] (.seq (.seq (.reg [⟨(some 14), none, (.mov (.s 6))⟩, ⟨(some 15), none, (.mov (.s 0))⟩, ⟨(some 16), none, (.len .sl (.s 15))⟩, ⟨(some 17), none, (.bin .lss (.s 14) (.s 16))⟩]) (.cond (.s 17) .skip (.exit 0))) (.seq (.block 1 (.seq (.regD [⟨(some 20), none, (.mov (.s 1))⟩, ⟨(some 21), none, (.mov (.s 0))⟩, ⟨(some 22), none, (.mov (.s 6))⟩, ⟨(some 23), none, (.idx 3 (.s 21) (.s 22))⟩, ⟨(some 24), none, (.ld (some 3) (.s 23))⟩, ⟨(some 25), none, (.ld (some 3) (.s 5))⟩, ⟨(some 26), none, (.call (.s 20) [(.s 24), (.s 25)])⟩, ⟨(some 27), none, (.bin .lss (.s 26) (.c (.int .i64 0)))⟩] [(0, (false, [])), (1, (false, [])), (2, (false, [])), (3, (false, [])), (4, (false, [])), (5, (false, [])), (6, (true, [])), (7, (false, []))]) (.cond (.s 27) (.reg [⟨(some 28), none, (.mov (.s 0))⟩, ⟨(some 29), none, (.mov (.s 6))⟩, ⟨(some 30), none, (.idx 3 (.s 28) (.s 29))⟩, ⟨(some 31), none, (.ld (some 3) (.s 30))⟩, ⟨none, none, (.st 3 (.s 5) (.s 31))⟩]) .skip))) (.reg [⟨(some 18), none, (.mov (.s 6))⟩, ⟨(some 19), none, (.bin .add (.s 18) (.c (.int .i64 1)))⟩, ⟨(some 6), none, (.mov (.s 19))⟩])))))) (.seq (.reg [⟨(some 32), none, (.ld (some 3) (.s 5))⟩, ⟨none, none, (.st 3 (.s 4) (.s 32))⟩]) .ret)))))
def F_slices_MinFunc_Open_Open (P : Program) (a0 a1 : V) (st : St) (K : V → St → Prop) : Prop :=
 @stp P (.alloc [(.int .u64 0), (.int .u64 0), (.int .u64 0)]) st ⟨fun v4 st =>
 @Hold ⟨∃ J1 : Rel 0, (
 @stp P (.len .sl (.c a0)) st ⟨fun v8 st =>
 @stp P (.bin .lss (.c v8) (.c (.int .i64 1))) st ⟨fun v9 st =>
 @cnd v9 ⟨
 @stp P .dead st ⟨fun v10 st =>
 @stp P .dead st ⟨fun _v st =>
 GhostV [] st (app J1)⟩⟩⟩
 ⟨
 GhostV [] st (app J1)⟩⟩⟩) ∧
 ∀ st, app J1 [] st →
 @stp P (.idx 3 (.c a0) (.c (.int .i64 0))) st ⟨fun v12 st =>
 @stp P (.ld (some 3) (.c v12)) st ⟨fun v13 st =>
 @stp P (.alloc [(.int .u64 0), (.int .u64 0), (.int .u64 0)]) st ⟨fun v5 st =>
 @stp P (.st 3 (.c v5) (.c v13)) st ⟨fun _v st =>
 @Hold ⟨∃ I2 : Nat → Rel 1, (∃ k, GhostV [(.int .i64 1)] st (app (I2 k))) ∧ ∀ k2 v6, ∀ st, app (I2 k2) [v6] st →
 @stp P (.len .sl (.c a0)) st ⟨fun v16 st =>
 @stp P (.bin .lss (.c v6) (.c v16)) st ⟨fun v17 st =>
 @cnd v17 ⟨
 @stpD P (.idx 3 (.c a0) (.c v6)) st ⟨fun v23 st =>
 @stpD P (.ld (some 3) (.c v23)) st ⟨fun v24 st =>
 @stpD P (.ld (some 3) (.c v5)) st ⟨fun v25 st =>
 @stpD P (.call (.c a1) [(.c v24), (.c v25)]) st ⟨fun v26 st =>
 @stpD P (.bin .lss (.c v26) (.c (.int .i64 0))) st ⟨fun v27 st =>
 @cnd v27 ⟨
 @stp P (.idx 3 (.c a0) (.c v6)) st ⟨fun v30 st =>
 @stp P (.ld (some 3) (.c v30)) st ⟨fun v31 st =>
 @stp P (.st 3 (.c v5) (.c v31)) st ⟨fun _v st =>
 @stp P (.bin .add (.c v6) (.c (.int .i64 1))) st ⟨fun v19 st =>
 ∃ j, j < k2 ∧ GhostV [v19] st (app (I2 j))⟩⟩⟩⟩⟩
 ⟨
 @stp P (.bin .add (.c v6) (.c (.int .i64 1))) st ⟨fun v19 st =>
 ∃ j, j < k2 ∧ GhostV [v19] st (app (I2 j))⟩⟩⟩⟩⟩⟩⟩⟩
 ⟨
 @stp P (.ld (some 3) (.c v5)) st ⟨fun v32 st =>
 @stp P (.st 3 (.c v4) (.c v32)) st ⟨fun _v st =>
 @ldr (some 3) v4 st ⟨fun r1 =>
 GhostV [r1] st fun vs st => K (mkres vs) st⟩⟩⟩⟩⟩⟩⟩⟩⟩⟩⟩⟩⟩
theorem q_slices_MinFunc_Open_Open {P : Program} {a0 a1 : V} {st : St} {K : V → St → Prop} : F_slices_MinFunc_Open_Open P a0 a1 st K = hwp P c_slices_MinFunc_Open_Open (hretQ [.cell 4 (some 3)] K) (enterFr [a0, a1]) st := by kernel_rfl
abbrev R_slices_MinFunc_Open_Open (P : Program) : Prop := resFnH P n_slices_MinFunc_Open_Open = some (33, c_slices_MinFunc_Open_Open.er, [.cell 4 (some 3)])
theorem A_slices_MinFunc_Open_Open {P : Program} (h : R_slices_MinFunc_Open_Open P) {a0 a1 : V} {st : St} {K : V → St → Prop} (hF : F_slices_MinFunc_Open_Open P a0 a1 st K) : ACalls P n_slices_MinFunc_Open_Open [a0, a1] st K :=
  ACalls_h h rfl (by simp) (q_slices_MinFunc_Open_Open ▸ hF)

def c_redo_before : ACode := (.seq (.reg [⟨(some 2), none, (.box (.s 0))⟩, ⟨(some 3), none, (.box (.s 1))⟩, ⟨(some 4), none, (.mov (.c (.int .i64 0)))⟩]) (.seq (.seq (.reg [⟨(some 5), none, (.fld 2 (.s 2))⟩, ⟨(some 6), none, (.ld none (.s 5))⟩, ⟨(some 7), none, (.bin .eql (.s 6) (.c (.int .u64 0)))⟩, ⟨(some 8), none, (.mov (.s 7))⟩, ⟨(some 9), (some (8, false)), (.fld 2 (.s 3))⟩, ⟨(some 10), (some (8, false)), (.ld none (.s 9))⟩, ⟨(some 11), (some (8, false)), (.bin .eql (.s 10) (.c (.int .u64 0)))⟩, ⟨(some 12), none, (.pick (.s 8) (.c (.bool true)) (.s 11))⟩]) (.cond (.s 12) (.seq (.regD [⟨(some 13), none, (.fld 2 (.s 2))⟩, ⟨(some 14), none, (.ld none (.s 13))⟩, ⟨(some 15), none, (.minmax false (.s 14) [(.c (.int .u64 1))])⟩, ⟨(some 16), none, (.fld 2 (.s 3))⟩, ⟨(some 17), none, (.ld none (.s 16))⟩, ⟨(some 18), none, (.minmax false (.s 17) [(.c (.int .u64 1))])⟩, ⟨(some 19), none, (.call (.c (.fn (.func n_cmp_Compare_uint64) [] [])) [(.s 15), (.s 18)])⟩, ⟨(some 20), none, (.fld 0 (.s 2))⟩, ⟨(some 21), none, (.ld none (.s 20))⟩, ⟨(some 22), none, (.fld 0 (.s 3))⟩, ⟨(some 23), none, (.ld none (.s 22))⟩, ⟨(some 24), none, (.call (.c (.fn (.func n_cmp_Compare_uint64) [] [])) [(.s 21), (.s 23)])⟩, ⟨(some 25), none, (.mkSl 1 2 [(.int .i64 0)] [(0, (.s 19)), (1, (.s 24))])⟩, ⟨(some 26), none, (.call (.c (.fn (.func n_cmp_Or_int) [] [])) [(.s 25)])⟩, ⟨(some 4), none, (.mov (.s 26))⟩] [(0, (false, [])), (1, (false, [])), (2, (false, [])), (3, (false, [])), (4, (false, [])), (5, (false, [])), (7, (false, [])), (8, (false, [])), (9, (false, [])), (10, (false, [])), (6, (true, [10, 9, 8, 7])), (11, (true, [])), (12, (true, [])), (13, (true, [])), (14, (false, []))]) .ret) .skip)) (.seq (.reg [⟨(some 27), none, (.fld 2 (.s 3))⟩, ⟨(some 28), none, (.ld none (.s 27))⟩, ⟨(some 29), none, (.fld 2 (.s 2))⟩, ⟨(some 30), none, (.ld none (.s 29))⟩, ⟨(some 31), none, (.call (.c (.fn (.func n_cmp_Compare_uint64) [] [])) [(.s 28), (.s 30)])⟩, ⟨(some 4), none, (.mov (.s 31))⟩]) .ret)))
def F_redo_before (P : Program) (a0 a1 : V) (st : St) (K : V → St → Prop) : Prop :=
 @stp P (.box (.c a0)) st ⟨fun v2 st =>
 @stp P (.box (.c a1)) st ⟨fun v3 st =>
 @stp P (.fld 2 (.c v2)) st ⟨fun v5 st =>
 @stp P (.ld none (.c v5)) st ⟨fun v6 st =>
 @stp P (.bin .eql (.c v6) (.c (.int .u64 0))) st ⟨fun v7 st =>
 @gst P v7 false (.fld 2 (.c v3)) st ⟨fun v9 st =>
 @gst P v7 false (.ld none (.c v9)) st ⟨fun v10 st =>
 @gst P v7 false (.bin .eql (.c v10) (.c (.int .u64 0))) st ⟨fun v11 st =>
 @stp P (.pick (.c v7) (.c (.bool true)) (.c v11)) st ⟨fun v12 st =>
 @cnd v12 ⟨
 @stpD P (.fld 2 (.c v2)) st ⟨fun v13 st =>
 @stpD P (.ld none (.c v13)) st ⟨fun v14 st =>
 @stpD P (.minmax false (.c v14) [(.c (.int .u64 1))]) st ⟨fun v15 st =>
 @stpD P (.fld 2 (.c v3)) st ⟨fun v16 st =>
 @stpD P (.ld none (.c v16)) st ⟨fun v17 st =>
 @stpD P (.minmax false (.c v17) [(.c (.int .u64 1))]) st ⟨fun v18 st =>
 @stpD P (.fld 0 (.c v2)) st ⟨fun v20 st =>
 @stpD P (.ld none (.c v20)) st ⟨fun v21 st =>
 @stpD P (.fld 0 (.c v3)) st ⟨fun v22 st =>
 @stpD P (.ld none (.c v22)) st ⟨fun v23 st =>
 @stpD P (.call (.c (.fn (.func n_cmp_Compare_uint64) [] [])) [(.c v15), (.c v18)]) st ⟨fun v19 st =>
 hwat P none (.ld none (.c v22)) st v23 ∧ (
 hwat P none (.fld 0 (.c v3)) st v22 ∧ (
 hwat P none (.ld none (.c v20)) st v21 ∧ (
 hwat P none (.fld 0 (.c v2)) st v20 ∧ (
 @stpD P (.call (.c (.fn (.func n_cmp_Compare_uint64) [] [])) [(.c v21), (.c v23)]) st ⟨fun v24 st =>
 @stpD P (.mkSl 1 2 [(.int .i64 0)] [(0, (.c v19)), (1, (.c v24))]) st ⟨fun v25 st =>
 @stpD P (.call (.c (.fn (.func n_cmp_Or_int) [] [])) [(.c v25)]) st ⟨fun v26 st =>
 GhostV [v26] st fun vs st => K (mkres vs) st⟩⟩⟩))))⟩⟩⟩⟩⟩⟩⟩⟩⟩⟩⟩⟩
 ⟨
 @stp P (.fld 2 (.c v3)) st ⟨fun v27 st =>
 @stp P (.ld none (.c v27)) st ⟨fun v28 st =>
 @stp P (.fld 2 (.c v2)) st ⟨fun v29 st =>
 @stp P (.ld none (.c v29)) st ⟨fun v30 st =>
 @stp P (.call (.c (.fn (.func n_cmp_Compare_uint64) [] [])) [(.c v28), (.c v30)]) st ⟨fun v31 st =>
 GhostV [v31] st fun vs st => K (mkres vs) st⟩⟩⟩⟩⟩⟩⟩⟩⟩⟩⟩⟩⟩⟩⟩
theorem q_redo_before {P : Program} {a0 a1 : V} {st : St} {K : V → St → Prop} : F_redo_before P a0 a1 st K = hwp P c_redo_before (hretQ [.tmp 4] K) (enterFr [a0, a1]) st := by kernel_rfl
abbrev R_redo_before (P : Program) : Prop := resFnH P n_redo_before = some (32, c_redo_before.er, [.tmp 4])
theorem A_redo_before {P : Program} (h : R_redo_before P) {a0 a1 : V} {st : St} {K : V → St → Prop} (hF : F_redo_before P a0 a1 st K) : ACalls P n_redo_before [a0, a1] st K :=
  ACalls_h h rfl (by simp) (q_redo_before ▸ hF)

end Go.Proofs.Ytmbhgjekjpkigaa.AM
