import Derived.Test.YthoaclojobgelaaAmS2
import Derived.KernelRfl
namespace Go.Proofs.Ythoaclojobgelaa.AM
open Go
set_option linter.unusedVariables false
def n_gazetteerlaw16_GraphCircles : FuncId := 3
def n_gazetteerlaw16_GraphReaches : FuncId := 4
def n_gazetteerlaw16_GraphRings : FuncId := 5
def n_gazetteerlaw16_GraphVictims : FuncId := 6
def n_gazetteerlaw16_GraphSteps : FuncId := 7
def n_gazetteerlaw16_GraphEnds : FuncId := 8
def n_gazetteerlaw12_RedoAll : FuncId := 9
def n_gazetteerlaw12_RedoDoes : FuncId := 10
def n_gazetteerlaw12_RedoOpens : FuncId := 11
def n_gazetteerlaw12_RedoLasts : FuncId := 12
def n_gazetteerlaw12_RedoCut : FuncId := 13
def n_gazetteerlaw12_RedoAgain : FuncId := 14
def n_gazetteerlaw16_wakes : FuncId := 15
def n_gazetteerlaw16_few : FuncId := 16
def n_gazetteerref16_Wrong : FuncId := 17
def n_graph_Circle : FuncId := 18
def n_gazetteerref16_Has : FuncId := 19
def n_gazetteerref16_Reach : FuncId := 20
def n_gazetteerref16_Same : FuncId := 21
def n_gazetteerref16_Circle : FuncId := 22
def n_gazetteerlaw16_whole : FuncId := 23
def n_graph_On : FuncId := 24
def n_graph_Check : FuncId := 25
def n_gazetteerref16_On : FuncId := 26
def n_graph_Reach : FuncId := 27
def n_slices_Contains_Edge_Edge : FuncId := 28
def n_slices_Contains_uint64_uint64 : FuncId := 29
def n_graph_Victim : FuncId := 30
def n_gazetteerref16_Victim : FuncId := 31
def n_graph_Without : FuncId := 32
def n_gazetteerref16_SameEdges : FuncId := 33
def n_gazetteerref16_Without : FuncId := 34
def n_slices_Sort_uint64_uint64 : FuncId := 35
def n_slices_Equal_uint64_uint64 : FuncId := 36
def n_slices_Compact_uint64_uint64 : FuncId := 37
def n_slices_ContainsFunc_Edge_Edge : FuncId := 38
def n_gazetteerlaw16_GraphEnds_1 : FuncId := 39
def n_gazetteerlaw12_wakes : FuncId := 40
def n_gazetteerlaw12_pages : FuncId := 41
def n_redo_All : FuncId := 43
def n_gazetteerref12_Row : FuncId := 44
def n_gazetteerref12_All : FuncId := 45
def n_gazetteerref12_SamePages : FuncId := 46
def n_gazetteerref05_SameRow : FuncId := 47
def n_gazetteerlaw12_spoil : FuncId := 48
def n_redo_Redo : FuncId := 49
def n_gazetteerref12_Together : FuncId := 51
def n_gazetteerref12_Redo : FuncId := 52
def n_redo_Open : FuncId := 53
def n_redo_Done : FuncId := 54
def n_gazetteerref12_Done : FuncId := 55
def n_gazetteerref12_SameOpen : FuncId := 56
def n_gazetteerref12_Open : FuncId := 57
def n_record_CheckRow : FuncId := 58
def n_gazetteerlaw12_same : FuncId := 60
def n_record_Same : FuncId := 61
def n_page_Set : FuncId := 62
def n_gazetteerlaw16_first : FuncId := 63
def n_graph_far : FuncId := 64
def n_graph_nexts : FuncId := 65
def n_gazetteerref16_With : FuncId := 66
def n_gazetteerref16_Far : FuncId := 67
def n_graph_rings : FuncId := 68
def n_graph_rising_uint64_bool : FuncId := 69
def n_graph_Check_1 : FuncId := 70
def n_graph_rising_uint64_int : FuncId := 71
def n_slices_Index_Edge_Edge : FuncId := 72
def n_slices_Index_uint64_uint64 : FuncId := 73
def n_slices_Backward_uint64_uint64 : FuncId := 74
def n_slices_DeleteFunc_Edge_Edge : FuncId := 75
def n_slices_Clone_Edge_Edge : FuncId := 76
def n_graph_Without_1 : FuncId := 77
def n_slices_pdqsortOrdered_uint64 : FuncId := 78
def n_math_bits_Len : FuncId := 79
def n_slices_IndexFunc_Edge_Edge : FuncId := 80
def n_gazetteerlaw12_first : FuncId := 81
def n_gazetteerref06_Copy : FuncId := 82
def n_redo_Undo : FuncId := 83
def n_redo_again : FuncId := 84
def n_gazetteerref05_RightRow : FuncId := 85
def n_gazetteerref12_Undo : FuncId := 86
def n_gazetteerref05_Same : FuncId := 88
def n_redo_changes : FuncId := 89
def n_redo_end : FuncId := 91
def n_gazetteerref06_Right : FuncId := 92
def n_gazetteerref12_changes : FuncId := 93
def n_gazetteerref12_last : FuncId := 94
def n_redo_rising_uint64_Open : FuncId := 95
def n_redo_rising_uint64_bool : FuncId := 96
def n_gazetteerref12_Txns : FuncId := 97
def n_record_Check : FuncId := 98
def n_record_ahead : FuncId := 99
def n_octet_Equal : FuncId := 101
def n_page_at : FuncId := 102
def n_bytes_Clone : FuncId := 103
def n_slices_Values_uint64_uint64 : FuncId := 104
def n_slices_Sorted_uint64 : FuncId := 105
def n_maps_Keys_map_uint64_bool_uint64_bool : FuncId := 106
def n_maps_Keys_map_uint64_int_uint64_int : FuncId := 107
def n_slices_Backward_uint64_uint64_1 : FuncId := 108
def n_slices_insertionSortOrdered_uint64 : FuncId := 109
def n_slices_heapSortOrdered_uint64 : FuncId := 110
def n_slices_breakPatternsOrdered_uint64 : FuncId := 111
def n_slices_choosePivotOrdered_uint64 : FuncId := 112
def n_slices_reverseRangeOrdered_uint64 : FuncId := 113
def n_slices_partialInsertionSortOrdered_uint64 : FuncId := 114
def n_cmp_Less_uint64 : FuncId := 115
def n_slices_partitionEqualOrdered_uint64 : FuncId := 116
def n_slices_partitionOrdered_uint64 : FuncId := 117
def n_math_bits_Len32 : FuncId := 118
def n_math_bits_Len64 : FuncId := 119
def n_slices_Clone_Open_Open : FuncId := 120
def n_redo_before : FuncId := 122
def n_slices_Index_Open_Open : FuncId := 123
def n_slices_Delete_Open_Open : FuncId := 124
def n_slices_Clone_byte_byte : FuncId := 125
def n_slices_Clone_Page_Page : FuncId := 126
def n_slices_BinarySearchFunc_Page_Page_int : FuncId := 127
def n_redo_again_1 : FuncId := 128
def n_cmp_Compare_int : FuncId := 129
def n_gazetteerref05_Right : FuncId := 130
def n_gazetteerref12_right : FuncId := 131
def n_gazetteerref12_first : FuncId := 132
def n_gazetteerref12_at : FuncId := 133
def n_gazetteerref01_Same : FuncId := 134
def n_page_Check_1 : FuncId := 135
def n_page_numbered : FuncId := 136
def n_slices_ContainsFunc_Lbyte_Lbyte : FuncId := 137
def n_maps_Keys_map_uint64_Open_uint64_Open : FuncId := 138
def n_record_fields : FuncId := 139
def n_record_field_has : FuncId := 140
def n_record_ahead_1 : FuncId := 141
def n_slices_EqualFunc_Lbyte_LLbyte_Lbyte_Lbyte : FuncId := 142
def n_slices_Equal_byte_byte : FuncId := 143
def n_slices_Values_uint64_uint64_1 : FuncId := 144
def n_slices_Collect_uint64 : FuncId := 145
def n_maps_Keys_map_uint64_bool_uint64_bool_1 : FuncId := 146
def n_maps_Keys_map_uint64_int_uint64_int_1 : FuncId := 147
def n_slices_siftDownOrdered_uint64 : FuncId := 148
def n_slices_nextPowerOfTwo : FuncId := 149
def n_slices_xorshift_Next : FuncId := 150
def n_slices_medianAdjacentOrdered_uint64 : FuncId := 151
def n_slices_medianOrdered_uint64 : FuncId := 152
def n_cmp_isNaN_uint64 : FuncId := 153
def n_cmp_Or_int : FuncId := 154
def n_cmp_Compare_uint64 : FuncId := 155
def n_cmp_isNaN_int : FuncId := 156
def n_slices_IndexFunc_Lbyte_Lbyte : FuncId := 157
def n_maps_Keys_map_uint64_Open_uint64_Open_1 : FuncId := 158
def n_slices_AppendSeq_uint64_uint64 : FuncId := 159
def n_slices_order2Ordered_uint64 : FuncId := 160

def c_gazetteerlaw16_GraphCircles : ACode := (.seq (.reg [⟨(some 4), none, (.mov (.c (.bool false)))⟩]) (.seq (.seq (.reg [⟨(some 12), none, (.call (.c (.fn (.func n_gazetteerlaw16_wakes) [] [])) [])⟩, ⟨(some 13), none, (.un .not (.s 12))⟩]) (.cond (.s 13) (.seq (.reg [⟨(some 4), none, (.mov (.c (.bool false)))⟩]) .ret) .skip)) (.seq (.reg [⟨(some 14), none, (.mov (.s 0))⟩, ⟨(some 15), none, (.call (.c (.fn (.func n_gazetteerlaw16_few) [] [])) [(.s 14)])⟩, ⟨(some 16), none, (.mov (.s 0))⟩, ⟨(some 17), none, (.call (.c (.fn (.func n_gazetteerlaw16_few) [] [])) [(.s 16)])⟩, ⟨(some 5), none, (.mov (.s 15))⟩, ⟨(some 6), none, (.mov (.s 17))⟩]) (.seq (.reg [⟨(some 18), none, (.mov (.s 6))⟩, ⟨(some 19), none, (.call (.c (.fn (.func n_gazetteerref16_Wrong) [] [])) [(.s 18)])⟩, ⟨(some 7), none, (.mov (.s 19))⟩]) (.seq (.seq (.reg [⟨(some 20), none, (.mov (.s 1))⟩, ⟨(some 21), none, (.len .sl (.s 20))⟩, ⟨(some 22), none, (.mov (.c (.int .i64 0)))⟩]) (.block 0 (.loop [22] [4, 8, 9, 10, 11, 22, 23, 24, 25, 26, 27, 28, 29, 30, 31, 32, 33, 34, 35, 36, 37, 38, 39, 40, 41, 42, 43, 44, 45, 46, 47, 48, 49, 50, 51, 52, 53, 54, 55, 56, 57, 58, 59, 60, 61, 62, 63, 64, 65, 66, 67, 68, 69, 70] (.seq (.reg [⟨(some 23), none, (.bin .lss (.s 22) (.s 21))⟩]) (.seq (.cond (.s 23) .skip (.exit 0)) (.seq (.block 1 (.seq (.reg [⟨(some 24), none, (.mov (.s 22))⟩, ⟨(some 25), none, (.idx 1 (.s 20) (.s 22))⟩, ⟨(some 26), none, (.ld none (.s 25))⟩, ⟨(some 8), none, (.mov (.s 24))⟩, ⟨(some 9), none, (.mov (.s 26))⟩]) (.seq (.seq (.reg [⟨(some 27), none, (.mov (.s 8))⟩, ⟨(some 28), none, (.bin .eql (.s 27) (.c (.int .i64 8)))⟩]) (.cond (.s 28) (.exit 0) .skip)) (.seq (.reg [⟨(some 30), none, (.mov (.s 5))⟩, ⟨(some 31), none, (.mov (.s 9))⟩, ⟨(some 32), none, (.call (.c (.fn (.func n_graph_Circle) [] [])) [(.s 30), (.s 31)])⟩, ⟨(some 29), none, (.mov (.s 32))⟩, ⟨(some 33), none, (.ext 0 (.s 29))⟩, ⟨(some 34), none, (.ext 1 (.s 29))⟩, ⟨(some 10), none, (.mov (.s 33))⟩, ⟨(some 11), none, (.mov (.s 34))⟩]) (.block 2 (.seq (.reg [⟨(some 46), none, (.mov (.s 7))⟩, ⟨(some 47), none, (.bin .neq (.s 46) (.c (.int .i64 0)))⟩, ⟨(some 45), none, (.mov (.s 47))⟩]) (.cond (.s 45) (.seq (.reg [⟨(some 48), none, (.mov (.s 11))⟩, ⟨(some 49), none, (.mov (.s 7))⟩, ⟨(some 50), none, (.bin .neq (.s 48) (.s 49))⟩, ⟨(some 51), none, (.mov (.s 50))⟩, ⟨(some 52), (some (51, false)), (.mov (.s 10))⟩, ⟨(some 53), (some (51, false)), (.len .sl (.s 52))⟩, ⟨(some 54), (some (51, false)), (.bin .neq (.s 53) (.c (.int .i64 0)))⟩, ⟨(some 55), none, (.pick (.s 51) (.c (.bool true)) (.s 54))⟩]) (.cond (.s 55) (.seq (.reg [⟨(some 4), none, (.mov (.c (.bool false)))⟩]) .ret) .skip)) (.seq (.reg [⟨(some 57), none, (.mov (.s 6))⟩, ⟨(some 58), none, (.mov (.s 9))⟩, ⟨(some 59), none, (.call (.c (.fn (.func n_gazetteerref16_Reach) [] [])) [(.s 57), (.s 58)])⟩, ⟨(some 60), none, (.mov (.s 9))⟩, ⟨(some 61), none, (.call (.c (.fn (.func n_gazetteerref16_Has) [] [])) [(.s 59), (.s 60)])⟩, ⟨(some 62), none, (.un .not (.s 61))⟩, ⟨(some 56), none, (.mov (.s 62))⟩]) (.cond (.s 56) (.seq (.reg [⟨(some 63), none, (.mov (.s 11))⟩, ⟨(some 64), none, (.bin .neq (.s 63) (.c (.int .i64 4)))⟩, ⟨(some 65), none, (.mov (.s 64))⟩, ⟨(some 66), (some (65, false)), (.mov (.s 10))⟩, ⟨(some 67), (some (65, false)), (.len .sl (.s 66))⟩, ⟨(some 68), (some (65, false)), (.bin .neq (.s 67) (.c (.int .i64 0)))⟩, ⟨(some 69), none, (.pick (.s 65) (.c (.bool true)) (.s 68))⟩]) (.cond (.s 69) (.seq (.reg [⟨(some 4), none, (.mov (.c (.bool false)))⟩]) .ret) .skip)) (.seq (.reg [⟨(some 35), none, (.mov (.s 11))⟩, ⟨(some 36), none, (.bin .neq (.s 35) (.c (.int .i64 0)))⟩, ⟨(some 37), none, (.mov (.s 36))⟩, ⟨(some 38), (some (37, false)), (.mov (.s 10))⟩, ⟨(some 39), (some (37, false)), (.mov (.s 6))⟩, ⟨(some 40), (some (37, false)), (.mov (.s 9))⟩, ⟨(some 41), (some (37, false)), (.call (.c (.fn (.func n_gazetteerref16_Circle) [] [])) [(.s 39), (.s 40)])⟩, ⟨(some 42), (some (37, false)), (.call (.c (.fn (.func n_gazetteerref16_Same) [] [])) [(.s 38), (.s 41)])⟩, ⟨(some 43), (some (37, false)), (.un .not (.s 42))⟩, ⟨(some 44), none, (.pick (.s 37) (.c (.bool true)) (.s 43))⟩]) (.cond (.s 44) (.seq (.reg [⟨(some 4), none, (.mov (.c (.bool false)))⟩]) .ret) .skip))))))))))) (.reg [⟨(some 70), none, (.bin .add (.s 22) (.c (.int .i64 1)))⟩, ⟨(some 22), none, (.mov (.s 70))⟩]))))))) (.seq (.reg [⟨(some 71), none, (.mov (.s 5))⟩, ⟨(some 72), none, (.mov (.s 6))⟩, ⟨(some 73), none, (.call (.c (.fn (.func n_gazetteerlaw16_whole) [] [])) [(.s 71), (.s 72)])⟩, ⟨(some 4), none, (.mov (.s 73))⟩]) .ret))))))
def F_gazetteerlaw16_GraphCircles (P : Program) (a0 a1 : V) (st : St) (K : V → St → Prop) : Prop :=
  @stp P (.call (.c (.fn (.func n_gazetteerlaw16_wakes) [] [])) []) st ⟨fun v12 st =>
  @stp P (.un .not (.c v12)) st ⟨fun v13 st =>
  @cnd v13 ⟨
    GhostV [(.bool false)] st fun vs st => K (mkres vs) st⟩
  ⟨
    @stp P (.call (.c (.fn (.func n_gazetteerlaw16_few) [] [])) [(.c a0)]) st ⟨fun v15 st =>
    @stp P (.call (.c (.fn (.func n_gazetteerlaw16_few) [] [])) [(.c a0)]) st ⟨fun v17 st =>
    @stp P (.call (.c (.fn (.func n_gazetteerref16_Wrong) [] [])) [(.c v17)]) st ⟨fun v19 st =>
    @stp P (.len .sl (.c a1)) st ⟨fun v21 st =>
    @Hold ⟨∃ I1 : Nat → Rel 1, (∃ k, GhostV [(.int .i64 0)] st (app (I1 k))) ∧ ∀ k1 v22, ∀ st, app (I1 k1) [v22] st →
      @stp P (.bin .lss (.c v22) (.c v21)) st ⟨fun v23 st =>
      @cnd v23 ⟨
        @stp P (.idx 1 (.c a1) (.c v22)) st ⟨fun v25 st =>
        @stp P (.ld none (.c v25)) st ⟨fun v26 st =>
        @stp P (.bin .eql (.c v22) (.c (.int .i64 8))) st ⟨fun v28 st =>
        @cnd v28 ⟨
          @stp P (.call (.c (.fn (.func n_gazetteerlaw16_whole) [] [])) [(.c v15), (.c v17)]) st ⟨fun v73 st =>
          GhostV [v73] st fun vs st => K (mkres vs) st⟩⟩
        ⟨
          @stp P (.call (.c (.fn (.func n_graph_Circle) [] [])) [(.c v15), (.c v26)]) st ⟨fun v32 st =>
          @stp P (.ext 0 (.c v32)) st ⟨fun v33 st =>
          @stp P (.ext 1 (.c v32)) st ⟨fun v34 st =>
          @stp P (.bin .neq (.c v19) (.c (.int .i64 0))) st ⟨fun v47 st =>
          @cnd v47 ⟨
            @stp P (.bin .neq (.c v34) (.c v19)) st ⟨fun v50 st =>
            @gst P v50 false (.mov (.c v33)) st ⟨fun v52 st =>
            @gst P v50 false (.len .sl (.c v52)) st ⟨fun v53 st =>
            @gst P v50 false (.bin .neq (.c v53) (.c (.int .i64 0))) st ⟨fun v54 st =>
            @stp P (.pick (.c v50) (.c (.bool true)) (.c v54)) st ⟨fun v55 st =>
            @cnd v55 ⟨
              GhostV [(.bool false)] st fun vs st => K (mkres vs) st⟩
            ⟨
              @stp P (.bin .add (.c v22) (.c (.int .i64 1))) st ⟨fun v70 st =>
              ∃ j, j < k1 ∧ GhostV [v70] st (app (I1 j))⟩⟩⟩⟩⟩⟩⟩⟩
          ⟨
            @stp P (.call (.c (.fn (.func n_gazetteerref16_Reach) [] [])) [(.c v17), (.c v26)]) st ⟨fun v59 st =>
            @stp P (.call (.c (.fn (.func n_gazetteerref16_Has) [] [])) [(.c v59), (.c v26)]) st ⟨fun v61 st =>
            @stp P (.un .not (.c v61)) st ⟨fun v62 st =>
            @cnd v62 ⟨
              @stp P (.bin .neq (.c v34) (.c (.int .i64 4))) st ⟨fun v64 st =>
              @gst P v64 false (.mov (.c v33)) st ⟨fun v66 st =>
              @gst P v64 false (.len .sl (.c v66)) st ⟨fun v67 st =>
              @gst P v64 false (.bin .neq (.c v67) (.c (.int .i64 0))) st ⟨fun v68 st =>
              @stp P (.pick (.c v64) (.c (.bool true)) (.c v68)) st ⟨fun v69 st =>
              @cnd v69 ⟨
                GhostV [(.bool false)] st fun vs st => K (mkres vs) st⟩
              ⟨
                @stp P (.bin .add (.c v22) (.c (.int .i64 1))) st ⟨fun v70 st =>
                ∃ j, j < k1 ∧ GhostV [v70] st (app (I1 j))⟩⟩⟩⟩⟩⟩⟩⟩
            ⟨
              @stp P (.bin .neq (.c v34) (.c (.int .i64 0))) st ⟨fun v36 st =>
              @gst P v36 false (.mov (.c v33)) st ⟨fun v38 st =>
              @gst P v36 false (.mov (.c v17)) st ⟨fun v39 st =>
              @gst P v36 false (.mov (.c v26)) st ⟨fun v40 st =>
              @gst P v36 false (.call (.c (.fn (.func n_gazetteerref16_Circle) [] [])) [(.c v39), (.c v40)]) st ⟨fun v41 st =>
              @gst P v36 false (.call (.c (.fn (.func n_gazetteerref16_Same) [] [])) [(.c v38), (.c v41)]) st ⟨fun v42 st =>
              @gst P v36 false (.un .not (.c v42)) st ⟨fun v43 st =>
              @stp P (.pick (.c v36) (.c (.bool true)) (.c v43)) st ⟨fun v44 st =>
              @cnd v44 ⟨
                GhostV [(.bool false)] st fun vs st => K (mkres vs) st⟩
              ⟨
                @stp P (.bin .add (.c v22) (.c (.int .i64 1))) st ⟨fun v70 st =>
                ∃ j, j < k1 ∧ GhostV [v70] st (app (I1 j))⟩⟩⟩⟩⟩⟩⟩⟩⟩⟩⟩⟩⟩⟩⟩⟩⟩⟩⟩⟩⟩⟩⟩⟩
      ⟨
        @stp P (.call (.c (.fn (.func n_gazetteerlaw16_whole) [] [])) [(.c v15), (.c v17)]) st ⟨fun v73 st =>
        GhostV [v73] st fun vs st => K (mkres vs) st⟩⟩⟩⟩⟩⟩⟩⟩⟩⟩⟩
theorem q_gazetteerlaw16_GraphCircles {P : Program} {a0 a1 : V} {st : St} {K : V → St → Prop} : F_gazetteerlaw16_GraphCircles P a0 a1 st K = hwp P c_gazetteerlaw16_GraphCircles (hretQ [.tmp 4] K) (enterFr [a0, a1]) st := by kernel_rfl
abbrev R_gazetteerlaw16_GraphCircles (P : Program) : Prop := resFnH P n_gazetteerlaw16_GraphCircles = some (74, c_gazetteerlaw16_GraphCircles.er, [.tmp 4])
theorem A_gazetteerlaw16_GraphCircles {P : Program} (h : R_gazetteerlaw16_GraphCircles P) {a0 a1 : V} {st : St} {K : V → St → Prop} (hF : F_gazetteerlaw16_GraphCircles P a0 a1 st K) : ACalls P n_gazetteerlaw16_GraphCircles [a0, a1] st K :=
  ACalls_h h rfl (by simp) (q_gazetteerlaw16_GraphCircles ▸ hF)

def c_gazetteerlaw16_GraphReaches : ACode := (.seq (.reg [⟨(some 4), none, (.mov (.c (.bool false)))⟩]) (.seq (.seq (.reg [⟨(some 14), none, (.call (.c (.fn (.func n_gazetteerlaw16_wakes) [] [])) [])⟩, ⟨(some 15), none, (.un .not (.s 14))⟩]) (.cond (.s 15) (.seq (.reg [⟨(some 4), none, (.mov (.c (.bool false)))⟩]) .ret) .skip)) (.seq (.reg [⟨(some 16), none, (.mov (.s 0))⟩, ⟨(some 17), none, (.call (.c (.fn (.func n_gazetteerlaw16_few) [] [])) [(.s 16)])⟩, ⟨(some 18), none, (.mov (.s 0))⟩, ⟨(some 19), none, (.call (.c (.fn (.func n_gazetteerlaw16_few) [] [])) [(.s 18)])⟩, ⟨(some 5), none, (.mov (.s 17))⟩, ⟨(some 6), none, (.mov (.s 19))⟩]) (.seq (.reg [⟨(some 20), none, (.mov (.s 6))⟩, ⟨(some 21), none, (.call (.c (.fn (.func n_gazetteerref16_Wrong) [] [])) [(.s 20)])⟩, ⟨(some 7), none, (.mov (.s 21))⟩]) (.seq (.reg [⟨(some 23), none, (.mov (.s 5))⟩, ⟨(some 24), none, (.call (.c (.fn (.func n_graph_On) [] [])) [(.s 23)])⟩, ⟨(some 22), none, (.mov (.s 24))⟩, ⟨(some 25), none, (.ext 0 (.s 22))⟩, ⟨(some 26), none, (.ext 1 (.s 22))⟩, ⟨(some 8), none, (.mov (.s 25))⟩, ⟨(some 9), none, (.mov (.s 26))⟩]) (.seq (.seq (.reg [⟨(some 27), none, (.mov (.s 9))⟩, ⟨(some 28), none, (.mov (.s 7))⟩, ⟨(some 29), none, (.bin .neq (.s 27) (.s 28))⟩, ⟨(some 30), none, (.mov (.s 29))⟩, ⟨(some 31), (some (30, false)), (.mov (.s 5))⟩, ⟨(some 32), (some (30, false)), (.call (.c (.fn (.func n_graph_Check) [] [])) [(.s 31)])⟩, ⟨(some 33), (some (30, false)), (.mov (.s 7))⟩, ⟨(some 34), (some (30, false)), (.bin .neq (.s 32) (.s 33))⟩, ⟨(some 35), none, (.pick (.s 30) (.c (.bool true)) (.s 34))⟩, ⟨(some 36), none, (.mov (.s 35))⟩, ⟨(some 37), (some (36, false)), (.mov (.s 7))⟩, ⟨(some 38), (some (36, false)), (.bin .neq (.s 37) (.c (.int .i64 0)))⟩, ⟨(some 39), (some (36, false)), (.mov (.s 38))⟩, ⟨(some 40), (some (39, true)), (.mov (.s 8))⟩, ⟨(some 41), (some (39, true)), (.len .sl (.s 40))⟩, ⟨(some 42), (some (39, true)), (.bin .neq (.s 41) (.c (.int .i64 0)))⟩, ⟨(some 43), (some (36, false)), (.pick (.s 39) (.s 42) (.c (.bool false)))⟩, ⟨(some 44), none, (.pick (.s 36) (.c (.bool true)) (.s 43))⟩, ⟨(some 45), none, (.mov (.s 44))⟩, ⟨(some 46), (some (45, false)), (.mov (.s 7))⟩, ⟨(some 47), (some (45, false)), (.bin .eql (.s 46) (.c (.int .i64 0)))⟩, ⟨(some 48), (some (45, false)), (.mov (.s 47))⟩, ⟨(some 49), (some (48, true)), (.mov (.s 8))⟩, ⟨(some 50), (some (48, true)), (.mov (.s 6))⟩, ⟨(some 51), (some (48, true)), (.call (.c (.fn (.func n_gazetteerref16_On) [] [])) [(.s 50)])⟩, ⟨(some 52), (some (48, true)), (.call (.c (.fn (.func n_gazetteerref16_Same) [] [])) [(.s 49), (.s 51)])⟩, ⟨(some 53), (some (48, true)), (.un .not (.s 52))⟩, ⟨(some 54), (some (45, false)), (.pick (.s 48) (.s 53) (.c (.bool false)))⟩, ⟨(some 55), none, (.pick (.s 45) (.c (.bool true)) (.s 54))⟩]) (.cond (.s 55) (.seq (.reg [⟨(some 4), none, (.mov (.c (.bool false)))⟩]) .ret) .skip)) (.seq (.seq (.reg [⟨(some 56), none, (.mov (.s 1))⟩, ⟨(some 57), none, (.len .sl (.s 56))⟩, ⟨(some 58), none, (.mov (.c (.int .i64 0)))⟩]) (.block 0 (.loop [58] [4, 10, 11, 12, 13, 58, 59, 60, 61, 62, 63, 64, 65, 66, 67, 68, 69, 70, 71, 72, 73, 74, 75, 76, 77, 78, 79, 80, 81, 82, 83, 84, 85, 86, 87, 88, 89, 90, 91, 92, 93, 94, 95] (.seq (.reg [⟨(some 59), none, (.bin .lss (.s 58) (.s 57))⟩]) (.seq (.cond (.s 59) .skip (.exit 0)) (.seq (.block 1 (.seq (.reg [⟨(some 60), none, (.mov (.s 58))⟩, ⟨(some 61), none, (.idx 1 (.s 56) (.s 58))⟩, ⟨(some 62), none, (.ld none (.s 61))⟩, ⟨(some 10), none, (.mov (.s 60))⟩, ⟨(some 11), none, (.mov (.s 62))⟩]) (.seq (.seq (.reg [⟨(some 63), none, (.mov (.s 10))⟩, ⟨(some 64), none, (.bin .eql (.s 63) (.c (.int .i64 10)))⟩]) (.cond (.s 64) (.exit 0) .skip)) (.seq (.reg [⟨(some 66), none, (.mov (.s 5))⟩, ⟨(some 67), none, (.mov (.s 11))⟩, ⟨(some 68), none, (.call (.c (.fn (.func n_graph_Reach) [] [])) [(.s 66), (.s 67)])⟩, ⟨(some 65), none, (.mov (.s 68))⟩, ⟨(some 69), none, (.ext 0 (.s 65))⟩, ⟨(some 70), none, (.ext 1 (.s 65))⟩, ⟨(some 12), none, (.mov (.s 69))⟩, ⟨(some 13), none, (.mov (.s 70))⟩]) (.seq (.reg [⟨(some 71), none, (.mov (.s 13))⟩, ⟨(some 72), none, (.mov (.s 7))⟩, ⟨(some 73), none, (.bin .neq (.s 71) (.s 72))⟩, ⟨(some 74), none, (.mov (.s 73))⟩, ⟨(some 75), (some (74, false)), (.mov (.s 7))⟩, ⟨(some 76), (some (74, false)), (.bin .neq (.s 75) (.c (.int .i64 0)))⟩, ⟨(some 77), (some (74, false)), (.mov (.s 76))⟩, ⟨(some 78), (some (77, true)), (.mov (.s 12))⟩, ⟨(some 79), (some (77, true)), (.len .sl (.s 78))⟩, ⟨(some 80), (some (77, true)), (.bin .neq (.s 79) (.c (.int .i64 0)))⟩, ⟨(some 81), (some (74, false)), (.pick (.s 77) (.s 80) (.c (.bool false)))⟩, ⟨(some 82), none, (.pick (.s 74) (.c (.bool true)) (.s 81))⟩, ⟨(some 83), none, (.mov (.s 82))⟩, ⟨(some 84), (some (83, false)), (.mov (.s 7))⟩, ⟨(some 85), (some (83, false)), (.bin .eql (.s 84) (.c (.int .i64 0)))⟩, ⟨(some 86), (some (83, false)), (.mov (.s 85))⟩, ⟨(some 87), (some (86, true)), (.mov (.s 12))⟩, ⟨(some 88), (some (86, true)), (.mov (.s 6))⟩, ⟨(some 89), (some (86, true)), (.mov (.s 11))⟩, ⟨(some 90), (some (86, true)), (.call (.c (.fn (.func n_gazetteerref16_Reach) [] [])) [(.s 88), (.s 89)])⟩, ⟨(some 91), (some (86, true)), (.call (.c (.fn (.func n_gazetteerref16_Same) [] [])) [(.s 87), (.s 90)])⟩, ⟨(some 92), (some (86, true)), (.un .not (.s 91))⟩, ⟨(some 93), (some (83, false)), (.pick (.s 86) (.s 92) (.c (.bool false)))⟩, ⟨(some 94), none, (.pick (.s 83) (.c (.bool true)) (.s 93))⟩]) (.cond (.s 94) (.seq (.reg [⟨(some 4), none, (.mov (.c (.bool false)))⟩]) .ret) .skip)))))) (.reg [⟨(some 95), none, (.bin .add (.s 58) (.c (.int .i64 1)))⟩, ⟨(some 58), none, (.mov (.s 95))⟩]))))))) (.seq (.reg [⟨(some 96), none, (.mov (.s 5))⟩, ⟨(some 97), none, (.mov (.s 6))⟩, ⟨(some 98), none, (.call (.c (.fn (.func n_gazetteerlaw16_whole) [] [])) [(.s 96), (.s 97)])⟩, ⟨(some 4), none, (.mov (.s 98))⟩]) .ret))))))))
def F_gazetteerlaw16_GraphReaches (P : Program) (a0 a1 : V) (st : St) (K : V → St → Prop) : Prop :=
  @stp P (.call (.c (.fn (.func n_gazetteerlaw16_wakes) [] [])) []) st ⟨fun v14 st =>
  @stp P (.un .not (.c v14)) st ⟨fun v15 st =>
  @cnd v15 ⟨
    GhostV [(.bool false)] st fun vs st => K (mkres vs) st⟩
  ⟨
    @stp P (.call (.c (.fn (.func n_gazetteerlaw16_few) [] [])) [(.c a0)]) st ⟨fun v17 st =>
    @stp P (.call (.c (.fn (.func n_gazetteerlaw16_few) [] [])) [(.c a0)]) st ⟨fun v19 st =>
    @stp P (.call (.c (.fn (.func n_gazetteerref16_Wrong) [] [])) [(.c v19)]) st ⟨fun v21 st =>
    @stp P (.call (.c (.fn (.func n_graph_On) [] [])) [(.c v17)]) st ⟨fun v24 st =>
    @stp P (.ext 0 (.c v24)) st ⟨fun v25 st =>
    @stp P (.ext 1 (.c v24)) st ⟨fun v26 st =>
    @stp P (.bin .neq (.c v26) (.c v21)) st ⟨fun v29 st =>
    @gst P v29 false (.mov (.c v17)) st ⟨fun v31 st =>
    @gst P v29 false (.call (.c (.fn (.func n_graph_Check) [] [])) [(.c v31)]) st ⟨fun v32 st =>
    @gst P v29 false (.mov (.c v21)) st ⟨fun v33 st =>
    @gst P v29 false (.bin .neq (.c v32) (.c v33)) st ⟨fun v34 st =>
    @stp P (.pick (.c v29) (.c (.bool true)) (.c v34)) st ⟨fun v35 st =>
    @gst P v35 false (.mov (.c v21)) st ⟨fun v37 st =>
    @gst P v35 false (.bin .neq (.c v37) (.c (.int .i64 0))) st ⟨fun v38 st =>
    @gst P v35 false (.mov (.c v38)) st ⟨fun v39 st =>
    @gst P v39 true (.mov (.c v25)) st ⟨fun v40 st =>
    @gst P v39 true (.len .sl (.c v40)) st ⟨fun v41 st =>
    @gst P v39 true (.bin .neq (.c v41) (.c (.int .i64 0))) st ⟨fun v42 st =>
    @gst P v35 false (.pick (.c v39) (.c v42) (.c (.bool false))) st ⟨fun v43 st =>
    @stp P (.pick (.c v35) (.c (.bool true)) (.c v43)) st ⟨fun v44 st =>
    @gst P v44 false (.mov (.c v21)) st ⟨fun v46 st =>
    @gst P v44 false (.bin .eql (.c v46) (.c (.int .i64 0))) st ⟨fun v47 st =>
    @gst P v44 false (.mov (.c v47)) st ⟨fun v48 st =>
    @gst P v48 true (.mov (.c v25)) st ⟨fun v49 st =>
    @gst P v48 true (.mov (.c v19)) st ⟨fun v50 st =>
    @gst P v48 true (.call (.c (.fn (.func n_gazetteerref16_On) [] [])) [(.c v50)]) st ⟨fun v51 st =>
    @gst P v48 true (.call (.c (.fn (.func n_gazetteerref16_Same) [] [])) [(.c v49), (.c v51)]) st ⟨fun v52 st =>
    @gst P v48 true (.un .not (.c v52)) st ⟨fun v53 st =>
    @gst P v44 false (.pick (.c v48) (.c v53) (.c (.bool false))) st ⟨fun v54 st =>
    @stp P (.pick (.c v44) (.c (.bool true)) (.c v54)) st ⟨fun v55 st =>
    @cnd v55 ⟨
      GhostV [(.bool false)] st fun vs st => K (mkres vs) st⟩
    ⟨
      @stp P (.len .sl (.c a1)) st ⟨fun v57 st =>
      @Hold ⟨∃ I1 : Nat → Rel 1, (∃ k, GhostV [(.int .i64 0)] st (app (I1 k))) ∧ ∀ k1 v58, ∀ st, app (I1 k1) [v58] st →
        @stp P (.bin .lss (.c v58) (.c v57)) st ⟨fun v59 st =>
        @cnd v59 ⟨
          @stp P (.idx 1 (.c a1) (.c v58)) st ⟨fun v61 st =>
          @stp P (.ld none (.c v61)) st ⟨fun v62 st =>
          @stp P (.bin .eql (.c v58) (.c (.int .i64 10))) st ⟨fun v64 st =>
          @cnd v64 ⟨
            @stp P (.call (.c (.fn (.func n_gazetteerlaw16_whole) [] [])) [(.c v17), (.c v19)]) st ⟨fun v98 st =>
            GhostV [v98] st fun vs st => K (mkres vs) st⟩⟩
          ⟨
            @stp P (.call (.c (.fn (.func n_graph_Reach) [] [])) [(.c v17), (.c v62)]) st ⟨fun v68 st =>
            @stp P (.ext 0 (.c v68)) st ⟨fun v69 st =>
            @stp P (.ext 1 (.c v68)) st ⟨fun v70 st =>
            @stp P (.bin .neq (.c v70) (.c v21)) st ⟨fun v73 st =>
            @gst P v73 false (.mov (.c v21)) st ⟨fun v75 st =>
            @gst P v73 false (.bin .neq (.c v75) (.c (.int .i64 0))) st ⟨fun v76 st =>
            @gst P v73 false (.mov (.c v76)) st ⟨fun v77 st =>
            @gst P v77 true (.mov (.c v69)) st ⟨fun v78 st =>
            @gst P v77 true (.len .sl (.c v78)) st ⟨fun v79 st =>
            @gst P v77 true (.bin .neq (.c v79) (.c (.int .i64 0))) st ⟨fun v80 st =>
            @gst P v73 false (.pick (.c v77) (.c v80) (.c (.bool false))) st ⟨fun v81 st =>
            @stp P (.pick (.c v73) (.c (.bool true)) (.c v81)) st ⟨fun v82 st =>
            @gst P v82 false (.mov (.c v21)) st ⟨fun v84 st =>
            @gst P v82 false (.bin .eql (.c v84) (.c (.int .i64 0))) st ⟨fun v85 st =>
            @gst P v82 false (.mov (.c v85)) st ⟨fun v86 st =>
            @gst P v86 true (.mov (.c v69)) st ⟨fun v87 st =>
            @gst P v86 true (.mov (.c v19)) st ⟨fun v88 st =>
            @gst P v86 true (.mov (.c v62)) st ⟨fun v89 st =>
            @gst P v86 true (.call (.c (.fn (.func n_gazetteerref16_Reach) [] [])) [(.c v88), (.c v89)]) st ⟨fun v90 st =>
            @gst P v86 true (.call (.c (.fn (.func n_gazetteerref16_Same) [] [])) [(.c v87), (.c v90)]) st ⟨fun v91 st =>
            @gst P v86 true (.un .not (.c v91)) st ⟨fun v92 st =>
            @gst P v82 false (.pick (.c v86) (.c v92) (.c (.bool false))) st ⟨fun v93 st =>
            @stp P (.pick (.c v82) (.c (.bool true)) (.c v93)) st ⟨fun v94 st =>
            @cnd v94 ⟨
              GhostV [(.bool false)] st fun vs st => K (mkres vs) st⟩
            ⟨
              @stp P (.bin .add (.c v58) (.c (.int .i64 1))) st ⟨fun v95 st =>
              ∃ j, j < k1 ∧ GhostV [v95] st (app (I1 j))⟩⟩⟩⟩⟩⟩⟩⟩⟩⟩⟩⟩⟩⟩⟩⟩⟩⟩⟩⟩⟩⟩⟩⟩⟩⟩⟩⟩⟩⟩
        ⟨
          @stp P (.call (.c (.fn (.func n_gazetteerlaw16_whole) [] [])) [(.c v17), (.c v19)]) st ⟨fun v98 st =>
          GhostV [v98] st fun vs st => K (mkres vs) st⟩⟩⟩⟩⟩⟩⟩⟩⟩⟩⟩⟩⟩⟩⟩⟩⟩⟩⟩⟩⟩⟩⟩⟩⟩⟩⟩⟩⟩⟩⟩⟩⟩⟩⟩⟩⟩⟩⟩
theorem q_gazetteerlaw16_GraphReaches {P : Program} {a0 a1 : V} {st : St} {K : V → St → Prop} : F_gazetteerlaw16_GraphReaches P a0 a1 st K = hwp P c_gazetteerlaw16_GraphReaches (hretQ [.tmp 4] K) (enterFr [a0, a1]) st := by kernel_rfl
abbrev R_gazetteerlaw16_GraphReaches (P : Program) : Prop := resFnH P n_gazetteerlaw16_GraphReaches = some (99, c_gazetteerlaw16_GraphReaches.er, [.tmp 4])
theorem A_gazetteerlaw16_GraphReaches {P : Program} (h : R_gazetteerlaw16_GraphReaches P) {a0 a1 : V} {st : St} {K : V → St → Prop} (hF : F_gazetteerlaw16_GraphReaches P a0 a1 st K) : ACalls P n_gazetteerlaw16_GraphReaches [a0, a1] st K :=
  ACalls_h h rfl (by simp) (q_gazetteerlaw16_GraphReaches ▸ hF)

def c_gazetteerlaw16_GraphRings : ACode := (.seq (.reg [⟨(some 2), none, (.mov (.c (.bool false)))⟩]) (.seq (.seq (.reg [⟨(some 12), none, (.call (.c (.fn (.func n_gazetteerlaw16_wakes) [] [])) [])⟩, ⟨(some 13), none, (.un .not (.s 12))⟩]) (.cond (.s 13) (.seq (.reg [⟨(some 2), none, (.mov (.c (.bool false)))⟩]) .ret) .skip)) (.seq (.reg [⟨(some 14), none, (.mov (.s 0))⟩, ⟨(some 15), none, (.call (.c (.fn (.func n_gazetteerlaw16_few) [] [])) [(.s 14)])⟩, ⟨(some 0), none, (.mov (.s 15))⟩]) (.seq (.reg [⟨(some 17), none, (.mov (.s 0))⟩, ⟨(some 18), none, (.call (.c (.fn (.func n_graph_On) [] [])) [(.s 17)])⟩, ⟨(some 16), none, (.mov (.s 18))⟩, ⟨(some 19), none, (.ext 0 (.s 16))⟩, ⟨(some 20), none, (.ext 1 (.s 16))⟩, ⟨(some 3), none, (.mov (.s 19))⟩, ⟨(some 4), none, (.mov (.s 20))⟩]) (.seq (.seq (.reg [⟨(some 21), none, (.mov (.s 4))⟩, ⟨(some 22), none, (.bin .neq (.s 21) (.c (.int .i64 0)))⟩]) (.cond (.s 22) (.seq (.reg [⟨(some 23), none, (.mov (.s 3))⟩, ⟨(some 24), none, (.len .sl (.s 23))⟩, ⟨(some 25), none, (.bin .eql (.s 24) (.c (.int .i64 0)))⟩, ⟨(some 2), none, (.mov (.s 25))⟩]) .ret) .skip)) (.seq (.seq (.reg [⟨(some 26), none, (.mov (.s 3))⟩, ⟨(some 27), none, (.len .sl (.s 26))⟩, ⟨(some 28), none, (.mov (.c (.int .i64 0)))⟩]) (.block 0 (.loop [28] [2, 6, 7, 8, 9, 10, 11, 28, 29, 30, 31, 32, 33, 34, 35, 36, 37, 38, 39, 40, 41, 42, 43, 44, 45, 46, 47, 48, 49, 50, 51, 52, 53, 54, 55, 56, 57, 58, 59, 60, 61, 62, 63, 64, 65, 66, 67, 68, 69, 70, 71, 72, 73, 74, 75, 76, 77, 78, 79, 80, 81, 82, 83, 84, 85, 86, 87] (.seq (.reg [⟨(some 29), none, (.bin .lss (.s 28) (.s 27))⟩]) (.seq (.cond (.s 29) .skip (.exit 0)) (.seq (.block 1 (.seq (.reg [⟨(some 30), none, (.idx 1 (.s 26) (.s 28))⟩, ⟨(some 31), none, (.ld none (.s 30))⟩, ⟨(some 6), none, (.mov (.s 31))⟩]) (.seq (.reg [⟨(some 33), none, (.mov (.s 0))⟩, ⟨(some 34), none, (.mov (.s 6))⟩, ⟨(some 35), none, (.call (.c (.fn (.func n_graph_Circle) [] [])) [(.s 33), (.s 34)])⟩, ⟨(some 32), none, (.mov (.s 35))⟩, ⟨(some 36), none, (.ext 0 (.s 32))⟩, ⟨(some 37), none, (.ext 1 (.s 32))⟩, ⟨(some 7), none, (.mov (.s 36))⟩, ⟨(some 8), none, (.mov (.s 37))⟩]) (.seq (.seq (.reg [⟨(some 38), none, (.mov (.s 8))⟩, ⟨(some 39), none, (.bin .neq (.s 38) (.c (.int .i64 0)))⟩, ⟨(some 40), none, (.mov (.s 39))⟩, ⟨(some 41), (some (40, false)), (.mov (.s 7))⟩, ⟨(some 42), (some (40, false)), (.len .sl (.s 41))⟩, ⟨(some 43), (some (40, false)), (.bin .eql (.s 42) (.c (.int .i64 0)))⟩, ⟨(some 44), none, (.pick (.s 40) (.c (.bool true)) (.s 43))⟩, ⟨(some 45), none, (.mov (.s 44))⟩, ⟨(some 46), (some (45, false)), (.mov (.s 7))⟩, ⟨(some 47), (some (45, false)), (.idx 1 (.s 46) (.c (.int .i64 0)))⟩, ⟨(some 48), (some (45, false)), (.ld none (.s 47))⟩, ⟨(some 49), (some (45, false)), (.mov (.s 6))⟩, ⟨(some 50), (some (45, false)), (.bin .neq (.s 48) (.s 49))⟩, ⟨(some 51), none, (.pick (.s 45) (.c (.bool true)) (.s 50))⟩]) (.cond (.s 51) (.seq (.reg [⟨(some 2), none, (.mov (.c (.bool false)))⟩]) .ret) .skip)) (.seq (.reg [⟨(some 52), none, (.mov (.s 7))⟩, ⟨(some 53), none, (.len .sl (.s 52))⟩, ⟨(some 54), none, (.mov (.c (.int .i64 0)))⟩]) (.block 2 (.loop [54] [2, 9, 10, 11, 54, 55, 56, 57, 58, 59, 60, 61, 62, 63, 64, 65, 66, 67, 68, 69, 70, 71, 72, 73, 74, 75, 76, 77, 78, 79, 80, 81, 82, 83, 84, 85, 86] (.seq (.reg [⟨(some 55), none, (.bin .lss (.s 54) (.s 53))⟩]) (.seq (.cond (.s 55) .skip (.exit 2)) (.seq (.block 3 (.seq (.reg [⟨(some 56), none, (.mov (.s 54))⟩, ⟨(some 57), none, (.idx 1 (.s 52) (.s 54))⟩, ⟨(some 58), none, (.ld none (.s 57))⟩, ⟨(some 9), none, (.mov (.s 56))⟩, ⟨(some 10), none, (.mov (.s 58))⟩]) (.seq (.reg [⟨(some 59), none, (.mov (.s 7))⟩, ⟨(some 60), none, (.mov (.s 9))⟩, ⟨(some 61), none, (.bin .add (.s 60) (.c (.int .i64 1)))⟩, ⟨(some 62), none, (.mov (.s 7))⟩, ⟨(some 63), none, (.len .sl (.s 62))⟩, ⟨(some 64), none, (.bin .rem (.s 61) (.s 63))⟩, ⟨(some 65), none, (.idx 1 (.s 59) (.s 64))⟩, ⟨(some 66), none, (.ld none (.s 65))⟩, ⟨(some 11), none, (.mov (.s 66))⟩]) (.seq (.reg [⟨(some 67), none, (.mov (.s 0))⟩, ⟨(some 68), none, (.mov (.s 10))⟩, ⟨(some 69), none, (.mov (.s 11))⟩, ⟨(some 70), none, (.build [(.int .u64 0), (.int .u64 0)] [(0, (1, (.s 68))), (1, (1, (.s 69)))])⟩, ⟨(some 71), none, (.call (.c (.fn (.func n_slices_Contains_Edge_Edge) [] [])) [(.s 67), (.s 70)])⟩, ⟨(some 72), none, (.un .not (.s 71))⟩, ⟨(some 73), none, (.mov (.s 72))⟩, ⟨(some 74), (some (73, false)), (.mov (.s 3))⟩, ⟨(some 75), (some (73, false)), (.mov (.s 10))⟩, ⟨(some 76), (some (73, false)), (.call (.c (.fn (.func n_slices_Contains_uint64_uint64) [] [])) [(.s 74), (.s 75)])⟩, ⟨(some 77), (some (73, false)), (.un .not (.s 76))⟩, ⟨(some 78), none, (.pick (.s 73) (.c (.bool true)) (.s 77))⟩, ⟨(some 79), none, (.mov (.s 78))⟩, ⟨(some 80), (some (79, false)), (.mov (.s 7))⟩, ⟨(some 81), (some (79, false)), (.mov (.s 9))⟩, ⟨(some 82), (some (79, false)), (.slice 1 (.s 80) none (some (.s 81)) none)⟩, ⟨(some 83), (some (79, false)), (.mov (.s 10))⟩, ⟨(some 84), (some (79, false)), (.call (.c (.fn (.func n_slices_Contains_uint64_uint64) [] [])) [(.s 82), (.s 83)])⟩, ⟨(some 85), none, (.pick (.s 79) (.c (.bool true)) (.s 84))⟩]) (.cond (.s 85) (.seq (.reg [⟨(some 2), none, (.mov (.c (.bool false)))⟩]) .ret) .skip))))) (.reg [⟨(some 86), none, (.bin .add (.s 54) (.c (.int .i64 1)))⟩, ⟨(some 54), none, (.mov (.s 86))⟩]))))))))))) (.reg [⟨(some 87), none, (.bin .add (.s 28) (.c (.int .i64 1)))⟩, ⟨(some 28), none, (.mov (.s 87))⟩]))))))) (.seq (.reg [⟨(some 2), none, (.mov (.c (.bool true)))⟩]) .ret)))))))
def F_gazetteerlaw16_GraphRings (P : Program) (a0 : V) (st : St) (K : V → St → Prop) : Prop :=
  @stp P (.call (.c (.fn (.func n_gazetteerlaw16_wakes) [] [])) []) st ⟨fun v12 st =>
  @stp P (.un .not (.c v12)) st ⟨fun v13 st =>
  @cnd v13 ⟨
    GhostV [(.bool false)] st fun vs st => K (mkres vs) st⟩
  ⟨
    @stp P (.call (.c (.fn (.func n_gazetteerlaw16_few) [] [])) [(.c a0)]) st ⟨fun v15 st =>
    @stp P (.call (.c (.fn (.func n_graph_On) [] [])) [(.c v15)]) st ⟨fun v18 st =>
    @stp P (.ext 0 (.c v18)) st ⟨fun v19 st =>
    @stp P (.ext 1 (.c v18)) st ⟨fun v20 st =>
    @stp P (.bin .neq (.c v20) (.c (.int .i64 0))) st ⟨fun v22 st =>
    @cnd v22 ⟨
      @stp P (.len .sl (.c v19)) st ⟨fun v24 st =>
      @stp P (.bin .eql (.c v24) (.c (.int .i64 0))) st ⟨fun v25 st =>
      GhostV [v25] st fun vs st => K (mkres vs) st⟩⟩⟩
    ⟨
      @stp P (.len .sl (.c v19)) st ⟨fun v27 st =>
      @Hold ⟨∃ I1 : Nat → Rel 1, (∃ k, GhostV [(.int .i64 0)] st (app (I1 k))) ∧ ∀ k1 v28, ∀ st, app (I1 k1) [v28] st →
        @stp P (.bin .lss (.c v28) (.c v27)) st ⟨fun v29 st =>
        @cnd v29 ⟨
          @stp P (.idx 1 (.c v19) (.c v28)) st ⟨fun v30 st =>
          @stp P (.ld none (.c v30)) st ⟨fun v31 st =>
          @stp P (.call (.c (.fn (.func n_graph_Circle) [] [])) [(.c v15), (.c v31)]) st ⟨fun v35 st =>
          @stp P (.ext 0 (.c v35)) st ⟨fun v36 st =>
          @stp P (.ext 1 (.c v35)) st ⟨fun v37 st =>
          @stp P (.bin .neq (.c v37) (.c (.int .i64 0))) st ⟨fun v39 st =>
          @gst P v39 false (.mov (.c v36)) st ⟨fun v41 st =>
          @gst P v39 false (.len .sl (.c v41)) st ⟨fun v42 st =>
          @gst P v39 false (.bin .eql (.c v42) (.c (.int .i64 0))) st ⟨fun v43 st =>
          @stp P (.pick (.c v39) (.c (.bool true)) (.c v43)) st ⟨fun v44 st =>
          @gst P v44 false (.mov (.c v36)) st ⟨fun v46 st =>
          @gst P v44 false (.idx 1 (.c v46) (.c (.int .i64 0))) st ⟨fun v47 st =>
          @gst P v44 false (.ld none (.c v47)) st ⟨fun v48 st =>
          @gst P v44 false (.mov (.c v31)) st ⟨fun v49 st =>
          @gst P v44 false (.bin .neq (.c v48) (.c v49)) st ⟨fun v50 st =>
          @stp P (.pick (.c v44) (.c (.bool true)) (.c v50)) st ⟨fun v51 st =>
          @cnd v51 ⟨
            GhostV [(.bool false)] st fun vs st => K (mkres vs) st⟩
          ⟨
            @stp P (.len .sl (.c v36)) st ⟨fun v53 st =>
            @Hold ⟨∃ I2 : Nat → Rel 1, (∃ k, GhostV [(.int .i64 0)] st (app (I2 k))) ∧ ∀ k2 v54, ∀ st, app (I2 k2) [v54] st →
              @stp P (.bin .lss (.c v54) (.c v53)) st ⟨fun v55 st =>
              @cnd v55 ⟨
                @stp P (.idx 1 (.c v36) (.c v54)) st ⟨fun v57 st =>
                @stp P (.ld none (.c v57)) st ⟨fun v58 st =>
                @stp P (.bin .add (.c v54) (.c (.int .i64 1))) st ⟨fun v61 st =>
                @stp P (.len .sl (.c v36)) st ⟨fun v63 st =>
                @stp P (.bin .rem (.c v61) (.c v63)) st ⟨fun v64 st =>
                @stp P (.idx 1 (.c v36) (.c v64)) st ⟨fun v65 st =>
                @stp P (.ld none (.c v65)) st ⟨fun v66 st =>
                @stp P (.build [(.int .u64 0), (.int .u64 0)] [(0, 1, (.c v58)), (1, 1, (.c v66))]) st ⟨fun v70 st =>
                @stp P (.call (.c (.fn (.func n_slices_Contains_Edge_Edge) [] [])) [(.c v15), (.c v70)]) st ⟨fun v71 st =>
                @stp P (.un .not (.c v71)) st ⟨fun v72 st =>
                @gst P v72 false (.mov (.c v19)) st ⟨fun v74 st =>
                @gst P v72 false (.mov (.c v58)) st ⟨fun v75 st =>
                @gst P v72 false (.call (.c (.fn (.func n_slices_Contains_uint64_uint64) [] [])) [(.c v74), (.c v75)]) st ⟨fun v76 st =>
                @gst P v72 false (.un .not (.c v76)) st ⟨fun v77 st =>
                @stp P (.pick (.c v72) (.c (.bool true)) (.c v77)) st ⟨fun v78 st =>
                @gst P v78 false (.mov (.c v36)) st ⟨fun v80 st =>
                @gst P v78 false (.mov (.c v54)) st ⟨fun v81 st =>
                @gst P v78 false (.slice 1 (.c v80) none (some (.c v81)) none) st ⟨fun v82 st =>
                @gst P v78 false (.mov (.c v58)) st ⟨fun v83 st =>
                @gst P v78 false (.call (.c (.fn (.func n_slices_Contains_uint64_uint64) [] [])) [(.c v82), (.c v83)]) st ⟨fun v84 st =>
                @stp P (.pick (.c v78) (.c (.bool true)) (.c v84)) st ⟨fun v85 st =>
                @cnd v85 ⟨
                  GhostV [(.bool false)] st fun vs st => K (mkres vs) st⟩
                ⟨
                  @stp P (.bin .add (.c v54) (.c (.int .i64 1))) st ⟨fun v86 st =>
                  ∃ j, j < k2 ∧ GhostV [v86] st (app (I2 j))⟩⟩⟩⟩⟩⟩⟩⟩⟩⟩⟩⟩⟩⟩⟩⟩⟩⟩⟩⟩⟩⟩⟩⟩
              ⟨
                @stp P (.bin .add (.c v28) (.c (.int .i64 1))) st ⟨fun v87 st =>
                ∃ j, j < k1 ∧ GhostV [v87] st (app (I1 j))⟩⟩⟩⟩⟩⟩⟩⟩⟩⟩⟩⟩⟩⟩⟩⟩⟩⟩⟩⟩⟩⟩⟩
        ⟨
          GhostV [(.bool true)] st fun vs st => K (mkres vs) st⟩⟩⟩⟩⟩⟩⟩⟩⟩⟩⟩⟩⟩
theorem q_gazetteerlaw16_GraphRings {P : Program} {a0 : V} {st : St} {K : V → St → Prop} : F_gazetteerlaw16_GraphRings P a0 st K = hwp P c_gazetteerlaw16_GraphRings (hretQ [.tmp 2] K) (enterFr [a0]) st := by kernel_rfl
abbrev R_gazetteerlaw16_GraphRings (P : Program) : Prop := resFnH P n_gazetteerlaw16_GraphRings = some (88, c_gazetteerlaw16_GraphRings.er, [.tmp 2])
theorem A_gazetteerlaw16_GraphRings {P : Program} (h : R_gazetteerlaw16_GraphRings P) {a0 : V} {st : St} {K : V → St → Prop} (hF : F_gazetteerlaw16_GraphRings P a0 st K) : ACalls P n_gazetteerlaw16_GraphRings [a0] st K :=
  ACalls_h h rfl (by simp) (q_gazetteerlaw16_GraphRings ▸ hF)

def c_gazetteerlaw16_GraphVictims : ACode := (.seq (.reg [⟨(some 4), none, (.mov (.c (.bool false)))⟩]) (.seq (.seq (.reg [⟨(some 22), none, (.call (.c (.fn (.func n_gazetteerlaw16_wakes) [] [])) [])⟩, ⟨(some 23), none, (.un .not (.s 22))⟩]) (.cond (.s 23) (.seq (.reg [⟨(some 4), none, (.mov (.c (.bool false)))⟩]) .ret) .skip)) (.seq (.reg [⟨(some 24), none, (.mov (.s 0))⟩, ⟨(some 25), none, (.call (.c (.fn (.func n_gazetteerlaw16_few) [] [])) [(.s 24)])⟩, ⟨(some 26), none, (.mov (.s 0))⟩, ⟨(some 27), none, (.call (.c (.fn (.func n_gazetteerlaw16_few) [] [])) [(.s 26)])⟩, ⟨(some 5), none, (.mov (.s 25))⟩, ⟨(some 6), none, (.mov (.s 27))⟩]) (.seq (.reg [⟨(some 28), none, (.mov (.s 6))⟩, ⟨(some 29), none, (.call (.c (.fn (.func n_gazetteerref16_Wrong) [] [])) [(.s 28)])⟩, ⟨(some 7), none, (.mov (.s 29))⟩]) (.seq (.seq (.reg [⟨(some 30), none, (.mov (.s 1))⟩, ⟨(some 31), none, (.len .sl (.s 30))⟩, ⟨(some 32), none, (.mov (.c (.int .i64 0)))⟩]) (.block 0 (.loop [32] [4, 8, 9, 10, 11, 12, 13, 14, 15, 16, 18, 19, 20, 21, 32, 33, 34, 35, 36, 37, 38, 39, 40, 41, 42, 43, 44, 45, 46, 47, 48, 49, 50, 51, 52, 53, 54, 55, 56, 57, 58, 59, 60, 61, 62, 63, 64, 65, 66, 67, 68, 69, 70, 71, 72, 73, 74, 75, 76, 77, 78, 79, 80, 81, 82, 83, 84, 85, 86, 87, 88, 89, 90, 91, 92, 93, 94, 95, 96, 97, 98, 99, 100, 101, 102, 103, 104, 105, 106, 107, 108, 109, 110, 111, 112, 113, 114, 115, 116, 117, 118, 119, 120, 121, 122, 123, 124, 125, 126, 127, 128, 129, 130] (.seq (.reg [⟨(some 33), none, (.bin .lss (.s 32) (.s 31))⟩]) (.seq (.cond (.s 33) .skip (.exit 0)) (.seq (.block 1 (.seq (.reg [⟨(some 34), none, (.mov (.s 32))⟩, ⟨(some 35), none, (.idx 1 (.s 30) (.s 32))⟩, ⟨(some 36), none, (.ld none (.s 35))⟩, ⟨(some 8), none, (.mov (.s 34))⟩, ⟨(some 9), none, (.mov (.s 36))⟩]) (.seq (.seq (.reg [⟨(some 37), none, (.mov (.s 8))⟩, ⟨(some 38), none, (.bin .eql (.s 37) (.c (.int .i64 8)))⟩]) (.cond (.s 38) (.exit 0) .skip)) (.seq (.reg [⟨(some 39), none, (.mkSl 1 0 [(.int .u64 0)] [])⟩, ⟨(some 40), none, (.mov (.s 9))⟩, ⟨(some 41), none, (.mov (.s 9))⟩, ⟨(some 42), none, (.len .sl (.s 41))⟩, ⟨(some 43), none, (.minmax false (.s 42) [(.c (.int .i64 40))])⟩, ⟨(some 44), none, (.slice 1 (.s 40) none (some (.s 43)) none)⟩, ⟨(some 45), none, (.append 1 8 (.s 39) (.s 44))⟩, ⟨(some 10), none, (.mov (.s 45))⟩]) (.seq (.reg [⟨(some 46), none, (.mkSl 1 0 [(.int .u64 0)] [])⟩, ⟨(some 47), none, (.mov (.s 10))⟩, ⟨(some 48), none, (.append 1 8 (.s 46) (.s 47))⟩, ⟨(some 11), none, (.mov (.s 48))⟩]) (.seq (.reg [⟨(some 50), none, (.mov (.s 5))⟩, ⟨(some 51), none, (.mov (.s 10))⟩, ⟨(some 52), none, (.call (.c (.fn (.func n_graph_Victim) [] [])) [(.s 50), (.s 51)])⟩, ⟨(some 49), none, (.mov (.s 52))⟩, ⟨(some 53), none, (.ext 0 (.s 49))⟩, ⟨(some 54), none, (.ext 1 (.s 49))⟩, ⟨(some 55), none, (.ext 2 (.s 49))⟩, ⟨(some 12), none, (.mov (.s 53))⟩, ⟨(some 13), none, (.mov (.s 54))⟩, ⟨(some 14), none, (.mov (.s 55))⟩]) (.seq (.reg [⟨(some 15), none, (.mov (.c (.int .u64 0)))⟩, ⟨(some 16), none, (.mov (.c (.bool false)))⟩]) (.join [15, 16] [15, 16, 56, 57, 58, 59, 60, 61, 62, 63] (.seq (.reg [⟨(some 56), none, (.mov (.s 7))⟩, ⟨(some 57), none, (.bin .eql (.s 56) (.c (.int .i64 0)))⟩]) (.cond (.s 57) (.reg [⟨(some 59), none, (.mov (.s 6))⟩, ⟨(some 60), none, (.mov (.s 11))⟩, ⟨(some 61), none, (.call (.c (.fn (.func n_gazetteerref16_Victim) [] [])) [(.s 59), (.s 60)])⟩, ⟨(some 58), none, (.mov (.s 61))⟩, ⟨(some 62), none, (.ext 0 (.s 58))⟩, ⟨(some 63), none, (.ext 1 (.s 58))⟩, ⟨(some 15), none, (.mov (.s 62))⟩, ⟨(some 16), none, (.mov (.s 63))⟩]) .skip)) (.seq (.seq (.reg [⟨(some 64), none, (.mov (.s 14))⟩, ⟨(some 65), none, (.mov (.s 7))⟩, ⟨(some 66), none, (.bin .neq (.s 64) (.s 65))⟩, ⟨(some 67), none, (.mov (.s 66))⟩, ⟨(some 68), (some (67, false)), (.mov (.s 12))⟩, ⟨(some 69), (some (67, false)), (.mov (.s 15))⟩, ⟨(some 70), (some (67, false)), (.bin .neq (.s 68) (.s 69))⟩, ⟨(some 71), none, (.pick (.s 67) (.c (.bool true)) (.s 70))⟩, ⟨(some 72), none, (.mov (.s 71))⟩, ⟨(some 73), (some (72, false)), (.mov (.s 13))⟩, ⟨(some 74), (some (72, false)), (.mov (.s 16))⟩, ⟨(some 75), (some (72, false)), (.eqs true .bool (.s 73) (.s 74))⟩, ⟨(some 76), none, (.pick (.s 72) (.c (.bool true)) (.s 75))⟩, ⟨(some 77), none, (.mov (.s 76))⟩, ⟨(some 78), (some (77, false)), (.mov (.s 10))⟩, ⟨(some 79), (some (77, false)), (.mov (.s 11))⟩, ⟨(some 80), (some (77, false)), (.call (.c (.fn (.func n_gazetteerref16_Same) [] [])) [(.s 78), (.s 79)])⟩, ⟨(some 81), (some (77, false)), (.un .not (.s 80))⟩, ⟨(some 82), none, (.pick (.s 77) (.c (.bool true)) (.s 81))⟩]) (.cond (.s 82) (.seq (.reg [⟨(some 4), none, (.mov (.c (.bool false)))⟩]) .ret) .skip)) (.seq (.reg [⟨(some 83), none, (.mov (.s 11))⟩, ⟨(some 84), none, (.len .sl (.s 83))⟩, ⟨(some 85), none, (.mov (.c (.int .i64 0)))⟩]) (.block 2 (.loop [85] [4, 18, 19, 20, 21, 85, 86, 87, 88, 89, 90, 91, 92, 93, 94, 95, 96, 97, 98, 99, 100, 101, 102, 103, 104, 105, 106, 107, 108, 109, 110, 111, 112, 113, 114, 115, 116, 117, 118, 119, 120, 121, 122, 123, 124, 125, 126, 127, 128, 129] (.seq (.reg [⟨(some 86), none, (.bin .lss (.s 85) (.s 84))⟩]) (.seq (.cond (.s 86) .skip (.exit 2)) (.seq (.block 3 (.seq (.reg [⟨(some 87), none, (.idx 1 (.s 83) (.s 85))⟩, ⟨(some 88), none, (.ld none (.s 87))⟩, ⟨(some 18), none, (.mov (.s 88))⟩]) (.seq (.reg [⟨(some 90), none, (.mov (.s 5))⟩, ⟨(some 91), none, (.mov (.s 18))⟩, ⟨(some 92), none, (.call (.c (.fn (.func n_graph_Without) [] [])) [(.s 90), (.s 91)])⟩, ⟨(some 89), none, (.mov (.s 92))⟩, ⟨(some 93), none, (.ext 0 (.s 89))⟩, ⟨(some 94), none, (.ext 1 (.s 89))⟩, ⟨(some 19), none, (.mov (.s 93))⟩, ⟨(some 20), none, (.mov (.s 94))⟩]) (.seq (.seq (.reg [⟨(some 95), none, (.mov (.s 20))⟩, ⟨(some 96), none, (.mov (.s 7))⟩, ⟨(some 97), none, (.bin .neq (.s 95) (.s 96))⟩, ⟨(some 98), none, (.mov (.s 97))⟩, ⟨(some 99), (some (98, false)), (.mov (.s 7))⟩, ⟨(some 100), (some (98, false)), (.bin .neq (.s 99) (.c (.int .i64 0)))⟩, ⟨(some 101), (some (98, false)), (.mov (.s 100))⟩, ⟨(some 102), (some (101, true)), (.mov (.s 19))⟩, ⟨(some 103), (some (101, true)), (.len .sl (.s 102))⟩, ⟨(some 104), (some (101, true)), (.bin .neq (.s 103) (.c (.int .i64 0)))⟩, ⟨(some 105), (some (98, false)), (.pick (.s 101) (.s 104) (.c (.bool false)))⟩, ⟨(some 106), none, (.pick (.s 98) (.c (.bool true)) (.s 105))⟩, ⟨(some 107), none, (.mov (.s 106))⟩, ⟨(some 108), (some (107, false)), (.mov (.s 7))⟩, ⟨(some 109), (some (107, false)), (.bin .eql (.s 108) (.c (.int .i64 0)))⟩, ⟨(some 110), (some (107, false)), (.mov (.s 109))⟩, ⟨(some 111), (some (110, true)), (.mov (.s 19))⟩, ⟨(some 112), (some (110, true)), (.mov (.s 6))⟩, ⟨(some 113), (some (110, true)), (.mov (.s 18))⟩, ⟨(some 114), (some (110, true)), (.call (.c (.fn (.func n_gazetteerref16_Without) [] [])) [(.s 112), (.s 113)])⟩, ⟨(some 115), (some (110, true)), (.call (.c (.fn (.func n_gazetteerref16_SameEdges) [] [])) [(.s 111), (.s 114)])⟩, ⟨(some 116), (some (110, true)), (.un .not (.s 115))⟩, ⟨(some 117), (some (107, false)), (.pick (.s 110) (.s 116) (.c (.bool false)))⟩, ⟨(some 118), none, (.pick (.s 107) (.c (.bool true)) (.s 117))⟩]) (.cond (.s 118) (.seq (.reg [⟨(some 4), none, (.mov (.c (.bool false)))⟩]) .ret) .skip)) (.seq (.reg [⟨(some 119), none, (.mov (.s 19))⟩, ⟨(some 120), none, (.len .sl (.s 119))⟩, ⟨(some 121), none, (.mov (.c (.int .i64 0)))⟩]) (.block 4 (.loop [121] [21, 121, 122, 123, 124, 125, 126, 127, 128] (.seq (.reg [⟨(some 122), none, (.bin .lss (.s 121) (.s 120))⟩]) (.seq (.cond (.s 122) .skip (.exit 4)) (.seq (.block 5 (.seq (.reg [⟨(some 123), none, (.mov (.s 121))⟩, ⟨(some 21), none, (.mov (.s 123))⟩]) (.reg [⟨(some 124), none, (.mov (.s 19))⟩, ⟨(some 125), none, (.mov (.s 21))⟩, ⟨(some 126), none, (.idx 2 (.s 124) (.s 125))⟩, ⟨(some 127), none, (.fld 0 (.s 126))⟩, ⟨none, none, (.st 1 (.s 127) (.c (.int .u64 99)))⟩]))) (.reg [⟨(some 128), none, (.bin .add (.s 121) (.c (.int .i64 1)))⟩, ⟨(some 121), none, (.mov (.s 128))⟩]))))))))))) (.reg [⟨(some 129), none, (.bin .add (.s 85) (.c (.int .i64 1)))⟩, ⟨(some 85), none, (.mov (.s 129))⟩])))))))))))))))) (.reg [⟨(some 130), none, (.bin .add (.s 32) (.c (.int .i64 1)))⟩, ⟨(some 32), none, (.mov (.s 130))⟩]))))))) (.seq (.reg [⟨(some 131), none, (.mov (.s 5))⟩, ⟨(some 132), none, (.mov (.s 6))⟩, ⟨(some 133), none, (.call (.c (.fn (.func n_gazetteerlaw16_whole) [] [])) [(.s 131), (.s 132)])⟩, ⟨(some 4), none, (.mov (.s 133))⟩]) .ret))))))
def F_gazetteerlaw16_GraphVictims (P : Program) (a0 a1 : V) (st : St) (K : V → St → Prop) : Prop :=
  @stp P (.call (.c (.fn (.func n_gazetteerlaw16_wakes) [] [])) []) st ⟨fun v22 st =>
  @stp P (.un .not (.c v22)) st ⟨fun v23 st =>
  @cnd v23 ⟨
    GhostV [(.bool false)] st fun vs st => K (mkres vs) st⟩
  ⟨
    @stp P (.call (.c (.fn (.func n_gazetteerlaw16_few) [] [])) [(.c a0)]) st ⟨fun v25 st =>
    @stp P (.call (.c (.fn (.func n_gazetteerlaw16_few) [] [])) [(.c a0)]) st ⟨fun v27 st =>
    @stp P (.call (.c (.fn (.func n_gazetteerref16_Wrong) [] [])) [(.c v27)]) st ⟨fun v29 st =>
    @stp P (.len .sl (.c a1)) st ⟨fun v31 st =>
    @Hold ⟨∃ I1 : Nat → Rel 1, (∃ k, GhostV [(.int .i64 0)] st (app (I1 k))) ∧ ∀ k1 v32, ∀ st, app (I1 k1) [v32] st →
      @stp P (.bin .lss (.c v32) (.c v31)) st ⟨fun v33 st =>
      @cnd v33 ⟨
        @stp P (.idx 1 (.c a1) (.c v32)) st ⟨fun v35 st =>
        @stp P (.ld none (.c v35)) st ⟨fun v36 st =>
        @stp P (.bin .eql (.c v32) (.c (.int .i64 8))) st ⟨fun v38 st =>
        @cnd v38 ⟨
          @stp P (.call (.c (.fn (.func n_gazetteerlaw16_whole) [] [])) [(.c v25), (.c v27)]) st ⟨fun v133 st =>
          GhostV [v133] st fun vs st => K (mkres vs) st⟩⟩
        ⟨
          @stp P (.mkSl 1 0 [(.int .u64 0)] []) st ⟨fun v39 st =>
          @stp P (.len .sl (.c v36)) st ⟨fun v42 st =>
          @stp P (.minmax false (.c v42) [(.c (.int .i64 40))]) st ⟨fun v43 st =>
          @stp P (.slice 1 (.c v36) none (some (.c v43)) none) st ⟨fun v44 st =>
          @stp P (.append 1 8 (.c v39) (.c v44)) st ⟨fun v45 st =>
          @stp P (.mkSl 1 0 [(.int .u64 0)] []) st ⟨fun v46 st =>
          @stp P (.append 1 8 (.c v46) (.c v45)) st ⟨fun v48 st =>
          @stp P (.call (.c (.fn (.func n_graph_Victim) [] [])) [(.c v25), (.c v45)]) st ⟨fun v52 st =>
          @stp P (.ext 0 (.c v52)) st ⟨fun v53 st =>
          @stp P (.ext 1 (.c v52)) st ⟨fun v54 st =>
          @stp P (.ext 2 (.c v52)) st ⟨fun v55 st =>
          @Hold ⟨∃ J2 : Rel 2, (
            @stp P (.bin .eql (.c v29) (.c (.int .i64 0))) st ⟨fun v57 st =>
            @cnd v57 ⟨
              @stp P (.call (.c (.fn (.func n_gazetteerref16_Victim) [] [])) [(.c v27), (.c v48)]) st ⟨fun v61 st =>
              @stp P (.ext 0 (.c v61)) st ⟨fun v62 st =>
              @stp P (.ext 1 (.c v61)) st ⟨fun v63 st =>
              GhostV [v62, v63] st (app J2)⟩⟩⟩⟩
            ⟨
              GhostV [(.int .u64 0), (.bool false)] st (app J2)⟩⟩) ∧
          ∀ v15 v16 st, app J2 [v15, v16] st →
            @stp P (.bin .neq (.c v55) (.c v29)) st ⟨fun v66 st =>
            @gst P v66 false (.mov (.c v53)) st ⟨fun v68 st =>
            @gst P v66 false (.mov (.c v15)) st ⟨fun v69 st =>
            @gst P v66 false (.bin .neq (.c v68) (.c v69)) st ⟨fun v70 st =>
            @stp P (.pick (.c v66) (.c (.bool true)) (.c v70)) st ⟨fun v71 st =>
            @gst P v71 false (.mov (.c v54)) st ⟨fun v73 st =>
            @gst P v71 false (.mov (.c v16)) st ⟨fun v74 st =>
            @gst P v71 false (.eqs true .bool (.c v73) (.c v74)) st ⟨fun v75 st =>
            @stp P (.pick (.c v71) (.c (.bool true)) (.c v75)) st ⟨fun v76 st =>
            @gst P v76 false (.mov (.c v45)) st ⟨fun v78 st =>
            @gst P v76 false (.mov (.c v48)) st ⟨fun v79 st =>
            @gst P v76 false (.call (.c (.fn (.func n_gazetteerref16_Same) [] [])) [(.c v78), (.c v79)]) st ⟨fun v80 st =>
            @gst P v76 false (.un .not (.c v80)) st ⟨fun v81 st =>
            @stp P (.pick (.c v76) (.c (.bool true)) (.c v81)) st ⟨fun v82 st =>
            @cnd v82 ⟨
              GhostV [(.bool false)] st fun vs st => K (mkres vs) st⟩
            ⟨
              @stp P (.len .sl (.c v48)) st ⟨fun v84 st =>
              @Hold ⟨∃ I3 : Nat → Rel 1, (∃ k, GhostV [(.int .i64 0)] st (app (I3 k))) ∧ ∀ k3 v85, ∀ st, app (I3 k3) [v85] st →
                @stp P (.bin .lss (.c v85) (.c v84)) st ⟨fun v86 st =>
                @cnd v86 ⟨
                  @stp P (.idx 1 (.c v48) (.c v85)) st ⟨fun v87 st =>
                  @stp P (.ld none (.c v87)) st ⟨fun v88 st =>
                  @stp P (.call (.c (.fn (.func n_graph_Without) [] [])) [(.c v25), (.c v88)]) st ⟨fun v92 st =>
                  @stp P (.ext 0 (.c v92)) st ⟨fun v93 st =>
                  @stp P (.ext 1 (.c v92)) st ⟨fun v94 st =>
                  @stp P (.bin .neq (.c v94) (.c v29)) st ⟨fun v97 st =>
                  @gst P v97 false (.mov (.c v29)) st ⟨fun v99 st =>
                  @gst P v97 false (.bin .neq (.c v99) (.c (.int .i64 0))) st ⟨fun v100 st =>
                  @gst P v97 false (.mov (.c v100)) st ⟨fun v101 st =>
                  @gst P v101 true (.mov (.c v93)) st ⟨fun v102 st =>
                  @gst P v101 true (.len .sl (.c v102)) st ⟨fun v103 st =>
                  @gst P v101 true (.bin .neq (.c v103) (.c (.int .i64 0))) st ⟨fun v104 st =>
                  @gst P v97 false (.pick (.c v101) (.c v104) (.c (.bool false))) st ⟨fun v105 st =>
                  @stp P (.pick (.c v97) (.c (.bool true)) (.c v105)) st ⟨fun v106 st =>
                  @gst P v106 false (.mov (.c v29)) st ⟨fun v108 st =>
                  @gst P v106 false (.bin .eql (.c v108) (.c (.int .i64 0))) st ⟨fun v109 st =>
                  @gst P v106 false (.mov (.c v109)) st ⟨fun v110 st =>
                  @gst P v110 true (.mov (.c v93)) st ⟨fun v111 st =>
                  @gst P v110 true (.mov (.c v27)) st ⟨fun v112 st =>
                  @gst P v110 true (.mov (.c v88)) st ⟨fun v113 st =>
                  @gst P v110 true (.call (.c (.fn (.func n_gazetteerref16_Without) [] [])) [(.c v112), (.c v113)]) st ⟨fun v114 st =>
                  @gst P v110 true (.call (.c (.fn (.func n_gazetteerref16_SameEdges) [] [])) [(.c v111), (.c v114)]) st ⟨fun v115 st =>
                  @gst P v110 true (.un .not (.c v115)) st ⟨fun v116 st =>
                  @gst P v106 false (.pick (.c v110) (.c v116) (.c (.bool false))) st ⟨fun v117 st =>
                  @stp P (.pick (.c v106) (.c (.bool true)) (.c v117)) st ⟨fun v118 st =>
                  @cnd v118 ⟨
                    GhostV [(.bool false)] st fun vs st => K (mkres vs) st⟩
                  ⟨
                    @stp P (.len .sl (.c v93)) st ⟨fun v120 st =>
                    @Hold ⟨∃ I4 : Nat → Rel 1, (∃ k, GhostV [(.int .i64 0)] st (app (I4 k))) ∧ ∀ k4 v121, ∀ st, app (I4 k4) [v121] st →
                      @stp P (.bin .lss (.c v121) (.c v120)) st ⟨fun v122 st =>
                      @cnd v122 ⟨
                        @stp P (.idx 2 (.c v93) (.c v121)) st ⟨fun v126 st =>
                        @stp P (.fld 0 (.c v126)) st ⟨fun v127 st =>
                        @stp P (.st 1 (.c v127) (.c (.int .u64 99))) st ⟨fun _v st =>
                        @stp P (.bin .add (.c v121) (.c (.int .i64 1))) st ⟨fun v128 st =>
                        ∃ j, j < k4 ∧ GhostV [v128] st (app (I4 j))⟩⟩⟩⟩⟩
                      ⟨
                        @stp P (.bin .add (.c v85) (.c (.int .i64 1))) st ⟨fun v129 st =>
                        ∃ j, j < k3 ∧ GhostV [v129] st (app (I3 j))⟩⟩⟩⟩⟩⟩⟩⟩⟩⟩⟩⟩⟩⟩⟩⟩⟩⟩⟩⟩⟩⟩⟩⟩⟩⟩⟩⟩⟩⟩⟩⟩
                ⟨
                  @stp P (.bin .add (.c v32) (.c (.int .i64 1))) st ⟨fun v130 st =>
                  ∃ j, j < k1 ∧ GhostV [v130] st (app (I1 j))⟩⟩⟩⟩⟩⟩⟩⟩⟩⟩⟩⟩⟩⟩⟩⟩⟩⟩⟩⟩⟩⟩⟩⟩⟩⟩⟩⟩⟩⟩⟩⟩⟩⟩⟩⟩⟩
      ⟨
        @stp P (.call (.c (.fn (.func n_gazetteerlaw16_whole) [] [])) [(.c v25), (.c v27)]) st ⟨fun v133 st =>
        GhostV [v133] st fun vs st => K (mkres vs) st⟩⟩⟩⟩⟩⟩⟩⟩⟩⟩⟩
theorem q_gazetteerlaw16_GraphVictims {P : Program} {a0 a1 : V} {st : St} {K : V → St → Prop} : F_gazetteerlaw16_GraphVictims P a0 a1 st K = hwp P c_gazetteerlaw16_GraphVictims (hretQ [.tmp 4] K) (enterFr [a0, a1]) st := by kernel_rfl
abbrev R_gazetteerlaw16_GraphVictims (P : Program) : Prop := resFnH P n_gazetteerlaw16_GraphVictims = some (134, c_gazetteerlaw16_GraphVictims.er, [.tmp 4])
theorem A_gazetteerlaw16_GraphVictims {P : Program} (h : R_gazetteerlaw16_GraphVictims P) {a0 a1 : V} {st : St} {K : V → St → Prop} (hF : F_gazetteerlaw16_GraphVictims P a0 a1 st K) : ACalls P n_gazetteerlaw16_GraphVictims [a0, a1] st K :=
  ACalls_h h rfl (by simp) (q_gazetteerlaw16_GraphVictims ▸ hF)

def c_gazetteerlaw16_GraphSteps : ACode := (.seq (.reg [⟨(some 4), none, (.mov (.c (.bool false)))⟩]) (.seq (.seq (.reg [⟨(some 12), none, (.call (.c (.fn (.func n_gazetteerlaw16_wakes) [] [])) [])⟩, ⟨(some 13), none, (.un .not (.s 12))⟩]) (.cond (.s 13) (.seq (.reg [⟨(some 4), none, (.mov (.c (.bool false)))⟩]) .ret) .skip)) (.seq (.reg [⟨(some 14), none, (.mov (.s 0))⟩, ⟨(some 15), none, (.call (.c (.fn (.func n_gazetteerlaw16_few) [] [])) [(.s 14)])⟩, ⟨(some 0), none, (.mov (.s 15))⟩]) (.seq (.reg [⟨(some 17), none, (.mov (.s 0))⟩, ⟨(some 18), none, (.mov (.s 1))⟩, ⟨(some 19), none, (.call (.c (.fn (.func n_graph_Reach) [] [])) [(.s 17), (.s 18)])⟩, ⟨(some 16), none, (.mov (.s 19))⟩, ⟨(some 20), none, (.ext 0 (.s 16))⟩, ⟨(some 21), none, (.ext 1 (.s 16))⟩, ⟨(some 5), none, (.mov (.s 20))⟩, ⟨(some 6), none, (.mov (.s 21))⟩]) (.seq (.seq (.reg [⟨(some 22), none, (.mov (.s 6))⟩, ⟨(some 23), none, (.bin .neq (.s 22) (.c (.int .i64 0)))⟩]) (.cond (.s 23) (.seq (.reg [⟨(some 24), none, (.mov (.s 5))⟩, ⟨(some 25), none, (.len .sl (.s 24))⟩, ⟨(some 26), none, (.bin .eql (.s 25) (.c (.int .i64 0)))⟩, ⟨(some 4), none, (.mov (.s 26))⟩]) .ret) .skip)) (.seq (.reg [⟨(some 7), none, (.mov (.c (.sl .nil 0 [] [])))⟩]) (.seq (.seq (.reg [⟨(some 27), none, (.mov (.s 0))⟩, ⟨(some 28), none, (.len .sl (.s 27))⟩, ⟨(some 29), none, (.mov (.c (.int .i64 0)))⟩]) (.block 0 (.loop [7, 29] [4, 7, 9, 10, 11, 29, 30, 31, 32, 33, 34, 35, 36, 37, 38, 39, 40, 41, 42, 43, 44, 45, 46, 47, 48, 49, 50, 51, 52, 53] (.seq (.reg [⟨(some 30), none, (.bin .lss (.s 29) (.s 28))⟩]) (.seq (.cond (.s 30) .skip (.exit 0)) (.seq (.block 1 (.seq (.reg [⟨(some 31), none, (.idx 2 (.s 27) (.s 29))⟩, ⟨(some 32), none, (.ld (some 2) (.s 31))⟩, ⟨(some 9), none, (.alloc [(.int .u64 0), (.int .u64 0)])⟩, ⟨none, none, (.st 2 (.s 9) (.s 32))⟩]) (.seq (.seq (.reg [⟨(some 33), none, (.fld 0 (.s 9))⟩, ⟨(some 34), none, (.ld none (.s 33))⟩, ⟨(some 35), none, (.mov (.s 1))⟩, ⟨(some 36), none, (.bin .neq (.s 34) (.s 35))⟩]) (.cond (.s 36) (.exit 1) .skip)) (.seq (.reg [⟨(some 38), none, (.mov (.s 0))⟩, ⟨(some 39), none, (.fld 1 (.s 9))⟩, ⟨(some 40), none, (.ld none (.s 39))⟩, ⟨(some 41), none, (.call (.c (.fn (.func n_graph_Reach) [] [])) [(.s 38), (.s 40)])⟩, ⟨(some 37), none, (.mov (.s 41))⟩, ⟨(some 42), none, (.ext 0 (.s 37))⟩, ⟨(some 43), none, (.ext 1 (.s 37))⟩, ⟨(some 10), none, (.mov (.s 42))⟩, ⟨(some 11), none, (.mov (.s 43))⟩]) (.seq (.seq (.reg [⟨(some 44), none, (.mov (.s 11))⟩, ⟨(some 45), none, (.bin .neq (.s 44) (.c (.int .i64 0)))⟩]) (.cond (.s 45) (.seq (.reg [⟨(some 4), none, (.mov (.c (.bool false)))⟩]) .ret) .skip)) (.reg [⟨(some 46), none, (.mov (.s 7))⟩, ⟨(some 47), none, (.fld 1 (.s 9))⟩, ⟨(some 48), none, (.ld none (.s 47))⟩, ⟨(some 49), none, (.mkSl 1 1 [(.int .u64 0)] [(0, (.s 48))])⟩, ⟨(some 50), none, (.append 1 8 (.s 46) (.s 49))⟩, ⟨(some 51), none, (.mov (.s 10))⟩, ⟨(some 52), none, (.append 1 8 (.s 50) (.s 51))⟩, ⟨(some 7), none, (.mov (.s 52))⟩])))))) (.reg [⟨(some 53), none, (.bin .add (.s 29) (.c (.int .i64 1)))⟩, ⟨(some 29), none, (.mov (.s 53))⟩]))))))) (.seq (.reg [⟨(some 54), none, (.mov (.s 7))⟩, ⟨(some 55), none, (.call (.c (.fn (.func n_slices_Sort_uint64_uint64) [] [])) [(.s 54)])⟩]) (.seq (.reg [⟨(some 56), none, (.mov (.s 5))⟩, ⟨(some 57), none, (.mov (.s 7))⟩, ⟨(some 58), none, (.call (.c (.fn (.func n_slices_Compact_uint64_uint64) [] [])) [(.s 57)])⟩, ⟨(some 59), none, (.call (.c (.fn (.func n_slices_Equal_uint64_uint64) [] [])) [(.s 56), (.s 58)])⟩, ⟨(some 4), none, (.mov (.s 59))⟩]) .ret)))))))))
def F_gazetteerlaw16_GraphSteps (P : Program) (a0 a1 : V) (st : St) (K : V → St → Prop) : Prop :=
  @stp P (.call (.c (.fn (.func n_gazetteerlaw16_wakes) [] [])) []) st ⟨fun v12 st =>
  @stp P (.un .not (.c v12)) st ⟨fun v13 st =>
  @cnd v13 ⟨
    GhostV [(.bool false)] st fun vs st => K (mkres vs) st⟩
  ⟨
    @stp P (.call (.c (.fn (.func n_gazetteerlaw16_few) [] [])) [(.c a0)]) st ⟨fun v15 st =>
    @stp P (.call (.c (.fn (.func n_graph_Reach) [] [])) [(.c v15), (.c a1)]) st ⟨fun v19 st =>
    @stp P (.ext 0 (.c v19)) st ⟨fun v20 st =>
    @stp P (.ext 1 (.c v19)) st ⟨fun v21 st =>
    @stp P (.bin .neq (.c v21) (.c (.int .i64 0))) st ⟨fun v23 st =>
    @cnd v23 ⟨
      @stp P (.len .sl (.c v20)) st ⟨fun v25 st =>
      @stp P (.bin .eql (.c v25) (.c (.int .i64 0))) st ⟨fun v26 st =>
      GhostV [v26] st fun vs st => K (mkres vs) st⟩⟩⟩
    ⟨
      @stp P (.len .sl (.c v15)) st ⟨fun v28 st =>
      @Hold ⟨∃ I1 : Nat → Rel 2, (∃ k, GhostV [(.sl .nil 0 [] []), (.int .i64 0)] st (app (I1 k))) ∧ ∀ k1 v7 v29, ∀ st, app (I1 k1) [v7, v29] st →
        @stp P (.bin .lss (.c v29) (.c v28)) st ⟨fun v30 st =>
        @cnd v30 ⟨
          @stp P (.idx 2 (.c v15) (.c v29)) st ⟨fun v31 st =>
          @stp P (.ld (some 2) (.c v31)) st ⟨fun v32 st =>
          @stp P (.alloc [(.int .u64 0), (.int .u64 0)]) st ⟨fun v9 st =>
          @stp P (.st 2 (.c v9) (.c v32)) st ⟨fun _v st =>
          @stp P (.fld 0 (.c v9)) st ⟨fun v33 st =>
          @stp P (.ld none (.c v33)) st ⟨fun v34 st =>
          @stp P (.bin .neq (.c v34) (.c a1)) st ⟨fun v36 st =>
          @cnd v36 ⟨
            @stp P (.bin .add (.c v29) (.c (.int .i64 1))) st ⟨fun v53 st =>
            ∃ j, j < k1 ∧ GhostV [v7, v53] st (app (I1 j))⟩⟩
          ⟨
            @stp P (.fld 1 (.c v9)) st ⟨fun v39 st =>
            @stp P (.ld none (.c v39)) st ⟨fun v40 st =>
            @stp P (.call (.c (.fn (.func n_graph_Reach) [] [])) [(.c v15), (.c v40)]) st ⟨fun v41 st =>
            @stp P (.ext 0 (.c v41)) st ⟨fun v42 st =>
            @stp P (.ext 1 (.c v41)) st ⟨fun v43 st =>
            @stp P (.bin .neq (.c v43) (.c (.int .i64 0))) st ⟨fun v45 st =>
            @cnd v45 ⟨
              GhostV [(.bool false)] st fun vs st => K (mkres vs) st⟩
            ⟨
              @stp P (.fld 1 (.c v9)) st ⟨fun v47 st =>
              @stp P (.ld none (.c v47)) st ⟨fun v48 st =>
              @stp P (.mkSl 1 1 [(.int .u64 0)] [(0, (.c v48))]) st ⟨fun v49 st =>
              @stp P (.append 1 8 (.c v7) (.c v49)) st ⟨fun v50 st =>
              @stp P (.append 1 8 (.c v50) (.c v42)) st ⟨fun v52 st =>
              @stp P (.bin .add (.c v29) (.c (.int .i64 1))) st ⟨fun v53 st =>
              ∃ j, j < k1 ∧ GhostV [v52, v53] st (app (I1 j))⟩⟩⟩⟩⟩⟩⟩⟩⟩⟩⟩⟩⟩⟩⟩⟩⟩⟩⟩⟩⟩⟩
        ⟨
          @stp P (.call (.c (.fn (.func n_slices_Sort_uint64_uint64) [] [])) [(.c v7)]) st ⟨fun v55 st =>
          @stp P (.call (.c (.fn (.func n_slices_Compact_uint64_uint64) [] [])) [(.c v7)]) st ⟨fun v58 st =>
          @stp P (.call (.c (.fn (.func n_slices_Equal_uint64_uint64) [] [])) [(.c v20), (.c v58)]) st ⟨fun v59 st =>
          GhostV [v59] st fun vs st => K (mkres vs) st⟩⟩⟩⟩⟩⟩⟩⟩⟩⟩⟩⟩⟩⟩⟩⟩
theorem q_gazetteerlaw16_GraphSteps {P : Program} {a0 a1 : V} {st : St} {K : V → St → Prop} : F_gazetteerlaw16_GraphSteps P a0 a1 st K = hwp P c_gazetteerlaw16_GraphSteps (hretQ [.tmp 4] K) (enterFr [a0, a1]) st := by kernel_rfl
abbrev R_gazetteerlaw16_GraphSteps (P : Program) : Prop := resFnH P n_gazetteerlaw16_GraphSteps = some (60, c_gazetteerlaw16_GraphSteps.er, [.tmp 4])
theorem A_gazetteerlaw16_GraphSteps {P : Program} (h : R_gazetteerlaw16_GraphSteps P) {a0 a1 : V} {st : St} {K : V → St → Prop} (hF : F_gazetteerlaw16_GraphSteps P a0 a1 st K) : ACalls P n_gazetteerlaw16_GraphSteps [a0, a1] st K :=
  ACalls_h h rfl (by simp) (q_gazetteerlaw16_GraphSteps ▸ hF)

def c_gazetteerlaw16_GraphEnds : ACode := (.seq (.reg [⟨(some 4), none, (.mov (.c (.bool false)))⟩]) (.seq (.seq (.reg [⟨(some 17), none, (.call (.c (.fn (.func n_gazetteerlaw16_wakes) [] [])) [])⟩, ⟨(some 18), none, (.un .not (.s 17))⟩]) (.cond (.s 18) (.seq (.reg [⟨(some 4), none, (.mov (.c (.bool false)))⟩]) .ret) .skip)) (.seq (.reg [⟨(some 19), none, (.mov (.s 0))⟩, ⟨(some 20), none, (.call (.c (.fn (.func n_gazetteerlaw16_few) [] [])) [(.s 19)])⟩, ⟨(some 0), none, (.mov (.s 20))⟩]) (.seq (.seq (.reg [⟨(some 21), none, (.mov (.s 0))⟩, ⟨(some 22), none, (.call (.c (.fn (.func n_graph_Check) [] [])) [(.s 21)])⟩, ⟨(some 23), none, (.bin .neq (.s 22) (.c (.int .i64 0)))⟩]) (.cond (.s 23) (.seq (.reg [⟨(some 4), none, (.mov (.c (.bool true)))⟩]) .ret) .skip)) (.seq (.reg [⟨(some 24), none, (.mkSl 1 0 [(.int .u64 0)] [])⟩, ⟨(some 25), none, (.mov (.s 1))⟩, ⟨(some 26), none, (.mov (.s 1))⟩, ⟨(some 27), none, (.len .sl (.s 26))⟩, ⟨(some 28), none, (.minmax false (.s 27) [(.c (.int .i64 40))])⟩, ⟨(some 29), none, (.slice 1 (.s 25) none (some (.s 28)) none)⟩, ⟨(some 30), none, (.append 1 8 (.s 24) (.s 29))⟩, ⟨(some 1), none, (.mov (.s 30))⟩]) (.seq (.seq (.reg [⟨(some 31), none, (.mov (.s 0))⟩, ⟨(some 32), none, (.len .sl (.s 31))⟩, ⟨(some 33), none, (.mov (.c (.int .i64 0)))⟩]) (.block 0 (.loop [1, 33] [1, 6, 33, 34, 35, 36, 37, 38, 39, 40, 41, 42] (.seq (.reg [⟨(some 34), none, (.bin .lss (.s 33) (.s 32))⟩]) (.seq (.cond (.s 34) .skip (.exit 0)) (.seq (.block 1 (.seq (.reg [⟨(some 35), none, (.idx 2 (.s 31) (.s 33))⟩, ⟨(some 36), none, (.ld (some 2) (.s 35))⟩, ⟨(some 6), none, (.alloc [(.int .u64 0), (.int .u64 0)])⟩, ⟨none, none, (.st 2 (.s 6) (.s 36))⟩]) (.reg [⟨(some 37), none, (.mov (.s 1))⟩, ⟨(some 38), none, (.fld 0 (.s 6))⟩, ⟨(some 39), none, (.ld none (.s 38))⟩, ⟨(some 40), none, (.mkSl 1 1 [(.int .u64 0)] [(0, (.s 39))])⟩, ⟨(some 41), none, (.append 1 8 (.s 37) (.s 40))⟩, ⟨(some 1), none, (.mov (.s 41))⟩]))) (.reg [⟨(some 42), none, (.bin .add (.s 33) (.c (.int .i64 1)))⟩, ⟨(some 33), none, (.mov (.s 42))⟩]))))))) (.seq (.reg [⟨(some 44), none, (.mov (.s 0))⟩, ⟨(some 45), none, (.call (.c (.fn (.func n_graph_On) [] [])) [(.s 44)])⟩, ⟨(some 43), none, (.mov (.s 45))⟩, ⟨(some 46), none, (.ext 0 (.s 43))⟩, ⟨(some 47), none, (.ext 1 (.s 43))⟩, ⟨(some 7), none, (.mov (.s 46))⟩, ⟨(some 8), none, (.mov (.s 47))⟩]) (.seq (.seq (.reg [⟨(some 48), none, (.mov (.s 8))⟩, ⟨(some 49), none, (.bin .neq (.s 48) (.c (.int .i64 0)))⟩]) (.cond (.s 49) (.seq (.reg [⟨(some 4), none, (.mov (.c (.bool false)))⟩]) .ret) .skip)) (.join [0, 7] [0, 4, 7, 9, 10, 11, 12, 14, 50, 51, 52, 53, 54, 55, 56, 57, 58, 59, 60, 61, 62, 63, 64, 65, 66, 67, 68, 69, 70, 71, 72, 73, 74, 75, 76, 77, 78, 79, 80, 81, 82, 83, 84, 85, 86, 87, 88, 89, 90, 91, 92, 93, 94, 95, 96, 97, 98, 99, 100, 101, 102, 103, 104, 105, 106, 107, 108, 109, 110] (.seq (.reg [⟨(some 50), none, (.mov (.c (.int .i64 0)))⟩]) (.block 2 (.loop [0, 7, 50] [0, 4, 7, 9, 10, 11, 12, 14, 50, 51, 52, 53, 54, 55, 56, 57, 58, 59, 60, 61, 62, 63, 64, 65, 66, 67, 68, 69, 70, 71, 72, 73, 74, 75, 76, 77, 78, 79, 80, 81, 82, 83, 84, 85, 86, 87, 88, 89, 90, 91, 92, 93, 94, 95, 96, 97, 98, 99, 100, 101, 102, 103, 104, 105, 106, 107, 108, 109, 110] (.seq (.reg [⟨(some 51), none, (.bin .lss (.s 50) (.c (.int .i64 65)))⟩]) (.seq (.cond (.s 51) .skip (.exit 2)) (.seq (.block 3 (.seq (.reg [⟨(some 53), none, (.mov (.s 0))⟩, ⟨(some 54), none, (.mov (.s 1))⟩, ⟨(some 55), none, (.call (.c (.fn (.func n_graph_Victim) [] [])) [(.s 53), (.s 54)])⟩, ⟨(some 52), none, (.mov (.s 55))⟩, ⟨(some 56), none, (.ext 0 (.s 52))⟩, ⟨(some 57), none, (.ext 1 (.s 52))⟩, ⟨(some 58), none, (.ext 2 (.s 52))⟩, ⟨(some 9), none, (.mov (.s 56))⟩, ⟨(some 10), none, (.mov (.s 57))⟩, ⟨(some 11), none, (.mov (.s 58))⟩]) (.seq (.seq (.reg [⟨(some 59), none, (.mov (.s 11))⟩, ⟨(some 60), none, (.bin .neq (.s 59) (.c (.int .i64 0)))⟩, ⟨(some 61), none, (.mov (.s 60))⟩, ⟨(some 62), (some (61, false)), (.mov (.s 10))⟩, ⟨(some 63), (some (61, false)), (.mov (.s 7))⟩, ⟨(some 64), (some (61, false)), (.len .sl (.s 63))⟩, ⟨(some 65), (some (61, false)), (.bin .gtr (.s 64) (.c (.int .i64 0)))⟩, ⟨(some 66), (some (61, false)), (.eqs true .bool (.s 62) (.s 65))⟩, ⟨(some 67), none, (.pick (.s 61) (.c (.bool true)) (.s 66))⟩]) (.cond (.s 67) (.seq (.reg [⟨(some 4), none, (.mov (.c (.bool false)))⟩]) .ret) .skip)) (.seq (.seq (.reg [⟨(some 68), none, (.mov (.s 10))⟩, ⟨(some 69), none, (.un .not (.s 68))⟩]) (.cond (.s 69) (.exit 2) .skip)) (.seq (.seq (.reg [⟨(some 71), none, (.mov (.s 0))⟩, ⟨(some 72), none, (.mov (.s 9))⟩, ⟨(some 73), none, (.call (.c (.fn (.func n_graph_Without) [] [])) [(.s 71), (.s 72)])⟩, ⟨(some 70), none, (.mov (.s 73))⟩, ⟨(some 74), none, (.ext 0 (.s 70))⟩, ⟨(some 75), none, (.ext 1 (.s 70))⟩, ⟨(some 0), none, (.mov (.s 74))⟩, ⟨(some 11), none, (.mov (.s 75))⟩]) (.seq (.reg [⟨(some 76), none, (.mov (.s 11))⟩, ⟨(some 77), none, (.bin .neq (.s 76) (.c (.int .i64 0)))⟩]) (.cond (.s 77) (.seq (.reg [⟨(some 4), none, (.mov (.c (.bool false)))⟩]) .ret) .skip))) (.seq (.reg [⟨(some 79), none, (.mov (.s 0))⟩, ⟨(some 80), none, (.call (.c (.fn (.func n_graph_On) [] [])) [(.s 79)])⟩, ⟨(some 78), none, (.mov (.s 80))⟩, ⟨(some 81), none, (.ext 0 (.s 78))⟩, ⟨(some 82), none, (.ext 1 (.s 78))⟩, ⟨(some 12), none, (.mov (.s 81))⟩, ⟨(some 11), none, (.mov (.s 82))⟩]) (.seq (.seq (.reg [⟨(some 83), none, (.mov (.s 11))⟩, ⟨(some 84), none, (.bin .neq (.s 83) (.c (.int .i64 0)))⟩, ⟨(some 85), none, (.mov (.s 84))⟩, ⟨(some 86), (some (85, false)), (.mov (.s 12))⟩, ⟨(some 87), (some (85, false)), (.len .sl (.s 86))⟩, ⟨(some 88), (some (85, false)), (.mov (.s 7))⟩, ⟨(some 89), (some (85, false)), (.len .sl (.s 88))⟩, ⟨(some 90), (some (85, false)), (.bin .geq (.s 87) (.s 89))⟩, ⟨(some 91), none, (.pick (.s 85) (.c (.bool true)) (.s 90))⟩, ⟨(some 92), none, (.mov (.s 91))⟩, ⟨(some 93), (some (92, false)), (.mov (.s 7))⟩, ⟨(some 94), (some (92, false)), (.mov (.s 9))⟩, ⟨(some 95), (some (92, false)), (.call (.c (.fn (.func n_slices_Contains_uint64_uint64) [] [])) [(.s 93), (.s 94)])⟩, ⟨(some 96), (some (92, false)), (.un .not (.s 95))⟩, ⟨(some 97), none, (.pick (.s 92) (.c (.bool true)) (.s 96))⟩]) (.cond (.s 97) (.seq (.reg [⟨(some 4), none, (.mov (.c (.bool false)))⟩]) .ret) .skip)) (.seq (.seq (.reg [⟨(some 98), none, (.mov (.s 12))⟩, ⟨(some 99), none, (.len .sl (.s 98))⟩, ⟨(some 100), none, (.mov (.c (.int .i64 0)))⟩]) (.block 4 (.loop [100] [4, 14, 100, 101, 102, 103, 104, 105, 106, 107, 108] (.seq (.reg [⟨(some 101), none, (.bin .lss (.s 100) (.s 99))⟩]) (.seq (.cond (.s 101) .skip (.exit 4)) (.seq (.block 5 (.seq (.reg [⟨(some 102), none, (.idx 1 (.s 98) (.s 100))⟩, ⟨(some 103), none, (.ld none (.s 102))⟩, ⟨(some 14), none, (.mov (.s 103))⟩]) (.seq (.reg [⟨(some 104), none, (.mov (.s 7))⟩, ⟨(some 105), none, (.mov (.s 14))⟩, ⟨(some 106), none, (.call (.c (.fn (.func n_slices_Contains_uint64_uint64) [] [])) [(.s 104), (.s 105)])⟩, ⟨(some 107), none, (.un .not (.s 106))⟩]) (.cond (.s 107) (.seq (.reg [⟨(some 4), none, (.mov (.c (.bool false)))⟩]) .ret) .skip)))) (.reg [⟨(some 108), none, (.bin .add (.s 100) (.c (.int .i64 1)))⟩, ⟨(some 100), none, (.mov (.s 108))⟩]))))))) (.reg [⟨(some 109), none, (.mov (.s 12))⟩, ⟨(some 7), none, (.mov (.s 109))⟩]))))))))) (.reg [⟨(some 110), none, (.bin .add (.s 50) (.c (.int .i64 1)))⟩, ⟨(some 50), none, (.mov (.s 110))⟩]))))))) (.seq (.seq (.reg [⟨(some 111), none, (.mov (.s 7))⟩, ⟨(some 112), none, (.len .sl (.s 111))⟩, ⟨(some 113), none, (.bin .gtr (.s 112) (.c (.int .i64 0)))⟩, ⟨(some 114), none, (.mov (.s 113))⟩, ⟨(some 115), (some (114, false)), (.mov (.s 0))⟩, ⟨(some 116), (some (114, false)), (.len .sl (.s 115))⟩, ⟨(some 117), (some (114, false)), (.bin .eql (.s 116) (.c (.int .i64 0)))⟩, ⟨(some 118), none, (.pick (.s 114) (.c (.bool true)) (.s 117))⟩]) (.cond (.s 118) (.seq (.reg [⟨(some 119), none, (.mov (.s 7))⟩, ⟨(some 120), none, (.len .sl (.s 119))⟩, ⟨(some 121), none, (.bin .eql (.s 120) (.c (.int .i64 0)))⟩, ⟨(some 4), none, (.mov (.s 121))⟩]) .ret) .skip)) (.seq (.seq (.reg [⟨(some 122), none, (.mov (.s 0))⟩, ⟨(some 123), none, (.len .sl (.s 122))⟩, ⟨(some 124), none, (.mov (.c (.int .i64 0)))⟩]) (.block 6 (.loop [124] [4, 16, 124, 125, 126, 127, 128, 129, 130, 131, 132] (.seq (.reg [⟨(some 125), none, (.bin .lss (.s 124) (.s 123))⟩]) (.seq (.cond (.s 125) .skip (.exit 6)) (.seq (.block 7 (.seq (.reg [⟨(some 126), none, (.idx 2 (.s 122) (.s 124))⟩, ⟨(some 127), none, (.ld (some 2) (.s 126))⟩, ⟨(some 16), none, (.alloc [(.int .u64 0), (.int .u64 0)])⟩, ⟨none, none, (.st 2 (.s 16) (.s 127))⟩]) (.seq (.reg [⟨(some 128), none, (.mov (.s 0))⟩, ⟨(some 129), none, (.mkfn (.func n_gazetteerlaw16_GraphEnds_1) [] [(.s 16)])⟩, ⟨(some 130), none, (.call (.c (.fn (.func n_slices_ContainsFunc_Edge_Edge) [] [])) [(.s 128), (.s 129)])⟩, ⟨(some 131), none, (.un .not (.s 130))⟩]) (.cond (.s 131) (.seq (.reg [⟨(some 4), none, (.mov (.c (.bool true)))⟩]) .ret) .skip)))) (.reg [⟨(some 132), none, (.bin .add (.s 124) (.c (.int .i64 1)))⟩, ⟨(some 124), none, (.mov (.s 132))⟩]))))))) (.seq (.reg [⟨(some 4), none, (.mov (.c (.bool false)))⟩]) .ret))))))))))))
def F_gazetteerlaw16_GraphEnds (P : Program) (a0 a1 : V) (st : St) (K : V → St → Prop) : Prop :=
  @stp P (.call (.c (.fn (.func n_gazetteerlaw16_wakes) [] [])) []) st ⟨fun v17 st =>
  @stp P (.un .not (.c v17)) st ⟨fun v18 st =>
  @cnd v18 ⟨
    GhostV [(.bool false)] st fun vs st => K (mkres vs) st⟩
  ⟨
    @stp P (.call (.c (.fn (.func n_gazetteerlaw16_few) [] [])) [(.c a0)]) st ⟨fun v20 st =>
    @stp P (.call (.c (.fn (.func n_graph_Check) [] [])) [(.c v20)]) st ⟨fun v22 st =>
    @stp P (.bin .neq (.c v22) (.c (.int .i64 0))) st ⟨fun v23 st =>
    @cnd v23 ⟨
      GhostV [(.bool true)] st fun vs st => K (mkres vs) st⟩
    ⟨
      @stp P (.mkSl 1 0 [(.int .u64 0)] []) st ⟨fun v24 st =>
      @stp P (.len .sl (.c a1)) st ⟨fun v27 st =>
      @stp P (.minmax false (.c v27) [(.c (.int .i64 40))]) st ⟨fun v28 st =>
      @stp P (.slice 1 (.c a1) none (some (.c v28)) none) st ⟨fun v29 st =>
      @stp P (.append 1 8 (.c v24) (.c v29)) st ⟨fun v30 st =>
      @stp P (.len .sl (.c v20)) st ⟨fun v32 st =>
      @Hold ⟨∃ I1 : Nat → Rel 2, (∃ k, GhostV [v30, (.int .i64 0)] st (app (I1 k))) ∧ ∀ k1 v1 v33, ∀ st, app (I1 k1) [v1, v33] st →
        @stp P (.bin .lss (.c v33) (.c v32)) st ⟨fun v34 st =>
        @cnd v34 ⟨
          @stp P (.idx 2 (.c v20) (.c v33)) st ⟨fun v35 st =>
          @stp P (.ld (some 2) (.c v35)) st ⟨fun v36 st =>
          @stp P (.alloc [(.int .u64 0), (.int .u64 0)]) st ⟨fun v6 st =>
          @stp P (.st 2 (.c v6) (.c v36)) st ⟨fun _v st =>
          @stp P (.fld 0 (.c v6)) st ⟨fun v38 st =>
          @stp P (.ld none (.c v38)) st ⟨fun v39 st =>
          @stp P (.mkSl 1 1 [(.int .u64 0)] [(0, (.c v39))]) st ⟨fun v40 st =>
          @stp P (.append 1 8 (.c v1) (.c v40)) st ⟨fun v41 st =>
          @stp P (.bin .add (.c v33) (.c (.int .i64 1))) st ⟨fun v42 st =>
          ∃ j, j < k1 ∧ GhostV [v41, v42] st (app (I1 j))⟩⟩⟩⟩⟩⟩⟩⟩⟩⟩
        ⟨
          @stp P (.call (.c (.fn (.func n_graph_On) [] [])) [(.c v20)]) st ⟨fun v45 st =>
          @stp P (.ext 0 (.c v45)) st ⟨fun v46 st =>
          @stp P (.ext 1 (.c v45)) st ⟨fun v47 st =>
          @stp P (.bin .neq (.c v47) (.c (.int .i64 0))) st ⟨fun v49 st =>
          @cnd v49 ⟨
            GhostV [(.bool false)] st fun vs st => K (mkres vs) st⟩
          ⟨
            @Hold ⟨∃ J2 : Rel 2, (
              @Hold ⟨∃ I3 : Nat → Rel 3, (∃ k, GhostV [v20, v46, (.int .i64 0)] st (app (I3 k))) ∧ ∀ k3 v0 v7 v50, ∀ st, app (I3 k3) [v0, v7, v50] st →
                @stp P (.bin .lss (.c v50) (.c (.int .i64 65))) st ⟨fun v51 st =>
                @cnd v51 ⟨
                  @stp P (.call (.c (.fn (.func n_graph_Victim) [] [])) [(.c v0), (.c v1)]) st ⟨fun v55 st =>
                  @stp P (.ext 0 (.c v55)) st ⟨fun v56 st =>
                  @stp P (.ext 1 (.c v55)) st ⟨fun v57 st =>
                  @stp P (.ext 2 (.c v55)) st ⟨fun v58 st =>
                  @stp P (.bin .neq (.c v58) (.c (.int .i64 0))) st ⟨fun v60 st =>
                  @gst P v60 false (.mov (.c v57)) st ⟨fun v62 st =>
                  @gst P v60 false (.mov (.c v7)) st ⟨fun v63 st =>
                  @gst P v60 false (.len .sl (.c v63)) st ⟨fun v64 st =>
                  @gst P v60 false (.bin .gtr (.c v64) (.c (.int .i64 0))) st ⟨fun v65 st =>
                  @gst P v60 false (.eqs true .bool (.c v62) (.c v65)) st ⟨fun v66 st =>
                  @stp P (.pick (.c v60) (.c (.bool true)) (.c v66)) st ⟨fun v67 st =>
                  @cnd v67 ⟨
                    GhostV [(.bool false)] st fun vs st => K (mkres vs) st⟩
                  ⟨
                    @stp P (.un .not (.c v57)) st ⟨fun v69 st =>
                    @cnd v69 ⟨
                      GhostV [v0, v7] st (app J2)⟩
                    ⟨
                      @stp P (.call (.c (.fn (.func n_graph_Without) [] [])) [(.c v0), (.c v56)]) st ⟨fun v73 st =>
                      @stp P (.ext 0 (.c v73)) st ⟨fun v74 st =>
                      @stp P (.ext 1 (.c v73)) st ⟨fun v75 st =>
                      @stp P (.bin .neq (.c v75) (.c (.int .i64 0))) st ⟨fun v77 st =>
                      @cnd v77 ⟨
                        GhostV [(.bool false)] st fun vs st => K (mkres vs) st⟩
                      ⟨
                        @stp P (.call (.c (.fn (.func n_graph_On) [] [])) [(.c v74)]) st ⟨fun v80 st =>
                        @stp P (.ext 0 (.c v80)) st ⟨fun v81 st =>
                        @stp P (.ext 1 (.c v80)) st ⟨fun v82 st =>
                        @stp P (.bin .neq (.c v82) (.c (.int .i64 0))) st ⟨fun v84 st =>
                        @gst P v84 false (.mov (.c v81)) st ⟨fun v86 st =>
                        @gst P v84 false (.len .sl (.c v86)) st ⟨fun v87 st =>
                        @gst P v84 false (.mov (.c v7)) st ⟨fun v88 st =>
                        @gst P v84 false (.len .sl (.c v88)) st ⟨fun v89 st =>
                        @gst P v84 false (.bin .geq (.c v87) (.c v89)) st ⟨fun v90 st =>
                        @stp P (.pick (.c v84) (.c (.bool true)) (.c v90)) st ⟨fun v91 st =>
                        @gst P v91 false (.mov (.c v7)) st ⟨fun v93 st =>
                        @gst P v91 false (.mov (.c v56)) st ⟨fun v94 st =>
                        @gst P v91 false (.call (.c (.fn (.func n_slices_Contains_uint64_uint64) [] [])) [(.c v93), (.c v94)]) st ⟨fun v95 st =>
                        @gst P v91 false (.un .not (.c v95)) st ⟨fun v96 st =>
                        @stp P (.pick (.c v91) (.c (.bool true)) (.c v96)) st ⟨fun v97 st =>
                        @cnd v97 ⟨
                        GhostV [(.bool false)] st fun vs st => K (mkres vs) st⟩
                        ⟨
                        @stp P (.len .sl (.c v81)) st ⟨fun v99 st =>
                        @Hold ⟨∃ I4 : Nat → Rel 1, (∃ k, GhostV [(.int .i64 0)] st (app (I4 k))) ∧ ∀ k4 v100, ∀ st, app (I4 k4) [v100] st →
                        @stp P (.bin .lss (.c v100) (.c v99)) st ⟨fun v101 st =>
                        @cnd v101 ⟨
                        @stp P (.idx 1 (.c v81) (.c v100)) st ⟨fun v102 st =>
                        @stp P (.ld none (.c v102)) st ⟨fun v103 st =>
                        @stp P (.call (.c (.fn (.func n_slices_Contains_uint64_uint64) [] [])) [(.c v7), (.c v103)]) st ⟨fun v106 st =>
                        @stp P (.un .not (.c v106)) st ⟨fun v107 st =>
                        @cnd v107 ⟨
                        GhostV [(.bool false)] st fun vs st => K (mkres vs) st⟩
                        ⟨
                        @stp P (.bin .add (.c v100) (.c (.int .i64 1))) st ⟨fun v108 st =>
                        ∃ j, j < k4 ∧ GhostV [v108] st (app (I4 j))⟩⟩⟩⟩⟩⟩⟩
                        ⟨
                        @stp P (.bin .add (.c v50) (.c (.int .i64 1))) st ⟨fun v110 st =>
                        ∃ j, j < k3 ∧ GhostV [v74, v81, v110] st (app (I3 j))⟩⟩⟩⟩⟩⟩⟩⟩⟩⟩⟩⟩⟩⟩⟩⟩⟩⟩⟩⟩⟩⟩⟩⟩⟩⟩⟩⟩⟩⟩⟩⟩⟩⟩⟩⟩⟩⟩⟩⟩⟩
                ⟨
                  GhostV [v0, v7] st (app J2)⟩⟩⟩) ∧
            ∀ v0 v7 st, app J2 [v0, v7] st →
              @stp P (.len .sl (.c v7)) st ⟨fun v112 st =>
              @stp P (.bin .gtr (.c v112) (.c (.int .i64 0))) st ⟨fun v113 st =>
              @gst P v113 false (.mov (.c v0)) st ⟨fun v115 st =>
              @gst P v113 false (.len .sl (.c v115)) st ⟨fun v116 st =>
              @gst P v113 false (.bin .eql (.c v116) (.c (.int .i64 0))) st ⟨fun v117 st =>
              @stp P (.pick (.c v113) (.c (.bool true)) (.c v117)) st ⟨fun v118 st =>
              @cnd v118 ⟨
                @stp P (.len .sl (.c v7)) st ⟨fun v120 st =>
                @stp P (.bin .eql (.c v120) (.c (.int .i64 0))) st ⟨fun v121 st =>
                GhostV [v121] st fun vs st => K (mkres vs) st⟩⟩⟩
              ⟨
                @stp P (.len .sl (.c v0)) st ⟨fun v123 st =>
                @Hold ⟨∃ I5 : Nat → Rel 1, (∃ k, GhostV [(.int .i64 0)] st (app (I5 k))) ∧ ∀ k5 v124, ∀ st, app (I5 k5) [v124] st →
                  @stp P (.bin .lss (.c v124) (.c v123)) st ⟨fun v125 st =>
                  @cnd v125 ⟨
                    @stp P (.idx 2 (.c v0) (.c v124)) st ⟨fun v126 st =>
                    @stp P (.ld (some 2) (.c v126)) st ⟨fun v127 st =>
                    @stp P (.alloc [(.int .u64 0), (.int .u64 0)]) st ⟨fun v16 st =>
                    @stp P (.st 2 (.c v16) (.c v127)) st ⟨fun _v st =>
                    @stp P (.mkfn (.func n_gazetteerlaw16_GraphEnds_1) [] [(.c v16)]) st ⟨fun v129 st =>
                    @stp P (.call (.c (.fn (.func n_slices_ContainsFunc_Edge_Edge) [] [])) [(.c v0), (.c v129)]) st ⟨fun v130 st =>
                    @stp P (.un .not (.c v130)) st ⟨fun v131 st =>
                    @cnd v131 ⟨
                      GhostV [(.bool true)] st fun vs st => K (mkres vs) st⟩
                    ⟨
                      @stp P (.bin .add (.c v124) (.c (.int .i64 1))) st ⟨fun v132 st =>
                      ∃ j, j < k5 ∧ GhostV [v132] st (app (I5 j))⟩⟩⟩⟩⟩⟩⟩⟩⟩⟩
                  ⟨
                    GhostV [(.bool false)] st fun vs st => K (mkres vs) st⟩⟩⟩⟩⟩⟩⟩⟩⟩⟩⟩⟩⟩⟩⟩⟩⟩⟩⟩⟩⟩⟩⟩⟩⟩⟩⟩⟩⟩⟩⟩⟩⟩
theorem q_gazetteerlaw16_GraphEnds {P : Program} {a0 a1 : V} {st : St} {K : V → St → Prop} : F_gazetteerlaw16_GraphEnds P a0 a1 st K = hwp P c_gazetteerlaw16_GraphEnds (hretQ [.tmp 4] K) (enterFr [a0, a1]) st := by kernel_rfl
abbrev R_gazetteerlaw16_GraphEnds (P : Program) : Prop := resFnH P n_gazetteerlaw16_GraphEnds = some (133, c_gazetteerlaw16_GraphEnds.er, [.tmp 4])
theorem A_gazetteerlaw16_GraphEnds {P : Program} (h : R_gazetteerlaw16_GraphEnds P) {a0 a1 : V} {st : St} {K : V → St → Prop} (hF : F_gazetteerlaw16_GraphEnds P a0 a1 st K) : ACalls P n_gazetteerlaw16_GraphEnds [a0, a1] st K :=
  ACalls_h h rfl (by simp) (q_gazetteerlaw16_GraphEnds ▸ hF)

def c_gazetteerlaw16_wakes : ACode := (.seq (.reg [⟨(some 0), none, (.mov (.c (.bool false)))⟩]) (.seq (.reg [⟨(some 9), none, (.call (.c (.fn (.func n_gazetteerlaw16_first) [] [])) [])⟩, ⟨(some 10), none, (.call (.c (.fn (.func n_graph_Reach) [] [])) [(.s 9), (.c (.int .u64 2))])⟩, ⟨(some 8), none, (.mov (.s 10))⟩, ⟨(some 11), none, (.ext 0 (.s 8))⟩, ⟨(some 12), none, (.ext 1 (.s 8))⟩, ⟨(some 1), none, (.mov (.s 11))⟩, ⟨(some 2), none, (.mov (.s 12))⟩]) (.seq (.reg [⟨(some 14), none, (.call (.c (.fn (.func n_gazetteerlaw16_first) [] [])) [])⟩, ⟨(some 15), none, (.call (.c (.fn (.func n_graph_Circle) [] [])) [(.s 14), (.c (.int .u64 3))])⟩, ⟨(some 13), none, (.mov (.s 15))⟩, ⟨(some 16), none, (.ext 0 (.s 13))⟩, ⟨(some 17), none, (.ext 1 (.s 13))⟩, ⟨(some 3), none, (.mov (.s 16))⟩, ⟨(some 4), none, (.mov (.s 17))⟩]) (.seq (.reg [⟨(some 19), none, (.call (.c (.fn (.func n_gazetteerlaw16_first) [] [])) [])⟩, ⟨(some 20), none, (.mkSl 1 3 [(.int .u64 0)] [(0, (.c (.int .u64 2))), (1, (.c (.int .u64 1))), (2, (.c (.int .u64 4)))])⟩, ⟨(some 21), none, (.call (.c (.fn (.func n_graph_Victim) [] [])) [(.s 19), (.s 20)])⟩, ⟨(some 18), none, (.mov (.s 21))⟩, ⟨(some 22), none, (.ext 0 (.s 18))⟩, ⟨(some 23), none, (.ext 1 (.s 18))⟩, ⟨(some 24), none, (.ext 2 (.s 18))⟩, ⟨(some 5), none, (.mov (.s 22))⟩, ⟨(some 6), none, (.mov (.s 23))⟩, ⟨(some 7), none, (.mov (.s 24))⟩]) (.seq (.reg [⟨(some 25), none, (.mov (.s 2))⟩, ⟨(some 26), none, (.bin .eql (.s 25) (.c (.int .i64 0)))⟩, ⟨(some 27), none, (.mov (.s 26))⟩, ⟨(some 28), (some (27, true)), (.mov (.s 4))⟩, ⟨(some 29), (some (27, true)), (.bin .eql (.s 28) (.c (.int .i64 0)))⟩, ⟨(some 30), none, (.pick (.s 27) (.s 29) (.c (.bool false)))⟩, ⟨(some 31), none, (.mov (.s 30))⟩, ⟨(some 32), (some (31, true)), (.mov (.s 7))⟩, ⟨(some 33), (some (31, true)), (.bin .eql (.s 32) (.c (.int .i64 0)))⟩, ⟨(some 34), none, (.pick (.s 31) (.s 33) (.c (.bool false)))⟩, ⟨(some 35), none, (.mov (.s 34))⟩, ⟨(some 36), (some (35, true)), (.mov (.s 1))⟩, ⟨(some 37), (some (35, true)), (.mkSl 1 4 [(.int .u64 0)] [(0, (.c (.int .u64 1))), (1, (.c (.int .u64 2))), (2, (.c (.int .u64 3))), (3, (.c (.int .u64 4)))])⟩, ⟨(some 38), (some (35, true)), (.call (.c (.fn (.func n_gazetteerref16_Same) [] [])) [(.s 36), (.s 37)])⟩, ⟨(some 39), none, (.pick (.s 35) (.s 38) (.c (.bool false)))⟩, ⟨(some 40), none, (.mov (.s 39))⟩, ⟨(some 41), (some (40, true)), (.mov (.s 3))⟩, ⟨(some 42), (some (40, true)), (.mkSl 1 3 [(.int .u64 0)] [(0, (.c (.int .u64 3))), (1, (.c (.int .u64 1))), (2, (.c (.int .u64 2)))])⟩, ⟨(some 43), (some (40, true)), (.call (.c (.fn (.func n_gazetteerref16_Same) [] [])) [(.s 41), (.s 42)])⟩, ⟨(some 44), none, (.pick (.s 40) (.s 43) (.c (.bool false)))⟩, ⟨(some 45), none, (.mov (.s 44))⟩, ⟨(some 46), (some (45, true)), (.mov (.s 5))⟩, ⟨(some 47), (some (45, true)), (.bin .eql (.s 46) (.c (.int .u64 1)))⟩, ⟨(some 48), none, (.pick (.s 45) (.s 47) (.c (.bool false)))⟩, ⟨(some 49), none, (.mov (.s 48))⟩, ⟨(some 50), (some (49, true)), (.mov (.s 6))⟩, ⟨(some 51), none, (.pick (.s 49) (.s 50) (.c (.bool false)))⟩, ⟨(some 0), none, (.mov (.s 51))⟩]) .ret)))))
def F_gazetteerlaw16_wakes (P : Program) (st : St) (K : V → St → Prop) : Prop :=
  @stp P (.call (.c (.fn (.func n_gazetteerlaw16_first) [] [])) []) st ⟨fun v9 st =>
  @stp P (.call (.c (.fn (.func n_graph_Reach) [] [])) [(.c v9), (.c (.int .u64 2))]) st ⟨fun v10 st =>
  @stp P (.ext 0 (.c v10)) st ⟨fun v11 st =>
  @stp P (.ext 1 (.c v10)) st ⟨fun v12 st =>
  @stp P (.call (.c (.fn (.func n_gazetteerlaw16_first) [] [])) []) st ⟨fun v14 st =>
  @stp P (.call (.c (.fn (.func n_graph_Circle) [] [])) [(.c v14), (.c (.int .u64 3))]) st ⟨fun v15 st =>
  @stp P (.ext 0 (.c v15)) st ⟨fun v16 st =>
  @stp P (.ext 1 (.c v15)) st ⟨fun v17 st =>
  @stp P (.call (.c (.fn (.func n_gazetteerlaw16_first) [] [])) []) st ⟨fun v19 st =>
  @stp P (.mkSl 1 3 [(.int .u64 0)] [(0, (.c (.int .u64 2))), (1, (.c (.int .u64 1))), (2, (.c (.int .u64 4)))]) st ⟨fun v20 st =>
  @stp P (.call (.c (.fn (.func n_graph_Victim) [] [])) [(.c v19), (.c v20)]) st ⟨fun v21 st =>
  @stp P (.ext 0 (.c v21)) st ⟨fun v22 st =>
  @stp P (.ext 1 (.c v21)) st ⟨fun v23 st =>
  @stp P (.ext 2 (.c v21)) st ⟨fun v24 st =>
  @stp P (.bin .eql (.c v12) (.c (.int .i64 0))) st ⟨fun v26 st =>
  @gst P v26 true (.mov (.c v17)) st ⟨fun v28 st =>
  @gst P v26 true (.bin .eql (.c v28) (.c (.int .i64 0))) st ⟨fun v29 st =>
  @stp P (.pick (.c v26) (.c v29) (.c (.bool false))) st ⟨fun v30 st =>
  @gst P v30 true (.mov (.c v24)) st ⟨fun v32 st =>
  @gst P v30 true (.bin .eql (.c v32) (.c (.int .i64 0))) st ⟨fun v33 st =>
  @stp P (.pick (.c v30) (.c v33) (.c (.bool false))) st ⟨fun v34 st =>
  @gst P v34 true (.mov (.c v11)) st ⟨fun v36 st =>
  @gst P v34 true (.mkSl 1 4 [(.int .u64 0)] [(0, (.c (.int .u64 1))), (1, (.c (.int .u64 2))), (2, (.c (.int .u64 3))), (3, (.c (.int .u64 4)))]) st ⟨fun v37 st =>
  @gst P v34 true (.call (.c (.fn (.func n_gazetteerref16_Same) [] [])) [(.c v36), (.c v37)]) st ⟨fun v38 st =>
  @stp P (.pick (.c v34) (.c v38) (.c (.bool false))) st ⟨fun v39 st =>
  @gst P v39 true (.mov (.c v16)) st ⟨fun v41 st =>
  @gst P v39 true (.mkSl 1 3 [(.int .u64 0)] [(0, (.c (.int .u64 3))), (1, (.c (.int .u64 1))), (2, (.c (.int .u64 2)))]) st ⟨fun v42 st =>
  @gst P v39 true (.call (.c (.fn (.func n_gazetteerref16_Same) [] [])) [(.c v41), (.c v42)]) st ⟨fun v43 st =>
  @stp P (.pick (.c v39) (.c v43) (.c (.bool false))) st ⟨fun v44 st =>
  @gst P v44 true (.mov (.c v22)) st ⟨fun v46 st =>
  @gst P v44 true (.bin .eql (.c v46) (.c (.int .u64 1))) st ⟨fun v47 st =>
  @stp P (.pick (.c v44) (.c v47) (.c (.bool false))) st ⟨fun v48 st =>
  @gst P v48 true (.mov (.c v23)) st ⟨fun v50 st =>
  @stp P (.pick (.c v48) (.c v50) (.c (.bool false))) st ⟨fun v51 st =>
  GhostV [v51] st fun vs st => K (mkres vs) st⟩⟩⟩⟩⟩⟩⟩⟩⟩⟩⟩⟩⟩⟩⟩⟩⟩⟩⟩⟩⟩⟩⟩⟩⟩⟩⟩⟩⟩⟩⟩⟩⟩⟩
theorem q_gazetteerlaw16_wakes {P : Program} {st : St} {K : V → St → Prop} : F_gazetteerlaw16_wakes P  st K = hwp P c_gazetteerlaw16_wakes (hretQ [.tmp 0] K) (enterFr []) st := by kernel_rfl
abbrev R_gazetteerlaw16_wakes (P : Program) : Prop := resFnH P n_gazetteerlaw16_wakes = some (52, c_gazetteerlaw16_wakes.er, [.tmp 0])
theorem A_gazetteerlaw16_wakes {P : Program} (h : R_gazetteerlaw16_wakes P) {st : St} {K : V → St → Prop} (hF : F_gazetteerlaw16_wakes P  st K) : ACalls P n_gazetteerlaw16_wakes [] st K :=
  ACalls_h h rfl (by simp) (q_gazetteerlaw16_wakes ▸ hF)

def c_gazetteerlaw16_few : ACode := (.seq (.reg [⟨(some 2), none, (.mov (.c (.sl .nil 0 [] [])))⟩]) (.seq (.reg [⟨(some 5), none, (.mov (.s 0))⟩, ⟨(some 6), none, (.len .sl (.s 5))⟩, ⟨(some 7), none, (.minmax false (.s 6) [(.c (.int .i64 65))])⟩, ⟨(some 3), none, (.mov (.s 7))⟩]) (.seq (.regD [⟨(some 8), none, (.mov (.s 3))⟩, ⟨(some 9), none, (.bin .add (.s 8) (.c (.int .i64 2)))⟩, ⟨(some 10), none, (.mksl 2 16 [(.int .u64 0), (.int .u64 0)] (.c (.int .i64 0)) (.s 9))⟩, ⟨(some 11), none, (.mov (.s 0))⟩, ⟨(some 12), none, (.mov (.s 3))⟩, ⟨(some 13), none, (.slice 2 (.s 11) none (some (.s 12)) none)⟩, ⟨(some 14), none, (.append 2 16 (.s 10) (.s 13))⟩, ⟨(some 4), none, (.mov (.s 14))⟩] [(0, (false, [])), (1, (false, [])), (3, (false, [])), (4, (false, [])), (5, (false, [])), (2, (true, [5, 4, 3])), (6, (true, [])), (7, (false, []))]) (.seq (.reg [⟨(some 15), none, (.mov (.s 4))⟩, ⟨(some 16), none, (.build [(.int .u64 0), (.int .u64 0)] [(0, (1, (.c (.int .u64 77)))), (1, (1, (.c (.int .u64 78))))])⟩, ⟨(some 17), none, (.mkSl 2 1 [(.int .u64 0), (.int .u64 0)] [(0, (.s 16))])⟩, ⟨(some 18), none, (.append 2 16 (.s 15) (.s 17))⟩, ⟨(some 19), none, (.mov (.s 3))⟩, ⟨(some 20), none, (.slice 2 (.s 18) none (some (.s 19)) none)⟩, ⟨(some 2), none, (.mov (.s 20))⟩]) .ret))))
def F_gazetteerlaw16_few (P : Program) (a0 : V) (st : St) (K : V → St → Prop) : Prop :=
  @stp P (.len .sl (.c a0)) st ⟨fun v6 st =>
  @stp P (.minmax false (.c v6) [(.c (.int .i64 65))]) st ⟨fun v7 st =>
  @stpD P (.bin .add (.c v7) (.c (.int .i64 2))) st ⟨fun v9 st =>
  @stpD P (.slice 2 (.c a0) none (some (.c v7)) none) st ⟨fun v13 st =>
  @stpD P (.mksl 2 16 [(.int .u64 0), (.int .u64 0)] (.c (.int .i64 0)) (.c v9)) st ⟨fun v10 st =>
  hwat P none (.slice 2 (.c a0) none (some (.c v7)) none) st v13 ∧ (
  hwat P none (.mov (.c v7)) st v7 ∧ (
  hwat P none (.mov (.c a0)) st a0 ∧ (
  @stpD P (.append 2 16 (.c v10) (.c v13)) st ⟨fun v14 st =>
  @stp P (.build [(.int .u64 0), (.int .u64 0)] [(0, 1, (.c (.int .u64 77))), (1, 1, (.c (.int .u64 78)))]) st ⟨fun v16 st =>
  @stp P (.mkSl 2 1 [(.int .u64 0), (.int .u64 0)] [(0, (.c v16))]) st ⟨fun v17 st =>
  @stp P (.append 2 16 (.c v14) (.c v17)) st ⟨fun v18 st =>
  @stp P (.slice 2 (.c v18) none (some (.c v7)) none) st ⟨fun v20 st =>
  GhostV [v20] st fun vs st => K (mkres vs) st⟩⟩⟩⟩⟩)))⟩⟩⟩⟩⟩
theorem q_gazetteerlaw16_few {P : Program} {a0 : V} {st : St} {K : V → St → Prop} : F_gazetteerlaw16_few P a0 st K = hwp P c_gazetteerlaw16_few (hretQ [.tmp 2] K) (enterFr [a0]) st := by kernel_rfl
abbrev R_gazetteerlaw16_few (P : Program) : Prop := resFnH P n_gazetteerlaw16_few = some (21, c_gazetteerlaw16_few.er, [.tmp 2])
theorem A_gazetteerlaw16_few {P : Program} (h : R_gazetteerlaw16_few P) {a0 : V} {st : St} {K : V → St → Prop} (hF : F_gazetteerlaw16_few P a0 st K) : ACalls P n_gazetteerlaw16_few [a0] st K :=
  ACalls_h h rfl (by simp) (q_gazetteerlaw16_few ▸ hF)

def c_gazetteerref16_Wrong : ACode := (.seq (.reg [⟨(some 2), none, (.mov (.c (.int .i64 0)))⟩]) (.seq (.seq (.reg [⟨(some 5), none, (.mov (.s 0))⟩, ⟨(some 6), none, (.len .sl (.s 5))⟩, ⟨(some 7), none, (.bin .gtr (.s 6) (.c (.int .i64 64)))⟩]) (.cond (.s 7) (.seq (.reg [⟨(some 2), none, (.mov (.c (.int .i64 3)))⟩]) .ret) .skip)) (.seq (.seq (.reg [⟨(some 8), none, (.mov (.s 0))⟩, ⟨(some 9), none, (.len .sl (.s 8))⟩, ⟨(some 10), none, (.mov (.c (.int .i64 0)))⟩]) (.block 0 (.loop [10] [2, 4, 10, 11, 12, 13, 14, 15, 16, 17, 18, 19, 20, 21, 22] (.seq (.reg [⟨(some 11), none, (.bin .lss (.s 10) (.s 9))⟩]) (.seq (.cond (.s 11) .skip (.exit 0)) (.seq (.block 1 (.seq (.reg [⟨(some 12), none, (.idx 2 (.s 8) (.s 10))⟩, ⟨(some 13), none, (.ld (some 2) (.s 12))⟩, ⟨(some 4), none, (.alloc [(.int .u64 0), (.int .u64 0)])⟩, ⟨none, none, (.st 2 (.s 4) (.s 13))⟩]) (.seq (.reg [⟨(some 14), none, (.fld 0 (.s 4))⟩, ⟨(some 15), none, (.ld none (.s 14))⟩, ⟨(some 16), none, (.bin .eql (.s 15) (.c (.int .u64 0)))⟩, ⟨(some 17), none, (.mov (.s 16))⟩, ⟨(some 18), (some (17, false)), (.fld 1 (.s 4))⟩, ⟨(some 19), (some (17, false)), (.ld none (.s 18))⟩, ⟨(some 20), (some (17, false)), (.bin .eql (.s 19) (.c (.int .u64 0)))⟩, ⟨(some 21), none, (.pick (.s 17) (.c (.bool true)) (.s 20))⟩]) (.cond (.s 21) (.seq (.reg [⟨(some 2), none, (.mov (.c (.int .i64 2)))⟩]) .ret) .skip)))) (.reg [⟨(some 22), none, (.bin .add (.s 10) (.c (.int .i64 1)))⟩, ⟨(some 10), none, (.mov (.s 22))⟩]))))))) (.seq (.reg [⟨(some 2), none, (.mov (.c (.int .i64 0)))⟩]) .ret))))
def F_gazetteerref16_Wrong (P : Program) (a0 : V) (st : St) (K : V → St → Prop) : Prop :=
  @stp P (.len .sl (.c a0)) st ⟨fun v6 st =>
  @stp P (.bin .gtr (.c v6) (.c (.int .i64 64))) st ⟨fun v7 st =>
  @cnd v7 ⟨
    GhostV [(.int .i64 3)] st fun vs st => K (mkres vs) st⟩
  ⟨
    @stp P (.len .sl (.c a0)) st ⟨fun v9 st =>
    @Hold ⟨∃ I1 : Nat → Rel 1, (∃ k, GhostV [(.int .i64 0)] st (app (I1 k))) ∧ ∀ k1 v10, ∀ st, app (I1 k1) [v10] st →
      @stp P (.bin .lss (.c v10) (.c v9)) st ⟨fun v11 st =>
      @cnd v11 ⟨
        @stp P (.idx 2 (.c a0) (.c v10)) st ⟨fun v12 st =>
        @stp P (.ld (some 2) (.c v12)) st ⟨fun v13 st =>
        @stp P (.alloc [(.int .u64 0), (.int .u64 0)]) st ⟨fun v4 st =>
        @stp P (.st 2 (.c v4) (.c v13)) st ⟨fun _v st =>
        @stp P (.fld 0 (.c v4)) st ⟨fun v14 st =>
        @stp P (.ld none (.c v14)) st ⟨fun v15 st =>
        @stp P (.bin .eql (.c v15) (.c (.int .u64 0))) st ⟨fun v16 st =>
        @gst P v16 false (.fld 1 (.c v4)) st ⟨fun v18 st =>
        @gst P v16 false (.ld none (.c v18)) st ⟨fun v19 st =>
        @gst P v16 false (.bin .eql (.c v19) (.c (.int .u64 0))) st ⟨fun v20 st =>
        @stp P (.pick (.c v16) (.c (.bool true)) (.c v20)) st ⟨fun v21 st =>
        @cnd v21 ⟨
          GhostV [(.int .i64 2)] st fun vs st => K (mkres vs) st⟩
        ⟨
          @stp P (.bin .add (.c v10) (.c (.int .i64 1))) st ⟨fun v22 st =>
          ∃ j, j < k1 ∧ GhostV [v22] st (app (I1 j))⟩⟩⟩⟩⟩⟩⟩⟩⟩⟩⟩⟩⟩⟩
      ⟨
        GhostV [(.int .i64 0)] st fun vs st => K (mkres vs) st⟩⟩⟩⟩⟩⟩⟩
theorem q_gazetteerref16_Wrong {P : Program} {a0 : V} {st : St} {K : V → St → Prop} : F_gazetteerref16_Wrong P a0 st K = hwp P c_gazetteerref16_Wrong (hretQ [.tmp 2] K) (enterFr [a0]) st := by kernel_rfl
abbrev R_gazetteerref16_Wrong (P : Program) : Prop := resFnH P n_gazetteerref16_Wrong = some (23, c_gazetteerref16_Wrong.er, [.tmp 2])
theorem A_gazetteerref16_Wrong {P : Program} (h : R_gazetteerref16_Wrong P) {a0 : V} {st : St} {K : V → St → Prop} (hF : F_gazetteerref16_Wrong P a0 st K) : ACalls P n_gazetteerref16_Wrong [a0] st K :=
  ACalls_h h rfl (by simp) (q_gazetteerref16_Wrong ▸ hF)

def c_graph_Circle : ACode := (.seq (.reg [⟨(some 2), none, (.box (.s 0))⟩, ⟨(some 3), none, (.box (.s 1))⟩, ⟨(some 4), none, (.mov (.c (.sl .nil 0 [] [])))⟩, ⟨(some 5), none, (.mov (.c (.int .i64 0)))⟩]) (.seq (.seq (.reg [⟨(some 14), none, (.ld none (.s 2))⟩, ⟨(some 15), none, (.call (.c (.fn (.func n_graph_Check) [] [])) [(.s 14)])⟩, ⟨(some 6), none, (.mov (.s 15))⟩]) (.seq (.reg [⟨(some 16), none, (.mov (.s 6))⟩, ⟨(some 17), none, (.bin .neq (.s 16) (.c (.int .i64 0)))⟩]) (.cond (.s 17) (.seq (.reg [⟨(some 18), none, (.mov (.s 6))⟩, ⟨(some 4), none, (.mov (.c (.sl .nil 0 [] [])))⟩, ⟨(some 5), none, (.mov (.s 18))⟩]) .ret) .skip))) (.seq (.regD [⟨(some 20), none, (.ld none (.s 2))⟩, ⟨(some 21), none, (.ld none (.s 3))⟩, ⟨(some 22), none, (.call (.c (.fn (.func n_graph_far) [] [])) [(.s 20), (.s 21)])⟩, ⟨(some 23), none, (.ld none (.s 3))⟩, ⟨(some 24), none, (.lookup (.one .int) (.int .i64 0) true (.s 22) (.s 23))⟩, ⟨(some 19), none, (.mov (.s 24))⟩, ⟨(some 25), none, (.ext 0 (.s 19))⟩, ⟨(some 26), none, (.ext 1 (.s 19))⟩, ⟨(some 7), none, (.alloc [(.int .i64 0)])⟩, ⟨none, none, (.st 1 (.s 7) (.s 25))⟩, ⟨(some 8), none, (.mov (.s 26))⟩] [(0, (false, [])), (1, (false, [])), (3, (false, [])), (2, (true, [3])), (4, (false, [])), (5, (false, [])), (6, (false, [])), (7, (false, [])), (10, (false, [])), (8, (false, [])), (9, (false, []))]) (.seq (.seq (.reg [⟨(some 27), none, (.mov (.s 8))⟩, ⟨(some 28), none, (.un .not (.s 27))⟩]) (.cond (.s 28) (.seq (.reg [⟨(some 4), none, (.mov (.c (.sl .nil 0 [] [])))⟩, ⟨(some 5), none, (.mov (.c (.int .i64 4)))⟩]) .ret) .skip)) (.seq (.reg [⟨(some 29), none, (.ld none (.s 3))⟩, ⟨(some 30), none, (.mkSl 1 1 [(.int .u64 0)] [(0, (.s 29))])⟩, ⟨(some 9), none, (.mov (.s 30))⟩]) (.seq (.seq (.reg [⟨(some 31), none, (.ld none (.s 3))⟩, ⟨(some 10), none, (.alloc [(.int .u64 0)])⟩, ⟨none, none, (.st 1 (.s 10) (.s 31))⟩]) (.block 0 (.loop [9, 10] [9, 10, 32, 33, 34, 35, 36, 37, 38, 55, 56, 57, 58, 59] (.seq (.seq (.reg [⟨(some 32), none, (.ld none (.s 7))⟩, ⟨(some 33), none, (.bin .gtr (.s 32) (.c (.int .i64 1)))⟩]) (.cond (.s 33) .skip (.exit 0))) (.seq (.block 1 (.seq (.reg [⟨(some 34), none, (.ld none (.s 7))⟩, ⟨(some 35), none, (.bin .sub (.s 34) (.c (.int .i64 1)))⟩, ⟨none, none, (.st 1 (.s 7) (.s 35))⟩]) (.seq (.seq (.reg [⟨(some 36), none, (.ld none (.s 2))⟩, ⟨(some 37), none, (.ld none (.s 10))⟩, ⟨(some 38), none, (.call (.c (.fn (.func n_graph_nexts) [] [])) [(.s 36), (.s 37)])⟩]) (.block 2 (.rfunc (.s 38) [39] (.reg [⟨(some 11), none, (.mov (.s 39))⟩]) (.block 3 (.seq (.regD [⟨(some 41), none, (.ld none (.s 2))⟩, ⟨(some 42), none, (.mov (.s 11))⟩, ⟨(some 43), none, (.call (.c (.fn (.func n_graph_far) [] [])) [(.s 41), (.s 42)])⟩, ⟨(some 44), none, (.ld none (.s 3))⟩, ⟨(some 45), none, (.lookup (.one .int) (.int .i64 0) true (.s 43) (.s 44))⟩, ⟨(some 40), none, (.mov (.s 45))⟩, ⟨(some 46), none, (.ext 0 (.s 40))⟩, ⟨(some 47), none, (.ext 1 (.s 40))⟩, ⟨(some 12), none, (.mov (.s 46))⟩, ⟨(some 13), none, (.mov (.s 47))⟩] [(0, (false, [])), (1, (false, [])), (3, (false, [])), (2, (true, [3])), (4, (false, [])), (5, (false, [])), (6, (false, [])), (7, (false, [])), (8, (false, [])), (9, (false, []))]) (.seq (.reg [⟨(some 48), none, (.mov (.s 13))⟩, ⟨(some 49), none, (.mov (.s 48))⟩, ⟨(some 50), (some (49, true)), (.mov (.s 12))⟩, ⟨(some 51), (some (49, true)), (.ld none (.s 7))⟩, ⟨(some 52), (some (49, true)), (.bin .eql (.s 50) (.s 51))⟩, ⟨(some 53), none, (.pick (.s 49) (.s 52) (.c (.bool false)))⟩]) (.cond (.s 53) (.seq (.reg [⟨(some 54), none, (.mov (.s 11))⟩, ⟨none, none, (.st 1 (.s 10) (.s 54))⟩]) (.exit 2)) .skip))))))) (.reg [⟨(some 55), none, (.mov (.s 9))⟩, ⟨(some 56), none, (.ld none (.s 10))⟩, ⟨(some 57), none, (.mkSl 1 1 [(.int .u64 0)] [(0, (.s 56))])⟩, ⟨(some 58), none, (.append 1 8 (.s 55) (.s 57))⟩, ⟨(some 9), none, (.mov (.s 58))⟩])))) (.seq (.reg [⟨(some 59), none, (.ld none (.s 10))⟩]) (.reg [⟨(some 10), none, (.alloc [(.int .u64 0)])⟩, ⟨none, none, (.st 1 (.s 10) (.s 59))⟩]))))))) (.seq (.reg [⟨(some 60), none, (.mov (.s 9))⟩, ⟨(some 4), none, (.mov (.s 60))⟩, ⟨(some 5), none, (.mov (.c (.int .i64 0)))⟩]) .ret)))))))
def F_graph_Circle (P : Program) (a0 a1 : V) (st : St) (K : V → St → Prop) : Prop :=
  @stp P (.box (.c a0)) st ⟨fun v2 st =>
  @stp P (.box (.c a1)) st ⟨fun v3 st =>
  @stp P (.ld none (.c v2)) st ⟨fun v14 st =>
  @stp P (.call (.c (.fn (.func n_graph_Check) [] [])) [(.c v14)]) st ⟨fun v15 st =>
  @stp P (.bin .neq (.c v15) (.c (.int .i64 0))) st ⟨fun v17 st =>
  @cnd v17 ⟨
    GhostV [(.sl .nil 0 [] []), v15] st fun vs st => K (mkres vs) st⟩
  ⟨
    @stpD P (.ld none (.c v2)) st ⟨fun v20 st =>
    @stpD P (.ld none (.c v3)) st ⟨fun v21 st =>
    @stpD P (.ld none (.c v3)) st ⟨fun v23 st =>
    @stpD P (.call (.c (.fn (.func n_graph_far) [] [])) [(.c v20), (.c v21)]) st ⟨fun v22 st =>
    hwat P none (.ld none (.c v3)) st v23 ∧ (
    @stpD P (.lookup (.one .int) (.int .i64 0) true (.c v22) (.c v23)) st ⟨fun v24 st =>
    @stpD P (.ext 0 (.c v24)) st ⟨fun v25 st =>
    @stpD P (.ext 1 (.c v24)) st ⟨fun v26 st =>
    @stpD P (.alloc [(.int .i64 0)]) st ⟨fun v7 st =>
    @stpD P (.st 1 (.c v7) (.c v25)) st ⟨fun _v st =>
    @stp P (.un .not (.c v26)) st ⟨fun v28 st =>
    @cnd v28 ⟨
      GhostV [(.sl .nil 0 [] []), (.int .i64 4)] st fun vs st => K (mkres vs) st⟩
    ⟨
      @stp P (.ld none (.c v3)) st ⟨fun v29 st =>
      @stp P (.mkSl 1 1 [(.int .u64 0)] [(0, (.c v29))]) st ⟨fun v30 st =>
      @stp P (.ld none (.c v3)) st ⟨fun v31 st =>
      @stp P (.alloc [(.int .u64 0)]) st ⟨fun v10 st =>
      @stp P (.st 1 (.c v10) (.c v31)) st ⟨fun _v st =>
      @Hold ⟨∃ I1 : Nat → Rel 2, (∃ k, GhostV [v30, v10] st (app (I1 k))) ∧ ∀ k1 v9 v10, ∀ st, app (I1 k1) [v9, v10] st →
        @stp P (.ld none (.c v7)) st ⟨fun v32 st =>
        @stp P (.bin .gtr (.c v32) (.c (.int .i64 1))) st ⟨fun v33 st =>
        @cnd v33 ⟨
          @stp P (.ld none (.c v7)) st ⟨fun v34 st =>
          @stp P (.bin .sub (.c v34) (.c (.int .i64 1))) st ⟨fun v35 st =>
          @stp P (.st 1 (.c v7) (.c v35)) st ⟨fun _v st =>
          @stp P (.ld none (.c v2)) st ⟨fun v36 st =>
          @stp P (.ld none (.c v10)) st ⟨fun v37 st =>
          @stp P (.call (.c (.fn (.func n_graph_nexts) [] [])) [(.c v36), (.c v37)]) st ⟨fun v38 st =>
          @Hold ⟨(fun s2 : St => ∀ LP2 : LSt → Obj,
            (∀ (st : St) (K : V → St → Prop) (v39 : V), st.get s2.objs.length s2.nv = some (LP2 .ready) → (
              st.get s2.objs.length s2.nv = some (LP2 .ready) ∧ (fun st : St =>
                @stpD P (.ld none (.c v2)) st ⟨fun v41 st =>
                @stpD P (.ld none (.c v3)) st ⟨fun v44 st =>
                @stpD P (.call (.c (.fn (.func n_graph_far) [] [])) [(.c v41), (.c v39)]) st ⟨fun v43 st =>
                hwat P none (.ld none (.c v3)) st v44 ∧ (
                @stpD P (.lookup (.one .int) (.int .i64 0) true (.c v43) (.c v44)) st ⟨fun v45 st =>
                @stpD P (.ext 0 (.c v45)) st ⟨fun v46 st =>
                @stpD P (.ext 1 (.c v45)) st ⟨fun v47 st =>
                @gst P v47 true (.mov (.c v46)) st ⟨fun v50 st =>
                @gst P v47 true (.ld none (.c v7)) st ⟨fun v51 st =>
                @gst P v47 true (.bin .eql (.c v50) (.c v51)) st ⟨fun v52 st =>
                @stp P (.pick (.c v47) (.c v52) (.c (.bool false))) st ⟨fun v53 st =>
                @cnd v53 ⟨
                  @stp P (.st 1 (.c v10) (.c v39)) st ⟨fun _v st =>
                  st.get s2.objs.length s2.nv = some (LP2 .busy) ∧ K (.bool false) (st.setO s2.objs.length s2.nv (LP2 (.done (.exit 2))))⟩⟩
                ⟨
                  st.get s2.objs.length s2.nv = some (LP2 .busy) ∧ K (.bool true) (st.setO s2.objs.length s2.nv (LP2 .ready))⟩⟩⟩⟩⟩⟩⟩⟩)⟩⟩⟩) (st.setO s2.objs.length s2.nv (LP2 .busy))) →
            AInv P (.yld s2.objs.length s2.nv) [v39] st K) →
            AInvE P v38 [.yld s2.objs.length s2.nv] (s2.push (LP2 .ready)) fun _ st => ∃ s, st.get s2.objs.length s2.nv = some (LP2 s) ∧ (fun st : St => hend s (
              @stp P (.ld none (.c v10)) st ⟨fun v56 st =>
              @stp P (.mkSl 1 1 [(.int .u64 0)] [(0, (.c v56))]) st ⟨fun v57 st =>
              @stp P (.append 1 8 (.c v9) (.c v57)) st ⟨fun v58 st =>
              @stp P (.ld none (.c v10)) st ⟨fun v59 st =>
              @stp P (.alloc [(.int .u64 0)]) st ⟨fun v10_1 st =>
              @stp P (.st 1 (.c v10_1) (.c v59)) st ⟨fun _v st =>
              ∃ j, j < k1 ∧ GhostV [v58, v10_1] st (app (I1 j))⟩⟩⟩⟩⟩⟩)
            (
              GhostV [(.sl .nil 0 [] []), (.int .i64 0)] st fun vs st => K (mkres vs) st)
            (fun id : Nat =>               (if id = 2 then
                @stp P (.ld none (.c v10)) st ⟨fun v56 st =>
                @stp P (.mkSl 1 1 [(.int .u64 0)] [(0, (.c v56))]) st ⟨fun v57 st =>
                @stp P (.append 1 8 (.c v9) (.c v57)) st ⟨fun v58 st =>
                @stp P (.ld none (.c v10)) st ⟨fun v59 st =>
                @stp P (.alloc [(.int .u64 0)]) st ⟨fun v10_1 st =>
                @stp P (.st 1 (.c v10_1) (.c v59)) st ⟨fun _v st =>
                ∃ j, j < k1 ∧ GhostV [v58, v10_1] st (app (I1 j))⟩⟩⟩⟩⟩⟩
              else
                (if id = 1 then
                  @stp P (.ld none (.c v10)) st ⟨fun v59 st =>
                  @stp P (.alloc [(.int .u64 0)]) st ⟨fun v10_1 st =>
                  @stp P (.st 1 (.c v10_1) (.c v59)) st ⟨fun _v st =>
                  ∃ j, j < k1 ∧ GhostV [v9, v10_1] st (app (I1 j))⟩⟩⟩
                else
                  (if id = 0 then
                    GhostV [v9, (.int .i64 0)] st fun vs st => K (mkres vs) st
                  else
                    False))))) (st.gone s2.objs.length)) st⟩⟩⟩⟩⟩⟩⟩⟩
        ⟨
          GhostV [v9, (.int .i64 0)] st fun vs st => K (mkres vs) st⟩⟩⟩⟩⟩⟩⟩⟩⟩⟩⟩⟩⟩⟩⟩⟩)⟩⟩⟩⟩⟩⟩⟩⟩⟩⟩
theorem q_graph_Circle {P : Program} {a0 a1 : V} {st : St} {K : V → St → Prop} : F_graph_Circle P a0 a1 st K = hwp P c_graph_Circle (hretQ [.tmp 4, .tmp 5] K) (enterFr [a0, a1]) st := by kernel_rfl
abbrev R_graph_Circle (P : Program) : Prop := resFnH P n_graph_Circle = some (61, c_graph_Circle.er, [.tmp 4, .tmp 5])
theorem A_graph_Circle {P : Program} (h : R_graph_Circle P) {a0 a1 : V} {st : St} {K : V → St → Prop} (hF : F_graph_Circle P a0 a1 st K) : ACalls P n_graph_Circle [a0, a1] st K :=
  ACalls_h h rfl (by simp) (q_graph_Circle ▸ hF)

def c_gazetteerref16_Has : ACode := (.seq (.reg [⟨(some 4), none, (.mov (.c (.bool false)))⟩]) (.seq (.seq (.reg [⟨(some 7), none, (.mov (.s 0))⟩, ⟨(some 8), none, (.len .sl (.s 7))⟩, ⟨(some 9), none, (.mov (.c (.int .i64 0)))⟩]) (.block 0 (.loop [9] [4, 6, 9, 10, 11, 12, 13, 14, 15, 16] (.seq (.reg [⟨(some 10), none, (.bin .lss (.s 9) (.s 8))⟩]) (.seq (.cond (.s 10) .skip (.exit 0)) (.seq (.block 1 (.seq (.reg [⟨(some 11), none, (.idx 1 (.s 7) (.s 9))⟩, ⟨(some 12), none, (.ld none (.s 11))⟩, ⟨(some 6), none, (.mov (.s 12))⟩]) (.seq (.reg [⟨(some 13), none, (.mov (.s 6))⟩, ⟨(some 14), none, (.mov (.s 1))⟩, ⟨(some 15), none, (.bin .eql (.s 13) (.s 14))⟩]) (.cond (.s 15) (.seq (.reg [⟨(some 4), none, (.mov (.c (.bool true)))⟩]) .ret) .skip)))) (.reg [⟨(some 16), none, (.bin .add (.s 9) (.c (.int .i64 1)))⟩, ⟨(some 9), none, (.mov (.s 16))⟩]))))))) (.seq (.reg [⟨(some 4), none, (.mov (.c (.bool false)))⟩]) .ret)))
def F_gazetteerref16_Has (P : Program) (a0 a1 : V) (st : St) (K : V → St → Prop) : Prop :=
  @stp P (.len .sl (.c a0)) st ⟨fun v8 st =>
  @Hold ⟨∃ I1 : Nat → Rel 1, (∃ k, GhostV [(.int .i64 0)] st (app (I1 k))) ∧ ∀ k1 v9, ∀ st, app (I1 k1) [v9] st →
    @stp P (.bin .lss (.c v9) (.c v8)) st ⟨fun v10 st =>
    @cnd v10 ⟨
      @stp P (.idx 1 (.c a0) (.c v9)) st ⟨fun v11 st =>
      @stp P (.ld none (.c v11)) st ⟨fun v12 st =>
      @stp P (.bin .eql (.c v12) (.c a1)) st ⟨fun v15 st =>
      @cnd v15 ⟨
        GhostV [(.bool true)] st fun vs st => K (mkres vs) st⟩
      ⟨
        @stp P (.bin .add (.c v9) (.c (.int .i64 1))) st ⟨fun v16 st =>
        ∃ j, j < k1 ∧ GhostV [v16] st (app (I1 j))⟩⟩⟩⟩⟩⟩
    ⟨
      GhostV [(.bool false)] st fun vs st => K (mkres vs) st⟩⟩⟩⟩
theorem q_gazetteerref16_Has {P : Program} {a0 a1 : V} {st : St} {K : V → St → Prop} : F_gazetteerref16_Has P a0 a1 st K = hwp P c_gazetteerref16_Has (hretQ [.tmp 4] K) (enterFr [a0, a1]) st := by kernel_rfl
abbrev R_gazetteerref16_Has (P : Program) : Prop := resFnH P n_gazetteerref16_Has = some (17, c_gazetteerref16_Has.er, [.tmp 4])
theorem A_gazetteerref16_Has {P : Program} (h : R_gazetteerref16_Has P) {a0 a1 : V} {st : St} {K : V → St → Prop} (hF : F_gazetteerref16_Has P a0 a1 st K) : ACalls P n_gazetteerref16_Has [a0, a1] st K :=
  ACalls_h h rfl (by simp) (q_gazetteerref16_Has ▸ hF)

def c_gazetteerref16_Reach : ACode := (.seq (.reg [⟨(some 4), none, (.mov (.c (.sl .nil 0 [] [])))⟩]) (.seq (.reg [⟨(some 5), none, (.mov (.c (.sl .nil 0 [] [])))⟩]) (.seq (.seq (.reg [⟨(some 8), none, (.mov (.c (.int .i64 0)))⟩]) (.block 0 (.loop [5, 8] [5, 7, 8, 9, 10, 11, 12, 13, 14, 15, 16, 17, 18, 19, 20, 21, 22, 23, 24, 25, 26, 27, 28, 29, 30, 31] (.seq (.reg [⟨(some 9), none, (.bin .lss (.s 8) (.c (.int .i64 65)))⟩]) (.seq (.cond (.s 9) .skip (.exit 0)) (.seq (.block 1 (.seq (.reg [⟨(some 10), none, (.mov (.s 0))⟩, ⟨(some 11), none, (.len .sl (.s 10))⟩, ⟨(some 12), none, (.mov (.c (.int .i64 0)))⟩]) (.block 2 (.loop [5, 12] [5, 7, 12, 13, 14, 15, 16, 17, 18, 19, 20, 21, 22, 23, 24, 25, 26, 27, 28, 29, 30] (.seq (.reg [⟨(some 13), none, (.bin .lss (.s 12) (.s 11))⟩]) (.seq (.cond (.s 13) .skip (.exit 2)) (.seq (.block 3 (.seq (.reg [⟨(some 14), none, (.idx 2 (.s 10) (.s 12))⟩, ⟨(some 15), none, (.ld (some 2) (.s 14))⟩, ⟨(some 7), none, (.alloc [(.int .u64 0), (.int .u64 0)])⟩, ⟨none, none, (.st 2 (.s 7) (.s 15))⟩]) (.seq (.reg [⟨(some 16), none, (.fld 0 (.s 7))⟩, ⟨(some 17), none, (.ld none (.s 16))⟩, ⟨(some 18), none, (.mov (.s 1))⟩, ⟨(some 19), none, (.bin .eql (.s 17) (.s 18))⟩, ⟨(some 20), none, (.mov (.s 19))⟩, ⟨(some 21), (some (20, false)), (.mov (.s 5))⟩, ⟨(some 22), (some (20, false)), (.fld 0 (.s 7))⟩, ⟨(some 23), (some (20, false)), (.ld none (.s 22))⟩, ⟨(some 24), (some (20, false)), (.call (.c (.fn (.func n_gazetteerref16_Has) [] [])) [(.s 21), (.s 23)])⟩, ⟨(some 25), none, (.pick (.s 20) (.c (.bool true)) (.s 24))⟩]) (.cond (.s 25) (.reg [⟨(some 26), none, (.mov (.s 5))⟩, ⟨(some 27), none, (.fld 1 (.s 7))⟩, ⟨(some 28), none, (.ld none (.s 27))⟩, ⟨(some 29), none, (.call (.c (.fn (.func n_gazetteerref16_With) [] [])) [(.s 26), (.s 28)])⟩, ⟨(some 5), none, (.mov (.s 29))⟩]) .skip)))) (.reg [⟨(some 30), none, (.bin .add (.s 12) (.c (.int .i64 1)))⟩, ⟨(some 12), none, (.mov (.s 30))⟩])))))))) (.reg [⟨(some 31), none, (.bin .add (.s 8) (.c (.int .i64 1)))⟩, ⟨(some 8), none, (.mov (.s 31))⟩]))))))) (.seq (.reg [⟨(some 32), none, (.mov (.s 5))⟩, ⟨(some 4), none, (.mov (.s 32))⟩]) .ret))))
def F_gazetteerref16_Reach (P : Program) (a0 a1 : V) (st : St) (K : V → St → Prop) : Prop :=
  @Hold ⟨∃ I1 : Nat → Rel 2, (∃ k, GhostV [(.sl .nil 0 [] []), (.int .i64 0)] st (app (I1 k))) ∧ ∀ k1 v5 v8, ∀ st, app (I1 k1) [v5, v8] st →
    @stp P (.bin .lss (.c v8) (.c (.int .i64 65))) st ⟨fun v9 st =>
    @cnd v9 ⟨
      @stp P (.len .sl (.c a0)) st ⟨fun v11 st =>
      @Hold ⟨∃ I2 : Nat → Rel 2, (∃ k, GhostV [v5, (.int .i64 0)] st (app (I2 k))) ∧ ∀ k2 v5 v12, ∀ st, app (I2 k2) [v5, v12] st →
        @stp P (.bin .lss (.c v12) (.c v11)) st ⟨fun v13 st =>
        @cnd v13 ⟨
          @stp P (.idx 2 (.c a0) (.c v12)) st ⟨fun v14 st =>
          @stp P (.ld (some 2) (.c v14)) st ⟨fun v15 st =>
          @stp P (.alloc [(.int .u64 0), (.int .u64 0)]) st ⟨fun v7 st =>
          @stp P (.st 2 (.c v7) (.c v15)) st ⟨fun _v st =>
          @stp P (.fld 0 (.c v7)) st ⟨fun v16 st =>
          @stp P (.ld none (.c v16)) st ⟨fun v17 st =>
          @stp P (.bin .eql (.c v17) (.c a1)) st ⟨fun v19 st =>
          @gst P v19 false (.mov (.c v5)) st ⟨fun v21 st =>
          @gst P v19 false (.fld 0 (.c v7)) st ⟨fun v22 st =>
          @gst P v19 false (.ld none (.c v22)) st ⟨fun v23 st =>
          @gst P v19 false (.call (.c (.fn (.func n_gazetteerref16_Has) [] [])) [(.c v21), (.c v23)]) st ⟨fun v24 st =>
          @stp P (.pick (.c v19) (.c (.bool true)) (.c v24)) st ⟨fun v25 st =>
          @cnd v25 ⟨
            @stp P (.fld 1 (.c v7)) st ⟨fun v27 st =>
            @stp P (.ld none (.c v27)) st ⟨fun v28 st =>
            @stp P (.call (.c (.fn (.func n_gazetteerref16_With) [] [])) [(.c v5), (.c v28)]) st ⟨fun v29 st =>
            @stp P (.bin .add (.c v12) (.c (.int .i64 1))) st ⟨fun v30 st =>
            ∃ j, j < k2 ∧ GhostV [v29, v30] st (app (I2 j))⟩⟩⟩⟩⟩
          ⟨
            @stp P (.bin .add (.c v12) (.c (.int .i64 1))) st ⟨fun v30 st =>
            ∃ j, j < k2 ∧ GhostV [v5, v30] st (app (I2 j))⟩⟩⟩⟩⟩⟩⟩⟩⟩⟩⟩⟩⟩⟩⟩
        ⟨
          @stp P (.bin .add (.c v8) (.c (.int .i64 1))) st ⟨fun v31 st =>
          ∃ j, j < k1 ∧ GhostV [v5, v31] st (app (I1 j))⟩⟩⟩⟩⟩⟩
    ⟨
      GhostV [v5] st fun vs st => K (mkres vs) st⟩⟩⟩
theorem q_gazetteerref16_Reach {P : Program} {a0 a1 : V} {st : St} {K : V → St → Prop} : F_gazetteerref16_Reach P a0 a1 st K = hwp P c_gazetteerref16_Reach (hretQ [.tmp 4] K) (enterFr [a0, a1]) st := by kernel_rfl
abbrev R_gazetteerref16_Reach (P : Program) : Prop := resFnH P n_gazetteerref16_Reach = some (33, c_gazetteerref16_Reach.er, [.tmp 4])
theorem A_gazetteerref16_Reach {P : Program} (h : R_gazetteerref16_Reach P) {a0 a1 : V} {st : St} {K : V → St → Prop} (hF : F_gazetteerref16_Reach P a0 a1 st K) : ACalls P n_gazetteerref16_Reach [a0, a1] st K :=
  ACalls_h h rfl (by simp) (q_gazetteerref16_Reach ▸ hF)

def c_gazetteerref16_Same : ACode := (.seq (.reg [⟨(some 4), none, (.mov (.c (.bool false)))⟩]) (.seq (.seq (.reg [⟨(some 6), none, (.mov (.s 0))⟩, ⟨(some 7), none, (.len .sl (.s 6))⟩, ⟨(some 8), none, (.mov (.s 1))⟩, ⟨(some 9), none, (.len .sl (.s 8))⟩, ⟨(some 10), none, (.bin .neq (.s 7) (.s 9))⟩]) (.cond (.s 10) (.seq (.reg [⟨(some 4), none, (.mov (.c (.bool false)))⟩]) .ret) .skip)) (.seq (.seq (.reg [⟨(some 11), none, (.mov (.s 0))⟩, ⟨(some 12), none, (.len .sl (.s 11))⟩, ⟨(some 13), none, (.mov (.c (.int .i64 0)))⟩]) (.block 0 (.loop [13] [4, 5, 13, 14, 15, 16, 17, 18, 19, 20, 21, 22, 23, 24, 25] (.seq (.reg [⟨(some 14), none, (.bin .lss (.s 13) (.s 12))⟩]) (.seq (.cond (.s 14) .skip (.exit 0)) (.seq (.block 1 (.seq (.reg [⟨(some 15), none, (.mov (.s 13))⟩, ⟨(some 5), none, (.mov (.s 15))⟩]) (.seq (.regD [⟨(some 16), none, (.mov (.s 0))⟩, ⟨(some 17), none, (.mov (.s 5))⟩, ⟨(some 18), none, (.idx 1 (.s 16) (.s 17))⟩, ⟨(some 19), none, (.ld none (.s 18))⟩, ⟨(some 20), none, (.mov (.s 1))⟩, ⟨(some 21), none, (.mov (.s 5))⟩, ⟨(some 22), none, (.idx 1 (.s 20) (.s 21))⟩, ⟨(some 23), none, (.ld none (.s 22))⟩, ⟨(some 24), none, (.bin .neq (.s 19) (.s 23))⟩] [(0, (false, [])), (1, (false, [])), (2, (false, [])), (3, (false, [])), (4, (false, [])), (5, (false, [])), (6, (false, [])), (7, (false, [])), (8, (false, []))]) (.cond (.s 24) (.seq (.reg [⟨(some 4), none, (.mov (.c (.bool false)))⟩]) .ret) .skip)))) (.reg [⟨(some 25), none, (.bin .add (.s 13) (.c (.int .i64 1)))⟩, ⟨(some 13), none, (.mov (.s 25))⟩]))))))) (.seq (.reg [⟨(some 4), none, (.mov (.c (.bool true)))⟩]) .ret))))
def F_gazetteerref16_Same (P : Program) (a0 a1 : V) (st : St) (K : V → St → Prop) : Prop :=
  @stp P (.len .sl (.c a0)) st ⟨fun v7 st =>
  @stp P (.len .sl (.c a1)) st ⟨fun v9 st =>
  @stp P (.bin .neq (.c v7) (.c v9)) st ⟨fun v10 st =>
  @cnd v10 ⟨
    GhostV [(.bool false)] st fun vs st => K (mkres vs) st⟩
  ⟨
    @stp P (.len .sl (.c a0)) st ⟨fun v12 st =>
    @Hold ⟨∃ I1 : Nat → Rel 1, (∃ k, GhostV [(.int .i64 0)] st (app (I1 k))) ∧ ∀ k1 v13, ∀ st, app (I1 k1) [v13] st →
      @stp P (.bin .lss (.c v13) (.c v12)) st ⟨fun v14 st =>
      @cnd v14 ⟨
        @stpD P (.idx 1 (.c a0) (.c v13)) st ⟨fun v18 st =>
        @stpD P (.ld none (.c v18)) st ⟨fun v19 st =>
        @stpD P (.idx 1 (.c a1) (.c v13)) st ⟨fun v22 st =>
        @stpD P (.ld none (.c v22)) st ⟨fun v23 st =>
        @stpD P (.bin .neq (.c v19) (.c v23)) st ⟨fun v24 st =>
        @cnd v24 ⟨
          GhostV [(.bool false)] st fun vs st => K (mkres vs) st⟩
        ⟨
          @stp P (.bin .add (.c v13) (.c (.int .i64 1))) st ⟨fun v25 st =>
          ∃ j, j < k1 ∧ GhostV [v25] st (app (I1 j))⟩⟩⟩⟩⟩⟩⟩⟩
      ⟨
        GhostV [(.bool true)] st fun vs st => K (mkres vs) st⟩⟩⟩⟩⟩⟩⟩⟩
theorem q_gazetteerref16_Same {P : Program} {a0 a1 : V} {st : St} {K : V → St → Prop} : F_gazetteerref16_Same P a0 a1 st K = hwp P c_gazetteerref16_Same (hretQ [.tmp 4] K) (enterFr [a0, a1]) st := by kernel_rfl
abbrev R_gazetteerref16_Same (P : Program) : Prop := resFnH P n_gazetteerref16_Same = some (26, c_gazetteerref16_Same.er, [.tmp 4])
theorem A_gazetteerref16_Same {P : Program} (h : R_gazetteerref16_Same P) {a0 a1 : V} {st : St} {K : V → St → Prop} (hF : F_gazetteerref16_Same P a0 a1 st K) : ACalls P n_gazetteerref16_Same [a0, a1] st K :=
  ACalls_h h rfl (by simp) (q_gazetteerref16_Same ▸ hF)

def c_gazetteerref16_Circle : ACode := (.seq (.reg [⟨(some 4), none, (.mov (.c (.sl .nil 0 [] [])))⟩]) (.seq (.reg [⟨(some 12), none, (.mov (.s 1))⟩, ⟨(some 13), none, (.mkSl 1 1 [(.int .u64 0)] [(0, (.s 12))])⟩, ⟨(some 5), none, (.mov (.s 13))⟩]) (.seq (.reg [⟨(some 14), none, (.mov (.s 1))⟩, ⟨(some 6), none, (.mov (.s 14))⟩]) (.seq (.seq (.reg [⟨(some 15), none, (.mov (.s 0))⟩, ⟨(some 16), none, (.mov (.s 1))⟩, ⟨(some 17), none, (.mov (.s 1))⟩, ⟨(some 18), none, (.call (.c (.fn (.func n_gazetteerref16_Far) [] [])) [(.s 15), (.s 16), (.s 17)])⟩, ⟨(some 19), none, (.bin .sub (.s 18) (.c (.int .i64 1)))⟩, ⟨(some 7), none, (.mov (.s 19))⟩]) (.block 0 (.loop [5, 6, 7] [5, 6, 7, 8, 9, 11, 20, 21, 22, 23, 24, 25, 26, 27, 28, 29, 30, 31, 32, 33, 34, 35, 36, 37, 38, 39, 40, 41, 42, 43, 44, 45, 46, 47, 48, 49, 50, 51, 52, 53, 54, 55, 56, 57, 58, 59, 60] (.seq (.seq (.reg [⟨(some 20), none, (.mov (.s 7))⟩, ⟨(some 21), none, (.bin .gtr (.s 20) (.c (.int .i64 0)))⟩]) (.cond (.s 21) .skip (.exit 0))) (.seq (.block 1 (.seq (.reg [⟨(some 8), none, (.mov (.c (.int .u64 0)))⟩, ⟨(some 9), none, (.mov (.c (.bool false)))⟩]) (.seq (.seq (.reg [⟨(some 24), none, (.mov (.s 0))⟩, ⟨(some 25), none, (.len .sl (.s 24))⟩, ⟨(some 26), none, (.mov (.c (.int .i64 0)))⟩]) (.block 2 (.loop [8, 9, 26] [8, 9, 11, 26, 27, 28, 29, 30, 31, 32, 33, 34, 35, 36, 37, 38, 39, 40, 41, 42, 43, 44, 45, 46, 47, 48, 49, 50, 51, 52, 53, 54, 55] (.seq (.reg [⟨(some 27), none, (.bin .lss (.s 26) (.s 25))⟩]) (.seq (.cond (.s 27) .skip (.exit 2)) (.seq (.block 3 (.seq (.reg [⟨(some 28), none, (.idx 2 (.s 24) (.s 26))⟩, ⟨(some 29), none, (.ld (some 2) (.s 28))⟩, ⟨(some 11), none, (.alloc [(.int .u64 0), (.int .u64 0)])⟩, ⟨none, none, (.st 2 (.s 11) (.s 29))⟩]) (.seq (.reg [⟨(some 30), none, (.fld 0 (.s 11))⟩, ⟨(some 31), none, (.ld none (.s 30))⟩, ⟨(some 32), none, (.mov (.s 6))⟩, ⟨(some 33), none, (.bin .eql (.s 31) (.s 32))⟩, ⟨(some 34), none, (.mov (.s 33))⟩, ⟨(some 35), (some (34, true)), (.mov (.s 9))⟩, ⟨(some 36), (some (34, true)), (.un .not (.s 35))⟩, ⟨(some 37), (some (34, true)), (.mov (.s 36))⟩, ⟨(some 38), (some (37, false)), (.fld 1 (.s 11))⟩, ⟨(some 39), (some (37, false)), (.ld none (.s 38))⟩, ⟨(some 40), (some (37, false)), (.mov (.s 8))⟩, ⟨(some 41), (some (37, false)), (.bin .lss (.s 39) (.s 40))⟩, ⟨(some 42), (some (34, true)), (.pick (.s 37) (.c (.bool true)) (.s 41))⟩, ⟨(some 43), none, (.pick (.s 34) (.s 42) (.c (.bool false)))⟩, ⟨(some 44), none, (.mov (.s 43))⟩, ⟨(some 45), (some (44, true)), (.mov (.s 0))⟩, ⟨(some 46), (some (44, true)), (.fld 1 (.s 11))⟩, ⟨(some 47), (some (44, true)), (.ld none (.s 46))⟩, ⟨(some 48), (some (44, true)), (.mov (.s 1))⟩, ⟨(some 49), (some (44, true)), (.call (.c (.fn (.func n_gazetteerref16_Far) [] [])) [(.s 45), (.s 47), (.s 48)])⟩, ⟨(some 50), (some (44, true)), (.mov (.s 7))⟩, ⟨(some 51), (some (44, true)), (.bin .eql (.s 49) (.s 50))⟩, ⟨(some 52), none, (.pick (.s 44) (.s 51) (.c (.bool false)))⟩]) (.cond (.s 52) (.reg [⟨(some 53), none, (.fld 1 (.s 11))⟩, ⟨(some 54), none, (.ld none (.s 53))⟩, ⟨(some 8), none, (.mov (.s 54))⟩, ⟨(some 9), none, (.mov (.c (.bool true)))⟩]) .skip)))) (.reg [⟨(some 55), none, (.bin .add (.s 26) (.c (.int .i64 1)))⟩, ⟨(some 26), none, (.mov (.s 55))⟩]))))))) (.seq (.reg [⟨(some 56), none, (.mov (.s 5))⟩, ⟨(some 57), none, (.mov (.s 8))⟩, ⟨(some 58), none, (.mkSl 1 1 [(.int .u64 0)] [(0, (.s 57))])⟩, ⟨(some 59), none, (.append 1 8 (.s 56) (.s 58))⟩, ⟨(some 5), none, (.mov (.s 59))⟩]) (.reg [⟨(some 60), none, (.mov (.s 8))⟩, ⟨(some 6), none, (.mov (.s 60))⟩]))))) (.reg [⟨(some 22), none, (.mov (.s 7))⟩, ⟨(some 23), none, (.bin .sub (.s 22) (.c (.int .i64 1)))⟩, ⟨(some 7), none, (.mov (.s 23))⟩])))))) (.seq (.reg [⟨(some 61), none, (.mov (.s 5))⟩, ⟨(some 4), none, (.mov (.s 61))⟩]) .ret)))))
def F_gazetteerref16_Circle (P : Program) (a0 a1 : V) (st : St) (K : V → St → Prop) : Prop :=
  @stp P (.mkSl 1 1 [(.int .u64 0)] [(0, (.c a1))]) st ⟨fun v13 st =>
  @stp P (.call (.c (.fn (.func n_gazetteerref16_Far) [] [])) [(.c a0), (.c a1), (.c a1)]) st ⟨fun v18 st =>
  @stp P (.bin .sub (.c v18) (.c (.int .i64 1))) st ⟨fun v19 st =>
  @Hold ⟨∃ I1 : Nat → Rel 3, (∃ k, GhostV [v13, a1, v19] st (app (I1 k))) ∧ ∀ k1 v5 v6 v7, ∀ st, app (I1 k1) [v5, v6, v7] st →
    @stp P (.bin .gtr (.c v7) (.c (.int .i64 0))) st ⟨fun v21 st =>
    @cnd v21 ⟨
      @stp P (.len .sl (.c a0)) st ⟨fun v25 st =>
      @Hold ⟨∃ I2 : Nat → Rel 3, (∃ k, GhostV [(.int .u64 0), (.bool false), (.int .i64 0)] st (app (I2 k))) ∧ ∀ k2 v8 v9 v26, ∀ st, app (I2 k2) [v8, v9, v26] st →
        @stp P (.bin .lss (.c v26) (.c v25)) st ⟨fun v27 st =>
        @cnd v27 ⟨
          @stp P (.idx 2 (.c a0) (.c v26)) st ⟨fun v28 st =>
          @stp P (.ld (some 2) (.c v28)) st ⟨fun v29 st =>
          @stp P (.alloc [(.int .u64 0), (.int .u64 0)]) st ⟨fun v11 st =>
          @stp P (.st 2 (.c v11) (.c v29)) st ⟨fun _v st =>
          @stp P (.fld 0 (.c v11)) st ⟨fun v30 st =>
          @stp P (.ld none (.c v30)) st ⟨fun v31 st =>
          @stp P (.bin .eql (.c v31) (.c v6)) st ⟨fun v33 st =>
          @gst P v33 true (.mov (.c v9)) st ⟨fun v35 st =>
          @gst P v33 true (.un .not (.c v35)) st ⟨fun v36 st =>
          @gst P v33 true (.mov (.c v36)) st ⟨fun v37 st =>
          @gst P v37 false (.fld 1 (.c v11)) st ⟨fun v38 st =>
          @gst P v37 false (.ld none (.c v38)) st ⟨fun v39 st =>
          @gst P v37 false (.mov (.c v8)) st ⟨fun v40 st =>
          @gst P v37 false (.bin .lss (.c v39) (.c v40)) st ⟨fun v41 st =>
          @gst P v33 true (.pick (.c v37) (.c (.bool true)) (.c v41)) st ⟨fun v42 st =>
          @stp P (.pick (.c v33) (.c v42) (.c (.bool false))) st ⟨fun v43 st =>
          @gst P v43 true (.mov (.c a0)) st ⟨fun v45 st =>
          @gst P v43 true (.fld 1 (.c v11)) st ⟨fun v46 st =>
          @gst P v43 true (.ld none (.c v46)) st ⟨fun v47 st =>
          @gst P v43 true (.mov (.c a1)) st ⟨fun v48 st =>
          @gst P v43 true (.call (.c (.fn (.func n_gazetteerref16_Far) [] [])) [(.c v45), (.c v47), (.c v48)]) st ⟨fun v49 st =>
          @gst P v43 true (.mov (.c v7)) st ⟨fun v50 st =>
          @gst P v43 true (.bin .eql (.c v49) (.c v50)) st ⟨fun v51 st =>
          @stp P (.pick (.c v43) (.c v51) (.c (.bool false))) st ⟨fun v52 st =>
          @cnd v52 ⟨
            @stp P (.fld 1 (.c v11)) st ⟨fun v53 st =>
            @stp P (.ld none (.c v53)) st ⟨fun v54 st =>
            @stp P (.bin .add (.c v26) (.c (.int .i64 1))) st ⟨fun v55 st =>
            ∃ j, j < k2 ∧ GhostV [v54, (.bool true), v55] st (app (I2 j))⟩⟩⟩⟩
          ⟨
            @stp P (.bin .add (.c v26) (.c (.int .i64 1))) st ⟨fun v55 st =>
            ∃ j, j < k2 ∧ GhostV [v8, v9, v55] st (app (I2 j))⟩⟩⟩⟩⟩⟩⟩⟩⟩⟩⟩⟩⟩⟩⟩⟩⟩⟩⟩⟩⟩⟩⟩⟩⟩⟩⟩
        ⟨
          @stp P (.mkSl 1 1 [(.int .u64 0)] [(0, (.c v8))]) st ⟨fun v58 st =>
          @stp P (.append 1 8 (.c v5) (.c v58)) st ⟨fun v59 st =>
          @stp P (.bin .sub (.c v7) (.c (.int .i64 1))) st ⟨fun v23 st =>
          ∃ j, j < k1 ∧ GhostV [v59, v8, v23] st (app (I1 j))⟩⟩⟩⟩⟩⟩⟩⟩
    ⟨
      GhostV [v5] st fun vs st => K (mkres vs) st⟩⟩⟩⟩⟩⟩
theorem q_gazetteerref16_Circle {P : Program} {a0 a1 : V} {st : St} {K : V → St → Prop} : F_gazetteerref16_Circle P a0 a1 st K = hwp P c_gazetteerref16_Circle (hretQ [.tmp 4] K) (enterFr [a0, a1]) st := by kernel_rfl
abbrev R_gazetteerref16_Circle (P : Program) : Prop := resFnH P n_gazetteerref16_Circle = some (62, c_gazetteerref16_Circle.er, [.tmp 4])
theorem A_gazetteerref16_Circle {P : Program} (h : R_gazetteerref16_Circle P) {a0 a1 : V} {st : St} {K : V → St → Prop} (hF : F_gazetteerref16_Circle P a0 a1 st K) : ACalls P n_gazetteerref16_Circle [a0, a1] st K :=
  ACalls_h h rfl (by simp) (q_gazetteerref16_Circle ▸ hF)

def c_gazetteerlaw16_whole : ACode := (.seq (.reg [⟨(some 4), none, (.mov (.c (.bool false)))⟩]) (.seq (.reg [⟨(some 5), none, (.mov (.s 0))⟩, ⟨(some 6), none, (.mov (.s 1))⟩, ⟨(some 7), none, (.call (.c (.fn (.func n_gazetteerref16_SameEdges) [] [])) [(.s 5), (.s 6)])⟩, ⟨(some 8), none, (.mov (.s 7))⟩, ⟨(some 9), (some (8, true)), (.mov (.s 0))⟩, ⟨(some 10), (some (8, true)), (.mov (.s 0))⟩, ⟨(some 11), (some (8, true)), (.len .sl (.s 10))⟩, ⟨(some 12), (some (8, true)), (.bin .add (.s 11) (.c (.int .i64 1)))⟩, ⟨(some 13), (some (8, true)), (.slice 2 (.s 9) none (some (.s 12)) none)⟩, ⟨(some 14), (some (8, true)), (.mov (.s 0))⟩, ⟨(some 15), (some (8, true)), (.len .sl (.s 14))⟩, ⟨(some 16), (some (8, true)), (.idx 2 (.s 13) (.s 15))⟩, ⟨(some 17), (some (8, true)), (.ld (some 2) (.s 16))⟩, ⟨(some 18), (some (8, true)), (.build [(.int .u64 0), (.int .u64 0)] [(0, (1, (.c (.int .u64 77)))), (1, (1, (.c (.int .u64 78))))])⟩, ⟨(some 19), (some (8, true)), (.eqs false (.flat [.int, .int]) (.s 17) (.s 18))⟩, ⟨(some 20), none, (.pick (.s 8) (.s 19) (.c (.bool false)))⟩, ⟨(some 4), none, (.mov (.s 20))⟩]) .ret))
def F_gazetteerlaw16_whole (P : Program) (a0 a1 : V) (st : St) (K : V → St → Prop) : Prop :=
  @stp P (.call (.c (.fn (.func n_gazetteerref16_SameEdges) [] [])) [(.c a0), (.c a1)]) st ⟨fun v7 st =>
  @gst P v7 true (.mov (.c a0)) st ⟨fun v9 st =>
  @gst P v7 true (.mov (.c a0)) st ⟨fun v10 st =>
  @gst P v7 true (.len .sl (.c v10)) st ⟨fun v11 st =>
  @gst P v7 true (.bin .add (.c v11) (.c (.int .i64 1))) st ⟨fun v12 st =>
  @gst P v7 true (.slice 2 (.c v9) none (some (.c v12)) none) st ⟨fun v13 st =>
  @gst P v7 true (.mov (.c a0)) st ⟨fun v14 st =>
  @gst P v7 true (.len .sl (.c v14)) st ⟨fun v15 st =>
  @gst P v7 true (.idx 2 (.c v13) (.c v15)) st ⟨fun v16 st =>
  @gst P v7 true (.ld (some 2) (.c v16)) st ⟨fun v17 st =>
  @gst P v7 true (.build [(.int .u64 0), (.int .u64 0)] [(0, 1, (.c (.int .u64 77))), (1, 1, (.c (.int .u64 78)))]) st ⟨fun v18 st =>
  @gst P v7 true (.eqs false (.flat [.int, .int]) (.c v17) (.c v18)) st ⟨fun v19 st =>
  @stp P (.pick (.c v7) (.c v19) (.c (.bool false))) st ⟨fun v20 st =>
  GhostV [v20] st fun vs st => K (mkres vs) st⟩⟩⟩⟩⟩⟩⟩⟩⟩⟩⟩⟩⟩
theorem q_gazetteerlaw16_whole {P : Program} {a0 a1 : V} {st : St} {K : V → St → Prop} : F_gazetteerlaw16_whole P a0 a1 st K = hwp P c_gazetteerlaw16_whole (hretQ [.tmp 4] K) (enterFr [a0, a1]) st := by kernel_rfl
abbrev R_gazetteerlaw16_whole (P : Program) : Prop := resFnH P n_gazetteerlaw16_whole = some (21, c_gazetteerlaw16_whole.er, [.tmp 4])
theorem A_gazetteerlaw16_whole {P : Program} (h : R_gazetteerlaw16_whole P) {a0 a1 : V} {st : St} {K : V → St → Prop} (hF : F_gazetteerlaw16_whole P a0 a1 st K) : ACalls P n_gazetteerlaw16_whole [a0, a1] st K :=
  ACalls_h h rfl (by simp) (q_gazetteerlaw16_whole ▸ hF)

def c_graph_On : ACode := (.seq (.reg [⟨(some 2), none, (.mov (.c (.sl .nil 0 [] [])))⟩, ⟨(some 3), none, (.mov (.c (.int .i64 0)))⟩]) (.seq (.seq (.reg [⟨(some 8), none, (.mov (.s 0))⟩, ⟨(some 9), none, (.call (.c (.fn (.func n_graph_Check) [] [])) [(.s 8)])⟩, ⟨(some 4), none, (.mov (.s 9))⟩]) (.seq (.reg [⟨(some 10), none, (.mov (.s 4))⟩, ⟨(some 11), none, (.bin .neq (.s 10) (.c (.int .i64 0)))⟩]) (.cond (.s 11) (.seq (.reg [⟨(some 12), none, (.mov (.s 4))⟩, ⟨(some 2), none, (.mov (.c (.sl .nil 0 [] [])))⟩, ⟨(some 3), none, (.mov (.s 12))⟩]) .ret) .skip))) (.seq (.reg [⟨(some 13), none, .mkmap⟩, ⟨(some 5), none, (.mov (.s 13))⟩]) (.seq (.seq (.reg [⟨(some 14), none, (.mov (.s 0))⟩, ⟨(some 15), none, (.len .sl (.s 14))⟩, ⟨(some 16), none, (.mov (.c (.int .i64 0)))⟩]) (.block 0 (.loop [16] [7, 16, 17, 18, 19, 20, 21, 22, 23, 24, 25, 26, 27] (.seq (.reg [⟨(some 17), none, (.bin .lss (.s 16) (.s 15))⟩]) (.seq (.cond (.s 17) .skip (.exit 0)) (.seq (.block 1 (.seq (.reg [⟨(some 18), none, (.idx 2 (.s 14) (.s 16))⟩, ⟨(some 19), none, (.ld (some 2) (.s 18))⟩, ⟨(some 7), none, (.alloc [(.int .u64 0), (.int .u64 0)])⟩, ⟨none, none, (.st 2 (.s 7) (.s 19))⟩]) (.seq (.reg [⟨(some 20), none, (.mov (.s 0))⟩, ⟨(some 21), none, (.fld 0 (.s 7))⟩, ⟨(some 22), none, (.ld none (.s 21))⟩, ⟨(some 23), none, (.call (.c (.fn (.func n_graph_rings) [] [])) [(.s 20), (.s 22)])⟩]) (.cond (.s 23) (.reg [⟨(some 24), none, (.mov (.s 5))⟩, ⟨(some 25), none, (.fld 0 (.s 7))⟩, ⟨(some 26), none, (.ld none (.s 25))⟩, ⟨none, none, (.mupd (.one .int) (.s 24) (.s 26) (.c (.bool true)))⟩]) .skip)))) (.reg [⟨(some 27), none, (.bin .add (.s 16) (.c (.int .i64 1)))⟩, ⟨(some 16), none, (.mov (.s 27))⟩]))))))) (.seq (.reg [⟨(some 28), none, (.mov (.s 5))⟩, ⟨(some 29), none, (.call (.c (.fn (.func n_graph_rising_uint64_bool) [] [])) [(.s 28)])⟩, ⟨(some 2), none, (.mov (.s 29))⟩, ⟨(some 3), none, (.mov (.c (.int .i64 0)))⟩]) .ret)))))
def F_graph_On (P : Program) (a0 : V) (st : St) (K : V → St → Prop) : Prop :=
  @stp P (.call (.c (.fn (.func n_graph_Check) [] [])) [(.c a0)]) st ⟨fun v9 st =>
  @stp P (.bin .neq (.c v9) (.c (.int .i64 0))) st ⟨fun v11 st =>
  @cnd v11 ⟨
    GhostV [(.sl .nil 0 [] []), v9] st fun vs st => K (mkres vs) st⟩
  ⟨
    @stp P .mkmap st ⟨fun v13 st =>
    @stp P (.len .sl (.c a0)) st ⟨fun v15 st =>
    @Hold ⟨∃ I1 : Nat → Rel 1, (∃ k, GhostV [(.int .i64 0)] st (app (I1 k))) ∧ ∀ k1 v16, ∀ st, app (I1 k1) [v16] st →
      @stp P (.bin .lss (.c v16) (.c v15)) st ⟨fun v17 st =>
      @cnd v17 ⟨
        @stp P (.idx 2 (.c a0) (.c v16)) st ⟨fun v18 st =>
        @stp P (.ld (some 2) (.c v18)) st ⟨fun v19 st =>
        @stp P (.alloc [(.int .u64 0), (.int .u64 0)]) st ⟨fun v7 st =>
        @stp P (.st 2 (.c v7) (.c v19)) st ⟨fun _v st =>
        @stp P (.fld 0 (.c v7)) st ⟨fun v21 st =>
        @stp P (.ld none (.c v21)) st ⟨fun v22 st =>
        @stp P (.call (.c (.fn (.func n_graph_rings) [] [])) [(.c a0), (.c v22)]) st ⟨fun v23 st =>
        @cnd v23 ⟨
          @stp P (.fld 0 (.c v7)) st ⟨fun v25 st =>
          @stp P (.ld none (.c v25)) st ⟨fun v26 st =>
          @stp P (.mupd (.one .int) (.c v13) (.c v26) (.c (.bool true))) st ⟨fun _v st =>
          @stp P (.bin .add (.c v16) (.c (.int .i64 1))) st ⟨fun v27 st =>
          ∃ j, j < k1 ∧ GhostV [v27] st (app (I1 j))⟩⟩⟩⟩⟩
        ⟨
          @stp P (.bin .add (.c v16) (.c (.int .i64 1))) st ⟨fun v27 st =>
          ∃ j, j < k1 ∧ GhostV [v27] st (app (I1 j))⟩⟩⟩⟩⟩⟩⟩⟩⟩⟩
      ⟨
        @stp P (.call (.c (.fn (.func n_graph_rising_uint64_bool) [] [])) [(.c v13)]) st ⟨fun v29 st =>
        GhostV [v29, (.int .i64 0)] st fun vs st => K (mkres vs) st⟩⟩⟩⟩⟩⟩⟩⟩⟩
theorem q_graph_On {P : Program} {a0 : V} {st : St} {K : V → St → Prop} : F_graph_On P a0 st K = hwp P c_graph_On (hretQ [.tmp 2, .tmp 3] K) (enterFr [a0]) st := by kernel_rfl
abbrev R_graph_On (P : Program) : Prop := resFnH P n_graph_On = some (30, c_graph_On.er, [.tmp 2, .tmp 3])
theorem A_graph_On {P : Program} (h : R_graph_On P) {a0 : V} {st : St} {K : V → St → Prop} (hF : F_graph_On P a0 st K) : ACalls P n_graph_On [a0] st K :=
  ACalls_h h rfl (by simp) (q_graph_On ▸ hF)

def c_graph_Check : ACode := (.seq (.reg [⟨(some 2), none, (.mov (.c (.int .i64 0)))⟩]) (.seq (.block 0 (.seq (.reg [⟨(some 4), none, (.mov (.s 0))⟩, ⟨(some 5), none, (.len .sl (.s 4))⟩, ⟨(some 6), none, (.bin .gtr (.s 5) (.c (.int .i64 64)))⟩, ⟨(some 3), none, (.mov (.s 6))⟩]) (.cond (.s 3) (.seq (.reg [⟨(some 2), none, (.mov (.c (.int .i64 3)))⟩]) .ret) (.seq (.reg [⟨(some 8), none, (.mov (.s 0))⟩, ⟨(some 9), none, (.call (.c (.fn (.func n_slices_ContainsFunc_Edge_Edge) [] [])) [(.s 8), (.c (.fn (.func n_graph_Check_1) [] []))])⟩, ⟨(some 7), none, (.mov (.s 9))⟩]) (.cond (.s 7) (.seq (.reg [⟨(some 2), none, (.mov (.c (.int .i64 2)))⟩]) .ret) .skip))))) (.seq (.reg [⟨(some 2), none, (.mov (.c (.int .i64 0)))⟩]) .ret)))
def F_graph_Check (P : Program) (a0 : V) (st : St) (K : V → St → Prop) : Prop :=
  @stp P (.len .sl (.c a0)) st ⟨fun v5 st =>
  @stp P (.bin .gtr (.c v5) (.c (.int .i64 64))) st ⟨fun v6 st =>
  @cnd v6 ⟨
    GhostV [(.int .i64 3)] st fun vs st => K (mkres vs) st⟩
  ⟨
    @stp P (.call (.c (.fn (.func n_slices_ContainsFunc_Edge_Edge) [] [])) [(.c a0), (.c (.fn (.func n_graph_Check_1) [] []))]) st ⟨fun v9 st =>
    @cnd v9 ⟨
      GhostV [(.int .i64 2)] st fun vs st => K (mkres vs) st⟩
    ⟨
      GhostV [(.int .i64 0)] st fun vs st => K (mkres vs) st⟩⟩⟩⟩⟩
theorem q_graph_Check {P : Program} {a0 : V} {st : St} {K : V → St → Prop} : F_graph_Check P a0 st K = hwp P c_graph_Check (hretQ [.tmp 2] K) (enterFr [a0]) st := by kernel_rfl
abbrev R_graph_Check (P : Program) : Prop := resFnH P n_graph_Check = some (10, c_graph_Check.er, [.tmp 2])
theorem A_graph_Check {P : Program} (h : R_graph_Check P) {a0 : V} {st : St} {K : V → St → Prop} (hF : F_graph_Check P a0 st K) : ACalls P n_graph_Check [a0] st K :=
  ACalls_h h rfl (by simp) (q_graph_Check ▸ hF)

def c_gazetteerref16_On : ACode := (.seq (.reg [⟨(some 2), none, (.mov (.c (.sl .nil 0 [] [])))⟩]) (.seq (.reg [⟨(some 3), none, (.mov (.c (.sl .nil 0 [] [])))⟩]) (.seq (.seq (.reg [⟨(some 6), none, (.mov (.s 0))⟩, ⟨(some 7), none, (.len .sl (.s 6))⟩, ⟨(some 8), none, (.mov (.c (.int .i64 0)))⟩]) (.block 0 (.loop [3, 8] [3, 5, 8, 9, 10, 11, 12, 13, 14, 15, 16, 17, 18, 19, 20, 21, 22, 23] (.seq (.reg [⟨(some 9), none, (.bin .lss (.s 8) (.s 7))⟩]) (.seq (.cond (.s 9) .skip (.exit 0)) (.seq (.block 1 (.seq (.reg [⟨(some 10), none, (.idx 2 (.s 6) (.s 8))⟩, ⟨(some 11), none, (.ld (some 2) (.s 10))⟩, ⟨(some 5), none, (.alloc [(.int .u64 0), (.int .u64 0)])⟩, ⟨none, none, (.st 2 (.s 5) (.s 11))⟩]) (.seq (.regD [⟨(some 12), none, (.mov (.s 0))⟩, ⟨(some 13), none, (.fld 0 (.s 5))⟩, ⟨(some 14), none, (.ld none (.s 13))⟩, ⟨(some 15), none, (.call (.c (.fn (.func n_gazetteerref16_Reach) [] [])) [(.s 12), (.s 14)])⟩, ⟨(some 16), none, (.fld 0 (.s 5))⟩, ⟨(some 17), none, (.ld none (.s 16))⟩, ⟨(some 18), none, (.call (.c (.fn (.func n_gazetteerref16_Has) [] [])) [(.s 15), (.s 17)])⟩] [(0, (false, [])), (1, (false, [])), (2, (false, [])), (4, (false, [])), (5, (false, [])), (3, (true, [5, 4])), (6, (true, []))]) (.cond (.s 18) (.reg [⟨(some 19), none, (.mov (.s 3))⟩, ⟨(some 20), none, (.fld 0 (.s 5))⟩, ⟨(some 21), none, (.ld none (.s 20))⟩, ⟨(some 22), none, (.call (.c (.fn (.func n_gazetteerref16_With) [] [])) [(.s 19), (.s 21)])⟩, ⟨(some 3), none, (.mov (.s 22))⟩]) .skip)))) (.reg [⟨(some 23), none, (.bin .add (.s 8) (.c (.int .i64 1)))⟩, ⟨(some 8), none, (.mov (.s 23))⟩]))))))) (.seq (.reg [⟨(some 24), none, (.mov (.s 3))⟩, ⟨(some 2), none, (.mov (.s 24))⟩]) .ret))))
def F_gazetteerref16_On (P : Program) (a0 : V) (st : St) (K : V → St → Prop) : Prop :=
  @stp P (.len .sl (.c a0)) st ⟨fun v7 st =>
  @Hold ⟨∃ I1 : Nat → Rel 2, (∃ k, GhostV [(.sl .nil 0 [] []), (.int .i64 0)] st (app (I1 k))) ∧ ∀ k1 v3 v8, ∀ st, app (I1 k1) [v3, v8] st →
    @stp P (.bin .lss (.c v8) (.c v7)) st ⟨fun v9 st =>
    @cnd v9 ⟨
      @stp P (.idx 2 (.c a0) (.c v8)) st ⟨fun v10 st =>
      @stp P (.ld (some 2) (.c v10)) st ⟨fun v11 st =>
      @stp P (.alloc [(.int .u64 0), (.int .u64 0)]) st ⟨fun v5 st =>
      @stp P (.st 2 (.c v5) (.c v11)) st ⟨fun _v st =>
      @stpD P (.fld 0 (.c v5)) st ⟨fun v13 st =>
      @stpD P (.ld none (.c v13)) st ⟨fun v14 st =>
      @stpD P (.fld 0 (.c v5)) st ⟨fun v16 st =>
      @stpD P (.ld none (.c v16)) st ⟨fun v17 st =>
      @stpD P (.call (.c (.fn (.func n_gazetteerref16_Reach) [] [])) [(.c a0), (.c v14)]) st ⟨fun v15 st =>
      hwat P none (.ld none (.c v16)) st v17 ∧ (
      hwat P none (.fld 0 (.c v5)) st v16 ∧ (
      @stpD P (.call (.c (.fn (.func n_gazetteerref16_Has) [] [])) [(.c v15), (.c v17)]) st ⟨fun v18 st =>
      @cnd v18 ⟨
        @stp P (.fld 0 (.c v5)) st ⟨fun v20 st =>
        @stp P (.ld none (.c v20)) st ⟨fun v21 st =>
        @stp P (.call (.c (.fn (.func n_gazetteerref16_With) [] [])) [(.c v3), (.c v21)]) st ⟨fun v22 st =>
        @stp P (.bin .add (.c v8) (.c (.int .i64 1))) st ⟨fun v23 st =>
        ∃ j, j < k1 ∧ GhostV [v22, v23] st (app (I1 j))⟩⟩⟩⟩⟩
      ⟨
        @stp P (.bin .add (.c v8) (.c (.int .i64 1))) st ⟨fun v23 st =>
        ∃ j, j < k1 ∧ GhostV [v3, v23] st (app (I1 j))⟩⟩⟩))⟩⟩⟩⟩⟩⟩⟩⟩⟩⟩
    ⟨
      GhostV [v3] st fun vs st => K (mkres vs) st⟩⟩⟩⟩
theorem q_gazetteerref16_On {P : Program} {a0 : V} {st : St} {K : V → St → Prop} : F_gazetteerref16_On P a0 st K = hwp P c_gazetteerref16_On (hretQ [.tmp 2] K) (enterFr [a0]) st := by kernel_rfl
abbrev R_gazetteerref16_On (P : Program) : Prop := resFnH P n_gazetteerref16_On = some (25, c_gazetteerref16_On.er, [.tmp 2])
theorem A_gazetteerref16_On {P : Program} (h : R_gazetteerref16_On P) {a0 : V} {st : St} {K : V → St → Prop} (hF : F_gazetteerref16_On P a0 st K) : ACalls P n_gazetteerref16_On [a0] st K :=
  ACalls_h h rfl (by simp) (q_gazetteerref16_On ▸ hF)

def c_graph_Reach : ACode := (.seq (.reg [⟨(some 4), none, (.mov (.c (.sl .nil 0 [] [])))⟩, ⟨(some 5), none, (.mov (.c (.int .i64 0)))⟩]) (.seq (.seq (.reg [⟨(some 7), none, (.mov (.s 0))⟩, ⟨(some 8), none, (.call (.c (.fn (.func n_graph_Check) [] [])) [(.s 7)])⟩, ⟨(some 6), none, (.mov (.s 8))⟩]) (.seq (.reg [⟨(some 9), none, (.mov (.s 6))⟩, ⟨(some 10), none, (.bin .neq (.s 9) (.c (.int .i64 0)))⟩]) (.cond (.s 10) (.seq (.reg [⟨(some 11), none, (.mov (.s 6))⟩, ⟨(some 4), none, (.mov (.c (.sl .nil 0 [] [])))⟩, ⟨(some 5), none, (.mov (.s 11))⟩]) .ret) .skip))) (.seq (.reg [⟨(some 12), none, (.mov (.s 0))⟩, ⟨(some 13), none, (.mov (.s 1))⟩, ⟨(some 14), none, (.call (.c (.fn (.func n_graph_far) [] [])) [(.s 12), (.s 13)])⟩, ⟨(some 15), none, (.call (.c (.fn (.func n_graph_rising_uint64_int) [] [])) [(.s 14)])⟩, ⟨(some 4), none, (.mov (.s 15))⟩, ⟨(some 5), none, (.mov (.c (.int .i64 0)))⟩]) .ret)))
def F_graph_Reach (P : Program) (a0 a1 : V) (st : St) (K : V → St → Prop) : Prop :=
  @stp P (.call (.c (.fn (.func n_graph_Check) [] [])) [(.c a0)]) st ⟨fun v8 st =>
  @stp P (.bin .neq (.c v8) (.c (.int .i64 0))) st ⟨fun v10 st =>
  @cnd v10 ⟨
    GhostV [(.sl .nil 0 [] []), v8] st fun vs st => K (mkres vs) st⟩
  ⟨
    @stp P (.call (.c (.fn (.func n_graph_far) [] [])) [(.c a0), (.c a1)]) st ⟨fun v14 st =>
    @stp P (.call (.c (.fn (.func n_graph_rising_uint64_int) [] [])) [(.c v14)]) st ⟨fun v15 st =>
    GhostV [v15, (.int .i64 0)] st fun vs st => K (mkres vs) st⟩⟩⟩⟩⟩
theorem q_graph_Reach {P : Program} {a0 a1 : V} {st : St} {K : V → St → Prop} : F_graph_Reach P a0 a1 st K = hwp P c_graph_Reach (hretQ [.tmp 4, .tmp 5] K) (enterFr [a0, a1]) st := by kernel_rfl
abbrev R_graph_Reach (P : Program) : Prop := resFnH P n_graph_Reach = some (16, c_graph_Reach.er, [.tmp 4, .tmp 5])
theorem A_graph_Reach {P : Program} (h : R_graph_Reach P) {a0 a1 : V} {st : St} {K : V → St → Prop} (hF : F_graph_Reach P a0 a1 st K) : ACalls P n_graph_Reach [a0, a1] st K :=
  ACalls_h h rfl (by simp) (q_graph_Reach ▸ hF)

def c_slices_Contains_Edge_Edge : ACode := (.seq (.reg [⟨(some 3), none, (.box (.s 1))⟩, ⟨(some 4), none, (.mov (.c (.bool false)))⟩]) (.seq (.reg [⟨(some 5), none, (.mov (.s 0))⟩, ⟨(some 6), none, (.ld (some 2) (.s 3))⟩, ⟨(some 7), none, (.call (.c (.fn (.func n_slices_Index_Edge_Edge) [] [])) [(.s 5), (.s 6)])⟩, ⟨(some 8), none, (.bin .geq (.s 7) (.c (.int .i64 0)))⟩, ⟨(some 4), none, (.mov (.s 8))⟩]) .ret))
def F_slices_Contains_Edge_Edge (P : Program) (a0 a1 : V) (st : St) (K : V → St → Prop) : Prop :=
  @stp P (.box (.c a1)) st ⟨fun v3 st =>
  @stp P (.ld (some 2) (.c v3)) st ⟨fun v6 st =>
  @stp P (.call (.c (.fn (.func n_slices_Index_Edge_Edge) [] [])) [(.c a0), (.c v6)]) st ⟨fun v7 st =>
  @stp P (.bin .geq (.c v7) (.c (.int .i64 0))) st ⟨fun v8 st =>
  GhostV [v8] st fun vs st => K (mkres vs) st⟩⟩⟩⟩
theorem q_slices_Contains_Edge_Edge {P : Program} {a0 a1 : V} {st : St} {K : V → St → Prop} : F_slices_Contains_Edge_Edge P a0 a1 st K = hwp P c_slices_Contains_Edge_Edge (hretQ [.tmp 4] K) (enterFr [a0, a1]) st := by kernel_rfl
abbrev R_slices_Contains_Edge_Edge (P : Program) : Prop := resFnH P n_slices_Contains_Edge_Edge = some (9, c_slices_Contains_Edge_Edge.er, [.tmp 4])
theorem A_slices_Contains_Edge_Edge {P : Program} (h : R_slices_Contains_Edge_Edge P) {a0 a1 : V} {st : St} {K : V → St → Prop} (hF : F_slices_Contains_Edge_Edge P a0 a1 st K) : ACalls P n_slices_Contains_Edge_Edge [a0, a1] st K :=
  ACalls_h h rfl (by simp) (q_slices_Contains_Edge_Edge ▸ hF)

def c_slices_Contains_uint64_uint64 : ACode := (.seq (.reg [⟨(some 4), none, (.mov (.c (.bool false)))⟩]) (.seq (.reg [⟨(some 5), none, (.mov (.s 0))⟩, ⟨(some 6), none, (.mov (.s 1))⟩, ⟨(some 7), none, (.call (.c (.fn (.func n_slices_Index_uint64_uint64) [] [])) [(.s 5), (.s 6)])⟩, ⟨(some 8), none, (.bin .geq (.s 7) (.c (.int .i64 0)))⟩, ⟨(some 4), none, (.mov (.s 8))⟩]) .ret))
def F_slices_Contains_uint64_uint64 (P : Program) (a0 a1 : V) (st : St) (K : V → St → Prop) : Prop :=
  @stp P (.call (.c (.fn (.func n_slices_Index_uint64_uint64) [] [])) [(.c a0), (.c a1)]) st ⟨fun v7 st =>
  @stp P (.bin .geq (.c v7) (.c (.int .i64 0))) st ⟨fun v8 st =>
  GhostV [v8] st fun vs st => K (mkres vs) st⟩⟩
theorem q_slices_Contains_uint64_uint64 {P : Program} {a0 a1 : V} {st : St} {K : V → St → Prop} : F_slices_Contains_uint64_uint64 P a0 a1 st K = hwp P c_slices_Contains_uint64_uint64 (hretQ [.tmp 4] K) (enterFr [a0, a1]) st := by kernel_rfl
abbrev R_slices_Contains_uint64_uint64 (P : Program) : Prop := resFnH P n_slices_Contains_uint64_uint64 = some (9, c_slices_Contains_uint64_uint64.er, [.tmp 4])
theorem A_slices_Contains_uint64_uint64 {P : Program} (h : R_slices_Contains_uint64_uint64 P) {a0 a1 : V} {st : St} {K : V → St → Prop} (hF : F_slices_Contains_uint64_uint64 P a0 a1 st K) : ACalls P n_slices_Contains_uint64_uint64 [a0, a1] st K :=
  ACalls_h h rfl (by simp) (q_slices_Contains_uint64_uint64 ▸ hF)

def c_graph_Victim : ACode := (.seq (.reg [⟨(some 2), none, (.box (.s 0))⟩, ⟨(some 4), none, (.alloc [(.int .u64 0)])⟩, ⟨(some 5), none, (.alloc [(.bool false)])⟩, ⟨(some 6), none, (.alloc [(.int .i64 0)])⟩]) (.seq (.seq (.reg [⟨(some 10), none, (.ld none (.s 2))⟩, ⟨(some 11), none, (.call (.c (.fn (.func n_graph_Check) [] [])) [(.s 10)])⟩, ⟨(some 7), none, (.mov (.s 11))⟩]) (.seq (.reg [⟨(some 12), none, (.mov (.s 7))⟩, ⟨(some 13), none, (.bin .neq (.s 12) (.c (.int .i64 0)))⟩]) (.cond (.s 13) (.seq (.reg [⟨(some 14), none, (.mov (.s 7))⟩, ⟨none, none, (.st 1 (.s 4) (.c (.int .u64 0)))⟩, ⟨none, none, (.st 1 (.s 5) (.c (.bool false)))⟩, ⟨none, none, (.st 1 (.s 6) (.s 14))⟩]) .ret) .skip))) (.seq (.seq (.reg [⟨(some 15), none, (.mov (.s 1))⟩, ⟨(some 16), none, (.call (.c (.fn (.func n_slices_Backward_uint64_uint64) [] [])) [(.s 15)])⟩]) (.block 0 (.rfunc (.s 16) [17, 18] (.reg [⟨(some 9), none, (.mov (.s 18))⟩]) (.block 1 (.seq (.reg [⟨(some 19), none, (.ld none (.s 2))⟩, ⟨(some 20), none, (.mov (.s 9))⟩, ⟨(some 21), none, (.call (.c (.fn (.func n_graph_rings) [] [])) [(.s 19), (.s 20)])⟩]) (.cond (.s 21) (.seq (.reg [⟨(some 22), none, (.mov (.s 9))⟩, ⟨none, none, (.st 1 (.s 4) (.s 22))⟩, ⟨none, none, (.st 1 (.s 5) (.c (.bool true)))⟩, ⟨none, none, (.st 1 (.s 6) (.c (.int .i64 0)))⟩]) .ret) .skip)))))) (.seq (.reg [⟨none, none, (.st 1 (.s 4) (.c (.int .u64 0)))⟩, ⟨none, none, (.st 1 (.s 5) (.c (.bool false)))⟩, ⟨none, none, (.st 1 (.s 6) (.c (.int .i64 0)))⟩]) .ret))))
def F_graph_Victim (P : Program) (a0 a1 : V) (st : St) (K : V → St → Prop) : Prop :=
  @stp P (.box (.c a0)) st ⟨fun v2 st =>
  @stp P (.alloc [(.int .u64 0)]) st ⟨fun v4 st =>
  @stp P (.alloc [(.bool false)]) st ⟨fun v5 st =>
  @stp P (.alloc [(.int .i64 0)]) st ⟨fun v6 st =>
  @stp P (.ld none (.c v2)) st ⟨fun v10 st =>
  @stp P (.call (.c (.fn (.func n_graph_Check) [] [])) [(.c v10)]) st ⟨fun v11 st =>
  @stp P (.bin .neq (.c v11) (.c (.int .i64 0))) st ⟨fun v13 st =>
  @cnd v13 ⟨
    @stp P (.st 1 (.c v4) (.c (.int .u64 0))) st ⟨fun _v st =>
    @stp P (.st 1 (.c v5) (.c (.bool false))) st ⟨fun _v st =>
    @stp P (.st 1 (.c v6) (.c v11)) st ⟨fun _v st =>
    @ldr none v4 st ⟨fun r1 =>
    @ldr none v5 st ⟨fun r2 =>
    @ldr none v6 st ⟨fun r3 =>
    GhostV [r1, r2, r3] st fun vs st => K (mkres vs) st⟩⟩⟩⟩⟩⟩⟩
  ⟨
    @stp P (.call (.c (.fn (.func n_slices_Backward_uint64_uint64) [] [])) [(.c a1)]) st ⟨fun v16 st =>
    @Hold ⟨(fun s1 : St => ∀ LP1 : LSt → Obj,
      (∀ (st : St) (K : V → St → Prop) (v17 : V) (v18 : V), st.get s1.objs.length s1.nv = some (LP1 .ready) → (
        st.get s1.objs.length s1.nv = some (LP1 .ready) ∧ (fun st : St =>
          @stp P (.ld none (.c v2)) st ⟨fun v19 st =>
          @stp P (.call (.c (.fn (.func n_graph_rings) [] [])) [(.c v19), (.c v18)]) st ⟨fun v21 st =>
          @cnd v21 ⟨
            @stp P (.st 1 (.c v4) (.c v18)) st ⟨fun _v st =>
            @stp P (.st 1 (.c v5) (.c (.bool true))) st ⟨fun _v st =>
            @stp P (.st 1 (.c v6) (.c (.int .i64 0))) st ⟨fun _v st =>
            st.get s1.objs.length s1.nv = some (LP1 .busy) ∧ K (.bool false) (st.setO s1.objs.length s1.nv (LP1 (.done .ret)))⟩⟩⟩⟩
          ⟨
            st.get s1.objs.length s1.nv = some (LP1 .busy) ∧ K (.bool true) (st.setO s1.objs.length s1.nv (LP1 .ready))⟩⟩⟩) (st.setO s1.objs.length s1.nv (LP1 .busy))) →
      AInv P (.yld s1.objs.length s1.nv) [v17, v18] st K) →
      AInvE P v16 [.yld s1.objs.length s1.nv] (s1.push (LP1 .ready)) fun _ st => ∃ s, st.get s1.objs.length s1.nv = some (LP1 s) ∧ (fun st : St => hend s (
        @stp P (.st 1 (.c v4) (.c (.int .u64 0))) st ⟨fun _v st =>
        @stp P (.st 1 (.c v5) (.c (.bool false))) st ⟨fun _v st =>
        @stp P (.st 1 (.c v6) (.c (.int .i64 0))) st ⟨fun _v st =>
        @ldr none v4 st ⟨fun r1 =>
        @ldr none v5 st ⟨fun r2 =>
        @ldr none v6 st ⟨fun r3 =>
        GhostV [r1, r2, r3] st fun vs st => K (mkres vs) st⟩⟩⟩⟩⟩⟩)
      (
        @ldr none v4 st ⟨fun r1 =>
        @ldr none v5 st ⟨fun r2 =>
        @ldr none v6 st ⟨fun r3 =>
        GhostV [r1, r2, r3] st fun vs st => K (mkres vs) st⟩⟩⟩)
      (fun id : Nat =>         (if id = 0 then
          @stp P (.st 1 (.c v4) (.c (.int .u64 0))) st ⟨fun _v st =>
          @stp P (.st 1 (.c v5) (.c (.bool false))) st ⟨fun _v st =>
          @stp P (.st 1 (.c v6) (.c (.int .i64 0))) st ⟨fun _v st =>
          @ldr none v4 st ⟨fun r1 =>
          @ldr none v5 st ⟨fun r2 =>
          @ldr none v6 st ⟨fun r3 =>
          GhostV [r1, r2, r3] st fun vs st => K (mkres vs) st⟩⟩⟩⟩⟩⟩
        else
          False))) (st.gone s1.objs.length)) st⟩⟩⟩⟩⟩⟩⟩⟩⟩⟩
theorem q_graph_Victim {P : Program} {a0 a1 : V} {st : St} {K : V → St → Prop} : F_graph_Victim P a0 a1 st K = hwp P c_graph_Victim (hretQ [.cell 4 none, .cell 5 none, .cell 6 none] K) (enterFr [a0, a1]) st := by kernel_rfl
abbrev R_graph_Victim (P : Program) : Prop := resFnH P n_graph_Victim = some (23, c_graph_Victim.er, [.cell 4 none, .cell 5 none, .cell 6 none])
theorem A_graph_Victim {P : Program} (h : R_graph_Victim P) {a0 a1 : V} {st : St} {K : V → St → Prop} (hF : F_graph_Victim P a0 a1 st K) : ACalls P n_graph_Victim [a0, a1] st K :=
  ACalls_h h rfl (by simp) (q_graph_Victim ▸ hF)

def c_gazetteerref16_Victim : ACode := (.seq (.reg [⟨(some 4), none, (.mov (.c (.int .u64 0)))⟩, ⟨(some 5), none, (.mov (.c (.bool false)))⟩]) (.seq (.reg [⟨(some 8), none, (.mov (.s 0))⟩, ⟨(some 9), none, (.call (.c (.fn (.func n_gazetteerref16_On) [] [])) [(.s 8)])⟩, ⟨(some 6), none, (.mov (.s 9))⟩]) (.seq (.seq (.reg [⟨(some 10), none, (.mov (.s 1))⟩, ⟨(some 11), none, (.len .sl (.s 10))⟩, ⟨(some 12), none, (.bin .sub (.s 11) (.c (.int .i64 1)))⟩, ⟨(some 7), none, (.mov (.s 12))⟩]) (.block 0 (.loop [7] [4, 5, 7, 13, 14, 15, 16, 17, 18, 19, 20, 21, 22, 23, 24, 25, 26] (.seq (.seq (.reg [⟨(some 13), none, (.mov (.s 7))⟩, ⟨(some 14), none, (.bin .geq (.s 13) (.c (.int .i64 0)))⟩]) (.cond (.s 14) .skip (.exit 0))) (.seq (.block 1 (.seq (.reg [⟨(some 17), none, (.mov (.s 6))⟩, ⟨(some 18), none, (.mov (.s 1))⟩, ⟨(some 19), none, (.mov (.s 7))⟩, ⟨(some 20), none, (.idx 1 (.s 18) (.s 19))⟩, ⟨(some 21), none, (.ld none (.s 20))⟩, ⟨(some 22), none, (.call (.c (.fn (.func n_gazetteerref16_Has) [] [])) [(.s 17), (.s 21)])⟩]) (.cond (.s 22) (.seq (.reg [⟨(some 23), none, (.mov (.s 1))⟩, ⟨(some 24), none, (.mov (.s 7))⟩, ⟨(some 25), none, (.idx 1 (.s 23) (.s 24))⟩, ⟨(some 26), none, (.ld none (.s 25))⟩, ⟨(some 4), none, (.mov (.s 26))⟩, ⟨(some 5), none, (.mov (.c (.bool true)))⟩]) .ret) .skip))) (.reg [⟨(some 15), none, (.mov (.s 7))⟩, ⟨(some 16), none, (.bin .sub (.s 15) (.c (.int .i64 1)))⟩, ⟨(some 7), none, (.mov (.s 16))⟩])))))) (.seq (.reg [⟨(some 4), none, (.mov (.c (.int .u64 0)))⟩, ⟨(some 5), none, (.mov (.c (.bool false)))⟩]) .ret))))
def F_gazetteerref16_Victim (P : Program) (a0 a1 : V) (st : St) (K : V → St → Prop) : Prop :=
  @stp P (.call (.c (.fn (.func n_gazetteerref16_On) [] [])) [(.c a0)]) st ⟨fun v9 st =>
  @stp P (.len .sl (.c a1)) st ⟨fun v11 st =>
  @stp P (.bin .sub (.c v11) (.c (.int .i64 1))) st ⟨fun v12 st =>
  @Hold ⟨∃ I1 : Nat → Rel 1, (∃ k, GhostV [v12] st (app (I1 k))) ∧ ∀ k1 v7, ∀ st, app (I1 k1) [v7] st →
    @stp P (.bin .geq (.c v7) (.c (.int .i64 0))) st ⟨fun v14 st =>
    @cnd v14 ⟨
      @stp P (.idx 1 (.c a1) (.c v7)) st ⟨fun v20 st =>
      @stp P (.ld none (.c v20)) st ⟨fun v21 st =>
      @stp P (.call (.c (.fn (.func n_gazetteerref16_Has) [] [])) [(.c v9), (.c v21)]) st ⟨fun v22 st =>
      @cnd v22 ⟨
        @stp P (.idx 1 (.c a1) (.c v7)) st ⟨fun v25 st =>
        @stp P (.ld none (.c v25)) st ⟨fun v26 st =>
        GhostV [v26, (.bool true)] st fun vs st => K (mkres vs) st⟩⟩⟩
      ⟨
        @stp P (.bin .sub (.c v7) (.c (.int .i64 1))) st ⟨fun v16 st =>
        ∃ j, j < k1 ∧ GhostV [v16] st (app (I1 j))⟩⟩⟩⟩⟩⟩
    ⟨
      GhostV [(.int .u64 0), (.bool false)] st fun vs st => K (mkres vs) st⟩⟩⟩⟩⟩⟩
theorem q_gazetteerref16_Victim {P : Program} {a0 a1 : V} {st : St} {K : V → St → Prop} : F_gazetteerref16_Victim P a0 a1 st K = hwp P c_gazetteerref16_Victim (hretQ [.tmp 4, .tmp 5] K) (enterFr [a0, a1]) st := by kernel_rfl
abbrev R_gazetteerref16_Victim (P : Program) : Prop := resFnH P n_gazetteerref16_Victim = some (27, c_gazetteerref16_Victim.er, [.tmp 4, .tmp 5])
theorem A_gazetteerref16_Victim {P : Program} (h : R_gazetteerref16_Victim P) {a0 a1 : V} {st : St} {K : V → St → Prop} (hF : F_gazetteerref16_Victim P a0 a1 st K) : ACalls P n_gazetteerref16_Victim [a0, a1] st K :=
  ACalls_h h rfl (by simp) (q_gazetteerref16_Victim ▸ hF)

def c_graph_Without : ACode := (.seq (.reg [⟨(some 3), none, (.box (.s 1))⟩, ⟨(some 4), none, (.mov (.c (.sl .nil 0 [] [])))⟩, ⟨(some 5), none, (.mov (.c (.int .i64 0)))⟩]) (.seq (.seq (.reg [⟨(some 7), none, (.mov (.s 0))⟩, ⟨(some 8), none, (.call (.c (.fn (.func n_graph_Check) [] [])) [(.s 7)])⟩, ⟨(some 6), none, (.mov (.s 8))⟩]) (.seq (.reg [⟨(some 9), none, (.mov (.s 6))⟩, ⟨(some 10), none, (.bin .neq (.s 9) (.c (.int .i64 0)))⟩]) (.cond (.s 10) (.seq (.reg [⟨(some 11), none, (.mov (.s 6))⟩, ⟨(some 4), none, (.mov (.c (.sl .nil 0 [] [])))⟩, ⟨(some 5), none, (.mov (.s 11))⟩]) .ret) .skip))) (.seq (.reg [⟨(some 12), none, (.mov (.s 0))⟩, ⟨(some 13), none, (.call (.c (.fn (.func n_slices_Clone_Edge_Edge) [] [])) [(.s 12)])⟩, ⟨(some 14), none, (.mkfn (.func n_graph_Without_1) [] [(.s 3)])⟩, ⟨(some 15), none, (.call (.c (.fn (.func n_slices_DeleteFunc_Edge_Edge) [] [])) [(.s 13), (.s 14)])⟩, ⟨(some 4), none, (.mov (.s 15))⟩, ⟨(some 5), none, (.mov (.c (.int .i64 0)))⟩]) .ret)))
def F_graph_Without (P : Program) (a0 a1 : V) (st : St) (K : V → St → Prop) : Prop :=
  @stp P (.box (.c a1)) st ⟨fun v3 st =>
  @stp P (.call (.c (.fn (.func n_graph_Check) [] [])) [(.c a0)]) st ⟨fun v8 st =>
  @stp P (.bin .neq (.c v8) (.c (.int .i64 0))) st ⟨fun v10 st =>
  @cnd v10 ⟨
    GhostV [(.sl .nil 0 [] []), v8] st fun vs st => K (mkres vs) st⟩
  ⟨
    @stp P (.call (.c (.fn (.func n_slices_Clone_Edge_Edge) [] [])) [(.c a0)]) st ⟨fun v13 st =>
    @stp P (.mkfn (.func n_graph_Without_1) [] [(.c v3)]) st ⟨fun v14 st =>
    @stp P (.call (.c (.fn (.func n_slices_DeleteFunc_Edge_Edge) [] [])) [(.c v13), (.c v14)]) st ⟨fun v15 st =>
    GhostV [v15, (.int .i64 0)] st fun vs st => K (mkres vs) st⟩⟩⟩⟩⟩⟩⟩
theorem q_graph_Without {P : Program} {a0 a1 : V} {st : St} {K : V → St → Prop} : F_graph_Without P a0 a1 st K = hwp P c_graph_Without (hretQ [.tmp 4, .tmp 5] K) (enterFr [a0, a1]) st := by kernel_rfl
abbrev R_graph_Without (P : Program) : Prop := resFnH P n_graph_Without = some (16, c_graph_Without.er, [.tmp 4, .tmp 5])
theorem A_graph_Without {P : Program} (h : R_graph_Without P) {a0 a1 : V} {st : St} {K : V → St → Prop} (hF : F_graph_Without P a0 a1 st K) : ACalls P n_graph_Without [a0, a1] st K :=
  ACalls_h h rfl (by simp) (q_graph_Without ▸ hF)

def c_gazetteerref16_SameEdges : ACode := (.seq (.reg [⟨(some 4), none, (.mov (.c (.bool false)))⟩]) (.seq (.seq (.reg [⟨(some 6), none, (.mov (.s 0))⟩, ⟨(some 7), none, (.len .sl (.s 6))⟩, ⟨(some 8), none, (.mov (.s 1))⟩, ⟨(some 9), none, (.len .sl (.s 8))⟩, ⟨(some 10), none, (.bin .neq (.s 7) (.s 9))⟩]) (.cond (.s 10) (.seq (.reg [⟨(some 4), none, (.mov (.c (.bool false)))⟩]) .ret) .skip)) (.seq (.seq (.reg [⟨(some 11), none, (.mov (.s 0))⟩, ⟨(some 12), none, (.len .sl (.s 11))⟩, ⟨(some 13), none, (.mov (.c (.int .i64 0)))⟩]) (.block 0 (.loop [13] [4, 5, 13, 14, 15, 16, 17, 18, 19, 20, 21, 22, 23, 24, 25] (.seq (.reg [⟨(some 14), none, (.bin .lss (.s 13) (.s 12))⟩]) (.seq (.cond (.s 14) .skip (.exit 0)) (.seq (.block 1 (.seq (.reg [⟨(some 15), none, (.mov (.s 13))⟩, ⟨(some 5), none, (.mov (.s 15))⟩]) (.seq (.regD [⟨(some 16), none, (.mov (.s 0))⟩, ⟨(some 17), none, (.mov (.s 5))⟩, ⟨(some 18), none, (.idx 2 (.s 16) (.s 17))⟩, ⟨(some 19), none, (.ld (some 2) (.s 18))⟩, ⟨(some 20), none, (.mov (.s 1))⟩, ⟨(some 21), none, (.mov (.s 5))⟩, ⟨(some 22), none, (.idx 2 (.s 20) (.s 21))⟩, ⟨(some 23), none, (.ld (some 2) (.s 22))⟩, ⟨(some 24), none, (.eqs true (.flat [.int, .int]) (.s 19) (.s 23))⟩] [(0, (false, [])), (1, (false, [])), (2, (false, [])), (3, (false, [])), (4, (false, [])), (5, (false, [])), (6, (false, [])), (7, (false, [])), (8, (false, []))]) (.cond (.s 24) (.seq (.reg [⟨(some 4), none, (.mov (.c (.bool false)))⟩]) .ret) .skip)))) (.reg [⟨(some 25), none, (.bin .add (.s 13) (.c (.int .i64 1)))⟩, ⟨(some 13), none, (.mov (.s 25))⟩]))))))) (.seq (.reg [⟨(some 4), none, (.mov (.c (.bool true)))⟩]) .ret))))
def F_gazetteerref16_SameEdges (P : Program) (a0 a1 : V) (st : St) (K : V → St → Prop) : Prop :=
  @stp P (.len .sl (.c a0)) st ⟨fun v7 st =>
  @stp P (.len .sl (.c a1)) st ⟨fun v9 st =>
  @stp P (.bin .neq (.c v7) (.c v9)) st ⟨fun v10 st =>
  @cnd v10 ⟨
    GhostV [(.bool false)] st fun vs st => K (mkres vs) st⟩
  ⟨
    @stp P (.len .sl (.c a0)) st ⟨fun v12 st =>
    @Hold ⟨∃ I1 : Nat → Rel 1, (∃ k, GhostV [(.int .i64 0)] st (app (I1 k))) ∧ ∀ k1 v13, ∀ st, app (I1 k1) [v13] st →
      @stp P (.bin .lss (.c v13) (.c v12)) st ⟨fun v14 st =>
      @cnd v14 ⟨
        @stpD P (.idx 2 (.c a0) (.c v13)) st ⟨fun v18 st =>
        @stpD P (.ld (some 2) (.c v18)) st ⟨fun v19 st =>
        @stpD P (.idx 2 (.c a1) (.c v13)) st ⟨fun v22 st =>
        @stpD P (.ld (some 2) (.c v22)) st ⟨fun v23 st =>
        @stpD P (.eqs true (.flat [.int, .int]) (.c v19) (.c v23)) st ⟨fun v24 st =>
        @cnd v24 ⟨
          GhostV [(.bool false)] st fun vs st => K (mkres vs) st⟩
        ⟨
          @stp P (.bin .add (.c v13) (.c (.int .i64 1))) st ⟨fun v25 st =>
          ∃ j, j < k1 ∧ GhostV [v25] st (app (I1 j))⟩⟩⟩⟩⟩⟩⟩⟩
      ⟨
        GhostV [(.bool true)] st fun vs st => K (mkres vs) st⟩⟩⟩⟩⟩⟩⟩⟩
theorem q_gazetteerref16_SameEdges {P : Program} {a0 a1 : V} {st : St} {K : V → St → Prop} : F_gazetteerref16_SameEdges P a0 a1 st K = hwp P c_gazetteerref16_SameEdges (hretQ [.tmp 4] K) (enterFr [a0, a1]) st := by kernel_rfl
abbrev R_gazetteerref16_SameEdges (P : Program) : Prop := resFnH P n_gazetteerref16_SameEdges = some (26, c_gazetteerref16_SameEdges.er, [.tmp 4])
theorem A_gazetteerref16_SameEdges {P : Program} (h : R_gazetteerref16_SameEdges P) {a0 a1 : V} {st : St} {K : V → St → Prop} (hF : F_gazetteerref16_SameEdges P a0 a1 st K) : ACalls P n_gazetteerref16_SameEdges [a0, a1] st K :=
  ACalls_h h rfl (by simp) (q_gazetteerref16_SameEdges ▸ hF)

def c_gazetteerref16_Without : ACode := (.seq (.reg [⟨(some 4), none, (.mov (.c (.sl .nil 0 [] [])))⟩]) (.seq (.reg [⟨(some 5), none, (.mov (.c (.sl .nil 0 [] [])))⟩]) (.seq (.seq (.reg [⟨(some 8), none, (.mov (.s 0))⟩, ⟨(some 9), none, (.len .sl (.s 8))⟩, ⟨(some 10), none, (.mov (.c (.int .i64 0)))⟩]) (.block 0 (.loop [5, 10] [5, 7, 10, 11, 12, 13, 14, 15, 16, 17, 18, 19, 20, 21, 22, 23, 24, 25, 26, 27, 28] (.seq (.reg [⟨(some 11), none, (.bin .lss (.s 10) (.s 9))⟩]) (.seq (.cond (.s 11) .skip (.exit 0)) (.seq (.block 1 (.seq (.reg [⟨(some 12), none, (.idx 2 (.s 8) (.s 10))⟩, ⟨(some 13), none, (.ld (some 2) (.s 12))⟩, ⟨(some 7), none, (.alloc [(.int .u64 0), (.int .u64 0)])⟩, ⟨none, none, (.st 2 (.s 7) (.s 13))⟩]) (.seq (.reg [⟨(some 14), none, (.fld 0 (.s 7))⟩, ⟨(some 15), none, (.ld none (.s 14))⟩, ⟨(some 16), none, (.mov (.s 1))⟩, ⟨(some 17), none, (.bin .neq (.s 15) (.s 16))⟩, ⟨(some 18), none, (.mov (.s 17))⟩, ⟨(some 19), (some (18, true)), (.fld 1 (.s 7))⟩, ⟨(some 20), (some (18, true)), (.ld none (.s 19))⟩, ⟨(some 21), (some (18, true)), (.mov (.s 1))⟩, ⟨(some 22), (some (18, true)), (.bin .neq (.s 20) (.s 21))⟩, ⟨(some 23), none, (.pick (.s 18) (.s 22) (.c (.bool false)))⟩]) (.cond (.s 23) (.reg [⟨(some 24), none, (.mov (.s 5))⟩, ⟨(some 25), none, (.ld (some 2) (.s 7))⟩, ⟨(some 26), none, (.mkSl 2 1 [(.int .u64 0), (.int .u64 0)] [(0, (.s 25))])⟩, ⟨(some 27), none, (.append 2 16 (.s 24) (.s 26))⟩, ⟨(some 5), none, (.mov (.s 27))⟩]) .skip)))) (.reg [⟨(some 28), none, (.bin .add (.s 10) (.c (.int .i64 1)))⟩, ⟨(some 10), none, (.mov (.s 28))⟩]))))))) (.seq (.reg [⟨(some 29), none, (.mov (.s 5))⟩, ⟨(some 4), none, (.mov (.s 29))⟩]) .ret))))
def F_gazetteerref16_Without (P : Program) (a0 a1 : V) (st : St) (K : V → St → Prop) : Prop :=
  @stp P (.len .sl (.c a0)) st ⟨fun v9 st =>
  @Hold ⟨∃ I1 : Nat → Rel 2, (∃ k, GhostV [(.sl .nil 0 [] []), (.int .i64 0)] st (app (I1 k))) ∧ ∀ k1 v5 v10, ∀ st, app (I1 k1) [v5, v10] st →
    @stp P (.bin .lss (.c v10) (.c v9)) st ⟨fun v11 st =>
    @cnd v11 ⟨
      @stp P (.idx 2 (.c a0) (.c v10)) st ⟨fun v12 st =>
      @stp P (.ld (some 2) (.c v12)) st ⟨fun v13 st =>
      @stp P (.alloc [(.int .u64 0), (.int .u64 0)]) st ⟨fun v7 st =>
      @stp P (.st 2 (.c v7) (.c v13)) st ⟨fun _v st =>
      @stp P (.fld 0 (.c v7)) st ⟨fun v14 st =>
      @stp P (.ld none (.c v14)) st ⟨fun v15 st =>
      @stp P (.bin .neq (.c v15) (.c a1)) st ⟨fun v17 st =>
      @gst P v17 true (.fld 1 (.c v7)) st ⟨fun v19 st =>
      @gst P v17 true (.ld none (.c v19)) st ⟨fun v20 st =>
      @gst P v17 true (.mov (.c a1)) st ⟨fun v21 st =>
      @gst P v17 true (.bin .neq (.c v20) (.c v21)) st ⟨fun v22 st =>
      @stp P (.pick (.c v17) (.c v22) (.c (.bool false))) st ⟨fun v23 st =>
      @cnd v23 ⟨
        @stp P (.ld (some 2) (.c v7)) st ⟨fun v25 st =>
        @stp P (.mkSl 2 1 [(.int .u64 0), (.int .u64 0)] [(0, (.c v25))]) st ⟨fun v26 st =>
        @stp P (.append 2 16 (.c v5) (.c v26)) st ⟨fun v27 st =>
        @stp P (.bin .add (.c v10) (.c (.int .i64 1))) st ⟨fun v28 st =>
        ∃ j, j < k1 ∧ GhostV [v27, v28] st (app (I1 j))⟩⟩⟩⟩⟩
      ⟨
        @stp P (.bin .add (.c v10) (.c (.int .i64 1))) st ⟨fun v28 st =>
        ∃ j, j < k1 ∧ GhostV [v5, v28] st (app (I1 j))⟩⟩⟩⟩⟩⟩⟩⟩⟩⟩⟩⟩⟩⟩⟩
    ⟨
      GhostV [v5] st fun vs st => K (mkres vs) st⟩⟩⟩⟩
theorem q_gazetteerref16_Without {P : Program} {a0 a1 : V} {st : St} {K : V → St → Prop} : F_gazetteerref16_Without P a0 a1 st K = hwp P c_gazetteerref16_Without (hretQ [.tmp 4] K) (enterFr [a0, a1]) st := by kernel_rfl
abbrev R_gazetteerref16_Without (P : Program) : Prop := resFnH P n_gazetteerref16_Without = some (30, c_gazetteerref16_Without.er, [.tmp 4])
theorem A_gazetteerref16_Without {P : Program} (h : R_gazetteerref16_Without P) {a0 a1 : V} {st : St} {K : V → St → Prop} (hF : F_gazetteerref16_Without P a0 a1 st K) : ACalls P n_gazetteerref16_Without [a0, a1] st K :=
  ACalls_h h rfl (by simp) (q_gazetteerref16_Without ▸ hF)

def c_slices_Sort_uint64_uint64 : ACode := (.seq (.reg [⟨(some 3), none, (.mov (.s 0))⟩, ⟨(some 4), none, (.len .sl (.s 3))⟩, ⟨(some 2), none, (.mov (.s 4))⟩]) (.reg [⟨(some 5), none, (.mov (.s 0))⟩, ⟨(some 6), none, (.mov (.s 2))⟩, ⟨(some 7), none, (.mov (.s 2))⟩, ⟨(some 8), none, (.conv .u64 (.s 7))⟩, ⟨(some 9), none, (.call (.c (.fn (.func n_math_bits_Len) [] [])) [(.s 8)])⟩, ⟨(some 10), none, (.call (.c (.fn (.func n_slices_pdqsortOrdered_uint64) [] [])) [(.s 5), (.c (.int .i64 0)), (.s 6), (.s 9)])⟩]))
def F_slices_Sort_uint64_uint64 (P : Program) (a0 : V) (st : St) (K : V → St → Prop) : Prop :=
  @stp P (.len .sl (.c a0)) st ⟨fun v4 st =>
  @stp P (.conv .u64 (.c v4)) st ⟨fun v8 st =>
  @stp P (.call (.c (.fn (.func n_math_bits_Len) [] [])) [(.c v8)]) st ⟨fun v9 st =>
  @stp P (.call (.c (.fn (.func n_slices_pdqsortOrdered_uint64) [] [])) [(.c a0), (.c (.int .i64 0)), (.c v4), (.c v9)]) st ⟨fun v10 st =>
  GhostV [] st fun vs st => K (mkres vs) st⟩⟩⟩⟩
theorem q_slices_Sort_uint64_uint64 {P : Program} {a0 : V} {st : St} {K : V → St → Prop} : F_slices_Sort_uint64_uint64 P a0 st K = hwp P c_slices_Sort_uint64_uint64 (hretQ [] K) (enterFr [a0]) st := by kernel_rfl
abbrev R_slices_Sort_uint64_uint64 (P : Program) : Prop := resFnH P n_slices_Sort_uint64_uint64 = some (11, c_slices_Sort_uint64_uint64.er, [])
theorem A_slices_Sort_uint64_uint64 {P : Program} (h : R_slices_Sort_uint64_uint64 P) {a0 : V} {st : St} {K : V → St → Prop} (hF : F_slices_Sort_uint64_uint64 P a0 st K) : ACalls P n_slices_Sort_uint64_uint64 [a0] st K :=
  ACalls_h h rfl (by simp) (q_slices_Sort_uint64_uint64 ▸ hF)

def c_slices_Equal_uint64_uint64 : ACode := (.seq (.reg [⟨(some 4), none, (.mov (.c (.bool false)))⟩]) (.seq (.seq (.reg [⟨(some 6), none, (.mov (.s 0))⟩, ⟨(some 7), none, (.len .sl (.s 6))⟩, ⟨(some 8), none, (.mov (.s 1))⟩, ⟨(some 9), none, (.len .sl (.s 8))⟩, ⟨(some 10), none, (.bin .neq (.s 7) (.s 9))⟩]) (.cond (.s 10) (.seq (.reg [⟨(some 4), none, (.mov (.c (.bool false)))⟩]) .ret) .skip)) (.seq (.seq (.reg [⟨(some 11), none, (.mov (.s 0))⟩, ⟨(some 12), none, (.len .sl (.s 11))⟩, ⟨(some 13), none, (.mov (.c (.int .i64 0)))⟩]) (.block 0 (.loop [13] [4, 5, 13, 14, 15, 16, 17, 18, 19, 20, 21, 22, 23, 24, 25] (.seq (.reg [⟨(some 14), none, (.bin .lss (.s 13) (.s 12))⟩]) (.seq (.cond (.s 14) .skip (.exit 0)) (.seq (.block 1 (.seq (.reg [⟨(some 15), none, (.mov (.s 13))⟩, ⟨(some 5), none, (.mov (.s 15))⟩]) (.seq (.regD [⟨(some 16), none, (.mov (.s 0))⟩, ⟨(some 17), none, (.mov (.s 5))⟩, ⟨(some 18), none, (.idx 1 (.s 16) (.s 17))⟩, ⟨(some 19), none, (.ld none (.s 18))⟩, ⟨(some 20), none, (.mov (.s 1))⟩, ⟨(some 21), none, (.mov (.s 5))⟩, ⟨(some 22), none, (.idx 1 (.s 20) (.s 21))⟩, ⟨(some 23), none, (.ld none (.s 22))⟩, ⟨(some 24), none, (.bin .neq (.s 19) (.s 23))⟩] [(0, (false, [])), (1, (false, [])), (2, (false, [])), (3, (false, [])), (4, (false, [])), (5, (false, [])), (6, (false, [])), (7, (false, [])), (8, (false, []))]) (.cond (.s 24) (.seq (.reg [⟨(some 4), none, (.mov (.c (.bool false)))⟩]) .ret) .skip)))) (.reg [⟨(some 25), none, (.bin .add (.s 13) (.c (.int .i64 1)))⟩, ⟨(some 13), none, (.mov (.s 25))⟩]))))))) (.seq (.reg [⟨(some 4), none, (.mov (.c (.bool true)))⟩]) .ret))))
def F_slices_Equal_uint64_uint64 (P : Program) (a0 a1 : V) (st : St) (K : V → St → Prop) : Prop :=
  @stp P (.len .sl (.c a0)) st ⟨fun v7 st =>
  @stp P (.len .sl (.c a1)) st ⟨fun v9 st =>
  @stp P (.bin .neq (.c v7) (.c v9)) st ⟨fun v10 st =>
  @cnd v10 ⟨
    GhostV [(.bool false)] st fun vs st => K (mkres vs) st⟩
  ⟨
    @stp P (.len .sl (.c a0)) st ⟨fun v12 st =>
    @Hold ⟨∃ I1 : Nat → Rel 1, (∃ k, GhostV [(.int .i64 0)] st (app (I1 k))) ∧ ∀ k1 v13, ∀ st, app (I1 k1) [v13] st →
      @stp P (.bin .lss (.c v13) (.c v12)) st ⟨fun v14 st =>
      @cnd v14 ⟨
        @stpD P (.idx 1 (.c a0) (.c v13)) st ⟨fun v18 st =>
        @stpD P (.ld none (.c v18)) st ⟨fun v19 st =>
        @stpD P (.idx 1 (.c a1) (.c v13)) st ⟨fun v22 st =>
        @stpD P (.ld none (.c v22)) st ⟨fun v23 st =>
        @stpD P (.bin .neq (.c v19) (.c v23)) st ⟨fun v24 st =>
        @cnd v24 ⟨
          GhostV [(.bool false)] st fun vs st => K (mkres vs) st⟩
        ⟨
          @stp P (.bin .add (.c v13) (.c (.int .i64 1))) st ⟨fun v25 st =>
          ∃ j, j < k1 ∧ GhostV [v25] st (app (I1 j))⟩⟩⟩⟩⟩⟩⟩⟩
      ⟨
        GhostV [(.bool true)] st fun vs st => K (mkres vs) st⟩⟩⟩⟩⟩⟩⟩⟩
theorem q_slices_Equal_uint64_uint64 {P : Program} {a0 a1 : V} {st : St} {K : V → St → Prop} : F_slices_Equal_uint64_uint64 P a0 a1 st K = hwp P c_slices_Equal_uint64_uint64 (hretQ [.tmp 4] K) (enterFr [a0, a1]) st := by kernel_rfl
abbrev R_slices_Equal_uint64_uint64 (P : Program) : Prop := resFnH P n_slices_Equal_uint64_uint64 = some (26, c_slices_Equal_uint64_uint64.er, [.tmp 4])
theorem A_slices_Equal_uint64_uint64 {P : Program} (h : R_slices_Equal_uint64_uint64 P) {a0 a1 : V} {st : St} {K : V → St → Prop} (hF : F_slices_Equal_uint64_uint64 P a0 a1 st K) : ACalls P n_slices_Equal_uint64_uint64 [a0, a1] st K :=
  ACalls_h h rfl (by simp) (q_slices_Equal_uint64_uint64 ▸ hF)

def c_slices_Compact_uint64_uint64 : ACode := (.seq (.reg [⟨(some 2), none, (.mov (.c (.sl .nil 0 [] [])))⟩]) (.seq (.seq (.reg [⟨(some 6), none, (.mov (.s 0))⟩, ⟨(some 7), none, (.len .sl (.s 6))⟩, ⟨(some 8), none, (.bin .lss (.s 7) (.c (.int .i64 2)))⟩]) (.cond (.s 8) (.seq (.reg [⟨(some 9), none, (.mov (.s 0))⟩, ⟨(some 2), none, (.mov (.s 9))⟩]) .ret) .skip)) (.seq (.seq (.reg [⟨(some 3), none, (.mov (.c (.int .i64 1)))⟩]) (.block 0 (.loop [3] [2, 3, 4, 5, 10, 11, 12, 13, 14, 15, 16, 17, 18, 19, 20, 21, 22, 23, 24, 25, 26, 27, 28, 29, 30, 31, 32, 33, 34, 35, 36, 37, 38, 39, 40, 41, 42, 43, 44, 45, 46, 47, 48, 49, 50, 51, 52, 53, 54, 55, 56, 57, 58, 59] (.seq (.seq (.reg [⟨(some 10), none, (.mov (.s 3))⟩, ⟨(some 11), none, (.mov (.s 0))⟩, ⟨(some 12), none, (.len .sl (.s 11))⟩, ⟨(some 13), none, (.bin .lss (.s 10) (.s 12))⟩]) (.cond (.s 13) .skip (.exit 0))) (.seq (.block 1 (.seq (.regD [⟨(some 16), none, (.mov (.s 0))⟩, ⟨(some 17), none, (.mov (.s 3))⟩, ⟨(some 18), none, (.idx 1 (.s 16) (.s 17))⟩, ⟨(some 19), none, (.ld none (.s 18))⟩, ⟨(some 20), none, (.mov (.s 0))⟩, ⟨(some 21), none, (.mov (.s 3))⟩, ⟨(some 22), none, (.bin .sub (.s 21) (.c (.int .i64 1)))⟩, ⟨(some 23), none, (.idx 1 (.s 20) (.s 22))⟩, ⟨(some 24), none, (.ld none (.s 23))⟩, ⟨(some 25), none, (.bin .eql (.s 19) (.s 24))⟩] [(0, (false, [])), (1, (false, [])), (2, (false, [])), (3, (false, [])), (4, (false, [])), (5, (false, [])), (6, (false, [])), (7, (false, [])), (8, (false, [])), (9, (false, []))]) (.cond (.s 25) (.seq (.reg [⟨(some 26), none, (.mov (.s 0))⟩, ⟨(some 27), none, (.mov (.s 3))⟩, ⟨(some 28), none, (.slice 1 (.s 26) (some (.s 27)) none none)⟩, ⟨(some 4), none, (.mov (.s 28))⟩]) (.seq (.seq (.reg [⟨(some 5), none, (.mov (.c (.int .i64 1)))⟩]) (.block 2 (.loop [3, 5] [3, 5, 29, 30, 31, 32, 33, 34, 35, 36, 37, 38, 39, 40, 41, 42, 43, 44, 45, 46, 47, 48, 49, 50, 51, 52, 53] (.seq (.seq (.reg [⟨(some 29), none, (.mov (.s 5))⟩, ⟨(some 30), none, (.mov (.s 4))⟩, ⟨(some 31), none, (.len .sl (.s 30))⟩, ⟨(some 32), none, (.bin .lss (.s 29) (.s 31))⟩]) (.cond (.s 32) .skip (.exit 2))) (.seq (.block 3 (.seq (.regD [⟨(some 35), none, (.mov (.s 4))⟩, ⟨(some 36), none, (.mov (.s 5))⟩, ⟨(some 37), none, (.idx 1 (.s 35) (.s 36))⟩, ⟨(some 38), none, (.ld none (.s 37))⟩, ⟨(some 39), none, (.mov (.s 4))⟩, ⟨(some 40), none, (.mov (.s 5))⟩, ⟨(some 41), none, (.bin .sub (.s 40) (.c (.int .i64 1)))⟩, ⟨(some 42), none, (.idx 1 (.s 39) (.s 41))⟩, ⟨(some 43), none, (.ld none (.s 42))⟩, ⟨(some 44), none, (.bin .neq (.s 38) (.s 43))⟩] [(0, (false, [])), (1, (false, [])), (2, (false, [])), (3, (false, [])), (4, (false, [])), (5, (false, [])), (6, (false, [])), (7, (false, [])), (8, (false, [])), (9, (false, []))]) (.cond (.s 44) (.seq (.reg [⟨(some 45), none, (.mov (.s 0))⟩, ⟨(some 46), none, (.mov (.s 3))⟩, ⟨(some 47), none, (.mov (.s 4))⟩, ⟨(some 48), none, (.mov (.s 5))⟩, ⟨(some 49), none, (.idx 1 (.s 47) (.s 48))⟩, ⟨(some 50), none, (.ld none (.s 49))⟩, ⟨(some 51), none, (.idx 1 (.s 45) (.s 46))⟩, ⟨none, none, (.st 1 (.s 51) (.s 50))⟩]) (.reg [⟨(some 52), none, (.mov (.s 3))⟩, ⟨(some 53), none, (.bin .add (.s 52) (.c (.int .i64 1)))⟩, ⟨(some 3), none, (.mov (.s 53))⟩])) .skip))) (.reg [⟨(some 33), none, (.mov (.s 5))⟩, ⟨(some 34), none, (.bin .add (.s 33) (.c (.int .i64 1)))⟩, ⟨(some 5), none, (.mov (.s 34))⟩])))))) (.seq (.reg [⟨(some 54), none, (.mov (.s 0))⟩, ⟨(some 55), none, (.mov (.s 3))⟩, ⟨(some 56), none, (.slice 1 (.s 54) (some (.s 55)) none none)⟩, ⟨none, none, (.clear [(.int .u64 0)] (.s 56))⟩]) (.seq (.reg [⟨(some 57), none, (.mov (.s 0))⟩, ⟨(some 58), none, (.mov (.s 3))⟩, ⟨(some 59), none, (.slice 1 (.s 57) none (some (.s 58)) none)⟩, ⟨(some 2), none, (.mov (.s 59))⟩]) .ret)))) .skip))) (.reg [⟨(some 14), none, (.mov (.s 3))⟩, ⟨(some 15), none, (.bin .add (.s 14) (.c (.int .i64 1)))⟩, ⟨(some 3), none, (.mov (.s 15))⟩])))))) (.seq (.reg [⟨(some 60), none, (.mov (.s 0))⟩, ⟨(some 2), none, (.mov (.s 60))⟩]) .ret))))
def F_slices_Compact_uint64_uint64 (P : Program) (a0 : V) (st : St) (K : V → St → Prop) : Prop :=
  @stp P (.len .sl (.c a0)) st ⟨fun v7 st =>
  @stp P (.bin .lss (.c v7) (.c (.int .i64 2))) st ⟨fun v8 st =>
  @cnd v8 ⟨
    GhostV [a0] st fun vs st => K (mkres vs) st⟩
  ⟨
    @Hold ⟨∃ I1 : Nat → Rel 1, (∃ k, GhostV [(.int .i64 1)] st (app (I1 k))) ∧ ∀ k1 v3, ∀ st, app (I1 k1) [v3] st →
      @stp P (.len .sl (.c a0)) st ⟨fun v12 st =>
      @stp P (.bin .lss (.c v3) (.c v12)) st ⟨fun v13 st =>
      @cnd v13 ⟨
        @stpD P (.idx 1 (.c a0) (.c v3)) st ⟨fun v18 st =>
        @stpD P (.ld none (.c v18)) st ⟨fun v19 st =>
        @stpD P (.bin .sub (.c v3) (.c (.int .i64 1))) st ⟨fun v22 st =>
        @stpD P (.idx 1 (.c a0) (.c v22)) st ⟨fun v23 st =>
        @stpD P (.ld none (.c v23)) st ⟨fun v24 st =>
        @stpD P (.bin .eql (.c v19) (.c v24)) st ⟨fun v25 st =>
        @cnd v25 ⟨
          @stp P (.slice 1 (.c a0) (some (.c v3)) none none) st ⟨fun v28 st =>
          @Hold ⟨∃ I2 : Nat → Rel 2, (∃ k, GhostV [v3, (.int .i64 1)] st (app (I2 k))) ∧ ∀ k2 v3_1 v5, ∀ st, app (I2 k2) [v3_1, v5] st →
            @stp P (.len .sl (.c v28)) st ⟨fun v31 st =>
            @stp P (.bin .lss (.c v5) (.c v31)) st ⟨fun v32 st =>
            @cnd v32 ⟨
              @stpD P (.idx 1 (.c v28) (.c v5)) st ⟨fun v37 st =>
              @stpD P (.ld none (.c v37)) st ⟨fun v38 st =>
              @stpD P (.bin .sub (.c v5) (.c (.int .i64 1))) st ⟨fun v41 st =>
              @stpD P (.idx 1 (.c v28) (.c v41)) st ⟨fun v42 st =>
              @stpD P (.ld none (.c v42)) st ⟨fun v43 st =>
              @stpD P (.bin .neq (.c v38) (.c v43)) st ⟨fun v44 st =>
              @cnd v44 ⟨
                @stp P (.idx 1 (.c v28) (.c v5)) st ⟨fun v49 st =>
                @stp P (.ld none (.c v49)) st ⟨fun v50 st =>
                @stp P (.idx 1 (.c a0) (.c v3_1)) st ⟨fun v51 st =>
                @stp P (.st 1 (.c v51) (.c v50)) st ⟨fun _v st =>
                @stp P (.bin .add (.c v3_1) (.c (.int .i64 1))) st ⟨fun v53 st =>
                @stp P (.bin .add (.c v5) (.c (.int .i64 1))) st ⟨fun v34 st =>
                ∃ j, j < k2 ∧ GhostV [v53, v34] st (app (I2 j))⟩⟩⟩⟩⟩⟩⟩
              ⟨
                @stp P (.bin .add (.c v5) (.c (.int .i64 1))) st ⟨fun v34 st =>
                ∃ j, j < k2 ∧ GhostV [v3_1, v34] st (app (I2 j))⟩⟩⟩⟩⟩⟩⟩⟩⟩
            ⟨
              @stp P (.slice 1 (.c a0) (some (.c v3_1)) none none) st ⟨fun v56 st =>
              @stp P (.clear [(.int .u64 0)] (.c v56)) st ⟨fun _v st =>
              @stp P (.slice 1 (.c a0) none (some (.c v3_1)) none) st ⟨fun v59 st =>
              GhostV [v59] st fun vs st => K (mkres vs) st⟩⟩⟩⟩⟩⟩⟩⟩⟩
        ⟨
          @stp P (.bin .add (.c v3) (.c (.int .i64 1))) st ⟨fun v15 st =>
          ∃ j, j < k1 ∧ GhostV [v15] st (app (I1 j))⟩⟩⟩⟩⟩⟩⟩⟩⟩
      ⟨
        GhostV [a0] st fun vs st => K (mkres vs) st⟩⟩⟩⟩⟩⟩⟩
theorem q_slices_Compact_uint64_uint64 {P : Program} {a0 : V} {st : St} {K : V → St → Prop} : F_slices_Compact_uint64_uint64 P a0 st K = hwp P c_slices_Compact_uint64_uint64 (hretQ [.tmp 2] K) (enterFr [a0]) st := by kernel_rfl
abbrev R_slices_Compact_uint64_uint64 (P : Program) : Prop := resFnH P n_slices_Compact_uint64_uint64 = some (61, c_slices_Compact_uint64_uint64.er, [.tmp 2])
theorem A_slices_Compact_uint64_uint64 {P : Program} (h : R_slices_Compact_uint64_uint64 P) {a0 : V} {st : St} {K : V → St → Prop} (hF : F_slices_Compact_uint64_uint64 P a0 st K) : ACalls P n_slices_Compact_uint64_uint64 [a0] st K :=
  ACalls_h h rfl (by simp) (q_slices_Compact_uint64_uint64 ▸ hF)

def c_slices_ContainsFunc_Edge_Edge : ACode := (.seq (.reg [⟨(some 4), none, (.mov (.c (.bool false)))⟩]) (.seq (.reg [⟨(some 5), none, (.mov (.s 0))⟩, ⟨(some 6), none, (.mov (.s 1))⟩, ⟨(some 7), none, (.call (.c (.fn (.func n_slices_IndexFunc_Edge_Edge) [] [])) [(.s 5), (.s 6)])⟩, ⟨(some 8), none, (.bin .geq (.s 7) (.c (.int .i64 0)))⟩, ⟨(some 4), none, (.mov (.s 8))⟩]) .ret))
def F_slices_ContainsFunc_Edge_Edge (P : Program) (a0 a1 : V) (st : St) (K : V → St → Prop) : Prop :=
  @stp P (.call (.c (.fn (.func n_slices_IndexFunc_Edge_Edge) [] [])) [(.c a0), (.c a1)]) st ⟨fun v7 st =>
  @stp P (.bin .geq (.c v7) (.c (.int .i64 0))) st ⟨fun v8 st =>
  GhostV [v8] st fun vs st => K (mkres vs) st⟩⟩
theorem q_slices_ContainsFunc_Edge_Edge {P : Program} {a0 a1 : V} {st : St} {K : V → St → Prop} : F_slices_ContainsFunc_Edge_Edge P a0 a1 st K = hwp P c_slices_ContainsFunc_Edge_Edge (hretQ [.tmp 4] K) (enterFr [a0, a1]) st := by kernel_rfl
abbrev R_slices_ContainsFunc_Edge_Edge (P : Program) : Prop := resFnH P n_slices_ContainsFunc_Edge_Edge = some (9, c_slices_ContainsFunc_Edge_Edge.er, [.tmp 4])
theorem A_slices_ContainsFunc_Edge_Edge {P : Program} (h : R_slices_ContainsFunc_Edge_Edge P) {a0 a1 : V} {st : St} {K : V → St → Prop} (hF : F_slices_ContainsFunc_Edge_Edge P a0 a1 st K) : ACalls P n_slices_ContainsFunc_Edge_Edge [a0, a1] st K :=
  ACalls_h h rfl (by simp) (q_slices_ContainsFunc_Edge_Edge ▸ hF)

def c_gazetteerlaw16_GraphEnds_1 : ACode := (.seq (.reg [⟨(some 2), none, (.box (.s 0))⟩, ⟨(some 3), none, (.mov (.c (.bool false)))⟩]) (.seq (.reg [⟨(some 4), none, (.fld 0 (.s 2))⟩, ⟨(some 5), none, (.ld none (.s 4))⟩, ⟨(some 6), none, (.fld 1 (.s 1))⟩, ⟨(some 7), none, (.ld none (.s 6))⟩, ⟨(some 8), none, (.bin .eql (.s 5) (.s 7))⟩, ⟨(some 3), none, (.mov (.s 8))⟩]) .ret))
def F_gazetteerlaw16_GraphEnds_1 (P : Program) (a0 a1 : V) (st : St) (K : V → St → Prop) : Prop :=
  @stp P (.box (.c a0)) st ⟨fun v2 st =>
  @stp P (.fld 0 (.c v2)) st ⟨fun v4 st =>
  @stp P (.ld none (.c v4)) st ⟨fun v5 st =>
  @stp P (.fld 1 (.c a1)) st ⟨fun v6 st =>
  @stp P (.ld none (.c v6)) st ⟨fun v7 st =>
  @stp P (.bin .eql (.c v5) (.c v7)) st ⟨fun v8 st =>
  GhostV [v8] st fun vs st => K (mkres vs) st⟩⟩⟩⟩⟩⟩
theorem q_gazetteerlaw16_GraphEnds_1 {P : Program} {a0 a1 : V} {st : St} {K : V → St → Prop} : F_gazetteerlaw16_GraphEnds_1 P a0 a1 st K = hwp P c_gazetteerlaw16_GraphEnds_1 (hretQ [.tmp 3] K) (enterFr [a0, a1]) st := by kernel_rfl
abbrev R_gazetteerlaw16_GraphEnds_1 (P : Program) : Prop := resFnH P n_gazetteerlaw16_GraphEnds_1 = some (9, c_gazetteerlaw16_GraphEnds_1.er, [.tmp 3])
theorem A_gazetteerlaw16_GraphEnds_1 {P : Program} (h : R_gazetteerlaw16_GraphEnds_1 P) {a0 a1 : V} {st : St} {K : V → St → Prop} (hF : F_gazetteerlaw16_GraphEnds_1 P a0 a1 st K) : ACalls P n_gazetteerlaw16_GraphEnds_1 [a0, a1] st K :=
  ACalls_h h rfl (by simp) (q_gazetteerlaw16_GraphEnds_1 ▸ hF)

def c_gazetteerlaw16_first : ACode := (.seq (.reg [⟨(some 0), none, (.mov (.c (.sl .nil 0 [] [])))⟩]) (.seq (.reg [⟨(some 1), none, (.build [(.int .u64 0), (.int .u64 0)] [(0, (1, (.c (.int .u64 1)))), (1, (1, (.c (.int .u64 2))))])⟩, ⟨(some 2), none, (.build [(.int .u64 0), (.int .u64 0)] [(0, (1, (.c (.int .u64 2)))), (1, (1, (.c (.int .u64 3))))])⟩, ⟨(some 3), none, (.build [(.int .u64 0), (.int .u64 0)] [(0, (1, (.c (.int .u64 3)))), (1, (1, (.c (.int .u64 1))))])⟩, ⟨(some 4), none, (.build [(.int .u64 0), (.int .u64 0)] [(0, (1, (.c (.int .u64 3)))), (1, (1, (.c (.int .u64 4))))])⟩, ⟨(some 5), none, (.build [(.int .u64 0), (.int .u64 0)] [(0, (1, (.c (.int .u64 5)))), (1, (1, (.c (.int .u64 5))))])⟩, ⟨(some 6), none, (.mkSl 2 5 [(.int .u64 0), (.int .u64 0)] [(0, (.s 1)), (1, (.s 2)), (2, (.s 3)), (3, (.s 4)), (4, (.s 5))])⟩, ⟨(some 0), none, (.mov (.s 6))⟩]) .ret))
def F_gazetteerlaw16_first (P : Program) (st : St) (K : V → St → Prop) : Prop :=
  @stp P (.build [(.int .u64 0), (.int .u64 0)] [(0, 1, (.c (.int .u64 1))), (1, 1, (.c (.int .u64 2)))]) st ⟨fun v1 st =>
  @stp P (.build [(.int .u64 0), (.int .u64 0)] [(0, 1, (.c (.int .u64 2))), (1, 1, (.c (.int .u64 3)))]) st ⟨fun v2 st =>
  @stp P (.build [(.int .u64 0), (.int .u64 0)] [(0, 1, (.c (.int .u64 3))), (1, 1, (.c (.int .u64 1)))]) st ⟨fun v3 st =>
  @stp P (.build [(.int .u64 0), (.int .u64 0)] [(0, 1, (.c (.int .u64 3))), (1, 1, (.c (.int .u64 4)))]) st ⟨fun v4 st =>
  @stp P (.build [(.int .u64 0), (.int .u64 0)] [(0, 1, (.c (.int .u64 5))), (1, 1, (.c (.int .u64 5)))]) st ⟨fun v5 st =>
  @stp P (.mkSl 2 5 [(.int .u64 0), (.int .u64 0)] [(0, (.c v1)), (1, (.c v2)), (2, (.c v3)), (3, (.c v4)), (4, (.c v5))]) st ⟨fun v6 st =>
  GhostV [v6] st fun vs st => K (mkres vs) st⟩⟩⟩⟩⟩⟩
theorem q_gazetteerlaw16_first {P : Program} {st : St} {K : V → St → Prop} : F_gazetteerlaw16_first P  st K = hwp P c_gazetteerlaw16_first (hretQ [.tmp 0] K) (enterFr []) st := by kernel_rfl
abbrev R_gazetteerlaw16_first (P : Program) : Prop := resFnH P n_gazetteerlaw16_first = some (7, c_gazetteerlaw16_first.er, [.tmp 0])
theorem A_gazetteerlaw16_first {P : Program} (h : R_gazetteerlaw16_first P) {st : St} {K : V → St → Prop} (hF : F_gazetteerlaw16_first P  st K) : ACalls P n_gazetteerlaw16_first [] st K :=
  ACalls_h h rfl (by simp) (q_gazetteerlaw16_first ▸ hF)

def c_graph_far : ACode := (.seq (.reg [⟨(some 4), none, (.mov (.c .nilm))⟩]) (.cond (.c (.bool true)) (.seq (.reg [⟨(some 14), none, .mkmap⟩, ⟨(some 5), none, (.alloc [.nilm])⟩, ⟨none, none, (.st 1 (.s 5) (.s 14))⟩]) (.seq (.reg [⟨(some 15), none, (.mov (.s 1))⟩, ⟨(some 16), none, (.mkSl 1 1 [(.int .u64 0)] [(0, (.s 15))])⟩, ⟨(some 6), none, (.mov (.s 16))⟩]) (.seq .skip (.seq (.seq (.reg [⟨(some 7), none, (.alloc [(.int .i64 0)])⟩, ⟨none, none, (.st 1 (.s 7) (.c (.int .i64 1)))⟩]) (.block 0 (.loop [6, 7] [6, 7, 8, 10, 17, 18, 19, 20, 21, 22, 23, 24, 25, 26, 27, 44, 45, 46, 47, 48, 49] (.seq (.block 1 (.seq (.reg [⟨(some 8), none, (.alloc [(.sl .nil 0 [] [])])⟩]) (.seq (.seq (.reg [⟨(some 19), none, (.mov (.s 6))⟩, ⟨(some 20), none, (.len .sl (.s 19))⟩, ⟨(some 21), none, (.mov (.c (.int .i64 0)))⟩]) (.block 2 (.loop [21] [10, 21, 22, 23, 24, 25, 26, 27, 44] (.seq (.reg [⟨(some 22), none, (.bin .lss (.s 21) (.s 20))⟩]) (.seq (.cond (.s 22) .skip (.exit 2)) (.seq (.block 3 (.seq (.reg [⟨(some 23), none, (.idx 1 (.s 19) (.s 21))⟩, ⟨(some 24), none, (.ld none (.s 23))⟩, ⟨(some 10), none, (.mov (.s 24))⟩]) (.seq (.reg [⟨(some 25), none, (.mov (.s 0))⟩, ⟨(some 26), none, (.mov (.s 10))⟩, ⟨(some 27), none, (.call (.c (.fn (.func n_graph_nexts) [] [])) [(.s 25), (.s 26)])⟩]) (.block 4 (.rfunc (.s 27) [28] (.reg [⟨(some 11), none, (.mov (.s 28))⟩]) (.block 5 (.seq (.reg [⟨(some 30), none, (.ld none (.s 5))⟩, ⟨(some 31), none, (.mov (.s 11))⟩, ⟨(some 32), none, (.lookup (.one .int) (.int .i64 0) true (.s 30) (.s 31))⟩, ⟨(some 29), none, (.mov (.s 32))⟩, ⟨(some 33), none, (.ext 0 (.s 29))⟩, ⟨(some 34), none, (.ext 1 (.s 29))⟩, ⟨(some 12), none, (.mov (.s 33))⟩, ⟨(some 13), none, (.mov (.s 34))⟩]) (.seq (.reg [⟨(some 35), none, (.mov (.s 13))⟩, ⟨(some 36), none, (.un .not (.s 35))⟩]) (.cond (.s 36) (.seq (.reg [⟨(some 37), none, (.ld none (.s 5))⟩, ⟨(some 38), none, (.mov (.s 11))⟩, ⟨(some 39), none, (.ld none (.s 7))⟩, ⟨none, none, (.mupd (.one .int) (.s 37) (.s 38) (.s 39))⟩]) (.reg [⟨(some 40), none, (.ld none (.s 8))⟩, ⟨(some 41), none, (.mov (.s 11))⟩, ⟨(some 42), none, (.mkSl 1 1 [(.int .u64 0)] [(0, (.s 41))])⟩, ⟨(some 43), none, (.append 1 8 (.s 40) (.s 42))⟩, ⟨none, none, (.st 1 (.s 8) (.s 43))⟩])) .skip))))))))) (.reg [⟨(some 44), none, (.bin .add (.s 21) (.c (.int .i64 1)))⟩, ⟨(some 21), none, (.mov (.s 44))⟩]))))))) (.seq (.seq (.reg [⟨(some 45), none, (.ld none (.s 8))⟩, ⟨(some 46), none, (.len .sl (.s 45))⟩, ⟨(some 47), none, (.bin .eql (.s 46) (.c (.int .i64 0)))⟩]) (.cond (.s 47) (.exit 0) .skip)) (.reg [⟨(some 48), none, (.ld none (.s 8))⟩, ⟨(some 6), none, (.mov (.s 48))⟩]))))) (.seq (.seq (.reg [⟨(some 49), none, (.ld none (.s 7))⟩]) (.reg [⟨(some 7), none, (.alloc [(.int .i64 0)])⟩, ⟨none, none, (.st 1 (.s 7) (.s 49))⟩])) (.reg [⟨(some 17), none, (.ld none (.s 7))⟩, ⟨(some 18), none, (.bin .add (.s 17) (.c (.int .i64 1)))⟩, ⟨none, none, (.st 1 (.s 7) (.s 18))⟩])))))) (.seq (.reg [⟨(some 50), none, (.ld none (.s 5))⟩, ⟨(some 4), none, (.mov (.s 50))⟩]) .ret))))) .skip))
def F_graph_far (P : Program) (a0 a1 : V) (st : St) (K : V → St → Prop) : Prop :=
  @cnd (.bool true) ⟨
    @stp P .mkmap st ⟨fun v14 st =>
    @stp P (.alloc [.nilm]) st ⟨fun v5 st =>
    @stp P (.st 1 (.c v5) (.c v14)) st ⟨fun _v st =>
    @stp P (.mkSl 1 1 [(.int .u64 0)] [(0, (.c a1))]) st ⟨fun v16 st =>
    @stp P (.alloc [(.int .i64 0)]) st ⟨fun v7 st =>
    @stp P (.st 1 (.c v7) (.c (.int .i64 1))) st ⟨fun _v st =>
    @Hold ⟨∃ I1 : Nat → Rel 2, (∃ k, GhostV [v16, v7] st (app (I1 k))) ∧ ∀ k1 v6 v7, ∀ st, app (I1 k1) [v6, v7] st →
      @stp P (.alloc [(.sl .nil 0 [] [])]) st ⟨fun v8 st =>
      @stp P (.len .sl (.c v6)) st ⟨fun v20 st =>
      @Hold ⟨∃ I2 : Nat → Rel 1, (∃ k, GhostV [(.int .i64 0)] st (app (I2 k))) ∧ ∀ k2 v21, ∀ st, app (I2 k2) [v21] st →
        @stp P (.bin .lss (.c v21) (.c v20)) st ⟨fun v22 st =>
        @cnd v22 ⟨
          @stp P (.idx 1 (.c v6) (.c v21)) st ⟨fun v23 st =>
          @stp P (.ld none (.c v23)) st ⟨fun v24 st =>
          @stp P (.call (.c (.fn (.func n_graph_nexts) [] [])) [(.c a0), (.c v24)]) st ⟨fun v27 st =>
          @Hold ⟨(fun s3 : St => ∀ LP3 : LSt → Obj,
            (∀ (st : St) (K : V → St → Prop) (v28 : V), st.get s3.objs.length s3.nv = some (LP3 .ready) → (
              st.get s3.objs.length s3.nv = some (LP3 .ready) ∧ (fun st : St =>
                @stp P (.ld none (.c v5)) st ⟨fun v30 st =>
                @stp P (.lookup (.one .int) (.int .i64 0) true (.c v30) (.c v28)) st ⟨fun v32 st =>
                @stp P (.ext 0 (.c v32)) st ⟨fun v33 st =>
                @stp P (.ext 1 (.c v32)) st ⟨fun v34 st =>
                @stp P (.un .not (.c v34)) st ⟨fun v36 st =>
                @cnd v36 ⟨
                  @stp P (.ld none (.c v5)) st ⟨fun v37 st =>
                  @stp P (.ld none (.c v7)) st ⟨fun v39 st =>
                  @stp P (.mupd (.one .int) (.c v37) (.c v28) (.c v39)) st ⟨fun _v st =>
                  @stp P (.ld none (.c v8)) st ⟨fun v40 st =>
                  @stp P (.mkSl 1 1 [(.int .u64 0)] [(0, (.c v28))]) st ⟨fun v42 st =>
                  @stp P (.append 1 8 (.c v40) (.c v42)) st ⟨fun v43 st =>
                  @stp P (.st 1 (.c v8) (.c v43)) st ⟨fun _v st =>
                  st.get s3.objs.length s3.nv = some (LP3 .busy) ∧ K (.bool true) (st.setO s3.objs.length s3.nv (LP3 .ready))⟩⟩⟩⟩⟩⟩⟩⟩
                ⟨
                  st.get s3.objs.length s3.nv = some (LP3 .busy) ∧ K (.bool true) (st.setO s3.objs.length s3.nv (LP3 .ready))⟩⟩⟩⟩⟩⟩) (st.setO s3.objs.length s3.nv (LP3 .busy))) →
            AInv P (.yld s3.objs.length s3.nv) [v28] st K) →
            AInvE P v27 [.yld s3.objs.length s3.nv] (s3.push (LP3 .ready)) fun _ st => ∃ s, st.get s3.objs.length s3.nv = some (LP3 s) ∧ (fun st : St => hend s (
              @stp P (.bin .add (.c v21) (.c (.int .i64 1))) st ⟨fun v44 st =>
              ∃ j, j < k2 ∧ GhostV [v44] st (app (I2 j))⟩)
            (
              GhostV [.nilm] st fun vs st => K (mkres vs) st)
            (fun id : Nat =>               (if id = 4 then
                @stp P (.bin .add (.c v21) (.c (.int .i64 1))) st ⟨fun v44 st =>
                ∃ j, j < k2 ∧ GhostV [v44] st (app (I2 j))⟩
              else
                (if id = 3 then
                  @stp P (.bin .add (.c v21) (.c (.int .i64 1))) st ⟨fun v44 st =>
                  ∃ j, j < k2 ∧ GhostV [v44] st (app (I2 j))⟩
                else
                  (if id = 2 then
                    @stp P (.ld none (.c v8)) st ⟨fun v45 st =>
                    @stp P (.len .sl (.c v45)) st ⟨fun v46 st =>
                    @stp P (.bin .eql (.c v46) (.c (.int .i64 0))) st ⟨fun v47 st =>
                    @cnd v47 ⟨
                      @stp P (.ld none (.c v5)) st ⟨fun v50 st =>
                      GhostV [v50] st fun vs st => K (mkres vs) st⟩⟩
                    ⟨
                      @stp P (.ld none (.c v8)) st ⟨fun v48 st =>
                      @stp P (.ld none (.c v7)) st ⟨fun v49 st =>
                      @stp P (.alloc [(.int .i64 0)]) st ⟨fun v7_1 st =>
                      @stp P (.st 1 (.c v7_1) (.c v49)) st ⟨fun _v st =>
                      @stp P (.ld none (.c v7_1)) st ⟨fun v17 st =>
                      @stp P (.bin .add (.c v17) (.c (.int .i64 1))) st ⟨fun v18 st =>
                      @stp P (.st 1 (.c v7_1) (.c v18)) st ⟨fun _v st =>
                      ∃ j, j < k1 ∧ GhostV [v48, v7_1] st (app (I1 j))⟩⟩⟩⟩⟩⟩⟩⟩⟩⟩⟩
                  else
                    (if id = 1 then
                      @stp P (.ld none (.c v7)) st ⟨fun v49 st =>
                      @stp P (.alloc [(.int .i64 0)]) st ⟨fun v7_1 st =>
                      @stp P (.st 1 (.c v7_1) (.c v49)) st ⟨fun _v st =>
                      @stp P (.ld none (.c v7_1)) st ⟨fun v17 st =>
                      @stp P (.bin .add (.c v17) (.c (.int .i64 1))) st ⟨fun v18 st =>
                      @stp P (.st 1 (.c v7_1) (.c v18)) st ⟨fun _v st =>
                      ∃ j, j < k1 ∧ GhostV [v6, v7_1] st (app (I1 j))⟩⟩⟩⟩⟩⟩
                    else
                      (if id = 0 then
                        @stp P (.ld none (.c v5)) st ⟨fun v50 st =>
                        GhostV [v50] st fun vs st => K (mkres vs) st⟩
                      else
                        False))))))) (st.gone s3.objs.length)) st⟩⟩⟩⟩⟩
        ⟨
          @stp P (.ld none (.c v8)) st ⟨fun v45 st =>
          @stp P (.len .sl (.c v45)) st ⟨fun v46 st =>
          @stp P (.bin .eql (.c v46) (.c (.int .i64 0))) st ⟨fun v47 st =>
          @cnd v47 ⟨
            @stp P (.ld none (.c v5)) st ⟨fun v50 st =>
            GhostV [v50] st fun vs st => K (mkres vs) st⟩⟩
          ⟨
            @stp P (.ld none (.c v8)) st ⟨fun v48 st =>
            @stp P (.ld none (.c v7)) st ⟨fun v49 st =>
            @stp P (.alloc [(.int .i64 0)]) st ⟨fun v7_1 st =>
            @stp P (.st 1 (.c v7_1) (.c v49)) st ⟨fun _v st =>
            @stp P (.ld none (.c v7_1)) st ⟨fun v17 st =>
            @stp P (.bin .add (.c v17) (.c (.int .i64 1))) st ⟨fun v18 st =>
            @stp P (.st 1 (.c v7_1) (.c v18)) st ⟨fun _v st =>
            ∃ j, j < k1 ∧ GhostV [v48, v7_1] st (app (I1 j))⟩⟩⟩⟩⟩⟩⟩⟩⟩⟩⟩⟩⟩⟩⟩⟩⟩⟩⟩⟩⟩⟩⟩⟩
  ⟨
    GhostV [.nilm] st fun vs st => K (mkres vs) st⟩
theorem q_graph_far {P : Program} {a0 a1 : V} {st : St} {K : V → St → Prop} : F_graph_far P a0 a1 st K = hwp P c_graph_far (hretQ [.tmp 4] K) (enterFr [a0, a1]) st := by kernel_rfl
abbrev R_graph_far (P : Program) : Prop := resFnH P n_graph_far = some (51, c_graph_far.er, [.tmp 4])
theorem A_graph_far {P : Program} (h : R_graph_far P) {a0 a1 : V} {st : St} {K : V → St → Prop} (hF : F_graph_far P a0 a1 st K) : ACalls P n_graph_far [a0, a1] st K :=
  ACalls_h h rfl (by simp) (q_graph_far ▸ hF)

def c_graph_nexts : ACode := (.seq (.reg [⟨(some 4), none, (.mov (.c .nilf))⟩]) (.seq (.reg [⟨(some 8), none, .mkmap⟩, ⟨(some 5), none, (.mov (.s 8))⟩]) (.seq (.seq (.reg [⟨(some 9), none, (.mov (.s 0))⟩, ⟨(some 10), none, (.len .sl (.s 9))⟩, ⟨(some 11), none, (.mov (.c (.int .i64 0)))⟩]) (.block 0 (.loop [11] [7, 11, 12, 13, 14, 15, 16, 17, 18, 19, 20, 21, 22] (.seq (.reg [⟨(some 12), none, (.bin .lss (.s 11) (.s 10))⟩]) (.seq (.cond (.s 12) .skip (.exit 0)) (.seq (.block 1 (.seq (.reg [⟨(some 13), none, (.idx 2 (.s 9) (.s 11))⟩, ⟨(some 14), none, (.ld (some 2) (.s 13))⟩, ⟨(some 7), none, (.alloc [(.int .u64 0), (.int .u64 0)])⟩, ⟨none, none, (.st 2 (.s 7) (.s 14))⟩]) (.seq (.reg [⟨(some 15), none, (.fld 0 (.s 7))⟩, ⟨(some 16), none, (.ld none (.s 15))⟩, ⟨(some 17), none, (.mov (.s 1))⟩, ⟨(some 18), none, (.bin .eql (.s 16) (.s 17))⟩]) (.cond (.s 18) (.reg [⟨(some 19), none, (.mov (.s 5))⟩, ⟨(some 20), none, (.fld 1 (.s 7))⟩, ⟨(some 21), none, (.ld none (.s 20))⟩, ⟨none, none, (.mupd (.one .int) (.s 19) (.s 21) (.c (.bool true)))⟩]) .skip)))) (.reg [⟨(some 22), none, (.bin .add (.s 11) (.c (.int .i64 1)))⟩, ⟨(some 11), none, (.mov (.s 22))⟩]))))))) (.seq (.reg [⟨(some 23), none, (.mov (.s 5))⟩, ⟨(some 24), none, (.call (.c (.fn (.func n_graph_rising_uint64_bool) [] [])) [(.s 23)])⟩, ⟨(some 25), none, (.call (.c (.fn (.func n_slices_Values_uint64_uint64) [] [])) [(.s 24)])⟩, ⟨(some 4), none, (.mov (.s 25))⟩]) .ret))))
def F_graph_nexts (P : Program) (a0 a1 : V) (st : St) (K : V → St → Prop) : Prop :=
  @stp P .mkmap st ⟨fun v8 st =>
  @stp P (.len .sl (.c a0)) st ⟨fun v10 st =>
  @Hold ⟨∃ I1 : Nat → Rel 1, (∃ k, GhostV [(.int .i64 0)] st (app (I1 k))) ∧ ∀ k1 v11, ∀ st, app (I1 k1) [v11] st →
    @stp P (.bin .lss (.c v11) (.c v10)) st ⟨fun v12 st =>
    @cnd v12 ⟨
      @stp P (.idx 2 (.c a0) (.c v11)) st ⟨fun v13 st =>
      @stp P (.ld (some 2) (.c v13)) st ⟨fun v14 st =>
      @stp P (.alloc [(.int .u64 0), (.int .u64 0)]) st ⟨fun v7 st =>
      @stp P (.st 2 (.c v7) (.c v14)) st ⟨fun _v st =>
      @stp P (.fld 0 (.c v7)) st ⟨fun v15 st =>
      @stp P (.ld none (.c v15)) st ⟨fun v16 st =>
      @stp P (.bin .eql (.c v16) (.c a1)) st ⟨fun v18 st =>
      @cnd v18 ⟨
        @stp P (.fld 1 (.c v7)) st ⟨fun v20 st =>
        @stp P (.ld none (.c v20)) st ⟨fun v21 st =>
        @stp P (.mupd (.one .int) (.c v8) (.c v21) (.c (.bool true))) st ⟨fun _v st =>
        @stp P (.bin .add (.c v11) (.c (.int .i64 1))) st ⟨fun v22 st =>
        ∃ j, j < k1 ∧ GhostV [v22] st (app (I1 j))⟩⟩⟩⟩⟩
      ⟨
        @stp P (.bin .add (.c v11) (.c (.int .i64 1))) st ⟨fun v22 st =>
        ∃ j, j < k1 ∧ GhostV [v22] st (app (I1 j))⟩⟩⟩⟩⟩⟩⟩⟩⟩⟩
    ⟨
      @stp P (.call (.c (.fn (.func n_graph_rising_uint64_bool) [] [])) [(.c v8)]) st ⟨fun v24 st =>
      @stp P (.call (.c (.fn (.func n_slices_Values_uint64_uint64) [] [])) [(.c v24)]) st ⟨fun v25 st =>
      GhostV [v25] st fun vs st => K (mkres vs) st⟩⟩⟩⟩⟩⟩⟩
theorem q_graph_nexts {P : Program} {a0 a1 : V} {st : St} {K : V → St → Prop} : F_graph_nexts P a0 a1 st K = hwp P c_graph_nexts (hretQ [.tmp 4] K) (enterFr [a0, a1]) st := by kernel_rfl
abbrev R_graph_nexts (P : Program) : Prop := resFnH P n_graph_nexts = some (26, c_graph_nexts.er, [.tmp 4])
theorem A_graph_nexts {P : Program} (h : R_graph_nexts P) {a0 a1 : V} {st : St} {K : V → St → Prop} (hF : F_graph_nexts P a0 a1 st K) : ACalls P n_graph_nexts [a0, a1] st K :=
  ACalls_h h rfl (by simp) (q_graph_nexts ▸ hF)

def c_gazetteerref16_With : ACode := (.seq (.reg [⟨(some 4), none, (.mov (.c (.sl .nil 0 [] [])))⟩]) (.seq (.reg [⟨(some 5), none, (.mov (.c (.sl .nil 0 [] [])))⟩]) (.seq (.reg [⟨(some 6), none, (.mov (.c (.bool false)))⟩]) (.seq (.seq (.reg [⟨(some 9), none, (.mov (.s 0))⟩, ⟨(some 10), none, (.len .sl (.s 9))⟩, ⟨(some 11), none, (.mov (.c (.int .i64 0)))⟩]) (.block 0 (.loop [5, 6, 11] [4, 5, 6, 8, 11, 12, 13, 14, 15, 16, 17, 18, 19, 20, 21, 22, 23, 24, 25, 26, 27, 28, 29, 30, 31, 32, 33, 34] (.seq (.reg [⟨(some 12), none, (.bin .lss (.s 11) (.s 10))⟩]) (.seq (.cond (.s 12) .skip (.exit 0)) (.seq (.block 1 (.seq (.reg [⟨(some 13), none, (.idx 1 (.s 9) (.s 11))⟩, ⟨(some 14), none, (.ld none (.s 13))⟩, ⟨(some 8), none, (.mov (.s 14))⟩]) (.seq (.seq (.reg [⟨(some 15), none, (.mov (.s 8))⟩, ⟨(some 16), none, (.mov (.s 1))⟩, ⟨(some 17), none, (.bin .eql (.s 15) (.s 16))⟩]) (.cond (.s 17) (.seq (.reg [⟨(some 18), none, (.mov (.s 0))⟩, ⟨(some 4), none, (.mov (.s 18))⟩]) .ret) .skip)) (.seq (.seq (.reg [⟨(some 19), none, (.mov (.s 8))⟩, ⟨(some 20), none, (.mov (.s 1))⟩, ⟨(some 21), none, (.bin .gtr (.s 19) (.s 20))⟩, ⟨(some 22), none, (.mov (.s 21))⟩, ⟨(some 23), (some (22, true)), (.mov (.s 6))⟩, ⟨(some 24), (some (22, true)), (.un .not (.s 23))⟩, ⟨(some 25), none, (.pick (.s 22) (.s 24) (.c (.bool false)))⟩]) (.cond (.s 25) (.reg [⟨(some 26), none, (.mov (.s 5))⟩, ⟨(some 27), none, (.mov (.s 1))⟩, ⟨(some 28), none, (.mkSl 1 1 [(.int .u64 0)] [(0, (.s 27))])⟩, ⟨(some 29), none, (.append 1 8 (.s 26) (.s 28))⟩, ⟨(some 5), none, (.mov (.s 29))⟩, ⟨(some 6), none, (.mov (.c (.bool true)))⟩]) .skip)) (.reg [⟨(some 30), none, (.mov (.s 5))⟩, ⟨(some 31), none, (.mov (.s 8))⟩, ⟨(some 32), none, (.mkSl 1 1 [(.int .u64 0)] [(0, (.s 31))])⟩, ⟨(some 33), none, (.append 1 8 (.s 30) (.s 32))⟩, ⟨(some 5), none, (.mov (.s 33))⟩]))))) (.reg [⟨(some 34), none, (.bin .add (.s 11) (.c (.int .i64 1)))⟩, ⟨(some 11), none, (.mov (.s 34))⟩]))))))) (.seq (.seq (.reg [⟨(some 35), none, (.mov (.s 6))⟩, ⟨(some 36), none, (.un .not (.s 35))⟩]) (.cond (.s 36) (.reg [⟨(some 37), none, (.mov (.s 5))⟩, ⟨(some 38), none, (.mov (.s 1))⟩, ⟨(some 39), none, (.mkSl 1 1 [(.int .u64 0)] [(0, (.s 38))])⟩, ⟨(some 40), none, (.append 1 8 (.s 37) (.s 39))⟩, ⟨(some 5), none, (.mov (.s 40))⟩]) .skip)) (.seq (.reg [⟨(some 41), none, (.mov (.s 5))⟩, ⟨(some 4), none, (.mov (.s 41))⟩]) .ret))))))
def F_gazetteerref16_With (P : Program) (a0 a1 : V) (st : St) (K : V → St → Prop) : Prop :=
  @stp P (.len .sl (.c a0)) st ⟨fun v10 st =>
  @Hold ⟨∃ I1 : Nat → Rel 3, (∃ k, GhostV [(.sl .nil 0 [] []), (.bool false), (.int .i64 0)] st (app (I1 k))) ∧ ∀ k1 v5 v6 v11, ∀ st, app (I1 k1) [v5, v6, v11] st →
    @stp P (.bin .lss (.c v11) (.c v10)) st ⟨fun v12 st =>
    @cnd v12 ⟨
      @stp P (.idx 1 (.c a0) (.c v11)) st ⟨fun v13 st =>
      @stp P (.ld none (.c v13)) st ⟨fun v14 st =>
      @stp P (.bin .eql (.c v14) (.c a1)) st ⟨fun v17 st =>
      @cnd v17 ⟨
        GhostV [a0] st fun vs st => K (mkres vs) st⟩
      ⟨
        @stp P (.bin .gtr (.c v14) (.c a1)) st ⟨fun v21 st =>
        @gst P v21 true (.mov (.c v6)) st ⟨fun v23 st =>
        @gst P v21 true (.un .not (.c v23)) st ⟨fun v24 st =>
        @stp P (.pick (.c v21) (.c v24) (.c (.bool false))) st ⟨fun v25 st =>
        @cnd v25 ⟨
          @stp P (.mkSl 1 1 [(.int .u64 0)] [(0, (.c a1))]) st ⟨fun v28 st =>
          @stp P (.append 1 8 (.c v5) (.c v28)) st ⟨fun v29 st =>
          @stp P (.mkSl 1 1 [(.int .u64 0)] [(0, (.c v14))]) st ⟨fun v32 st =>
          @stp P (.append 1 8 (.c v29) (.c v32)) st ⟨fun v33 st =>
          @stp P (.bin .add (.c v11) (.c (.int .i64 1))) st ⟨fun v34 st =>
          ∃ j, j < k1 ∧ GhostV [v33, (.bool true), v34] st (app (I1 j))⟩⟩⟩⟩⟩⟩
        ⟨
          @stp P (.mkSl 1 1 [(.int .u64 0)] [(0, (.c v14))]) st ⟨fun v32 st =>
          @stp P (.append 1 8 (.c v5) (.c v32)) st ⟨fun v33 st =>
          @stp P (.bin .add (.c v11) (.c (.int .i64 1))) st ⟨fun v34 st =>
          ∃ j, j < k1 ∧ GhostV [v33, v6, v34] st (app (I1 j))⟩⟩⟩⟩⟩⟩⟩⟩⟩⟩⟩⟩⟩
    ⟨
      @stp P (.un .not (.c v6)) st ⟨fun v36 st =>
      @cnd v36 ⟨
        @stp P (.mkSl 1 1 [(.int .u64 0)] [(0, (.c a1))]) st ⟨fun v39 st =>
        @stp P (.append 1 8 (.c v5) (.c v39)) st ⟨fun v40 st =>
        GhostV [v40] st fun vs st => K (mkres vs) st⟩⟩⟩
      ⟨
        GhostV [v5] st fun vs st => K (mkres vs) st⟩⟩⟩⟩⟩⟩
theorem q_gazetteerref16_With {P : Program} {a0 a1 : V} {st : St} {K : V → St → Prop} : F_gazetteerref16_With P a0 a1 st K = hwp P c_gazetteerref16_With (hretQ [.tmp 4] K) (enterFr [a0, a1]) st := by kernel_rfl
abbrev R_gazetteerref16_With (P : Program) : Prop := resFnH P n_gazetteerref16_With = some (42, c_gazetteerref16_With.er, [.tmp 4])
theorem A_gazetteerref16_With {P : Program} (h : R_gazetteerref16_With P) {a0 a1 : V} {st : St} {K : V → St → Prop} (hF : F_gazetteerref16_With P a0 a1 st K) : ACalls P n_gazetteerref16_With [a0, a1] st K :=
  ACalls_h h rfl (by simp) (q_gazetteerref16_With ▸ hF)

end Go.Proofs.Ythoaclojobgelaa.AM
