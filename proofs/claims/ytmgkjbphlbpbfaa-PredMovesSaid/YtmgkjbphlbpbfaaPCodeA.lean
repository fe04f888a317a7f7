import Derived.Test.YtmgkjbphlbpbfaaAmS2
import Derived.KernelRfl
namespace Go.Proofs.Ytmgkjbphlbpbfaa.AM
open Go
set_option linter.unusedVariables false
def n_gazetteerlaw18_VacuumDead : FuncId := 3
def n_gazetteerlaw18_VacuumBack : FuncId := 4
def n_gazetteerlaw18_VacuumSpots : FuncId := 5
def n_gazetteerlaw18_VacuumSeen : FuncId := 6
def n_gazetteerlaw15_PredMeets : FuncId := 7
def n_gazetteerlaw15_PredKeeps : FuncId := 8
def n_gazetteerlaw15_PredPasses : FuncId := 9
def n_gazetteerlaw15_PredAttaches : FuncId := 10
def n_gazetteerlaw15_PredMoves : FuncId := 11
def n_gazetteerlaw18_wakes : FuncId := 12
def n_gazetteerlaw18_items : FuncId := 13
def n_gazetteerlaw18_fates : FuncId := 14
def n_vacuum_Dead : FuncId := 15
def n_gazetteerref17_Same : FuncId := 16
def n_gazetteerref17_Right : FuncId := 17
def n_gazetteerref17_All : FuncId := 18
def n_gazetteerref18_Dead : FuncId := 19
def n_gazetteerlaw18_same : FuncId := 20
def n_vacuum_Left : FuncId := 21
def n_gazetteerref18_Left : FuncId := 22
def n_vacuum_Entry : FuncId := 23
def n_vacuum_Spot : FuncId := 24
def n_gazetteerlaw18_spots : FuncId := 25
def n_gazetteerref18_Spot : FuncId := 26
def n_gazetteerref18_Entry : FuncId := 27
def n_vacuum_Batches : FuncId := 28
def n_slices_Contains_Spot_Spot : FuncId := 29
def n_vision_Seen : FuncId := 30
def n_slices_Equal_Stored_Stored : FuncId := 31
def n_gazetteerlaw15_wakes : FuncId := 32
def n_pred_Meets : FuncId := 33
def n_gazetteerlaw15_copied : FuncId := 34
def n_gazetteerref15_Right : FuncId := 35
def n_gazetteerref09_Box : FuncId := 36
def n_gazetteerref15_Meets : FuncId := 37
def n_pred_Attach : FuncId := 38
def n_gazetteerlaw15_PredKeeps_1 : FuncId := 39
def n_pred_Split : FuncId := 40
def n_pred_Release : FuncId := 41
def n_pred_Pass : FuncId := 42
def n_gazetteerlaw15_told : FuncId := 43
def n_gazetteerref15_Pass : FuncId := 44
def n_pred_Same : FuncId := 45
def n_gazetteerref15_Same : FuncId := 46
def n_pred_Check : FuncId := 47
def n_gazetteerref15_Mark : FuncId := 48
def n_gazetteerref15_With : FuncId := 49
def n_gazetteerref15_Without : FuncId := 50
def n_pred_Gone : FuncId := 51
def n_gazetteerref15_Split : FuncId := 52
def n_gazetteerref15_Gone : FuncId := 53
def n_gazetteerlaw18_first : FuncId := 54
def n_vision_Check : FuncId := 55
def n_vacuum_dead : FuncId := 56
def n_gazetteerref10_Right : FuncId := 57
def n_gazetteerref17_Dead : FuncId := 58
def n_vacuum_Left_1 : FuncId := 59
def n_slices_DeleteFunc_Stored_Stored : FuncId := 60
def n_slices_Clone_Stored_Stored : FuncId := 61
def n_gazetteerref18_Has : FuncId := 62
def n_slices_Clone_Spot_Spot : FuncId := 63
def n_slices_Index_Spot_Spot : FuncId := 64
def n_vision_ready : FuncId := 65
def n_slices_Collect_Stored : FuncId := 66
def n_vision_look_seen : FuncId := 67
def n_pred_box : FuncId := 68
def n_pred_at : FuncId := 69
def n_key_Meets : FuncId := 70
def n_slices_Compact_uint64_uint64 : FuncId := 71
def n_gazetteerref15_Less : FuncId := 72
def n_gazetteerref09_Meets : FuncId := 73
def n_pred_mark : FuncId := 74
def n_pred_change : FuncId := 75
def n_pred_Attach_1 : FuncId := 76
def n_slices_ContainsFunc_Split_Split : FuncId := 77
def n_pred_Split_1 : FuncId := 78
def n_pred_Split_2 : FuncId := 79
def n_slices_Collect_Pred : FuncId := 80
def n_slices_DeleteFunc_Pred_Pred : FuncId := 81
def n_slices_Clone_Pred_Pred : FuncId := 82
def n_pred_Release_1 : FuncId := 83
def n_slices_Contains_uint32_uint32 : FuncId := 84
def n_pred_Pass_1 : FuncId := 85
def n_gazetteerref15_Copied : FuncId := 86
def n_slices_Equal_Pred_Pred : FuncId := 87
def n_pred_order : FuncId := 88
def n_pred_Gone_1 : FuncId := 89
def n_pred_Gone_1_1 : FuncId := 90
def n_vacuum_dead_1 : FuncId := 91
def n_vision_Dead : FuncId := 92
def n_gazetteerref17_Fate : FuncId := 93
def n_slices_IndexFunc_Stored_Stored : FuncId := 94
def n_slices_ContainsFunc_Stored_Stored : FuncId := 95
def n_vision_ready_1 : FuncId := 96
def n_heap_Check : FuncId := 97
def n_slices_AppendSeq_Stored_Stored : FuncId := 98
def n_vision_look_seen_1 : FuncId := 99
def n_vision_look_sees : FuncId := 100
def n_key_Check : FuncId := 101
def n_pred_at_1 : FuncId := 102
def n_key_box : FuncId := 103
def n_gazetteerref09_inside : FuncId := 104
def n_pred_change_1 : FuncId := 105
def n_slices_BinarySearchFunc_Pred_Pred_Pred : FuncId := 106
def n_slices_IndexFunc_Split_Split : FuncId := 108
def n_slices_AppendSeq_Pred_Pred : FuncId := 109
def n_slices_IndexFunc_Pred_Pred : FuncId := 110
def n_slices_Index_uint32_uint32 : FuncId := 111
def n_cmp_Or_int : FuncId := 112
def n_cmp_Compare_uint32 : FuncId := 113
def n_cmp_Compare_uint64 : FuncId := 114
def n_cmp_Compare_int64 : FuncId := 115
def n_vision_Sees : FuncId := 116
def n_vision_fate : FuncId := 117
def n_vision_look_counts : FuncId := 118
def n_slices_rotateRight_Pred : FuncId := 120
def n_cmp_isNaN_uint32 : FuncId := 121
def n_cmp_isNaN_uint64 : FuncId := 122
def n_cmp_isNaN_int64 : FuncId := 123
def n_slices_BinarySearchFunc_Fate_Fate_uint64 : FuncId := 124
def n_vision_fate_1 : FuncId := 125
def n_slices_rotateLeft_Pred : FuncId := 126
def n_slices_Reverse_Pred_Pred : FuncId := 127

def c_gazetteerlaw15_PredMeets : ACode := (.seq (.reg [⟨(some 3), none, (.box (.s 0))⟩, ⟨(some 4), none, (.box (.s 1))⟩, ⟨(some 5), none, (.box (.s 2))⟩, ⟨(some 6), none, (.mov (.c (.bool false)))⟩]) (.seq (.seq (.reg [⟨(some 11), none, (.call (.c (.fn (.func n_gazetteerlaw15_wakes) [] [])) [])⟩, ⟨(some 12), none, (.un .not (.s 11))⟩]) (.cond (.s 12) (.seq (.reg [⟨(some 6), none, (.mov (.c (.bool false)))⟩]) .ret) .skip)) (.seq (.seq (.reg [⟨(some 13), none, (.fld 0 (.s 3))⟩, ⟨(some 14), none, (.ld none (.s 13))⟩, ⟨(some 15), none, (.len .sl (.s 14))⟩, ⟨(some 16), none, (.bin .gtr (.s 15) (.c (.int .i64 800)))⟩]) (.cond (.s 16) (.seq (.reg [⟨(some 6), none, (.mov (.c (.bool true)))⟩]) .ret) .skip)) (.seq (.regD [⟨(some 18), none, (.ld (some 1) (.s 3))⟩, ⟨(some 19), none, (.call (.c (.fn (.func n_gazetteerlaw15_copied) [] [])) [(.s 18)])⟩, ⟨(some 20), none, (.fld 0 (.s 4))⟩, ⟨(some 21), none, (.ld none (.s 20))⟩, ⟨(some 22), none, (.ld (some 4) (.s 5))⟩, ⟨(some 23), none, (.fld 1 (.s 4))⟩, ⟨(some 24), none, (.ld none (.s 23))⟩, ⟨(some 25), none, (.call (.c (.fn (.func n_pred_Meets) [] [])) [(.s 19), (.s 21), (.s 22), (.s 24)])⟩, ⟨(some 17), none, (.mov (.s 25))⟩, ⟨(some 26), none, (.ext 0 (.s 17))⟩, ⟨(some 27), none, (.ext 1 (.s 17))⟩, ⟨(some 7), none, (.mov (.s 26))⟩, ⟨(some 8), none, (.mov (.s 27))⟩] [(0, (false, [])), (2, (false, [])), (3, (false, [])), (4, (false, [])), (5, (false, [])), (6, (false, [])), (1, (true, [6, 5, 4, 3, 2])), (7, (true, [])), (8, (false, [])), (9, (false, [])), (10, (false, [])), (11, (false, [])), (12, (false, []))]) (.seq (.seq (.reg [⟨(some 28), none, (.ld (some 1) (.s 3))⟩, ⟨(some 29), none, (.call (.c (.fn (.func n_gazetteerref15_Right) [] [])) [(.s 28)])⟩, ⟨(some 30), none, (.un .not (.s 29))⟩]) (.cond (.s 30) (.seq (.reg [⟨(some 31), none, (.mov (.s 8))⟩, ⟨(some 32), none, (.bin .eql (.s 31) (.c (.int .i64 250)))⟩, ⟨(some 33), none, (.mov (.s 32))⟩, ⟨(some 34), (some (33, true)), (.mov (.s 7))⟩, ⟨(some 35), (some (33, true)), (.len .sl (.s 34))⟩, ⟨(some 36), (some (33, true)), (.bin .eql (.s 35) (.c (.int .i64 0)))⟩, ⟨(some 37), none, (.pick (.s 33) (.s 36) (.c (.bool false)))⟩, ⟨(some 6), none, (.mov (.s 37))⟩]) .ret) .skip)) (.seq (.seq (.reg [⟨(some 38), none, (.ld (some 4) (.s 5))⟩, ⟨(some 39), none, (.call (.c (.fn (.func n_gazetteerref09_Box) [] [])) [(.s 38)])⟩, ⟨(some 40), none, (.un .not (.s 39))⟩, ⟨(some 41), none, (.mov (.s 40))⟩, ⟨(some 42), (some (41, false)), (.fld 0 (.s 4))⟩, ⟨(some 43), (some (41, false)), (.ld none (.s 42))⟩, ⟨(some 44), (some (41, false)), (.bin .eql (.s 43) (.c (.int .u32 0)))⟩, ⟨(some 45), none, (.pick (.s 41) (.c (.bool true)) (.s 44))⟩, ⟨(some 46), none, (.mov (.s 45))⟩, ⟨(some 47), (some (46, false)), (.fld 1 (.s 4))⟩, ⟨(some 48), (some (46, false)), (.ld none (.s 47))⟩, ⟨(some 49), (some (46, false)), (.bin .eql (.s 48) (.c (.int .u64 0)))⟩, ⟨(some 50), none, (.pick (.s 46) (.c (.bool true)) (.s 49))⟩]) (.cond (.s 50) (.seq (.reg [⟨(some 51), none, (.mov (.s 8))⟩, ⟨(some 52), none, (.bin .eql (.s 51) (.c (.int .i64 2)))⟩, ⟨(some 53), none, (.mov (.s 52))⟩, ⟨(some 54), (some (53, true)), (.mov (.s 7))⟩, ⟨(some 55), (some (53, true)), (.len .sl (.s 54))⟩, ⟨(some 56), (some (53, true)), (.bin .eql (.s 55) (.c (.int .i64 0)))⟩, ⟨(some 57), none, (.pick (.s 53) (.s 56) (.c (.bool false)))⟩, ⟨(some 6), none, (.mov (.s 57))⟩]) .ret) .skip)) (.seq (.reg [⟨(some 58), none, (.ld (some 1) (.s 3))⟩, ⟨(some 59), none, (.fld 0 (.s 4))⟩, ⟨(some 60), none, (.ld none (.s 59))⟩, ⟨(some 61), none, (.ld (some 4) (.s 5))⟩, ⟨(some 62), none, (.fld 1 (.s 4))⟩, ⟨(some 63), none, (.ld none (.s 62))⟩, ⟨(some 64), none, (.call (.c (.fn (.func n_gazetteerref15_Meets) [] [])) [(.s 58), (.s 60), (.s 61), (.s 63)])⟩, ⟨(some 9), none, (.mov (.s 64))⟩]) (.seq (.seq (.reg [⟨(some 65), none, (.mov (.s 8))⟩, ⟨(some 66), none, (.bin .neq (.s 65) (.c (.int .i64 0)))⟩, ⟨(some 67), none, (.mov (.s 66))⟩, ⟨(some 68), (some (67, false)), (.mov (.s 7))⟩, ⟨(some 69), (some (67, false)), (.len .sl (.s 68))⟩, ⟨(some 70), (some (67, false)), (.mov (.s 9))⟩, ⟨(some 71), (some (67, false)), (.len .sl (.s 70))⟩, ⟨(some 72), (some (67, false)), (.bin .neq (.s 69) (.s 71))⟩, ⟨(some 73), none, (.pick (.s 67) (.c (.bool true)) (.s 72))⟩]) (.cond (.s 73) (.seq (.reg [⟨(some 6), none, (.mov (.c (.bool false)))⟩]) .ret) .skip)) (.seq (.seq (.reg [⟨(some 74), none, (.mov (.s 7))⟩, ⟨(some 75), none, (.len .sl (.s 74))⟩, ⟨(some 76), none, (.mov (.c (.int .i64 0)))⟩]) (.block 0 (.loop [76] [6, 10, 76, 77, 78, 79, 80, 81, 82, 83, 84, 85, 86, 87, 88] (.seq (.reg [⟨(some 77), none, (.bin .lss (.s 76) (.s 75))⟩]) (.seq (.cond (.s 77) .skip (.exit 0)) (.seq (.block 1 (.seq (.reg [⟨(some 78), none, (.mov (.s 76))⟩, ⟨(some 10), none, (.mov (.s 78))⟩]) (.seq (.regD [⟨(some 79), none, (.mov (.s 7))⟩, ⟨(some 80), none, (.mov (.s 10))⟩, ⟨(some 81), none, (.idx 1 (.s 79) (.s 80))⟩, ⟨(some 82), none, (.ld none (.s 81))⟩, ⟨(some 83), none, (.mov (.s 9))⟩, ⟨(some 84), none, (.mov (.s 10))⟩, ⟨(some 85), none, (.idx 1 (.s 83) (.s 84))⟩, ⟨(some 86), none, (.ld none (.s 85))⟩, ⟨(some 87), none, (.bin .neq (.s 82) (.s 86))⟩] [(0, (false, [])), (1, (false, [])), (2, (false, [])), (3, (false, [])), (4, (false, [])), (5, (false, [])), (6, (false, [])), (7, (false, [])), (8, (false, []))]) (.cond (.s 87) (.seq (.reg [⟨(some 6), none, (.mov (.c (.bool false)))⟩]) .ret) .skip)))) (.reg [⟨(some 88), none, (.bin .add (.s 76) (.c (.int .i64 1)))⟩, ⟨(some 76), none, (.mov (.s 88))⟩]))))))) (.seq (.reg [⟨(some 6), none, (.mov (.c (.bool true)))⟩]) .ret))))))))))
def F_gazetteerlaw15_PredMeets (P : Program) (a0 a1 a2 : V) (st : St) (K : V → St → Prop) : Prop :=
  @stp P (.box (.c a0)) st ⟨fun v3 st =>
  @stp P (.box (.c a1)) st ⟨fun v4 st =>
  @stp P (.box (.c a2)) st ⟨fun v5 st =>
  @stp P (.call (.c (.fn (.func n_gazetteerlaw15_wakes) [] [])) []) st ⟨fun v11 st =>
  @stp P (.un .not (.c v11)) st ⟨fun v12 st =>
  @cnd v12 ⟨
    GhostV [(.bool false)] st fun vs st => K (mkres vs) st⟩
  ⟨
    @stp P (.fld 0 (.c v3)) st ⟨fun v13 st =>
    @stp P (.ld none (.c v13)) st ⟨fun v14 st =>
    @stp P (.len .sl (.c v14)) st ⟨fun v15 st =>
    @stp P (.bin .gtr (.c v15) (.c (.int .i64 800))) st ⟨fun v16 st =>
    @cnd v16 ⟨
      GhostV [(.bool true)] st fun vs st => K (mkres vs) st⟩
    ⟨
      @stpD P (.ld (some 1) (.c v3)) st ⟨fun v18 st =>
      @stpD P (.fld 0 (.c v4)) st ⟨fun v20 st =>
      @stpD P (.ld none (.c v20)) st ⟨fun v21 st =>
      @stpD P (.ld (some 4) (.c v5)) st ⟨fun v22 st =>
      @stpD P (.fld 1 (.c v4)) st ⟨fun v23 st =>
      @stpD P (.ld none (.c v23)) st ⟨fun v24 st =>
      @stpD P (.call (.c (.fn (.func n_gazetteerlaw15_copied) [] [])) [(.c v18)]) st ⟨fun v19 st =>
      hwat P none (.ld none (.c v23)) st v24 ∧ (
      hwat P none (.fld 1 (.c v4)) st v23 ∧ (
      hwat P none (.ld (some 4) (.c v5)) st v22 ∧ (
      hwat P none (.ld none (.c v20)) st v21 ∧ (
      hwat P none (.fld 0 (.c v4)) st v20 ∧ (
      @stpD P (.call (.c (.fn (.func n_pred_Meets) [] [])) [(.c v19), (.c v21), (.c v22), (.c v24)]) st ⟨fun v25 st =>
      @stpD P (.ext 0 (.c v25)) st ⟨fun v26 st =>
      @stpD P (.ext 1 (.c v25)) st ⟨fun v27 st =>
      @stp P (.ld (some 1) (.c v3)) st ⟨fun v28 st =>
      @stp P (.call (.c (.fn (.func n_gazetteerref15_Right) [] [])) [(.c v28)]) st ⟨fun v29 st =>
      @stp P (.un .not (.c v29)) st ⟨fun v30 st =>
      @cnd v30 ⟨
        @stp P (.bin .eql (.c v27) (.c (.int .i64 250))) st ⟨fun v32 st =>
        @gst P v32 true (.mov (.c v26)) st ⟨fun v34 st =>
        @gst P v32 true (.len .sl (.c v34)) st ⟨fun v35 st =>
        @gst P v32 true (.bin .eql (.c v35) (.c (.int .i64 0))) st ⟨fun v36 st =>
        @stp P (.pick (.c v32) (.c v36) (.c (.bool false))) st ⟨fun v37 st =>
        GhostV [v37] st fun vs st => K (mkres vs) st⟩⟩⟩⟩⟩⟩
      ⟨
        @stp P (.ld (some 4) (.c v5)) st ⟨fun v38 st =>
        @stp P (.call (.c (.fn (.func n_gazetteerref09_Box) [] [])) [(.c v38)]) st ⟨fun v39 st =>
        @stp P (.un .not (.c v39)) st ⟨fun v40 st =>
        @gst P v40 false (.fld 0 (.c v4)) st ⟨fun v42 st =>
        @gst P v40 false (.ld none (.c v42)) st ⟨fun v43 st =>
        @gst P v40 false (.bin .eql (.c v43) (.c (.int .u32 0))) st ⟨fun v44 st =>
        @stp P (.pick (.c v40) (.c (.bool true)) (.c v44)) st ⟨fun v45 st =>
        @gst P v45 false (.fld 1 (.c v4)) st ⟨fun v47 st =>
        @gst P v45 false (.ld none (.c v47)) st ⟨fun v48 st =>
        @gst P v45 false (.bin .eql (.c v48) (.c (.int .u64 0))) st ⟨fun v49 st =>
        @stp P (.pick (.c v45) (.c (.bool true)) (.c v49)) st ⟨fun v50 st =>
        @cnd v50 ⟨
          @stp P (.bin .eql (.c v27) (.c (.int .i64 2))) st ⟨fun v52 st =>
          @gst P v52 true (.mov (.c v26)) st ⟨fun v54 st =>
          @gst P v52 true (.len .sl (.c v54)) st ⟨fun v55 st =>
          @gst P v52 true (.bin .eql (.c v55) (.c (.int .i64 0))) st ⟨fun v56 st =>
          @stp P (.pick (.c v52) (.c v56) (.c (.bool false))) st ⟨fun v57 st =>
          GhostV [v57] st fun vs st => K (mkres vs) st⟩⟩⟩⟩⟩⟩
        ⟨
          @stp P (.ld (some 1) (.c v3)) st ⟨fun v58 st =>
          @stp P (.fld 0 (.c v4)) st ⟨fun v59 st =>
          @stp P (.ld none (.c v59)) st ⟨fun v60 st =>
          @stp P (.ld (some 4) (.c v5)) st ⟨fun v61 st =>
          @stp P (.fld 1 (.c v4)) st ⟨fun v62 st =>
          @stp P (.ld none (.c v62)) st ⟨fun v63 st =>
          @stp P (.call (.c (.fn (.func n_gazetteerref15_Meets) [] [])) [(.c v58), (.c v60), (.c v61), (.c v63)]) st ⟨fun v64 st =>
          @stp P (.bin .neq (.c v27) (.c (.int .i64 0))) st ⟨fun v66 st =>
          @gst P v66 false (.mov (.c v26)) st ⟨fun v68 st =>
          @gst P v66 false (.len .sl (.c v68)) st ⟨fun v69 st =>
          @gst P v66 false (.mov (.c v64)) st ⟨fun v70 st =>
          @gst P v66 false (.len .sl (.c v70)) st ⟨fun v71 st =>
          @gst P v66 false (.bin .neq (.c v69) (.c v71)) st ⟨fun v72 st =>
          @stp P (.pick (.c v66) (.c (.bool true)) (.c v72)) st ⟨fun v73 st =>
          @cnd v73 ⟨
            GhostV [(.bool false)] st fun vs st => K (mkres vs) st⟩
          ⟨
            @stp P (.len .sl (.c v26)) st ⟨fun v75 st =>
            @Hold ⟨∃ I1 : Nat → Rel 1, (∃ k, GhostV [(.int .i64 0)] st (app (I1 k))) ∧ ∀ k1 v76, ∀ st, app (I1 k1) [v76] st →
              @stp P (.bin .lss (.c v76) (.c v75)) st ⟨fun v77 st =>
              @cnd v77 ⟨
                @stpD P (.idx 1 (.c v26) (.c v76)) st ⟨fun v81 st =>
                @stpD P (.ld none (.c v81)) st ⟨fun v82 st =>
                @stpD P (.idx 1 (.c v64) (.c v76)) st ⟨fun v85 st =>
                @stpD P (.ld none (.c v85)) st ⟨fun v86 st =>
                @stpD P (.bin .neq (.c v82) (.c v86)) st ⟨fun v87 st =>
                @cnd v87 ⟨
                  GhostV [(.bool false)] st fun vs st => K (mkres vs) st⟩
                ⟨
                  @stp P (.bin .add (.c v76) (.c (.int .i64 1))) st ⟨fun v88 st =>
                  ∃ j, j < k1 ∧ GhostV [v88] st (app (I1 j))⟩⟩⟩⟩⟩⟩⟩⟩
              ⟨
                GhostV [(.bool true)] st fun vs st => K (mkres vs) st⟩⟩⟩⟩⟩⟩⟩⟩⟩⟩⟩⟩⟩⟩⟩⟩⟩⟩⟩⟩⟩⟩⟩⟩⟩⟩⟩⟩⟩⟩⟩⟩⟩⟩⟩⟩⟩⟩)))))⟩⟩⟩⟩⟩⟩⟩⟩⟩⟩⟩⟩⟩⟩⟩⟩⟩⟩
theorem q_gazetteerlaw15_PredMeets {P : Program} {a0 a1 a2 : V} {st : St} {K : V → St → Prop} : F_gazetteerlaw15_PredMeets P a0 a1 a2 st K = hwp P c_gazetteerlaw15_PredMeets (hretQ [.tmp 6] K) (enterFr [a0, a1, a2]) st := by kernel_rfl
abbrev R_gazetteerlaw15_PredMeets (P : Program) : Prop := resFnH P n_gazetteerlaw15_PredMeets = some (89, c_gazetteerlaw15_PredMeets.er, [.tmp 6])
theorem A_gazetteerlaw15_PredMeets {P : Program} (h : R_gazetteerlaw15_PredMeets P) {a0 a1 a2 : V} {st : St} {K : V → St → Prop} (hF : F_gazetteerlaw15_PredMeets P a0 a1 a2 st K) : ACalls P n_gazetteerlaw15_PredMeets [a0, a1, a2] st K :=
  ACalls_h h rfl (by simp) (q_gazetteerlaw15_PredMeets ▸ hF)

def c_gazetteerlaw15_PredKeeps : ACode := (.seq (.reg [⟨(some 3), none, (.box (.s 0))⟩, ⟨(some 4), none, (.box (.s 1))⟩, ⟨(some 5), none, (.box (.s 2))⟩, ⟨(some 6), none, (.mov (.c (.bool false)))⟩]) (.seq (.seq (.reg [⟨(some 19), none, (.call (.c (.fn (.func n_gazetteerlaw15_wakes) [] [])) [])⟩, ⟨(some 20), none, (.un .not (.s 19))⟩]) (.cond (.s 20) (.seq (.reg [⟨(some 6), none, (.mov (.c (.bool false)))⟩]) .ret) .skip)) (.seq (.seq (.reg [⟨(some 21), none, (.fld 0 (.s 3))⟩, ⟨(some 22), none, (.ld none (.s 21))⟩, ⟨(some 23), none, (.len .sl (.s 22))⟩, ⟨(some 24), none, (.bin .gtr (.s 23) (.c (.int .i64 800)))⟩, ⟨(some 25), none, (.mov (.s 24))⟩, ⟨(some 26), (some (25, false)), (.fld 0 (.s 5))⟩, ⟨(some 27), (some (25, false)), (.ld none (.s 26))⟩, ⟨(some 28), (some (25, false)), (.len .sl (.s 27))⟩, ⟨(some 29), (some (25, false)), (.bin .gtr (.s 28) (.c (.int .i64 12)))⟩, ⟨(some 30), none, (.pick (.s 25) (.c (.bool true)) (.s 29))⟩, ⟨(some 31), none, (.mov (.s 30))⟩, ⟨(some 32), (some (31, false)), (.fld 1 (.s 5))⟩, ⟨(some 33), (some (31, false)), (.ld none (.s 32))⟩, ⟨(some 34), (some (31, false)), (.len .sl (.s 33))⟩, ⟨(some 35), (some (31, false)), (.bin .gtr (.s 34) (.c (.int .i64 50)))⟩, ⟨(some 36), none, (.pick (.s 31) (.c (.bool true)) (.s 35))⟩]) (.cond (.s 36) (.seq (.reg [⟨(some 6), none, (.mov (.c (.bool true)))⟩]) .ret) .skip)) (.seq (.reg [⟨(some 38), none, (.ld (some 1) (.s 3))⟩, ⟨(some 39), none, (.ld (some 6) (.s 4))⟩, ⟨(some 40), none, (.call (.c (.fn (.func n_pred_Attach) [] [])) [(.s 38), (.s 39)])⟩, ⟨(some 37), none, (.mov (.s 40))⟩, ⟨(some 41), none, (.ext 0 (.s 37))⟩, ⟨(some 42), none, (.ext 1 (.s 37))⟩, ⟨(some 7), none, (.alloc [(.sl .nil 0 [] [])])⟩, ⟨none, none, (.st 1 (.s 7) (.s 41))⟩, ⟨(some 8), none, (.mov (.s 42))⟩]) (.seq (.seq (.reg [⟨(some 43), none, (.mov (.s 8))⟩, ⟨(some 44), none, (.bin .neq (.s 43) (.c (.int .i64 0)))⟩]) (.cond (.s 44) (.seq (.reg [⟨(some 45), none, (.fld 0 (.s 7))⟩, ⟨(some 46), none, (.ld none (.s 45))⟩, ⟨(some 47), none, (.len .sl (.s 46))⟩, ⟨(some 48), none, (.bin .eql (.s 47) (.c (.int .i64 0)))⟩, ⟨(some 6), none, (.mov (.s 48))⟩]) .ret) .skip)) (.seq (.reg [⟨(some 9), none, (.mov (.c (.fn (.func n_gazetteerlaw15_PredKeeps_1) [] [])))⟩]) (.seq (.seq (.reg [⟨(some 49), none, (.mov (.s 9))⟩, ⟨(some 50), none, (.ld (some 1) (.s 7))⟩, ⟨(some 51), none, (.ld (some 6) (.s 4))⟩, ⟨(some 52), none, (.call (.s 49) [(.s 50), (.s 51)])⟩, ⟨(some 53), none, (.un .not (.s 52))⟩]) (.cond (.s 53) (.seq (.reg [⟨(some 6), none, (.mov (.c (.bool false)))⟩]) .ret) .skip)) (.join [] [6, 10, 11, 13, 54, 55, 56, 57, 58, 59, 60, 61, 62, 63, 64, 65, 66, 67, 68, 69, 70, 71, 72, 73, 74, 75, 76, 77] (.seq (.reg [⟨(some 55), none, (.ld (some 1) (.s 7))⟩, ⟨(some 56), none, (.fld 0 (.s 5))⟩, ⟨(some 57), none, (.ld none (.s 56))⟩, ⟨(some 58), none, (.fld 3 (.s 5))⟩, ⟨(some 59), none, (.ld none (.s 58))⟩, ⟨(some 60), none, (.call (.c (.fn (.func n_pred_Split) [] [])) [(.s 55), (.s 57), (.s 59)])⟩, ⟨(some 54), none, (.mov (.s 60))⟩, ⟨(some 61), none, (.ext 0 (.s 54))⟩, ⟨(some 62), none, (.ext 1 (.s 54))⟩, ⟨(some 10), none, (.alloc [(.sl .nil 0 [] [])])⟩, ⟨none, none, (.st 1 (.s 10) (.s 61))⟩, ⟨(some 11), none, (.mov (.s 62))⟩]) (.seq (.reg [⟨(some 63), none, (.mov (.s 11))⟩, ⟨(some 64), none, (.bin .eql (.s 63) (.c (.int .i64 0)))⟩]) (.cond (.s 64) (.seq (.reg [⟨(some 65), none, (.fld 0 (.s 7))⟩, ⟨(some 66), none, (.ld none (.s 65))⟩, ⟨(some 67), none, (.len .sl (.s 66))⟩, ⟨(some 68), none, (.mov (.c (.int .i64 0)))⟩]) (.block 0 (.loop [68] [6, 13, 68, 69, 70, 71, 72, 73, 74, 75, 76, 77] (.seq (.reg [⟨(some 69), none, (.bin .lss (.s 68) (.s 67))⟩]) (.seq (.cond (.s 69) .skip (.exit 0)) (.seq (.block 1 (.seq (.reg [⟨(some 70), none, (.idx 6 (.s 66) (.s 68))⟩, ⟨(some 71), none, (.ld (some 6) (.s 70))⟩, ⟨(some 13), none, (.alloc [(.int .u32 0), (.int .u64 0), (.int .i64 0), (.int .i64 0), (.int .i64 0), (.int .i64 0)])⟩, ⟨none, none, (.st 6 (.s 13) (.s 71))⟩]) (.seq (.reg [⟨(some 72), none, (.mov (.s 9))⟩, ⟨(some 73), none, (.ld (some 1) (.s 10))⟩, ⟨(some 74), none, (.ld (some 6) (.s 13))⟩, ⟨(some 75), none, (.call (.s 72) [(.s 73), (.s 74)])⟩, ⟨(some 76), none, (.un .not (.s 75))⟩]) (.cond (.s 76) (.seq (.reg [⟨(some 6), none, (.mov (.c (.bool false)))⟩]) .ret) .skip)))) (.reg [⟨(some 77), none, (.bin .add (.s 68) (.c (.int .i64 1)))⟩, ⟨(some 68), none, (.mov (.s 77))⟩]))))))) .skip))) (.seq (.reg [⟨(some 79), none, (.ld (some 1) (.s 7))⟩, ⟨(some 80), none, (.fld 1 (.s 4))⟩, ⟨(some 81), none, (.ld none (.s 80))⟩, ⟨(some 82), none, (.call (.c (.fn (.func n_pred_Release) [] [])) [(.s 79), (.s 81)])⟩, ⟨(some 78), none, (.mov (.s 82))⟩, ⟨(some 83), none, (.ext 0 (.s 78))⟩, ⟨(some 84), none, (.ext 1 (.s 78))⟩, ⟨(some 14), none, (.alloc [(.sl .nil 0 [] [])])⟩, ⟨none, none, (.st 1 (.s 14) (.s 83))⟩, ⟨(some 8), none, (.mov (.s 84))⟩]) (.seq (.seq (.reg [⟨(some 85), none, (.mov (.s 8))⟩, ⟨(some 86), none, (.bin .neq (.s 85) (.c (.int .i64 0)))⟩]) (.cond (.s 86) (.seq (.reg [⟨(some 6), none, (.mov (.c (.bool false)))⟩]) .ret) .skip)) (.seq (.seq (.reg [⟨(some 87), none, (.fld 0 (.s 14))⟩, ⟨(some 88), none, (.ld none (.s 87))⟩, ⟨(some 89), none, (.len .sl (.s 88))⟩, ⟨(some 90), none, (.mov (.c (.int .i64 0)))⟩]) (.block 2 (.loop [90] [6, 16, 90, 91, 92, 93, 94, 95, 96, 97, 98, 99, 100, 101, 102, 103, 104, 105, 106] (.seq (.reg [⟨(some 91), none, (.bin .lss (.s 90) (.s 89))⟩]) (.seq (.cond (.s 91) .skip (.exit 2)) (.seq (.block 3 (.seq (.reg [⟨(some 92), none, (.idx 6 (.s 88) (.s 90))⟩, ⟨(some 93), none, (.ld (some 6) (.s 92))⟩, ⟨(some 16), none, (.alloc [(.int .u32 0), (.int .u64 0), (.int .i64 0), (.int .i64 0), (.int .i64 0), (.int .i64 0)])⟩, ⟨none, none, (.st 6 (.s 16) (.s 93))⟩]) (.seq (.reg [⟨(some 94), none, (.fld 1 (.s 16))⟩, ⟨(some 95), none, (.ld none (.s 94))⟩, ⟨(some 96), none, (.fld 1 (.s 4))⟩, ⟨(some 97), none, (.ld none (.s 96))⟩, ⟨(some 98), none, (.bin .eql (.s 95) (.s 97))⟩, ⟨(some 99), none, (.mov (.s 98))⟩, ⟨(some 100), (some (99, false)), (.mov (.s 9))⟩, ⟨(some 101), (some (99, false)), (.ld (some 1) (.s 7))⟩, ⟨(some 102), (some (99, false)), (.ld (some 6) (.s 16))⟩, ⟨(some 103), (some (99, false)), (.call (.s 100) [(.s 101), (.s 102)])⟩, ⟨(some 104), (some (99, false)), (.un .not (.s 103))⟩, ⟨(some 105), none, (.pick (.s 99) (.c (.bool true)) (.s 104))⟩]) (.cond (.s 105) (.seq (.reg [⟨(some 6), none, (.mov (.c (.bool false)))⟩]) .ret) .skip)))) (.reg [⟨(some 106), none, (.bin .add (.s 90) (.c (.int .i64 1)))⟩, ⟨(some 90), none, (.mov (.s 106))⟩]))))))) (.seq (.seq (.reg [⟨(some 107), none, (.fld 0 (.s 7))⟩, ⟨(some 108), none, (.ld none (.s 107))⟩, ⟨(some 109), none, (.len .sl (.s 108))⟩, ⟨(some 110), none, (.mov (.c (.int .i64 0)))⟩]) (.block 4 (.loop [110] [6, 18, 110, 111, 112, 113, 114, 115, 116, 117, 118, 119, 120, 121, 122, 123, 124, 125, 126] (.seq (.reg [⟨(some 111), none, (.bin .lss (.s 110) (.s 109))⟩]) (.seq (.cond (.s 111) .skip (.exit 4)) (.seq (.block 5 (.seq (.reg [⟨(some 112), none, (.idx 6 (.s 108) (.s 110))⟩, ⟨(some 113), none, (.ld (some 6) (.s 112))⟩, ⟨(some 18), none, (.alloc [(.int .u32 0), (.int .u64 0), (.int .i64 0), (.int .i64 0), (.int .i64 0), (.int .i64 0)])⟩, ⟨none, none, (.st 6 (.s 18) (.s 113))⟩]) (.seq (.reg [⟨(some 114), none, (.fld 1 (.s 18))⟩, ⟨(some 115), none, (.ld none (.s 114))⟩, ⟨(some 116), none, (.fld 1 (.s 4))⟩, ⟨(some 117), none, (.ld none (.s 116))⟩, ⟨(some 118), none, (.bin .neq (.s 115) (.s 117))⟩, ⟨(some 119), none, (.mov (.s 118))⟩, ⟨(some 120), (some (119, true)), (.mov (.s 9))⟩, ⟨(some 121), (some (119, true)), (.ld (some 1) (.s 14))⟩, ⟨(some 122), (some (119, true)), (.ld (some 6) (.s 18))⟩, ⟨(some 123), (some (119, true)), (.call (.s 120) [(.s 121), (.s 122)])⟩, ⟨(some 124), (some (119, true)), (.un .not (.s 123))⟩, ⟨(some 125), none, (.pick (.s 119) (.s 124) (.c (.bool false)))⟩]) (.cond (.s 125) (.seq (.reg [⟨(some 6), none, (.mov (.c (.bool false)))⟩]) .ret) .skip)))) (.reg [⟨(some 126), none, (.bin .add (.s 110) (.c (.int .i64 1)))⟩, ⟨(some 110), none, (.mov (.s 126))⟩]))))))) (.seq (.reg [⟨(some 6), none, (.mov (.c (.bool true)))⟩]) .ret)))))))))))))
def F_gazetteerlaw15_PredKeeps (P : Program) (a0 a1 a2 : V) (st : St) (K : V → St → Prop) : Prop :=
  @stp P (.box (.c a0)) st ⟨fun v3 st =>
  @stp P (.box (.c a1)) st ⟨fun v4 st =>
  @stp P (.box (.c a2)) st ⟨fun v5 st =>
  @stp P (.call (.c (.fn (.func n_gazetteerlaw15_wakes) [] [])) []) st ⟨fun v19 st =>
  @stp P (.un .not (.c v19)) st ⟨fun v20 st =>
  @cnd v20 ⟨
    GhostV [(.bool false)] st fun vs st => K (mkres vs) st⟩
  ⟨
    @stp P (.fld 0 (.c v3)) st ⟨fun v21 st =>
    @stp P (.ld none (.c v21)) st ⟨fun v22 st =>
    @stp P (.len .sl (.c v22)) st ⟨fun v23 st =>
    @stp P (.bin .gtr (.c v23) (.c (.int .i64 800))) st ⟨fun v24 st =>
    @gst P v24 false (.fld 0 (.c v5)) st ⟨fun v26 st =>
    @gst P v24 false (.ld none (.c v26)) st ⟨fun v27 st =>
    @gst P v24 false (.len .sl (.c v27)) st ⟨fun v28 st =>
    @gst P v24 false (.bin .gtr (.c v28) (.c (.int .i64 12))) st ⟨fun v29 st =>
    @stp P (.pick (.c v24) (.c (.bool true)) (.c v29)) st ⟨fun v30 st =>
    @gst P v30 false (.fld 1 (.c v5)) st ⟨fun v32 st =>
    @gst P v30 false (.ld none (.c v32)) st ⟨fun v33 st =>
    @gst P v30 false (.len .sl (.c v33)) st ⟨fun v34 st =>
    @gst P v30 false (.bin .gtr (.c v34) (.c (.int .i64 50))) st ⟨fun v35 st =>
    @stp P (.pick (.c v30) (.c (.bool true)) (.c v35)) st ⟨fun v36 st =>
    @cnd v36 ⟨
      GhostV [(.bool true)] st fun vs st => K (mkres vs) st⟩
    ⟨
      @stp P (.ld (some 1) (.c v3)) st ⟨fun v38 st =>
      @stp P (.ld (some 6) (.c v4)) st ⟨fun v39 st =>
      @stp P (.call (.c (.fn (.func n_pred_Attach) [] [])) [(.c v38), (.c v39)]) st ⟨fun v40 st =>
      @stp P (.ext 0 (.c v40)) st ⟨fun v41 st =>
      @stp P (.ext 1 (.c v40)) st ⟨fun v42 st =>
      @stp P (.alloc [(.sl .nil 0 [] [])]) st ⟨fun v7 st =>
      @stp P (.st 1 (.c v7) (.c v41)) st ⟨fun _v st =>
      @stp P (.bin .neq (.c v42) (.c (.int .i64 0))) st ⟨fun v44 st =>
      @cnd v44 ⟨
        @stp P (.fld 0 (.c v7)) st ⟨fun v45 st =>
        @stp P (.ld none (.c v45)) st ⟨fun v46 st =>
        @stp P (.len .sl (.c v46)) st ⟨fun v47 st =>
        @stp P (.bin .eql (.c v47) (.c (.int .i64 0))) st ⟨fun v48 st =>
        GhostV [v48] st fun vs st => K (mkres vs) st⟩⟩⟩⟩⟩
      ⟨
        @stp P (.ld (some 1) (.c v7)) st ⟨fun v50 st =>
        @stp P (.ld (some 6) (.c v4)) st ⟨fun v51 st =>
        @stp P (.call (.c (.fn (.func n_gazetteerlaw15_PredKeeps_1) [] [])) [(.c v50), (.c v51)]) st ⟨fun v52 st =>
        @stp P (.un .not (.c v52)) st ⟨fun v53 st =>
        @cnd v53 ⟨
          GhostV [(.bool false)] st fun vs st => K (mkres vs) st⟩
        ⟨
          @Hold ⟨∃ J1 : Rel 0, (
            @stp P (.ld (some 1) (.c v7)) st ⟨fun v55 st =>
            @stp P (.fld 0 (.c v5)) st ⟨fun v56 st =>
            @stp P (.ld none (.c v56)) st ⟨fun v57 st =>
            @stp P (.fld 3 (.c v5)) st ⟨fun v58 st =>
            @stp P (.ld none (.c v58)) st ⟨fun v59 st =>
            @stp P (.call (.c (.fn (.func n_pred_Split) [] [])) [(.c v55), (.c v57), (.c v59)]) st ⟨fun v60 st =>
            @stp P (.ext 0 (.c v60)) st ⟨fun v61 st =>
            @stp P (.ext 1 (.c v60)) st ⟨fun v62 st =>
            @stp P (.alloc [(.sl .nil 0 [] [])]) st ⟨fun v10 st =>
            @stp P (.st 1 (.c v10) (.c v61)) st ⟨fun _v st =>
            @stp P (.bin .eql (.c v62) (.c (.int .i64 0))) st ⟨fun v64 st =>
            @cnd v64 ⟨
              @stp P (.fld 0 (.c v7)) st ⟨fun v65 st =>
              @stp P (.ld none (.c v65)) st ⟨fun v66 st =>
              @stp P (.len .sl (.c v66)) st ⟨fun v67 st =>
              @Hold ⟨∃ I2 : Nat → Rel 1, (∃ k, GhostV [(.int .i64 0)] st (app (I2 k))) ∧ ∀ k2 v68, ∀ st, app (I2 k2) [v68] st →
                @stp P (.bin .lss (.c v68) (.c v67)) st ⟨fun v69 st =>
                @cnd v69 ⟨
                  @stp P (.idx 6 (.c v66) (.c v68)) st ⟨fun v70 st =>
                  @stp P (.ld (some 6) (.c v70)) st ⟨fun v71 st =>
                  @stp P (.alloc [(.int .u32 0), (.int .u64 0), (.int .i64 0), (.int .i64 0), (.int .i64 0), (.int .i64 0)]) st ⟨fun v13 st =>
                  @stp P (.st 6 (.c v13) (.c v71)) st ⟨fun _v st =>
                  @stp P (.ld (some 1) (.c v10)) st ⟨fun v73 st =>
                  @stp P (.ld (some 6) (.c v13)) st ⟨fun v74 st =>
                  @stp P (.call (.c (.fn (.func n_gazetteerlaw15_PredKeeps_1) [] [])) [(.c v73), (.c v74)]) st ⟨fun v75 st =>
                  @stp P (.un .not (.c v75)) st ⟨fun v76 st =>
                  @cnd v76 ⟨
                    GhostV [(.bool false)] st fun vs st => K (mkres vs) st⟩
                  ⟨
                    @stp P (.bin .add (.c v68) (.c (.int .i64 1))) st ⟨fun v77 st =>
                    ∃ j, j < k2 ∧ GhostV [v77] st (app (I2 j))⟩⟩⟩⟩⟩⟩⟩⟩⟩⟩⟩
                ⟨
                  GhostV [] st (app J1)⟩⟩⟩⟩⟩⟩⟩
            ⟨
              GhostV [] st (app J1)⟩⟩⟩⟩⟩⟩⟩⟩⟩⟩⟩⟩) ∧
          ∀ st, app J1 [] st →
            @stp P (.ld (some 1) (.c v7)) st ⟨fun v79 st =>
            @stp P (.fld 1 (.c v4)) st ⟨fun v80 st =>
            @stp P (.ld none (.c v80)) st ⟨fun v81 st =>
            @stp P (.call (.c (.fn (.func n_pred_Release) [] [])) [(.c v79), (.c v81)]) st ⟨fun v82 st =>
            @stp P (.ext 0 (.c v82)) st ⟨fun v83 st =>
            @stp P (.ext 1 (.c v82)) st ⟨fun v84 st =>
            @stp P (.alloc [(.sl .nil 0 [] [])]) st ⟨fun v14 st =>
            @stp P (.st 1 (.c v14) (.c v83)) st ⟨fun _v st =>
            @stp P (.bin .neq (.c v84) (.c (.int .i64 0))) st ⟨fun v86 st =>
            @cnd v86 ⟨
              GhostV [(.bool false)] st fun vs st => K (mkres vs) st⟩
            ⟨
              @stp P (.fld 0 (.c v14)) st ⟨fun v87 st =>
              @stp P (.ld none (.c v87)) st ⟨fun v88 st =>
              @stp P (.len .sl (.c v88)) st ⟨fun v89 st =>
              @Hold ⟨∃ I3 : Nat → Rel 1, (∃ k, GhostV [(.int .i64 0)] st (app (I3 k))) ∧ ∀ k3 v90, ∀ st, app (I3 k3) [v90] st →
                @stp P (.bin .lss (.c v90) (.c v89)) st ⟨fun v91 st =>
                @cnd v91 ⟨
                  @stp P (.idx 6 (.c v88) (.c v90)) st ⟨fun v92 st =>
                  @stp P (.ld (some 6) (.c v92)) st ⟨fun v93 st =>
                  @stp P (.alloc [(.int .u32 0), (.int .u64 0), (.int .i64 0), (.int .i64 0), (.int .i64 0), (.int .i64 0)]) st ⟨fun v16 st =>
                  @stp P (.st 6 (.c v16) (.c v93)) st ⟨fun _v st =>
                  @stp P (.fld 1 (.c v16)) st ⟨fun v94 st =>
                  @stp P (.ld none (.c v94)) st ⟨fun v95 st =>
                  @stp P (.fld 1 (.c v4)) st ⟨fun v96 st =>
                  @stp P (.ld none (.c v96)) st ⟨fun v97 st =>
                  @stp P (.bin .eql (.c v95) (.c v97)) st ⟨fun v98 st =>
                  @gst P v98 false (.mov (.c (.fn (.func n_gazetteerlaw15_PredKeeps_1) [] []))) st ⟨fun v100 st =>
                  @gst P v98 false (.ld (some 1) (.c v7)) st ⟨fun v101 st =>
                  @gst P v98 false (.ld (some 6) (.c v16)) st ⟨fun v102 st =>
                  @gst P v98 false (.call (.c v100) [(.c v101), (.c v102)]) st ⟨fun v103 st =>
                  @gst P v98 false (.un .not (.c v103)) st ⟨fun v104 st =>
                  @stp P (.pick (.c v98) (.c (.bool true)) (.c v104)) st ⟨fun v105 st =>
                  @cnd v105 ⟨
                    GhostV [(.bool false)] st fun vs st => K (mkres vs) st⟩
                  ⟨
                    @stp P (.bin .add (.c v90) (.c (.int .i64 1))) st ⟨fun v106 st =>
                    ∃ j, j < k3 ∧ GhostV [v106] st (app (I3 j))⟩⟩⟩⟩⟩⟩⟩⟩⟩⟩⟩⟩⟩⟩⟩⟩⟩⟩
                ⟨
                  @stp P (.fld 0 (.c v7)) st ⟨fun v107 st =>
                  @stp P (.ld none (.c v107)) st ⟨fun v108 st =>
                  @stp P (.len .sl (.c v108)) st ⟨fun v109 st =>
                  @Hold ⟨∃ I4 : Nat → Rel 1, (∃ k, GhostV [(.int .i64 0)] st (app (I4 k))) ∧ ∀ k4 v110, ∀ st, app (I4 k4) [v110] st →
                    @stp P (.bin .lss (.c v110) (.c v109)) st ⟨fun v111 st =>
                    @cnd v111 ⟨
                      @stp P (.idx 6 (.c v108) (.c v110)) st ⟨fun v112 st =>
                      @stp P (.ld (some 6) (.c v112)) st ⟨fun v113 st =>
                      @stp P (.alloc [(.int .u32 0), (.int .u64 0), (.int .i64 0), (.int .i64 0), (.int .i64 0), (.int .i64 0)]) st ⟨fun v18 st =>
                      @stp P (.st 6 (.c v18) (.c v113)) st ⟨fun _v st =>
                      @stp P (.fld 1 (.c v18)) st ⟨fun v114 st =>
                      @stp P (.ld none (.c v114)) st ⟨fun v115 st =>
                      @stp P (.fld 1 (.c v4)) st ⟨fun v116 st =>
                      @stp P (.ld none (.c v116)) st ⟨fun v117 st =>
                      @stp P (.bin .neq (.c v115) (.c v117)) st ⟨fun v118 st =>
                      @gst P v118 true (.mov (.c (.fn (.func n_gazetteerlaw15_PredKeeps_1) [] []))) st ⟨fun v120 st =>
                      @gst P v118 true (.ld (some 1) (.c v14)) st ⟨fun v121 st =>
                      @gst P v118 true (.ld (some 6) (.c v18)) st ⟨fun v122 st =>
                      @gst P v118 true (.call (.c v120) [(.c v121), (.c v122)]) st ⟨fun v123 st =>
                      @gst P v118 true (.un .not (.c v123)) st ⟨fun v124 st =>
                      @stp P (.pick (.c v118) (.c v124) (.c (.bool false))) st ⟨fun v125 st =>
                      @cnd v125 ⟨
                        GhostV [(.bool false)] st fun vs st => K (mkres vs) st⟩
                      ⟨
                        @stp P (.bin .add (.c v110) (.c (.int .i64 1))) st ⟨fun v126 st =>
                        ∃ j, j < k4 ∧ GhostV [v126] st (app (I4 j))⟩⟩⟩⟩⟩⟩⟩⟩⟩⟩⟩⟩⟩⟩⟩⟩⟩⟩
                    ⟨
                      GhostV [(.bool true)] st fun vs st => K (mkres vs) st⟩⟩⟩⟩⟩⟩⟩⟩⟩⟩⟩⟩⟩⟩⟩⟩⟩⟩⟩⟩⟩⟩⟩⟩⟩⟩⟩⟩⟩⟩⟩⟩⟩⟩⟩⟩⟩⟩⟩⟩⟩⟩⟩⟩⟩⟩⟩⟩⟩⟩⟩⟩⟩⟩⟩⟩⟩⟩
theorem q_gazetteerlaw15_PredKeeps {P : Program} {a0 a1 a2 : V} {st : St} {K : V → St → Prop} : F_gazetteerlaw15_PredKeeps P a0 a1 a2 st K = hwp P c_gazetteerlaw15_PredKeeps (hretQ [.tmp 6] K) (enterFr [a0, a1, a2]) st := by kernel_rfl
abbrev R_gazetteerlaw15_PredKeeps (P : Program) : Prop := resFnH P n_gazetteerlaw15_PredKeeps = some (127, c_gazetteerlaw15_PredKeeps.er, [.tmp 6])
theorem A_gazetteerlaw15_PredKeeps {P : Program} (h : R_gazetteerlaw15_PredKeeps P) {a0 a1 a2 : V} {st : St} {K : V → St → Prop} (hF : F_gazetteerlaw15_PredKeeps P a0 a1 a2 st K) : ACalls P n_gazetteerlaw15_PredKeeps [a0, a1, a2] st K :=
  ACalls_h h rfl (by simp) (q_gazetteerlaw15_PredKeeps ▸ hF)

def c_gazetteerlaw15_PredPasses : ACode := (.seq (.reg [⟨(some 3), none, (.box (.s 0))⟩, ⟨(some 5), none, (.box (.s 2))⟩, ⟨(some 6), none, (.mov (.c (.bool false)))⟩]) (.seq (.seq (.reg [⟨(some 12), none, (.call (.c (.fn (.func n_gazetteerlaw15_wakes) [] [])) [])⟩, ⟨(some 13), none, (.un .not (.s 12))⟩]) (.cond (.s 13) (.seq (.reg [⟨(some 6), none, (.mov (.c (.bool false)))⟩]) .ret) .skip)) (.seq (.seq (.reg [⟨(some 14), none, (.fld 0 (.s 3))⟩, ⟨(some 15), none, (.ld none (.s 14))⟩, ⟨(some 16), none, (.len .sl (.s 15))⟩, ⟨(some 17), none, (.bin .gtr (.s 16) (.c (.int .i64 800)))⟩, ⟨(some 18), none, (.mov (.s 17))⟩, ⟨(some 19), (some (18, false)), (.mov (.s 1))⟩, ⟨(some 20), (some (18, false)), (.len .sl (.s 19))⟩, ⟨(some 21), (some (18, false)), (.bin .gtr (.s 20) (.c (.int .i64 12)))⟩, ⟨(some 22), none, (.pick (.s 18) (.c (.bool true)) (.s 21))⟩]) (.cond (.s 22) (.seq (.reg [⟨(some 6), none, (.mov (.c (.bool true)))⟩]) .ret) .skip)) (.seq (.regD [⟨(some 24), none, (.ld (some 1) (.s 3))⟩, ⟨(some 25), none, (.call (.c (.fn (.func n_gazetteerlaw15_copied) [] [])) [(.s 24)])⟩, ⟨(some 26), none, (.mov (.c (.sl .cap0 1 [] [])))⟩, ⟨(some 27), none, (.mov (.s 1))⟩, ⟨(some 28), none, (.appf 1 4 (.s 26) (.s 27))⟩, ⟨(some 29), none, (.ld (some 4) (.s 5))⟩, ⟨(some 30), none, (.call (.c (.fn (.func n_pred_Pass) [] [])) [(.s 25), (.s 28), (.s 29)])⟩, ⟨(some 23), none, (.mov (.s 30))⟩, ⟨(some 31), none, (.ext 0 (.s 23))⟩, ⟨(some 32), none, (.ext 1 (.s 23))⟩, ⟨(some 7), none, (.alloc [(.sl .nil 0 [] [])])⟩, ⟨none, none, (.st 1 (.s 7) (.s 31))⟩, ⟨(some 8), none, (.mov (.s 32))⟩] [(0, (false, [])), (2, (false, [])), (3, (false, [])), (5, (false, [])), (1, (true, [5, 3, 2])), (4, (false, [])), (6, (true, [])), (7, (false, [])), (8, (false, [])), (9, (false, [])), (12, (false, [])), (10, (false, [])), (11, (false, []))]) (.seq (.seq (.reg [⟨(some 33), none, (.ld (some 1) (.s 3))⟩, ⟨(some 34), none, (.call (.c (.fn (.func n_gazetteerref15_Right) [] [])) [(.s 33)])⟩, ⟨(some 35), none, (.un .not (.s 34))⟩]) (.cond (.s 35) (.seq (.reg [⟨(some 36), none, (.mov (.s 8))⟩, ⟨(some 37), none, (.bin .eql (.s 36) (.c (.int .i64 250)))⟩, ⟨(some 38), none, (.mov (.s 37))⟩, ⟨(some 39), (some (38, true)), (.fld 0 (.s 7))⟩, ⟨(some 40), (some (38, true)), (.ld none (.s 39))⟩, ⟨(some 41), (some (38, true)), (.len .sl (.s 40))⟩, ⟨(some 42), (some (38, true)), (.bin .eql (.s 41) (.c (.int .i64 0)))⟩, ⟨(some 43), none, (.pick (.s 38) (.s 42) (.c (.bool false)))⟩, ⟨(some 6), none, (.mov (.s 43))⟩]) .ret) .skip)) (.seq (.reg [⟨(some 44), none, (.ld (some 4) (.s 5))⟩, ⟨(some 45), none, (.call (.c (.fn (.func n_gazetteerref09_Box) [] [])) [(.s 44)])⟩, ⟨(some 9), none, (.mov (.s 45))⟩]) (.seq (.seq (.reg [⟨(some 46), none, (.mov (.s 1))⟩, ⟨(some 47), none, (.len .sl (.s 46))⟩, ⟨(some 48), none, (.mov (.c (.int .i64 0)))⟩]) (.block 0 (.loop [9, 48] [9, 11, 48, 49, 50, 51, 52, 53, 54, 55, 56, 57] (.seq (.reg [⟨(some 49), none, (.bin .lss (.s 48) (.s 47))⟩]) (.seq (.cond (.s 49) .skip (.exit 0)) (.seq (.block 1 (.seq (.reg [⟨(some 50), none, (.idx 1 (.s 46) (.s 48))⟩, ⟨(some 51), none, (.ld none (.s 50))⟩, ⟨(some 11), none, (.mov (.s 51))⟩]) (.reg [⟨(some 52), none, (.mov (.s 9))⟩, ⟨(some 53), none, (.mov (.s 52))⟩, ⟨(some 54), (some (53, true)), (.mov (.s 11))⟩, ⟨(some 55), (some (53, true)), (.bin .gtr (.s 54) (.c (.int .u32 0)))⟩, ⟨(some 56), none, (.pick (.s 53) (.s 55) (.c (.bool false)))⟩, ⟨(some 9), none, (.mov (.s 56))⟩]))) (.reg [⟨(some 57), none, (.bin .add (.s 48) (.c (.int .i64 1)))⟩, ⟨(some 48), none, (.mov (.s 57))⟩]))))))) (.seq (.regD [⟨(some 58), none, (.ld (some 1) (.s 7))⟩, ⟨(some 59), none, (.mov (.s 8))⟩, ⟨(some 60), none, (.mov (.s 9))⟩, ⟨(some 61), none, (.ld (some 1) (.s 3))⟩, ⟨(some 62), none, (.mov (.s 1))⟩, ⟨(some 63), none, (.ld (some 4) (.s 5))⟩, ⟨(some 64), none, (.call (.c (.fn (.func n_gazetteerref15_Pass) [] [])) [(.s 61), (.s 62), (.s 63)])⟩, ⟨(some 65), none, (.call (.c (.fn (.func n_gazetteerlaw15_told) [] [])) [(.s 58), (.s 59), (.s 60), (.s 64)])⟩, ⟨(some 6), none, (.mov (.s 65))⟩] [(0, (false, [])), (1, (false, [])), (2, (false, [])), (3, (false, [])), (4, (false, [])), (5, (false, [])), (6, (true, [2, 1, 0])), (7, (true, [])), (8, (false, []))]) .ret))))))))
def F_gazetteerlaw15_PredPasses (P : Program) (a0 a1 a2 : V) (st : St) (K : V → St → Prop) : Prop :=
  @stp P (.box (.c a0)) st ⟨fun v3 st =>
  @stp P (.box (.c a2)) st ⟨fun v5 st =>
  @stp P (.call (.c (.fn (.func n_gazetteerlaw15_wakes) [] [])) []) st ⟨fun v12 st =>
  @stp P (.un .not (.c v12)) st ⟨fun v13 st =>
  @cnd v13 ⟨
    GhostV [(.bool false)] st fun vs st => K (mkres vs) st⟩
  ⟨
    @stp P (.fld 0 (.c v3)) st ⟨fun v14 st =>
    @stp P (.ld none (.c v14)) st ⟨fun v15 st =>
    @stp P (.len .sl (.c v15)) st ⟨fun v16 st =>
    @stp P (.bin .gtr (.c v16) (.c (.int .i64 800))) st ⟨fun v17 st =>
    @gst P v17 false (.mov (.c a1)) st ⟨fun v19 st =>
    @gst P v17 false (.len .sl (.c v19)) st ⟨fun v20 st =>
    @gst P v17 false (.bin .gtr (.c v20) (.c (.int .i64 12))) st ⟨fun v21 st =>
    @stp P (.pick (.c v17) (.c (.bool true)) (.c v21)) st ⟨fun v22 st =>
    @cnd v22 ⟨
      GhostV [(.bool true)] st fun vs st => K (mkres vs) st⟩
    ⟨
      @stpD P (.ld (some 1) (.c v3)) st ⟨fun v24 st =>
      @stpD P (.ld (some 4) (.c v5)) st ⟨fun v29 st =>
      @stpD P (.call (.c (.fn (.func n_gazetteerlaw15_copied) [] [])) [(.c v24)]) st ⟨fun v25 st =>
      hwat P none (.ld (some 4) (.c v5)) st v29 ∧ (
      hwat P none (.mov (.c a1)) st a1 ∧ (
      hwat P none (.mov (.c (.sl .cap0 1 [] []))) st (.sl .cap0 1 [] []) ∧ (
      @stpD P (.appf 1 4 (.c (.sl .cap0 1 [] [])) (.c a1)) st ⟨fun v28 st =>
      @stpD P (.call (.c (.fn (.func n_pred_Pass) [] [])) [(.c v25), (.c v28), (.c v29)]) st ⟨fun v30 st =>
      @stpD P (.ext 0 (.c v30)) st ⟨fun v31 st =>
      @stpD P (.ext 1 (.c v30)) st ⟨fun v32 st =>
      @stpD P (.alloc [(.sl .nil 0 [] [])]) st ⟨fun v7 st =>
      @stpD P (.st 1 (.c v7) (.c v31)) st ⟨fun _v st =>
      @stp P (.ld (some 1) (.c v3)) st ⟨fun v33 st =>
      @stp P (.call (.c (.fn (.func n_gazetteerref15_Right) [] [])) [(.c v33)]) st ⟨fun v34 st =>
      @stp P (.un .not (.c v34)) st ⟨fun v35 st =>
      @cnd v35 ⟨
        @stp P (.bin .eql (.c v32) (.c (.int .i64 250))) st ⟨fun v37 st =>
        @gst P v37 true (.fld 0 (.c v7)) st ⟨fun v39 st =>
        @gst P v37 true (.ld none (.c v39)) st ⟨fun v40 st =>
        @gst P v37 true (.len .sl (.c v40)) st ⟨fun v41 st =>
        @gst P v37 true (.bin .eql (.c v41) (.c (.int .i64 0))) st ⟨fun v42 st =>
        @stp P (.pick (.c v37) (.c v42) (.c (.bool false))) st ⟨fun v43 st =>
        GhostV [v43] st fun vs st => K (mkres vs) st⟩⟩⟩⟩⟩⟩⟩
      ⟨
        @stp P (.ld (some 4) (.c v5)) st ⟨fun v44 st =>
        @stp P (.call (.c (.fn (.func n_gazetteerref09_Box) [] [])) [(.c v44)]) st ⟨fun v45 st =>
        @stp P (.len .sl (.c a1)) st ⟨fun v47 st =>
        @Hold ⟨∃ I1 : Nat → Rel 2, (∃ k, GhostV [v45, (.int .i64 0)] st (app (I1 k))) ∧ ∀ k1 v9 v48, ∀ st, app (I1 k1) [v9, v48] st →
          @stp P (.bin .lss (.c v48) (.c v47)) st ⟨fun v49 st =>
          @cnd v49 ⟨
            @stp P (.idx 1 (.c a1) (.c v48)) st ⟨fun v50 st =>
            @stp P (.ld none (.c v50)) st ⟨fun v51 st =>
            @gst P v9 true (.mov (.c v51)) st ⟨fun v54 st =>
            @gst P v9 true (.bin .gtr (.c v54) (.c (.int .u32 0))) st ⟨fun v55 st =>
            @stp P (.pick (.c v9) (.c v55) (.c (.bool false))) st ⟨fun v56 st =>
            @stp P (.bin .add (.c v48) (.c (.int .i64 1))) st ⟨fun v57 st =>
            ∃ j, j < k1 ∧ GhostV [v56, v57] st (app (I1 j))⟩⟩⟩⟩⟩⟩⟩
          ⟨
            @stpD P (.ld (some 1) (.c v7)) st ⟨fun v58 st =>
            @stpD P (.ld (some 1) (.c v3)) st ⟨fun v61 st =>
            @stpD P (.ld (some 4) (.c v5)) st ⟨fun v63 st =>
            @stpD P (.call (.c (.fn (.func n_gazetteerref15_Pass) [] [])) [(.c v61), (.c a1), (.c v63)]) st ⟨fun v64 st =>
            hwat P none (.mov (.c v9)) st v9 ∧ (
            hwat P none (.mov (.c v32)) st v32 ∧ (
            hwat P none (.ld (some 1) (.c v7)) st v58 ∧ (
            @stpD P (.call (.c (.fn (.func n_gazetteerlaw15_told) [] [])) [(.c v58), (.c v32), (.c v9), (.c v64)]) st ⟨fun v65 st =>
            GhostV [v65] st fun vs st => K (mkres vs) st⟩)))⟩⟩⟩⟩⟩⟩⟩⟩⟩⟩⟩⟩⟩⟩⟩⟩⟩⟩⟩⟩)))⟩⟩⟩⟩⟩⟩⟩⟩⟩⟩⟩⟩⟩⟩⟩⟩⟩
theorem q_gazetteerlaw15_PredPasses {P : Program} {a0 a1 a2 : V} {st : St} {K : V → St → Prop} : F_gazetteerlaw15_PredPasses P a0 a1 a2 st K = hwp P c_gazetteerlaw15_PredPasses (hretQ [.tmp 6] K) (enterFr [a0, a1, a2]) st := by kernel_rfl
abbrev R_gazetteerlaw15_PredPasses (P : Program) : Prop := resFnH P n_gazetteerlaw15_PredPasses = some (66, c_gazetteerlaw15_PredPasses.er, [.tmp 6])
theorem A_gazetteerlaw15_PredPasses {P : Program} (h : R_gazetteerlaw15_PredPasses P) {a0 a1 a2 : V} {st : St} {K : V → St → Prop} (hF : F_gazetteerlaw15_PredPasses P a0 a1 a2 st K) : ACalls P n_gazetteerlaw15_PredPasses [a0, a1, a2] st K :=
  ACalls_h h rfl (by simp) (q_gazetteerlaw15_PredPasses ▸ hF)

def c_gazetteerlaw15_PredAttaches : ACode := (.seq (.reg [⟨(some 3), none, (.box (.s 0))⟩, ⟨(some 4), none, (.box (.s 1))⟩, ⟨(some 6), none, (.mov (.c (.bool false)))⟩]) (.seq (.seq (.reg [⟨(some 11), none, (.call (.c (.fn (.func n_gazetteerlaw15_wakes) [] [])) [])⟩, ⟨(some 12), none, (.un .not (.s 11))⟩]) (.cond (.s 12) (.seq (.reg [⟨(some 6), none, (.mov (.c (.bool false)))⟩]) .ret) .skip)) (.seq (.seq (.reg [⟨(some 13), none, (.fld 0 (.s 3))⟩, ⟨(some 14), none, (.ld none (.s 13))⟩, ⟨(some 15), none, (.len .sl (.s 14))⟩, ⟨(some 16), none, (.bin .gtr (.s 15) (.c (.int .i64 800)))⟩]) (.cond (.s 16) (.seq (.reg [⟨(some 6), none, (.mov (.c (.bool true)))⟩]) .ret) .skip)) (.seq (.regD [⟨(some 18), none, (.ld (some 1) (.s 3))⟩, ⟨(some 19), none, (.call (.c (.fn (.func n_gazetteerlaw15_copied) [] [])) [(.s 18)])⟩, ⟨(some 20), none, (.ld (some 6) (.s 4))⟩, ⟨(some 21), none, (.call (.c (.fn (.func n_pred_Attach) [] [])) [(.s 19), (.s 20)])⟩, ⟨(some 17), none, (.mov (.s 21))⟩, ⟨(some 22), none, (.ext 0 (.s 17))⟩, ⟨(some 23), none, (.ext 1 (.s 17))⟩, ⟨(some 7), none, (.alloc [(.sl .nil 0 [] [])])⟩, ⟨none, none, (.st 1 (.s 7) (.s 22))⟩, ⟨(some 8), none, (.mov (.s 23))⟩] [(0, (false, [])), (2, (false, [])), (1, (true, [2])), (3, (true, [])), (4, (false, [])), (5, (false, [])), (6, (false, [])), (9, (false, [])), (7, (false, [])), (8, (false, []))]) (.seq (.reg [⟨(some 25), none, (.ld (some 1) (.s 3))⟩, ⟨(some 26), none, (.call (.c (.fn (.func n_gazetteerlaw15_copied) [] [])) [(.s 25)])⟩, ⟨(some 27), none, (.mov (.s 2))⟩, ⟨(some 28), none, (.call (.c (.fn (.func n_pred_Release) [] [])) [(.s 26), (.s 27)])⟩, ⟨(some 24), none, (.mov (.s 28))⟩, ⟨(some 29), none, (.ext 0 (.s 24))⟩, ⟨(some 30), none, (.ext 1 (.s 24))⟩, ⟨(some 9), none, (.alloc [(.sl .nil 0 [] [])])⟩, ⟨none, none, (.st 1 (.s 9) (.s 29))⟩, ⟨(some 10), none, (.mov (.s 30))⟩]) (.seq (.seq (.regD [⟨(some 31), none, (.ld (some 1) (.s 3))⟩, ⟨(some 32), none, (.ld (some 1) (.s 3))⟩, ⟨(some 33), none, (.call (.c (.fn (.func n_gazetteerlaw15_copied) [] [])) [(.s 32)])⟩, ⟨(some 34), none, (.call (.c (.fn (.func n_pred_Same) [] [])) [(.s 31), (.s 33)])⟩, ⟨(some 35), none, (.un .not (.s 34))⟩, ⟨(some 36), none, (.mov (.s 35))⟩, ⟨(some 37), (some (36, false)), (.ld (some 1) (.s 3))⟩, ⟨(some 38), (some (36, false)), (.ld (some 1) (.s 7))⟩, ⟨(some 39), (some (36, false)), (.call (.c (.fn (.func n_pred_Same) [] [])) [(.s 37), (.s 38)])⟩, ⟨(some 40), (some (36, false)), (.ld (some 1) (.s 3))⟩, ⟨(some 41), (some (36, false)), (.ld (some 1) (.s 7))⟩, ⟨(some 42), (some (36, false)), (.call (.c (.fn (.func n_gazetteerref15_Same) [] [])) [(.s 40), (.s 41)])⟩, ⟨(some 43), (some (36, false)), (.eqs true .bool (.s 39) (.s 42))⟩, ⟨(some 44), none, (.pick (.s 36) (.c (.bool true)) (.s 43))⟩] [(0, (false, [])), (1, (false, [])), (2, (true, [0])), (3, (true, [])), (4, (false, [])), (5, (false, [])), (6, (false, [])), (7, (false, [])), (9, (false, [])), (10, (false, [])), (8, (true, [10, 9])), (11, (true, [])), (12, (false, [])), (13, (false, []))]) (.cond (.s 44) (.seq (.reg [⟨(some 6), none, (.mov (.c (.bool false)))⟩]) .ret) .skip)) (.seq (.seq (.reg [⟨(some 45), none, (.ld (some 1) (.s 3))⟩, ⟨(some 46), none, (.call (.c (.fn (.func n_gazetteerref15_Right) [] [])) [(.s 45)])⟩, ⟨(some 47), none, (.un .not (.s 46))⟩]) (.cond (.s 47) (.seq (.reg [⟨(some 48), none, (.mov (.s 8))⟩, ⟨(some 49), none, (.bin .eql (.s 48) (.c (.int .i64 250)))⟩, ⟨(some 50), none, (.mov (.s 49))⟩, ⟨(some 51), (some (50, true)), (.mov (.s 10))⟩, ⟨(some 52), (some (50, true)), (.bin .eql (.s 51) (.c (.int .i64 250)))⟩, ⟨(some 53), none, (.pick (.s 50) (.s 52) (.c (.bool false)))⟩, ⟨(some 54), none, (.mov (.s 53))⟩, ⟨(some 55), (some (54, true)), (.fld 0 (.s 7))⟩, ⟨(some 56), (some (54, true)), (.ld none (.s 55))⟩, ⟨(some 57), (some (54, true)), (.len .sl (.s 56))⟩, ⟨(some 58), (some (54, true)), (.fld 0 (.s 9))⟩, ⟨(some 59), (some (54, true)), (.ld none (.s 58))⟩, ⟨(some 60), (some (54, true)), (.len .sl (.s 59))⟩, ⟨(some 61), (some (54, true)), (.bin .add (.s 57) (.s 60))⟩, ⟨(some 62), (some (54, true)), (.bin .eql (.s 61) (.c (.int .i64 0)))⟩, ⟨(some 63), none, (.pick (.s 54) (.s 62) (.c (.bool false)))⟩, ⟨(some 64), none, (.mov (.s 63))⟩, ⟨(some 65), (some (64, true)), (.ld (some 1) (.s 3))⟩, ⟨(some 66), (some (64, true)), (.call (.c (.fn (.func n_gazetteerlaw15_copied) [] [])) [(.s 65)])⟩, ⟨(some 67), (some (64, true)), (.call (.c (.fn (.func n_pred_Check) [] [])) [(.s 66)])⟩, ⟨(some 68), (some (64, true)), (.bin .eql (.s 67) (.c (.int .i64 250)))⟩, ⟨(some 69), none, (.pick (.s 64) (.s 68) (.c (.bool false)))⟩, ⟨(some 6), none, (.mov (.s 69))⟩]) .ret) .skip)) (.seq (.regD [⟨(some 70), none, (.ld (some 1) (.s 3))⟩, ⟨(some 71), none, (.call (.c (.fn (.func n_gazetteerlaw15_copied) [] [])) [(.s 70)])⟩, ⟨(some 72), none, (.call (.c (.fn (.func n_pred_Check) [] [])) [(.s 71)])⟩, ⟨(some 73), none, (.bin .eql (.s 72) (.c (.int .i64 0)))⟩, ⟨(some 74), none, (.mov (.s 73))⟩, ⟨(some 75), (some (74, true)), (.ld (some 1) (.s 7))⟩, ⟨(some 76), (some (74, true)), (.mov (.s 8))⟩, ⟨(some 77), (some (74, true)), (.ld (some 6) (.s 4))⟩, ⟨(some 78), (some (74, true)), (.call (.c (.fn (.func n_gazetteerref15_Mark) [] [])) [(.s 77)])⟩, ⟨(some 79), (some (74, true)), (.ld (some 1) (.s 3))⟩, ⟨(some 80), (some (74, true)), (.ld (some 6) (.s 4))⟩, ⟨(some 81), (some (74, true)), (.call (.c (.fn (.func n_gazetteerref15_With) [] [])) [(.s 79), (.s 80)])⟩, ⟨(some 82), (some (74, true)), (.call (.c (.fn (.func n_gazetteerlaw15_told) [] [])) [(.s 75), (.s 76), (.s 78), (.s 81)])⟩, ⟨(some 83), none, (.pick (.s 74) (.s 82) (.c (.bool false)))⟩, ⟨(some 84), none, (.mov (.s 83))⟩, ⟨(some 85), (some (84, true)), (.ld (some 1) (.s 9))⟩, ⟨(some 86), (some (84, true)), (.mov (.s 10))⟩, ⟨(some 87), (some (84, true)), (.mov (.s 2))⟩, ⟨(some 88), (some (84, true)), (.bin .gtr (.s 87) (.c (.int .u64 0)))⟩, ⟨(some 89), (some (84, true)), (.ld (some 1) (.s 3))⟩, ⟨(some 90), (some (84, true)), (.mov (.s 2))⟩, ⟨(some 91), (some (84, true)), (.call (.c (.fn (.func n_gazetteerref15_Without) [] [])) [(.s 89), (.s 90)])⟩, ⟨(some 92), (some (84, true)), (.call (.c (.fn (.func n_gazetteerlaw15_told) [] [])) [(.s 85), (.s 86), (.s 88), (.s 91)])⟩, ⟨(some 93), none, (.pick (.s 84) (.s 92) (.c (.bool false)))⟩, ⟨(some 6), none, (.mov (.s 93))⟩] [(0, (false, [])), (1, (true, [])), (2, (true, [])), (3, (false, [])), (4, (false, [])), (5, (false, [])), (6, (false, [])), (7, (false, [])), (9, (false, [])), (10, (false, [])), (8, (true, [10, 9, 6, 5])), (11, (true, [6, 5])), (12, (true, [])), (13, (false, [])), (14, (false, [])), (15, (false, [])), (16, (false, [])), (17, (false, [])), (18, (false, [])), (19, (false, [])), (20, (false, [])), (21, (true, [18, 17, 16, 15])), (22, (true, [])), (23, (false, [])), (24, (false, []))]) .ret))))))))
def F_gazetteerlaw15_PredAttaches (P : Program) (a0 a1 a2 : V) (st : St) (K : V → St → Prop) : Prop :=
  @stp P (.box (.c a0)) st ⟨fun v3 st =>
  @stp P (.box (.c a1)) st ⟨fun v4 st =>
  @stp P (.call (.c (.fn (.func n_gazetteerlaw15_wakes) [] [])) []) st ⟨fun v11 st =>
  @stp P (.un .not (.c v11)) st ⟨fun v12 st =>
  @cnd v12 ⟨
    GhostV [(.bool false)] st fun vs st => K (mkres vs) st⟩
  ⟨
    @stp P (.fld 0 (.c v3)) st ⟨fun v13 st =>
    @stp P (.ld none (.c v13)) st ⟨fun v14 st =>
    @stp P (.len .sl (.c v14)) st ⟨fun v15 st =>
    @stp P (.bin .gtr (.c v15) (.c (.int .i64 800))) st ⟨fun v16 st =>
    @cnd v16 ⟨
      GhostV [(.bool true)] st fun vs st => K (mkres vs) st⟩
    ⟨
      @stpD P (.ld (some 1) (.c v3)) st ⟨fun v18 st =>
      @stpD P (.ld (some 6) (.c v4)) st ⟨fun v20 st =>
      @stpD P (.call (.c (.fn (.func n_gazetteerlaw15_copied) [] [])) [(.c v18)]) st ⟨fun v19 st =>
      hwat P none (.ld (some 6) (.c v4)) st v20 ∧ (
      @stpD P (.call (.c (.fn (.func n_pred_Attach) [] [])) [(.c v19), (.c v20)]) st ⟨fun v21 st =>
      @stpD P (.ext 0 (.c v21)) st ⟨fun v22 st =>
      @stpD P (.ext 1 (.c v21)) st ⟨fun v23 st =>
      @stpD P (.alloc [(.sl .nil 0 [] [])]) st ⟨fun v7 st =>
      @stpD P (.st 1 (.c v7) (.c v22)) st ⟨fun _v st =>
      @stp P (.ld (some 1) (.c v3)) st ⟨fun v25 st =>
      @stp P (.call (.c (.fn (.func n_gazetteerlaw15_copied) [] [])) [(.c v25)]) st ⟨fun v26 st =>
      @stp P (.call (.c (.fn (.func n_pred_Release) [] [])) [(.c v26), (.c a2)]) st ⟨fun v28 st =>
      @stp P (.ext 0 (.c v28)) st ⟨fun v29 st =>
      @stp P (.ext 1 (.c v28)) st ⟨fun v30 st =>
      @stp P (.alloc [(.sl .nil 0 [] [])]) st ⟨fun v9 st =>
      @stp P (.st 1 (.c v9) (.c v29)) st ⟨fun _v st =>
      @stpD P (.ld (some 1) (.c v3)) st ⟨fun v31 st =>
      @stpD P (.ld (some 1) (.c v3)) st ⟨fun v32 st =>
      @stpD P (.call (.c (.fn (.func n_gazetteerlaw15_copied) [] [])) [(.c v32)]) st ⟨fun v33 st =>
      hwat P none (.ld (some 1) (.c v3)) st v31 ∧ (
      @stpD P (.call (.c (.fn (.func n_pred_Same) [] [])) [(.c v31), (.c v33)]) st ⟨fun v34 st =>
      @stpD P (.un .not (.c v34)) st ⟨fun v35 st =>
      @gstD P v35 false (.ld (some 1) (.c v3)) st ⟨fun v37 st =>
      @gstD P v35 false (.ld (some 1) (.c v7)) st ⟨fun v38 st =>
      @gstD P v35 false (.ld (some 1) (.c v3)) st ⟨fun v40 st =>
      @gstD P v35 false (.ld (some 1) (.c v7)) st ⟨fun v41 st =>
      @gstD P v35 false (.call (.c (.fn (.func n_pred_Same) [] [])) [(.c v37), (.c v38)]) st ⟨fun v39 st =>
      hwat P (some (v35, false)) (.ld (some 1) (.c v7)) st v41 ∧ (
      hwat P (some (v35, false)) (.ld (some 1) (.c v3)) st v40 ∧ (
      @gstD P v35 false (.call (.c (.fn (.func n_gazetteerref15_Same) [] [])) [(.c v40), (.c v41)]) st ⟨fun v42 st =>
      @gstD P v35 false (.eqs true .bool (.c v39) (.c v42)) st ⟨fun v43 st =>
      @stpD P (.pick (.c v35) (.c (.bool true)) (.c v43)) st ⟨fun v44 st =>
      @cnd v44 ⟨
        GhostV [(.bool false)] st fun vs st => K (mkres vs) st⟩
      ⟨
        @stp P (.ld (some 1) (.c v3)) st ⟨fun v45 st =>
        @stp P (.call (.c (.fn (.func n_gazetteerref15_Right) [] [])) [(.c v45)]) st ⟨fun v46 st =>
        @stp P (.un .not (.c v46)) st ⟨fun v47 st =>
        @cnd v47 ⟨
          @stp P (.bin .eql (.c v23) (.c (.int .i64 250))) st ⟨fun v49 st =>
          @gst P v49 true (.mov (.c v30)) st ⟨fun v51 st =>
          @gst P v49 true (.bin .eql (.c v51) (.c (.int .i64 250))) st ⟨fun v52 st =>
          @stp P (.pick (.c v49) (.c v52) (.c (.bool false))) st ⟨fun v53 st =>
          @gst P v53 true (.fld 0 (.c v7)) st ⟨fun v55 st =>
          @gst P v53 true (.ld none (.c v55)) st ⟨fun v56 st =>
          @gst P v53 true (.len .sl (.c v56)) st ⟨fun v57 st =>
          @gst P v53 true (.fld 0 (.c v9)) st ⟨fun v58 st =>
          @gst P v53 true (.ld none (.c v58)) st ⟨fun v59 st =>
          @gst P v53 true (.len .sl (.c v59)) st ⟨fun v60 st =>
          @gst P v53 true (.bin .add (.c v57) (.c v60)) st ⟨fun v61 st =>
          @gst P v53 true (.bin .eql (.c v61) (.c (.int .i64 0))) st ⟨fun v62 st =>
          @stp P (.pick (.c v53) (.c v62) (.c (.bool false))) st ⟨fun v63 st =>
          @gst P v63 true (.ld (some 1) (.c v3)) st ⟨fun v65 st =>
          @gst P v63 true (.call (.c (.fn (.func n_gazetteerlaw15_copied) [] [])) [(.c v65)]) st ⟨fun v66 st =>
          @gst P v63 true (.call (.c (.fn (.func n_pred_Check) [] [])) [(.c v66)]) st ⟨fun v67 st =>
          @gst P v63 true (.bin .eql (.c v67) (.c (.int .i64 250))) st ⟨fun v68 st =>
          @stp P (.pick (.c v63) (.c v68) (.c (.bool false))) st ⟨fun v69 st =>
          GhostV [v69] st fun vs st => K (mkres vs) st⟩⟩⟩⟩⟩⟩⟩⟩⟩⟩⟩⟩⟩⟩⟩⟩⟩⟩⟩
        ⟨
          @stpD P (.ld (some 1) (.c v3)) st ⟨fun v70 st =>
          @stpD P (.call (.c (.fn (.func n_gazetteerlaw15_copied) [] [])) [(.c v70)]) st ⟨fun v71 st =>
          @stpD P (.call (.c (.fn (.func n_pred_Check) [] [])) [(.c v71)]) st ⟨fun v72 st =>
          @stpD P (.bin .eql (.c v72) (.c (.int .i64 0))) st ⟨fun v73 st =>
          @gstD P v73 true (.ld (some 1) (.c v7)) st ⟨fun v75 st =>
          @gstD P v73 true (.mov (.c v23)) st ⟨fun v76 st =>
          @gstD P v73 true (.ld (some 6) (.c v4)) st ⟨fun v77 st =>
          @gstD P v73 true (.ld (some 1) (.c v3)) st ⟨fun v79 st =>
          @gstD P v73 true (.ld (some 6) (.c v4)) st ⟨fun v80 st =>
          @gstD P v73 true (.call (.c (.fn (.func n_gazetteerref15_Mark) [] [])) [(.c v77)]) st ⟨fun v78 st =>
          hwat P (some (v73, true)) (.ld (some 6) (.c v4)) st v80 ∧ (
          hwat P (some (v73, true)) (.ld (some 1) (.c v3)) st v79 ∧ (
          hwat P (some (v73, true)) (.mov (.c v23)) st v76 ∧ (
          hwat P (some (v73, true)) (.ld (some 1) (.c v7)) st v75 ∧ (
          @gstD P v73 true (.call (.c (.fn (.func n_gazetteerref15_With) [] [])) [(.c v79), (.c v80)]) st ⟨fun v81 st =>
          hwat P (some (v73, true)) (.mov (.c v23)) st v76 ∧ (
          hwat P (some (v73, true)) (.ld (some 1) (.c v7)) st v75 ∧ (
          @gstD P v73 true (.call (.c (.fn (.func n_gazetteerlaw15_told) [] [])) [(.c v75), (.c v76), (.c v78), (.c v81)]) st ⟨fun v82 st =>
          @stpD P (.pick (.c v73) (.c v82) (.c (.bool false))) st ⟨fun v83 st =>
          @gstD P v83 true (.ld (some 1) (.c v9)) st ⟨fun v85 st =>
          @gstD P v83 true (.mov (.c v30)) st ⟨fun v86 st =>
          @gstD P v83 true (.mov (.c a2)) st ⟨fun v87 st =>
          @gstD P v83 true (.bin .gtr (.c v87) (.c (.int .u64 0))) st ⟨fun v88 st =>
          @gstD P v83 true (.ld (some 1) (.c v3)) st ⟨fun v89 st =>
          @gstD P v83 true (.mov (.c a2)) st ⟨fun v90 st =>
          @gstD P v83 true (.call (.c (.fn (.func n_gazetteerref15_Without) [] [])) [(.c v89), (.c v90)]) st ⟨fun v91 st =>
          hwat P (some (v83, true)) (.bin .gtr (.c v87) (.c (.int .u64 0))) st v88 ∧ (
          hwat P (some (v83, true)) (.mov (.c a2)) st v87 ∧ (
          hwat P (some (v83, true)) (.mov (.c v30)) st v86 ∧ (
          hwat P (some (v83, true)) (.ld (some 1) (.c v9)) st v85 ∧ (
          @gstD P v83 true (.call (.c (.fn (.func n_gazetteerlaw15_told) [] [])) [(.c v85), (.c v86), (.c v88), (.c v91)]) st ⟨fun v92 st =>
          @stpD P (.pick (.c v83) (.c v92) (.c (.bool false))) st ⟨fun v93 st =>
          GhostV [v93] st fun vs st => K (mkres vs) st⟩⟩))))⟩⟩⟩⟩⟩⟩⟩⟩⟩))⟩))))⟩⟩⟩⟩⟩⟩⟩⟩⟩⟩⟩⟩⟩⟩⟩⟩⟩⟩))⟩⟩⟩⟩⟩⟩⟩)⟩⟩⟩⟩⟩⟩⟩⟩⟩⟩⟩⟩⟩⟩⟩)⟩⟩⟩⟩⟩⟩⟩⟩⟩⟩⟩⟩⟩
theorem q_gazetteerlaw15_PredAttaches {P : Program} {a0 a1 a2 : V} {st : St} {K : V → St → Prop} : F_gazetteerlaw15_PredAttaches P a0 a1 a2 st K = hwp P c_gazetteerlaw15_PredAttaches (hretQ [.tmp 6] K) (enterFr [a0, a1, a2]) st := by kernel_rfl
abbrev R_gazetteerlaw15_PredAttaches (P : Program) : Prop := resFnH P n_gazetteerlaw15_PredAttaches = some (94, c_gazetteerlaw15_PredAttaches.er, [.tmp 6])
theorem A_gazetteerlaw15_PredAttaches {P : Program} (h : R_gazetteerlaw15_PredAttaches P) {a0 a1 a2 : V} {st : St} {K : V → St → Prop} (hF : F_gazetteerlaw15_PredAttaches P a0 a1 a2 st K) : ACalls P n_gazetteerlaw15_PredAttaches [a0, a1, a2] st K :=
  ACalls_h h rfl (by simp) (q_gazetteerlaw15_PredAttaches ▸ hF)

def c_gazetteerlaw15_PredMoves : ACode := (.seq (.reg [⟨(some 2), none, (.box (.s 0))⟩, ⟨(some 3), none, (.box (.s 1))⟩, ⟨(some 4), none, (.mov (.c (.bool false)))⟩]) (.seq (.seq (.reg [⟨(some 15), none, (.call (.c (.fn (.func n_gazetteerlaw15_wakes) [] [])) [])⟩, ⟨(some 16), none, (.un .not (.s 15))⟩]) (.cond (.s 16) (.seq (.reg [⟨(some 4), none, (.mov (.c (.bool false)))⟩]) .ret) .skip)) (.seq (.seq (.reg [⟨(some 17), none, (.fld 0 (.s 2))⟩, ⟨(some 18), none, (.ld none (.s 17))⟩, ⟨(some 19), none, (.len .sl (.s 18))⟩, ⟨(some 20), none, (.bin .gtr (.s 19) (.c (.int .i64 800)))⟩, ⟨(some 21), none, (.mov (.s 20))⟩, ⟨(some 22), (some (21, false)), (.fld 0 (.s 3))⟩, ⟨(some 23), (some (21, false)), (.ld none (.s 22))⟩, ⟨(some 24), (some (21, false)), (.len .sl (.s 23))⟩, ⟨(some 25), (some (21, false)), (.bin .gtr (.s 24) (.c (.int .i64 12)))⟩, ⟨(some 26), none, (.pick (.s 21) (.c (.bool true)) (.s 25))⟩, ⟨(some 27), none, (.mov (.s 26))⟩, ⟨(some 28), (some (27, false)), (.fld 1 (.s 3))⟩, ⟨(some 29), (some (27, false)), (.ld none (.s 28))⟩, ⟨(some 30), (some (27, false)), (.len .sl (.s 29))⟩, ⟨(some 31), (some (27, false)), (.bin .gtr (.s 30) (.c (.int .i64 50)))⟩, ⟨(some 32), none, (.pick (.s 27) (.c (.bool true)) (.s 31))⟩]) (.cond (.s 32) (.seq (.reg [⟨(some 4), none, (.mov (.c (.bool true)))⟩]) .ret) .skip)) (.seq (.regD [⟨(some 34), none, (.ld (some 1) (.s 2))⟩, ⟨(some 35), none, (.call (.c (.fn (.func n_gazetteerlaw15_copied) [] [])) [(.s 34)])⟩, ⟨(some 36), none, (.mov (.c (.sl .cap0 3 [] [])))⟩, ⟨(some 37), none, (.fld 0 (.s 3))⟩, ⟨(some 38), none, (.ld none (.s 37))⟩, ⟨(some 39), none, (.appf 3 12 (.s 36) (.s 38))⟩, ⟨(some 40), none, (.fld 3 (.s 3))⟩, ⟨(some 41), none, (.ld none (.s 40))⟩, ⟨(some 42), none, (.call (.c (.fn (.func n_pred_Split) [] [])) [(.s 35), (.s 39), (.s 41)])⟩, ⟨(some 33), none, (.mov (.s 42))⟩, ⟨(some 43), none, (.ext 0 (.s 33))⟩, ⟨(some 44), none, (.ext 1 (.s 33))⟩, ⟨(some 5), none, (.alloc [(.sl .nil 0 [] [])])⟩, ⟨none, none, (.st 1 (.s 5) (.s 43))⟩, ⟨(some 6), none, (.mov (.s 44))⟩] [(0, (false, [])), (2, (false, [])), (3, (false, [])), (4, (false, [])), (6, (false, [])), (7, (false, [])), (1, (true, [7, 6, 4, 3, 2])), (5, (false, [])), (8, (true, [])), (9, (false, [])), (10, (false, [])), (11, (false, [])), (14, (false, [])), (12, (false, [])), (13, (false, []))]) (.seq (.regD [⟨(some 46), none, (.ld (some 1) (.s 2))⟩, ⟨(some 47), none, (.call (.c (.fn (.func n_gazetteerlaw15_copied) [] [])) [(.s 46)])⟩, ⟨(some 48), none, (.mov (.c (.sl .cap0 1 [] [])))⟩, ⟨(some 49), none, (.fld 1 (.s 3))⟩, ⟨(some 50), none, (.ld none (.s 49))⟩, ⟨(some 51), none, (.appf 1 4 (.s 48) (.s 50))⟩, ⟨(some 52), none, (.fld 2 (.s 3))⟩, ⟨(some 53), none, (.ld none (.s 52))⟩, ⟨(some 54), none, (.fld 3 (.s 3))⟩, ⟨(some 55), none, (.ld none (.s 54))⟩, ⟨(some 56), none, (.call (.c (.fn (.func n_pred_Gone) [] [])) [(.s 47), (.s 51), (.s 53), (.s 55)])⟩, ⟨(some 45), none, (.mov (.s 56))⟩, ⟨(some 57), none, (.ext 0 (.s 45))⟩, ⟨(some 58), none, (.ext 1 (.s 45))⟩, ⟨(some 7), none, (.alloc [(.sl .nil 0 [] [])])⟩, ⟨none, none, (.st 1 (.s 7) (.s 57))⟩, ⟨(some 8), none, (.mov (.s 58))⟩] [(0, (false, [])), (2, (false, [])), (3, (false, [])), (4, (false, [])), (6, (false, [])), (7, (false, [])), (8, (false, [])), (9, (false, [])), (1, (true, [9, 8, 7, 6, 4, 3, 2])), (5, (false, [])), (10, (true, [])), (11, (false, [])), (12, (false, [])), (13, (false, [])), (16, (false, [])), (14, (false, [])), (15, (false, []))]) (.seq (.seq (.reg [⟨(some 59), none, (.ld (some 1) (.s 2))⟩, ⟨(some 60), none, (.call (.c (.fn (.func n_gazetteerref15_Right) [] [])) [(.s 59)])⟩, ⟨(some 61), none, (.un .not (.s 60))⟩]) (.cond (.s 61) (.seq (.reg [⟨(some 62), none, (.mov (.s 6))⟩, ⟨(some 63), none, (.bin .eql (.s 62) (.c (.int .i64 250)))⟩, ⟨(some 64), none, (.mov (.s 63))⟩, ⟨(some 65), (some (64, true)), (.mov (.s 8))⟩, ⟨(some 66), (some (64, true)), (.bin .eql (.s 65) (.c (.int .i64 250)))⟩, ⟨(some 67), none, (.pick (.s 64) (.s 66) (.c (.bool false)))⟩, ⟨(some 68), none, (.mov (.s 67))⟩, ⟨(some 69), (some (68, true)), (.fld 0 (.s 5))⟩, ⟨(some 70), (some (68, true)), (.ld none (.s 69))⟩, ⟨(some 71), (some (68, true)), (.len .sl (.s 70))⟩, ⟨(some 72), (some (68, true)), (.fld 0 (.s 7))⟩, ⟨(some 73), (some (68, true)), (.ld none (.s 72))⟩, ⟨(some 74), (some (68, true)), (.len .sl (.s 73))⟩, ⟨(some 75), (some (68, true)), (.bin .add (.s 71) (.s 74))⟩, ⟨(some 76), (some (68, true)), (.bin .eql (.s 75) (.c (.int .i64 0)))⟩, ⟨(some 77), none, (.pick (.s 68) (.s 76) (.c (.bool false)))⟩, ⟨(some 4), none, (.mov (.s 77))⟩]) .ret) .skip)) (.seq (.regD [⟨(some 78), none, (.fld 3 (.s 3))⟩, ⟨(some 79), none, (.ld none (.s 78))⟩, ⟨(some 80), none, (.bin .gtr (.s 79) (.c (.int .u32 0)))⟩, ⟨(some 81), none, (.fld 3 (.s 3))⟩, ⟨(some 82), none, (.ld none (.s 81))⟩, ⟨(some 83), none, (.bin .gtr (.s 82) (.c (.int .u32 0)))⟩, ⟨(some 84), none, (.mov (.s 83))⟩, ⟨(some 85), (some (84, true)), (.fld 2 (.s 3))⟩, ⟨(some 86), (some (84, true)), (.ld none (.s 85))⟩, ⟨(some 87), (some (84, true)), (.bin .gtr (.s 86) (.c (.int .u32 0)))⟩, ⟨(some 88), none, (.pick (.s 84) (.s 87) (.c (.bool false)))⟩, ⟨(some 9), none, (.mov (.s 80))⟩, ⟨(some 10), none, (.mov (.s 88))⟩] [(0, (false, [])), (1, (false, [])), (2, (false, [])), (3, (false, [])), (4, (false, [])), (5, (false, [])), (6, (false, [])), (7, (false, [])), (8, (false, [])), (9, (false, [])), (10, (false, [])), (11, (false, [])), (12, (false, []))]) (.seq (.seq (.reg [⟨(some 89), none, (.fld 0 (.s 3))⟩, ⟨(some 90), none, (.ld none (.s 89))⟩, ⟨(some 91), none, (.len .sl (.s 90))⟩, ⟨(some 92), none, (.mov (.c (.int .i64 0)))⟩]) (.block 0 (.loop [9, 92] [9, 12, 92, 93, 94, 95, 96, 97, 98, 99, 100, 101, 102, 103, 104, 105, 106, 107] (.seq (.reg [⟨(some 93), none, (.bin .lss (.s 92) (.s 91))⟩]) (.seq (.cond (.s 93) .skip (.exit 0)) (.seq (.block 1 (.seq (.reg [⟨(some 94), none, (.idx 3 (.s 90) (.s 92))⟩, ⟨(some 95), none, (.ld (some 3) (.s 94))⟩, ⟨(some 12), none, (.alloc [(.int .u32 0), (.int .u32 0), (.bool false)])⟩, ⟨none, none, (.st 3 (.s 12) (.s 95))⟩]) (.reg [⟨(some 96), none, (.mov (.s 9))⟩, ⟨(some 97), none, (.mov (.s 96))⟩, ⟨(some 98), (some (97, true)), (.fld 0 (.s 12))⟩, ⟨(some 99), (some (97, true)), (.ld none (.s 98))⟩, ⟨(some 100), (some (97, true)), (.bin .gtr (.s 99) (.c (.int .u32 0)))⟩, ⟨(some 101), none, (.pick (.s 97) (.s 100) (.c (.bool false)))⟩, ⟨(some 102), none, (.mov (.s 101))⟩, ⟨(some 103), (some (102, true)), (.fld 1 (.s 12))⟩, ⟨(some 104), (some (102, true)), (.ld none (.s 103))⟩, ⟨(some 105), (some (102, true)), (.bin .gtr (.s 104) (.c (.int .u32 0)))⟩, ⟨(some 106), none, (.pick (.s 102) (.s 105) (.c (.bool false)))⟩, ⟨(some 9), none, (.mov (.s 106))⟩]))) (.reg [⟨(some 107), none, (.bin .add (.s 92) (.c (.int .i64 1)))⟩, ⟨(some 92), none, (.mov (.s 107))⟩]))))))) (.seq (.seq (.reg [⟨(some 108), none, (.fld 1 (.s 3))⟩, ⟨(some 109), none, (.ld none (.s 108))⟩, ⟨(some 110), none, (.len .sl (.s 109))⟩, ⟨(some 111), none, (.mov (.c (.int .i64 0)))⟩]) (.block 2 (.loop [10, 111] [10, 14, 111, 112, 113, 114, 115, 116, 117, 118, 119, 120] (.seq (.reg [⟨(some 112), none, (.bin .lss (.s 111) (.s 110))⟩]) (.seq (.cond (.s 112) .skip (.exit 2)) (.seq (.block 3 (.seq (.reg [⟨(some 113), none, (.idx 1 (.s 109) (.s 111))⟩, ⟨(some 114), none, (.ld none (.s 113))⟩, ⟨(some 14), none, (.mov (.s 114))⟩]) (.reg [⟨(some 115), none, (.mov (.s 10))⟩, ⟨(some 116), none, (.mov (.s 115))⟩, ⟨(some 117), (some (116, true)), (.mov (.s 14))⟩, ⟨(some 118), (some (116, true)), (.bin .gtr (.s 117) (.c (.int .u32 0)))⟩, ⟨(some 119), none, (.pick (.s 116) (.s 118) (.c (.bool false)))⟩, ⟨(some 10), none, (.mov (.s 119))⟩]))) (.reg [⟨(some 120), none, (.bin .add (.s 111) (.c (.int .i64 1)))⟩, ⟨(some 111), none, (.mov (.s 120))⟩]))))))) (.seq (.regD [⟨(some 121), none, (.ld (some 1) (.s 5))⟩, ⟨(some 122), none, (.mov (.s 6))⟩, ⟨(some 123), none, (.mov (.s 9))⟩, ⟨(some 124), none, (.ld (some 1) (.s 2))⟩, ⟨(some 125), none, (.fld 0 (.s 3))⟩, ⟨(some 126), none, (.ld none (.s 125))⟩, ⟨(some 127), none, (.fld 3 (.s 3))⟩, ⟨(some 128), none, (.ld none (.s 127))⟩, ⟨(some 129), none, (.call (.c (.fn (.func n_gazetteerref15_Split) [] [])) [(.s 124), (.s 126), (.s 128)])⟩, ⟨(some 130), none, (.call (.c (.fn (.func n_gazetteerlaw15_told) [] [])) [(.s 121), (.s 122), (.s 123), (.s 129)])⟩, ⟨(some 131), none, (.mov (.s 130))⟩, ⟨(some 132), (some (131, true)), (.ld (some 1) (.s 7))⟩, ⟨(some 133), (some (131, true)), (.mov (.s 8))⟩, ⟨(some 134), (some (131, true)), (.mov (.s 10))⟩, ⟨(some 135), (some (131, true)), (.ld (some 1) (.s 2))⟩, ⟨(some 136), (some (131, true)), (.fld 1 (.s 3))⟩, ⟨(some 137), (some (131, true)), (.ld none (.s 136))⟩, ⟨(some 138), (some (131, true)), (.fld 2 (.s 3))⟩, ⟨(some 139), (some (131, true)), (.ld none (.s 138))⟩, ⟨(some 140), (some (131, true)), (.fld 3 (.s 3))⟩, ⟨(some 141), (some (131, true)), (.ld none (.s 140))⟩, ⟨(some 142), (some (131, true)), (.call (.c (.fn (.func n_gazetteerref15_Gone) [] [])) [(.s 135), (.s 137), (.s 139), (.s 141)])⟩, ⟨(some 143), (some (131, true)), (.call (.c (.fn (.func n_gazetteerlaw15_told) [] [])) [(.s 132), (.s 133), (.s 134), (.s 142)])⟩, ⟨(some 144), none, (.pick (.s 131) (.s 143) (.c (.bool false)))⟩, ⟨(some 4), none, (.mov (.s 144))⟩] [(0, (false, [])), (1, (false, [])), (2, (false, [])), (3, (false, [])), (4, (false, [])), (5, (false, [])), (6, (false, [])), (7, (false, [])), (8, (true, [2, 1, 0])), (9, (true, [])), (10, (false, [])), (11, (false, [])), (12, (false, [])), (13, (false, [])), (14, (false, [])), (15, (false, [])), (16, (false, [])), (17, (false, [])), (18, (false, [])), (19, (false, [])), (20, (false, [])), (21, (true, [13, 12, 11])), (22, (true, [])), (23, (false, [])), (24, (false, []))]) .ret))))))))))
def F_gazetteerlaw15_PredMoves (P : Program) (a0 a1 : V) (st : St) (K : V → St → Prop) : Prop :=
  @stp P (.box (.c a0)) st ⟨fun v2 st =>
  @stp P (.box (.c a1)) st ⟨fun v3 st =>
  @stp P (.call (.c (.fn (.func n_gazetteerlaw15_wakes) [] [])) []) st ⟨fun v15 st =>
  @stp P (.un .not (.c v15)) st ⟨fun v16 st =>
  @cnd v16 ⟨
    GhostV [(.bool false)] st fun vs st => K (mkres vs) st⟩
  ⟨
    @stp P (.fld 0 (.c v2)) st ⟨fun v17 st =>
    @stp P (.ld none (.c v17)) st ⟨fun v18 st =>
    @stp P (.len .sl (.c v18)) st ⟨fun v19 st =>
    @stp P (.bin .gtr (.c v19) (.c (.int .i64 800))) st ⟨fun v20 st =>
    @gst P v20 false (.fld 0 (.c v3)) st ⟨fun v22 st =>
    @gst P v20 false (.ld none (.c v22)) st ⟨fun v23 st =>
    @gst P v20 false (.len .sl (.c v23)) st ⟨fun v24 st =>
    @gst P v20 false (.bin .gtr (.c v24) (.c (.int .i64 12))) st ⟨fun v25 st =>
    @stp P (.pick (.c v20) (.c (.bool true)) (.c v25)) st ⟨fun v26 st =>
    @gst P v26 false (.fld 1 (.c v3)) st ⟨fun v28 st =>
    @gst P v26 false (.ld none (.c v28)) st ⟨fun v29 st =>
    @gst P v26 false (.len .sl (.c v29)) st ⟨fun v30 st =>
    @gst P v26 false (.bin .gtr (.c v30) (.c (.int .i64 50))) st ⟨fun v31 st =>
    @stp P (.pick (.c v26) (.c (.bool true)) (.c v31)) st ⟨fun v32 st =>
    @cnd v32 ⟨
      GhostV [(.bool true)] st fun vs st => K (mkres vs) st⟩
    ⟨
      @stpD P (.ld (some 1) (.c v2)) st ⟨fun v34 st =>
      @stpD P (.fld 0 (.c v3)) st ⟨fun v37 st =>
      @stpD P (.ld none (.c v37)) st ⟨fun v38 st =>
      @stpD P (.fld 3 (.c v3)) st ⟨fun v40 st =>
      @stpD P (.ld none (.c v40)) st ⟨fun v41 st =>
      @stpD P (.call (.c (.fn (.func n_gazetteerlaw15_copied) [] [])) [(.c v34)]) st ⟨fun v35 st =>
      hwat P none (.ld none (.c v40)) st v41 ∧ (
      hwat P none (.fld 3 (.c v3)) st v40 ∧ (
      hwat P none (.ld none (.c v37)) st v38 ∧ (
      hwat P none (.fld 0 (.c v3)) st v37 ∧ (
      hwat P none (.mov (.c (.sl .cap0 3 [] []))) st (.sl .cap0 3 [] []) ∧ (
      @stpD P (.appf 3 12 (.c (.sl .cap0 3 [] [])) (.c v38)) st ⟨fun v39 st =>
      @stpD P (.call (.c (.fn (.func n_pred_Split) [] [])) [(.c v35), (.c v39), (.c v41)]) st ⟨fun v42 st =>
      @stpD P (.ext 0 (.c v42)) st ⟨fun v43 st =>
      @stpD P (.ext 1 (.c v42)) st ⟨fun v44 st =>
      @stpD P (.alloc [(.sl .nil 0 [] [])]) st ⟨fun v5 st =>
      @stpD P (.st 1 (.c v5) (.c v43)) st ⟨fun _v st =>
      @stpD P (.ld (some 1) (.c v2)) st ⟨fun v46 st =>
      @stpD P (.fld 1 (.c v3)) st ⟨fun v49 st =>
      @stpD P (.ld none (.c v49)) st ⟨fun v50 st =>
      @stpD P (.fld 2 (.c v3)) st ⟨fun v52 st =>
      @stpD P (.ld none (.c v52)) st ⟨fun v53 st =>
      @stpD P (.fld 3 (.c v3)) st ⟨fun v54 st =>
      @stpD P (.ld none (.c v54)) st ⟨fun v55 st =>
      @stpD P (.call (.c (.fn (.func n_gazetteerlaw15_copied) [] [])) [(.c v46)]) st ⟨fun v47 st =>
      hwat P none (.ld none (.c v54)) st v55 ∧ (
      hwat P none (.fld 3 (.c v3)) st v54 ∧ (
      hwat P none (.ld none (.c v52)) st v53 ∧ (
      hwat P none (.fld 2 (.c v3)) st v52 ∧ (
      hwat P none (.ld none (.c v49)) st v50 ∧ (
      hwat P none (.fld 1 (.c v3)) st v49 ∧ (
      hwat P none (.mov (.c (.sl .cap0 1 [] []))) st (.sl .cap0 1 [] []) ∧ (
      @stpD P (.appf 1 4 (.c (.sl .cap0 1 [] [])) (.c v50)) st ⟨fun v51 st =>
      @stpD P (.call (.c (.fn (.func n_pred_Gone) [] [])) [(.c v47), (.c v51), (.c v53), (.c v55)]) st ⟨fun v56 st =>
      @stpD P (.ext 0 (.c v56)) st ⟨fun v57 st =>
      @stpD P (.ext 1 (.c v56)) st ⟨fun v58 st =>
      @stpD P (.alloc [(.sl .nil 0 [] [])]) st ⟨fun v7 st =>
      @stpD P (.st 1 (.c v7) (.c v57)) st ⟨fun _v st =>
      @stp P (.ld (some 1) (.c v2)) st ⟨fun v59 st =>
      @stp P (.call (.c (.fn (.func n_gazetteerref15_Right) [] [])) [(.c v59)]) st ⟨fun v60 st =>
      @stp P (.un .not (.c v60)) st ⟨fun v61 st =>
      @cnd v61 ⟨
        @stp P (.bin .eql (.c v44) (.c (.int .i64 250))) st ⟨fun v63 st =>
        @gst P v63 true (.mov (.c v58)) st ⟨fun v65 st =>
        @gst P v63 true (.bin .eql (.c v65) (.c (.int .i64 250))) st ⟨fun v66 st =>
        @stp P (.pick (.c v63) (.c v66) (.c (.bool false))) st ⟨fun v67 st =>
        @gst P v67 true (.fld 0 (.c v5)) st ⟨fun v69 st =>
        @gst P v67 true (.ld none (.c v69)) st ⟨fun v70 st =>
        @gst P v67 true (.len .sl (.c v70)) st ⟨fun v71 st =>
        @gst P v67 true (.fld 0 (.c v7)) st ⟨fun v72 st =>
        @gst P v67 true (.ld none (.c v72)) st ⟨fun v73 st =>
        @gst P v67 true (.len .sl (.c v73)) st ⟨fun v74 st =>
        @gst P v67 true (.bin .add (.c v71) (.c v74)) st ⟨fun v75 st =>
        @gst P v67 true (.bin .eql (.c v75) (.c (.int .i64 0))) st ⟨fun v76 st =>
        @stp P (.pick (.c v67) (.c v76) (.c (.bool false))) st ⟨fun v77 st =>
        GhostV [v77] st fun vs st => K (mkres vs) st⟩⟩⟩⟩⟩⟩⟩⟩⟩⟩⟩⟩⟩⟩
      ⟨
        @stpD P (.fld 3 (.c v3)) st ⟨fun v78 st =>
        @stpD P (.ld none (.c v78)) st ⟨fun v79 st =>
        @stpD P (.bin .gtr (.c v79) (.c (.int .u32 0))) st ⟨fun v80 st =>
        @stpD P (.fld 3 (.c v3)) st ⟨fun v81 st =>
        @stpD P (.ld none (.c v81)) st ⟨fun v82 st =>
        @stpD P (.bin .gtr (.c v82) (.c (.int .u32 0))) st ⟨fun v83 st =>
        @gstD P v83 true (.fld 2 (.c v3)) st ⟨fun v85 st =>
        @gstD P v83 true (.ld none (.c v85)) st ⟨fun v86 st =>
        @gstD P v83 true (.bin .gtr (.c v86) (.c (.int .u32 0))) st ⟨fun v87 st =>
        @stpD P (.pick (.c v83) (.c v87) (.c (.bool false))) st ⟨fun v88 st =>
        @stp P (.fld 0 (.c v3)) st ⟨fun v89 st =>
        @stp P (.ld none (.c v89)) st ⟨fun v90 st =>
        @stp P (.len .sl (.c v90)) st ⟨fun v91 st =>
        @Hold ⟨∃ I1 : Nat → Rel 2, (∃ k, GhostV [v80, (.int .i64 0)] st (app (I1 k))) ∧ ∀ k1 v9 v92, ∀ st, app (I1 k1) [v9, v92] st →
          @stp P (.bin .lss (.c v92) (.c v91)) st ⟨fun v93 st =>
          @cnd v93 ⟨
            @stp P (.idx 3 (.c v90) (.c v92)) st ⟨fun v94 st =>
            @stp P (.ld (some 3) (.c v94)) st ⟨fun v95 st =>
            @stp P (.alloc [(.int .u32 0), (.int .u32 0), (.bool false)]) st ⟨fun v12 st =>
            @stp P (.st 3 (.c v12) (.c v95)) st ⟨fun _v st =>
            @gst P v9 true (.fld 0 (.c v12)) st ⟨fun v98 st =>
            @gst P v9 true (.ld none (.c v98)) st ⟨fun v99 st =>
            @gst P v9 true (.bin .gtr (.c v99) (.c (.int .u32 0))) st ⟨fun v100 st =>
            @stp P (.pick (.c v9) (.c v100) (.c (.bool false))) st ⟨fun v101 st =>
            @gst P v101 true (.fld 1 (.c v12)) st ⟨fun v103 st =>
            @gst P v101 true (.ld none (.c v103)) st ⟨fun v104 st =>
            @gst P v101 true (.bin .gtr (.c v104) (.c (.int .u32 0))) st ⟨fun v105 st =>
            @stp P (.pick (.c v101) (.c v105) (.c (.bool false))) st ⟨fun v106 st =>
            @stp P (.bin .add (.c v92) (.c (.int .i64 1))) st ⟨fun v107 st =>
            ∃ j, j < k1 ∧ GhostV [v106, v107] st (app (I1 j))⟩⟩⟩⟩⟩⟩⟩⟩⟩⟩⟩⟩⟩⟩
          ⟨
            @stp P (.fld 1 (.c v3)) st ⟨fun v108 st =>
            @stp P (.ld none (.c v108)) st ⟨fun v109 st =>
            @stp P (.len .sl (.c v109)) st ⟨fun v110 st =>
            @Hold ⟨∃ I2 : Nat → Rel 2, (∃ k, GhostV [v88, (.int .i64 0)] st (app (I2 k))) ∧ ∀ k2 v10 v111, ∀ st, app (I2 k2) [v10, v111] st →
              @stp P (.bin .lss (.c v111) (.c v110)) st ⟨fun v112 st =>
              @cnd v112 ⟨
                @stp P (.idx 1 (.c v109) (.c v111)) st ⟨fun v113 st =>
                @stp P (.ld none (.c v113)) st ⟨fun v114 st =>
                @gst P v10 true (.mov (.c v114)) st ⟨fun v117 st =>
                @gst P v10 true (.bin .gtr (.c v117) (.c (.int .u32 0))) st ⟨fun v118 st =>
                @stp P (.pick (.c v10) (.c v118) (.c (.bool false))) st ⟨fun v119 st =>
                @stp P (.bin .add (.c v111) (.c (.int .i64 1))) st ⟨fun v120 st =>
                ∃ j, j < k2 ∧ GhostV [v119, v120] st (app (I2 j))⟩⟩⟩⟩⟩⟩⟩
              ⟨
                @stpD P (.ld (some 1) (.c v5)) st ⟨fun v121 st =>
                @stpD P (.ld (some 1) (.c v2)) st ⟨fun v124 st =>
                @stpD P (.fld 0 (.c v3)) st ⟨fun v125 st =>
                @stpD P (.ld none (.c v125)) st ⟨fun v126 st =>
                @stpD P (.fld 3 (.c v3)) st ⟨fun v127 st =>
                @stpD P (.ld none (.c v127)) st ⟨fun v128 st =>
                @stpD P (.call (.c (.fn (.func n_gazetteerref15_Split) [] [])) [(.c v124), (.c v126), (.c v128)]) st ⟨fun v129 st =>
                hwat P none (.mov (.c v9)) st v9 ∧ (
                hwat P none (.mov (.c v44)) st v44 ∧ (
                hwat P none (.ld (some 1) (.c v5)) st v121 ∧ (
                @stpD P (.call (.c (.fn (.func n_gazetteerlaw15_told) [] [])) [(.c v121), (.c v44), (.c v9), (.c v129)]) st ⟨fun v130 st =>
                @gstD P v130 true (.ld (some 1) (.c v7)) st ⟨fun v132 st =>
                @gstD P v130 true (.mov (.c v58)) st ⟨fun v133 st =>
                @gstD P v130 true (.mov (.c v10)) st ⟨fun v134 st =>
                @gstD P v130 true (.ld (some 1) (.c v2)) st ⟨fun v135 st =>
                @gstD P v130 true (.fld 1 (.c v3)) st ⟨fun v136 st =>
                @gstD P v130 true (.ld none (.c v136)) st ⟨fun v137 st =>
                @gstD P v130 true (.fld 2 (.c v3)) st ⟨fun v138 st =>
                @gstD P v130 true (.ld none (.c v138)) st ⟨fun v139 st =>
                @gstD P v130 true (.fld 3 (.c v3)) st ⟨fun v140 st =>
                @gstD P v130 true (.ld none (.c v140)) st ⟨fun v141 st =>
                @gstD P v130 true (.call (.c (.fn (.func n_gazetteerref15_Gone) [] [])) [(.c v135), (.c v137), (.c v139), (.c v141)]) st ⟨fun v142 st =>
                hwat P (some (v130, true)) (.mov (.c v10)) st v134 ∧ (
                hwat P (some (v130, true)) (.mov (.c v58)) st v133 ∧ (
                hwat P (some (v130, true)) (.ld (some 1) (.c v7)) st v132 ∧ (
                @gstD P v130 true (.call (.c (.fn (.func n_gazetteerlaw15_told) [] [])) [(.c v132), (.c v133), (.c v134), (.c v142)]) st ⟨fun v143 st =>
                @stpD P (.pick (.c v130) (.c v143) (.c (.bool false))) st ⟨fun v144 st =>
                GhostV [v144] st fun vs st => K (mkres vs) st⟩⟩)))⟩⟩⟩⟩⟩⟩⟩⟩⟩⟩⟩⟩)))⟩⟩⟩⟩⟩⟩⟩⟩⟩⟩⟩⟩⟩⟩⟩⟩⟩⟩⟩⟩⟩⟩⟩⟩⟩⟩⟩⟩⟩⟩⟩⟩⟩⟩⟩⟩⟩⟩⟩)))))))⟩⟩⟩⟩⟩⟩⟩⟩⟩⟩⟩⟩⟩⟩)))))⟩⟩⟩⟩⟩⟩⟩⟩⟩⟩⟩⟩⟩⟩⟩⟩⟩⟩⟩⟩⟩⟩⟩⟩⟩⟩
theorem q_gazetteerlaw15_PredMoves {P : Program} {a0 a1 : V} {st : St} {K : V → St → Prop} : F_gazetteerlaw15_PredMoves P a0 a1 st K = hwp P c_gazetteerlaw15_PredMoves (hretQ [.tmp 4] K) (enterFr [a0, a1]) st := by kernel_rfl
abbrev R_gazetteerlaw15_PredMoves (P : Program) : Prop := resFnH P n_gazetteerlaw15_PredMoves = some (145, c_gazetteerlaw15_PredMoves.er, [.tmp 4])
theorem A_gazetteerlaw15_PredMoves {P : Program} (h : R_gazetteerlaw15_PredMoves P) {a0 a1 : V} {st : St} {K : V → St → Prop} (hF : F_gazetteerlaw15_PredMoves P a0 a1 st K) : ACalls P n_gazetteerlaw15_PredMoves [a0, a1] st K :=
  ACalls_h h rfl (by simp) (q_gazetteerlaw15_PredMoves ▸ hF)

def c_gazetteerlaw15_wakes : ACode := (.seq (.reg [⟨(some 0), none, (.mov (.c (.bool false)))⟩]) (.seq (.reg [⟨(some 8), none, (.build [(.sl .nil 0 [] [])] [])⟩, ⟨(some 9), none, (.build [(.int .i64 0), (.int .i64 0), (.int .i64 0), (.int .i64 0)] [(1, (1, (.c (.int .i64 9)))), (3, (1, (.c (.int .i64 9))))])⟩, ⟨(some 10), none, (.build [(.int .u32 0), (.int .u64 0), (.int .i64 0), (.int .i64 0), (.int .i64 0), (.int .i64 0)] [(0, (1, (.c (.int .u32 1)))), (1, (1, (.c (.int .u64 7)))), (2, (4, (.s 9)))])⟩, ⟨(some 11), none, (.call (.c (.fn (.func n_pred_Attach) [] [])) [(.s 8), (.s 10)])⟩, ⟨(some 7), none, (.mov (.s 11))⟩, ⟨(some 12), none, (.ext 0 (.s 7))⟩, ⟨(some 13), none, (.ext 1 (.s 7))⟩, ⟨(some 1), none, (.alloc [(.sl .nil 0 [] [])])⟩, ⟨none, none, (.st 1 (.s 1) (.s 12))⟩, ⟨(some 2), none, (.mov (.s 13))⟩]) (.seq (.reg [⟨(some 15), none, (.ld (some 1) (.s 1))⟩, ⟨(some 16), none, (.build [(.int .u32 0), (.int .u32 0), (.bool false)] [(0, (1, (.c (.int .u32 1)))), (1, (1, (.c (.int .u32 2)))), (2, (1, (.c (.bool true))))])⟩, ⟨(some 17), none, (.mkSl 3 1 [(.int .u32 0), (.int .u32 0), (.bool false)] [(0, (.s 16))])⟩, ⟨(some 18), none, (.call (.c (.fn (.func n_pred_Split) [] [])) [(.s 15), (.s 17), (.c (.int .u32 3))])⟩, ⟨(some 14), none, (.mov (.s 18))⟩, ⟨(some 19), none, (.ext 0 (.s 14))⟩, ⟨(some 20), none, (.ext 1 (.s 14))⟩, ⟨(some 3), none, (.alloc [(.sl .nil 0 [] [])])⟩, ⟨none, none, (.st 1 (.s 3) (.s 19))⟩, ⟨(some 4), none, (.mov (.s 20))⟩]) (.seq (.reg [⟨(some 22), none, (.ld (some 1) (.s 3))⟩, ⟨(some 23), none, (.build [(.int .i64 0), (.int .i64 0), (.int .i64 0), (.int .i64 0)] [(0, (1, (.c (.int .i64 5)))), (1, (1, (.c (.int .i64 5)))), (2, (1, (.c (.int .i64 5)))), (3, (1, (.c (.int .i64 5))))])⟩, ⟨(some 24), none, (.call (.c (.fn (.func n_pred_Meets) [] [])) [(.s 22), (.c (.int .u32 3)), (.s 23), (.c (.int .u64 8))])⟩, ⟨(some 21), none, (.mov (.s 24))⟩, ⟨(some 25), none, (.ext 0 (.s 21))⟩, ⟨(some 26), none, (.ext 1 (.s 21))⟩, ⟨(some 5), none, (.mov (.s 25))⟩, ⟨(some 6), none, (.mov (.s 26))⟩]) (.seq (.reg [⟨(some 27), none, (.mov (.s 2))⟩, ⟨(some 28), none, (.bin .eql (.s 27) (.c (.int .i64 0)))⟩, ⟨(some 29), none, (.mov (.s 28))⟩, ⟨(some 30), (some (29, true)), (.mov (.s 4))⟩, ⟨(some 31), (some (29, true)), (.bin .eql (.s 30) (.c (.int .i64 0)))⟩, ⟨(some 32), none, (.pick (.s 29) (.s 31) (.c (.bool false)))⟩, ⟨(some 33), none, (.mov (.s 32))⟩, ⟨(some 34), (some (33, true)), (.mov (.s 6))⟩, ⟨(some 35), (some (33, true)), (.bin .eql (.s 34) (.c (.int .i64 0)))⟩, ⟨(some 36), none, (.pick (.s 33) (.s 35) (.c (.bool false)))⟩, ⟨(some 37), none, (.mov (.s 36))⟩, ⟨(some 38), (some (37, true)), (.fld 0 (.s 3))⟩, ⟨(some 39), (some (37, true)), (.ld none (.s 38))⟩, ⟨(some 40), (some (37, true)), (.len .sl (.s 39))⟩, ⟨(some 41), (some (37, true)), (.bin .eql (.s 40) (.c (.int .i64 3)))⟩, ⟨(some 42), none, (.pick (.s 37) (.s 41) (.c (.bool false)))⟩, ⟨(some 43), none, (.mov (.s 42))⟩, ⟨(some 44), (some (43, true)), (.mov (.s 5))⟩, ⟨(some 45), (some (43, true)), (.len .sl (.s 44))⟩, ⟨(some 46), (some (43, true)), (.bin .eql (.s 45) (.c (.int .i64 1)))⟩, ⟨(some 47), none, (.pick (.s 43) (.s 46) (.c (.bool false)))⟩, ⟨(some 48), none, (.mov (.s 47))⟩, ⟨(some 49), (some (48, true)), (.mov (.s 5))⟩, ⟨(some 50), (some (48, true)), (.idx 1 (.s 49) (.c (.int .i64 0)))⟩, ⟨(some 51), (some (48, true)), (.ld none (.s 50))⟩, ⟨(some 52), (some (48, true)), (.bin .eql (.s 51) (.c (.int .u64 7)))⟩, ⟨(some 53), none, (.pick (.s 48) (.s 52) (.c (.bool false)))⟩, ⟨(some 0), none, (.mov (.s 53))⟩]) .ret)))))
def F_gazetteerlaw15_wakes (P : Program) (st : St) (K : V → St → Prop) : Prop :=
  @stp P (.build [(.sl .nil 0 [] [])] []) st ⟨fun v8 st =>
  @stp P (.build [(.int .i64 0), (.int .i64 0), (.int .i64 0), (.int .i64 0)] [(1, 1, (.c (.int .i64 9))), (3, 1, (.c (.int .i64 9)))]) st ⟨fun v9 st =>
  @stp P (.build [(.int .u32 0), (.int .u64 0), (.int .i64 0), (.int .i64 0), (.int .i64 0), (.int .i64 0)] [(0, 1, (.c (.int .u32 1))), (1, 1, (.c (.int .u64 7))), (2, 4, (.c v9))]) st ⟨fun v10 st =>
  @stp P (.call (.c (.fn (.func n_pred_Attach) [] [])) [(.c v8), (.c v10)]) st ⟨fun v11 st =>
  @stp P (.ext 0 (.c v11)) st ⟨fun v12 st =>
  @stp P (.ext 1 (.c v11)) st ⟨fun v13 st =>
  @stp P (.alloc [(.sl .nil 0 [] [])]) st ⟨fun v1 st =>
  @stp P (.st 1 (.c v1) (.c v12)) st ⟨fun _v st =>
  @stp P (.ld (some 1) (.c v1)) st ⟨fun v15 st =>
  @stp P (.build [(.int .u32 0), (.int .u32 0), (.bool false)] [(0, 1, (.c (.int .u32 1))), (1, 1, (.c (.int .u32 2))), (2, 1, (.c (.bool true)))]) st ⟨fun v16 st =>
  @stp P (.mkSl 3 1 [(.int .u32 0), (.int .u32 0), (.bool false)] [(0, (.c v16))]) st ⟨fun v17 st =>
  @stp P (.call (.c (.fn (.func n_pred_Split) [] [])) [(.c v15), (.c v17), (.c (.int .u32 3))]) st ⟨fun v18 st =>
  @stp P (.ext 0 (.c v18)) st ⟨fun v19 st =>
  @stp P (.ext 1 (.c v18)) st ⟨fun v20 st =>
  @stp P (.alloc [(.sl .nil 0 [] [])]) st ⟨fun v3 st =>
  @stp P (.st 1 (.c v3) (.c v19)) st ⟨fun _v st =>
  @stp P (.ld (some 1) (.c v3)) st ⟨fun v22 st =>
  @stp P (.build [(.int .i64 0), (.int .i64 0), (.int .i64 0), (.int .i64 0)] [(0, 1, (.c (.int .i64 5))), (1, 1, (.c (.int .i64 5))), (2, 1, (.c (.int .i64 5))), (3, 1, (.c (.int .i64 5)))]) st ⟨fun v23 st =>
  @stp P (.call (.c (.fn (.func n_pred_Meets) [] [])) [(.c v22), (.c (.int .u32 3)), (.c v23), (.c (.int .u64 8))]) st ⟨fun v24 st =>
  @stp P (.ext 0 (.c v24)) st ⟨fun v25 st =>
  @stp P (.ext 1 (.c v24)) st ⟨fun v26 st =>
  @stp P (.bin .eql (.c v13) (.c (.int .i64 0))) st ⟨fun v28 st =>
  @gst P v28 true (.mov (.c v20)) st ⟨fun v30 st =>
  @gst P v28 true (.bin .eql (.c v30) (.c (.int .i64 0))) st ⟨fun v31 st =>
  @stp P (.pick (.c v28) (.c v31) (.c (.bool false))) st ⟨fun v32 st =>
  @gst P v32 true (.mov (.c v26)) st ⟨fun v34 st =>
  @gst P v32 true (.bin .eql (.c v34) (.c (.int .i64 0))) st ⟨fun v35 st =>
  @stp P (.pick (.c v32) (.c v35) (.c (.bool false))) st ⟨fun v36 st =>
  @gst P v36 true (.fld 0 (.c v3)) st ⟨fun v38 st =>
  @gst P v36 true (.ld none (.c v38)) st ⟨fun v39 st =>
  @gst P v36 true (.len .sl (.c v39)) st ⟨fun v40 st =>
  @gst P v36 true (.bin .eql (.c v40) (.c (.int .i64 3))) st ⟨fun v41 st =>
  @stp P (.pick (.c v36) (.c v41) (.c (.bool false))) st ⟨fun v42 st =>
  @gst P v42 true (.mov (.c v25)) st ⟨fun v44 st =>
  @gst P v42 true (.len .sl (.c v44)) st ⟨fun v45 st =>
  @gst P v42 true (.bin .eql (.c v45) (.c (.int .i64 1))) st ⟨fun v46 st =>
  @stp P (.pick (.c v42) (.c v46) (.c (.bool false))) st ⟨fun v47 st =>
  @gst P v47 true (.mov (.c v25)) st ⟨fun v49 st =>
  @gst P v47 true (.idx 1 (.c v49) (.c (.int .i64 0))) st ⟨fun v50 st =>
  @gst P v47 true (.ld none (.c v50)) st ⟨fun v51 st =>
  @gst P v47 true (.bin .eql (.c v51) (.c (.int .u64 7))) st ⟨fun v52 st =>
  @stp P (.pick (.c v47) (.c v52) (.c (.bool false))) st ⟨fun v53 st =>
  GhostV [v53] st fun vs st => K (mkres vs) st⟩⟩⟩⟩⟩⟩⟩⟩⟩⟩⟩⟩⟩⟩⟩⟩⟩⟩⟩⟩⟩⟩⟩⟩⟩⟩⟩⟩⟩⟩⟩⟩⟩⟩⟩⟩⟩⟩⟩⟩⟩⟩
theorem q_gazetteerlaw15_wakes {P : Program} {st : St} {K : V → St → Prop} : F_gazetteerlaw15_wakes P  st K = hwp P c_gazetteerlaw15_wakes (hretQ [.tmp 0] K) (enterFr []) st := by kernel_rfl
abbrev R_gazetteerlaw15_wakes (P : Program) : Prop := resFnH P n_gazetteerlaw15_wakes = some (54, c_gazetteerlaw15_wakes.er, [.tmp 0])
theorem A_gazetteerlaw15_wakes {P : Program} (h : R_gazetteerlaw15_wakes P) {st : St} {K : V → St → Prop} (hF : F_gazetteerlaw15_wakes P  st K) : ACalls P n_gazetteerlaw15_wakes [] st K :=
  ACalls_h h rfl (by simp) (q_gazetteerlaw15_wakes ▸ hF)

def c_pred_Meets : ACode := (.seq (.reg [⟨(some 4), none, (.box (.s 0))⟩, ⟨(some 6), none, (.box (.s 2))⟩, ⟨(some 7), none, (.box (.s 3))⟩, ⟨(some 8), none, (.mov (.c (.sl .nil 0 [] [])))⟩, ⟨(some 9), none, (.mov (.c (.int .i64 0)))⟩]) (.seq (.block 0 (.seq (.reg [⟨(some 13), none, (.ld (some 1) (.s 4))⟩, ⟨(some 14), none, (.call (.c (.fn (.func n_pred_Check) [] [])) [(.s 13)])⟩, ⟨(some 15), none, (.bin .neq (.s 14) (.c (.int .i64 0)))⟩, ⟨(some 12), none, (.mov (.s 15))⟩]) (.cond (.s 12) (.seq (.reg [⟨(some 8), none, (.mov (.c (.sl .nil 0 [] [])))⟩, ⟨(some 9), none, (.mov (.c (.int .i64 250)))⟩]) .ret) (.seq (.reg [⟨(some 17), none, (.ld (some 4) (.s 6))⟩, ⟨(some 18), none, (.call (.c (.fn (.func n_pred_box) [] [])) [(.s 17)])⟩, ⟨(some 19), none, (.un .not (.s 18))⟩, ⟨(some 20), none, (.mov (.s 19))⟩, ⟨(some 21), (some (20, false)), (.mov (.s 1))⟩, ⟨(some 22), (some (20, false)), (.bin .eql (.s 21) (.c (.int .u32 0)))⟩, ⟨(some 23), none, (.pick (.s 20) (.c (.bool true)) (.s 22))⟩, ⟨(some 24), none, (.mov (.s 23))⟩, ⟨(some 25), (some (24, false)), (.ld none (.s 7))⟩, ⟨(some 26), (some (24, false)), (.bin .eql (.s 25) (.c (.int .u64 0)))⟩, ⟨(some 27), none, (.pick (.s 24) (.c (.bool true)) (.s 26))⟩, ⟨(some 16), none, (.mov (.s 27))⟩]) (.cond (.s 16) (.seq (.reg [⟨(some 8), none, (.mov (.c (.sl .nil 0 [] [])))⟩, ⟨(some 9), none, (.mov (.c (.int .i64 2)))⟩]) .ret) .skip))))) (.seq (.reg [⟨(some 10), none, (.alloc [(.sl .nil 0 [] [])])⟩]) (.seq (.seq (.reg [⟨(some 28), none, (.ld (some 1) (.s 4))⟩, ⟨(some 29), none, (.mov (.s 1))⟩, ⟨(some 30), none, (.call (.c (.fn (.func n_pred_at) [] [])) [(.s 28), (.s 29)])⟩]) (.block 1 (.rfunc (.s 30) [31] (.reg [⟨(some 11), none, (.alloc [(.int .u32 0), (.int .u64 0), (.int .i64 0), (.int .i64 0), (.int .i64 0), (.int .i64 0)])⟩, ⟨none, none, (.st 6 (.s 11) (.s 31))⟩]) (.block 2 (.seq (.reg [⟨(some 32), none, (.fld 1 (.s 11))⟩, ⟨(some 33), none, (.ld none (.s 32))⟩, ⟨(some 34), none, (.ld none (.s 7))⟩, ⟨(some 35), none, (.bin .neq (.s 33) (.s 34))⟩, ⟨(some 36), none, (.mov (.s 35))⟩, ⟨(some 37), (some (36, true)), (.fld 2 (.s 11))⟩, ⟨(some 38), (some (36, true)), (.ld (some 4) (.s 37))⟩, ⟨(some 39), (some (36, true)), (.ld (some 4) (.s 6))⟩, ⟨(some 40), (some (36, true)), (.call (.c (.fn (.func n_key_Meets) [] [])) [(.s 38), (.s 39)])⟩, ⟨(some 41), none, (.pick (.s 36) (.s 40) (.c (.bool false)))⟩]) (.cond (.s 41) (.reg [⟨(some 42), none, (.ld none (.s 10))⟩, ⟨(some 43), none, (.fld 1 (.s 11))⟩, ⟨(some 44), none, (.ld none (.s 43))⟩, ⟨(some 45), none, (.mkSl 1 1 [(.int .u64 0)] [(0, (.s 44))])⟩, ⟨(some 46), none, (.append 1 8 (.s 42) (.s 45))⟩, ⟨none, none, (.st 1 (.s 10) (.s 46))⟩]) .skip)))))) (.seq (.reg [⟨(some 47), none, (.ld none (.s 10))⟩, ⟨(some 48), none, (.call (.c (.fn (.func n_slices_Compact_uint64_uint64) [] [])) [(.s 47)])⟩, ⟨(some 8), none, (.mov (.s 48))⟩, ⟨(some 9), none, (.mov (.c (.int .i64 0)))⟩]) .ret)))))
def F_pred_Meets (P : Program) (a0 a1 a2 a3 : V) (st : St) (K : V → St → Prop) : Prop :=
  @stp P (.box (.c a0)) st ⟨fun v4 st =>
  @stp P (.box (.c a2)) st ⟨fun v6 st =>
  @stp P (.box (.c a3)) st ⟨fun v7 st =>
  @stp P (.ld (some 1) (.c v4)) st ⟨fun v13 st =>
  @stp P (.call (.c (.fn (.func n_pred_Check) [] [])) [(.c v13)]) st ⟨fun v14 st =>
  @stp P (.bin .neq (.c v14) (.c (.int .i64 0))) st ⟨fun v15 st =>
  @cnd v15 ⟨
    GhostV [(.sl .nil 0 [] []), (.int .i64 250)] st fun vs st => K (mkres vs) st⟩
  ⟨
    @stp P (.ld (some 4) (.c v6)) st ⟨fun v17 st =>
    @stp P (.call (.c (.fn (.func n_pred_box) [] [])) [(.c v17)]) st ⟨fun v18 st =>
    @stp P (.un .not (.c v18)) st ⟨fun v19 st =>
    @gst P v19 false (.mov (.c a1)) st ⟨fun v21 st =>
    @gst P v19 false (.bin .eql (.c v21) (.c (.int .u32 0))) st ⟨fun v22 st =>
    @stp P (.pick (.c v19) (.c (.bool true)) (.c v22)) st ⟨fun v23 st =>
    @gst P v23 false (.ld none (.c v7)) st ⟨fun v25 st =>
    @gst P v23 false (.bin .eql (.c v25) (.c (.int .u64 0))) st ⟨fun v26 st =>
    @stp P (.pick (.c v23) (.c (.bool true)) (.c v26)) st ⟨fun v27 st =>
    @cnd v27 ⟨
      GhostV [(.sl .nil 0 [] []), (.int .i64 2)] st fun vs st => K (mkres vs) st⟩
    ⟨
      @stp P (.alloc [(.sl .nil 0 [] [])]) st ⟨fun v10 st =>
      @stp P (.ld (some 1) (.c v4)) st ⟨fun v28 st =>
      @stp P (.call (.c (.fn (.func n_pred_at) [] [])) [(.c v28), (.c a1)]) st ⟨fun v30 st =>
      @Hold ⟨(fun s1 : St => ∀ LP1 : LSt → Obj,
        (∀ (st : St) (K : V → St → Prop) (v31 : V), st.get s1.objs.length s1.nv = some (LP1 .ready) → (
          @stp P (.alloc [(.int .u32 0), (.int .u64 0), (.int .i64 0), (.int .i64 0), (.int .i64 0), (.int .i64 0)]) st ⟨fun v11 st =>
          @stp P (.st 6 (.c v11) (.c v31)) st ⟨fun _v st =>
          st.get s1.objs.length s1.nv = some (LP1 .ready) ∧ (fun st : St =>
            @stp P (.fld 1 (.c v11)) st ⟨fun v32 st =>
            @stp P (.ld none (.c v32)) st ⟨fun v33 st =>
            @stp P (.ld none (.c v7)) st ⟨fun v34 st =>
            @stp P (.bin .neq (.c v33) (.c v34)) st ⟨fun v35 st =>
            @gst P v35 true (.fld 2 (.c v11)) st ⟨fun v37 st =>
            @gst P v35 true (.ld (some 4) (.c v37)) st ⟨fun v38 st =>
            @gst P v35 true (.ld (some 4) (.c v6)) st ⟨fun v39 st =>
            @gst P v35 true (.call (.c (.fn (.func n_key_Meets) [] [])) [(.c v38), (.c v39)]) st ⟨fun v40 st =>
            @stp P (.pick (.c v35) (.c v40) (.c (.bool false))) st ⟨fun v41 st =>
            @cnd v41 ⟨
              @stp P (.ld none (.c v10)) st ⟨fun v42 st =>
              @stp P (.fld 1 (.c v11)) st ⟨fun v43 st =>
              @stp P (.ld none (.c v43)) st ⟨fun v44 st =>
              @stp P (.mkSl 1 1 [(.int .u64 0)] [(0, (.c v44))]) st ⟨fun v45 st =>
              @stp P (.append 1 8 (.c v42) (.c v45)) st ⟨fun v46 st =>
              @stp P (.st 1 (.c v10) (.c v46)) st ⟨fun _v st =>
              st.get s1.objs.length s1.nv = some (LP1 .busy) ∧ K (.bool true) (st.setO s1.objs.length s1.nv (LP1 .ready))⟩⟩⟩⟩⟩⟩⟩
            ⟨
              st.get s1.objs.length s1.nv = some (LP1 .busy) ∧ K (.bool true) (st.setO s1.objs.length s1.nv (LP1 .ready))⟩⟩⟩⟩⟩⟩⟩⟩⟩⟩) (st.setO s1.objs.length s1.nv (LP1 .busy))⟩⟩) →
        AInv P (.yld s1.objs.length s1.nv) [v31] st K) →
        AInvE P v30 [.yld s1.objs.length s1.nv] (s1.push (LP1 .ready)) fun _ st => ∃ s, st.get s1.objs.length s1.nv = some (LP1 s) ∧ (fun st : St => hend s (
          @stp P (.ld none (.c v10)) st ⟨fun v47 st =>
          @stp P (.call (.c (.fn (.func n_slices_Compact_uint64_uint64) [] [])) [(.c v47)]) st ⟨fun v48 st =>
          GhostV [v48, (.int .i64 0)] st fun vs st => K (mkres vs) st⟩⟩)
        (
          GhostV [(.sl .nil 0 [] []), (.int .i64 0)] st fun vs st => K (mkres vs) st)
        (fun id : Nat =>           (if id = 1 then
            @stp P (.ld none (.c v10)) st ⟨fun v47 st =>
            @stp P (.call (.c (.fn (.func n_slices_Compact_uint64_uint64) [] [])) [(.c v47)]) st ⟨fun v48 st =>
            GhostV [v48, (.int .i64 0)] st fun vs st => K (mkres vs) st⟩⟩
          else
            False))) (st.gone s1.objs.length)) st⟩⟩⟩⟩⟩⟩⟩⟩⟩⟩⟩⟩⟩⟩⟩⟩⟩⟩⟩⟩⟩
theorem q_pred_Meets {P : Program} {a0 a1 a2 a3 : V} {st : St} {K : V → St → Prop} : F_pred_Meets P a0 a1 a2 a3 st K = hwp P c_pred_Meets (hretQ [.tmp 8, .tmp 9] K) (enterFr [a0, a1, a2, a3]) st := by kernel_rfl
abbrev R_pred_Meets (P : Program) : Prop := resFnH P n_pred_Meets = some (49, c_pred_Meets.er, [.tmp 8, .tmp 9])
theorem A_pred_Meets {P : Program} (h : R_pred_Meets P) {a0 a1 a2 a3 : V} {st : St} {K : V → St → Prop} (hF : F_pred_Meets P a0 a1 a2 a3 st K) : ACalls P n_pred_Meets [a0, a1, a2, a3] st K :=
  ACalls_h h rfl (by simp) (q_pred_Meets ▸ hF)

def c_gazetteerlaw15_copied : ACode := (.seq (.reg [⟨(some 1), none, (.box (.s 0))⟩, ⟨(some 2), none, (.alloc [(.sl .nil 0 [] [])])⟩]) (.seq (.reg [⟨(some 3), none, (.mkSl 6 0 [(.int .u32 0), (.int .u64 0), (.int .i64 0), (.int .i64 0), (.int .i64 0), (.int .i64 0)] [])⟩, ⟨(some 4), none, (.fld 0 (.s 1))⟩, ⟨(some 5), none, (.ld none (.s 4))⟩, ⟨(some 6), none, (.append 6 48 (.s 3) (.s 5))⟩, ⟨(some 7), none, (.build [(.sl .nil 0 [] [])] [(0, (1, (.s 6)))])⟩, ⟨none, none, (.st 1 (.s 2) (.s 7))⟩]) .ret))
def F_gazetteerlaw15_copied (P : Program) (a0 : V) (st : St) (K : V → St → Prop) : Prop :=
  @stp P (.box (.c a0)) st ⟨fun v1 st =>
  @stp P (.alloc [(.sl .nil 0 [] [])]) st ⟨fun v2 st =>
  @stp P (.mkSl 6 0 [(.int .u32 0), (.int .u64 0), (.int .i64 0), (.int .i64 0), (.int .i64 0), (.int .i64 0)] []) st ⟨fun v3 st =>
  @stp P (.fld 0 (.c v1)) st ⟨fun v4 st =>
  @stp P (.ld none (.c v4)) st ⟨fun v5 st =>
  @stp P (.append 6 48 (.c v3) (.c v5)) st ⟨fun v6 st =>
  @stp P (.build [(.sl .nil 0 [] [])] [(0, 1, (.c v6))]) st ⟨fun v7 st =>
  @stp P (.st 1 (.c v2) (.c v7)) st ⟨fun _v st =>
  @ldr (some 1) v2 st ⟨fun r1 =>
  GhostV [r1] st fun vs st => K (mkres vs) st⟩⟩⟩⟩⟩⟩⟩⟩⟩
theorem q_gazetteerlaw15_copied {P : Program} {a0 : V} {st : St} {K : V → St → Prop} : F_gazetteerlaw15_copied P a0 st K = hwp P c_gazetteerlaw15_copied (hretQ [.cell 2 (some 1)] K) (enterFr [a0]) st := by kernel_rfl
abbrev R_gazetteerlaw15_copied (P : Program) : Prop := resFnH P n_gazetteerlaw15_copied = some (8, c_gazetteerlaw15_copied.er, [.cell 2 (some 1)])
theorem A_gazetteerlaw15_copied {P : Program} (h : R_gazetteerlaw15_copied P) {a0 : V} {st : St} {K : V → St → Prop} (hF : F_gazetteerlaw15_copied P a0 st K) : ACalls P n_gazetteerlaw15_copied [a0] st K :=
  ACalls_h h rfl (by simp) (q_gazetteerlaw15_copied ▸ hF)

def c_gazetteerref15_Right : ACode := (.seq (.reg [⟨(some 1), none, (.box (.s 0))⟩, ⟨(some 2), none, (.mov (.c (.bool false)))⟩]) (.seq (.seq (.reg [⟨(some 3), none, (.mov (.c (.int .i64 0)))⟩]) (.block 0 (.loop [3] [2, 3, 4, 5, 6, 7, 8, 9, 10, 11, 12, 13, 14, 15, 16, 17, 18, 19, 20, 21, 22, 23, 24, 25, 26, 27, 28, 29, 30, 31, 32, 33, 34, 35, 36, 37, 38, 39, 40] (.seq (.seq (.reg [⟨(some 4), none, (.mov (.s 3))⟩, ⟨(some 5), none, (.fld 0 (.s 1))⟩, ⟨(some 6), none, (.ld none (.s 5))⟩, ⟨(some 7), none, (.len .sl (.s 6))⟩, ⟨(some 8), none, (.bin .lss (.s 4) (.s 7))⟩]) (.cond (.s 8) .skip (.exit 0))) (.seq (.block 1 (.seq (.regD [⟨(some 11), none, (.mov (.s 3))⟩, ⟨(some 12), none, (.bin .eql (.s 11) (.c (.int .i64 512)))⟩, ⟨(some 13), none, (.mov (.s 12))⟩, ⟨(some 14), (some (13, false)), (.fld 0 (.s 1))⟩, ⟨(some 15), (some (13, false)), (.ld none (.s 14))⟩, ⟨(some 16), (some (13, false)), (.mov (.s 3))⟩, ⟨(some 17), (some (13, false)), (.idx 6 (.s 15) (.s 16))⟩, ⟨(some 18), (some (13, false)), (.ld (some 6) (.s 17))⟩, ⟨(some 19), (some (13, false)), (.call (.c (.fn (.func n_gazetteerref15_Mark) [] [])) [(.s 18)])⟩, ⟨(some 20), (some (13, false)), (.un .not (.s 19))⟩, ⟨(some 21), none, (.pick (.s 13) (.c (.bool true)) (.s 20))⟩, ⟨(some 22), none, (.mov (.s 21))⟩, ⟨(some 23), (some (22, false)), (.mov (.s 3))⟩, ⟨(some 24), (some (22, false)), (.bin .gtr (.s 23) (.c (.int .i64 0)))⟩, ⟨(some 25), (some (22, false)), (.mov (.s 24))⟩, ⟨(some 26), (some (25, true)), (.fld 0 (.s 1))⟩, ⟨(some 27), (some (25, true)), (.ld none (.s 26))⟩, ⟨(some 28), (some (25, true)), (.mov (.s 3))⟩, ⟨(some 29), (some (25, true)), (.bin .sub (.s 28) (.c (.int .i64 1)))⟩, ⟨(some 30), (some (25, true)), (.idx 6 (.s 27) (.s 29))⟩, ⟨(some 31), (some (25, true)), (.ld (some 6) (.s 30))⟩, ⟨(some 32), (some (25, true)), (.fld 0 (.s 1))⟩, ⟨(some 33), (some (25, true)), (.ld none (.s 32))⟩, ⟨(some 34), (some (25, true)), (.mov (.s 3))⟩, ⟨(some 35), (some (25, true)), (.idx 6 (.s 33) (.s 34))⟩, ⟨(some 36), (some (25, true)), (.ld (some 6) (.s 35))⟩, ⟨(some 37), (some (25, true)), (.call (.c (.fn (.func n_gazetteerref15_Less) [] [])) [(.s 31), (.s 36)])⟩, ⟨(some 38), (some (25, true)), (.un .not (.s 37))⟩, ⟨(some 39), (some (22, false)), (.pick (.s 25) (.s 38) (.c (.bool false)))⟩, ⟨(some 40), none, (.pick (.s 22) (.c (.bool true)) (.s 39))⟩] [(0, (false, [])), (1, (false, [])), (2, (false, [])), (3, (false, [])), (4, (false, [])), (5, (false, [])), (6, (false, [])), (7, (false, [])), (8, (true, [])), (9, (false, [])), (10, (false, [])), (11, (false, [])), (12, (false, [])), (13, (false, [])), (14, (false, [])), (15, (false, [])), (16, (false, [])), (17, (false, [])), (18, (false, [])), (19, (false, [])), (20, (false, [])), (21, (false, [])), (22, (false, [])), (23, (false, [])), (24, (false, [])), (25, (false, [])), (26, (true, [])), (27, (false, [])), (28, (false, [])), (29, (false, []))]) (.cond (.s 40) (.seq (.reg [⟨(some 2), none, (.mov (.c (.bool false)))⟩]) .ret) .skip))) (.reg [⟨(some 9), none, (.mov (.s 3))⟩, ⟨(some 10), none, (.bin .add (.s 9) (.c (.int .i64 1)))⟩, ⟨(some 3), none, (.mov (.s 10))⟩])))))) (.seq (.reg [⟨(some 2), none, (.mov (.c (.bool true)))⟩]) .ret)))
def F_gazetteerref15_Right (P : Program) (a0 : V) (st : St) (K : V → St → Prop) : Prop :=
  @stp P (.box (.c a0)) st ⟨fun v1 st =>
  @Hold ⟨∃ I1 : Nat → Rel 1, (∃ k, GhostV [(.int .i64 0)] st (app (I1 k))) ∧ ∀ k1 v3, ∀ st, app (I1 k1) [v3] st →
    @stp P (.fld 0 (.c v1)) st ⟨fun v5 st =>
    @stp P (.ld none (.c v5)) st ⟨fun v6 st =>
    @stp P (.len .sl (.c v6)) st ⟨fun v7 st =>
    @stp P (.bin .lss (.c v3) (.c v7)) st ⟨fun v8 st =>
    @cnd v8 ⟨
      @stpD P (.bin .eql (.c v3) (.c (.int .i64 512))) st ⟨fun v12 st =>
      @gstD P v12 false (.fld 0 (.c v1)) st ⟨fun v14 st =>
      @gstD P v12 false (.ld none (.c v14)) st ⟨fun v15 st =>
      @gstD P v12 false (.mov (.c v3)) st ⟨fun v16 st =>
      @gstD P v12 false (.idx 6 (.c v15) (.c v16)) st ⟨fun v17 st =>
      @gstD P v12 false (.ld (some 6) (.c v17)) st ⟨fun v18 st =>
      @gstD P v12 false (.call (.c (.fn (.func n_gazetteerref15_Mark) [] [])) [(.c v18)]) st ⟨fun v19 st =>
      @gstD P v12 false (.un .not (.c v19)) st ⟨fun v20 st =>
      @stpD P (.pick (.c v12) (.c (.bool true)) (.c v20)) st ⟨fun v21 st =>
      @gstD P v21 false (.mov (.c v3)) st ⟨fun v23 st =>
      @gstD P v21 false (.bin .gtr (.c v23) (.c (.int .i64 0))) st ⟨fun v24 st =>
      @gstD P v21 false (.mov (.c v24)) st ⟨fun v25 st =>
      @gstD P v25 true (.fld 0 (.c v1)) st ⟨fun v26 st =>
      @gstD P v25 true (.ld none (.c v26)) st ⟨fun v27 st =>
      @gstD P v25 true (.mov (.c v3)) st ⟨fun v28 st =>
      @gstD P v25 true (.bin .sub (.c v28) (.c (.int .i64 1))) st ⟨fun v29 st =>
      @gstD P v25 true (.idx 6 (.c v27) (.c v29)) st ⟨fun v30 st =>
      @gstD P v25 true (.ld (some 6) (.c v30)) st ⟨fun v31 st =>
      @gstD P v25 true (.fld 0 (.c v1)) st ⟨fun v32 st =>
      @gstD P v25 true (.ld none (.c v32)) st ⟨fun v33 st =>
      @gstD P v25 true (.mov (.c v3)) st ⟨fun v34 st =>
      @gstD P v25 true (.idx 6 (.c v33) (.c v34)) st ⟨fun v35 st =>
      @gstD P v25 true (.ld (some 6) (.c v35)) st ⟨fun v36 st =>
      @gstD P v25 true (.call (.c (.fn (.func n_gazetteerref15_Less) [] [])) [(.c v31), (.c v36)]) st ⟨fun v37 st =>
      @gstD P v25 true (.un .not (.c v37)) st ⟨fun v38 st =>
      @gstD P v21 false (.pick (.c v25) (.c v38) (.c (.bool false))) st ⟨fun v39 st =>
      @stpD P (.pick (.c v21) (.c (.bool true)) (.c v39)) st ⟨fun v40 st =>
      @cnd v40 ⟨
        GhostV [(.bool false)] st fun vs st => K (mkres vs) st⟩
      ⟨
        @stp P (.bin .add (.c v3) (.c (.int .i64 1))) st ⟨fun v10 st =>
        ∃ j, j < k1 ∧ GhostV [v10] st (app (I1 j))⟩⟩⟩⟩⟩⟩⟩⟩⟩⟩⟩⟩⟩⟩⟩⟩⟩⟩⟩⟩⟩⟩⟩⟩⟩⟩⟩⟩⟩⟩
    ⟨
      GhostV [(.bool true)] st fun vs st => K (mkres vs) st⟩⟩⟩⟩⟩⟩⟩
theorem q_gazetteerref15_Right {P : Program} {a0 : V} {st : St} {K : V → St → Prop} : F_gazetteerref15_Right P a0 st K = hwp P c_gazetteerref15_Right (hretQ [.tmp 2] K) (enterFr [a0]) st := by kernel_rfl
abbrev R_gazetteerref15_Right (P : Program) : Prop := resFnH P n_gazetteerref15_Right = some (41, c_gazetteerref15_Right.er, [.tmp 2])
theorem A_gazetteerref15_Right {P : Program} (h : R_gazetteerref15_Right P) {a0 : V} {st : St} {K : V → St → Prop} (hF : F_gazetteerref15_Right P a0 st K) : ACalls P n_gazetteerref15_Right [a0] st K :=
  ACalls_h h rfl (by simp) (q_gazetteerref15_Right ▸ hF)

def c_gazetteerref09_Box : ACode := (.seq (.reg [⟨(some 1), none, (.box (.s 0))⟩, ⟨(some 2), none, (.mov (.c (.bool false)))⟩]) (.seq (.reg [⟨(some 3), none, (.fld 0 (.s 1))⟩, ⟨(some 4), none, (.ld none (.s 3))⟩, ⟨(some 5), none, (.fld 1 (.s 1))⟩, ⟨(some 6), none, (.ld none (.s 5))⟩, ⟨(some 7), none, (.bin .leq (.s 4) (.s 6))⟩, ⟨(some 8), none, (.mov (.s 7))⟩, ⟨(some 9), (some (8, true)), (.fld 2 (.s 1))⟩, ⟨(some 10), (some (8, true)), (.ld none (.s 9))⟩, ⟨(some 11), (some (8, true)), (.fld 3 (.s 1))⟩, ⟨(some 12), (some (8, true)), (.ld none (.s 11))⟩, ⟨(some 13), (some (8, true)), (.bin .leq (.s 10) (.s 12))⟩, ⟨(some 14), none, (.pick (.s 8) (.s 13) (.c (.bool false)))⟩, ⟨(some 2), none, (.mov (.s 14))⟩]) .ret))
def F_gazetteerref09_Box (P : Program) (a0 : V) (st : St) (K : V → St → Prop) : Prop :=
  @stp P (.box (.c a0)) st ⟨fun v1 st =>
  @stp P (.fld 0 (.c v1)) st ⟨fun v3 st =>
  @stp P (.ld none (.c v3)) st ⟨fun v4 st =>
  @stp P (.fld 1 (.c v1)) st ⟨fun v5 st =>
  @stp P (.ld none (.c v5)) st ⟨fun v6 st =>
  @stp P (.bin .leq (.c v4) (.c v6)) st ⟨fun v7 st =>
  @gst P v7 true (.fld 2 (.c v1)) st ⟨fun v9 st =>
  @gst P v7 true (.ld none (.c v9)) st ⟨fun v10 st =>
  @gst P v7 true (.fld 3 (.c v1)) st ⟨fun v11 st =>
  @gst P v7 true (.ld none (.c v11)) st ⟨fun v12 st =>
  @gst P v7 true (.bin .leq (.c v10) (.c v12)) st ⟨fun v13 st =>
  @stp P (.pick (.c v7) (.c v13) (.c (.bool false))) st ⟨fun v14 st =>
  GhostV [v14] st fun vs st => K (mkres vs) st⟩⟩⟩⟩⟩⟩⟩⟩⟩⟩⟩⟩
theorem q_gazetteerref09_Box {P : Program} {a0 : V} {st : St} {K : V → St → Prop} : F_gazetteerref09_Box P a0 st K = hwp P c_gazetteerref09_Box (hretQ [.tmp 2] K) (enterFr [a0]) st := by kernel_rfl
abbrev R_gazetteerref09_Box (P : Program) : Prop := resFnH P n_gazetteerref09_Box = some (15, c_gazetteerref09_Box.er, [.tmp 2])
theorem A_gazetteerref09_Box {P : Program} (h : R_gazetteerref09_Box P) {a0 : V} {st : St} {K : V → St → Prop} (hF : F_gazetteerref09_Box P a0 st K) : ACalls P n_gazetteerref09_Box [a0] st K :=
  ACalls_h h rfl (by simp) (q_gazetteerref09_Box ▸ hF)

def c_gazetteerref15_Meets : ACode := (.seq (.reg [⟨(some 4), none, (.box (.s 0))⟩, ⟨(some 6), none, (.box (.s 2))⟩, ⟨(some 8), none, (.mov (.c (.sl .nil 0 [] [])))⟩]) (.seq (.reg [⟨(some 9), none, (.mov (.c (.sl .nil 0 [] [])))⟩]) (.seq (.seq (.reg [⟨(some 10), none, (.mov (.c (.int .i64 0)))⟩]) (.block 0 (.loop [9, 10] [9, 10, 11, 12, 13, 14, 15, 16, 17, 18, 19, 20, 21, 22, 23, 24, 25, 26, 27, 28, 29, 30, 31, 32, 33, 34, 35, 36, 37, 38, 39, 40, 41, 42, 43, 44, 45, 46, 47, 48, 49, 50, 51, 52, 53, 54, 55, 56, 57, 58, 59, 60] (.seq (.seq (.reg [⟨(some 12), none, (.mov (.s 10))⟩, ⟨(some 13), none, (.fld 0 (.s 4))⟩, ⟨(some 14), none, (.ld none (.s 13))⟩, ⟨(some 15), none, (.len .sl (.s 14))⟩, ⟨(some 16), none, (.bin .lss (.s 12) (.s 15))⟩]) (.cond (.s 16) .skip (.exit 0))) (.seq (.block 1 (.seq (.reg [⟨(some 19), none, (.fld 0 (.s 4))⟩, ⟨(some 20), none, (.ld none (.s 19))⟩, ⟨(some 21), none, (.mov (.s 10))⟩, ⟨(some 22), none, (.idx 6 (.s 20) (.s 21))⟩, ⟨(some 23), none, (.ld (some 6) (.s 22))⟩, ⟨(some 11), none, (.alloc [(.int .u32 0), (.int .u64 0), (.int .i64 0), (.int .i64 0), (.int .i64 0), (.int .i64 0)])⟩, ⟨none, none, (.st 6 (.s 11) (.s 23))⟩]) (.seq (.regD [⟨(some 24), none, (.fld 0 (.s 11))⟩, ⟨(some 25), none, (.ld none (.s 24))⟩, ⟨(some 26), none, (.mov (.s 1))⟩, ⟨(some 27), none, (.bin .eql (.s 25) (.s 26))⟩, ⟨(some 28), none, (.mov (.s 27))⟩, ⟨(some 29), (some (28, true)), (.fld 1 (.s 11))⟩, ⟨(some 30), (some (28, true)), (.ld none (.s 29))⟩, ⟨(some 31), (some (28, true)), (.mov (.s 3))⟩, ⟨(some 32), (some (28, true)), (.bin .neq (.s 30) (.s 31))⟩, ⟨(some 33), none, (.pick (.s 28) (.s 32) (.c (.bool false)))⟩, ⟨(some 34), none, (.mov (.s 33))⟩, ⟨(some 35), (some (34, true)), (.fld 2 (.s 11))⟩, ⟨(some 36), (some (34, true)), (.ld (some 4) (.s 35))⟩, ⟨(some 37), (some (34, true)), (.ld (some 4) (.s 6))⟩, ⟨(some 38), (some (34, true)), (.call (.c (.fn (.func n_gazetteerref09_Meets) [] [])) [(.s 36), (.s 37)])⟩, ⟨(some 39), none, (.pick (.s 34) (.s 38) (.c (.bool false)))⟩, ⟨(some 40), none, (.mov (.s 39))⟩, ⟨(some 41), (some (40, true)), (.mov (.s 9))⟩, ⟨(some 42), (some (40, true)), (.len .sl (.s 41))⟩, ⟨(some 43), (some (40, true)), (.bin .eql (.s 42) (.c (.int .i64 0)))⟩, ⟨(some 44), (some (40, true)), (.mov (.s 43))⟩, ⟨(some 45), (some (44, false)), (.mov (.s 9))⟩, ⟨(some 46), (some (44, false)), (.mov (.s 9))⟩, ⟨(some 47), (some (44, false)), (.len .sl (.s 46))⟩, ⟨(some 48), (some (44, false)), (.bin .sub (.s 47) (.c (.int .i64 1)))⟩, ⟨(some 49), (some (44, false)), (.idx 1 (.s 45) (.s 48))⟩, ⟨(some 50), (some (44, false)), (.ld none (.s 49))⟩, ⟨(some 51), (some (44, false)), (.fld 1 (.s 11))⟩, ⟨(some 52), (some (44, false)), (.ld none (.s 51))⟩, ⟨(some 53), (some (44, false)), (.bin .neq (.s 50) (.s 52))⟩, ⟨(some 54), (some (40, true)), (.pick (.s 44) (.c (.bool true)) (.s 53))⟩, ⟨(some 55), none, (.pick (.s 40) (.s 54) (.c (.bool false)))⟩] [(0, (false, [])), (1, (false, [])), (2, (false, [])), (3, (false, [])), (4, (false, [])), (5, (false, [])), (6, (false, [])), (7, (false, [])), (8, (false, [])), (9, (false, [])), (10, (false, [])), (11, (false, [])), (12, (false, [])), (13, (false, [])), (14, (true, [])), (15, (false, [])), (16, (false, [])), (17, (false, [])), (18, (false, [])), (19, (false, [])), (20, (false, [])), (21, (false, [])), (22, (false, [])), (23, (false, [])), (24, (false, [])), (25, (false, [])), (26, (false, [])), (27, (false, [])), (28, (false, [])), (29, (false, [])), (30, (false, [])), (31, (false, []))]) (.cond (.s 55) (.reg [⟨(some 56), none, (.mov (.s 9))⟩, ⟨(some 57), none, (.fld 1 (.s 11))⟩, ⟨(some 58), none, (.ld none (.s 57))⟩, ⟨(some 59), none, (.mkSl 1 1 [(.int .u64 0)] [(0, (.s 58))])⟩, ⟨(some 60), none, (.append 1 8 (.s 56) (.s 59))⟩, ⟨(some 9), none, (.mov (.s 60))⟩]) .skip)))) (.reg [⟨(some 17), none, (.mov (.s 10))⟩, ⟨(some 18), none, (.bin .add (.s 17) (.c (.int .i64 1)))⟩, ⟨(some 10), none, (.mov (.s 18))⟩])))))) (.seq (.reg [⟨(some 61), none, (.mov (.s 9))⟩, ⟨(some 8), none, (.mov (.s 61))⟩]) .ret))))
def F_gazetteerref15_Meets (P : Program) (a0 a1 a2 a3 : V) (st : St) (K : V → St → Prop) : Prop :=
  @stp P (.box (.c a0)) st ⟨fun v4 st =>
  @stp P (.box (.c a2)) st ⟨fun v6 st =>
  @Hold ⟨∃ I1 : Nat → Rel 2, (∃ k, GhostV [(.sl .nil 0 [] []), (.int .i64 0)] st (app (I1 k))) ∧ ∀ k1 v9 v10, ∀ st, app (I1 k1) [v9, v10] st →
    @stp P (.fld 0 (.c v4)) st ⟨fun v13 st =>
    @stp P (.ld none (.c v13)) st ⟨fun v14 st =>
    @stp P (.len .sl (.c v14)) st ⟨fun v15 st =>
    @stp P (.bin .lss (.c v10) (.c v15)) st ⟨fun v16 st =>
    @cnd v16 ⟨
      @stp P (.fld 0 (.c v4)) st ⟨fun v19 st =>
      @stp P (.ld none (.c v19)) st ⟨fun v20 st =>
      @stp P (.idx 6 (.c v20) (.c v10)) st ⟨fun v22 st =>
      @stp P (.ld (some 6) (.c v22)) st ⟨fun v23 st =>
      @stp P (.alloc [(.int .u32 0), (.int .u64 0), (.int .i64 0), (.int .i64 0), (.int .i64 0), (.int .i64 0)]) st ⟨fun v11 st =>
      @stp P (.st 6 (.c v11) (.c v23)) st ⟨fun _v st =>
      @stpD P (.fld 0 (.c v11)) st ⟨fun v24 st =>
      @stpD P (.ld none (.c v24)) st ⟨fun v25 st =>
      @stpD P (.bin .eql (.c v25) (.c a1)) st ⟨fun v27 st =>
      @gstD P v27 true (.fld 1 (.c v11)) st ⟨fun v29 st =>
      @gstD P v27 true (.ld none (.c v29)) st ⟨fun v30 st =>
      @gstD P v27 true (.mov (.c a3)) st ⟨fun v31 st =>
      @gstD P v27 true (.bin .neq (.c v30) (.c v31)) st ⟨fun v32 st =>
      @stpD P (.pick (.c v27) (.c v32) (.c (.bool false))) st ⟨fun v33 st =>
      @gstD P v33 true (.fld 2 (.c v11)) st ⟨fun v35 st =>
      @gstD P v33 true (.ld (some 4) (.c v35)) st ⟨fun v36 st =>
      @gstD P v33 true (.ld (some 4) (.c v6)) st ⟨fun v37 st =>
      @gstD P v33 true (.call (.c (.fn (.func n_gazetteerref09_Meets) [] [])) [(.c v36), (.c v37)]) st ⟨fun v38 st =>
      @stpD P (.pick (.c v33) (.c v38) (.c (.bool false))) st ⟨fun v39 st =>
      @gstD P v39 true (.mov (.c v9)) st ⟨fun v41 st =>
      @gstD P v39 true (.len .sl (.c v41)) st ⟨fun v42 st =>
      @gstD P v39 true (.bin .eql (.c v42) (.c (.int .i64 0))) st ⟨fun v43 st =>
      @gstD P v39 true (.mov (.c v43)) st ⟨fun v44 st =>
      @gstD P v44 false (.mov (.c v9)) st ⟨fun v45 st =>
      @gstD P v44 false (.mov (.c v9)) st ⟨fun v46 st =>
      @gstD P v44 false (.len .sl (.c v46)) st ⟨fun v47 st =>
      @gstD P v44 false (.bin .sub (.c v47) (.c (.int .i64 1))) st ⟨fun v48 st =>
      @gstD P v44 false (.idx 1 (.c v45) (.c v48)) st ⟨fun v49 st =>
      @gstD P v44 false (.ld none (.c v49)) st ⟨fun v50 st =>
      @gstD P v44 false (.fld 1 (.c v11)) st ⟨fun v51 st =>
      @gstD P v44 false (.ld none (.c v51)) st ⟨fun v52 st =>
      @gstD P v44 false (.bin .neq (.c v50) (.c v52)) st ⟨fun v53 st =>
      @gstD P v39 true (.pick (.c v44) (.c (.bool true)) (.c v53)) st ⟨fun v54 st =>
      @stpD P (.pick (.c v39) (.c v54) (.c (.bool false))) st ⟨fun v55 st =>
      @cnd v55 ⟨
        @stp P (.fld 1 (.c v11)) st ⟨fun v57 st =>
        @stp P (.ld none (.c v57)) st ⟨fun v58 st =>
        @stp P (.mkSl 1 1 [(.int .u64 0)] [(0, (.c v58))]) st ⟨fun v59 st =>
        @stp P (.append 1 8 (.c v9) (.c v59)) st ⟨fun v60 st =>
        @stp P (.bin .add (.c v10) (.c (.int .i64 1))) st ⟨fun v18 st =>
        ∃ j, j < k1 ∧ GhostV [v60, v18] st (app (I1 j))⟩⟩⟩⟩⟩⟩
      ⟨
        @stp P (.bin .add (.c v10) (.c (.int .i64 1))) st ⟨fun v18 st =>
        ∃ j, j < k1 ∧ GhostV [v9, v18] st (app (I1 j))⟩⟩⟩⟩⟩⟩⟩⟩⟩⟩⟩⟩⟩⟩⟩⟩⟩⟩⟩⟩⟩⟩⟩⟩⟩⟩⟩⟩⟩⟩⟩⟩⟩⟩⟩⟩⟩
    ⟨
      GhostV [v9] st fun vs st => K (mkres vs) st⟩⟩⟩⟩⟩⟩⟩⟩
theorem q_gazetteerref15_Meets {P : Program} {a0 a1 a2 a3 : V} {st : St} {K : V → St → Prop} : F_gazetteerref15_Meets P a0 a1 a2 a3 st K = hwp P c_gazetteerref15_Meets (hretQ [.tmp 8] K) (enterFr [a0, a1, a2, a3]) st := by kernel_rfl
abbrev R_gazetteerref15_Meets (P : Program) : Prop := resFnH P n_gazetteerref15_Meets = some (62, c_gazetteerref15_Meets.er, [.tmp 8])
theorem A_gazetteerref15_Meets {P : Program} (h : R_gazetteerref15_Meets P) {a0 a1 a2 a3 : V} {st : St} {K : V → St → Prop} (hF : F_gazetteerref15_Meets P a0 a1 a2 a3 st K) : ACalls P n_gazetteerref15_Meets [a0, a1, a2, a3] st K :=
  ACalls_h h rfl (by simp) (q_gazetteerref15_Meets ▸ hF)

def c_pred_Attach : ACode := (.seq (.reg [⟨(some 2), none, (.box (.s 0))⟩, ⟨(some 3), none, (.box (.s 1))⟩, ⟨(some 4), none, (.alloc [(.sl .nil 0 [] [])])⟩, ⟨(some 5), none, (.mov (.c (.int .i64 0)))⟩]) (.seq (.block 0 (.seq (.reg [⟨(some 7), none, (.ld (some 1) (.s 2))⟩, ⟨(some 8), none, (.call (.c (.fn (.func n_pred_Check) [] [])) [(.s 7)])⟩, ⟨(some 9), none, (.bin .neq (.s 8) (.c (.int .i64 0)))⟩, ⟨(some 6), none, (.mov (.s 9))⟩]) (.cond (.s 6) (.seq (.reg [⟨(some 10), none, (.build [(.sl .nil 0 [] [])] [])⟩, ⟨none, none, (.st 1 (.s 4) (.s 10))⟩, ⟨(some 5), none, (.mov (.c (.int .i64 250)))⟩]) .ret) (.seq (.reg [⟨(some 12), none, (.ld (some 6) (.s 3))⟩, ⟨(some 13), none, (.call (.c (.fn (.func n_pred_mark) [] [])) [(.s 12)])⟩, ⟨(some 14), none, (.un .not (.s 13))⟩, ⟨(some 11), none, (.mov (.s 14))⟩]) (.cond (.s 11) (.seq (.reg [⟨(some 15), none, (.build [(.sl .nil 0 [] [])] [])⟩, ⟨none, none, (.st 1 (.s 4) (.s 15))⟩, ⟨(some 5), none, (.mov (.c (.int .i64 2)))⟩]) .ret) .skip))))) (.seq (.reg [⟨(some 16), none, (.ld (some 1) (.s 2))⟩, ⟨(some 17), none, (.mkfn (.func n_pred_Attach_1) [] [(.s 3)])⟩, ⟨(some 18), none, (.call (.c (.fn (.func n_pred_change) [] [])) [(.s 16), (.s 17)])⟩, ⟨(some 19), none, (.ext 0 (.s 18))⟩, ⟨(some 20), none, (.ext 1 (.s 18))⟩, ⟨none, none, (.st 1 (.s 4) (.s 19))⟩, ⟨(some 5), none, (.mov (.s 20))⟩]) .ret)))
def F_pred_Attach (P : Program) (a0 a1 : V) (st : St) (K : V → St → Prop) : Prop :=
  @stp P (.box (.c a0)) st ⟨fun v2 st =>
  @stp P (.box (.c a1)) st ⟨fun v3 st =>
  @stp P (.alloc [(.sl .nil 0 [] [])]) st ⟨fun v4 st =>
  @stp P (.ld (some 1) (.c v2)) st ⟨fun v7 st =>
  @stp P (.call (.c (.fn (.func n_pred_Check) [] [])) [(.c v7)]) st ⟨fun v8 st =>
  @stp P (.bin .neq (.c v8) (.c (.int .i64 0))) st ⟨fun v9 st =>
  @cnd v9 ⟨
    @stp P (.build [(.sl .nil 0 [] [])] []) st ⟨fun v10 st =>
    @stp P (.st 1 (.c v4) (.c v10)) st ⟨fun _v st =>
    @ldr (some 1) v4 st ⟨fun r1 =>
    GhostV [r1, (.int .i64 250)] st fun vs st => K (mkres vs) st⟩⟩⟩⟩
  ⟨
    @stp P (.ld (some 6) (.c v3)) st ⟨fun v12 st =>
    @stp P (.call (.c (.fn (.func n_pred_mark) [] [])) [(.c v12)]) st ⟨fun v13 st =>
    @stp P (.un .not (.c v13)) st ⟨fun v14 st =>
    @cnd v14 ⟨
      @stp P (.build [(.sl .nil 0 [] [])] []) st ⟨fun v15 st =>
      @stp P (.st 1 (.c v4) (.c v15)) st ⟨fun _v st =>
      @ldr (some 1) v4 st ⟨fun r1 =>
      GhostV [r1, (.int .i64 2)] st fun vs st => K (mkres vs) st⟩⟩⟩⟩
    ⟨
      @stp P (.ld (some 1) (.c v2)) st ⟨fun v16 st =>
      @stp P (.mkfn (.func n_pred_Attach_1) [] [(.c v3)]) st ⟨fun v17 st =>
      @stp P (.call (.c (.fn (.func n_pred_change) [] [])) [(.c v16), (.c v17)]) st ⟨fun v18 st =>
      @stp P (.ext 0 (.c v18)) st ⟨fun v19 st =>
      @stp P (.ext 1 (.c v18)) st ⟨fun v20 st =>
      @stp P (.st 1 (.c v4) (.c v19)) st ⟨fun _v st =>
      @ldr (some 1) v4 st ⟨fun r1 =>
      GhostV [r1, v20] st fun vs st => K (mkres vs) st⟩⟩⟩⟩⟩⟩⟩⟩⟩⟩⟩⟩⟩⟩⟩⟩⟩⟩
theorem q_pred_Attach {P : Program} {a0 a1 : V} {st : St} {K : V → St → Prop} : F_pred_Attach P a0 a1 st K = hwp P c_pred_Attach (hretQ [.cell 4 (some 1), .tmp 5] K) (enterFr [a0, a1]) st := by kernel_rfl
abbrev R_pred_Attach (P : Program) : Prop := resFnH P n_pred_Attach = some (21, c_pred_Attach.er, [.cell 4 (some 1), .tmp 5])
theorem A_pred_Attach {P : Program} (h : R_pred_Attach P) {a0 a1 : V} {st : St} {K : V → St → Prop} (hF : F_pred_Attach P a0 a1 st K) : ACalls P n_pred_Attach [a0, a1] st K :=
  ACalls_h h rfl (by simp) (q_pred_Attach ▸ hF)

def c_gazetteerlaw15_PredKeeps_1 : ACode := (.seq (.reg [⟨(some 2), none, (.box (.s 0))⟩, ⟨(some 3), none, (.box (.s 1))⟩, ⟨(some 4), none, (.mov (.c (.bool false)))⟩]) (.seq (.seq (.reg [⟨(some 7), none, (.fld 0 (.s 2))⟩, ⟨(some 8), none, (.ld none (.s 7))⟩, ⟨(some 9), none, (.len .sl (.s 8))⟩, ⟨(some 10), none, (.mov (.c (.int .i64 0)))⟩]) (.block 0 (.loop [10] [4, 6, 10, 11, 12, 13, 14, 15, 16, 17] (.seq (.reg [⟨(some 11), none, (.bin .lss (.s 10) (.s 9))⟩]) (.seq (.cond (.s 11) .skip (.exit 0)) (.seq (.block 1 (.seq (.reg [⟨(some 12), none, (.idx 6 (.s 8) (.s 10))⟩, ⟨(some 13), none, (.ld (some 6) (.s 12))⟩, ⟨(some 6), none, (.alloc [(.int .u32 0), (.int .u64 0), (.int .i64 0), (.int .i64 0), (.int .i64 0), (.int .i64 0)])⟩, ⟨none, none, (.st 6 (.s 6) (.s 13))⟩]) (.seq (.reg [⟨(some 14), none, (.ld (some 6) (.s 6))⟩, ⟨(some 15), none, (.ld (some 6) (.s 3))⟩, ⟨(some 16), none, (.eqs false (.flat [.int, .int, .int, .int, .int, .int]) (.s 14) (.s 15))⟩]) (.cond (.s 16) (.seq (.reg [⟨(some 4), none, (.mov (.c (.bool true)))⟩]) .ret) .skip)))) (.reg [⟨(some 17), none, (.bin .add (.s 10) (.c (.int .i64 1)))⟩, ⟨(some 10), none, (.mov (.s 17))⟩]))))))) (.seq (.reg [⟨(some 4), none, (.mov (.c (.bool false)))⟩]) .ret)))
def F_gazetteerlaw15_PredKeeps_1 (P : Program) (a0 a1 : V) (st : St) (K : V → St → Prop) : Prop :=
  @stp P (.box (.c a0)) st ⟨fun v2 st =>
  @stp P (.box (.c a1)) st ⟨fun v3 st =>
  @stp P (.fld 0 (.c v2)) st ⟨fun v7 st =>
  @stp P (.ld none (.c v7)) st ⟨fun v8 st =>
  @stp P (.len .sl (.c v8)) st ⟨fun v9 st =>
  @Hold ⟨∃ I1 : Nat → Rel 1, (∃ k, GhostV [(.int .i64 0)] st (app (I1 k))) ∧ ∀ k1 v10, ∀ st, app (I1 k1) [v10] st →
    @stp P (.bin .lss (.c v10) (.c v9)) st ⟨fun v11 st =>
    @cnd v11 ⟨
      @stp P (.idx 6 (.c v8) (.c v10)) st ⟨fun v12 st =>
      @stp P (.ld (some 6) (.c v12)) st ⟨fun v13 st =>
      @stp P (.alloc [(.int .u32 0), (.int .u64 0), (.int .i64 0), (.int .i64 0), (.int .i64 0), (.int .i64 0)]) st ⟨fun v6 st =>
      @stp P (.st 6 (.c v6) (.c v13)) st ⟨fun _v st =>
      @stp P (.ld (some 6) (.c v6)) st ⟨fun v14 st =>
      @stp P (.ld (some 6) (.c v3)) st ⟨fun v15 st =>
      @stp P (.eqs false (.flat [.int, .int, .int, .int, .int, .int]) (.c v14) (.c v15)) st ⟨fun v16 st =>
      @cnd v16 ⟨
        GhostV [(.bool true)] st fun vs st => K (mkres vs) st⟩
      ⟨
        @stp P (.bin .add (.c v10) (.c (.int .i64 1))) st ⟨fun v17 st =>
        ∃ j, j < k1 ∧ GhostV [v17] st (app (I1 j))⟩⟩⟩⟩⟩⟩⟩⟩⟩⟩
    ⟨
      GhostV [(.bool false)] st fun vs st => K (mkres vs) st⟩⟩⟩⟩⟩⟩⟩⟩
theorem q_gazetteerlaw15_PredKeeps_1 {P : Program} {a0 a1 : V} {st : St} {K : V → St → Prop} : F_gazetteerlaw15_PredKeeps_1 P a0 a1 st K = hwp P c_gazetteerlaw15_PredKeeps_1 (hretQ [.tmp 4] K) (enterFr [a0, a1]) st := by kernel_rfl
abbrev R_gazetteerlaw15_PredKeeps_1 (P : Program) : Prop := resFnH P n_gazetteerlaw15_PredKeeps_1 = some (18, c_gazetteerlaw15_PredKeeps_1.er, [.tmp 4])
theorem A_gazetteerlaw15_PredKeeps_1 {P : Program} (h : R_gazetteerlaw15_PredKeeps_1 P) {a0 a1 : V} {st : St} {K : V → St → Prop} (hF : F_gazetteerlaw15_PredKeeps_1 P a0 a1 st K) : ACalls P n_gazetteerlaw15_PredKeeps_1 [a0, a1] st K :=
  ACalls_h h rfl (by simp) (q_gazetteerlaw15_PredKeeps_1 ▸ hF)

def c_pred_Split : ACode := (.seq (.reg [⟨(some 3), none, (.box (.s 0))⟩, ⟨(some 4), none, (.box (.s 1))⟩, ⟨(some 5), none, (.box (.s 2))⟩, ⟨(some 6), none, (.alloc [(.sl .nil 0 [] [])])⟩, ⟨(some 7), none, (.mov (.c (.int .i64 0)))⟩]) (.seq (.reg [⟨(some 9), none, (.ld none (.s 4))⟩, ⟨(some 10), none, (.call (.c (.fn (.func n_slices_ContainsFunc_Split_Split) [] [])) [(.s 9), (.c (.fn (.func n_pred_Split_1) [] []))])⟩, ⟨(some 8), none, (.mov (.s 10))⟩]) (.seq (.block 0 (.seq (.reg [⟨(some 12), none, (.ld (some 1) (.s 3))⟩, ⟨(some 13), none, (.call (.c (.fn (.func n_pred_Check) [] [])) [(.s 12)])⟩, ⟨(some 14), none, (.bin .neq (.s 13) (.c (.int .i64 0)))⟩, ⟨(some 11), none, (.mov (.s 14))⟩]) (.cond (.s 11) (.seq (.reg [⟨(some 15), none, (.build [(.sl .nil 0 [] [])] [])⟩, ⟨none, none, (.st 1 (.s 6) (.s 15))⟩, ⟨(some 7), none, (.mov (.c (.int .i64 250)))⟩]) .ret) (.seq (.reg [⟨(some 17), none, (.mov (.s 8))⟩, ⟨(some 18), none, (.mov (.s 17))⟩, ⟨(some 19), (some (18, false)), (.ld none (.s 5))⟩, ⟨(some 20), (some (18, false)), (.bin .eql (.s 19) (.c (.int .u32 0)))⟩, ⟨(some 21), none, (.pick (.s 18) (.c (.bool true)) (.s 20))⟩, ⟨(some 16), none, (.mov (.s 21))⟩]) (.cond (.s 16) (.seq (.reg [⟨(some 22), none, (.build [(.sl .nil 0 [] [])] [])⟩, ⟨none, none, (.st 1 (.s 6) (.s 22))⟩, ⟨(some 7), none, (.mov (.c (.int .i64 2)))⟩]) .ret) .skip))))) (.seq (.reg [⟨(some 23), none, (.ld (some 1) (.s 3))⟩, ⟨(some 24), none, (.mkfn (.func n_pred_Split_2) [] [(.s 4), (.s 5)])⟩, ⟨(some 25), none, (.call (.c (.fn (.func n_pred_change) [] [])) [(.s 23), (.s 24)])⟩, ⟨(some 26), none, (.ext 0 (.s 25))⟩, ⟨(some 27), none, (.ext 1 (.s 25))⟩, ⟨none, none, (.st 1 (.s 6) (.s 26))⟩, ⟨(some 7), none, (.mov (.s 27))⟩]) .ret))))
def F_pred_Split (P : Program) (a0 a1 a2 : V) (st : St) (K : V → St → Prop) : Prop :=
  @stp P (.box (.c a0)) st ⟨fun v3 st =>
  @stp P (.box (.c a1)) st ⟨fun v4 st =>
  @stp P (.box (.c a2)) st ⟨fun v5 st =>
  @stp P (.alloc [(.sl .nil 0 [] [])]) st ⟨fun v6 st =>
  @stp P (.ld none (.c v4)) st ⟨fun v9 st =>
  @stp P (.call (.c (.fn (.func n_slices_ContainsFunc_Split_Split) [] [])) [(.c v9), (.c (.fn (.func n_pred_Split_1) [] []))]) st ⟨fun v10 st =>
  @stp P (.ld (some 1) (.c v3)) st ⟨fun v12 st =>
  @stp P (.call (.c (.fn (.func n_pred_Check) [] [])) [(.c v12)]) st ⟨fun v13 st =>
  @stp P (.bin .neq (.c v13) (.c (.int .i64 0))) st ⟨fun v14 st =>
  @cnd v14 ⟨
    @stp P (.build [(.sl .nil 0 [] [])] []) st ⟨fun v15 st =>
    @stp P (.st 1 (.c v6) (.c v15)) st ⟨fun _v st =>
    @ldr (some 1) v6 st ⟨fun r1 =>
    GhostV [r1, (.int .i64 250)] st fun vs st => K (mkres vs) st⟩⟩⟩⟩
  ⟨
    @gst P v10 false (.ld none (.c v5)) st ⟨fun v19 st =>
    @gst P v10 false (.bin .eql (.c v19) (.c (.int .u32 0))) st ⟨fun v20 st =>
    @stp P (.pick (.c v10) (.c (.bool true)) (.c v20)) st ⟨fun v21 st =>
    @cnd v21 ⟨
      @stp P (.build [(.sl .nil 0 [] [])] []) st ⟨fun v22 st =>
      @stp P (.st 1 (.c v6) (.c v22)) st ⟨fun _v st =>
      @ldr (some 1) v6 st ⟨fun r1 =>
      GhostV [r1, (.int .i64 2)] st fun vs st => K (mkres vs) st⟩⟩⟩⟩
    ⟨
      @stp P (.ld (some 1) (.c v3)) st ⟨fun v23 st =>
      @stp P (.mkfn (.func n_pred_Split_2) [] [(.c v4), (.c v5)]) st ⟨fun v24 st =>
      @stp P (.call (.c (.fn (.func n_pred_change) [] [])) [(.c v23), (.c v24)]) st ⟨fun v25 st =>
      @stp P (.ext 0 (.c v25)) st ⟨fun v26 st =>
      @stp P (.ext 1 (.c v25)) st ⟨fun v27 st =>
      @stp P (.st 1 (.c v6) (.c v26)) st ⟨fun _v st =>
      @ldr (some 1) v6 st ⟨fun r1 =>
      GhostV [r1, v27] st fun vs st => K (mkres vs) st⟩⟩⟩⟩⟩⟩⟩⟩⟩⟩⟩⟩⟩⟩⟩⟩⟩⟩⟩⟩⟩
theorem q_pred_Split {P : Program} {a0 a1 a2 : V} {st : St} {K : V → St → Prop} : F_pred_Split P a0 a1 a2 st K = hwp P c_pred_Split (hretQ [.cell 6 (some 1), .tmp 7] K) (enterFr [a0, a1, a2]) st := by kernel_rfl
abbrev R_pred_Split (P : Program) : Prop := resFnH P n_pred_Split = some (28, c_pred_Split.er, [.cell 6 (some 1), .tmp 7])
theorem A_pred_Split {P : Program} (h : R_pred_Split P) {a0 a1 a2 : V} {st : St} {K : V → St → Prop} (hF : F_pred_Split P a0 a1 a2 st K) : ACalls P n_pred_Split [a0, a1, a2] st K :=
  ACalls_h h rfl (by simp) (q_pred_Split ▸ hF)

def c_pred_Release : ACode := (.seq (.reg [⟨(some 2), none, (.box (.s 0))⟩, ⟨(some 3), none, (.box (.s 1))⟩, ⟨(some 4), none, (.alloc [(.sl .nil 0 [] [])])⟩, ⟨(some 5), none, (.mov (.c (.int .i64 0)))⟩]) (.seq (.block 0 (.seq (.reg [⟨(some 7), none, (.ld (some 1) (.s 2))⟩, ⟨(some 8), none, (.call (.c (.fn (.func n_pred_Check) [] [])) [(.s 7)])⟩, ⟨(some 9), none, (.bin .neq (.s 8) (.c (.int .i64 0)))⟩, ⟨(some 6), none, (.mov (.s 9))⟩]) (.cond (.s 6) (.seq (.reg [⟨(some 10), none, (.build [(.sl .nil 0 [] [])] [])⟩, ⟨none, none, (.st 1 (.s 4) (.s 10))⟩, ⟨(some 5), none, (.mov (.c (.int .i64 250)))⟩]) .ret) (.seq (.reg [⟨(some 12), none, (.ld none (.s 3))⟩, ⟨(some 13), none, (.bin .eql (.s 12) (.c (.int .u64 0)))⟩, ⟨(some 11), none, (.mov (.s 13))⟩]) (.cond (.s 11) (.seq (.reg [⟨(some 14), none, (.build [(.sl .nil 0 [] [])] [])⟩, ⟨none, none, (.st 1 (.s 4) (.s 14))⟩, ⟨(some 5), none, (.mov (.c (.int .i64 2)))⟩]) .ret) .skip))))) (.seq (.reg [⟨(some 15), none, (.fld 0 (.s 2))⟩, ⟨(some 16), none, (.ld none (.s 15))⟩, ⟨(some 17), none, (.call (.c (.fn (.func n_slices_Clone_Pred_Pred) [] [])) [(.s 16)])⟩, ⟨(some 18), none, (.mkfn (.func n_pred_Release_1) [] [(.s 3)])⟩, ⟨(some 19), none, (.call (.c (.fn (.func n_slices_DeleteFunc_Pred_Pred) [] [])) [(.s 17), (.s 18)])⟩, ⟨(some 20), none, (.build [(.sl .nil 0 [] [])] [(0, (1, (.s 19)))])⟩, ⟨none, none, (.st 1 (.s 4) (.s 20))⟩, ⟨(some 5), none, (.mov (.c (.int .i64 0)))⟩]) .ret)))
def F_pred_Release (P : Program) (a0 a1 : V) (st : St) (K : V → St → Prop) : Prop :=
  @stp P (.box (.c a0)) st ⟨fun v2 st =>
  @stp P (.box (.c a1)) st ⟨fun v3 st =>
  @stp P (.alloc [(.sl .nil 0 [] [])]) st ⟨fun v4 st =>
  @stp P (.ld (some 1) (.c v2)) st ⟨fun v7 st =>
  @stp P (.call (.c (.fn (.func n_pred_Check) [] [])) [(.c v7)]) st ⟨fun v8 st =>
  @stp P (.bin .neq (.c v8) (.c (.int .i64 0))) st ⟨fun v9 st =>
  @cnd v9 ⟨
    @stp P (.build [(.sl .nil 0 [] [])] []) st ⟨fun v10 st =>
    @stp P (.st 1 (.c v4) (.c v10)) st ⟨fun _v st =>
    @ldr (some 1) v4 st ⟨fun r1 =>
    GhostV [r1, (.int .i64 250)] st fun vs st => K (mkres vs) st⟩⟩⟩⟩
  ⟨
    @stp P (.ld none (.c v3)) st ⟨fun v12 st =>
    @stp P (.bin .eql (.c v12) (.c (.int .u64 0))) st ⟨fun v13 st =>
    @cnd v13 ⟨
      @stp P (.build [(.sl .nil 0 [] [])] []) st ⟨fun v14 st =>
      @stp P (.st 1 (.c v4) (.c v14)) st ⟨fun _v st =>
      @ldr (some 1) v4 st ⟨fun r1 =>
      GhostV [r1, (.int .i64 2)] st fun vs st => K (mkres vs) st⟩⟩⟩⟩
    ⟨
      @stp P (.fld 0 (.c v2)) st ⟨fun v15 st =>
      @stp P (.ld none (.c v15)) st ⟨fun v16 st =>
      @stp P (.call (.c (.fn (.func n_slices_Clone_Pred_Pred) [] [])) [(.c v16)]) st ⟨fun v17 st =>
      @stp P (.mkfn (.func n_pred_Release_1) [] [(.c v3)]) st ⟨fun v18 st =>
      @stp P (.call (.c (.fn (.func n_slices_DeleteFunc_Pred_Pred) [] [])) [(.c v17), (.c v18)]) st ⟨fun v19 st =>
      @stp P (.build [(.sl .nil 0 [] [])] [(0, 1, (.c v19))]) st ⟨fun v20 st =>
      @stp P (.st 1 (.c v4) (.c v20)) st ⟨fun _v st =>
      @ldr (some 1) v4 st ⟨fun r1 =>
      GhostV [r1, (.int .i64 0)] st fun vs st => K (mkres vs) st⟩⟩⟩⟩⟩⟩⟩⟩⟩⟩⟩⟩⟩⟩⟩⟩⟩⟩
theorem q_pred_Release {P : Program} {a0 a1 : V} {st : St} {K : V → St → Prop} : F_pred_Release P a0 a1 st K = hwp P c_pred_Release (hretQ [.cell 4 (some 1), .tmp 5] K) (enterFr [a0, a1]) st := by kernel_rfl
abbrev R_pred_Release (P : Program) : Prop := resFnH P n_pred_Release = some (21, c_pred_Release.er, [.cell 4 (some 1), .tmp 5])
theorem A_pred_Release {P : Program} (h : R_pred_Release P) {a0 a1 : V} {st : St} {K : V → St → Prop} (hF : F_pred_Release P a0 a1 st K) : ACalls P n_pred_Release [a0, a1] st K :=
  ACalls_h h rfl (by simp) (q_pred_Release ▸ hF)

def c_pred_Pass : ACode := (.seq (.reg [⟨(some 3), none, (.box (.s 0))⟩, ⟨(some 4), none, (.box (.s 1))⟩, ⟨(some 5), none, (.box (.s 2))⟩, ⟨(some 6), none, (.alloc [(.sl .nil 0 [] [])])⟩, ⟨(some 7), none, (.mov (.c (.int .i64 0)))⟩]) (.seq (.block 0 (.seq (.reg [⟨(some 9), none, (.ld (some 1) (.s 3))⟩, ⟨(some 10), none, (.call (.c (.fn (.func n_pred_Check) [] [])) [(.s 9)])⟩, ⟨(some 11), none, (.bin .neq (.s 10) (.c (.int .i64 0)))⟩, ⟨(some 8), none, (.mov (.s 11))⟩]) (.cond (.s 8) (.seq (.reg [⟨(some 12), none, (.build [(.sl .nil 0 [] [])] [])⟩, ⟨none, none, (.st 1 (.s 6) (.s 12))⟩, ⟨(some 7), none, (.mov (.c (.int .i64 250)))⟩]) .ret) (.seq (.reg [⟨(some 14), none, (.ld (some 4) (.s 5))⟩, ⟨(some 15), none, (.call (.c (.fn (.func n_pred_box) [] [])) [(.s 14)])⟩, ⟨(some 16), none, (.un .not (.s 15))⟩, ⟨(some 17), none, (.mov (.s 16))⟩, ⟨(some 18), (some (17, false)), (.ld none (.s 4))⟩, ⟨(some 19), (some (17, false)), (.call (.c (.fn (.func n_slices_Contains_uint32_uint32) [] [])) [(.s 18), (.c (.int .u32 0))])⟩, ⟨(some 20), none, (.pick (.s 17) (.c (.bool true)) (.s 19))⟩, ⟨(some 13), none, (.mov (.s 20))⟩]) (.cond (.s 13) (.seq (.reg [⟨(some 21), none, (.build [(.sl .nil 0 [] [])] [])⟩, ⟨none, none, (.st 1 (.s 6) (.s 21))⟩, ⟨(some 7), none, (.mov (.c (.int .i64 2)))⟩]) .ret) .skip))))) (.seq (.reg [⟨(some 22), none, (.ld (some 1) (.s 3))⟩, ⟨(some 23), none, (.mkfn (.func n_pred_Pass_1) [] [(.s 4), (.s 5)])⟩, ⟨(some 24), none, (.call (.c (.fn (.func n_pred_change) [] [])) [(.s 22), (.s 23)])⟩, ⟨(some 25), none, (.ext 0 (.s 24))⟩, ⟨(some 26), none, (.ext 1 (.s 24))⟩, ⟨none, none, (.st 1 (.s 6) (.s 25))⟩, ⟨(some 7), none, (.mov (.s 26))⟩]) .ret)))
def F_pred_Pass (P : Program) (a0 a1 a2 : V) (st : St) (K : V → St → Prop) : Prop :=
  @stp P (.box (.c a0)) st ⟨fun v3 st =>
  @stp P (.box (.c a1)) st ⟨fun v4 st =>
  @stp P (.box (.c a2)) st ⟨fun v5 st =>
  @stp P (.alloc [(.sl .nil 0 [] [])]) st ⟨fun v6 st =>
  @stp P (.ld (some 1) (.c v3)) st ⟨fun v9 st =>
  @stp P (.call (.c (.fn (.func n_pred_Check) [] [])) [(.c v9)]) st ⟨fun v10 st =>
  @stp P (.bin .neq (.c v10) (.c (.int .i64 0))) st ⟨fun v11 st =>
  @cnd v11 ⟨
    @stp P (.build [(.sl .nil 0 [] [])] []) st ⟨fun v12 st =>
    @stp P (.st 1 (.c v6) (.c v12)) st ⟨fun _v st =>
    @ldr (some 1) v6 st ⟨fun r1 =>
    GhostV [r1, (.int .i64 250)] st fun vs st => K (mkres vs) st⟩⟩⟩⟩
  ⟨
    @stp P (.ld (some 4) (.c v5)) st ⟨fun v14 st =>
    @stp P (.call (.c (.fn (.func n_pred_box) [] [])) [(.c v14)]) st ⟨fun v15 st =>
    @stp P (.un .not (.c v15)) st ⟨fun v16 st =>
    @gst P v16 false (.ld none (.c v4)) st ⟨fun v18 st =>
    @gst P v16 false (.call (.c (.fn (.func n_slices_Contains_uint32_uint32) [] [])) [(.c v18), (.c (.int .u32 0))]) st ⟨fun v19 st =>
    @stp P (.pick (.c v16) (.c (.bool true)) (.c v19)) st ⟨fun v20 st =>
    @cnd v20 ⟨
      @stp P (.build [(.sl .nil 0 [] [])] []) st ⟨fun v21 st =>
      @stp P (.st 1 (.c v6) (.c v21)) st ⟨fun _v st =>
      @ldr (some 1) v6 st ⟨fun r1 =>
      GhostV [r1, (.int .i64 2)] st fun vs st => K (mkres vs) st⟩⟩⟩⟩
    ⟨
      @stp P (.ld (some 1) (.c v3)) st ⟨fun v22 st =>
      @stp P (.mkfn (.func n_pred_Pass_1) [] [(.c v4), (.c v5)]) st ⟨fun v23 st =>
      @stp P (.call (.c (.fn (.func n_pred_change) [] [])) [(.c v22), (.c v23)]) st ⟨fun v24 st =>
      @stp P (.ext 0 (.c v24)) st ⟨fun v25 st =>
      @stp P (.ext 1 (.c v24)) st ⟨fun v26 st =>
      @stp P (.st 1 (.c v6) (.c v25)) st ⟨fun _v st =>
      @ldr (some 1) v6 st ⟨fun r1 =>
      GhostV [r1, v26] st fun vs st => K (mkres vs) st⟩⟩⟩⟩⟩⟩⟩⟩⟩⟩⟩⟩⟩⟩⟩⟩⟩⟩⟩⟩⟩⟩
theorem q_pred_Pass {P : Program} {a0 a1 a2 : V} {st : St} {K : V → St → Prop} : F_pred_Pass P a0 a1 a2 st K = hwp P c_pred_Pass (hretQ [.cell 6 (some 1), .tmp 7] K) (enterFr [a0, a1, a2]) st := by kernel_rfl
abbrev R_pred_Pass (P : Program) : Prop := resFnH P n_pred_Pass = some (27, c_pred_Pass.er, [.cell 6 (some 1), .tmp 7])
theorem A_pred_Pass {P : Program} (h : R_pred_Pass P) {a0 a1 a2 : V} {st : St} {K : V → St → Prop} (hF : F_pred_Pass P a0 a1 a2 st K) : ACalls P n_pred_Pass [a0, a1, a2] st K :=
  ACalls_h h rfl (by simp) (q_pred_Pass ▸ hF)

def c_gazetteerlaw15_told : ACode := (.seq (.reg [⟨(some 4), none, (.box (.s 0))⟩, ⟨(some 7), none, (.box (.s 3))⟩, ⟨(some 8), none, (.mov (.c (.bool false)))⟩]) (.seq (.block 0 (.seq (.reg [⟨(some 10), none, (.mov (.s 2))⟩, ⟨(some 11), none, (.un .not (.s 10))⟩, ⟨(some 9), none, (.mov (.s 11))⟩]) (.cond (.s 9) (.seq (.reg [⟨(some 12), none, (.mov (.s 1))⟩, ⟨(some 13), none, (.bin .eql (.s 12) (.c (.int .i64 2)))⟩, ⟨(some 14), none, (.mov (.s 13))⟩, ⟨(some 15), (some (14, true)), (.fld 0 (.s 4))⟩, ⟨(some 16), (some (14, true)), (.ld none (.s 15))⟩, ⟨(some 17), (some (14, true)), (.len .sl (.s 16))⟩, ⟨(some 18), (some (14, true)), (.bin .eql (.s 17) (.c (.int .i64 0)))⟩, ⟨(some 19), none, (.pick (.s 14) (.s 18) (.c (.bool false)))⟩, ⟨(some 8), none, (.mov (.s 19))⟩]) .ret) (.seq (.reg [⟨(some 21), none, (.fld 0 (.s 7))⟩, ⟨(some 22), none, (.ld none (.s 21))⟩, ⟨(some 23), none, (.len .sl (.s 22))⟩, ⟨(some 24), none, (.bin .gtr (.s 23) (.c (.int .i64 512)))⟩, ⟨(some 20), none, (.mov (.s 24))⟩]) (.cond (.s 20) (.seq (.reg [⟨(some 25), none, (.mov (.s 1))⟩, ⟨(some 26), none, (.bin .eql (.s 25) (.c (.int .i64 6)))⟩, ⟨(some 27), none, (.mov (.s 26))⟩, ⟨(some 28), (some (27, true)), (.fld 0 (.s 4))⟩, ⟨(some 29), (some (27, true)), (.ld none (.s 28))⟩, ⟨(some 30), (some (27, true)), (.len .sl (.s 29))⟩, ⟨(some 31), (some (27, true)), (.bin .eql (.s 30) (.c (.int .i64 0)))⟩, ⟨(some 32), none, (.pick (.s 27) (.s 31) (.c (.bool false)))⟩, ⟨(some 8), none, (.mov (.s 32))⟩]) .ret) .skip))))) (.seq (.reg [⟨(some 33), none, (.mov (.s 1))⟩, ⟨(some 34), none, (.bin .eql (.s 33) (.c (.int .i64 0)))⟩, ⟨(some 35), none, (.mov (.s 34))⟩, ⟨(some 36), (some (35, true)), (.ld (some 1) (.s 4))⟩, ⟨(some 37), (some (35, true)), (.ld (some 1) (.s 7))⟩, ⟨(some 38), (some (35, true)), (.call (.c (.fn (.func n_gazetteerref15_Same) [] [])) [(.s 36), (.s 37)])⟩, ⟨(some 39), none, (.pick (.s 35) (.s 38) (.c (.bool false)))⟩, ⟨(some 8), none, (.mov (.s 39))⟩]) .ret)))
def F_gazetteerlaw15_told (P : Program) (a0 a1 a2 a3 : V) (st : St) (K : V → St → Prop) : Prop :=
  @stp P (.box (.c a0)) st ⟨fun v4 st =>
  @stp P (.box (.c a3)) st ⟨fun v7 st =>
  @stp P (.un .not (.c a2)) st ⟨fun v11 st =>
  @cnd v11 ⟨
    @stp P (.bin .eql (.c a1) (.c (.int .i64 2))) st ⟨fun v13 st =>
    @gst P v13 true (.fld 0 (.c v4)) st ⟨fun v15 st =>
    @gst P v13 true (.ld none (.c v15)) st ⟨fun v16 st =>
    @gst P v13 true (.len .sl (.c v16)) st ⟨fun v17 st =>
    @gst P v13 true (.bin .eql (.c v17) (.c (.int .i64 0))) st ⟨fun v18 st =>
    @stp P (.pick (.c v13) (.c v18) (.c (.bool false))) st ⟨fun v19 st =>
    GhostV [v19] st fun vs st => K (mkres vs) st⟩⟩⟩⟩⟩⟩⟩
  ⟨
    @stp P (.fld 0 (.c v7)) st ⟨fun v21 st =>
    @stp P (.ld none (.c v21)) st ⟨fun v22 st =>
    @stp P (.len .sl (.c v22)) st ⟨fun v23 st =>
    @stp P (.bin .gtr (.c v23) (.c (.int .i64 512))) st ⟨fun v24 st =>
    @cnd v24 ⟨
      @stp P (.bin .eql (.c a1) (.c (.int .i64 6))) st ⟨fun v26 st =>
      @gst P v26 true (.fld 0 (.c v4)) st ⟨fun v28 st =>
      @gst P v26 true (.ld none (.c v28)) st ⟨fun v29 st =>
      @gst P v26 true (.len .sl (.c v29)) st ⟨fun v30 st =>
      @gst P v26 true (.bin .eql (.c v30) (.c (.int .i64 0))) st ⟨fun v31 st =>
      @stp P (.pick (.c v26) (.c v31) (.c (.bool false))) st ⟨fun v32 st =>
      GhostV [v32] st fun vs st => K (mkres vs) st⟩⟩⟩⟩⟩⟩⟩
    ⟨
      @stp P (.bin .eql (.c a1) (.c (.int .i64 0))) st ⟨fun v34 st =>
      @gst P v34 true (.ld (some 1) (.c v4)) st ⟨fun v36 st =>
      @gst P v34 true (.ld (some 1) (.c v7)) st ⟨fun v37 st =>
      @gst P v34 true (.call (.c (.fn (.func n_gazetteerref15_Same) [] [])) [(.c v36), (.c v37)]) st ⟨fun v38 st =>
      @stp P (.pick (.c v34) (.c v38) (.c (.bool false))) st ⟨fun v39 st =>
      GhostV [v39] st fun vs st => K (mkres vs) st⟩⟩⟩⟩⟩⟩⟩⟩⟩⟩⟩⟩⟩⟩
theorem q_gazetteerlaw15_told {P : Program} {a0 a1 a2 a3 : V} {st : St} {K : V → St → Prop} : F_gazetteerlaw15_told P a0 a1 a2 a3 st K = hwp P c_gazetteerlaw15_told (hretQ [.tmp 8] K) (enterFr [a0, a1, a2, a3]) st := by kernel_rfl
abbrev R_gazetteerlaw15_told (P : Program) : Prop := resFnH P n_gazetteerlaw15_told = some (40, c_gazetteerlaw15_told.er, [.tmp 8])
theorem A_gazetteerlaw15_told {P : Program} (h : R_gazetteerlaw15_told P) {a0 a1 a2 a3 : V} {st : St} {K : V → St → Prop} (hF : F_gazetteerlaw15_told P a0 a1 a2 a3 st K) : ACalls P n_gazetteerlaw15_told [a0, a1, a2, a3] st K :=
  ACalls_h h rfl (by simp) (q_gazetteerlaw15_told ▸ hF)

def c_gazetteerref15_Pass : ACode := (.seq (.reg [⟨(some 3), none, (.box (.s 0))⟩, ⟨(some 5), none, (.box (.s 2))⟩, ⟨(some 6), none, (.alloc [(.sl .nil 0 [] [])])⟩]) (.seq (.seq (.reg [⟨(some 7), none, (.mov (.c (.int .i64 1)))⟩]) (.block 0 (.loop [7] [7, 8, 9, 10, 11, 12, 13, 14, 15, 16, 17, 18, 19, 20, 21, 22, 23, 24, 25] (.seq (.seq (.reg [⟨(some 8), none, (.mov (.s 7))⟩, ⟨(some 9), none, (.mov (.s 1))⟩, ⟨(some 10), none, (.len .sl (.s 9))⟩, ⟨(some 11), none, (.bin .lss (.s 8) (.s 10))⟩]) (.cond (.s 11) .skip (.exit 0))) (.seq (.block 1 (.regD [⟨(some 14), none, (.ld (some 1) (.s 3))⟩, ⟨(some 15), none, (.mov (.s 1))⟩, ⟨(some 16), none, (.mov (.s 7))⟩, ⟨(some 17), none, (.bin .sub (.s 16) (.c (.int .i64 1)))⟩, ⟨(some 18), none, (.idx 1 (.s 15) (.s 17))⟩, ⟨(some 19), none, (.ld none (.s 18))⟩, ⟨(some 20), none, (.mov (.s 1))⟩, ⟨(some 21), none, (.mov (.s 7))⟩, ⟨(some 22), none, (.idx 1 (.s 20) (.s 21))⟩, ⟨(some 23), none, (.ld none (.s 22))⟩, ⟨(some 24), none, (.ld (some 4) (.s 5))⟩, ⟨(some 25), none, (.call (.c (.fn (.func n_gazetteerref15_Copied) [] [])) [(.s 14), (.s 19), (.s 23), (.s 24), (.c (.bool true))])⟩, ⟨none, none, (.st 1 (.s 3) (.s 25))⟩] [(0, (false, [])), (1, (false, [])), (2, (false, [])), (3, (false, [])), (4, (false, [])), (5, (false, [])), (6, (false, [])), (7, (false, [])), (8, (false, [])), (9, (false, [])), (10, (false, [])), (11, (true, [])), (12, (true, []))])) (.reg [⟨(some 12), none, (.mov (.s 7))⟩, ⟨(some 13), none, (.bin .add (.s 12) (.c (.int .i64 1)))⟩, ⟨(some 7), none, (.mov (.s 13))⟩])))))) (.seq (.reg [⟨(some 26), none, (.ld (some 1) (.s 3))⟩, ⟨none, none, (.st 1 (.s 6) (.s 26))⟩]) .ret)))
def F_gazetteerref15_Pass (P : Program) (a0 a1 a2 : V) (st : St) (K : V → St → Prop) : Prop :=
  @stp P (.box (.c a0)) st ⟨fun v3 st =>
  @stp P (.box (.c a2)) st ⟨fun v5 st =>
  @stp P (.alloc [(.sl .nil 0 [] [])]) st ⟨fun v6 st =>
  @Hold ⟨∃ I1 : Nat → Rel 1, (∃ k, GhostV [(.int .i64 1)] st (app (I1 k))) ∧ ∀ k1 v7, ∀ st, app (I1 k1) [v7] st →
    @stp P (.len .sl (.c a1)) st ⟨fun v10 st =>
    @stp P (.bin .lss (.c v7) (.c v10)) st ⟨fun v11 st =>
    @cnd v11 ⟨
      @stpD P (.ld (some 1) (.c v3)) st ⟨fun v14 st =>
      @stpD P (.bin .sub (.c v7) (.c (.int .i64 1))) st ⟨fun v17 st =>
      @stpD P (.idx 1 (.c a1) (.c v17)) st ⟨fun v18 st =>
      @stpD P (.ld none (.c v18)) st ⟨fun v19 st =>
      @stpD P (.idx 1 (.c a1) (.c v7)) st ⟨fun v22 st =>
      @stpD P (.ld none (.c v22)) st ⟨fun v23 st =>
      @stpD P (.ld (some 4) (.c v5)) st ⟨fun v24 st =>
      @stpD P (.call (.c (.fn (.func n_gazetteerref15_Copied) [] [])) [(.c v14), (.c v19), (.c v23), (.c v24), (.c (.bool true))]) st ⟨fun v25 st =>
      @stpD P (.st 1 (.c v3) (.c v25)) st ⟨fun _v st =>
      @stp P (.bin .add (.c v7) (.c (.int .i64 1))) st ⟨fun v13 st =>
      ∃ j, j < k1 ∧ GhostV [v13] st (app (I1 j))⟩⟩⟩⟩⟩⟩⟩⟩⟩⟩⟩
    ⟨
      @stp P (.ld (some 1) (.c v3)) st ⟨fun v26 st =>
      @stp P (.st 1 (.c v6) (.c v26)) st ⟨fun _v st =>
      @ldr (some 1) v6 st ⟨fun r1 =>
      GhostV [r1] st fun vs st => K (mkres vs) st⟩⟩⟩⟩⟩⟩⟩⟩⟩⟩
theorem q_gazetteerref15_Pass {P : Program} {a0 a1 a2 : V} {st : St} {K : V → St → Prop} : F_gazetteerref15_Pass P a0 a1 a2 st K = hwp P c_gazetteerref15_Pass (hretQ [.cell 6 (some 1)] K) (enterFr [a0, a1, a2]) st := by kernel_rfl
abbrev R_gazetteerref15_Pass (P : Program) : Prop := resFnH P n_gazetteerref15_Pass = some (27, c_gazetteerref15_Pass.er, [.cell 6 (some 1)])
theorem A_gazetteerref15_Pass {P : Program} (h : R_gazetteerref15_Pass P) {a0 a1 a2 : V} {st : St} {K : V → St → Prop} (hF : F_gazetteerref15_Pass P a0 a1 a2 st K) : ACalls P n_gazetteerref15_Pass [a0, a1, a2] st K :=
  ACalls_h h rfl (by simp) (q_gazetteerref15_Pass ▸ hF)

def c_pred_Same : ACode := (.seq (.reg [⟨(some 2), none, (.box (.s 0))⟩, ⟨(some 3), none, (.box (.s 1))⟩, ⟨(some 4), none, (.mov (.c (.bool false)))⟩]) (.seq (.reg [⟨(some 5), none, (.fld 0 (.s 2))⟩, ⟨(some 6), none, (.ld none (.s 5))⟩, ⟨(some 7), none, (.fld 0 (.s 3))⟩, ⟨(some 8), none, (.ld none (.s 7))⟩, ⟨(some 9), none, (.call (.c (.fn (.func n_slices_Equal_Pred_Pred) [] [])) [(.s 6), (.s 8)])⟩, ⟨(some 4), none, (.mov (.s 9))⟩]) .ret))
def F_pred_Same (P : Program) (a0 a1 : V) (st : St) (K : V → St → Prop) : Prop :=
  @stp P (.box (.c a0)) st ⟨fun v2 st =>
  @stp P (.box (.c a1)) st ⟨fun v3 st =>
  @stp P (.fld 0 (.c v2)) st ⟨fun v5 st =>
  @stp P (.ld none (.c v5)) st ⟨fun v6 st =>
  @stp P (.fld 0 (.c v3)) st ⟨fun v7 st =>
  @stp P (.ld none (.c v7)) st ⟨fun v8 st =>
  @stp P (.call (.c (.fn (.func n_slices_Equal_Pred_Pred) [] [])) [(.c v6), (.c v8)]) st ⟨fun v9 st =>
  GhostV [v9] st fun vs st => K (mkres vs) st⟩⟩⟩⟩⟩⟩⟩
theorem q_pred_Same {P : Program} {a0 a1 : V} {st : St} {K : V → St → Prop} : F_pred_Same P a0 a1 st K = hwp P c_pred_Same (hretQ [.tmp 4] K) (enterFr [a0, a1]) st := by kernel_rfl
abbrev R_pred_Same (P : Program) : Prop := resFnH P n_pred_Same = some (10, c_pred_Same.er, [.tmp 4])
theorem A_pred_Same {P : Program} (h : R_pred_Same P) {a0 a1 : V} {st : St} {K : V → St → Prop} (hF : F_pred_Same P a0 a1 st K) : ACalls P n_pred_Same [a0, a1] st K :=
  ACalls_h h rfl (by simp) (q_pred_Same ▸ hF)

def c_gazetteerref15_Same : ACode := (.seq (.reg [⟨(some 2), none, (.box (.s 0))⟩, ⟨(some 3), none, (.box (.s 1))⟩, ⟨(some 4), none, (.mov (.c (.bool false)))⟩]) (.seq (.seq (.reg [⟨(some 6), none, (.fld 0 (.s 2))⟩, ⟨(some 7), none, (.ld none (.s 6))⟩, ⟨(some 8), none, (.len .sl (.s 7))⟩, ⟨(some 9), none, (.fld 0 (.s 3))⟩, ⟨(some 10), none, (.ld none (.s 9))⟩, ⟨(some 11), none, (.len .sl (.s 10))⟩, ⟨(some 12), none, (.bin .neq (.s 8) (.s 11))⟩]) (.cond (.s 12) (.seq (.reg [⟨(some 4), none, (.mov (.c (.bool false)))⟩]) .ret) .skip)) (.seq (.seq (.reg [⟨(some 5), none, (.mov (.c (.int .i64 0)))⟩]) (.block 0 (.loop [5] [4, 5, 13, 14, 15, 16, 17, 18, 19, 20, 21, 22, 23, 24, 25, 26, 27, 28, 29, 30] (.seq (.seq (.reg [⟨(some 13), none, (.mov (.s 5))⟩, ⟨(some 14), none, (.fld 0 (.s 2))⟩, ⟨(some 15), none, (.ld none (.s 14))⟩, ⟨(some 16), none, (.len .sl (.s 15))⟩, ⟨(some 17), none, (.bin .lss (.s 13) (.s 16))⟩]) (.cond (.s 17) .skip (.exit 0))) (.seq (.block 1 (.seq (.regD [⟨(some 20), none, (.fld 0 (.s 2))⟩, ⟨(some 21), none, (.ld none (.s 20))⟩, ⟨(some 22), none, (.mov (.s 5))⟩, ⟨(some 23), none, (.idx 6 (.s 21) (.s 22))⟩, ⟨(some 24), none, (.ld (some 6) (.s 23))⟩, ⟨(some 25), none, (.fld 0 (.s 3))⟩, ⟨(some 26), none, (.ld none (.s 25))⟩, ⟨(some 27), none, (.mov (.s 5))⟩, ⟨(some 28), none, (.idx 6 (.s 26) (.s 27))⟩, ⟨(some 29), none, (.ld (some 6) (.s 28))⟩, ⟨(some 30), none, (.eqs true (.flat [.int, .int, .int, .int, .int, .int]) (.s 24) (.s 29))⟩] [(0, (false, [])), (1, (false, [])), (2, (false, [])), (3, (false, [])), (4, (false, [])), (5, (false, [])), (6, (false, [])), (7, (false, [])), (8, (false, [])), (9, (false, [])), (10, (false, []))]) (.cond (.s 30) (.seq (.reg [⟨(some 4), none, (.mov (.c (.bool false)))⟩]) .ret) .skip))) (.reg [⟨(some 18), none, (.mov (.s 5))⟩, ⟨(some 19), none, (.bin .add (.s 18) (.c (.int .i64 1)))⟩, ⟨(some 5), none, (.mov (.s 19))⟩])))))) (.seq (.reg [⟨(some 4), none, (.mov (.c (.bool true)))⟩]) .ret))))
def F_gazetteerref15_Same (P : Program) (a0 a1 : V) (st : St) (K : V → St → Prop) : Prop :=
  @stp P (.box (.c a0)) st ⟨fun v2 st =>
  @stp P (.box (.c a1)) st ⟨fun v3 st =>
  @stp P (.fld 0 (.c v2)) st ⟨fun v6 st =>
  @stp P (.ld none (.c v6)) st ⟨fun v7 st =>
  @stp P (.len .sl (.c v7)) st ⟨fun v8 st =>
  @stp P (.fld 0 (.c v3)) st ⟨fun v9 st =>
  @stp P (.ld none (.c v9)) st ⟨fun v10 st =>
  @stp P (.len .sl (.c v10)) st ⟨fun v11 st =>
  @stp P (.bin .neq (.c v8) (.c v11)) st ⟨fun v12 st =>
  @cnd v12 ⟨
    GhostV [(.bool false)] st fun vs st => K (mkres vs) st⟩
  ⟨
    @Hold ⟨∃ I1 : Nat → Rel 1, (∃ k, GhostV [(.int .i64 0)] st (app (I1 k))) ∧ ∀ k1 v5, ∀ st, app (I1 k1) [v5] st →
      @stp P (.fld 0 (.c v2)) st ⟨fun v14 st =>
      @stp P (.ld none (.c v14)) st ⟨fun v15 st =>
      @stp P (.len .sl (.c v15)) st ⟨fun v16 st =>
      @stp P (.bin .lss (.c v5) (.c v16)) st ⟨fun v17 st =>
      @cnd v17 ⟨
        @stpD P (.fld 0 (.c v2)) st ⟨fun v20 st =>
        @stpD P (.ld none (.c v20)) st ⟨fun v21 st =>
        @stpD P (.idx 6 (.c v21) (.c v5)) st ⟨fun v23 st =>
        @stpD P (.ld (some 6) (.c v23)) st ⟨fun v24 st =>
        @stpD P (.fld 0 (.c v3)) st ⟨fun v25 st =>
        @stpD P (.ld none (.c v25)) st ⟨fun v26 st =>
        @stpD P (.idx 6 (.c v26) (.c v5)) st ⟨fun v28 st =>
        @stpD P (.ld (some 6) (.c v28)) st ⟨fun v29 st =>
        @stpD P (.eqs true (.flat [.int, .int, .int, .int, .int, .int]) (.c v24) (.c v29)) st ⟨fun v30 st =>
        @cnd v30 ⟨
          GhostV [(.bool false)] st fun vs st => K (mkres vs) st⟩
        ⟨
          @stp P (.bin .add (.c v5) (.c (.int .i64 1))) st ⟨fun v19 st =>
          ∃ j, j < k1 ∧ GhostV [v19] st (app (I1 j))⟩⟩⟩⟩⟩⟩⟩⟩⟩⟩⟩⟩
      ⟨
        GhostV [(.bool true)] st fun vs st => K (mkres vs) st⟩⟩⟩⟩⟩⟩⟩⟩⟩⟩⟩⟩⟩⟩⟩⟩
theorem q_gazetteerref15_Same {P : Program} {a0 a1 : V} {st : St} {K : V → St → Prop} : F_gazetteerref15_Same P a0 a1 st K = hwp P c_gazetteerref15_Same (hretQ [.tmp 4] K) (enterFr [a0, a1]) st := by kernel_rfl
abbrev R_gazetteerref15_Same (P : Program) : Prop := resFnH P n_gazetteerref15_Same = some (31, c_gazetteerref15_Same.er, [.tmp 4])
theorem A_gazetteerref15_Same {P : Program} (h : R_gazetteerref15_Same P) {a0 a1 : V} {st : St} {K : V → St → Prop} (hF : F_gazetteerref15_Same P a0 a1 st K) : ACalls P n_gazetteerref15_Same [a0, a1] st K :=
  ACalls_h h rfl (by simp) (q_gazetteerref15_Same ▸ hF)

def c_pred_Check : ACode := (.seq (.reg [⟨(some 1), none, (.box (.s 0))⟩, ⟨(some 2), none, (.mov (.c (.int .i64 0)))⟩]) (.seq (.seq (.reg [⟨(some 5), none, (.fld 0 (.s 1))⟩, ⟨(some 6), none, (.ld none (.s 5))⟩, ⟨(some 7), none, (.len .sl (.s 6))⟩, ⟨(some 8), none, (.bin .gtr (.s 7) (.c (.int .i64 512)))⟩]) (.cond (.s 8) (.seq (.reg [⟨(some 2), none, (.mov (.c (.int .i64 250)))⟩]) .ret) .skip)) (.seq (.seq (.reg [⟨(some 9), none, (.fld 0 (.s 1))⟩, ⟨(some 10), none, (.ld none (.s 9))⟩, ⟨(some 11), none, (.len .sl (.s 10))⟩, ⟨(some 12), none, (.mov (.c (.int .i64 0)))⟩]) (.block 0 (.loop [12] [2, 3, 4, 12, 13, 14, 15, 16, 17, 18, 19, 20, 21, 22, 23, 24, 25, 26, 27, 28, 29, 30, 31, 32, 33, 34, 35] (.seq (.reg [⟨(some 13), none, (.bin .lss (.s 12) (.s 11))⟩]) (.seq (.cond (.s 13) .skip (.exit 0)) (.seq (.block 1 (.seq (.reg [⟨(some 14), none, (.mov (.s 12))⟩, ⟨(some 15), none, (.idx 6 (.s 10) (.s 12))⟩, ⟨(some 16), none, (.ld (some 6) (.s 15))⟩, ⟨(some 4), none, (.alloc [(.int .u32 0), (.int .u64 0), (.int .i64 0), (.int .i64 0), (.int .i64 0), (.int .i64 0)])⟩, ⟨(some 3), none, (.mov (.s 14))⟩, ⟨none, none, (.st 6 (.s 4) (.s 16))⟩]) (.seq (.regD [⟨(some 17), none, (.ld (some 6) (.s 4))⟩, ⟨(some 18), none, (.call (.c (.fn (.func n_pred_mark) [] [])) [(.s 17)])⟩, ⟨(some 19), none, (.un .not (.s 18))⟩, ⟨(some 20), none, (.mov (.s 19))⟩, ⟨(some 21), (some (20, false)), (.mov (.s 3))⟩, ⟨(some 22), (some (20, false)), (.bin .gtr (.s 21) (.c (.int .i64 0)))⟩, ⟨(some 23), (some (20, false)), (.mov (.s 22))⟩, ⟨(some 24), (some (23, true)), (.fld 0 (.s 1))⟩, ⟨(some 25), (some (23, true)), (.ld none (.s 24))⟩, ⟨(some 26), (some (23, true)), (.mov (.s 3))⟩, ⟨(some 27), (some (23, true)), (.bin .sub (.s 26) (.c (.int .i64 1)))⟩, ⟨(some 28), (some (23, true)), (.idx 6 (.s 25) (.s 27))⟩, ⟨(some 29), (some (23, true)), (.ld (some 6) (.s 28))⟩, ⟨(some 30), (some (23, true)), (.ld (some 6) (.s 4))⟩, ⟨(some 31), (some (23, true)), (.call (.c (.fn (.func n_pred_order) [] [])) [(.s 29), (.s 30)])⟩, ⟨(some 32), (some (23, true)), (.bin .geq (.s 31) (.c (.int .i64 0)))⟩, ⟨(some 33), (some (20, false)), (.pick (.s 23) (.s 32) (.c (.bool false)))⟩, ⟨(some 34), none, (.pick (.s 20) (.c (.bool true)) (.s 33))⟩] [(0, (false, [])), (1, (true, [])), (2, (false, [])), (3, (false, [])), (4, (false, [])), (5, (false, [])), (6, (false, [])), (7, (false, [])), (8, (false, [])), (9, (false, [])), (10, (false, [])), (11, (false, [])), (12, (false, [])), (13, (false, [])), (14, (true, [])), (15, (false, [])), (16, (false, [])), (17, (false, []))]) (.cond (.s 34) (.seq (.reg [⟨(some 2), none, (.mov (.c (.int .i64 250)))⟩]) .ret) .skip)))) (.reg [⟨(some 35), none, (.bin .add (.s 12) (.c (.int .i64 1)))⟩, ⟨(some 12), none, (.mov (.s 35))⟩]))))))) (.seq (.reg [⟨(some 2), none, (.mov (.c (.int .i64 0)))⟩]) .ret))))
def F_pred_Check (P : Program) (a0 : V) (st : St) (K : V → St → Prop) : Prop :=
  @stp P (.box (.c a0)) st ⟨fun v1 st =>
  @stp P (.fld 0 (.c v1)) st ⟨fun v5 st =>
  @stp P (.ld none (.c v5)) st ⟨fun v6 st =>
  @stp P (.len .sl (.c v6)) st ⟨fun v7 st =>
  @stp P (.bin .gtr (.c v7) (.c (.int .i64 512))) st ⟨fun v8 st =>
  @cnd v8 ⟨
    GhostV [(.int .i64 250)] st fun vs st => K (mkres vs) st⟩
  ⟨
    @stp P (.fld 0 (.c v1)) st ⟨fun v9 st =>
    @stp P (.ld none (.c v9)) st ⟨fun v10 st =>
    @stp P (.len .sl (.c v10)) st ⟨fun v11 st =>
    @Hold ⟨∃ I1 : Nat → Rel 1, (∃ k, GhostV [(.int .i64 0)] st (app (I1 k))) ∧ ∀ k1 v12, ∀ st, app (I1 k1) [v12] st →
      @stp P (.bin .lss (.c v12) (.c v11)) st ⟨fun v13 st =>
      @cnd v13 ⟨
        @stp P (.idx 6 (.c v10) (.c v12)) st ⟨fun v15 st =>
        @stp P (.ld (some 6) (.c v15)) st ⟨fun v16 st =>
        @stp P (.alloc [(.int .u32 0), (.int .u64 0), (.int .i64 0), (.int .i64 0), (.int .i64 0), (.int .i64 0)]) st ⟨fun v4 st =>
        @stp P (.st 6 (.c v4) (.c v16)) st ⟨fun _v st =>
        @stpD P (.ld (some 6) (.c v4)) st ⟨fun v17 st =>
        @stpD P (.call (.c (.fn (.func n_pred_mark) [] [])) [(.c v17)]) st ⟨fun v18 st =>
        @stpD P (.un .not (.c v18)) st ⟨fun v19 st =>
        @gstD P v19 false (.mov (.c v12)) st ⟨fun v21 st =>
        @gstD P v19 false (.bin .gtr (.c v21) (.c (.int .i64 0))) st ⟨fun v22 st =>
        @gstD P v19 false (.mov (.c v22)) st ⟨fun v23 st =>
        @gstD P v23 true (.fld 0 (.c v1)) st ⟨fun v24 st =>
        @gstD P v23 true (.ld none (.c v24)) st ⟨fun v25 st =>
        @gstD P v23 true (.mov (.c v12)) st ⟨fun v26 st =>
        @gstD P v23 true (.bin .sub (.c v26) (.c (.int .i64 1))) st ⟨fun v27 st =>
        @gstD P v23 true (.idx 6 (.c v25) (.c v27)) st ⟨fun v28 st =>
        @gstD P v23 true (.ld (some 6) (.c v28)) st ⟨fun v29 st =>
        @gstD P v23 true (.ld (some 6) (.c v4)) st ⟨fun v30 st =>
        @gstD P v23 true (.call (.c (.fn (.func n_pred_order) [] [])) [(.c v29), (.c v30)]) st ⟨fun v31 st =>
        @gstD P v23 true (.bin .geq (.c v31) (.c (.int .i64 0))) st ⟨fun v32 st =>
        @gstD P v19 false (.pick (.c v23) (.c v32) (.c (.bool false))) st ⟨fun v33 st =>
        @stpD P (.pick (.c v19) (.c (.bool true)) (.c v33)) st ⟨fun v34 st =>
        @cnd v34 ⟨
          GhostV [(.int .i64 250)] st fun vs st => K (mkres vs) st⟩
        ⟨
          @stp P (.bin .add (.c v12) (.c (.int .i64 1))) st ⟨fun v35 st =>
          ∃ j, j < k1 ∧ GhostV [v35] st (app (I1 j))⟩⟩⟩⟩⟩⟩⟩⟩⟩⟩⟩⟩⟩⟩⟩⟩⟩⟩⟩⟩⟩⟩⟩⟩
      ⟨
        GhostV [(.int .i64 0)] st fun vs st => K (mkres vs) st⟩⟩⟩⟩⟩⟩⟩⟩⟩⟩⟩⟩
theorem q_pred_Check {P : Program} {a0 : V} {st : St} {K : V → St → Prop} : F_pred_Check P a0 st K = hwp P c_pred_Check (hretQ [.tmp 2] K) (enterFr [a0]) st := by kernel_rfl
abbrev R_pred_Check (P : Program) : Prop := resFnH P n_pred_Check = some (36, c_pred_Check.er, [.tmp 2])
theorem A_pred_Check {P : Program} (h : R_pred_Check P) {a0 : V} {st : St} {K : V → St → Prop} (hF : F_pred_Check P a0 st K) : ACalls P n_pred_Check [a0] st K :=
  ACalls_h h rfl (by simp) (q_pred_Check ▸ hF)

def c_gazetteerref15_Mark : ACode := (.seq (.reg [⟨(some 1), none, (.box (.s 0))⟩, ⟨(some 2), none, (.mov (.c (.bool false)))⟩]) (.seq (.reg [⟨(some 3), none, (.fld 0 (.s 1))⟩, ⟨(some 4), none, (.ld none (.s 3))⟩, ⟨(some 5), none, (.bin .gtr (.s 4) (.c (.int .u32 0)))⟩, ⟨(some 6), none, (.mov (.s 5))⟩, ⟨(some 7), (some (6, true)), (.fld 1 (.s 1))⟩, ⟨(some 8), (some (6, true)), (.ld none (.s 7))⟩, ⟨(some 9), (some (6, true)), (.bin .gtr (.s 8) (.c (.int .u64 0)))⟩, ⟨(some 10), none, (.pick (.s 6) (.s 9) (.c (.bool false)))⟩, ⟨(some 11), none, (.mov (.s 10))⟩, ⟨(some 12), (some (11, true)), (.fld 2 (.s 1))⟩, ⟨(some 13), (some (11, true)), (.ld (some 4) (.s 12))⟩, ⟨(some 14), (some (11, true)), (.call (.c (.fn (.func n_gazetteerref09_Box) [] [])) [(.s 13)])⟩, ⟨(some 15), none, (.pick (.s 11) (.s 14) (.c (.bool false)))⟩, ⟨(some 2), none, (.mov (.s 15))⟩]) .ret))
def F_gazetteerref15_Mark (P : Program) (a0 : V) (st : St) (K : V → St → Prop) : Prop :=
  @stp P (.box (.c a0)) st ⟨fun v1 st =>
  @stp P (.fld 0 (.c v1)) st ⟨fun v3 st =>
  @stp P (.ld none (.c v3)) st ⟨fun v4 st =>
  @stp P (.bin .gtr (.c v4) (.c (.int .u32 0))) st ⟨fun v5 st =>
  @gst P v5 true (.fld 1 (.c v1)) st ⟨fun v7 st =>
  @gst P v5 true (.ld none (.c v7)) st ⟨fun v8 st =>
  @gst P v5 true (.bin .gtr (.c v8) (.c (.int .u64 0))) st ⟨fun v9 st =>
  @stp P (.pick (.c v5) (.c v9) (.c (.bool false))) st ⟨fun v10 st =>
  @gst P v10 true (.fld 2 (.c v1)) st ⟨fun v12 st =>
  @gst P v10 true (.ld (some 4) (.c v12)) st ⟨fun v13 st =>
  @gst P v10 true (.call (.c (.fn (.func n_gazetteerref09_Box) [] [])) [(.c v13)]) st ⟨fun v14 st =>
  @stp P (.pick (.c v10) (.c v14) (.c (.bool false))) st ⟨fun v15 st =>
  GhostV [v15] st fun vs st => K (mkres vs) st⟩⟩⟩⟩⟩⟩⟩⟩⟩⟩⟩⟩
theorem q_gazetteerref15_Mark {P : Program} {a0 : V} {st : St} {K : V → St → Prop} : F_gazetteerref15_Mark P a0 st K = hwp P c_gazetteerref15_Mark (hretQ [.tmp 2] K) (enterFr [a0]) st := by kernel_rfl
abbrev R_gazetteerref15_Mark (P : Program) : Prop := resFnH P n_gazetteerref15_Mark = some (16, c_gazetteerref15_Mark.er, [.tmp 2])
theorem A_gazetteerref15_Mark {P : Program} (h : R_gazetteerref15_Mark P) {a0 : V} {st : St} {K : V → St → Prop} (hF : F_gazetteerref15_Mark P a0 st K) : ACalls P n_gazetteerref15_Mark [a0] st K :=
  ACalls_h h rfl (by simp) (q_gazetteerref15_Mark ▸ hF)

def c_gazetteerref15_With : ACode := (.seq (.reg [⟨(some 2), none, (.box (.s 0))⟩, ⟨(some 3), none, (.box (.s 1))⟩, ⟨(some 4), none, (.alloc [(.sl .nil 0 [] [])])⟩]) (.seq (.reg [⟨(some 8), none, (.build [(.sl .nil 0 [] [])] [])⟩, ⟨(some 5), none, (.alloc [(.sl .nil 0 [] [])])⟩, ⟨none, none, (.st 1 (.s 5) (.s 8))⟩]) (.seq (.reg [⟨(some 6), none, (.mov (.c (.bool false)))⟩]) (.seq (.seq (.reg [⟨(some 7), none, (.mov (.c (.int .i64 0)))⟩]) (.block 0 (.loop [6, 7] [6, 7, 9, 10, 11, 12, 13, 14, 15, 16, 17, 18, 19, 20, 21, 22, 23, 24, 25, 26, 27, 28, 29, 30, 31, 32, 33, 34, 35, 36, 37, 38, 39, 40, 41, 42, 43, 44, 45, 46, 47, 48, 49, 50] (.seq (.seq (.reg [⟨(some 9), none, (.mov (.s 7))⟩, ⟨(some 10), none, (.fld 0 (.s 2))⟩, ⟨(some 11), none, (.ld none (.s 10))⟩, ⟨(some 12), none, (.len .sl (.s 11))⟩, ⟨(some 13), none, (.bin .lss (.s 9) (.s 12))⟩]) (.cond (.s 13) .skip (.exit 0))) (.seq (.block 1 (.seq (.seq (.regD [⟨(some 16), none, (.fld 0 (.s 2))⟩, ⟨(some 17), none, (.ld none (.s 16))⟩, ⟨(some 18), none, (.mov (.s 7))⟩, ⟨(some 19), none, (.idx 6 (.s 17) (.s 18))⟩, ⟨(some 20), none, (.ld (some 6) (.s 19))⟩, ⟨(some 21), none, (.ld (some 6) (.s 3))⟩, ⟨(some 22), none, (.eqs false (.flat [.int, .int, .int, .int, .int, .int]) (.s 20) (.s 21))⟩] [(0, (false, [])), (1, (false, [])), (2, (false, [])), (3, (false, [])), (4, (false, [])), (5, (false, [])), (6, (false, []))]) (.cond (.s 22) (.seq (.reg [⟨(some 23), none, (.ld (some 1) (.s 2))⟩, ⟨none, none, (.st 1 (.s 4) (.s 23))⟩]) .ret) .skip)) (.seq (.seq (.regD [⟨(some 24), none, (.mov (.s 6))⟩, ⟨(some 25), none, (.un .not (.s 24))⟩, ⟨(some 26), none, (.mov (.s 25))⟩, ⟨(some 27), (some (26, true)), (.ld (some 6) (.s 3))⟩, ⟨(some 28), (some (26, true)), (.fld 0 (.s 2))⟩, ⟨(some 29), (some (26, true)), (.ld none (.s 28))⟩, ⟨(some 30), (some (26, true)), (.mov (.s 7))⟩, ⟨(some 31), (some (26, true)), (.idx 6 (.s 29) (.s 30))⟩, ⟨(some 32), (some (26, true)), (.ld (some 6) (.s 31))⟩, ⟨(some 33), (some (26, true)), (.call (.c (.fn (.func n_gazetteerref15_Less) [] [])) [(.s 27), (.s 32)])⟩, ⟨(some 34), none, (.pick (.s 26) (.s 33) (.c (.bool false)))⟩] [(0, (false, [])), (1, (false, [])), (2, (false, [])), (3, (false, [])), (4, (false, [])), (5, (false, [])), (6, (false, [])), (7, (false, [])), (8, (false, [])), (9, (true, [])), (10, (false, []))]) (.cond (.s 34) (.seq (.reg [⟨(some 35), none, (.fld 0 (.s 5))⟩, ⟨(some 36), none, (.ld none (.s 35))⟩, ⟨(some 37), none, (.ld (some 6) (.s 3))⟩, ⟨(some 38), none, (.mkSl 6 1 [(.int .u32 0), (.int .u64 0), (.int .i64 0), (.int .i64 0), (.int .i64 0), (.int .i64 0)] [(0, (.s 37))])⟩, ⟨(some 39), none, (.append 6 48 (.s 36) (.s 38))⟩, ⟨(some 40), none, (.fld 0 (.s 5))⟩, ⟨none, none, (.st 1 (.s 40) (.s 39))⟩]) (.reg [⟨(some 6), none, (.mov (.c (.bool true)))⟩])) .skip)) (.regD [⟨(some 41), none, (.fld 0 (.s 5))⟩, ⟨(some 42), none, (.ld none (.s 41))⟩, ⟨(some 43), none, (.fld 0 (.s 2))⟩, ⟨(some 44), none, (.ld none (.s 43))⟩, ⟨(some 45), none, (.mov (.s 7))⟩, ⟨(some 46), none, (.idx 6 (.s 44) (.s 45))⟩, ⟨(some 47), none, (.ld (some 6) (.s 46))⟩, ⟨(some 48), none, (.mkSl 6 1 [(.int .u32 0), (.int .u64 0), (.int .i64 0), (.int .i64 0), (.int .i64 0), (.int .i64 0)] [(0, (.s 47))])⟩, ⟨(some 49), none, (.append 6 48 (.s 42) (.s 48))⟩, ⟨(some 50), none, (.fld 0 (.s 5))⟩, ⟨none, none, (.st 1 (.s 50) (.s 49))⟩] [(0, (false, [])), (1, (false, [])), (2, (false, [])), (3, (false, [])), (4, (false, [])), (5, (false, [])), (6, (false, [])), (7, (true, [1, 0])), (8, (true, [])), (9, (false, [])), (10, (true, []))])))) (.reg [⟨(some 14), none, (.mov (.s 7))⟩, ⟨(some 15), none, (.bin .add (.s 14) (.c (.int .i64 1)))⟩, ⟨(some 7), none, (.mov (.s 15))⟩])))))) (.seq (.seq (.reg [⟨(some 51), none, (.mov (.s 6))⟩, ⟨(some 52), none, (.un .not (.s 51))⟩]) (.cond (.s 52) (.reg [⟨(some 53), none, (.fld 0 (.s 5))⟩, ⟨(some 54), none, (.ld none (.s 53))⟩, ⟨(some 55), none, (.ld (some 6) (.s 3))⟩, ⟨(some 56), none, (.mkSl 6 1 [(.int .u32 0), (.int .u64 0), (.int .i64 0), (.int .i64 0), (.int .i64 0), (.int .i64 0)] [(0, (.s 55))])⟩, ⟨(some 57), none, (.append 6 48 (.s 54) (.s 56))⟩, ⟨(some 58), none, (.fld 0 (.s 5))⟩, ⟨none, none, (.st 1 (.s 58) (.s 57))⟩]) .skip)) (.seq (.reg [⟨(some 59), none, (.ld (some 1) (.s 5))⟩, ⟨none, none, (.st 1 (.s 4) (.s 59))⟩]) .ret))))))
def F_gazetteerref15_With (P : Program) (a0 a1 : V) (st : St) (K : V → St → Prop) : Prop :=
  @stp P (.box (.c a0)) st ⟨fun v2 st =>
  @stp P (.box (.c a1)) st ⟨fun v3 st =>
  @stp P (.alloc [(.sl .nil 0 [] [])]) st ⟨fun v4 st =>
  @stp P (.build [(.sl .nil 0 [] [])] []) st ⟨fun v8 st =>
  @stp P (.alloc [(.sl .nil 0 [] [])]) st ⟨fun v5 st =>
  @stp P (.st 1 (.c v5) (.c v8)) st ⟨fun _v st =>
  @Hold ⟨∃ I1 : Nat → Rel 2, (∃ k, GhostV [(.bool false), (.int .i64 0)] st (app (I1 k))) ∧ ∀ k1 v6 v7, ∀ st, app (I1 k1) [v6, v7] st →
    @stp P (.fld 0 (.c v2)) st ⟨fun v10 st =>
    @stp P (.ld none (.c v10)) st ⟨fun v11 st =>
    @stp P (.len .sl (.c v11)) st ⟨fun v12 st =>
    @stp P (.bin .lss (.c v7) (.c v12)) st ⟨fun v13 st =>
    @cnd v13 ⟨
      @stpD P (.fld 0 (.c v2)) st ⟨fun v16 st =>
      @stpD P (.ld none (.c v16)) st ⟨fun v17 st =>
      @stpD P (.idx 6 (.c v17) (.c v7)) st ⟨fun v19 st =>
      @stpD P (.ld (some 6) (.c v19)) st ⟨fun v20 st =>
      @stpD P (.ld (some 6) (.c v3)) st ⟨fun v21 st =>
      @stpD P (.eqs false (.flat [.int, .int, .int, .int, .int, .int]) (.c v20) (.c v21)) st ⟨fun v22 st =>
      @cnd v22 ⟨
        @stp P (.ld (some 1) (.c v2)) st ⟨fun v23 st =>
        @stp P (.st 1 (.c v4) (.c v23)) st ⟨fun _v st =>
        @ldr (some 1) v4 st ⟨fun r1 =>
        GhostV [r1] st fun vs st => K (mkres vs) st⟩⟩⟩⟩
      ⟨
        @stpD P (.un .not (.c v6)) st ⟨fun v25 st =>
        @gstD P v25 true (.ld (some 6) (.c v3)) st ⟨fun v27 st =>
        @gstD P v25 true (.fld 0 (.c v2)) st ⟨fun v28 st =>
        @gstD P v25 true (.ld none (.c v28)) st ⟨fun v29 st =>
        @gstD P v25 true (.mov (.c v7)) st ⟨fun v30 st =>
        @gstD P v25 true (.idx 6 (.c v29) (.c v30)) st ⟨fun v31 st =>
        @gstD P v25 true (.ld (some 6) (.c v31)) st ⟨fun v32 st =>
        @gstD P v25 true (.call (.c (.fn (.func n_gazetteerref15_Less) [] [])) [(.c v27), (.c v32)]) st ⟨fun v33 st =>
        @stpD P (.pick (.c v25) (.c v33) (.c (.bool false))) st ⟨fun v34 st =>
        @cnd v34 ⟨
          @stp P (.fld 0 (.c v5)) st ⟨fun v35 st =>
          @stp P (.ld none (.c v35)) st ⟨fun v36 st =>
          @stp P (.ld (some 6) (.c v3)) st ⟨fun v37 st =>
          @stp P (.mkSl 6 1 [(.int .u32 0), (.int .u64 0), (.int .i64 0), (.int .i64 0), (.int .i64 0), (.int .i64 0)] [(0, (.c v37))]) st ⟨fun v38 st =>
          @stp P (.append 6 48 (.c v36) (.c v38)) st ⟨fun v39 st =>
          @stp P (.fld 0 (.c v5)) st ⟨fun v40 st =>
          @stp P (.st 1 (.c v40) (.c v39)) st ⟨fun _v st =>
          @stpD P (.fld 0 (.c v5)) st ⟨fun v41 st =>
          @stpD P (.ld none (.c v41)) st ⟨fun v42 st =>
          @stpD P (.fld 0 (.c v2)) st ⟨fun v43 st =>
          @stpD P (.ld none (.c v43)) st ⟨fun v44 st =>
          @stpD P (.idx 6 (.c v44) (.c v7)) st ⟨fun v46 st =>
          @stpD P (.ld (some 6) (.c v46)) st ⟨fun v47 st =>
          @stpD P (.mkSl 6 1 [(.int .u32 0), (.int .u64 0), (.int .i64 0), (.int .i64 0), (.int .i64 0), (.int .i64 0)] [(0, (.c v47))]) st ⟨fun v48 st =>
          hwat P none (.ld none (.c v41)) st v42 ∧ (
          hwat P none (.fld 0 (.c v5)) st v41 ∧ (
          @stpD P (.append 6 48 (.c v42) (.c v48)) st ⟨fun v49 st =>
          @stpD P (.fld 0 (.c v5)) st ⟨fun v50 st =>
          @stpD P (.st 1 (.c v50) (.c v49)) st ⟨fun _v st =>
          @stp P (.bin .add (.c v7) (.c (.int .i64 1))) st ⟨fun v15 st =>
          ∃ j, j < k1 ∧ GhostV [(.bool true), v15] st (app (I1 j))⟩⟩⟩⟩))⟩⟩⟩⟩⟩⟩⟩⟩⟩⟩⟩⟩⟩⟩⟩
        ⟨
          @stpD P (.fld 0 (.c v5)) st ⟨fun v41 st =>
          @stpD P (.ld none (.c v41)) st ⟨fun v42 st =>
          @stpD P (.fld 0 (.c v2)) st ⟨fun v43 st =>
          @stpD P (.ld none (.c v43)) st ⟨fun v44 st =>
          @stpD P (.idx 6 (.c v44) (.c v7)) st ⟨fun v46 st =>
          @stpD P (.ld (some 6) (.c v46)) st ⟨fun v47 st =>
          @stpD P (.mkSl 6 1 [(.int .u32 0), (.int .u64 0), (.int .i64 0), (.int .i64 0), (.int .i64 0), (.int .i64 0)] [(0, (.c v47))]) st ⟨fun v48 st =>
          hwat P none (.ld none (.c v41)) st v42 ∧ (
          hwat P none (.fld 0 (.c v5)) st v41 ∧ (
          @stpD P (.append 6 48 (.c v42) (.c v48)) st ⟨fun v49 st =>
          @stpD P (.fld 0 (.c v5)) st ⟨fun v50 st =>
          @stpD P (.st 1 (.c v50) (.c v49)) st ⟨fun _v st =>
          @stp P (.bin .add (.c v7) (.c (.int .i64 1))) st ⟨fun v15 st =>
          ∃ j, j < k1 ∧ GhostV [v6, v15] st (app (I1 j))⟩⟩⟩⟩))⟩⟩⟩⟩⟩⟩⟩⟩⟩⟩⟩⟩⟩⟩⟩⟩⟩⟩⟩⟩⟩⟩⟩⟩⟩
    ⟨
      @stp P (.un .not (.c v6)) st ⟨fun v52 st =>
      @cnd v52 ⟨
        @stp P (.fld 0 (.c v5)) st ⟨fun v53 st =>
        @stp P (.ld none (.c v53)) st ⟨fun v54 st =>
        @stp P (.ld (some 6) (.c v3)) st ⟨fun v55 st =>
        @stp P (.mkSl 6 1 [(.int .u32 0), (.int .u64 0), (.int .i64 0), (.int .i64 0), (.int .i64 0), (.int .i64 0)] [(0, (.c v55))]) st ⟨fun v56 st =>
        @stp P (.append 6 48 (.c v54) (.c v56)) st ⟨fun v57 st =>
        @stp P (.fld 0 (.c v5)) st ⟨fun v58 st =>
        @stp P (.st 1 (.c v58) (.c v57)) st ⟨fun _v st =>
        @stp P (.ld (some 1) (.c v5)) st ⟨fun v59 st =>
        @stp P (.st 1 (.c v4) (.c v59)) st ⟨fun _v st =>
        @ldr (some 1) v4 st ⟨fun r1 =>
        GhostV [r1] st fun vs st => K (mkres vs) st⟩⟩⟩⟩⟩⟩⟩⟩⟩⟩⟩
      ⟨
        @stp P (.ld (some 1) (.c v5)) st ⟨fun v59 st =>
        @stp P (.st 1 (.c v4) (.c v59)) st ⟨fun _v st =>
        @ldr (some 1) v4 st ⟨fun r1 =>
        GhostV [r1] st fun vs st => K (mkres vs) st⟩⟩⟩⟩⟩⟩⟩⟩⟩⟩⟩⟩⟩⟩⟩⟩⟩
theorem q_gazetteerref15_With {P : Program} {a0 a1 : V} {st : St} {K : V → St → Prop} : F_gazetteerref15_With P a0 a1 st K = hwp P c_gazetteerref15_With (hretQ [.cell 4 (some 1)] K) (enterFr [a0, a1]) st := by kernel_rfl
abbrev R_gazetteerref15_With (P : Program) : Prop := resFnH P n_gazetteerref15_With = some (60, c_gazetteerref15_With.er, [.cell 4 (some 1)])
theorem A_gazetteerref15_With {P : Program} (h : R_gazetteerref15_With P) {a0 a1 : V} {st : St} {K : V → St → Prop} (hF : F_gazetteerref15_With P a0 a1 st K) : ACalls P n_gazetteerref15_With [a0, a1] st K :=
  ACalls_h h rfl (by simp) (q_gazetteerref15_With ▸ hF)

def c_gazetteerref15_Without : ACode := (.seq (.reg [⟨(some 2), none, (.box (.s 0))⟩, ⟨(some 4), none, (.alloc [(.sl .nil 0 [] [])])⟩]) (.seq (.reg [⟨(some 7), none, (.build [(.sl .nil 0 [] [])] [])⟩, ⟨(some 5), none, (.alloc [(.sl .nil 0 [] [])])⟩, ⟨none, none, (.st 1 (.s 5) (.s 7))⟩]) (.seq (.seq (.reg [⟨(some 6), none, (.mov (.c (.int .i64 0)))⟩]) (.block 0 (.loop [6] [6, 8, 9, 10, 11, 12, 13, 14, 15, 16, 17, 18, 19, 20, 21, 22, 23, 24, 25, 26, 27, 28, 29, 30, 31, 32] (.seq (.seq (.reg [⟨(some 8), none, (.mov (.s 6))⟩, ⟨(some 9), none, (.fld 0 (.s 2))⟩, ⟨(some 10), none, (.ld none (.s 9))⟩, ⟨(some 11), none, (.len .sl (.s 10))⟩, ⟨(some 12), none, (.bin .lss (.s 8) (.s 11))⟩]) (.cond (.s 12) .skip (.exit 0))) (.seq (.block 1 (.seq (.reg [⟨(some 15), none, (.fld 0 (.s 2))⟩, ⟨(some 16), none, (.ld none (.s 15))⟩, ⟨(some 17), none, (.mov (.s 6))⟩, ⟨(some 18), none, (.idx 6 (.s 16) (.s 17))⟩, ⟨(some 19), none, (.fld 1 (.s 18))⟩, ⟨(some 20), none, (.ld none (.s 19))⟩, ⟨(some 21), none, (.mov (.s 1))⟩, ⟨(some 22), none, (.bin .neq (.s 20) (.s 21))⟩]) (.cond (.s 22) (.regD [⟨(some 23), none, (.fld 0 (.s 5))⟩, ⟨(some 24), none, (.ld none (.s 23))⟩, ⟨(some 25), none, (.fld 0 (.s 2))⟩, ⟨(some 26), none, (.ld none (.s 25))⟩, ⟨(some 27), none, (.mov (.s 6))⟩, ⟨(some 28), none, (.idx 6 (.s 26) (.s 27))⟩, ⟨(some 29), none, (.ld (some 6) (.s 28))⟩, ⟨(some 30), none, (.mkSl 6 1 [(.int .u32 0), (.int .u64 0), (.int .i64 0), (.int .i64 0), (.int .i64 0), (.int .i64 0)] [(0, (.s 29))])⟩, ⟨(some 31), none, (.append 6 48 (.s 24) (.s 30))⟩, ⟨(some 32), none, (.fld 0 (.s 5))⟩, ⟨none, none, (.st 1 (.s 32) (.s 31))⟩] [(0, (false, [])), (1, (false, [])), (2, (false, [])), (3, (false, [])), (4, (false, [])), (5, (false, [])), (6, (false, [])), (7, (true, [1, 0])), (8, (true, [])), (9, (false, [])), (10, (true, []))]) .skip))) (.reg [⟨(some 13), none, (.mov (.s 6))⟩, ⟨(some 14), none, (.bin .add (.s 13) (.c (.int .i64 1)))⟩, ⟨(some 6), none, (.mov (.s 14))⟩])))))) (.seq (.reg [⟨(some 33), none, (.ld (some 1) (.s 5))⟩, ⟨none, none, (.st 1 (.s 4) (.s 33))⟩]) .ret))))
def F_gazetteerref15_Without (P : Program) (a0 a1 : V) (st : St) (K : V → St → Prop) : Prop :=
  @stp P (.box (.c a0)) st ⟨fun v2 st =>
  @stp P (.alloc [(.sl .nil 0 [] [])]) st ⟨fun v4 st =>
  @stp P (.build [(.sl .nil 0 [] [])] []) st ⟨fun v7 st =>
  @stp P (.alloc [(.sl .nil 0 [] [])]) st ⟨fun v5 st =>
  @stp P (.st 1 (.c v5) (.c v7)) st ⟨fun _v st =>
  @Hold ⟨∃ I1 : Nat → Rel 1, (∃ k, GhostV [(.int .i64 0)] st (app (I1 k))) ∧ ∀ k1 v6, ∀ st, app (I1 k1) [v6] st →
    @stp P (.fld 0 (.c v2)) st ⟨fun v9 st =>
    @stp P (.ld none (.c v9)) st ⟨fun v10 st =>
    @stp P (.len .sl (.c v10)) st ⟨fun v11 st =>
    @stp P (.bin .lss (.c v6) (.c v11)) st ⟨fun v12 st =>
    @cnd v12 ⟨
      @stp P (.fld 0 (.c v2)) st ⟨fun v15 st =>
      @stp P (.ld none (.c v15)) st ⟨fun v16 st =>
      @stp P (.idx 6 (.c v16) (.c v6)) st ⟨fun v18 st =>
      @stp P (.fld 1 (.c v18)) st ⟨fun v19 st =>
      @stp P (.ld none (.c v19)) st ⟨fun v20 st =>
      @stp P (.bin .neq (.c v20) (.c a1)) st ⟨fun v22 st =>
      @cnd v22 ⟨
        @stpD P (.fld 0 (.c v5)) st ⟨fun v23 st =>
        @stpD P (.ld none (.c v23)) st ⟨fun v24 st =>
        @stpD P (.fld 0 (.c v2)) st ⟨fun v25 st =>
        @stpD P (.ld none (.c v25)) st ⟨fun v26 st =>
        @stpD P (.idx 6 (.c v26) (.c v6)) st ⟨fun v28 st =>
        @stpD P (.ld (some 6) (.c v28)) st ⟨fun v29 st =>
        @stpD P (.mkSl 6 1 [(.int .u32 0), (.int .u64 0), (.int .i64 0), (.int .i64 0), (.int .i64 0), (.int .i64 0)] [(0, (.c v29))]) st ⟨fun v30 st =>
        hwat P none (.ld none (.c v23)) st v24 ∧ (
        hwat P none (.fld 0 (.c v5)) st v23 ∧ (
        @stpD P (.append 6 48 (.c v24) (.c v30)) st ⟨fun v31 st =>
        @stpD P (.fld 0 (.c v5)) st ⟨fun v32 st =>
        @stpD P (.st 1 (.c v32) (.c v31)) st ⟨fun _v st =>
        @stp P (.bin .add (.c v6) (.c (.int .i64 1))) st ⟨fun v14 st =>
        ∃ j, j < k1 ∧ GhostV [v14] st (app (I1 j))⟩⟩⟩⟩))⟩⟩⟩⟩⟩⟩⟩⟩
      ⟨
        @stp P (.bin .add (.c v6) (.c (.int .i64 1))) st ⟨fun v14 st =>
        ∃ j, j < k1 ∧ GhostV [v14] st (app (I1 j))⟩⟩⟩⟩⟩⟩⟩⟩⟩
    ⟨
      @stp P (.ld (some 1) (.c v5)) st ⟨fun v33 st =>
      @stp P (.st 1 (.c v4) (.c v33)) st ⟨fun _v st =>
      @ldr (some 1) v4 st ⟨fun r1 =>
      GhostV [r1] st fun vs st => K (mkres vs) st⟩⟩⟩⟩⟩⟩⟩⟩⟩⟩⟩⟩⟩⟩
theorem q_gazetteerref15_Without {P : Program} {a0 a1 : V} {st : St} {K : V → St → Prop} : F_gazetteerref15_Without P a0 a1 st K = hwp P c_gazetteerref15_Without (hretQ [.cell 4 (some 1)] K) (enterFr [a0, a1]) st := by kernel_rfl
abbrev R_gazetteerref15_Without (P : Program) : Prop := resFnH P n_gazetteerref15_Without = some (34, c_gazetteerref15_Without.er, [.cell 4 (some 1)])
theorem A_gazetteerref15_Without {P : Program} (h : R_gazetteerref15_Without P) {a0 a1 : V} {st : St} {K : V → St → Prop} (hF : F_gazetteerref15_Without P a0 a1 st K) : ACalls P n_gazetteerref15_Without [a0, a1] st K :=
  ACalls_h h rfl (by simp) (q_gazetteerref15_Without ▸ hF)

end Go.Proofs.Ytmgkjbphlbpbfaa.AM
