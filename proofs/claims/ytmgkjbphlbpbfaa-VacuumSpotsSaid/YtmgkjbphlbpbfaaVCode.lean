import Derived.Test.YtmgkjbphlbpbfaaAmS2
import Derived.KernelRfl
namespace Go.Proofs.Ytmgkjbphlbpbfaa.AM
open Go
set_option linter.unusedVariables false
def n_gazetteerlaw18_VacuumDead : FuncId := 3
def n_gazetteerlaw18_VacuumBack : FuncId := 4
def n_gazetteerlaw18_VacuumSpots : FuncId := 5
def n_gazetteerlaw18_VacuumSeen : FuncId := 6
def n_gazetteerlaw15_PredMeets : FuncId := 7
def n_gazetteerlaw15_PredKeeps : FuncId := 8
def n_gazetteerlaw18_wakes : FuncId := 12
def n_gazetteerlaw18_items : FuncId := 13
def n_gazetteerlaw18_fates : FuncId := 14
def n_vacuum_Dead : FuncId := 15
def n_gazetteerref17_Same : FuncId := 16
def n_gazetteerref17_Right : FuncId := 17
def n_gazetteerref17_All : FuncId := 18
def n_gazetteerref18_Dead : FuncId := 19
def n_gazetteerlaw18_same : FuncId := 20
def n_vacuum_Left : FuncId := 21
def n_gazetteerref18_Left : FuncId := 22
def n_vacuum_Entry : FuncId := 23
def n_vacuum_Spot : FuncId := 24
def n_gazetteerlaw18_spots : FuncId := 25
def n_gazetteerref18_Spot : FuncId := 26
def n_gazetteerref18_Entry : FuncId := 27
def n_vacuum_Batches : FuncId := 28
def n_slices_Contains_Spot_Spot : FuncId := 29
def n_vision_Seen : FuncId := 30
def n_slices_Equal_Stored_Stored : FuncId := 31
def n_gazetteerlaw15_wakes : FuncId := 32
def n_pred_Meets : FuncId := 33
def n_gazetteerlaw15_copied : FuncId := 34
def n_gazetteerref15_Right : FuncId := 35
def n_gazetteerref09_Box : FuncId := 36
def n_gazetteerref15_Meets : FuncId := 37
def n_pred_Attach : FuncId := 38
def n_gazetteerlaw15_PredKeeps_1 : FuncId := 39
def n_pred_Split : FuncId := 40
def n_pred_Release : FuncId := 41
def n_pred_Pass : FuncId := 42
def n_gazetteerlaw15_told : FuncId := 43
def n_gazetteerref15_Pass : FuncId := 44
def n_pred_Same : FuncId := 45
def n_gazetteerref15_Same : FuncId := 46
def n_pred_Check : FuncId := 47
def n_gazetteerref15_Mark : FuncId := 48
def n_gazetteerref15_With : FuncId := 49
def n_gazetteerref15_Without : FuncId := 50
def n_pred_Gone : FuncId := 51
def n_gazetteerref15_Split : FuncId := 52
def n_gazetteerref15_Gone : FuncId := 53
def n_gazetteerlaw18_first : FuncId := 54
def n_vision_Check : FuncId := 55
def n_vacuum_dead : FuncId := 56
def n_gazetteerref10_Right : FuncId := 57
def n_gazetteerref17_Dead : FuncId := 58
def n_vacuum_Left_1 : FuncId := 59
def n_slices_DeleteFunc_Stored_Stored : FuncId := 60
def n_slices_Clone_Stored_Stored : FuncId := 61
def n_gazetteerref18_Has : FuncId := 62
def n_slices_Clone_Spot_Spot : FuncId := 63
def n_slices_Index_Spot_Spot : FuncId := 64
def n_vision_ready : FuncId := 65
def n_slices_Collect_Stored : FuncId := 66
def n_vision_look_seen : FuncId := 67
def n_pred_box : FuncId := 68
def n_pred_at : FuncId := 69
def n_key_Meets : FuncId := 70
def n_slices_Compact_uint64_uint64 : FuncId := 71
def n_gazetteerref09_Meets : FuncId := 73
def n_pred_mark : FuncId := 74
def n_pred_change : FuncId := 75
def n_pred_Attach_1 : FuncId := 76
def n_slices_ContainsFunc_Split_Split : FuncId := 77
def n_pred_Split_1 : FuncId := 78
def n_pred_Split_2 : FuncId := 79
def n_slices_Collect_Pred : FuncId := 80
def n_slices_DeleteFunc_Pred_Pred : FuncId := 81
def n_slices_Clone_Pred_Pred : FuncId := 82
def n_pred_Release_1 : FuncId := 83
def n_slices_Contains_uint32_uint32 : FuncId := 84
def n_pred_Pass_1 : FuncId := 85
def n_gazetteerref15_Copied : FuncId := 86
def n_slices_Equal_Pred_Pred : FuncId := 87
def n_pred_Gone_1 : FuncId := 89
def n_pred_Gone_1_1 : FuncId := 90
def n_vacuum_dead_1 : FuncId := 91
def n_vision_Dead : FuncId := 92
def n_gazetteerref17_Fate : FuncId := 93
def n_slices_IndexFunc_Stored_Stored : FuncId := 94
def n_slices_ContainsFunc_Stored_Stored : FuncId := 95
def n_vision_ready_1 : FuncId := 96
def n_heap_Check : FuncId := 97
def n_slices_AppendSeq_Stored_Stored : FuncId := 98
def n_vision_look_seen_1 : FuncId := 99
def n_vision_look_sees : FuncId := 100
def n_key_Check : FuncId := 101
def n_pred_at_1 : FuncId := 102
def n_key_box : FuncId := 103
def n_gazetteerref09_inside : FuncId := 104
def n_pred_change_1 : FuncId := 105
def n_slices_BinarySearchFunc_Pred_Pred_Pred : FuncId := 106
def n_slices_IndexFunc_Split_Split : FuncId := 108
def n_slices_AppendSeq_Pred_Pred : FuncId := 109
def n_slices_IndexFunc_Pred_Pred : FuncId := 110
def n_slices_Index_uint32_uint32 : FuncId := 111
def n_cmp_Or_int : FuncId := 112
def n_cmp_Compare_uint32 : FuncId := 113
def n_cmp_Compare_uint64 : FuncId := 114
def n_cmp_Compare_int64 : FuncId := 115
def n_vision_Sees : FuncId := 116
def n_vision_fate : FuncId := 117
def n_vision_look_counts : FuncId := 118
def n_slices_rotateRight_Pred : FuncId := 120
def n_cmp_isNaN_uint32 : FuncId := 121
def n_cmp_isNaN_uint64 : FuncId := 122
def n_cmp_isNaN_int64 : FuncId := 123
def n_slices_BinarySearchFunc_Fate_Fate_uint64 : FuncId := 124
def n_vision_fate_1 : FuncId := 125
def n_slices_rotateLeft_Pred : FuncId := 126
def n_slices_Reverse_Pred_Pred : FuncId := 127

def c_gazetteerlaw18_VacuumBack : ACode := (.seq (.reg [⟨(some 2), none, (.box (.s 0))⟩, ⟨(some 4), none, (.mov (.c (.bool false)))⟩]) (.seq (.seq (.reg [⟨(some 10), none, (.call (.c (.fn (.func n_gazetteerlaw18_wakes) [] [])) [])⟩, ⟨(some 11), none, (.un .not (.s 10))⟩]) (.cond (.s 11) (.seq (.reg [⟨(some 4), none, (.mov (.c (.bool false)))⟩]) .ret) .skip)) (.seq (.reg [⟨(some 13), none, (.ld (some 2) (.s 2))⟩, ⟨(some 14), none, (.call (.c (.fn (.func n_vacuum_Entry) [] [])) [(.s 13)])⟩, ⟨(some 12), none, (.mov (.s 14))⟩, ⟨(some 15), none, (.ext 0 (.s 12))⟩, ⟨(some 16), none, (.ext 1 (.s 12))⟩, ⟨(some 5), none, (.mov (.s 15))⟩, ⟨(some 6), none, (.mov (.s 16))⟩]) (.join [] [4, 7, 8, 17, 18, 19, 20, 21, 22, 23, 24, 25, 26, 27, 28, 29, 30] (.seq (.reg [⟨(some 17), none, (.mov (.s 6))⟩, ⟨(some 18), none, (.bin .eql (.s 17) (.c (.int .i64 0)))⟩]) (.cond (.s 18) (.seq (.reg [⟨(some 20), none, (.mov (.s 5))⟩, ⟨(some 21), none, (.call (.c (.fn (.func n_vacuum_Spot) [] [])) [(.s 20)])⟩, ⟨(some 19), none, (.mov (.s 21))⟩, ⟨(some 22), none, (.ext 0 (.s 19))⟩, ⟨(some 23), none, (.ext 1 (.s 19))⟩, ⟨(some 7), none, (.alloc [(.int .i64 0), (.int .i64 0)])⟩, ⟨none, none, (.st 2 (.s 7) (.s 22))⟩, ⟨(some 8), none, (.mov (.s 23))⟩]) (.seq (.reg [⟨(some 24), none, (.mov (.s 8))⟩, ⟨(some 25), none, (.bin .neq (.s 24) (.c (.int .i64 0)))⟩, ⟨(some 26), none, (.mov (.s 25))⟩, ⟨(some 27), (some (26, false)), (.ld (some 2) (.s 7))⟩, ⟨(some 28), (some (26, false)), (.ld (some 2) (.s 2))⟩, ⟨(some 29), (some (26, false)), (.eqs true (.flat [.int, .int]) (.s 27) (.s 28))⟩, ⟨(some 30), none, (.pick (.s 26) (.c (.bool true)) (.s 29))⟩]) (.cond (.s 30) (.seq (.reg [⟨(some 4), none, (.mov (.c (.bool false)))⟩]) .ret) .skip))) .skip)) (.seq (.reg [⟨(some 32), none, (.mov (.s 1))⟩, ⟨(some 33), none, (.call (.c (.fn (.func n_vacuum_Spot) [] [])) [(.s 32)])⟩, ⟨(some 31), none, (.mov (.s 33))⟩, ⟨(some 34), none, (.ext 0 (.s 31))⟩, ⟨(some 35), none, (.ext 1 (.s 31))⟩, ⟨(some 9), none, (.alloc [(.int .i64 0), (.int .i64 0)])⟩, ⟨none, none, (.st 2 (.s 9) (.s 34))⟩, ⟨(some 6), none, (.mov (.s 35))⟩]) (.seq (.seq (.reg [⟨(some 36), none, (.mov (.s 6))⟩, ⟨(some 37), none, (.bin .neq (.s 36) (.c (.int .i64 0)))⟩]) (.cond (.s 37) (.seq (.reg [⟨(some 38), none, (.mov (.s 6))⟩, ⟨(some 39), none, (.bin .eql (.s 38) (.c (.int .i64 2)))⟩, ⟨(some 40), none, (.mov (.s 39))⟩, ⟨(some 41), (some (40, true)), (.ld (some 2) (.s 9))⟩, ⟨(some 42), (some (40, true)), (.build [(.int .i64 0), (.int .i64 0)] [])⟩, ⟨(some 43), (some (40, true)), (.eqs false (.flat [.int, .int]) (.s 41) (.s 42))⟩, ⟨(some 44), none, (.pick (.s 40) (.s 43) (.c (.bool false)))⟩, ⟨(some 4), none, (.mov (.s 44))⟩]) .ret) .skip)) (.seq (.reg [⟨(some 46), none, (.ld (some 2) (.s 9))⟩, ⟨(some 47), none, (.call (.c (.fn (.func n_vacuum_Entry) [] [])) [(.s 46)])⟩, ⟨(some 45), none, (.mov (.s 47))⟩, ⟨(some 48), none, (.ext 0 (.s 45))⟩, ⟨(some 49), none, (.ext 1 (.s 45))⟩, ⟨(some 5), none, (.mov (.s 48))⟩, ⟨(some 6), none, (.mov (.s 49))⟩]) (.seq (.reg [⟨(some 50), none, (.mov (.s 6))⟩, ⟨(some 51), none, (.bin .eql (.s 50) (.c (.int .i64 0)))⟩, ⟨(some 52), none, (.mov (.s 51))⟩, ⟨(some 53), (some (52, true)), (.mov (.s 5))⟩, ⟨(some 54), (some (52, true)), (.mov (.s 1))⟩, ⟨(some 55), (some (52, true)), (.bin .eql (.s 53) (.s 54))⟩, ⟨(some 56), none, (.pick (.s 52) (.s 55) (.c (.bool false)))⟩, ⟨(some 4), none, (.mov (.s 56))⟩]) .ret))))))))
def F_gazetteerlaw18_VacuumBack (P : Program) (a0 a1 : V) (st : St) (K : V → St → Prop) : Prop :=
  @stp P (.box (.c a0)) st ⟨fun v2 st =>
  @stp P (.call (.c (.fn (.func n_gazetteerlaw18_wakes) [] [])) []) st ⟨fun v10 st =>
  @stp P (.un .not (.c v10)) st ⟨fun v11 st =>
  @cnd v11 ⟨
    GhostV [(.bool false)] st fun vs st => K (mkres vs) st⟩
  ⟨
    @stp P (.ld (some 2) (.c v2)) st ⟨fun v13 st =>
    @stp P (.call (.c (.fn (.func n_vacuum_Entry) [] [])) [(.c v13)]) st ⟨fun v14 st =>
    @stp P (.ext 0 (.c v14)) st ⟨fun v15 st =>
    @stp P (.ext 1 (.c v14)) st ⟨fun v16 st =>
    @Hold ⟨∃ J1 : Rel 0, (
      @stp P (.bin .eql (.c v16) (.c (.int .i64 0))) st ⟨fun v18 st =>
      @cnd v18 ⟨
        @stp P (.call (.c (.fn (.func n_vacuum_Spot) [] [])) [(.c v15)]) st ⟨fun v21 st =>
        @stp P (.ext 0 (.c v21)) st ⟨fun v22 st =>
        @stp P (.ext 1 (.c v21)) st ⟨fun v23 st =>
        @stp P (.alloc [(.int .i64 0), (.int .i64 0)]) st ⟨fun v7 st =>
        @stp P (.st 2 (.c v7) (.c v22)) st ⟨fun _v st =>
        @stp P (.bin .neq (.c v23) (.c (.int .i64 0))) st ⟨fun v25 st =>
        @gst P v25 false (.ld (some 2) (.c v7)) st ⟨fun v27 st =>
        @gst P v25 false (.ld (some 2) (.c v2)) st ⟨fun v28 st =>
        @gst P v25 false (.eqs true (.flat [.int, .int]) (.c v27) (.c v28)) st ⟨fun v29 st =>
        @stp P (.pick (.c v25) (.c (.bool true)) (.c v29)) st ⟨fun v30 st =>
        @cnd v30 ⟨
          GhostV [(.bool false)] st fun vs st => K (mkres vs) st⟩
        ⟨
          GhostV [] st (app J1)⟩⟩⟩⟩⟩⟩⟩⟩⟩⟩⟩⟩
      ⟨
        GhostV [] st (app J1)⟩⟩) ∧
    ∀ st, app J1 [] st →
      @stp P (.call (.c (.fn (.func n_vacuum_Spot) [] [])) [(.c a1)]) st ⟨fun v33 st =>
      @stp P (.ext 0 (.c v33)) st ⟨fun v34 st =>
      @stp P (.ext 1 (.c v33)) st ⟨fun v35 st =>
      @stp P (.alloc [(.int .i64 0), (.int .i64 0)]) st ⟨fun v9 st =>
      @stp P (.st 2 (.c v9) (.c v34)) st ⟨fun _v st =>
      @stp P (.bin .neq (.c v35) (.c (.int .i64 0))) st ⟨fun v37 st =>
      @cnd v37 ⟨
        @stp P (.bin .eql (.c v35) (.c (.int .i64 2))) st ⟨fun v39 st =>
        @gst P v39 true (.ld (some 2) (.c v9)) st ⟨fun v41 st =>
        @gst P v39 true (.build [(.int .i64 0), (.int .i64 0)] []) st ⟨fun v42 st =>
        @gst P v39 true (.eqs false (.flat [.int, .int]) (.c v41) (.c v42)) st ⟨fun v43 st =>
        @stp P (.pick (.c v39) (.c v43) (.c (.bool false))) st ⟨fun v44 st =>
        GhostV [v44] st fun vs st => K (mkres vs) st⟩⟩⟩⟩⟩⟩
      ⟨
        @stp P (.ld (some 2) (.c v9)) st ⟨fun v46 st =>
        @stp P (.call (.c (.fn (.func n_vacuum_Entry) [] [])) [(.c v46)]) st ⟨fun v47 st =>
        @stp P (.ext 0 (.c v47)) st ⟨fun v48 st =>
        @stp P (.ext 1 (.c v47)) st ⟨fun v49 st =>
        @stp P (.bin .eql (.c v49) (.c (.int .i64 0))) st ⟨fun v51 st =>
        @gst P v51 true (.mov (.c v48)) st ⟨fun v53 st =>
        @gst P v51 true (.mov (.c a1)) st ⟨fun v54 st =>
        @gst P v51 true (.bin .eql (.c v53) (.c v54)) st ⟨fun v55 st =>
        @stp P (.pick (.c v51) (.c v55) (.c (.bool false))) st ⟨fun v56 st =>
        GhostV [v56] st fun vs st => K (mkres vs) st⟩⟩⟩⟩⟩⟩⟩⟩⟩⟩⟩⟩⟩⟩⟩⟩⟩⟩⟩⟩⟩⟩⟩⟩⟩
theorem q_gazetteerlaw18_VacuumBack {P : Program} {a0 a1 : V} {st : St} {K : V → St → Prop} : F_gazetteerlaw18_VacuumBack P a0 a1 st K = hwp P c_gazetteerlaw18_VacuumBack (hretQ [.tmp 4] K) (enterFr [a0, a1]) st := by kernel_rfl
abbrev R_gazetteerlaw18_VacuumBack (P : Program) : Prop := resFnH P n_gazetteerlaw18_VacuumBack = some (57, c_gazetteerlaw18_VacuumBack.er, [.tmp 4])
theorem A_gazetteerlaw18_VacuumBack {P : Program} (h : R_gazetteerlaw18_VacuumBack P) {a0 a1 : V} {st : St} {K : V → St → Prop} (hF : F_gazetteerlaw18_VacuumBack P a0 a1 st K) : ACalls P n_gazetteerlaw18_VacuumBack [a0, a1] st K :=
  ACalls_h h rfl (by simp) (q_gazetteerlaw18_VacuumBack ▸ hF)

def c_gazetteerlaw18_wakes : ACode := (.seq (.reg [⟨(some 0), none, (.mov (.c (.bool false)))⟩]) (.join [1] [1, 6, 7, 8, 9, 10, 11, 12, 13, 14] (.reg [⟨(some 6), none, (.build [(.int .u32 0), (.int .u64 0), (.int .u64 0), (.int .i64 0), (.int .i64 0), (.int .i64 0), (.int .i64 0), (.int .i64 0)] [(0, (1, (.c (.int .u32 1)))), (1, (1, (.c (.int .u64 1)))), (2, (1, (.c (.int .u64 3))))])⟩, ⟨(some 7), none, (.build [(.int .i64 0), (.int .i64 0), (.int .u32 0), (.int .u64 0), (.int .u64 0), (.int .i64 0), (.int .i64 0), (.int .i64 0), (.int .i64 0), (.int .i64 0)] [(2, (8, (.s 6)))])⟩, ⟨(some 8), none, (.build [(.int .i64 0), (.int .i64 0)] [(1, (1, (.c (.int .i64 1))))])⟩, ⟨(some 9), none, (.build [(.int .u32 0), (.int .u64 0), (.int .u64 0), (.int .i64 0), (.int .i64 0), (.int .i64 0), (.int .i64 0), (.int .i64 0)] [(0, (1, (.c (.int .u32 1)))), (1, (1, (.c (.int .u64 1)))), (2, (1, (.c (.int .u64 4))))])⟩, ⟨(some 10), none, (.build [(.int .i64 0), (.int .i64 0), (.int .u32 0), (.int .u64 0), (.int .u64 0), (.int .i64 0), (.int .i64 0), (.int .i64 0), (.int .i64 0), (.int .i64 0)] [(0, (2, (.s 8))), (2, (8, (.s 9)))])⟩, ⟨(some 11), none, (.build [(.int .i64 0), (.int .i64 0)] [(1, (1, (.c (.int .i64 2))))])⟩, ⟨(some 12), none, (.build [(.int .u32 0), (.int .u64 0), (.int .u64 0), (.int .i64 0), (.int .i64 0), (.int .i64 0), (.int .i64 0), (.int .i64 0)] [(0, (1, (.c (.int .u32 1)))), (1, (1, (.c (.int .u64 7))))])⟩, ⟨(some 13), none, (.build [(.int .i64 0), (.int .i64 0), (.int .u32 0), (.int .u64 0), (.int .u64 0), (.int .i64 0), (.int .i64 0), (.int .i64 0), (.int .i64 0), (.int .i64 0)] [(0, (2, (.s 11))), (2, (8, (.s 12)))])⟩, ⟨(some 14), none, (.mkSl 10 3 [(.int .i64 0), (.int .i64 0), (.int .u32 0), (.int .u64 0), (.int .u64 0), (.int .i64 0), (.int .i64 0), (.int .i64 0), (.int .i64 0), (.int .i64 0)] [(0, (.s 7)), (1, (.s 10)), (2, (.s 13))])⟩, ⟨(some 1), none, (.mov (.s 14))⟩]) (.seq (.reg [⟨(some 16), none, (.call (.c (.fn (.func n_gazetteerlaw18_first) [] [])) [])⟩, ⟨(some 17), none, (.mov (.s 1))⟩, ⟨(some 18), none, (.call (.c (.fn (.func n_vacuum_Dead) [] [])) [(.s 16), (.c (.int .u64 6)), (.s 17)])⟩, ⟨(some 15), none, (.mov (.s 18))⟩, ⟨(some 19), none, (.ext 0 (.s 15))⟩, ⟨(some 20), none, (.ext 1 (.s 15))⟩, ⟨(some 2), none, (.mov (.s 19))⟩, ⟨(some 3), none, (.mov (.s 20))⟩]) (.seq (.reg [⟨(some 22), none, (.build [(.int .i64 0), (.int .i64 0)] [(0, (1, (.c (.int .i64 1)))), (1, (1, (.c (.int .i64 2))))])⟩, ⟨(some 23), none, (.call (.c (.fn (.func n_vacuum_Entry) [] [])) [(.s 22)])⟩, ⟨(some 21), none, (.mov (.s 23))⟩, ⟨(some 24), none, (.ext 0 (.s 21))⟩, ⟨(some 25), none, (.ext 1 (.s 21))⟩, ⟨(some 4), none, (.mov (.s 24))⟩, ⟨(some 5), none, (.mov (.s 25))⟩]) (.seq (.reg [⟨(some 26), none, (.mov (.s 3))⟩, ⟨(some 27), none, (.bin .eql (.s 26) (.c (.int .i64 0)))⟩, ⟨(some 28), none, (.mov (.s 27))⟩, ⟨(some 29), (some (28, true)), (.mov (.s 5))⟩, ⟨(some 30), (some (28, true)), (.bin .eql (.s 29) (.c (.int .i64 0)))⟩, ⟨(some 31), none, (.pick (.s 28) (.s 30) (.c (.bool false)))⟩, ⟨(some 32), none, (.mov (.s 31))⟩, ⟨(some 33), (some (32, true)), (.mov (.s 4))⟩, ⟨(some 34), (some (32, true)), (.bin .eql (.s 33) (.c (.int .u32 7)))⟩, ⟨(some 35), none, (.pick (.s 32) (.s 34) (.c (.bool false)))⟩, ⟨(some 36), none, (.mov (.s 35))⟩, ⟨(some 37), (some (36, true)), (.mov (.s 2))⟩, ⟨(some 38), (some (36, true)), (.len .sl (.s 37))⟩, ⟨(some 39), (some (36, true)), (.bin .eql (.s 38) (.c (.int .i64 2)))⟩, ⟨(some 40), none, (.pick (.s 36) (.s 39) (.c (.bool false)))⟩, ⟨(some 41), none, (.mov (.s 40))⟩, ⟨(some 42), (some (41, true)), (.mov (.s 2))⟩, ⟨(some 43), (some (41, true)), (.idx 2 (.s 42) (.c (.int .i64 1)))⟩, ⟨(some 44), (some (41, true)), (.fld 1 (.s 43))⟩, ⟨(some 45), (some (41, true)), (.ld none (.s 44))⟩, ⟨(some 46), (some (41, true)), (.bin .eql (.s 45) (.c (.int .i64 2)))⟩, ⟨(some 47), none, (.pick (.s 41) (.s 46) (.c (.bool false)))⟩, ⟨(some 48), none, (.mov (.s 47))⟩, ⟨(some 49), (some (48, true)), (.mov (.s 1))⟩, ⟨(some 50), (some (48, true)), (.mov (.s 2))⟩, ⟨(some 51), (some (48, true)), (.call (.c (.fn (.func n_vacuum_Left) [] [])) [(.s 49), (.s 50)])⟩, ⟨(some 52), (some (48, true)), (.len .sl (.s 51))⟩, ⟨(some 53), (some (48, true)), (.bin .eql (.s 52) (.c (.int .i64 1)))⟩, ⟨(some 54), none, (.pick (.s 48) (.s 53) (.c (.bool false)))⟩, ⟨(some 0), none, (.mov (.s 54))⟩]) .ret)))))
def F_gazetteerlaw18_wakes (P : Program) (st : St) (K : V → St → Prop) : Prop :=
  @Hold ⟨∃ J1 : Rel 1, (
    @stp P (.build [(.int .u32 0), (.int .u64 0), (.int .u64 0), (.int .i64 0), (.int .i64 0), (.int .i64 0), (.int .i64 0), (.int .i64 0)] [(0, 1, (.c (.int .u32 1))), (1, 1, (.c (.int .u64 1))), (2, 1, (.c (.int .u64 3)))]) st ⟨fun v6 st =>
    @stp P (.build [(.int .i64 0), (.int .i64 0), (.int .u32 0), (.int .u64 0), (.int .u64 0), (.int .i64 0), (.int .i64 0), (.int .i64 0), (.int .i64 0), (.int .i64 0)] [(2, 8, (.c v6))]) st ⟨fun v7 st =>
    @stp P (.build [(.int .i64 0), (.int .i64 0)] [(1, 1, (.c (.int .i64 1)))]) st ⟨fun v8 st =>
    @stp P (.build [(.int .u32 0), (.int .u64 0), (.int .u64 0), (.int .i64 0), (.int .i64 0), (.int .i64 0), (.int .i64 0), (.int .i64 0)] [(0, 1, (.c (.int .u32 1))), (1, 1, (.c (.int .u64 1))), (2, 1, (.c (.int .u64 4)))]) st ⟨fun v9 st =>
    @stp P (.build [(.int .i64 0), (.int .i64 0), (.int .u32 0), (.int .u64 0), (.int .u64 0), (.int .i64 0), (.int .i64 0), (.int .i64 0), (.int .i64 0), (.int .i64 0)] [(0, 2, (.c v8)), (2, 8, (.c v9))]) st ⟨fun v10 st =>
    @stp P (.build [(.int .i64 0), (.int .i64 0)] [(1, 1, (.c (.int .i64 2)))]) st ⟨fun v11 st =>
    @stp P (.build [(.int .u32 0), (.int .u64 0), (.int .u64 0), (.int .i64 0), (.int .i64 0), (.int .i64 0), (.int .i64 0), (.int .i64 0)] [(0, 1, (.c (.int .u32 1))), (1, 1, (.c (.int .u64 7)))]) st ⟨fun v12 st =>
    @stp P (.build [(.int .i64 0), (.int .i64 0), (.int .u32 0), (.int .u64 0), (.int .u64 0), (.int .i64 0), (.int .i64 0), (.int .i64 0), (.int .i64 0), (.int .i64 0)] [(0, 2, (.c v11)), (2, 8, (.c v12))]) st ⟨fun v13 st =>
    @stp P (.mkSl 10 3 [(.int .i64 0), (.int .i64 0), (.int .u32 0), (.int .u64 0), (.int .u64 0), (.int .i64 0), (.int .i64 0), (.int .i64 0), (.int .i64 0), (.int .i64 0)] [(0, (.c v7)), (1, (.c v10)), (2, (.c v13))]) st ⟨fun v14 st =>
    GhostV [v14] st (app J1)⟩⟩⟩⟩⟩⟩⟩⟩⟩) ∧
  ∀ v1 st, app J1 [v1] st →
    @stp P (.call (.c (.fn (.func n_gazetteerlaw18_first) [] [])) []) st ⟨fun v16 st =>
    @stp P (.call (.c (.fn (.func n_vacuum_Dead) [] [])) [(.c v16), (.c (.int .u64 6)), (.c v1)]) st ⟨fun v18 st =>
    @stp P (.ext 0 (.c v18)) st ⟨fun v19 st =>
    @stp P (.ext 1 (.c v18)) st ⟨fun v20 st =>
    @stp P (.build [(.int .i64 0), (.int .i64 0)] [(0, 1, (.c (.int .i64 1))), (1, 1, (.c (.int .i64 2)))]) st ⟨fun v22 st =>
    @stp P (.call (.c (.fn (.func n_vacuum_Entry) [] [])) [(.c v22)]) st ⟨fun v23 st =>
    @stp P (.ext 0 (.c v23)) st ⟨fun v24 st =>
    @stp P (.ext 1 (.c v23)) st ⟨fun v25 st =>
    @stp P (.bin .eql (.c v20) (.c (.int .i64 0))) st ⟨fun v27 st =>
    @gst P v27 true (.mov (.c v25)) st ⟨fun v29 st =>
    @gst P v27 true (.bin .eql (.c v29) (.c (.int .i64 0))) st ⟨fun v30 st =>
    @stp P (.pick (.c v27) (.c v30) (.c (.bool false))) st ⟨fun v31 st =>
    @gst P v31 true (.mov (.c v24)) st ⟨fun v33 st =>
    @gst P v31 true (.bin .eql (.c v33) (.c (.int .u32 7))) st ⟨fun v34 st =>
    @stp P (.pick (.c v31) (.c v34) (.c (.bool false))) st ⟨fun v35 st =>
    @gst P v35 true (.mov (.c v19)) st ⟨fun v37 st =>
    @gst P v35 true (.len .sl (.c v37)) st ⟨fun v38 st =>
    @gst P v35 true (.bin .eql (.c v38) (.c (.int .i64 2))) st ⟨fun v39 st =>
    @stp P (.pick (.c v35) (.c v39) (.c (.bool false))) st ⟨fun v40 st =>
    @gst P v40 true (.mov (.c v19)) st ⟨fun v42 st =>
    @gst P v40 true (.idx 2 (.c v42) (.c (.int .i64 1))) st ⟨fun v43 st =>
    @gst P v40 true (.fld 1 (.c v43)) st ⟨fun v44 st =>
    @gst P v40 true (.ld none (.c v44)) st ⟨fun v45 st =>
    @gst P v40 true (.bin .eql (.c v45) (.c (.int .i64 2))) st ⟨fun v46 st =>
    @stp P (.pick (.c v40) (.c v46) (.c (.bool false))) st ⟨fun v47 st =>
    @gst P v47 true (.mov (.c v1)) st ⟨fun v49 st =>
    @gst P v47 true (.mov (.c v19)) st ⟨fun v50 st =>
    @gst P v47 true (.call (.c (.fn (.func n_vacuum_Left) [] [])) [(.c v49), (.c v50)]) st ⟨fun v51 st =>
    @gst P v47 true (.len .sl (.c v51)) st ⟨fun v52 st =>
    @gst P v47 true (.bin .eql (.c v52) (.c (.int .i64 1))) st ⟨fun v53 st =>
    @stp P (.pick (.c v47) (.c v53) (.c (.bool false))) st ⟨fun v54 st =>
    GhostV [v54] st fun vs st => K (mkres vs) st⟩⟩⟩⟩⟩⟩⟩⟩⟩⟩⟩⟩⟩⟩⟩⟩⟩⟩⟩⟩⟩⟩⟩⟩⟩⟩⟩⟩⟩⟩⟩⟩
theorem q_gazetteerlaw18_wakes {P : Program} {st : St} {K : V → St → Prop} : F_gazetteerlaw18_wakes P  st K = hwp P c_gazetteerlaw18_wakes (hretQ [.tmp 0] K) (enterFr []) st := by kernel_rfl
abbrev R_gazetteerlaw18_wakes (P : Program) : Prop := resFnH P n_gazetteerlaw18_wakes = some (55, c_gazetteerlaw18_wakes.er, [.tmp 0])
theorem A_gazetteerlaw18_wakes {P : Program} (h : R_gazetteerlaw18_wakes P) {st : St} {K : V → St → Prop} (hF : F_gazetteerlaw18_wakes P  st K) : ACalls P n_gazetteerlaw18_wakes [] st K :=
  ACalls_h h rfl (by simp) (q_gazetteerlaw18_wakes ▸ hF)

def c_vacuum_Dead : ACode := (.seq (.reg [⟨(some 3), none, (.box (.s 0))⟩, ⟨(some 6), none, (.alloc [(.sl .nil 0 [] [])])⟩, ⟨(some 7), none, (.alloc [(.int .i64 0)])⟩]) (.seq (.seq (.reg [⟨(some 12), none, (.ld (some 2) (.s 3))⟩, ⟨(some 13), none, (.call (.c (.fn (.func n_vision_Check) [] [])) [(.s 12)])⟩, ⟨(some 8), none, (.mov (.s 13))⟩]) (.seq (.reg [⟨(some 14), none, (.mov (.s 8))⟩, ⟨(some 15), none, (.bin .neq (.s 14) (.c (.int .i64 0)))⟩]) (.cond (.s 15) (.seq (.reg [⟨(some 16), none, (.mov (.s 8))⟩, ⟨none, none, (.st 1 (.s 6) (.c (.sl .nil 0 [] [])))⟩, ⟨none, none, (.st 1 (.s 7) (.s 16))⟩]) .ret) .skip))) (.seq (.reg [⟨(some 9), none, (.alloc [(.sl .nil 0 [] [])])⟩]) (.seq (.seq (.reg [⟨(some 17), none, (.ld (some 2) (.s 3))⟩, ⟨(some 18), none, (.mov (.s 1))⟩, ⟨(some 19), none, (.mov (.s 2))⟩, ⟨(some 20), none, (.call (.c (.fn (.func n_vacuum_dead) [] [])) [(.s 17), (.s 18), (.s 19)])⟩]) (.block 0 (.rfunc (.s 20) [21, 22] (.seq (.reg [⟨(some 10), none, (.alloc [(.int .i64 0), (.int .i64 0)])⟩, ⟨none, none, (.st 2 (.s 10) (.s 21))⟩]) (.reg [⟨(some 11), none, (.mov (.s 22))⟩])) (.block 1 (.seq (.seq (.reg [⟨(some 23), none, (.mov (.s 11))⟩, ⟨(some 24), none, (.bin .neq (.s 23) (.c (.int .i64 0)))⟩]) (.cond (.s 24) (.seq (.reg [⟨(some 25), none, (.mov (.s 11))⟩, ⟨none, none, (.st 1 (.s 6) (.c (.sl .nil 0 [] [])))⟩, ⟨none, none, (.st 1 (.s 7) (.s 25))⟩]) .ret) .skip)) (.reg [⟨(some 26), none, (.ld none (.s 9))⟩, ⟨(some 27), none, (.ld (some 2) (.s 10))⟩, ⟨(some 28), none, (.mkSl 2 1 [(.int .i64 0), (.int .i64 0)] [(0, (.s 27))])⟩, ⟨(some 29), none, (.append 2 16 (.s 26) (.s 28))⟩, ⟨none, none, (.st 1 (.s 9) (.s 29))⟩])))))) (.seq (.reg [⟨(some 30), none, (.ld none (.s 9))⟩, ⟨none, none, (.st 1 (.s 6) (.s 30))⟩, ⟨none, none, (.st 1 (.s 7) (.c (.int .i64 0)))⟩]) .ret)))))
def F_vacuum_Dead (P : Program) (a0 a1 a2 : V) (st : St) (K : V → St → Prop) : Prop :=
  @stp P (.box (.c a0)) st ⟨fun v3 st =>
  @stp P (.alloc [(.sl .nil 0 [] [])]) st ⟨fun v6 st =>
  @stp P (.alloc [(.int .i64 0)]) st ⟨fun v7 st =>
  @stp P (.ld (some 2) (.c v3)) st ⟨fun v12 st =>
  @stp P (.call (.c (.fn (.func n_vision_Check) [] [])) [(.c v12)]) st ⟨fun v13 st =>
  @stp P (.bin .neq (.c v13) (.c (.int .i64 0))) st ⟨fun v15 st =>
  @cnd v15 ⟨
    @stp P (.st 1 (.c v6) (.c (.sl .nil 0 [] []))) st ⟨fun _v st =>
    @stp P (.st 1 (.c v7) (.c v13)) st ⟨fun _v st =>
    @ldr none v6 st ⟨fun r1 =>
    @ldr none v7 st ⟨fun r2 =>
    GhostV [r1, r2] st fun vs st => K (mkres vs) st⟩⟩⟩⟩⟩
  ⟨
    @stp P (.alloc [(.sl .nil 0 [] [])]) st ⟨fun v9 st =>
    @stp P (.ld (some 2) (.c v3)) st ⟨fun v17 st =>
    @stp P (.call (.c (.fn (.func n_vacuum_dead) [] [])) [(.c v17), (.c a1), (.c a2)]) st ⟨fun v20 st =>
    @Hold ⟨(fun s1 : St => ∀ LP1 : LSt → Obj,
      (∀ (st : St) (K : V → St → Prop) (v21 : V) (v22 : V), st.get s1.objs.length s1.nv = some (LP1 .ready) → (
        @stp P (.alloc [(.int .i64 0), (.int .i64 0)]) st ⟨fun v10 st =>
        @stp P (.st 2 (.c v10) (.c v21)) st ⟨fun _v st =>
        st.get s1.objs.length s1.nv = some (LP1 .ready) ∧ (fun st : St =>
          @stp P (.bin .neq (.c v22) (.c (.int .i64 0))) st ⟨fun v24 st =>
          @cnd v24 ⟨
            @stp P (.st 1 (.c v6) (.c (.sl .nil 0 [] []))) st ⟨fun _v st =>
            @stp P (.st 1 (.c v7) (.c v22)) st ⟨fun _v st =>
            st.get s1.objs.length s1.nv = some (LP1 .busy) ∧ K (.bool false) (st.setO s1.objs.length s1.nv (LP1 (.done .ret)))⟩⟩⟩
          ⟨
            @stp P (.ld none (.c v9)) st ⟨fun v26 st =>
            @stp P (.ld (some 2) (.c v10)) st ⟨fun v27 st =>
            @stp P (.mkSl 2 1 [(.int .i64 0), (.int .i64 0)] [(0, (.c v27))]) st ⟨fun v28 st =>
            @stp P (.append 2 16 (.c v26) (.c v28)) st ⟨fun v29 st =>
            @stp P (.st 1 (.c v9) (.c v29)) st ⟨fun _v st =>
            st.get s1.objs.length s1.nv = some (LP1 .busy) ∧ K (.bool true) (st.setO s1.objs.length s1.nv (LP1 .ready))⟩⟩⟩⟩⟩⟩⟩) (st.setO s1.objs.length s1.nv (LP1 .busy))⟩⟩) →
      AInv P (.yld s1.objs.length s1.nv) [v21, v22] st K) →
      AInvE P v20 [.yld s1.objs.length s1.nv] (s1.push (LP1 .ready)) fun _ st => ∃ s, st.get s1.objs.length s1.nv = some (LP1 s) ∧ (fun st : St => hend s (
        @stp P (.ld none (.c v9)) st ⟨fun v30 st =>
        @stp P (.st 1 (.c v6) (.c v30)) st ⟨fun _v st =>
        @stp P (.st 1 (.c v7) (.c (.int .i64 0))) st ⟨fun _v st =>
        @ldr none v6 st ⟨fun r1 =>
        @ldr none v7 st ⟨fun r2 =>
        GhostV [r1, r2] st fun vs st => K (mkres vs) st⟩⟩⟩⟩⟩)
      (
        @ldr none v6 st ⟨fun r1 =>
        @ldr none v7 st ⟨fun r2 =>
        GhostV [r1, r2] st fun vs st => K (mkres vs) st⟩⟩)
      (fun id : Nat =>         (if id = 0 then
          @stp P (.ld none (.c v9)) st ⟨fun v30 st =>
          @stp P (.st 1 (.c v6) (.c v30)) st ⟨fun _v st =>
          @stp P (.st 1 (.c v7) (.c (.int .i64 0))) st ⟨fun _v st =>
          @ldr none v6 st ⟨fun r1 =>
          @ldr none v7 st ⟨fun r2 =>
          GhostV [r1, r2] st fun vs st => K (mkres vs) st⟩⟩⟩⟩⟩
        else
          False))) (st.gone s1.objs.length)) st⟩⟩⟩⟩⟩⟩⟩⟩⟩⟩⟩
theorem q_vacuum_Dead {P : Program} {a0 a1 a2 : V} {st : St} {K : V → St → Prop} : F_vacuum_Dead P a0 a1 a2 st K = hwp P c_vacuum_Dead (hretQ [.cell 6 none, .cell 7 none] K) (enterFr [a0, a1, a2]) st := by kernel_rfl
abbrev R_vacuum_Dead (P : Program) : Prop := resFnH P n_vacuum_Dead = some (31, c_vacuum_Dead.er, [.cell 6 none, .cell 7 none])
theorem A_vacuum_Dead {P : Program} (h : R_vacuum_Dead P) {a0 a1 a2 : V} {st : St} {K : V → St → Prop} (hF : F_vacuum_Dead P a0 a1 a2 st K) : ACalls P n_vacuum_Dead [a0, a1, a2] st K :=
  ACalls_h h rfl (by simp) (q_vacuum_Dead ▸ hF)

def c_vacuum_Left : ACode := (.seq (.reg [⟨(some 3), none, (.box (.s 1))⟩, ⟨(some 4), none, (.mov (.c (.sl .nil 0 [] [])))⟩]) (.seq (.reg [⟨(some 6), none, (.mkfn (.func n_vacuum_Left_1) [] [(.s 3)])⟩, ⟨(some 5), none, (.mov (.s 6))⟩]) (.seq (.reg [⟨(some 7), none, (.mov (.s 0))⟩, ⟨(some 8), none, (.call (.c (.fn (.func n_slices_Clone_Stored_Stored) [] [])) [(.s 7)])⟩, ⟨(some 9), none, (.mov (.s 5))⟩, ⟨(some 10), none, (.call (.c (.fn (.func n_slices_DeleteFunc_Stored_Stored) [] [])) [(.s 8), (.s 9)])⟩, ⟨(some 4), none, (.mov (.s 10))⟩]) .ret)))
def F_vacuum_Left (P : Program) (a0 a1 : V) (st : St) (K : V → St → Prop) : Prop :=
  @stp P (.box (.c a1)) st ⟨fun v3 st =>
  @stp P (.mkfn (.func n_vacuum_Left_1) [] [(.c v3)]) st ⟨fun v6 st =>
  @stp P (.call (.c (.fn (.func n_slices_Clone_Stored_Stored) [] [])) [(.c a0)]) st ⟨fun v8 st =>
  @stp P (.call (.c (.fn (.func n_slices_DeleteFunc_Stored_Stored) [] [])) [(.c v8), (.c v6)]) st ⟨fun v10 st =>
  GhostV [v10] st fun vs st => K (mkres vs) st⟩⟩⟩⟩
theorem q_vacuum_Left {P : Program} {a0 a1 : V} {st : St} {K : V → St → Prop} : F_vacuum_Left P a0 a1 st K = hwp P c_vacuum_Left (hretQ [.tmp 4] K) (enterFr [a0, a1]) st := by kernel_rfl
abbrev R_vacuum_Left (P : Program) : Prop := resFnH P n_vacuum_Left = some (11, c_vacuum_Left.er, [.tmp 4])
theorem A_vacuum_Left {P : Program} (h : R_vacuum_Left P) {a0 a1 : V} {st : St} {K : V → St → Prop} (hF : F_vacuum_Left P a0 a1 st K) : ACalls P n_vacuum_Left [a0, a1] st K :=
  ACalls_h h rfl (by simp) (q_vacuum_Left ▸ hF)

def c_vacuum_Entry : ACode := (.seq (.reg [⟨(some 1), none, (.box (.s 0))⟩, ⟨(some 2), none, (.mov (.c (.int .u32 0)))⟩, ⟨(some 3), none, (.mov (.c (.int .i64 0)))⟩]) (.seq (.seq (.reg [⟨(some 4), none, (.fld 0 (.s 1))⟩, ⟨(some 5), none, (.ld none (.s 4))⟩, ⟨(some 6), none, (.bin .lss (.s 5) (.c (.int .i64 0)))⟩, ⟨(some 7), none, (.mov (.s 6))⟩, ⟨(some 8), (some (7, false)), (.fld 0 (.s 1))⟩, ⟨(some 9), (some (7, false)), (.ld none (.s 8))⟩, ⟨(some 10), (some (7, false)), (.bin .geq (.s 9) (.c (.int .i64 32)))⟩, ⟨(some 11), none, (.pick (.s 7) (.c (.bool true)) (.s 10))⟩, ⟨(some 12), none, (.mov (.s 11))⟩, ⟨(some 13), (some (12, false)), (.fld 1 (.s 1))⟩, ⟨(some 14), (some (12, false)), (.ld none (.s 13))⟩, ⟨(some 15), (some (12, false)), (.bin .lss (.s 14) (.c (.int .i64 0)))⟩, ⟨(some 16), none, (.pick (.s 12) (.c (.bool true)) (.s 15))⟩, ⟨(some 17), none, (.mov (.s 16))⟩, ⟨(some 18), (some (17, false)), (.fld 1 (.s 1))⟩, ⟨(some 19), (some (17, false)), (.ld none (.s 18))⟩, ⟨(some 20), (some (17, false)), (.bin .geq (.s 19) (.c (.int .i64 4)))⟩, ⟨(some 21), none, (.pick (.s 17) (.c (.bool true)) (.s 20))⟩]) (.cond (.s 21) (.seq (.reg [⟨(some 2), none, (.mov (.c (.int .u32 0)))⟩, ⟨(some 3), none, (.mov (.c (.int .i64 2)))⟩]) .ret) .skip)) (.seq (.reg [⟨(some 22), none, (.fld 0 (.s 1))⟩, ⟨(some 23), none, (.ld none (.s 22))⟩, ⟨(some 24), none, (.bin .mul (.s 23) (.c (.int .i64 4)))⟩, ⟨(some 25), none, (.fld 1 (.s 1))⟩, ⟨(some 26), none, (.ld none (.s 25))⟩, ⟨(some 27), none, (.bin .add (.s 24) (.s 26))⟩, ⟨(some 28), none, (.bin .add (.s 27) (.c (.int .i64 1)))⟩, ⟨(some 29), none, (.conv .u32 (.s 28))⟩, ⟨(some 2), none, (.mov (.s 29))⟩, ⟨(some 3), none, (.mov (.c (.int .i64 0)))⟩]) .ret)))
def F_vacuum_Entry (P : Program) (a0 : V) (st : St) (K : V → St → Prop) : Prop :=
  @stp P (.box (.c a0)) st ⟨fun v1 st =>
  @stp P (.fld 0 (.c v1)) st ⟨fun v4 st =>
  @stp P (.ld none (.c v4)) st ⟨fun v5 st =>
  @stp P (.bin .lss (.c v5) (.c (.int .i64 0))) st ⟨fun v6 st =>
  @gst P v6 false (.fld 0 (.c v1)) st ⟨fun v8 st =>
  @gst P v6 false (.ld none (.c v8)) st ⟨fun v9 st =>
  @gst P v6 false (.bin .geq (.c v9) (.c (.int .i64 32))) st ⟨fun v10 st =>
  @stp P (.pick (.c v6) (.c (.bool true)) (.c v10)) st ⟨fun v11 st =>
  @gst P v11 false (.fld 1 (.c v1)) st ⟨fun v13 st =>
  @gst P v11 false (.ld none (.c v13)) st ⟨fun v14 st =>
  @gst P v11 false (.bin .lss (.c v14) (.c (.int .i64 0))) st ⟨fun v15 st =>
  @stp P (.pick (.c v11) (.c (.bool true)) (.c v15)) st ⟨fun v16 st =>
  @gst P v16 false (.fld 1 (.c v1)) st ⟨fun v18 st =>
  @gst P v16 false (.ld none (.c v18)) st ⟨fun v19 st =>
  @gst P v16 false (.bin .geq (.c v19) (.c (.int .i64 4))) st ⟨fun v20 st =>
  @stp P (.pick (.c v16) (.c (.bool true)) (.c v20)) st ⟨fun v21 st =>
  @cnd v21 ⟨
    GhostV [(.int .u32 0), (.int .i64 2)] st fun vs st => K (mkres vs) st⟩
  ⟨
    @stp P (.fld 0 (.c v1)) st ⟨fun v22 st =>
    @stp P (.ld none (.c v22)) st ⟨fun v23 st =>
    @stp P (.bin .mul (.c v23) (.c (.int .i64 4))) st ⟨fun v24 st =>
    @stp P (.fld 1 (.c v1)) st ⟨fun v25 st =>
    @stp P (.ld none (.c v25)) st ⟨fun v26 st =>
    @stp P (.bin .add (.c v24) (.c v26)) st ⟨fun v27 st =>
    @stp P (.bin .add (.c v27) (.c (.int .i64 1))) st ⟨fun v28 st =>
    @stp P (.conv .u32 (.c v28)) st ⟨fun v29 st =>
    GhostV [v29, (.int .i64 0)] st fun vs st => K (mkres vs) st⟩⟩⟩⟩⟩⟩⟩⟩⟩⟩⟩⟩⟩⟩⟩⟩⟩⟩⟩⟩⟩⟩⟩⟩⟩
theorem q_vacuum_Entry {P : Program} {a0 : V} {st : St} {K : V → St → Prop} : F_vacuum_Entry P a0 st K = hwp P c_vacuum_Entry (hretQ [.tmp 2, .tmp 3] K) (enterFr [a0]) st := by kernel_rfl
abbrev R_vacuum_Entry (P : Program) : Prop := resFnH P n_vacuum_Entry = some (30, c_vacuum_Entry.er, [.tmp 2, .tmp 3])
theorem A_vacuum_Entry {P : Program} (h : R_vacuum_Entry P) {a0 : V} {st : St} {K : V → St → Prop} (hF : F_vacuum_Entry P a0 st K) : ACalls P n_vacuum_Entry [a0] st K :=
  ACalls_h h rfl (by simp) (q_vacuum_Entry ▸ hF)

def c_vacuum_Spot : ACode := (.seq (.reg [⟨(some 2), none, (.alloc [(.int .i64 0), (.int .i64 0)])⟩, ⟨(some 3), none, (.mov (.c (.int .i64 0)))⟩]) (.seq (.seq (.reg [⟨(some 5), none, (.mov (.s 0))⟩, ⟨(some 6), none, (.bin .lss (.s 5) (.c (.int .u32 1)))⟩, ⟨(some 7), none, (.mov (.s 6))⟩, ⟨(some 8), (some (7, false)), (.mov (.s 0))⟩, ⟨(some 9), (some (7, false)), (.bin .gtr (.s 8) (.c (.int .u32 128)))⟩, ⟨(some 10), none, (.pick (.s 7) (.c (.bool true)) (.s 9))⟩]) (.cond (.s 10) (.seq (.reg [⟨(some 11), none, (.build [(.int .i64 0), (.int .i64 0)] [])⟩, ⟨none, none, (.st 2 (.s 2) (.s 11))⟩, ⟨(some 3), none, (.mov (.c (.int .i64 2)))⟩]) .ret) .skip)) (.seq (.reg [⟨(some 12), none, (.mov (.s 0))⟩, ⟨(some 13), none, (.bin .sub (.s 12) (.c (.int .u32 1)))⟩, ⟨(some 14), none, (.conv .i64 (.s 13))⟩, ⟨(some 4), none, (.mov (.s 14))⟩]) (.seq (.reg [⟨(some 15), none, (.mov (.s 4))⟩, ⟨(some 16), none, (.bin .quo (.s 15) (.c (.int .i64 4)))⟩, ⟨(some 17), none, (.mov (.s 4))⟩, ⟨(some 18), none, (.bin .rem (.s 17) (.c (.int .i64 4)))⟩, ⟨(some 19), none, (.build [(.int .i64 0), (.int .i64 0)] [(0, (1, (.s 16))), (1, (1, (.s 18)))])⟩, ⟨none, none, (.st 2 (.s 2) (.s 19))⟩, ⟨(some 3), none, (.mov (.c (.int .i64 0)))⟩]) .ret))))
def F_vacuum_Spot (P : Program) (a0 : V) (st : St) (K : V → St → Prop) : Prop :=
  @stp P (.alloc [(.int .i64 0), (.int .i64 0)]) st ⟨fun v2 st =>
  @stp P (.bin .lss (.c a0) (.c (.int .u32 1))) st ⟨fun v6 st =>
  @gst P v6 false (.mov (.c a0)) st ⟨fun v8 st =>
  @gst P v6 false (.bin .gtr (.c v8) (.c (.int .u32 128))) st ⟨fun v9 st =>
  @stp P (.pick (.c v6) (.c (.bool true)) (.c v9)) st ⟨fun v10 st =>
  @cnd v10 ⟨
    @stp P (.build [(.int .i64 0), (.int .i64 0)] []) st ⟨fun v11 st =>
    @stp P (.st 2 (.c v2) (.c v11)) st ⟨fun _v st =>
    @ldr (some 2) v2 st ⟨fun r1 =>
    GhostV [r1, (.int .i64 2)] st fun vs st => K (mkres vs) st⟩⟩⟩⟩
  ⟨
    @stp P (.bin .sub (.c a0) (.c (.int .u32 1))) st ⟨fun v13 st =>
    @stp P (.conv .i64 (.c v13)) st ⟨fun v14 st =>
    @stp P (.bin .quo (.c v14) (.c (.int .i64 4))) st ⟨fun v16 st =>
    @stp P (.bin .rem (.c v14) (.c (.int .i64 4))) st ⟨fun v18 st =>
    @stp P (.build [(.int .i64 0), (.int .i64 0)] [(0, 1, (.c v16)), (1, 1, (.c v18))]) st ⟨fun v19 st =>
    @stp P (.st 2 (.c v2) (.c v19)) st ⟨fun _v st =>
    @ldr (some 2) v2 st ⟨fun r1 =>
    GhostV [r1, (.int .i64 0)] st fun vs st => K (mkres vs) st⟩⟩⟩⟩⟩⟩⟩⟩⟩⟩⟩⟩⟩
theorem q_vacuum_Spot {P : Program} {a0 : V} {st : St} {K : V → St → Prop} : F_vacuum_Spot P a0 st K = hwp P c_vacuum_Spot (hretQ [.cell 2 (some 2), .tmp 3] K) (enterFr [a0]) st := by kernel_rfl
abbrev R_vacuum_Spot (P : Program) : Prop := resFnH P n_vacuum_Spot = some (20, c_vacuum_Spot.er, [.cell 2 (some 2), .tmp 3])
theorem A_vacuum_Spot {P : Program} (h : R_vacuum_Spot P) {a0 : V} {st : St} {K : V → St → Prop} (hF : F_vacuum_Spot P a0 st K) : ACalls P n_vacuum_Spot [a0] st K :=
  ACalls_h h rfl (by simp) (q_vacuum_Spot ▸ hF)

def c_slices_Contains_Spot_Spot : ACode := (.seq (.reg [⟨(some 3), none, (.box (.s 1))⟩, ⟨(some 4), none, (.mov (.c (.bool false)))⟩]) (.seq (.reg [⟨(some 5), none, (.mov (.s 0))⟩, ⟨(some 6), none, (.ld (some 2) (.s 3))⟩, ⟨(some 7), none, (.call (.c (.fn (.func n_slices_Index_Spot_Spot) [] [])) [(.s 5), (.s 6)])⟩, ⟨(some 8), none, (.bin .geq (.s 7) (.c (.int .i64 0)))⟩, ⟨(some 4), none, (.mov (.s 8))⟩]) .ret))
def F_slices_Contains_Spot_Spot (P : Program) (a0 a1 : V) (st : St) (K : V → St → Prop) : Prop :=
  @stp P (.box (.c a1)) st ⟨fun v3 st =>
  @stp P (.ld (some 2) (.c v3)) st ⟨fun v6 st =>
  @stp P (.call (.c (.fn (.func n_slices_Index_Spot_Spot) [] [])) [(.c a0), (.c v6)]) st ⟨fun v7 st =>
  @stp P (.bin .geq (.c v7) (.c (.int .i64 0))) st ⟨fun v8 st =>
  GhostV [v8] st fun vs st => K (mkres vs) st⟩⟩⟩⟩
theorem q_slices_Contains_Spot_Spot {P : Program} {a0 a1 : V} {st : St} {K : V → St → Prop} : F_slices_Contains_Spot_Spot P a0 a1 st K = hwp P c_slices_Contains_Spot_Spot (hretQ [.tmp 4] K) (enterFr [a0, a1]) st := by kernel_rfl
abbrev R_slices_Contains_Spot_Spot (P : Program) : Prop := resFnH P n_slices_Contains_Spot_Spot = some (9, c_slices_Contains_Spot_Spot.er, [.tmp 4])
theorem A_slices_Contains_Spot_Spot {P : Program} (h : R_slices_Contains_Spot_Spot P) {a0 a1 : V} {st : St} {K : V → St → Prop} (hF : F_slices_Contains_Spot_Spot P a0 a1 st K) : ACalls P n_slices_Contains_Spot_Spot [a0, a1] st K :=
  ACalls_h h rfl (by simp) (q_slices_Contains_Spot_Spot ▸ hF)

def c_gazetteerlaw18_first : ACode := (.seq (.reg [⟨(some 0), none, (.alloc [(.int .u64 0), (.sl .nil 0 [] [])])⟩]) (.seq (.reg [⟨(some 1), none, (.build [(.int .u64 0), (.int .u64 0)] [(0, (1, (.c (.int .u64 3)))), (1, (1, (.c (.int .u64 5))))])⟩, ⟨(some 2), none, (.build [(.int .u64 0), (.int .u64 0)] [(0, (1, (.c (.int .u64 4))))])⟩, ⟨(some 3), none, (.mkSl 2 2 [(.int .u64 0), (.int .u64 0)] [(0, (.s 1)), (1, (.s 2))])⟩, ⟨(some 4), none, (.build [(.int .u64 0), (.sl .nil 0 [] [])] [(0, (1, (.c (.int .u64 3)))), (1, (1, (.s 3)))])⟩, ⟨none, none, (.st 2 (.s 0) (.s 4))⟩]) .ret))
def F_gazetteerlaw18_first (P : Program) (st : St) (K : V → St → Prop) : Prop :=
  @stp P (.alloc [(.int .u64 0), (.sl .nil 0 [] [])]) st ⟨fun v0 st =>
  @stp P (.build [(.int .u64 0), (.int .u64 0)] [(0, 1, (.c (.int .u64 3))), (1, 1, (.c (.int .u64 5)))]) st ⟨fun v1 st =>
  @stp P (.build [(.int .u64 0), (.int .u64 0)] [(0, 1, (.c (.int .u64 4)))]) st ⟨fun v2 st =>
  @stp P (.mkSl 2 2 [(.int .u64 0), (.int .u64 0)] [(0, (.c v1)), (1, (.c v2))]) st ⟨fun v3 st =>
  @stp P (.build [(.int .u64 0), (.sl .nil 0 [] [])] [(0, 1, (.c (.int .u64 3))), (1, 1, (.c v3))]) st ⟨fun v4 st =>
  @stp P (.st 2 (.c v0) (.c v4)) st ⟨fun _v st =>
  @ldr (some 2) v0 st ⟨fun r1 =>
  GhostV [r1] st fun vs st => K (mkres vs) st⟩⟩⟩⟩⟩⟩⟩
theorem q_gazetteerlaw18_first {P : Program} {st : St} {K : V → St → Prop} : F_gazetteerlaw18_first P  st K = hwp P c_gazetteerlaw18_first (hretQ [.cell 0 (some 2)] K) (enterFr []) st := by kernel_rfl
abbrev R_gazetteerlaw18_first (P : Program) : Prop := resFnH P n_gazetteerlaw18_first = some (5, c_gazetteerlaw18_first.er, [.cell 0 (some 2)])
theorem A_gazetteerlaw18_first {P : Program} (h : R_gazetteerlaw18_first P) {st : St} {K : V → St → Prop} (hF : F_gazetteerlaw18_first P  st K) : ACalls P n_gazetteerlaw18_first [] st K :=
  ACalls_h h rfl (by simp) (q_gazetteerlaw18_first ▸ hF)

def c_vision_Check : ACode := (.seq (.reg [⟨(some 1), none, (.box (.s 0))⟩, ⟨(some 2), none, (.mov (.c (.int .i64 0)))⟩]) (.seq (.seq (.reg [⟨(some 6), none, (.fld 0 (.s 1))⟩, ⟨(some 7), none, (.ld none (.s 6))⟩, ⟨(some 8), none, (.bin .lss (.s 7) (.c (.int .u64 1)))⟩, ⟨(some 9), none, (.mov (.s 8))⟩, ⟨(some 10), (some (9, false)), (.fld 1 (.s 1))⟩, ⟨(some 11), (some (9, false)), (.ld none (.s 10))⟩, ⟨(some 12), (some (9, false)), (.len .sl (.s 11))⟩, ⟨(some 13), (some (9, false)), (.bin .gtr (.s 12) (.c (.int .i64 256)))⟩, ⟨(some 14), none, (.pick (.s 9) (.c (.bool true)) (.s 13))⟩]) (.cond (.s 14) (.seq (.reg [⟨(some 2), none, (.mov (.c (.int .i64 270)))⟩]) .ret) .skip)) (.seq (.reg [⟨(some 15), none, .mkmap⟩, ⟨(some 3), none, (.mov (.s 15))⟩]) (.seq (.seq (.reg [⟨(some 16), none, (.fld 1 (.s 1))⟩, ⟨(some 17), none, (.ld none (.s 16))⟩, ⟨(some 18), none, (.len .sl (.s 17))⟩, ⟨(some 19), none, (.mov (.c (.int .i64 0)))⟩]) (.block 0 (.loop [19] [2, 4, 5, 19, 20, 21, 22, 23, 24, 25, 26, 27, 28, 29, 30, 31, 32, 33, 34, 35, 36, 37, 38, 39, 40, 41, 42, 43, 44, 45, 46, 47, 48, 49, 50, 51, 52, 53, 54, 55, 56, 57, 58, 59] (.seq (.reg [⟨(some 20), none, (.bin .lss (.s 19) (.s 18))⟩]) (.seq (.cond (.s 20) .skip (.exit 0)) (.seq (.block 1 (.seq (.reg [⟨(some 21), none, (.mov (.s 19))⟩, ⟨(some 22), none, (.idx 2 (.s 17) (.s 19))⟩, ⟨(some 23), none, (.ld (some 2) (.s 22))⟩, ⟨(some 5), none, (.alloc [(.int .u64 0), (.int .u64 0)])⟩, ⟨(some 4), none, (.mov (.s 21))⟩, ⟨none, none, (.st 2 (.s 5) (.s 23))⟩]) (.seq (.seq (.regD [⟨(some 24), none, (.fld 0 (.s 5))⟩, ⟨(some 25), none, (.ld none (.s 24))⟩, ⟨(some 26), none, (.fld 0 (.s 1))⟩, ⟨(some 27), none, (.ld none (.s 26))⟩, ⟨(some 28), none, (.bin .lss (.s 25) (.s 27))⟩, ⟨(some 29), none, (.mov (.s 28))⟩, ⟨(some 30), (some (29, false)), (.mov (.s 4))⟩, ⟨(some 31), (some (29, false)), (.bin .gtr (.s 30) (.c (.int .i64 0)))⟩, ⟨(some 32), (some (29, false)), (.mov (.s 31))⟩, ⟨(some 33), (some (32, true)), (.fld 1 (.s 1))⟩, ⟨(some 34), (some (32, true)), (.ld none (.s 33))⟩, ⟨(some 35), (some (32, true)), (.mov (.s 4))⟩, ⟨(some 36), (some (32, true)), (.bin .sub (.s 35) (.c (.int .i64 1)))⟩, ⟨(some 37), (some (32, true)), (.idx 2 (.s 34) (.s 36))⟩, ⟨(some 38), (some (32, true)), (.fld 0 (.s 37))⟩, ⟨(some 39), (some (32, true)), (.ld none (.s 38))⟩, ⟨(some 40), (some (32, true)), (.fld 0 (.s 5))⟩, ⟨(some 41), (some (32, true)), (.ld none (.s 40))⟩, ⟨(some 42), (some (32, true)), (.bin .geq (.s 39) (.s 41))⟩, ⟨(some 43), (some (29, false)), (.pick (.s 32) (.s 42) (.c (.bool false)))⟩, ⟨(some 44), none, (.pick (.s 29) (.c (.bool true)) (.s 43))⟩, ⟨(some 45), none, (.mov (.s 44))⟩, ⟨(some 46), (some (45, false)), (.fld 1 (.s 5))⟩, ⟨(some 47), (some (45, false)), (.ld none (.s 46))⟩, ⟨(some 48), (some (45, false)), (.bin .gtr (.s 47) (.c (.int .u64 0)))⟩, ⟨(some 49), (some (45, false)), (.mov (.s 48))⟩, ⟨(some 50), (some (49, true)), (.mov (.s 3))⟩, ⟨(some 51), (some (49, true)), (.fld 1 (.s 5))⟩, ⟨(some 52), (some (49, true)), (.ld none (.s 51))⟩, ⟨(some 53), (some (49, true)), (.lookup (.one .int) (.bool false) false (.s 50) (.s 52))⟩, ⟨(some 54), (some (45, false)), (.pick (.s 49) (.s 53) (.c (.bool false)))⟩, ⟨(some 55), none, (.pick (.s 45) (.c (.bool true)) (.s 54))⟩] [(0, (false, [])), (1, (false, [])), (2, (false, [])), (3, (false, [])), (4, (false, [])), (5, (false, [])), (6, (false, [])), (7, (false, [])), (8, (false, [])), (9, (false, [])), (10, (false, [])), (11, (false, [])), (12, (false, [])), (13, (false, [])), (14, (false, [])), (15, (false, [])), (16, (false, [])), (17, (false, [])), (18, (false, [])), (19, (false, [])), (20, (false, [])), (21, (false, [])), (22, (false, [])), (23, (false, [])), (24, (false, [])), (25, (false, [])), (26, (false, [])), (27, (false, [])), (28, (false, [])), (29, (false, [])), (30, (false, [])), (31, (false, []))]) (.cond (.s 55) (.seq (.reg [⟨(some 2), none, (.mov (.c (.int .i64 270)))⟩]) .ret) .skip)) (.reg [⟨(some 56), none, (.mov (.s 3))⟩, ⟨(some 57), none, (.fld 1 (.s 5))⟩, ⟨(some 58), none, (.ld none (.s 57))⟩, ⟨none, none, (.mupd (.one .int) (.s 56) (.s 58) (.c (.bool true)))⟩])))) (.reg [⟨(some 59), none, (.bin .add (.s 19) (.c (.int .i64 1)))⟩, ⟨(some 19), none, (.mov (.s 59))⟩]))))))) (.seq (.reg [⟨(some 2), none, (.mov (.c (.int .i64 0)))⟩]) .ret)))))
def F_vision_Check (P : Program) (a0 : V) (st : St) (K : V → St → Prop) : Prop :=
  @stp P (.box (.c a0)) st ⟨fun v1 st =>
  @stp P (.fld 0 (.c v1)) st ⟨fun v6 st =>
  @stp P (.ld none (.c v6)) st ⟨fun v7 st =>
  @stp P (.bin .lss (.c v7) (.c (.int .u64 1))) st ⟨fun v8 st =>
  @gst P v8 false (.fld 1 (.c v1)) st ⟨fun v10 st =>
  @gst P v8 false (.ld none (.c v10)) st ⟨fun v11 st =>
  @gst P v8 false (.len .sl (.c v11)) st ⟨fun v12 st =>
  @gst P v8 false (.bin .gtr (.c v12) (.c (.int .i64 256))) st ⟨fun v13 st =>
  @stp P (.pick (.c v8) (.c (.bool true)) (.c v13)) st ⟨fun v14 st =>
  @cnd v14 ⟨
    GhostV [(.int .i64 270)] st fun vs st => K (mkres vs) st⟩
  ⟨
    @stp P .mkmap st ⟨fun v15 st =>
    @stp P (.fld 1 (.c v1)) st ⟨fun v16 st =>
    @stp P (.ld none (.c v16)) st ⟨fun v17 st =>
    @stp P (.len .sl (.c v17)) st ⟨fun v18 st =>
    @Hold ⟨∃ I1 : Nat → Rel 1, (∃ k, GhostV [(.int .i64 0)] st (app (I1 k))) ∧ ∀ k1 v19, ∀ st, app (I1 k1) [v19] st →
      @stp P (.bin .lss (.c v19) (.c v18)) st ⟨fun v20 st =>
      @cnd v20 ⟨
        @stp P (.idx 2 (.c v17) (.c v19)) st ⟨fun v22 st =>
        @stp P (.ld (some 2) (.c v22)) st ⟨fun v23 st =>
        @stp P (.alloc [(.int .u64 0), (.int .u64 0)]) st ⟨fun v5 st =>
        @stp P (.st 2 (.c v5) (.c v23)) st ⟨fun _v st =>
        @stpD P (.fld 0 (.c v5)) st ⟨fun v24 st =>
        @stpD P (.ld none (.c v24)) st ⟨fun v25 st =>
        @stpD P (.fld 0 (.c v1)) st ⟨fun v26 st =>
        @stpD P (.ld none (.c v26)) st ⟨fun v27 st =>
        @stpD P (.bin .lss (.c v25) (.c v27)) st ⟨fun v28 st =>
        @gstD P v28 false (.mov (.c v19)) st ⟨fun v30 st =>
        @gstD P v28 false (.bin .gtr (.c v30) (.c (.int .i64 0))) st ⟨fun v31 st =>
        @gstD P v28 false (.mov (.c v31)) st ⟨fun v32 st =>
        @gstD P v32 true (.fld 1 (.c v1)) st ⟨fun v33 st =>
        @gstD P v32 true (.ld none (.c v33)) st ⟨fun v34 st =>
        @gstD P v32 true (.mov (.c v19)) st ⟨fun v35 st =>
        @gstD P v32 true (.bin .sub (.c v35) (.c (.int .i64 1))) st ⟨fun v36 st =>
        @gstD P v32 true (.idx 2 (.c v34) (.c v36)) st ⟨fun v37 st =>
        @gstD P v32 true (.fld 0 (.c v37)) st ⟨fun v38 st =>
        @gstD P v32 true (.ld none (.c v38)) st ⟨fun v39 st =>
        @gstD P v32 true (.fld 0 (.c v5)) st ⟨fun v40 st =>
        @gstD P v32 true (.ld none (.c v40)) st ⟨fun v41 st =>
        @gstD P v32 true (.bin .geq (.c v39) (.c v41)) st ⟨fun v42 st =>
        @gstD P v28 false (.pick (.c v32) (.c v42) (.c (.bool false))) st ⟨fun v43 st =>
        @stpD P (.pick (.c v28) (.c (.bool true)) (.c v43)) st ⟨fun v44 st =>
        @gstD P v44 false (.fld 1 (.c v5)) st ⟨fun v46 st =>
        @gstD P v44 false (.ld none (.c v46)) st ⟨fun v47 st =>
        @gstD P v44 false (.bin .gtr (.c v47) (.c (.int .u64 0))) st ⟨fun v48 st =>
        @gstD P v44 false (.mov (.c v48)) st ⟨fun v49 st =>
        @gstD P v49 true (.mov (.c v15)) st ⟨fun v50 st =>
        @gstD P v49 true (.fld 1 (.c v5)) st ⟨fun v51 st =>
        @gstD P v49 true (.ld none (.c v51)) st ⟨fun v52 st =>
        @gstD P v49 true (.lookup (.one .int) (.bool false) false (.c v50) (.c v52)) st ⟨fun v53 st =>
        @gstD P v44 false (.pick (.c v49) (.c v53) (.c (.bool false))) st ⟨fun v54 st =>
        @stpD P (.pick (.c v44) (.c (.bool true)) (.c v54)) st ⟨fun v55 st =>
        @cnd v55 ⟨
          GhostV [(.int .i64 270)] st fun vs st => K (mkres vs) st⟩
        ⟨
          @stp P (.fld 1 (.c v5)) st ⟨fun v57 st =>
          @stp P (.ld none (.c v57)) st ⟨fun v58 st =>
          @stp P (.mupd (.one .int) (.c v15) (.c v58) (.c (.bool true))) st ⟨fun _v st =>
          @stp P (.bin .add (.c v19) (.c (.int .i64 1))) st ⟨fun v59 st =>
          ∃ j, j < k1 ∧ GhostV [v59] st (app (I1 j))⟩⟩⟩⟩⟩⟩⟩⟩⟩⟩⟩⟩⟩⟩⟩⟩⟩⟩⟩⟩⟩⟩⟩⟩⟩⟩⟩⟩⟩⟩⟩⟩⟩⟩⟩⟩⟩⟩⟩⟩
      ⟨
        GhostV [(.int .i64 0)] st fun vs st => K (mkres vs) st⟩⟩⟩⟩⟩⟩⟩⟩⟩⟩⟩⟩⟩⟩⟩⟩⟩
theorem q_vision_Check {P : Program} {a0 : V} {st : St} {K : V → St → Prop} : F_vision_Check P a0 st K = hwp P c_vision_Check (hretQ [.tmp 2] K) (enterFr [a0]) st := by kernel_rfl
abbrev R_vision_Check (P : Program) : Prop := resFnH P n_vision_Check = some (60, c_vision_Check.er, [.tmp 2])
theorem A_vision_Check {P : Program} (h : R_vision_Check P) {a0 : V} {st : St} {K : V → St → Prop} (hF : F_vision_Check P a0 st K) : ACalls P n_vision_Check [a0] st K :=
  ACalls_h h rfl (by simp) (q_vision_Check ▸ hF)

def c_vacuum_dead : ACode := (.seq (.reg [⟨(some 3), none, (.box (.s 0))⟩, ⟨(some 4), none, (.box (.s 1))⟩, ⟨(some 5), none, (.box (.s 2))⟩, ⟨(some 6), none, (.mov (.c .nilf))⟩]) (.seq (.reg [⟨(some 7), none, (.mkfn (.func n_vacuum_dead_1) [] [(.s 5), (.s 3), (.s 4)])⟩, ⟨(some 6), none, (.mov (.s 7))⟩]) .ret))
def F_vacuum_dead (P : Program) (a0 a1 a2 : V) (st : St) (K : V → St → Prop) : Prop :=
  @stp P (.box (.c a0)) st ⟨fun v3 st =>
  @stp P (.box (.c a1)) st ⟨fun v4 st =>
  @stp P (.box (.c a2)) st ⟨fun v5 st =>
  @stp P (.mkfn (.func n_vacuum_dead_1) [] [(.c v5), (.c v3), (.c v4)]) st ⟨fun v7 st =>
  GhostV [v7] st fun vs st => K (mkres vs) st⟩⟩⟩⟩
theorem q_vacuum_dead {P : Program} {a0 a1 a2 : V} {st : St} {K : V → St → Prop} : F_vacuum_dead P a0 a1 a2 st K = hwp P c_vacuum_dead (hretQ [.tmp 6] K) (enterFr [a0, a1, a2]) st := by kernel_rfl
abbrev R_vacuum_dead (P : Program) : Prop := resFnH P n_vacuum_dead = some (8, c_vacuum_dead.er, [.tmp 6])
theorem A_vacuum_dead {P : Program} (h : R_vacuum_dead P) {a0 a1 a2 : V} {st : St} {K : V → St → Prop} (hF : F_vacuum_dead P a0 a1 a2 st K) : ACalls P n_vacuum_dead [a0, a1, a2] st K :=
  ACalls_h h rfl (by simp) (q_vacuum_dead ▸ hF)

def c_vacuum_Left_1 : ACode := (.seq (.reg [⟨(some 2), none, (.box (.s 0))⟩, ⟨(some 3), none, (.mov (.c (.bool false)))⟩]) (.seq (.reg [⟨(some 4), none, (.ld none (.s 1))⟩, ⟨(some 5), none, (.fld 0 (.s 2))⟩, ⟨(some 6), none, (.ld (some 2) (.s 5))⟩, ⟨(some 7), none, (.call (.c (.fn (.func n_slices_Contains_Spot_Spot) [] [])) [(.s 4), (.s 6)])⟩, ⟨(some 3), none, (.mov (.s 7))⟩]) .ret))
def F_vacuum_Left_1 (P : Program) (a0 a1 : V) (st : St) (K : V → St → Prop) : Prop :=
  @stp P (.box (.c a0)) st ⟨fun v2 st =>
  @stp P (.ld none (.c a1)) st ⟨fun v4 st =>
  @stp P (.fld 0 (.c v2)) st ⟨fun v5 st =>
  @stp P (.ld (some 2) (.c v5)) st ⟨fun v6 st =>
  @stp P (.call (.c (.fn (.func n_slices_Contains_Spot_Spot) [] [])) [(.c v4), (.c v6)]) st ⟨fun v7 st =>
  GhostV [v7] st fun vs st => K (mkres vs) st⟩⟩⟩⟩⟩
theorem q_vacuum_Left_1 {P : Program} {a0 a1 : V} {st : St} {K : V → St → Prop} : F_vacuum_Left_1 P a0 a1 st K = hwp P c_vacuum_Left_1 (hretQ [.tmp 3] K) (enterFr [a0, a1]) st := by kernel_rfl
abbrev R_vacuum_Left_1 (P : Program) : Prop := resFnH P n_vacuum_Left_1 = some (8, c_vacuum_Left_1.er, [.tmp 3])
theorem A_vacuum_Left_1 {P : Program} (h : R_vacuum_Left_1 P) {a0 a1 : V} {st : St} {K : V → St → Prop} (hF : F_vacuum_Left_1 P a0 a1 st K) : ACalls P n_vacuum_Left_1 [a0, a1] st K :=
  ACalls_h h rfl (by simp) (q_vacuum_Left_1 ▸ hF)

def c_slices_DeleteFunc_Stored_Stored : ACode := (.seq (.reg [⟨(some 4), none, (.mov (.c (.sl .nil 0 [] [])))⟩]) (.seq (.reg [⟨(some 8), none, (.mov (.s 0))⟩, ⟨(some 9), none, (.mov (.s 1))⟩, ⟨(some 10), none, (.call (.c (.fn (.func n_slices_IndexFunc_Stored_Stored) [] [])) [(.s 8), (.s 9)])⟩, ⟨(some 5), none, (.mov (.s 10))⟩]) (.seq (.seq (.reg [⟨(some 11), none, (.mov (.s 5))⟩, ⟨(some 12), none, (.bin .eql (.s 11) (.c (.int .i64 (-1))))⟩]) (.cond (.s 12) (.seq (.reg [⟨(some 13), none, (.mov (.s 0))⟩, ⟨(some 4), none, (.mov (.s 13))⟩]) .ret) .skip)) (.seq (.seq (.reg [⟨(some 14), none, (.mov (.s 5))⟩, ⟨(some 15), none, (.bin .add (.s 14) (.c (.int .i64 1)))⟩, ⟨(some 6), none, (.mov (.s 15))⟩]) (.block 0 (.loop [5, 6] [5, 6, 7, 16, 17, 18, 19, 20, 21, 22, 23, 24, 25, 26, 27, 28, 29, 30, 31, 32, 33, 34, 35] (.seq (.seq (.reg [⟨(some 16), none, (.mov (.s 6))⟩, ⟨(some 17), none, (.mov (.s 0))⟩, ⟨(some 18), none, (.len .sl (.s 17))⟩, ⟨(some 19), none, (.bin .lss (.s 16) (.s 18))⟩]) (.cond (.s 19) .skip (.exit 0))) (.seq (.block 1 (.seq (.reg [⟨(some 22), none, (.mov (.s 0))⟩, ⟨(some 23), none, (.mov (.s 6))⟩, ⟨(some 24), none, (.idx 10 (.s 22) (.s 23))⟩, ⟨(some 25), none, (.ld (some 10) (.s 24))⟩, ⟨(some 7), none, (.alloc [(.int .i64 0), (.int .i64 0), (.int .u32 0), (.int .u64 0), (.int .u64 0), (.int .i64 0), (.int .i64 0), (.int .i64 0), (.int .i64 0), (.int .i64 0)])⟩, ⟨none, none, (.st 10 (.s 7) (.s 25))⟩]) (.seq (.reg [⟨(some 26), none, (.mov (.s 1))⟩, ⟨(some 27), none, (.ld (some 10) (.s 7))⟩, ⟨(some 28), none, (.call (.s 26) [(.s 27)])⟩, ⟨(some 29), none, (.un .not (.s 28))⟩]) (.cond (.s 29) (.seq (.reg [⟨(some 30), none, (.mov (.s 0))⟩, ⟨(some 31), none, (.mov (.s 5))⟩, ⟨(some 32), none, (.ld (some 10) (.s 7))⟩, ⟨(some 33), none, (.idx 10 (.s 30) (.s 31))⟩, ⟨none, none, (.st 10 (.s 33) (.s 32))⟩]) (.reg [⟨(some 34), none, (.mov (.s 5))⟩, ⟨(some 35), none, (.bin .add (.s 34) (.c (.int .i64 1)))⟩, ⟨(some 5), none, (.mov (.s 35))⟩])) .skip)))) (.reg [⟨(some 20), none, (.mov (.s 6))⟩, ⟨(some 21), none, (.bin .add (.s 20) (.c (.int .i64 1)))⟩, ⟨(some 6), none, (.mov (.s 21))⟩])))))) (.seq (.reg [⟨(some 36), none, (.mov (.s 0))⟩, ⟨(some 37), none, (.mov (.s 5))⟩, ⟨(some 38), none, (.slice 10 (.s 36) (some (.s 37)) none none)⟩, ⟨none, none, (.clear [(.int .i64 0), (.int .i64 0), (.int .u32 0), (.int .u64 0), (.int .u64 0), (.int .i64 0), (.int .i64 0), (.int .i64 0), (.int .i64 0), (.int .i64 0)] (.s 38))⟩]) (.seq (.reg [⟨(some 39), none, (.mov (.s 0))⟩, ⟨(some 40), none, (.mov (.s 5))⟩, ⟨(some 41), none, (.slice 10 (.s 39) none (some (.s 40)) none)⟩, ⟨(some 4), none, (.mov (.s 41))⟩]) .ret))))))
def F_slices_DeleteFunc_Stored_Stored (P : Program) (a0 a1 : V) (st : St) (K : V → St → Prop) : Prop :=
  @stp P (.call (.c (.fn (.func n_slices_IndexFunc_Stored_Stored) [] [])) [(.c a0), (.c a1)]) st ⟨fun v10 st =>
  @stp P (.bin .eql (.c v10) (.c (.int .i64 (-1)))) st ⟨fun v12 st =>
  @cnd v12 ⟨
    GhostV [a0] st fun vs st => K (mkres vs) st⟩
  ⟨
    @stp P (.bin .add (.c v10) (.c (.int .i64 1))) st ⟨fun v15 st =>
    @Hold ⟨∃ I1 : Nat → Rel 2, (∃ k, GhostV [v10, v15] st (app (I1 k))) ∧ ∀ k1 v5 v6, ∀ st, app (I1 k1) [v5, v6] st →
      @stp P (.len .sl (.c a0)) st ⟨fun v18 st =>
      @stp P (.bin .lss (.c v6) (.c v18)) st ⟨fun v19 st =>
      @cnd v19 ⟨
        @stp P (.idx 10 (.c a0) (.c v6)) st ⟨fun v24 st =>
        @stp P (.ld (some 10) (.c v24)) st ⟨fun v25 st =>
        @stp P (.alloc [(.int .i64 0), (.int .i64 0), (.int .u32 0), (.int .u64 0), (.int .u64 0), (.int .i64 0), (.int .i64 0), (.int .i64 0), (.int .i64 0), (.int .i64 0)]) st ⟨fun v7 st =>
        @stp P (.st 10 (.c v7) (.c v25)) st ⟨fun _v st =>
        @stp P (.ld (some 10) (.c v7)) st ⟨fun v27 st =>
        @stp P (.call (.c a1) [(.c v27)]) st ⟨fun v28 st =>
        @stp P (.un .not (.c v28)) st ⟨fun v29 st =>
        @cnd v29 ⟨
          @stp P (.ld (some 10) (.c v7)) st ⟨fun v32 st =>
          @stp P (.idx 10 (.c a0) (.c v5)) st ⟨fun v33 st =>
          @stp P (.st 10 (.c v33) (.c v32)) st ⟨fun _v st =>
          @stp P (.bin .add (.c v5) (.c (.int .i64 1))) st ⟨fun v35 st =>
          @stp P (.bin .add (.c v6) (.c (.int .i64 1))) st ⟨fun v21 st =>
          ∃ j, j < k1 ∧ GhostV [v35, v21] st (app (I1 j))⟩⟩⟩⟩⟩⟩
        ⟨
          @stp P (.bin .add (.c v6) (.c (.int .i64 1))) st ⟨fun v21 st =>
          ∃ j, j < k1 ∧ GhostV [v5, v21] st (app (I1 j))⟩⟩⟩⟩⟩⟩⟩⟩⟩⟩
      ⟨
        @stp P (.slice 10 (.c a0) (some (.c v5)) none none) st ⟨fun v38 st =>
        @stp P (.clear [(.int .i64 0), (.int .i64 0), (.int .u32 0), (.int .u64 0), (.int .u64 0), (.int .i64 0), (.int .i64 0), (.int .i64 0), (.int .i64 0), (.int .i64 0)] (.c v38)) st ⟨fun _v st =>
        @stp P (.slice 10 (.c a0) none (some (.c v5)) none) st ⟨fun v41 st =>
        GhostV [v41] st fun vs st => K (mkres vs) st⟩⟩⟩⟩⟩⟩⟩⟩⟩⟩⟩
theorem q_slices_DeleteFunc_Stored_Stored {P : Program} {a0 a1 : V} {st : St} {K : V → St → Prop} : F_slices_DeleteFunc_Stored_Stored P a0 a1 st K = hwp P c_slices_DeleteFunc_Stored_Stored (hretQ [.tmp 4] K) (enterFr [a0, a1]) st := by kernel_rfl
abbrev R_slices_DeleteFunc_Stored_Stored (P : Program) : Prop := resFnH P n_slices_DeleteFunc_Stored_Stored = some (42, c_slices_DeleteFunc_Stored_Stored.er, [.tmp 4])
theorem A_slices_DeleteFunc_Stored_Stored {P : Program} (h : R_slices_DeleteFunc_Stored_Stored P) {a0 a1 : V} {st : St} {K : V → St → Prop} (hF : F_slices_DeleteFunc_Stored_Stored P a0 a1 st K) : ACalls P n_slices_DeleteFunc_Stored_Stored [a0, a1] st K :=
  ACalls_h h rfl (by simp) (q_slices_DeleteFunc_Stored_Stored ▸ hF)

def c_slices_Clone_Stored_Stored : ACode := (.seq (.reg [⟨(some 2), none, (.mov (.c (.sl .nil 0 [] [])))⟩]) (.seq (.seq (.reg [⟨(some 3), none, (.mov (.s 0))⟩, ⟨(some 4), none, (.eqs false .sl (.s 3) (.c (.sl .nil 0 [] [])))⟩]) (.cond (.s 4) (.seq (.reg [⟨(some 2), none, (.mov (.c (.sl .nil 0 [] [])))⟩]) .ret) .skip)) (.seq (.reg [⟨(some 5), none, (.mkSl 10 0 [(.int .i64 0), (.int .i64 0), (.int .u32 0), (.int .u64 0), (.int .u64 0), (.int .i64 0), (.int .i64 0), (.int .i64 0), (.int .i64 0), (.int .i64 0)] [])⟩, ⟨(some 6), none, (.mov (.s 0))⟩, ⟨(some 7), none, (.append 10 80 (.s 5) (.s 6))⟩, ⟨(some 2), none, (.mov (.s 7))⟩]) .ret)))
def F_slices_Clone_Stored_Stored (P : Program) (a0 : V) (st : St) (K : V → St → Prop) : Prop :=
  @stp P (.eqs false .sl (.c a0) (.c (.sl .nil 0 [] []))) st ⟨fun v4 st =>
  @cnd v4 ⟨
    GhostV [(.sl .nil 0 [] [])] st fun vs st => K (mkres vs) st⟩
  ⟨
    @stp P (.mkSl 10 0 [(.int .i64 0), (.int .i64 0), (.int .u32 0), (.int .u64 0), (.int .u64 0), (.int .i64 0), (.int .i64 0), (.int .i64 0), (.int .i64 0), (.int .i64 0)] []) st ⟨fun v5 st =>
    @stp P (.append 10 80 (.c v5) (.c a0)) st ⟨fun v7 st =>
    GhostV [v7] st fun vs st => K (mkres vs) st⟩⟩⟩⟩
theorem q_slices_Clone_Stored_Stored {P : Program} {a0 : V} {st : St} {K : V → St → Prop} : F_slices_Clone_Stored_Stored P a0 st K = hwp P c_slices_Clone_Stored_Stored (hretQ [.tmp 2] K) (enterFr [a0]) st := by kernel_rfl
abbrev R_slices_Clone_Stored_Stored (P : Program) : Prop := resFnH P n_slices_Clone_Stored_Stored = some (8, c_slices_Clone_Stored_Stored.er, [.tmp 2])
theorem A_slices_Clone_Stored_Stored {P : Program} (h : R_slices_Clone_Stored_Stored P) {a0 : V} {st : St} {K : V → St → Prop} (hF : F_slices_Clone_Stored_Stored P a0 st K) : ACalls P n_slices_Clone_Stored_Stored [a0] st K :=
  ACalls_h h rfl (by simp) (q_slices_Clone_Stored_Stored ▸ hF)

def c_slices_Index_Spot_Spot : ACode := (.seq (.reg [⟨(some 3), none, (.box (.s 1))⟩, ⟨(some 4), none, (.mov (.c (.int .i64 0)))⟩]) (.seq (.seq (.reg [⟨(some 6), none, (.mov (.s 0))⟩, ⟨(some 7), none, (.len .sl (.s 6))⟩, ⟨(some 8), none, (.mov (.c (.int .i64 0)))⟩]) (.block 0 (.loop [8] [4, 5, 8, 9, 10, 11, 12, 13, 14, 15, 16, 17, 18] (.seq (.reg [⟨(some 9), none, (.bin .lss (.s 8) (.s 7))⟩]) (.seq (.cond (.s 9) .skip (.exit 0)) (.seq (.block 1 (.seq (.reg [⟨(some 10), none, (.mov (.s 8))⟩, ⟨(some 5), none, (.mov (.s 10))⟩]) (.seq (.regD [⟨(some 11), none, (.ld (some 2) (.s 3))⟩, ⟨(some 12), none, (.mov (.s 0))⟩, ⟨(some 13), none, (.mov (.s 5))⟩, ⟨(some 14), none, (.idx 2 (.s 12) (.s 13))⟩, ⟨(some 15), none, (.ld (some 2) (.s 14))⟩, ⟨(some 16), none, (.eqs false (.flat [.int, .int]) (.s 11) (.s 15))⟩] [(0, (false, [])), (1, (false, [])), (2, (false, [])), (3, (false, [])), (4, (false, [])), (5, (false, []))]) (.cond (.s 16) (.seq (.reg [⟨(some 17), none, (.mov (.s 5))⟩, ⟨(some 4), none, (.mov (.s 17))⟩]) .ret) .skip)))) (.reg [⟨(some 18), none, (.bin .add (.s 8) (.c (.int .i64 1)))⟩, ⟨(some 8), none, (.mov (.s 18))⟩]))))))) (.seq (.reg [⟨(some 4), none, (.mov (.c (.int .i64 (-1))))⟩]) .ret)))
def F_slices_Index_Spot_Spot (P : Program) (a0 a1 : V) (st : St) (K : V → St → Prop) : Prop :=
  @stp P (.box (.c a1)) st ⟨fun v3 st =>
  @stp P (.len .sl (.c a0)) st ⟨fun v7 st =>
  @Hold ⟨∃ I1 : Nat → Rel 1, (∃ k, GhostV [(.int .i64 0)] st (app (I1 k))) ∧ ∀ k1 v8, ∀ st, app (I1 k1) [v8] st →
    @stp P (.bin .lss (.c v8) (.c v7)) st ⟨fun v9 st =>
    @cnd v9 ⟨
      @stpD P (.ld (some 2) (.c v3)) st ⟨fun v11 st =>
      @stpD P (.idx 2 (.c a0) (.c v8)) st ⟨fun v14 st =>
      @stpD P (.ld (some 2) (.c v14)) st ⟨fun v15 st =>
      @stpD P (.eqs false (.flat [.int, .int]) (.c v11) (.c v15)) st ⟨fun v16 st =>
      @cnd v16 ⟨
        GhostV [v8] st fun vs st => K (mkres vs) st⟩
      ⟨
        @stp P (.bin .add (.c v8) (.c (.int .i64 1))) st ⟨fun v18 st =>
        ∃ j, j < k1 ∧ GhostV [v18] st (app (I1 j))⟩⟩⟩⟩⟩⟩⟩
    ⟨
      GhostV [(.int .i64 (-1))] st fun vs st => K (mkres vs) st⟩⟩⟩⟩⟩
theorem q_slices_Index_Spot_Spot {P : Program} {a0 a1 : V} {st : St} {K : V → St → Prop} : F_slices_Index_Spot_Spot P a0 a1 st K = hwp P c_slices_Index_Spot_Spot (hretQ [.tmp 4] K) (enterFr [a0, a1]) st := by kernel_rfl
abbrev R_slices_Index_Spot_Spot (P : Program) : Prop := resFnH P n_slices_Index_Spot_Spot = some (19, c_slices_Index_Spot_Spot.er, [.tmp 4])
theorem A_slices_Index_Spot_Spot {P : Program} (h : R_slices_Index_Spot_Spot P) {a0 a1 : V} {st : St} {K : V → St → Prop} (hF : F_slices_Index_Spot_Spot P a0 a1 st K) : ACalls P n_slices_Index_Spot_Spot [a0, a1] st K :=
  ACalls_h h rfl (by simp) (q_slices_Index_Spot_Spot ▸ hF)

def c_vacuum_dead_1 : ACode := (.seq (.reg [⟨(some 9), none, (.ld none (.s 1))⟩, ⟨(some 10), none, (.len .sl (.s 9))⟩, ⟨(some 11), none, (.mov (.c (.int .i64 0)))⟩]) (.block 0 (.loop [11] [6, 7, 8, 11, 12, 13, 14, 15, 16, 17, 18, 19, 20, 21, 22, 23, 24, 25, 26, 27, 28, 29, 30, 31, 32, 33, 34, 35, 36] (.seq (.reg [⟨(some 12), none, (.bin .lss (.s 11) (.s 10))⟩]) (.seq (.cond (.s 12) .skip (.exit 0)) (.seq (.block 1 (.seq (.reg [⟨(some 13), none, (.idx 10 (.s 9) (.s 11))⟩, ⟨(some 14), none, (.ld (some 10) (.s 13))⟩, ⟨(some 6), none, (.alloc [(.int .i64 0), (.int .i64 0), (.int .u32 0), (.int .u64 0), (.int .u64 0), (.int .i64 0), (.int .i64 0), (.int .i64 0), (.int .i64 0), (.int .i64 0)])⟩, ⟨none, none, (.st 10 (.s 6) (.s 14))⟩]) (.seq (.reg [⟨(some 16), none, (.ld (some 2) (.s 2))⟩, ⟨(some 17), none, (.ld none (.s 3))⟩, ⟨(some 18), none, (.fld 2 (.s 6))⟩, ⟨(some 19), none, (.ld (some 8) (.s 18))⟩, ⟨(some 20), none, (.call (.c (.fn (.func n_vision_Dead) [] [])) [(.s 16), (.s 17), (.s 19)])⟩, ⟨(some 15), none, (.mov (.s 20))⟩, ⟨(some 21), none, (.ext 0 (.s 15))⟩, ⟨(some 22), none, (.ext 1 (.s 15))⟩, ⟨(some 7), none, (.mov (.s 21))⟩, ⟨(some 8), none, (.mov (.s 22))⟩]) (.seq (.reg [⟨(some 23), none, (.mov (.s 7))⟩, ⟨(some 24), none, (.mov (.s 23))⟩, ⟨(some 25), (some (24, false)), (.mov (.s 8))⟩, ⟨(some 26), (some (24, false)), (.bin .neq (.s 25) (.c (.int .i64 0)))⟩, ⟨(some 27), none, (.pick (.s 24) (.c (.bool true)) (.s 26))⟩, ⟨(some 28), none, (.mov (.s 27))⟩, ⟨(some 29), (some (28, true)), (.mov (.s 0))⟩, ⟨(some 30), (some (28, true)), (.fld 0 (.s 6))⟩, ⟨(some 31), (some (28, true)), (.ld (some 2) (.s 30))⟩, ⟨(some 32), (some (28, true)), (.mov (.s 8))⟩, ⟨(some 33), (some (28, true)), (.call (.s 29) [(.s 31), (.s 32)])⟩, ⟨(some 34), (some (28, true)), (.un .not (.s 33))⟩, ⟨(some 35), none, (.pick (.s 28) (.s 34) (.c (.bool false)))⟩]) (.cond (.s 35) .ret .skip))))) (.reg [⟨(some 36), none, (.bin .add (.s 11) (.c (.int .i64 1)))⟩, ⟨(some 11), none, (.mov (.s 36))⟩])))))))
def F_vacuum_dead_1 (P : Program) (a0 a1 a2 a3 : V) (st : St) (K : V → St → Prop) : Prop :=
  @stp P (.ld none (.c a1)) st ⟨fun v9 st =>
  @stp P (.len .sl (.c v9)) st ⟨fun v10 st =>
  @Hold ⟨∃ I1 : Nat → Rel 1, (∃ k, GhostV [(.int .i64 0)] st (app (I1 k))) ∧ ∀ k1 v11, ∀ st, app (I1 k1) [v11] st →
    @stp P (.bin .lss (.c v11) (.c v10)) st ⟨fun v12 st =>
    @cnd v12 ⟨
      @stp P (.idx 10 (.c v9) (.c v11)) st ⟨fun v13 st =>
      @stp P (.ld (some 10) (.c v13)) st ⟨fun v14 st =>
      @stp P (.alloc [(.int .i64 0), (.int .i64 0), (.int .u32 0), (.int .u64 0), (.int .u64 0), (.int .i64 0), (.int .i64 0), (.int .i64 0), (.int .i64 0), (.int .i64 0)]) st ⟨fun v6 st =>
      @stp P (.st 10 (.c v6) (.c v14)) st ⟨fun _v st =>
      @stp P (.ld (some 2) (.c a2)) st ⟨fun v16 st =>
      @stp P (.ld none (.c a3)) st ⟨fun v17 st =>
      @stp P (.fld 2 (.c v6)) st ⟨fun v18 st =>
      @stp P (.ld (some 8) (.c v18)) st ⟨fun v19 st =>
      @stp P (.call (.c (.fn (.func n_vision_Dead) [] [])) [(.c v16), (.c v17), (.c v19)]) st ⟨fun v20 st =>
      @stp P (.ext 0 (.c v20)) st ⟨fun v21 st =>
      @stp P (.ext 1 (.c v20)) st ⟨fun v22 st =>
      @gst P v21 false (.mov (.c v22)) st ⟨fun v25 st =>
      @gst P v21 false (.bin .neq (.c v25) (.c (.int .i64 0))) st ⟨fun v26 st =>
      @stp P (.pick (.c v21) (.c (.bool true)) (.c v26)) st ⟨fun v27 st =>
      @gst P v27 true (.mov (.c a0)) st ⟨fun v29 st =>
      @gst P v27 true (.fld 0 (.c v6)) st ⟨fun v30 st =>
      @gst P v27 true (.ld (some 2) (.c v30)) st ⟨fun v31 st =>
      @gst P v27 true (.mov (.c v22)) st ⟨fun v32 st =>
      @gst P v27 true (.call (.c v29) [(.c v31), (.c v32)]) st ⟨fun v33 st =>
      @gst P v27 true (.un .not (.c v33)) st ⟨fun v34 st =>
      @stp P (.pick (.c v27) (.c v34) (.c (.bool false))) st ⟨fun v35 st =>
      @cnd v35 ⟨
        GhostV [] st fun vs st => K (mkres vs) st⟩
      ⟨
        @stp P (.bin .add (.c v11) (.c (.int .i64 1))) st ⟨fun v36 st =>
        ∃ j, j < k1 ∧ GhostV [v36] st (app (I1 j))⟩⟩⟩⟩⟩⟩⟩⟩⟩⟩⟩⟩⟩⟩⟩⟩⟩⟩⟩⟩⟩⟩⟩⟩
    ⟨
      GhostV [] st fun vs st => K (mkres vs) st⟩⟩⟩⟩⟩
theorem q_vacuum_dead_1 {P : Program} {a0 a1 a2 a3 : V} {st : St} {K : V → St → Prop} : F_vacuum_dead_1 P a0 a1 a2 a3 st K = hwp P c_vacuum_dead_1 (hretQ [] K) (enterFr [a0, a1, a2, a3]) st := by kernel_rfl
abbrev R_vacuum_dead_1 (P : Program) : Prop := resFnH P n_vacuum_dead_1 = some (37, c_vacuum_dead_1.er, [])
theorem A_vacuum_dead_1 {P : Program} (h : R_vacuum_dead_1 P) {a0 a1 a2 a3 : V} {st : St} {K : V → St → Prop} (hF : F_vacuum_dead_1 P a0 a1 a2 a3 st K) : ACalls P n_vacuum_dead_1 [a0, a1, a2, a3] st K :=
  ACalls_h h rfl (by simp) (q_vacuum_dead_1 ▸ hF)

def c_vision_Dead : ACode := (.seq (.reg [⟨(some 3), none, (.box (.s 0))⟩, ⟨(some 5), none, (.box (.s 2))⟩, ⟨(some 6), none, (.mov (.c (.bool false)))⟩, ⟨(some 7), none, (.mov (.c (.int .i64 0)))⟩]) (.seq (.seq (.reg [⟨(some 17), none, (.ld (some 2) (.s 3))⟩, ⟨(some 18), none, (.build [(.int .u64 0), (.bool false), (.int .u64 0)] [])⟩, ⟨(some 19), none, (.ld (some 8) (.s 5))⟩, ⟨(some 20), none, (.call (.c (.fn (.func n_vision_Sees) [] [])) [(.s 17), (.s 18), (.s 19)])⟩, ⟨(some 16), none, (.mov (.s 20))⟩, ⟨(some 21), none, (.ext 0 (.s 16))⟩, ⟨(some 22), none, (.ext 1 (.s 16))⟩, ⟨(some 8), none, (.mov (.s 21))⟩, ⟨(some 9), none, (.mov (.s 22))⟩]) (.seq (.reg [⟨(some 23), none, (.mov (.s 9))⟩, ⟨(some 24), none, (.bin .neq (.s 23) (.c (.int .i64 0)))⟩]) (.cond (.s 24) (.seq (.reg [⟨(some 25), none, (.mov (.s 9))⟩, ⟨(some 6), none, (.mov (.c (.bool false)))⟩, ⟨(some 7), none, (.mov (.s 25))⟩]) .ret) .skip))) (.seq (.reg [⟨(some 27), none, (.ld (some 2) (.s 3))⟩, ⟨(some 28), none, (.fld 1 (.s 5))⟩, ⟨(some 29), none, (.ld none (.s 28))⟩, ⟨(some 30), none, (.call (.c (.fn (.func n_vision_fate) [] [])) [(.s 27), (.s 29)])⟩, ⟨(some 26), none, (.mov (.s 30))⟩, ⟨(some 31), none, (.ext 0 (.s 26))⟩, ⟨(some 32), none, (.ext 1 (.s 26))⟩, ⟨(some 33), none, (.ext 2 (.s 26))⟩, ⟨(some 10), none, (.mov (.s 31))⟩, ⟨(some 11), none, (.mov (.s 32))⟩, ⟨(some 12), none, (.mov (.s 33))⟩]) (.seq (.reg [⟨(some 35), none, (.ld (some 2) (.s 3))⟩, ⟨(some 36), none, (.fld 2 (.s 5))⟩, ⟨(some 37), none, (.ld none (.s 36))⟩, ⟨(some 38), none, (.call (.c (.fn (.func n_vision_fate) [] [])) [(.s 35), (.s 37)])⟩, ⟨(some 34), none, (.mov (.s 38))⟩, ⟨(some 39), none, (.ext 0 (.s 34))⟩, ⟨(some 40), none, (.ext 1 (.s 34))⟩, ⟨(some 41), none, (.ext 2 (.s 34))⟩, ⟨(some 13), none, (.mov (.s 39))⟩, ⟨(some 14), none, (.mov (.s 40))⟩, ⟨(some 15), none, (.mov (.s 41))⟩]) (.seq (.reg [⟨(some 42), none, (.mov (.s 11))⟩, ⟨(some 43), none, (.un .not (.s 42))⟩, ⟨(some 44), none, (.mov (.s 43))⟩, ⟨(some 45), (some (44, true)), (.mov (.s 12))⟩, ⟨(some 46), (some (44, true)), (.un .not (.s 45))⟩, ⟨(some 47), none, (.pick (.s 44) (.s 46) (.c (.bool false)))⟩, ⟨(some 48), none, (.mov (.s 47))⟩, ⟨(some 49), (some (48, false)), (.mov (.s 14))⟩, ⟨(some 50), (some (48, false)), (.mov (.s 49))⟩, ⟨(some 51), (some (50, true)), (.mov (.s 13))⟩, ⟨(some 52), (some (50, true)), (.mov (.s 1))⟩, ⟨(some 53), (some (50, true)), (.bin .leq (.s 51) (.s 52))⟩, ⟨(some 54), (some (48, false)), (.pick (.s 50) (.s 53) (.c (.bool false)))⟩, ⟨(some 55), none, (.pick (.s 48) (.c (.bool true)) (.s 54))⟩, ⟨(some 6), none, (.mov (.s 55))⟩, ⟨(some 7), none, (.mov (.c (.int .i64 0)))⟩]) .ret)))))
def F_vision_Dead (P : Program) (a0 a1 a2 : V) (st : St) (K : V → St → Prop) : Prop :=
  @stp P (.box (.c a0)) st ⟨fun v3 st =>
  @stp P (.box (.c a2)) st ⟨fun v5 st =>
  @stp P (.ld (some 2) (.c v3)) st ⟨fun v17 st =>
  @stp P (.build [(.int .u64 0), (.bool false), (.int .u64 0)] []) st ⟨fun v18 st =>
  @stp P (.ld (some 8) (.c v5)) st ⟨fun v19 st =>
  @stp P (.call (.c (.fn (.func n_vision_Sees) [] [])) [(.c v17), (.c v18), (.c v19)]) st ⟨fun v20 st =>
  @stp P (.ext 0 (.c v20)) st ⟨fun v21 st =>
  @stp P (.ext 1 (.c v20)) st ⟨fun v22 st =>
  @stp P (.bin .neq (.c v22) (.c (.int .i64 0))) st ⟨fun v24 st =>
  @cnd v24 ⟨
    GhostV [(.bool false), v22] st fun vs st => K (mkres vs) st⟩
  ⟨
    @stp P (.ld (some 2) (.c v3)) st ⟨fun v27 st =>
    @stp P (.fld 1 (.c v5)) st ⟨fun v28 st =>
    @stp P (.ld none (.c v28)) st ⟨fun v29 st =>
    @stp P (.call (.c (.fn (.func n_vision_fate) [] [])) [(.c v27), (.c v29)]) st ⟨fun v30 st =>
    @stp P (.ext 0 (.c v30)) st ⟨fun v31 st =>
    @stp P (.ext 1 (.c v30)) st ⟨fun v32 st =>
    @stp P (.ext 2 (.c v30)) st ⟨fun v33 st =>
    @stp P (.ld (some 2) (.c v3)) st ⟨fun v35 st =>
    @stp P (.fld 2 (.c v5)) st ⟨fun v36 st =>
    @stp P (.ld none (.c v36)) st ⟨fun v37 st =>
    @stp P (.call (.c (.fn (.func n_vision_fate) [] [])) [(.c v35), (.c v37)]) st ⟨fun v38 st =>
    @stp P (.ext 0 (.c v38)) st ⟨fun v39 st =>
    @stp P (.ext 1 (.c v38)) st ⟨fun v40 st =>
    @stp P (.ext 2 (.c v38)) st ⟨fun v41 st =>
    @stp P (.un .not (.c v32)) st ⟨fun v43 st =>
    @gst P v43 true (.mov (.c v33)) st ⟨fun v45 st =>
    @gst P v43 true (.un .not (.c v45)) st ⟨fun v46 st =>
    @stp P (.pick (.c v43) (.c v46) (.c (.bool false))) st ⟨fun v47 st =>
    @gst P v47 false (.mov (.c v40)) st ⟨fun v49 st =>
    @gst P v47 false (.mov (.c v49)) st ⟨fun v50 st =>
    @gst P v50 true (.mov (.c v39)) st ⟨fun v51 st =>
    @gst P v50 true (.mov (.c a1)) st ⟨fun v52 st =>
    @gst P v50 true (.bin .leq (.c v51) (.c v52)) st ⟨fun v53 st =>
    @gst P v47 false (.pick (.c v50) (.c v53) (.c (.bool false))) st ⟨fun v54 st =>
    @stp P (.pick (.c v47) (.c (.bool true)) (.c v54)) st ⟨fun v55 st =>
    GhostV [v55, (.int .i64 0)] st fun vs st => K (mkres vs) st⟩⟩⟩⟩⟩⟩⟩⟩⟩⟩⟩⟩⟩⟩⟩⟩⟩⟩⟩⟩⟩⟩⟩⟩⟩⟩⟩⟩⟩⟩⟩⟩⟩⟩⟩
theorem q_vision_Dead {P : Program} {a0 a1 a2 : V} {st : St} {K : V → St → Prop} : F_vision_Dead P a0 a1 a2 st K = hwp P c_vision_Dead (hretQ [.tmp 6, .tmp 7] K) (enterFr [a0, a1, a2]) st := by kernel_rfl
abbrev R_vision_Dead (P : Program) : Prop := resFnH P n_vision_Dead = some (56, c_vision_Dead.er, [.tmp 6, .tmp 7])
theorem A_vision_Dead {P : Program} (h : R_vision_Dead P) {a0 a1 a2 : V} {st : St} {K : V → St → Prop} (hF : F_vision_Dead P a0 a1 a2 st K) : ACalls P n_vision_Dead [a0, a1, a2] st K :=
  ACalls_h h rfl (by simp) (q_vision_Dead ▸ hF)

def c_slices_IndexFunc_Stored_Stored : ACode := (.seq (.reg [⟨(some 4), none, (.mov (.c (.int .i64 0)))⟩]) (.seq (.seq (.reg [⟨(some 6), none, (.mov (.s 0))⟩, ⟨(some 7), none, (.len .sl (.s 6))⟩, ⟨(some 8), none, (.mov (.c (.int .i64 0)))⟩]) (.block 0 (.loop [8] [4, 5, 8, 9, 10, 11, 12, 13, 14, 15, 16, 17, 18] (.seq (.reg [⟨(some 9), none, (.bin .lss (.s 8) (.s 7))⟩]) (.seq (.cond (.s 9) .skip (.exit 0)) (.seq (.block 1 (.seq (.reg [⟨(some 10), none, (.mov (.s 8))⟩, ⟨(some 5), none, (.mov (.s 10))⟩]) (.seq (.reg [⟨(some 11), none, (.mov (.s 1))⟩, ⟨(some 12), none, (.mov (.s 0))⟩, ⟨(some 13), none, (.mov (.s 5))⟩, ⟨(some 14), none, (.idx 10 (.s 12) (.s 13))⟩, ⟨(some 15), none, (.ld (some 10) (.s 14))⟩, ⟨(some 16), none, (.call (.s 11) [(.s 15)])⟩]) (.cond (.s 16) (.seq (.reg [⟨(some 17), none, (.mov (.s 5))⟩, ⟨(some 4), none, (.mov (.s 17))⟩]) .ret) .skip)))) (.reg [⟨(some 18), none, (.bin .add (.s 8) (.c (.int .i64 1)))⟩, ⟨(some 8), none, (.mov (.s 18))⟩]))))))) (.seq (.reg [⟨(some 4), none, (.mov (.c (.int .i64 (-1))))⟩]) .ret)))
def F_slices_IndexFunc_Stored_Stored (P : Program) (a0 a1 : V) (st : St) (K : V → St → Prop) : Prop :=
  @stp P (.len .sl (.c a0)) st ⟨fun v7 st =>
  @Hold ⟨∃ I1 : Nat → Rel 1, (∃ k, GhostV [(.int .i64 0)] st (app (I1 k))) ∧ ∀ k1 v8, ∀ st, app (I1 k1) [v8] st →
    @stp P (.bin .lss (.c v8) (.c v7)) st ⟨fun v9 st =>
    @cnd v9 ⟨
      @stp P (.idx 10 (.c a0) (.c v8)) st ⟨fun v14 st =>
      @stp P (.ld (some 10) (.c v14)) st ⟨fun v15 st =>
      @stp P (.call (.c a1) [(.c v15)]) st ⟨fun v16 st =>
      @cnd v16 ⟨
        GhostV [v8] st fun vs st => K (mkres vs) st⟩
      ⟨
        @stp P (.bin .add (.c v8) (.c (.int .i64 1))) st ⟨fun v18 st =>
        ∃ j, j < k1 ∧ GhostV [v18] st (app (I1 j))⟩⟩⟩⟩⟩⟩
    ⟨
      GhostV [(.int .i64 (-1))] st fun vs st => K (mkres vs) st⟩⟩⟩⟩
theorem q_slices_IndexFunc_Stored_Stored {P : Program} {a0 a1 : V} {st : St} {K : V → St → Prop} : F_slices_IndexFunc_Stored_Stored P a0 a1 st K = hwp P c_slices_IndexFunc_Stored_Stored (hretQ [.tmp 4] K) (enterFr [a0, a1]) st := by kernel_rfl
abbrev R_slices_IndexFunc_Stored_Stored (P : Program) : Prop := resFnH P n_slices_IndexFunc_Stored_Stored = some (19, c_slices_IndexFunc_Stored_Stored.er, [.tmp 4])
theorem A_slices_IndexFunc_Stored_Stored {P : Program} (h : R_slices_IndexFunc_Stored_Stored P) {a0 a1 : V} {st : St} {K : V → St → Prop} (hF : F_slices_IndexFunc_Stored_Stored P a0 a1 st K) : ACalls P n_slices_IndexFunc_Stored_Stored [a0, a1] st K :=
  ACalls_h h rfl (by simp) (q_slices_IndexFunc_Stored_Stored ▸ hF)

def c_heap_Check : ACode := (.seq (.reg [⟨(some 1), none, (.box (.s 0))⟩, ⟨(some 2), none, (.mov (.c (.int .i64 0)))⟩]) (.seq (.seq (.reg [⟨(some 3), none, (.fld 0 (.s 1))⟩, ⟨(some 4), none, (.ld none (.s 3))⟩, ⟨(some 5), none, (.bin .eql (.s 4) (.c (.int .u32 0)))⟩, ⟨(some 6), none, (.mov (.s 5))⟩, ⟨(some 7), (some (6, false)), (.fld 1 (.s 1))⟩, ⟨(some 8), (some (6, false)), (.ld none (.s 7))⟩, ⟨(some 9), (some (6, false)), (.bin .eql (.s 8) (.c (.int .u64 0)))⟩, ⟨(some 10), none, (.pick (.s 6) (.c (.bool true)) (.s 9))⟩, ⟨(some 11), none, (.mov (.s 10))⟩, ⟨(some 12), (some (11, false)), (.fld 1 (.s 1))⟩, ⟨(some 13), (some (11, false)), (.ld none (.s 12))⟩, ⟨(some 14), (some (11, false)), (.bin .gtr (.s 13) (.c (.int .u64 4294967295)))⟩, ⟨(some 15), none, (.pick (.s 11) (.c (.bool true)) (.s 14))⟩, ⟨(some 16), none, (.mov (.s 15))⟩, ⟨(some 17), (some (16, false)), (.fld 2 (.s 1))⟩, ⟨(some 18), (some (16, false)), (.ld none (.s 17))⟩, ⟨(some 19), (some (16, false)), (.bin .gtr (.s 18) (.c (.int .u64 4294967295)))⟩, ⟨(some 20), none, (.pick (.s 16) (.c (.bool true)) (.s 19))⟩, ⟨(some 21), none, (.mov (.s 20))⟩, ⟨(some 22), (some (21, false)), (.fld 3 (.s 1))⟩, ⟨(some 23), (some (21, false)), (.ld (some 4) (.s 22))⟩, ⟨(some 24), (some (21, false)), (.call (.c (.fn (.func n_key_Check) [] [])) [(.c (.int .i64 1)), (.s 23)])⟩, ⟨(some 25), (some (21, false)), (.bin .neq (.s 24) (.c (.int .i64 0)))⟩, ⟨(some 26), none, (.pick (.s 21) (.c (.bool true)) (.s 25))⟩]) (.cond (.s 26) (.seq (.reg [⟨(some 2), none, (.mov (.c (.int .i64 200)))⟩]) .ret) .skip)) (.seq (.reg [⟨(some 2), none, (.mov (.c (.int .i64 0)))⟩]) .ret)))
def F_heap_Check (P : Program) (a0 : V) (st : St) (K : V → St → Prop) : Prop :=
  @stp P (.box (.c a0)) st ⟨fun v1 st =>
  @stp P (.fld 0 (.c v1)) st ⟨fun v3 st =>
  @stp P (.ld none (.c v3)) st ⟨fun v4 st =>
  @stp P (.bin .eql (.c v4) (.c (.int .u32 0))) st ⟨fun v5 st =>
  @gst P v5 false (.fld 1 (.c v1)) st ⟨fun v7 st =>
  @gst P v5 false (.ld none (.c v7)) st ⟨fun v8 st =>
  @gst P v5 false (.bin .eql (.c v8) (.c (.int .u64 0))) st ⟨fun v9 st =>
  @stp P (.pick (.c v5) (.c (.bool true)) (.c v9)) st ⟨fun v10 st =>
  @gst P v10 false (.fld 1 (.c v1)) st ⟨fun v12 st =>
  @gst P v10 false (.ld none (.c v12)) st ⟨fun v13 st =>
  @gst P v10 false (.bin .gtr (.c v13) (.c (.int .u64 4294967295))) st ⟨fun v14 st =>
  @stp P (.pick (.c v10) (.c (.bool true)) (.c v14)) st ⟨fun v15 st =>
  @gst P v15 false (.fld 2 (.c v1)) st ⟨fun v17 st =>
  @gst P v15 false (.ld none (.c v17)) st ⟨fun v18 st =>
  @gst P v15 false (.bin .gtr (.c v18) (.c (.int .u64 4294967295))) st ⟨fun v19 st =>
  @stp P (.pick (.c v15) (.c (.bool true)) (.c v19)) st ⟨fun v20 st =>
  @gst P v20 false (.fld 3 (.c v1)) st ⟨fun v22 st =>
  @gst P v20 false (.ld (some 4) (.c v22)) st ⟨fun v23 st =>
  @gst P v20 false (.call (.c (.fn (.func n_key_Check) [] [])) [(.c (.int .i64 1)), (.c v23)]) st ⟨fun v24 st =>
  @gst P v20 false (.bin .neq (.c v24) (.c (.int .i64 0))) st ⟨fun v25 st =>
  @stp P (.pick (.c v20) (.c (.bool true)) (.c v25)) st ⟨fun v26 st =>
  @cnd v26 ⟨
    GhostV [(.int .i64 200)] st fun vs st => K (mkres vs) st⟩
  ⟨
    GhostV [(.int .i64 0)] st fun vs st => K (mkres vs) st⟩⟩⟩⟩⟩⟩⟩⟩⟩⟩⟩⟩⟩⟩⟩⟩⟩⟩⟩⟩⟩⟩
theorem q_heap_Check {P : Program} {a0 : V} {st : St} {K : V → St → Prop} : F_heap_Check P a0 st K = hwp P c_heap_Check (hretQ [.tmp 2] K) (enterFr [a0]) st := by kernel_rfl
abbrev R_heap_Check (P : Program) : Prop := resFnH P n_heap_Check = some (27, c_heap_Check.er, [.tmp 2])
theorem A_heap_Check {P : Program} (h : R_heap_Check P) {a0 : V} {st : St} {K : V → St → Prop} (hF : F_heap_Check P a0 st K) : ACalls P n_heap_Check [a0] st K :=
  ACalls_h h rfl (by simp) (q_heap_Check ▸ hF)

def c_vision_look_sees : ACode := (.seq (.reg [⟨(some 2), none, (.box (.s 0))⟩, ⟨(some 3), none, (.box (.s 1))⟩, ⟨(some 4), none, (.mov (.c (.bool false)))⟩]) (.seq (.reg [⟨(some 6), none, (.ld (some 5) (.s 2))⟩, ⟨(some 7), none, (.mkfn (.func n_vision_look_counts) [(.s 6)] [])⟩, ⟨(some 5), none, (.mov (.s 7))⟩]) (.seq (.reg [⟨(some 8), none, (.mov (.s 5))⟩, ⟨(some 9), none, (.fld 1 (.s 3))⟩, ⟨(some 10), none, (.ld none (.s 9))⟩, ⟨(some 11), none, (.call (.s 8) [(.s 10)])⟩, ⟨(some 12), none, (.mov (.s 11))⟩, ⟨(some 13), (some (12, true)), (.mov (.s 5))⟩, ⟨(some 14), (some (12, true)), (.fld 2 (.s 3))⟩, ⟨(some 15), (some (12, true)), (.ld none (.s 14))⟩, ⟨(some 16), (some (12, true)), (.call (.s 13) [(.s 15)])⟩, ⟨(some 17), (some (12, true)), (.un .not (.s 16))⟩, ⟨(some 18), none, (.pick (.s 12) (.s 17) (.c (.bool false)))⟩, ⟨(some 4), none, (.mov (.s 18))⟩]) .ret)))
def F_vision_look_sees (P : Program) (a0 a1 : V) (st : St) (K : V → St → Prop) : Prop :=
  @stp P (.box (.c a0)) st ⟨fun v2 st =>
  @stp P (.box (.c a1)) st ⟨fun v3 st =>
  @stp P (.ld (some 5) (.c v2)) st ⟨fun v6 st =>
  @stp P (.mkfn (.func n_vision_look_counts) [(.c v6)] []) st ⟨fun v7 st =>
  @stp P (.fld 1 (.c v3)) st ⟨fun v9 st =>
  @stp P (.ld none (.c v9)) st ⟨fun v10 st =>
  @stp P (.call (.c v7) [(.c v10)]) st ⟨fun v11 st =>
  @gst P v11 true (.mov (.c v7)) st ⟨fun v13 st =>
  @gst P v11 true (.fld 2 (.c v3)) st ⟨fun v14 st =>
  @gst P v11 true (.ld none (.c v14)) st ⟨fun v15 st =>
  @gst P v11 true (.call (.c v13) [(.c v15)]) st ⟨fun v16 st =>
  @gst P v11 true (.un .not (.c v16)) st ⟨fun v17 st =>
  @stp P (.pick (.c v11) (.c v17) (.c (.bool false))) st ⟨fun v18 st =>
  GhostV [v18] st fun vs st => K (mkres vs) st⟩⟩⟩⟩⟩⟩⟩⟩⟩⟩⟩⟩⟩
theorem q_vision_look_sees {P : Program} {a0 a1 : V} {st : St} {K : V → St → Prop} : F_vision_look_sees P a0 a1 st K = hwp P c_vision_look_sees (hretQ [.tmp 4] K) (enterFr [a0, a1]) st := by kernel_rfl
abbrev R_vision_look_sees (P : Program) : Prop := resFnH P n_vision_look_sees = some (19, c_vision_look_sees.er, [.tmp 4])
theorem A_vision_look_sees {P : Program} (h : R_vision_look_sees P) {a0 a1 : V} {st : St} {K : V → St → Prop} (hF : F_vision_look_sees P a0 a1 st K) : ACalls P n_vision_look_sees [a0, a1] st K :=
  ACalls_h h rfl (by simp) (q_vision_look_sees ▸ hF)

def c_key_Check : ACode := (.seq (.reg [⟨(some 3), none, (.box (.s 1))⟩, ⟨(some 4), none, (.mov (.c (.int .i64 0)))⟩]) (.seq (.reg [⟨(some 6), none, (.ld (some 4) (.s 3))⟩, ⟨(some 7), none, (.call (.c (.fn (.func n_key_box) [] [])) [(.s 6)])⟩, ⟨(some 5), none, (.mov (.s 7))⟩]) (.join [5] [5, 8, 9, 10, 11, 12, 13, 14, 15, 16, 17, 18, 19, 20, 21, 22, 23, 24, 25, 26, 27, 28, 29, 30, 31, 32, 33, 34, 35, 36, 37, 38, 39, 40] (.seq (.reg [⟨(some 8), none, (.mov (.s 0))⟩]) (.block 0 (.seq (.reg [⟨(some 10), none, (.bin .eql (.s 8) (.c (.int .i64 1)))⟩, ⟨(some 9), none, (.mov (.s 10))⟩]) (.cond (.s 9) .skip (.seq (.reg [⟨(some 12), none, (.bin .eql (.s 8) (.c (.int .i64 2)))⟩, ⟨(some 11), none, (.mov (.s 12))⟩]) (.cond (.s 11) (.reg [⟨(some 13), none, (.mov (.s 5))⟩, ⟨(some 14), none, (.mov (.s 13))⟩, ⟨(some 15), (some (14, true)), (.fld 2 (.s 3))⟩, ⟨(some 16), (some (14, true)), (.ld none (.s 15))⟩, ⟨(some 17), (some (14, true)), (.bin .eql (.s 16) (.c (.int .i64 0)))⟩, ⟨(some 18), none, (.pick (.s 14) (.s 17) (.c (.bool false)))⟩, ⟨(some 19), none, (.mov (.s 18))⟩, ⟨(some 20), (some (19, true)), (.fld 3 (.s 3))⟩, ⟨(some 21), (some (19, true)), (.ld none (.s 20))⟩, ⟨(some 22), (some (19, true)), (.bin .eql (.s 21) (.c (.int .i64 0)))⟩, ⟨(some 23), none, (.pick (.s 19) (.s 22) (.c (.bool false)))⟩, ⟨(some 5), none, (.mov (.s 23))⟩]) (.seq (.reg [⟨(some 25), none, (.bin .eql (.s 8) (.c (.int .i64 3)))⟩, ⟨(some 24), none, (.mov (.s 25))⟩]) (.cond (.s 24) (.reg [⟨(some 26), none, (.mov (.s 5))⟩, ⟨(some 27), none, (.mov (.s 26))⟩, ⟨(some 28), (some (27, true)), (.fld 0 (.s 3))⟩, ⟨(some 29), (some (27, true)), (.ld none (.s 28))⟩, ⟨(some 30), (some (27, true)), (.fld 1 (.s 3))⟩, ⟨(some 31), (some (27, true)), (.ld none (.s 30))⟩, ⟨(some 32), (some (27, true)), (.bin .eql (.s 29) (.s 31))⟩, ⟨(some 33), none, (.pick (.s 27) (.s 32) (.c (.bool false)))⟩, ⟨(some 34), none, (.mov (.s 33))⟩, ⟨(some 35), (some (34, true)), (.fld 2 (.s 3))⟩, ⟨(some 36), (some (34, true)), (.ld none (.s 35))⟩, ⟨(some 37), (some (34, true)), (.fld 3 (.s 3))⟩, ⟨(some 38), (some (34, true)), (.ld none (.s 37))⟩, ⟨(some 39), (some (34, true)), (.bin .eql (.s 36) (.s 38))⟩, ⟨(some 40), none, (.pick (.s 34) (.s 39) (.c (.bool false)))⟩, ⟨(some 5), none, (.mov (.s 40))⟩]) (.reg [⟨(some 5), none, (.mov (.c (.bool false)))⟩]))))))))) (.seq (.seq (.reg [⟨(some 41), none, (.mov (.s 5))⟩, ⟨(some 42), none, (.un .not (.s 41))⟩]) (.cond (.s 42) (.seq (.reg [⟨(some 4), none, (.mov (.c (.int .i64 2)))⟩]) .ret) .skip)) (.seq (.reg [⟨(some 4), none, (.mov (.c (.int .i64 0)))⟩]) .ret)))))
def F_key_Check (P : Program) (a0 a1 : V) (st : St) (K : V → St → Prop) : Prop :=
  @stp P (.box (.c a1)) st ⟨fun v3 st =>
  @stp P (.ld (some 4) (.c v3)) st ⟨fun v6 st =>
  @stp P (.call (.c (.fn (.func n_key_box) [] [])) [(.c v6)]) st ⟨fun v7 st =>
  @Hold ⟨∃ J1 : Rel 1, (
    @stp P (.bin .eql (.c a0) (.c (.int .i64 1))) st ⟨fun v10 st =>
    @cnd v10 ⟨
      GhostV [v7] st (app J1)⟩
    ⟨
      @stp P (.bin .eql (.c a0) (.c (.int .i64 2))) st ⟨fun v12 st =>
      @cnd v12 ⟨
        @gst P v7 true (.fld 2 (.c v3)) st ⟨fun v15 st =>
        @gst P v7 true (.ld none (.c v15)) st ⟨fun v16 st =>
        @gst P v7 true (.bin .eql (.c v16) (.c (.int .i64 0))) st ⟨fun v17 st =>
        @stp P (.pick (.c v7) (.c v17) (.c (.bool false))) st ⟨fun v18 st =>
        @gst P v18 true (.fld 3 (.c v3)) st ⟨fun v20 st =>
        @gst P v18 true (.ld none (.c v20)) st ⟨fun v21 st =>
        @gst P v18 true (.bin .eql (.c v21) (.c (.int .i64 0))) st ⟨fun v22 st =>
        @stp P (.pick (.c v18) (.c v22) (.c (.bool false))) st ⟨fun v23 st =>
        GhostV [v23] st (app J1)⟩⟩⟩⟩⟩⟩⟩⟩⟩
      ⟨
        @stp P (.bin .eql (.c a0) (.c (.int .i64 3))) st ⟨fun v25 st =>
        @cnd v25 ⟨
          @gst P v7 true (.fld 0 (.c v3)) st ⟨fun v28 st =>
          @gst P v7 true (.ld none (.c v28)) st ⟨fun v29 st =>
          @gst P v7 true (.fld 1 (.c v3)) st ⟨fun v30 st =>
          @gst P v7 true (.ld none (.c v30)) st ⟨fun v31 st =>
          @gst P v7 true (.bin .eql (.c v29) (.c v31)) st ⟨fun v32 st =>
          @stp P (.pick (.c v7) (.c v32) (.c (.bool false))) st ⟨fun v33 st =>
          @gst P v33 true (.fld 2 (.c v3)) st ⟨fun v35 st =>
          @gst P v33 true (.ld none (.c v35)) st ⟨fun v36 st =>
          @gst P v33 true (.fld 3 (.c v3)) st ⟨fun v37 st =>
          @gst P v33 true (.ld none (.c v37)) st ⟨fun v38 st =>
          @gst P v33 true (.bin .eql (.c v36) (.c v38)) st ⟨fun v39 st =>
          @stp P (.pick (.c v33) (.c v39) (.c (.bool false))) st ⟨fun v40 st =>
          GhostV [v40] st (app J1)⟩⟩⟩⟩⟩⟩⟩⟩⟩⟩⟩⟩⟩
        ⟨
          GhostV [(.bool false)] st (app J1)⟩⟩⟩⟩⟩⟩) ∧
  ∀ v5 st, app J1 [v5] st →
    @stp P (.un .not (.c v5)) st ⟨fun v42 st =>
    @cnd v42 ⟨
      GhostV [(.int .i64 2)] st fun vs st => K (mkres vs) st⟩
    ⟨
      GhostV [(.int .i64 0)] st fun vs st => K (mkres vs) st⟩⟩⟩⟩⟩⟩
theorem q_key_Check {P : Program} {a0 a1 : V} {st : St} {K : V → St → Prop} : F_key_Check P a0 a1 st K = hwp P c_key_Check (hretQ [.tmp 4] K) (enterFr [a0, a1]) st := by kernel_rfl
abbrev R_key_Check (P : Program) : Prop := resFnH P n_key_Check = some (43, c_key_Check.er, [.tmp 4])
theorem A_key_Check {P : Program} (h : R_key_Check P) {a0 a1 : V} {st : St} {K : V → St → Prop} (hF : F_key_Check P a0 a1 st K) : ACalls P n_key_Check [a0, a1] st K :=
  ACalls_h h rfl (by simp) (q_key_Check ▸ hF)

def c_key_box : ACode := (.seq (.reg [⟨(some 1), none, (.box (.s 0))⟩, ⟨(some 2), none, (.mov (.c (.bool false)))⟩]) (.seq (.reg [⟨(some 3), none, (.fld 0 (.s 1))⟩, ⟨(some 4), none, (.ld none (.s 3))⟩, ⟨(some 5), none, (.fld 1 (.s 1))⟩, ⟨(some 6), none, (.ld none (.s 5))⟩, ⟨(some 7), none, (.bin .leq (.s 4) (.s 6))⟩, ⟨(some 8), none, (.mov (.s 7))⟩, ⟨(some 9), (some (8, true)), (.fld 2 (.s 1))⟩, ⟨(some 10), (some (8, true)), (.ld none (.s 9))⟩, ⟨(some 11), (some (8, true)), (.fld 3 (.s 1))⟩, ⟨(some 12), (some (8, true)), (.ld none (.s 11))⟩, ⟨(some 13), (some (8, true)), (.bin .leq (.s 10) (.s 12))⟩, ⟨(some 14), none, (.pick (.s 8) (.s 13) (.c (.bool false)))⟩, ⟨(some 2), none, (.mov (.s 14))⟩]) .ret))
def F_key_box (P : Program) (a0 : V) (st : St) (K : V → St → Prop) : Prop :=
  @stp P (.box (.c a0)) st ⟨fun v1 st =>
  @stp P (.fld 0 (.c v1)) st ⟨fun v3 st =>
  @stp P (.ld none (.c v3)) st ⟨fun v4 st =>
  @stp P (.fld 1 (.c v1)) st ⟨fun v5 st =>
  @stp P (.ld none (.c v5)) st ⟨fun v6 st =>
  @stp P (.bin .leq (.c v4) (.c v6)) st ⟨fun v7 st =>
  @gst P v7 true (.fld 2 (.c v1)) st ⟨fun v9 st =>
  @gst P v7 true (.ld none (.c v9)) st ⟨fun v10 st =>
  @gst P v7 true (.fld 3 (.c v1)) st ⟨fun v11 st =>
  @gst P v7 true (.ld none (.c v11)) st ⟨fun v12 st =>
  @gst P v7 true (.bin .leq (.c v10) (.c v12)) st ⟨fun v13 st =>
  @stp P (.pick (.c v7) (.c v13) (.c (.bool false))) st ⟨fun v14 st =>
  GhostV [v14] st fun vs st => K (mkres vs) st⟩⟩⟩⟩⟩⟩⟩⟩⟩⟩⟩⟩
theorem q_key_box {P : Program} {a0 : V} {st : St} {K : V → St → Prop} : F_key_box P a0 st K = hwp P c_key_box (hretQ [.tmp 2] K) (enterFr [a0]) st := by kernel_rfl
abbrev R_key_box (P : Program) : Prop := resFnH P n_key_box = some (15, c_key_box.er, [.tmp 2])
theorem A_key_box {P : Program} (h : R_key_box P) {a0 : V} {st : St} {K : V → St → Prop} (hF : F_key_box P a0 st K) : ACalls P n_key_box [a0] st K :=
  ACalls_h h rfl (by simp) (q_key_box ▸ hF)

def c_cmp_Compare_uint64 : ACode := (.seq (.reg [⟨(some 4), none, (.mov (.c (.int .i64 0)))⟩]) (.seq (.reg [⟨(some 7), none, (.mov (.s 0))⟩, ⟨(some 8), none, (.call (.c (.fn (.func n_cmp_isNaN_uint64) [] [])) [(.s 7)])⟩, ⟨(some 5), none, (.mov (.s 8))⟩]) (.seq (.reg [⟨(some 9), none, (.mov (.s 1))⟩, ⟨(some 10), none, (.call (.c (.fn (.func n_cmp_isNaN_uint64) [] [])) [(.s 9)])⟩, ⟨(some 6), none, (.mov (.s 10))⟩]) (.seq (.seq (.reg [⟨(some 11), none, (.mov (.s 5))⟩]) (.cond (.s 11) (.seq (.seq (.reg [⟨(some 12), none, (.mov (.s 6))⟩]) (.cond (.s 12) (.seq (.reg [⟨(some 4), none, (.mov (.c (.int .i64 0)))⟩]) .ret) .skip)) (.seq (.reg [⟨(some 4), none, (.mov (.c (.int .i64 (-1))))⟩]) .ret)) .skip)) (.seq (.seq (.reg [⟨(some 13), none, (.mov (.s 6))⟩]) (.cond (.s 13) (.seq (.reg [⟨(some 4), none, (.mov (.c (.int .i64 1)))⟩]) .ret) .skip)) (.seq (.seq (.reg [⟨(some 14), none, (.mov (.s 0))⟩, ⟨(some 15), none, (.mov (.s 1))⟩, ⟨(some 16), none, (.bin .lss (.s 14) (.s 15))⟩]) (.cond (.s 16) (.seq (.reg [⟨(some 4), none, (.mov (.c (.int .i64 (-1))))⟩]) .ret) .skip)) (.seq (.seq (.reg [⟨(some 17), none, (.mov (.s 0))⟩, ⟨(some 18), none, (.mov (.s 1))⟩, ⟨(some 19), none, (.bin .gtr (.s 17) (.s 18))⟩]) (.cond (.s 19) (.seq (.reg [⟨(some 4), none, (.mov (.c (.int .i64 1)))⟩]) .ret) .skip)) (.seq (.reg [⟨(some 4), none, (.mov (.c (.int .i64 0)))⟩]) .ret))))))))
def F_cmp_Compare_uint64 (P : Program) (a0 a1 : V) (st : St) (K : V → St → Prop) : Prop :=
  @stp P (.call (.c (.fn (.func n_cmp_isNaN_uint64) [] [])) [(.c a0)]) st ⟨fun v8 st =>
  @stp P (.call (.c (.fn (.func n_cmp_isNaN_uint64) [] [])) [(.c a1)]) st ⟨fun v10 st =>
  @cnd v8 ⟨
    @cnd v10 ⟨
      GhostV [(.int .i64 0)] st fun vs st => K (mkres vs) st⟩
    ⟨
      GhostV [(.int .i64 (-1))] st fun vs st => K (mkres vs) st⟩⟩
  ⟨
    @cnd v10 ⟨
      GhostV [(.int .i64 1)] st fun vs st => K (mkres vs) st⟩
    ⟨
      @stp P (.bin .lss (.c a0) (.c a1)) st ⟨fun v16 st =>
      @cnd v16 ⟨
        GhostV [(.int .i64 (-1))] st fun vs st => K (mkres vs) st⟩
      ⟨
        @stp P (.bin .gtr (.c a0) (.c a1)) st ⟨fun v19 st =>
        @cnd v19 ⟨
          GhostV [(.int .i64 1)] st fun vs st => K (mkres vs) st⟩
        ⟨
          GhostV [(.int .i64 0)] st fun vs st => K (mkres vs) st⟩⟩⟩⟩⟩⟩⟩⟩
theorem q_cmp_Compare_uint64 {P : Program} {a0 a1 : V} {st : St} {K : V → St → Prop} : F_cmp_Compare_uint64 P a0 a1 st K = hwp P c_cmp_Compare_uint64 (hretQ [.tmp 4] K) (enterFr [a0, a1]) st := by kernel_rfl
abbrev R_cmp_Compare_uint64 (P : Program) : Prop := resFnH P n_cmp_Compare_uint64 = some (20, c_cmp_Compare_uint64.er, [.tmp 4])
theorem A_cmp_Compare_uint64 {P : Program} (h : R_cmp_Compare_uint64 P) {a0 a1 : V} {st : St} {K : V → St → Prop} (hF : F_cmp_Compare_uint64 P a0 a1 st K) : ACalls P n_cmp_Compare_uint64 [a0, a1] st K :=
  ACalls_h h rfl (by simp) (q_cmp_Compare_uint64 ▸ hF)

def c_vision_Sees : ACode := (.seq (.reg [⟨(some 3), none, (.box (.s 0))⟩, ⟨(some 4), none, (.box (.s 1))⟩, ⟨(some 5), none, (.box (.s 2))⟩, ⟨(some 6), none, (.mov (.c (.bool false)))⟩, ⟨(some 7), none, (.mov (.c (.int .i64 0)))⟩]) (.seq (.block 0 (.seq (.reg [⟨(some 9), none, (.ld (some 2) (.s 3))⟩, ⟨(some 10), none, (.call (.c (.fn (.func n_vision_Check) [] [])) [(.s 9)])⟩, ⟨(some 11), none, (.bin .neq (.s 10) (.c (.int .i64 0)))⟩, ⟨(some 8), none, (.mov (.s 11))⟩]) (.cond (.s 8) (.seq (.reg [⟨(some 6), none, (.mov (.c (.bool false)))⟩, ⟨(some 7), none, (.mov (.c (.int .i64 270)))⟩]) .ret) (.seq (.reg [⟨(some 13), none, (.ld (some 8) (.s 5))⟩, ⟨(some 14), none, (.call (.c (.fn (.func n_heap_Check) [] [])) [(.s 13)])⟩, ⟨(some 15), none, (.bin .neq (.s 14) (.c (.int .i64 0)))⟩, ⟨(some 12), none, (.mov (.s 15))⟩]) (.cond (.s 12) (.seq (.reg [⟨(some 6), none, (.mov (.c (.bool false)))⟩, ⟨(some 7), none, (.mov (.c (.int .i64 200)))⟩]) .ret) .skip))))) (.seq (.reg [⟨(some 16), none, (.ld (some 3) (.s 4))⟩, ⟨(some 17), none, (.ld (some 2) (.s 3))⟩, ⟨(some 18), none, (.build [(.int .u64 0), (.bool false), (.int .u64 0), (.int .u64 0), (.sl .nil 0 [] [])] [(0, (3, (.s 16))), (3, (2, (.s 17)))])⟩, ⟨(some 19), none, (.ld (some 8) (.s 5))⟩, ⟨(some 20), none, (.call (.c (.fn (.func n_vision_look_sees) [] [])) [(.s 18), (.s 19)])⟩, ⟨(some 6), none, (.mov (.s 20))⟩, ⟨(some 7), none, (.mov (.c (.int .i64 0)))⟩]) .ret)))
def F_vision_Sees (P : Program) (a0 a1 a2 : V) (st : St) (K : V → St → Prop) : Prop :=
  @stp P (.box (.c a0)) st ⟨fun v3 st =>
  @stp P (.box (.c a1)) st ⟨fun v4 st =>
  @stp P (.box (.c a2)) st ⟨fun v5 st =>
  @stp P (.ld (some 2) (.c v3)) st ⟨fun v9 st =>
  @stp P (.call (.c (.fn (.func n_vision_Check) [] [])) [(.c v9)]) st ⟨fun v10 st =>
  @stp P (.bin .neq (.c v10) (.c (.int .i64 0))) st ⟨fun v11 st =>
  @cnd v11 ⟨
    GhostV [(.bool false), (.int .i64 270)] st fun vs st => K (mkres vs) st⟩
  ⟨
    @stp P (.ld (some 8) (.c v5)) st ⟨fun v13 st =>
    @stp P (.call (.c (.fn (.func n_heap_Check) [] [])) [(.c v13)]) st ⟨fun v14 st =>
    @stp P (.bin .neq (.c v14) (.c (.int .i64 0))) st ⟨fun v15 st =>
    @cnd v15 ⟨
      GhostV [(.bool false), (.int .i64 200)] st fun vs st => K (mkres vs) st⟩
    ⟨
      @stp P (.ld (some 3) (.c v4)) st ⟨fun v16 st =>
      @stp P (.ld (some 2) (.c v3)) st ⟨fun v17 st =>
      @stp P (.build [(.int .u64 0), (.bool false), (.int .u64 0), (.int .u64 0), (.sl .nil 0 [] [])] [(0, 3, (.c v16)), (3, 2, (.c v17))]) st ⟨fun v18 st =>
      @stp P (.ld (some 8) (.c v5)) st ⟨fun v19 st =>
      @stp P (.call (.c (.fn (.func n_vision_look_sees) [] [])) [(.c v18), (.c v19)]) st ⟨fun v20 st =>
      GhostV [v20, (.int .i64 0)] st fun vs st => K (mkres vs) st⟩⟩⟩⟩⟩⟩⟩⟩⟩⟩⟩⟩⟩⟩⟩⟩
theorem q_vision_Sees {P : Program} {a0 a1 a2 : V} {st : St} {K : V → St → Prop} : F_vision_Sees P a0 a1 a2 st K = hwp P c_vision_Sees (hretQ [.tmp 6, .tmp 7] K) (enterFr [a0, a1, a2]) st := by kernel_rfl
abbrev R_vision_Sees (P : Program) : Prop := resFnH P n_vision_Sees = some (21, c_vision_Sees.er, [.tmp 6, .tmp 7])
theorem A_vision_Sees {P : Program} (h : R_vision_Sees P) {a0 a1 a2 : V} {st : St} {K : V → St → Prop} (hF : F_vision_Sees P a0 a1 a2 st K) : ACalls P n_vision_Sees [a0, a1, a2] st K :=
  ACalls_h h rfl (by simp) (q_vision_Sees ▸ hF)

def c_vision_fate : ACode := (.seq (.reg [⟨(some 2), none, (.box (.s 0))⟩, ⟨(some 4), none, (.mov (.c (.int .u64 0)))⟩, ⟨(some 5), none, (.mov (.c (.bool false)))⟩, ⟨(some 6), none, (.mov (.c (.bool false)))⟩]) (.seq (.seq (.reg [⟨(some 10), none, (.mov (.s 1))⟩, ⟨(some 11), none, (.bin .gtr (.s 10) (.c (.int .u64 0)))⟩, ⟨(some 12), none, (.mov (.s 11))⟩, ⟨(some 13), (some (12, true)), (.mov (.s 1))⟩, ⟨(some 14), (some (12, true)), (.fld 0 (.s 2))⟩, ⟨(some 15), (some (12, true)), (.ld none (.s 14))⟩, ⟨(some 16), (some (12, true)), (.bin .lss (.s 13) (.s 15))⟩, ⟨(some 17), none, (.pick (.s 12) (.s 16) (.c (.bool false)))⟩]) (.cond (.s 17) (.seq (.reg [⟨(some 4), none, (.mov (.c (.int .u64 0)))⟩, ⟨(some 5), none, (.mov (.c (.bool true)))⟩, ⟨(some 6), none, (.mov (.c (.bool false)))⟩]) .ret) .skip)) (.seq (.reg [⟨(some 19), none, (.fld 1 (.s 2))⟩, ⟨(some 20), none, (.ld none (.s 19))⟩, ⟨(some 21), none, (.mov (.s 1))⟩, ⟨(some 22), none, (.call (.c (.fn (.func n_slices_BinarySearchFunc_Fate_Fate_uint64) [] [])) [(.s 20), (.s 21), (.c (.fn (.func n_vision_fate_1) [] []))])⟩, ⟨(some 18), none, (.mov (.s 22))⟩, ⟨(some 23), none, (.ext 0 (.s 18))⟩, ⟨(some 24), none, (.ext 1 (.s 18))⟩, ⟨(some 7), none, (.mov (.s 23))⟩, ⟨(some 8), none, (.mov (.s 24))⟩]) (.seq (.seq (.reg [⟨(some 25), none, (.mov (.s 8))⟩, ⟨(some 26), none, (.un .not (.s 25))⟩]) (.cond (.s 26) (.seq (.reg [⟨(some 4), none, (.mov (.c (.int .u64 0)))⟩, ⟨(some 5), none, (.mov (.c (.bool false)))⟩, ⟨(some 6), none, (.mov (.c (.bool false)))⟩]) .ret) .skip)) (.seq (.reg [⟨(some 27), none, (.fld 1 (.s 2))⟩, ⟨(some 28), none, (.ld none (.s 27))⟩, ⟨(some 29), none, (.mov (.s 7))⟩, ⟨(some 30), none, (.idx 2 (.s 28) (.s 29))⟩, ⟨(some 31), none, (.fld 1 (.s 30))⟩, ⟨(some 32), none, (.ld none (.s 31))⟩, ⟨(some 9), none, (.mov (.s 32))⟩]) (.seq (.reg [⟨(some 33), none, (.mov (.s 9))⟩, ⟨(some 34), none, (.mov (.s 9))⟩, ⟨(some 35), none, (.bin .gtr (.s 34) (.c (.int .u64 0)))⟩, ⟨(some 36), none, (.mov (.s 9))⟩, ⟨(some 37), none, (.bin .eql (.s 36) (.c (.int .u64 0)))⟩, ⟨(some 4), none, (.mov (.s 33))⟩, ⟨(some 5), none, (.mov (.s 35))⟩, ⟨(some 6), none, (.mov (.s 37))⟩]) .ret))))))
def F_vision_fate (P : Program) (a0 a1 : V) (st : St) (K : V → St → Prop) : Prop :=
  @stp P (.box (.c a0)) st ⟨fun v2 st =>
  @stp P (.bin .gtr (.c a1) (.c (.int .u64 0))) st ⟨fun v11 st =>
  @gst P v11 true (.mov (.c a1)) st ⟨fun v13 st =>
  @gst P v11 true (.fld 0 (.c v2)) st ⟨fun v14 st =>
  @gst P v11 true (.ld none (.c v14)) st ⟨fun v15 st =>
  @gst P v11 true (.bin .lss (.c v13) (.c v15)) st ⟨fun v16 st =>
  @stp P (.pick (.c v11) (.c v16) (.c (.bool false))) st ⟨fun v17 st =>
  @cnd v17 ⟨
    GhostV [(.int .u64 0), (.bool true), (.bool false)] st fun vs st => K (mkres vs) st⟩
  ⟨
    @stp P (.fld 1 (.c v2)) st ⟨fun v19 st =>
    @stp P (.ld none (.c v19)) st ⟨fun v20 st =>
    @stp P (.call (.c (.fn (.func n_slices_BinarySearchFunc_Fate_Fate_uint64) [] [])) [(.c v20), (.c a1), (.c (.fn (.func n_vision_fate_1) [] []))]) st ⟨fun v22 st =>
    @stp P (.ext 0 (.c v22)) st ⟨fun v23 st =>
    @stp P (.ext 1 (.c v22)) st ⟨fun v24 st =>
    @stp P (.un .not (.c v24)) st ⟨fun v26 st =>
    @cnd v26 ⟨
      GhostV [(.int .u64 0), (.bool false), (.bool false)] st fun vs st => K (mkres vs) st⟩
    ⟨
      @stp P (.fld 1 (.c v2)) st ⟨fun v27 st =>
      @stp P (.ld none (.c v27)) st ⟨fun v28 st =>
      @stp P (.idx 2 (.c v28) (.c v23)) st ⟨fun v30 st =>
      @stp P (.fld 1 (.c v30)) st ⟨fun v31 st =>
      @stp P (.ld none (.c v31)) st ⟨fun v32 st =>
      @stp P (.bin .gtr (.c v32) (.c (.int .u64 0))) st ⟨fun v35 st =>
      @stp P (.bin .eql (.c v32) (.c (.int .u64 0))) st ⟨fun v37 st =>
      GhostV [v32, v35, v37] st fun vs st => K (mkres vs) st⟩⟩⟩⟩⟩⟩⟩⟩⟩⟩⟩⟩⟩⟩⟩⟩⟩⟩⟩⟩⟩⟩
theorem q_vision_fate {P : Program} {a0 a1 : V} {st : St} {K : V → St → Prop} : F_vision_fate P a0 a1 st K = hwp P c_vision_fate (hretQ [.tmp 4, .tmp 5, .tmp 6] K) (enterFr [a0, a1]) st := by kernel_rfl
abbrev R_vision_fate (P : Program) : Prop := resFnH P n_vision_fate = some (38, c_vision_fate.er, [.tmp 4, .tmp 5, .tmp 6])
theorem A_vision_fate {P : Program} (h : R_vision_fate P) {a0 a1 : V} {st : St} {K : V → St → Prop} (hF : F_vision_fate P a0 a1 st K) : ACalls P n_vision_fate [a0, a1] st K :=
  ACalls_h h rfl (by simp) (q_vision_fate ▸ hF)

def c_vision_look_counts : ACode := (.seq (.reg [⟨(some 2), none, (.box (.s 0))⟩, ⟨(some 4), none, (.mov (.c (.bool false)))⟩]) (.seq (.reg [⟨(some 9), none, (.fld 3 (.s 2))⟩, ⟨(some 10), none, (.ld (some 2) (.s 9))⟩, ⟨(some 11), none, (.mov (.s 1))⟩, ⟨(some 12), none, (.call (.c (.fn (.func n_vision_fate) [] [])) [(.s 10), (.s 11)])⟩, ⟨(some 8), none, (.mov (.s 12))⟩, ⟨(some 13), none, (.ext 0 (.s 8))⟩, ⟨(some 14), none, (.ext 1 (.s 8))⟩, ⟨(some 15), none, (.ext 2 (.s 8))⟩, ⟨(some 5), none, (.mov (.s 13))⟩, ⟨(some 6), none, (.mov (.s 14))⟩, ⟨(some 7), none, (.mov (.s 15))⟩]) (.seq (.seq (.reg [⟨(some 16), none, (.fld 0 (.s 2))⟩, ⟨(some 17), none, (.fld 1 (.s 16))⟩, ⟨(some 18), none, (.ld none (.s 17))⟩]) (.cond (.s 18) (.seq (.reg [⟨(some 19), none, (.mov (.s 6))⟩, ⟨(some 20), none, (.mov (.s 19))⟩, ⟨(some 21), (some (20, true)), (.mov (.s 5))⟩, ⟨(some 22), (some (20, true)), (.fld 0 (.s 2))⟩, ⟨(some 23), (some (20, true)), (.fld 2 (.s 22))⟩, ⟨(some 24), (some (20, true)), (.ld none (.s 23))⟩, ⟨(some 25), (some (20, true)), (.bin .leq (.s 21) (.s 24))⟩, ⟨(some 26), none, (.pick (.s 20) (.s 25) (.c (.bool false)))⟩, ⟨(some 4), none, (.mov (.s 26))⟩]) .ret) .skip)) (.seq (.reg [⟨(some 27), none, (.mov (.s 6))⟩, ⟨(some 28), none, (.mov (.s 27))⟩, ⟨(some 29), (some (28, false)), (.mov (.s 1))⟩, ⟨(some 30), (some (28, false)), (.bin .gtr (.s 29) (.c (.int .u64 0)))⟩, ⟨(some 31), (some (28, false)), (.mov (.s 30))⟩, ⟨(some 32), (some (31, true)), (.mov (.s 1))⟩, ⟨(some 33), (some (31, true)), (.fld 0 (.s 2))⟩, ⟨(some 34), (some (31, true)), (.fld 0 (.s 33))⟩, ⟨(some 35), (some (31, true)), (.ld none (.s 34))⟩, ⟨(some 36), (some (31, true)), (.bin .eql (.s 32) (.s 35))⟩, ⟨(some 37), (some (28, false)), (.pick (.s 31) (.s 36) (.c (.bool false)))⟩, ⟨(some 38), none, (.pick (.s 28) (.c (.bool true)) (.s 37))⟩, ⟨(some 4), none, (.mov (.s 38))⟩]) .ret))))
def F_vision_look_counts (P : Program) (a0 a1 : V) (st : St) (K : V → St → Prop) : Prop :=
  @stp P (.box (.c a0)) st ⟨fun v2 st =>
  @stp P (.fld 3 (.c v2)) st ⟨fun v9 st =>
  @stp P (.ld (some 2) (.c v9)) st ⟨fun v10 st =>
  @stp P (.call (.c (.fn (.func n_vision_fate) [] [])) [(.c v10), (.c a1)]) st ⟨fun v12 st =>
  @stp P (.ext 0 (.c v12)) st ⟨fun v13 st =>
  @stp P (.ext 1 (.c v12)) st ⟨fun v14 st =>
  @stp P (.ext 2 (.c v12)) st ⟨fun v15 st =>
  @stp P (.fld 0 (.c v2)) st ⟨fun v16 st =>
  @stp P (.fld 1 (.c v16)) st ⟨fun v17 st =>
  @stp P (.ld none (.c v17)) st ⟨fun v18 st =>
  @cnd v18 ⟨
    @gst P v14 true (.mov (.c v13)) st ⟨fun v21 st =>
    @gst P v14 true (.fld 0 (.c v2)) st ⟨fun v22 st =>
    @gst P v14 true (.fld 2 (.c v22)) st ⟨fun v23 st =>
    @gst P v14 true (.ld none (.c v23)) st ⟨fun v24 st =>
    @gst P v14 true (.bin .leq (.c v21) (.c v24)) st ⟨fun v25 st =>
    @stp P (.pick (.c v14) (.c v25) (.c (.bool false))) st ⟨fun v26 st =>
    GhostV [v26] st fun vs st => K (mkres vs) st⟩⟩⟩⟩⟩⟩⟩
  ⟨
    @gst P v14 false (.mov (.c a1)) st ⟨fun v29 st =>
    @gst P v14 false (.bin .gtr (.c v29) (.c (.int .u64 0))) st ⟨fun v30 st =>
    @gst P v14 false (.mov (.c v30)) st ⟨fun v31 st =>
    @gst P v31 true (.mov (.c a1)) st ⟨fun v32 st =>
    @gst P v31 true (.fld 0 (.c v2)) st ⟨fun v33 st =>
    @gst P v31 true (.fld 0 (.c v33)) st ⟨fun v34 st =>
    @gst P v31 true (.ld none (.c v34)) st ⟨fun v35 st =>
    @gst P v31 true (.bin .eql (.c v32) (.c v35)) st ⟨fun v36 st =>
    @gst P v14 false (.pick (.c v31) (.c v36) (.c (.bool false))) st ⟨fun v37 st =>
    @stp P (.pick (.c v14) (.c (.bool true)) (.c v37)) st ⟨fun v38 st =>
    GhostV [v38] st fun vs st => K (mkres vs) st⟩⟩⟩⟩⟩⟩⟩⟩⟩⟩⟩⟩⟩⟩⟩⟩⟩⟩⟩⟩⟩
theorem q_vision_look_counts {P : Program} {a0 a1 : V} {st : St} {K : V → St → Prop} : F_vision_look_counts P a0 a1 st K = hwp P c_vision_look_counts (hretQ [.tmp 4] K) (enterFr [a0, a1]) st := by kernel_rfl
abbrev R_vision_look_counts (P : Program) : Prop := resFnH P n_vision_look_counts = some (39, c_vision_look_counts.er, [.tmp 4])
theorem A_vision_look_counts {P : Program} (h : R_vision_look_counts P) {a0 a1 : V} {st : St} {K : V → St → Prop} (hF : F_vision_look_counts P a0 a1 st K) : ACalls P n_vision_look_counts [a0, a1] st K :=
  ACalls_h h rfl (by simp) (q_vision_look_counts ▸ hF)

def c_cmp_isNaN_uint64 : ACode := (.seq (.reg [⟨(some 2), none, (.mov (.c (.bool false)))⟩]) (.seq (.reg [⟨(some 3), none, (.mov (.s 0))⟩, ⟨(some 4), none, (.mov (.s 0))⟩, ⟨(some 5), none, (.bin .neq (.s 3) (.s 4))⟩, ⟨(some 2), none, (.mov (.s 5))⟩]) .ret))
def F_cmp_isNaN_uint64 (P : Program) (a0 : V) (st : St) (K : V → St → Prop) : Prop :=
  @stp P (.bin .neq (.c a0) (.c a0)) st ⟨fun v5 st =>
  GhostV [v5] st fun vs st => K (mkres vs) st⟩
theorem q_cmp_isNaN_uint64 {P : Program} {a0 : V} {st : St} {K : V → St → Prop} : F_cmp_isNaN_uint64 P a0 st K = hwp P c_cmp_isNaN_uint64 (hretQ [.tmp 2] K) (enterFr [a0]) st := by kernel_rfl
abbrev R_cmp_isNaN_uint64 (P : Program) : Prop := resFnH P n_cmp_isNaN_uint64 = some (6, c_cmp_isNaN_uint64.er, [.tmp 2])
theorem A_cmp_isNaN_uint64 {P : Program} (h : R_cmp_isNaN_uint64 P) {a0 : V} {st : St} {K : V → St → Prop} (hF : F_cmp_isNaN_uint64 P a0 st K) : ACalls P n_cmp_isNaN_uint64 [a0] st K :=
  ACalls_h h rfl (by simp) (q_cmp_isNaN_uint64 ▸ hF)

def c_slices_BinarySearchFunc_Fate_Fate_uint64 : ACode := (.seq (.reg [⟨(some 6), none, (.mov (.c (.int .i64 0)))⟩, ⟨(some 7), none, (.mov (.c (.bool false)))⟩]) (.seq (.reg [⟨(some 12), none, (.mov (.s 0))⟩, ⟨(some 13), none, (.len .sl (.s 12))⟩, ⟨(some 8), none, (.mov (.s 13))⟩]) (.seq (.reg [⟨(some 14), none, (.mov (.s 8))⟩, ⟨(some 9), none, (.mov (.c (.int .i64 0)))⟩, ⟨(some 10), none, (.mov (.s 14))⟩]) (.seq (.block 0 (.loop [9, 10] [9, 10, 11, 15, 16, 17, 18, 19, 20, 21, 22, 23, 24, 25, 26, 27, 28, 29, 30, 31, 32, 33, 34] (.seq (.seq (.reg [⟨(some 15), none, (.mov (.s 9))⟩, ⟨(some 16), none, (.mov (.s 10))⟩, ⟨(some 17), none, (.bin .lss (.s 15) (.s 16))⟩]) (.cond (.s 17) .skip (.exit 0))) (.block 1 (.seq (.reg [⟨(some 18), none, (.mov (.s 9))⟩, ⟨(some 19), none, (.mov (.s 10))⟩, ⟨(some 20), none, (.bin .add (.s 18) (.s 19))⟩, ⟨(some 21), none, (.conv .u64 (.s 20))⟩, ⟨(some 22), none, (.bin .shr (.s 21) (.c (.int .u64 1)))⟩, ⟨(some 23), none, (.conv .i64 (.s 22))⟩, ⟨(some 11), none, (.mov (.s 23))⟩]) (.seq (.reg [⟨(some 24), none, (.mov (.s 2))⟩, ⟨(some 25), none, (.mov (.s 0))⟩, ⟨(some 26), none, (.mov (.s 11))⟩, ⟨(some 27), none, (.idx 2 (.s 25) (.s 26))⟩, ⟨(some 28), none, (.ld (some 2) (.s 27))⟩, ⟨(some 29), none, (.mov (.s 1))⟩, ⟨(some 30), none, (.call (.s 24) [(.s 28), (.s 29)])⟩, ⟨(some 31), none, (.bin .lss (.s 30) (.c (.int .i64 0)))⟩]) (.cond (.s 31) (.reg [⟨(some 32), none, (.mov (.s 11))⟩, ⟨(some 33), none, (.bin .add (.s 32) (.c (.int .i64 1)))⟩, ⟨(some 9), none, (.mov (.s 33))⟩]) (.reg [⟨(some 34), none, (.mov (.s 11))⟩, ⟨(some 10), none, (.mov (.s 34))⟩])))))))) (.seq (.reg [⟨(some 35), none, (.mov (.s 9))⟩, ⟨(some 36), none, (.mov (.s 9))⟩, ⟨(some 37), none, (.mov (.s 8))⟩, ⟨(some 38), none, (.bin .lss (.s 36) (.s 37))⟩, ⟨(some 39), none, (.mov (.s 38))⟩, ⟨(some 40), (some (39, true)), (.mov (.s 2))⟩, ⟨(some 41), (some (39, true)), (.mov (.s 0))⟩, ⟨(some 42), (some (39, true)), (.mov (.s 9))⟩, ⟨(some 43), (some (39, true)), (.idx 2 (.s 41) (.s 42))⟩, ⟨(some 44), (some (39, true)), (.ld (some 2) (.s 43))⟩, ⟨(some 45), (some (39, true)), (.mov (.s 1))⟩, ⟨(some 46), (some (39, true)), (.call (.s 40) [(.s 44), (.s 45)])⟩, ⟨(some 47), (some (39, true)), (.bin .eql (.s 46) (.c (.int .i64 0)))⟩, ⟨(some 48), none, (.pick (.s 39) (.s 47) (.c (.bool false)))⟩, ⟨(some 6), none, (.mov (.s 35))⟩, ⟨(some 7), none, (.mov (.s 48))⟩]) .ret)))))
def F_slices_BinarySearchFunc_Fate_Fate_uint64 (P : Program) (a0 a1 a2 : V) (st : St) (K : V → St → Prop) : Prop :=
  @stp P (.len .sl (.c a0)) st ⟨fun v13 st =>
  @Hold ⟨∃ I1 : Nat → Rel 2, (∃ k, GhostV [(.int .i64 0), v13] st (app (I1 k))) ∧ ∀ k1 v9 v10, ∀ st, app (I1 k1) [v9, v10] st →
    @stp P (.bin .lss (.c v9) (.c v10)) st ⟨fun v17 st =>
    @cnd v17 ⟨
      @stp P (.bin .add (.c v9) (.c v10)) st ⟨fun v20 st =>
      @stp P (.conv .u64 (.c v20)) st ⟨fun v21 st =>
      @stp P (.bin .shr (.c v21) (.c (.int .u64 1))) st ⟨fun v22 st =>
      @stp P (.conv .i64 (.c v22)) st ⟨fun v23 st =>
      @stp P (.idx 2 (.c a0) (.c v23)) st ⟨fun v27 st =>
      @stp P (.ld (some 2) (.c v27)) st ⟨fun v28 st =>
      @stp P (.call (.c a2) [(.c v28), (.c a1)]) st ⟨fun v30 st =>
      @stp P (.bin .lss (.c v30) (.c (.int .i64 0))) st ⟨fun v31 st =>
      @cnd v31 ⟨
        @stp P (.bin .add (.c v23) (.c (.int .i64 1))) st ⟨fun v33 st =>
        ∃ j, j < k1 ∧ GhostV [v33, v10] st (app (I1 j))⟩⟩
      ⟨
        ∃ j, j < k1 ∧ GhostV [v9, v23] st (app (I1 j))⟩⟩⟩⟩⟩⟩⟩⟩⟩⟩
    ⟨
      @stp P (.bin .lss (.c v9) (.c v13)) st ⟨fun v38 st =>
      @gst P v38 true (.mov (.c a2)) st ⟨fun v40 st =>
      @gst P v38 true (.mov (.c a0)) st ⟨fun v41 st =>
      @gst P v38 true (.mov (.c v9)) st ⟨fun v42 st =>
      @gst P v38 true (.idx 2 (.c v41) (.c v42)) st ⟨fun v43 st =>
      @gst P v38 true (.ld (some 2) (.c v43)) st ⟨fun v44 st =>
      @gst P v38 true (.mov (.c a1)) st ⟨fun v45 st =>
      @gst P v38 true (.call (.c v40) [(.c v44), (.c v45)]) st ⟨fun v46 st =>
      @gst P v38 true (.bin .eql (.c v46) (.c (.int .i64 0))) st ⟨fun v47 st =>
      @stp P (.pick (.c v38) (.c v47) (.c (.bool false))) st ⟨fun v48 st =>
      GhostV [v9, v48] st fun vs st => K (mkres vs) st⟩⟩⟩⟩⟩⟩⟩⟩⟩⟩⟩⟩⟩⟩
theorem q_slices_BinarySearchFunc_Fate_Fate_uint64 {P : Program} {a0 a1 a2 : V} {st : St} {K : V → St → Prop} : F_slices_BinarySearchFunc_Fate_Fate_uint64 P a0 a1 a2 st K = hwp P c_slices_BinarySearchFunc_Fate_Fate_uint64 (hretQ [.tmp 6, .tmp 7] K) (enterFr [a0, a1, a2]) st := by kernel_rfl
abbrev R_slices_BinarySearchFunc_Fate_Fate_uint64 (P : Program) : Prop := resFnH P n_slices_BinarySearchFunc_Fate_Fate_uint64 = some (49, c_slices_BinarySearchFunc_Fate_Fate_uint64.er, [.tmp 6, .tmp 7])
theorem A_slices_BinarySearchFunc_Fate_Fate_uint64 {P : Program} (h : R_slices_BinarySearchFunc_Fate_Fate_uint64 P) {a0 a1 a2 : V} {st : St} {K : V → St → Prop} (hF : F_slices_BinarySearchFunc_Fate_Fate_uint64 P a0 a1 a2 st K) : ACalls P n_slices_BinarySearchFunc_Fate_Fate_uint64 [a0, a1, a2] st K :=
  ACalls_h h rfl (by simp) (q_slices_BinarySearchFunc_Fate_Fate_uint64 ▸ hF)

def c_vision_fate_1 : ACode := (.seq (.reg [⟨(some 2), none, (.box (.s 0))⟩, ⟨(some 4), none, (.mov (.c (.int .i64 0)))⟩]) (.seq (.reg [⟨(some 5), none, (.fld 0 (.s 2))⟩, ⟨(some 6), none, (.ld none (.s 5))⟩, ⟨(some 7), none, (.mov (.s 1))⟩, ⟨(some 8), none, (.call (.c (.fn (.func n_cmp_Compare_uint64) [] [])) [(.s 6), (.s 7)])⟩, ⟨(some 4), none, (.mov (.s 8))⟩]) .ret))
def F_vision_fate_1 (P : Program) (a0 a1 : V) (st : St) (K : V → St → Prop) : Prop :=
  @stp P (.box (.c a0)) st ⟨fun v2 st =>
  @stp P (.fld 0 (.c v2)) st ⟨fun v5 st =>
  @stp P (.ld none (.c v5)) st ⟨fun v6 st =>
  @stp P (.call (.c (.fn (.func n_cmp_Compare_uint64) [] [])) [(.c v6), (.c a1)]) st ⟨fun v8 st =>
  GhostV [v8] st fun vs st => K (mkres vs) st⟩⟩⟩⟩
theorem q_vision_fate_1 {P : Program} {a0 a1 : V} {st : St} {K : V → St → Prop} : F_vision_fate_1 P a0 a1 st K = hwp P c_vision_fate_1 (hretQ [.tmp 4] K) (enterFr [a0, a1]) st := by kernel_rfl
abbrev R_vision_fate_1 (P : Program) : Prop := resFnH P n_vision_fate_1 = some (9, c_vision_fate_1.er, [.tmp 4])
theorem A_vision_fate_1 {P : Program} (h : R_vision_fate_1 P) {a0 a1 : V} {st : St} {K : V → St → Prop} (hF : F_vision_fate_1 P a0 a1 st K) : ACalls P n_vision_fate_1 [a0, a1] st K :=
  ACalls_h h rfl (by simp) (q_vision_fate_1 ▸ hF)

end Go.Proofs.Ytmgkjbphlbpbfaa.AM
