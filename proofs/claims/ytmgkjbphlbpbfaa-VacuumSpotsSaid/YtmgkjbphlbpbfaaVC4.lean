import Derived.Test.YtmgkjbphlbpbfaaVC2
import Derived.KernelRfl
namespace Go.Proofs.Ytmgkjbphlbpbfaa.AM
open Go
set_option linter.unusedVariables false

def c_gazetteerlaw18_VacuumSpots : ACode := (.seq (.reg [⟨(some 6), none, (.mov (.c (.bool false)))⟩]) (.seq (.seq (.reg [⟨(some 22), none, (.call (.c (.fn (.func n_gazetteerlaw18_wakes) [] [])) [])⟩, ⟨(some 23), none, (.un .not (.s 22))⟩]) (.cond (.s 23) (.seq (.reg [⟨(some 6), none, (.mov (.c (.bool false)))⟩]) .ret) .skip)) (.seq (.reg [⟨(some 24), none, (.mov (.s 0))⟩, ⟨(some 25), none, (.call (.c (.fn (.func n_gazetteerlaw18_spots) [] [])) [(.s 24)])⟩, ⟨(some 0), none, (.mov (.s 25))⟩]) (.seq (.reg [⟨(some 26), none, (.mov (.s 0))⟩, ⟨(some 27), none, (.call (.c (.fn (.func n_gazetteerlaw18_spots) [] [])) [(.s 26)])⟩, ⟨(some 7), none, (.mov (.s 27))⟩]) (.seq (.seq (.reg [⟨(some 28), none, (.mov (.s 0))⟩, ⟨(some 29), none, (.len .sl (.s 28))⟩, ⟨(some 30), none, (.mov (.c (.int .i64 0)))⟩]) (.block 0 (.loop [30] [6, 9, 10, 11, 30, 31, 32, 33, 34, 35, 36, 37, 38, 39, 40, 41, 42, 43, 44, 45, 46, 47, 48, 49, 50, 51, 52, 53, 54, 55, 56] (.seq (.reg [⟨(some 31), none, (.bin .lss (.s 30) (.s 29))⟩]) (.seq (.cond (.s 31) .skip (.exit 0)) (.seq (.block 1 (.seq (.reg [⟨(some 32), none, (.idx 2 (.s 28) (.s 30))⟩, ⟨(some 33), none, (.ld (some 2) (.s 32))⟩, ⟨(some 9), none, (.alloc [(.int .i64 0), (.int .i64 0)])⟩, ⟨none, none, (.st 2 (.s 9) (.s 33))⟩]) (.seq (.reg [⟨(some 35), none, (.ld (some 2) (.s 9))⟩, ⟨(some 36), none, (.call (.c (.fn (.func n_vacuum_Entry) [] [])) [(.s 35)])⟩, ⟨(some 34), none, (.mov (.s 36))⟩, ⟨(some 37), none, (.ext 0 (.s 34))⟩, ⟨(some 38), none, (.ext 1 (.s 34))⟩, ⟨(some 10), none, (.mov (.s 37))⟩, ⟨(some 11), none, (.mov (.s 38))⟩]) (.seq (.reg [⟨(some 39), none, (.ld (some 2) (.s 9))⟩, ⟨(some 40), none, (.call (.c (.fn (.func n_gazetteerref18_Spot) [] [])) [(.s 39)])⟩, ⟨(some 41), none, (.un .not (.s 40))⟩]) (.cond (.s 41) (.seq (.reg [⟨(some 42), none, (.mov (.s 11))⟩, ⟨(some 43), none, (.bin .neq (.s 42) (.c (.int .i64 2)))⟩, ⟨(some 44), none, (.mov (.s 43))⟩, ⟨(some 45), (some (44, false)), (.mov (.s 10))⟩, ⟨(some 46), (some (44, false)), (.bin .neq (.s 45) (.c (.int .u32 0)))⟩, ⟨(some 47), none, (.pick (.s 44) (.c (.bool true)) (.s 46))⟩]) (.cond (.s 47) (.seq (.reg [⟨(some 6), none, (.mov (.c (.bool false)))⟩]) .ret) .skip)) (.seq (.reg [⟨(some 48), none, (.mov (.s 11))⟩, ⟨(some 49), none, (.bin .neq (.s 48) (.c (.int .i64 0)))⟩, ⟨(some 50), none, (.mov (.s 49))⟩, ⟨(some 51), (some (50, false)), (.mov (.s 10))⟩, ⟨(some 52), (some (50, false)), (.ld (some 2) (.s 9))⟩, ⟨(some 53), (some (50, false)), (.call (.c (.fn (.func n_gazetteerref18_Entry) [] [])) [(.s 52)])⟩, ⟨(some 54), (some (50, false)), (.bin .neq (.s 51) (.s 53))⟩, ⟨(some 55), none, (.pick (.s 50) (.c (.bool true)) (.s 54))⟩]) (.cond (.s 55) (.seq (.reg [⟨(some 6), none, (.mov (.c (.bool false)))⟩]) .ret) .skip))))))) (.reg [⟨(some 56), none, (.bin .add (.s 30) (.c (.int .i64 1)))⟩, ⟨(some 30), none, (.mov (.s 56))⟩]))))))) (.join [] [6, 12, 13, 14, 15, 57, 58, 59, 60, 61, 62, 63, 64, 65, 66, 67, 68, 69, 70, 71, 72, 73, 74, 75, 76, 77, 78, 79, 80, 81, 82, 83, 84, 85, 86, 87, 88, 89, 90, 91, 92, 93, 94, 95, 96, 97] (.seq (.reg [⟨(some 57), none, (.mov (.s 2))⟩, ⟨(some 58), none, (.len .sl (.s 57))⟩, ⟨(some 59), none, (.mov (.c (.int .i64 0)))⟩]) (.block 2 (.loop [59] [6, 12, 13, 14, 15, 59, 60, 61, 62, 63, 64, 65, 66, 67, 68, 69, 70, 71, 72, 73, 74, 75, 76, 77, 78, 79, 80, 81, 82, 83, 84, 85, 86, 87, 88, 89, 90, 91, 92, 93, 94, 95, 96, 97] (.seq (.reg [⟨(some 60), none, (.bin .lss (.s 59) (.s 58))⟩]) (.seq (.cond (.s 60) .skip (.exit 2)) (.seq (.block 3 (.seq (.reg [⟨(some 61), none, (.mov (.s 59))⟩, ⟨(some 62), none, (.idx 1 (.s 57) (.s 59))⟩, ⟨(some 63), none, (.ld none (.s 62))⟩, ⟨(some 12), none, (.mov (.s 61))⟩, ⟨(some 13), none, (.mov (.s 63))⟩]) (.seq (.seq (.reg [⟨(some 64), none, (.mov (.s 12))⟩, ⟨(some 65), none, (.bin .eql (.s 64) (.c (.int .i64 20)))⟩]) (.cond (.s 65) (.exit 2) .skip)) (.seq (.reg [⟨(some 67), none, (.mov (.s 13))⟩, ⟨(some 68), none, (.call (.c (.fn (.func n_vacuum_Spot) [] [])) [(.s 67)])⟩, ⟨(some 66), none, (.mov (.s 68))⟩, ⟨(some 69), none, (.ext 0 (.s 66))⟩, ⟨(some 70), none, (.ext 1 (.s 66))⟩, ⟨(some 14), none, (.alloc [(.int .i64 0), (.int .i64 0)])⟩, ⟨none, none, (.st 2 (.s 14) (.s 69))⟩, ⟨(some 15), none, (.mov (.s 70))⟩]) (.seq (.reg [⟨(some 71), none, (.mov (.s 13))⟩, ⟨(some 72), none, (.bin .lss (.s 71) (.c (.int .u32 1)))⟩, ⟨(some 73), none, (.mov (.s 72))⟩, ⟨(some 74), (some (73, false)), (.mov (.s 13))⟩, ⟨(some 75), (some (73, false)), (.bin .gtr (.s 74) (.c (.int .u32 128)))⟩, ⟨(some 76), none, (.pick (.s 73) (.c (.bool true)) (.s 75))⟩]) (.cond (.s 76) (.seq (.reg [⟨(some 77), none, (.mov (.s 15))⟩, ⟨(some 78), none, (.bin .neq (.s 77) (.c (.int .i64 2)))⟩, ⟨(some 79), none, (.mov (.s 78))⟩, ⟨(some 80), (some (79, false)), (.ld (some 2) (.s 14))⟩, ⟨(some 81), (some (79, false)), (.build [(.int .i64 0), (.int .i64 0)] [])⟩, ⟨(some 82), (some (79, false)), (.eqs true (.flat [.int, .int]) (.s 80) (.s 81))⟩, ⟨(some 83), none, (.pick (.s 79) (.c (.bool true)) (.s 82))⟩]) (.cond (.s 83) (.seq (.reg [⟨(some 6), none, (.mov (.c (.bool false)))⟩]) .ret) .skip)) (.seq (.reg [⟨(some 84), none, (.mov (.s 15))⟩, ⟨(some 85), none, (.bin .neq (.s 84) (.c (.int .i64 0)))⟩, ⟨(some 86), none, (.mov (.s 85))⟩, ⟨(some 87), (some (86, false)), (.ld (some 2) (.s 14))⟩, ⟨(some 88), (some (86, false)), (.call (.c (.fn (.func n_gazetteerref18_Spot) [] [])) [(.s 87)])⟩, ⟨(some 89), (some (86, false)), (.un .not (.s 88))⟩, ⟨(some 90), none, (.pick (.s 86) (.c (.bool true)) (.s 89))⟩, ⟨(some 91), none, (.mov (.s 90))⟩, ⟨(some 92), (some (91, false)), (.ld (some 2) (.s 14))⟩, ⟨(some 93), (some (91, false)), (.call (.c (.fn (.func n_gazetteerref18_Entry) [] [])) [(.s 92)])⟩, ⟨(some 94), (some (91, false)), (.mov (.s 13))⟩, ⟨(some 95), (some (91, false)), (.bin .neq (.s 93) (.s 94))⟩, ⟨(some 96), none, (.pick (.s 91) (.c (.bool true)) (.s 95))⟩]) (.cond (.s 96) (.seq (.reg [⟨(some 6), none, (.mov (.c (.bool false)))⟩]) .ret) .skip)))))))) (.reg [⟨(some 97), none, (.bin .add (.s 59) (.c (.int .i64 1)))⟩, ⟨(some 59), none, (.mov (.s 97))⟩]))))))) (.seq (.reg [⟨(some 99), none, (.mov (.s 0))⟩, ⟨(some 100), none, (.mov (.s 1))⟩, ⟨(some 101), none, (.call (.c (.fn (.func n_vacuum_Batches) [] [])) [(.s 99), (.s 100)])⟩, ⟨(some 98), none, (.mov (.s 101))⟩, ⟨(some 102), none, (.ext 0 (.s 98))⟩, ⟨(some 103), none, (.ext 1 (.s 98))⟩, ⟨(some 16), none, (.mov (.s 102))⟩, ⟨(some 17), none, (.mov (.s 103))⟩]) (.seq (.seq (.reg [⟨(some 104), none, (.mov (.s 1))⟩, ⟨(some 105), none, (.bin .lss (.s 104) (.c (.int .i64 1)))⟩]) (.cond (.s 105) (.seq (.reg [⟨(some 106), none, (.mov (.s 17))⟩, ⟨(some 107), none, (.bin .eql (.s 106) (.c (.int .i64 2)))⟩, ⟨(some 108), none, (.mov (.s 107))⟩, ⟨(some 109), (some (108, true)), (.mov (.s 16))⟩, ⟨(some 110), (some (108, true)), (.len .sl (.s 109))⟩, ⟨(some 111), (some (108, true)), (.bin .eql (.s 110) (.c (.int .i64 0)))⟩, ⟨(some 112), none, (.pick (.s 108) (.s 111) (.c (.bool false)))⟩, ⟨(some 6), none, (.mov (.s 112))⟩]) .ret) .skip)) (.seq (.reg [⟨(some 18), none, (.mov (.c (.sl .nil 0 [] [])))⟩]) (.seq (.seq (.reg [⟨(some 113), none, (.mov (.s 16))⟩, ⟨(some 114), none, (.len .sl (.s 113))⟩, ⟨(some 115), none, (.mov (.c (.int .i64 0)))⟩]) (.block 4 (.loop [18, 115] [6, 18, 19, 20, 21, 115, 116, 117, 118, 119, 120, 121, 122, 123, 124, 125, 126, 127, 128, 129, 130, 131, 132, 133, 134, 135, 136, 137, 138, 139, 140, 141, 142, 143, 144, 145, 146, 147, 148, 149, 150, 151, 152, 153, 154, 155] (.seq (.reg [⟨(some 116), none, (.bin .lss (.s 115) (.s 114))⟩]) (.seq (.cond (.s 116) .skip (.exit 4)) (.seq (.block 5 (.seq (.reg [⟨(some 117), none, (.mov (.s 115))⟩, ⟨(some 118), none, (.idx 1 (.s 113) (.s 115))⟩, ⟨(some 119), none, (.ld none (.s 118))⟩, ⟨(some 19), none, (.mov (.s 117))⟩, ⟨(some 20), none, (.mov (.s 119))⟩]) (.seq (.seq (.reg [⟨(some 120), none, (.mov (.s 20))⟩, ⟨(some 121), none, (.len .sl (.s 120))⟩, ⟨(some 122), none, (.bin .eql (.s 121) (.c (.int .i64 0)))⟩, ⟨(some 123), none, (.mov (.s 122))⟩, ⟨(some 124), (some (123, false)), (.mov (.s 20))⟩, ⟨(some 125), (some (123, false)), (.len .sl (.s 124))⟩, ⟨(some 126), (some (123, false)), (.mov (.s 1))⟩, ⟨(some 127), (some (123, false)), (.bin .gtr (.s 125) (.s 126))⟩, ⟨(some 128), none, (.pick (.s 123) (.c (.bool true)) (.s 127))⟩, ⟨(some 129), none, (.mov (.s 128))⟩, ⟨(some 130), (some (129, false)), (.mov (.s 19))⟩, ⟨(some 131), (some (129, false)), (.bin .add (.s 130) (.c (.int .i64 1)))⟩, ⟨(some 132), (some (129, false)), (.mov (.s 16))⟩, ⟨(some 133), (some (129, false)), (.len .sl (.s 132))⟩, ⟨(some 134), (some (129, false)), (.bin .lss (.s 131) (.s 133))⟩, ⟨(some 135), (some (129, false)), (.mov (.s 134))⟩, ⟨(some 136), (some (135, true)), (.mov (.s 20))⟩, ⟨(some 137), (some (135, true)), (.len .sl (.s 136))⟩, ⟨(some 138), (some (135, true)), (.mov (.s 1))⟩, ⟨(some 139), (some (135, true)), (.bin .neq (.s 137) (.s 138))⟩, ⟨(some 140), (some (129, false)), (.pick (.s 135) (.s 139) (.c (.bool false)))⟩, ⟨(some 141), none, (.pick (.s 129) (.c (.bool true)) (.s 140))⟩]) (.cond (.s 141) (.seq (.reg [⟨(some 6), none, (.mov (.c (.bool false)))⟩]) .ret) .skip)) (.seq (.reg [⟨(some 142), none, (.mov (.s 18))⟩, ⟨(some 143), none, (.mov (.s 20))⟩, ⟨(some 144), none, (.append 2 16 (.s 142) (.s 143))⟩, ⟨(some 18), none, (.mov (.s 144))⟩]) (.seq (.reg [⟨(some 145), none, (.mov (.s 20))⟩, ⟨(some 146), none, (.len .sl (.s 145))⟩, ⟨(some 147), none, (.mov (.c (.int .i64 0)))⟩]) (.block 6 (.loop [147] [21, 147, 148, 149, 150, 151, 152, 153, 154] (.seq (.reg [⟨(some 148), none, (.bin .lss (.s 147) (.s 146))⟩]) (.seq (.cond (.s 148) .skip (.exit 6)) (.seq (.block 7 (.seq (.reg [⟨(some 149), none, (.mov (.s 147))⟩, ⟨(some 21), none, (.mov (.s 149))⟩]) (.reg [⟨(some 150), none, (.mov (.s 20))⟩, ⟨(some 151), none, (.mov (.s 21))⟩, ⟨(some 152), none, (.idx 2 (.s 150) (.s 151))⟩, ⟨(some 153), none, (.fld 0 (.s 152))⟩, ⟨none, none, (.st 1 (.s 153) (.c (.int .i64 99)))⟩]))) (.reg [⟨(some 154), none, (.bin .add (.s 147) (.c (.int .i64 1)))⟩, ⟨(some 147), none, (.mov (.s 154))⟩]))))))))))) (.reg [⟨(some 155), none, (.bin .add (.s 115) (.c (.int .i64 1)))⟩, ⟨(some 115), none, (.mov (.s 155))⟩]))))))) (.seq (.reg [⟨(some 156), none, (.mov (.s 17))⟩, ⟨(some 157), none, (.bin .eql (.s 156) (.c (.int .i64 0)))⟩, ⟨(some 158), none, (.mov (.s 157))⟩, ⟨(some 159), (some (158, true)), (.mov (.s 18))⟩, ⟨(some 160), (some (158, true)), (.mov (.s 7))⟩, ⟨(some 161), (some (158, true)), (.call (.c (.fn (.func n_gazetteerlaw18_same) [] [])) [(.s 159), (.s 160)])⟩, ⟨(some 162), none, (.pick (.s 158) (.s 161) (.c (.bool false)))⟩, ⟨(some 163), none, (.mov (.s 162))⟩, ⟨(some 164), (some (163, true)), (.mov (.s 0))⟩, ⟨(some 165), (some (163, true)), (.mov (.s 7))⟩, ⟨(some 166), (some (163, true)), (.call (.c (.fn (.func n_gazetteerlaw18_same) [] [])) [(.s 164), (.s 165)])⟩, ⟨(some 167), none, (.pick (.s 163) (.s 166) (.c (.bool false)))⟩, ⟨(some 6), none, (.mov (.s 167))⟩]) .ret)))))))))))
def F_gazetteerlaw18_VacuumSpots (P : Program) (a0 a1 a2 : V) (st : St) (K : V → St → Prop) : Prop :=
  @stp P (.call (.c (.fn (.func n_gazetteerlaw18_wakes) [] [])) []) st ⟨fun v22 st =>
  @stp P (.un .not (.c v22)) st ⟨fun v23 st =>
  @cnd v23 ⟨
    GhostV [(.bool false)] st fun vs st => K (mkres vs) st⟩
  ⟨
    @stp P (.call (.c (.fn (.func n_gazetteerlaw18_spots) [] [])) [(.c a0)]) st ⟨fun v25 st =>
    @stp P (.call (.c (.fn (.func n_gazetteerlaw18_spots) [] [])) [(.c v25)]) st ⟨fun v27 st =>
    @stp P (.len .sl (.c v25)) st ⟨fun v29 st =>
    @Hold ⟨∃ I1 : Nat → Rel 1, (∃ k, GhostV [(.int .i64 0)] st (app (I1 k))) ∧ ∀ k1 v30, ∀ st, app (I1 k1) [v30] st →
      @stp P (.bin .lss (.c v30) (.c v29)) st ⟨fun v31 st =>
      @cnd v31 ⟨
        @stp P (.idx 2 (.c v25) (.c v30)) st ⟨fun v32 st =>
        @stp P (.ld (some 2) (.c v32)) st ⟨fun v33 st =>
        @stp P (.alloc [(.int .i64 0), (.int .i64 0)]) st ⟨fun v9 st =>
        @stp P (.st 2 (.c v9) (.c v33)) st ⟨fun _v st =>
        @stp P (.ld (some 2) (.c v9)) st ⟨fun v35 st =>
        @stp P (.call (.c (.fn (.func n_vacuum_Entry) [] [])) [(.c v35)]) st ⟨fun v36 st =>
        @stp P (.ext 0 (.c v36)) st ⟨fun v37 st =>
        @stp P (.ext 1 (.c v36)) st ⟨fun v38 st =>
        @stp P (.ld (some 2) (.c v9)) st ⟨fun v39 st =>
        @stp P (.call (.c (.fn (.func n_gazetteerref18_Spot) [] [])) [(.c v39)]) st ⟨fun v40 st =>
        @stp P (.un .not (.c v40)) st ⟨fun v41 st =>
        @cnd v41 ⟨
          @stp P (.bin .neq (.c v38) (.c (.int .i64 2))) st ⟨fun v43 st =>
          @gst P v43 false (.mov (.c v37)) st ⟨fun v45 st =>
          @gst P v43 false (.bin .neq (.c v45) (.c (.int .u32 0))) st ⟨fun v46 st =>
          @stp P (.pick (.c v43) (.c (.bool true)) (.c v46)) st ⟨fun v47 st =>
          @cnd v47 ⟨
            GhostV [(.bool false)] st fun vs st => K (mkres vs) st⟩
          ⟨
            @stp P (.bin .add (.c v30) (.c (.int .i64 1))) st ⟨fun v56 st =>
            ∃ j, j < k1 ∧ GhostV [v56] st (app (I1 j))⟩⟩⟩⟩⟩⟩⟩
        ⟨
          @stp P (.bin .neq (.c v38) (.c (.int .i64 0))) st ⟨fun v49 st =>
          @gst P v49 false (.mov (.c v37)) st ⟨fun v51 st =>
          @gst P v49 false (.ld (some 2) (.c v9)) st ⟨fun v52 st =>
          @gst P v49 false (.call (.c (.fn (.func n_gazetteerref18_Entry) [] [])) [(.c v52)]) st ⟨fun v53 st =>
          @gst P v49 false (.bin .neq (.c v51) (.c v53)) st ⟨fun v54 st =>
          @stp P (.pick (.c v49) (.c (.bool true)) (.c v54)) st ⟨fun v55 st =>
          @cnd v55 ⟨
            GhostV [(.bool false)] st fun vs st => K (mkres vs) st⟩
          ⟨
            @stp P (.bin .add (.c v30) (.c (.int .i64 1))) st ⟨fun v56 st =>
            ∃ j, j < k1 ∧ GhostV [v56] st (app (I1 j))⟩⟩⟩⟩⟩⟩⟩⟩⟩⟩⟩⟩⟩⟩⟩⟩⟩⟩⟩⟩⟩
      ⟨
        @Hold ⟨∃ J2 : Rel 0, (
          @stp P (.len .sl (.c a2)) st ⟨fun v58 st =>
          @Hold ⟨∃ I3 : Nat → Rel 1, (∃ k, GhostV [(.int .i64 0)] st (app (I3 k))) ∧ ∀ k3 v59, ∀ st, app (I3 k3) [v59] st →
            @stp P (.bin .lss (.c v59) (.c v58)) st ⟨fun v60 st =>
            @cnd v60 ⟨
              @stp P (.idx 1 (.c a2) (.c v59)) st ⟨fun v62 st =>
              @stp P (.ld none (.c v62)) st ⟨fun v63 st =>
              @stp P (.bin .eql (.c v59) (.c (.int .i64 20))) st ⟨fun v65 st =>
              @cnd v65 ⟨
                GhostV [] st (app J2)⟩
              ⟨
                @stp P (.call (.c (.fn (.func n_vacuum_Spot) [] [])) [(.c v63)]) st ⟨fun v68 st =>
                @stp P (.ext 0 (.c v68)) st ⟨fun v69 st =>
                @stp P (.ext 1 (.c v68)) st ⟨fun v70 st =>
                @stp P (.alloc [(.int .i64 0), (.int .i64 0)]) st ⟨fun v14 st =>
                @stp P (.st 2 (.c v14) (.c v69)) st ⟨fun _v st =>
                @stp P (.bin .lss (.c v63) (.c (.int .u32 1))) st ⟨fun v72 st =>
                @gst P v72 false (.mov (.c v63)) st ⟨fun v74 st =>
                @gst P v72 false (.bin .gtr (.c v74) (.c (.int .u32 128))) st ⟨fun v75 st =>
                @stp P (.pick (.c v72) (.c (.bool true)) (.c v75)) st ⟨fun v76 st =>
                @cnd v76 ⟨
                  @stp P (.bin .neq (.c v70) (.c (.int .i64 2))) st ⟨fun v78 st =>
                  @gst P v78 false (.ld (some 2) (.c v14)) st ⟨fun v80 st =>
                  @gst P v78 false (.build [(.int .i64 0), (.int .i64 0)] []) st ⟨fun v81 st =>
                  @gst P v78 false (.eqs true (.flat [.int, .int]) (.c v80) (.c v81)) st ⟨fun v82 st =>
                  @stp P (.pick (.c v78) (.c (.bool true)) (.c v82)) st ⟨fun v83 st =>
                  @cnd v83 ⟨
                    GhostV [(.bool false)] st fun vs st => K (mkres vs) st⟩
                  ⟨
                    @stp P (.bin .add (.c v59) (.c (.int .i64 1))) st ⟨fun v97 st =>
                    ∃ j, j < k3 ∧ GhostV [v97] st (app (I3 j))⟩⟩⟩⟩⟩⟩⟩⟩
                ⟨
                  @stp P (.bin .neq (.c v70) (.c (.int .i64 0))) st ⟨fun v85 st =>
                  @gst P v85 false (.ld (some 2) (.c v14)) st ⟨fun v87 st =>
                  @gst P v85 false (.call (.c (.fn (.func n_gazetteerref18_Spot) [] [])) [(.c v87)]) st ⟨fun v88 st =>
                  @gst P v85 false (.un .not (.c v88)) st ⟨fun v89 st =>
                  @stp P (.pick (.c v85) (.c (.bool true)) (.c v89)) st ⟨fun v90 st =>
                  @gst P v90 false (.ld (some 2) (.c v14)) st ⟨fun v92 st =>
                  @gst P v90 false (.call (.c (.fn (.func n_gazetteerref18_Entry) [] [])) [(.c v92)]) st ⟨fun v93 st =>
                  @gst P v90 false (.mov (.c v63)) st ⟨fun v94 st =>
                  @gst P v90 false (.bin .neq (.c v93) (.c v94)) st ⟨fun v95 st =>
                  @stp P (.pick (.c v90) (.c (.bool true)) (.c v95)) st ⟨fun v96 st =>
                  @cnd v96 ⟨
                    GhostV [(.bool false)] st fun vs st => K (mkres vs) st⟩
                  ⟨
                    @stp P (.bin .add (.c v59) (.c (.int .i64 1))) st ⟨fun v97 st =>
                    ∃ j, j < k3 ∧ GhostV [v97] st (app (I3 j))⟩⟩⟩⟩⟩⟩⟩⟩⟩⟩⟩⟩⟩⟩⟩⟩⟩⟩⟩⟩⟩⟩⟩⟩⟩⟩⟩
            ⟨
              GhostV [] st (app J2)⟩⟩⟩⟩) ∧
        ∀ st, app J2 [] st →
          @stp P (.call (.c (.fn (.func n_vacuum_Batches) [] [])) [(.c v25), (.c a1)]) st ⟨fun v101 st =>
          @stp P (.ext 0 (.c v101)) st ⟨fun v102 st =>
          @stp P (.ext 1 (.c v101)) st ⟨fun v103 st =>
          @stp P (.bin .lss (.c a1) (.c (.int .i64 1))) st ⟨fun v105 st =>
          @cnd v105 ⟨
            @stp P (.bin .eql (.c v103) (.c (.int .i64 2))) st ⟨fun v107 st =>
            @gst P v107 true (.mov (.c v102)) st ⟨fun v109 st =>
            @gst P v107 true (.len .sl (.c v109)) st ⟨fun v110 st =>
            @gst P v107 true (.bin .eql (.c v110) (.c (.int .i64 0))) st ⟨fun v111 st =>
            @stp P (.pick (.c v107) (.c v111) (.c (.bool false))) st ⟨fun v112 st =>
            GhostV [v112] st fun vs st => K (mkres vs) st⟩⟩⟩⟩⟩⟩
          ⟨
            @stp P (.len .sl (.c v102)) st ⟨fun v114 st =>
            @Hold ⟨∃ I4 : Nat → Rel 2, (∃ k, GhostV [(.sl .nil 0 [] []), (.int .i64 0)] st (app (I4 k))) ∧ ∀ k4 v18 v115, ∀ st, app (I4 k4) [v18, v115] st →
              @stp P (.bin .lss (.c v115) (.c v114)) st ⟨fun v116 st =>
              @cnd v116 ⟨
                @stp P (.idx 1 (.c v102) (.c v115)) st ⟨fun v118 st =>
                @stp P (.ld none (.c v118)) st ⟨fun v119 st =>
                @stp P (.len .sl (.c v119)) st ⟨fun v121 st =>
                @stp P (.bin .eql (.c v121) (.c (.int .i64 0))) st ⟨fun v122 st =>
                @gst P v122 false (.mov (.c v119)) st ⟨fun v124 st =>
                @gst P v122 false (.len .sl (.c v124)) st ⟨fun v125 st =>
                @gst P v122 false (.mov (.c a1)) st ⟨fun v126 st =>
                @gst P v122 false (.bin .gtr (.c v125) (.c v126)) st ⟨fun v127 st =>
                @stp P (.pick (.c v122) (.c (.bool true)) (.c v127)) st ⟨fun v128 st =>
                @gst P v128 false (.mov (.c v115)) st ⟨fun v130 st =>
                @gst P v128 false (.bin .add (.c v130) (.c (.int .i64 1))) st ⟨fun v131 st =>
                @gst P v128 false (.mov (.c v102)) st ⟨fun v132 st =>
                @gst P v128 false (.len .sl (.c v132)) st ⟨fun v133 st =>
                @gst P v128 false (.bin .lss (.c v131) (.c v133)) st ⟨fun v134 st =>
                @gst P v128 false (.mov (.c v134)) st ⟨fun v135 st =>
                @gst P v135 true (.mov (.c v119)) st ⟨fun v136 st =>
                @gst P v135 true (.len .sl (.c v136)) st ⟨fun v137 st =>
                @gst P v135 true (.mov (.c a1)) st ⟨fun v138 st =>
                @gst P v135 true (.bin .neq (.c v137) (.c v138)) st ⟨fun v139 st =>
                @gst P v128 false (.pick (.c v135) (.c v139) (.c (.bool false))) st ⟨fun v140 st =>
                @stp P (.pick (.c v128) (.c (.bool true)) (.c v140)) st ⟨fun v141 st =>
                @cnd v141 ⟨
                  GhostV [(.bool false)] st fun vs st => K (mkres vs) st⟩
                ⟨
                  @stp P (.append 2 16 (.c v18) (.c v119)) st ⟨fun v144 st =>
                  @stp P (.len .sl (.c v119)) st ⟨fun v146 st =>
                  @Hold ⟨∃ I5 : Nat → Rel 1, (∃ k, GhostV [(.int .i64 0)] st (app (I5 k))) ∧ ∀ k5 v147, ∀ st, app (I5 k5) [v147] st →
                    @stp P (.bin .lss (.c v147) (.c v146)) st ⟨fun v148 st =>
                    @cnd v148 ⟨
                      @stp P (.idx 2 (.c v119) (.c v147)) st ⟨fun v152 st =>
                      @stp P (.fld 0 (.c v152)) st ⟨fun v153 st =>
                      @stp P (.st 1 (.c v153) (.c (.int .i64 99))) st ⟨fun _v st =>
                      @stp P (.bin .add (.c v147) (.c (.int .i64 1))) st ⟨fun v154 st =>
                      ∃ j, j < k5 ∧ GhostV [v154] st (app (I5 j))⟩⟩⟩⟩⟩
                    ⟨
                      @stp P (.bin .add (.c v115) (.c (.int .i64 1))) st ⟨fun v155 st =>
                      ∃ j, j < k4 ∧ GhostV [v144, v155] st (app (I4 j))⟩⟩⟩⟩⟩⟩⟩⟩⟩⟩⟩⟩⟩⟩⟩⟩⟩⟩⟩⟩⟩⟩⟩⟩⟩⟩⟩⟩⟩
              ⟨
                @stp P (.bin .eql (.c v103) (.c (.int .i64 0))) st ⟨fun v157 st =>
                @gst P v157 true (.mov (.c v18)) st ⟨fun v159 st =>
                @gst P v157 true (.mov (.c v27)) st ⟨fun v160 st =>
                @gst P v157 true (.call (.c (.fn (.func n_gazetteerlaw18_same) [] [])) [(.c v159), (.c v160)]) st ⟨fun v161 st =>
                @stp P (.pick (.c v157) (.c v161) (.c (.bool false))) st ⟨fun v162 st =>
                @gst P v162 true (.mov (.c v25)) st ⟨fun v164 st =>
                @gst P v162 true (.mov (.c v27)) st ⟨fun v165 st =>
                @gst P v162 true (.call (.c (.fn (.func n_gazetteerlaw18_same) [] [])) [(.c v164), (.c v165)]) st ⟨fun v166 st =>
                @stp P (.pick (.c v162) (.c v166) (.c (.bool false))) st ⟨fun v167 st =>
                GhostV [v167] st fun vs st => K (mkres vs) st⟩⟩⟩⟩⟩⟩⟩⟩⟩⟩⟩⟩⟩⟩⟩⟩⟩⟩⟩⟩⟩⟩⟩⟩⟩⟩⟩⟩
theorem q_gazetteerlaw18_VacuumSpots {P : Program} {a0 a1 a2 : V} {st : St} {K : V → St → Prop} : F_gazetteerlaw18_VacuumSpots P a0 a1 a2 st K = hwp P c_gazetteerlaw18_VacuumSpots (hretQ [.tmp 6] K) (enterFr [a0, a1, a2]) st := by kernel_rfl
abbrev R_gazetteerlaw18_VacuumSpots (P : Program) : Prop := resFnH P n_gazetteerlaw18_VacuumSpots = some (168, c_gazetteerlaw18_VacuumSpots.er, [.tmp 6])
theorem A_gazetteerlaw18_VacuumSpots {P : Program} (h : R_gazetteerlaw18_VacuumSpots P) {a0 a1 a2 : V} {st : St} {K : V → St → Prop} (hF : F_gazetteerlaw18_VacuumSpots P a0 a1 a2 st K) : ACalls P n_gazetteerlaw18_VacuumSpots [a0, a1, a2] st K :=
  ACalls_h h rfl (by simp) (q_gazetteerlaw18_VacuumSpots ▸ hF)

def c_gazetteerlaw18_spots : ACode := (.seq (.reg [⟨(some 2), none, (.mov (.c (.sl .nil 0 [] [])))⟩]) (.seq (.reg [⟨(some 3), none, (.mkSl 2 0 [(.int .i64 0), (.int .i64 0)] [])⟩, ⟨(some 4), none, (.mov (.s 0))⟩, ⟨(some 5), none, (.mov (.s 0))⟩, ⟨(some 6), none, (.len .sl (.s 5))⟩, ⟨(some 7), none, (.minmax false (.s 6) [(.c (.int .i64 130))])⟩, ⟨(some 8), none, (.slice 2 (.s 4) none (some (.s 7)) none)⟩, ⟨(some 9), none, (.append 2 16 (.s 3) (.s 8))⟩, ⟨(some 2), none, (.mov (.s 9))⟩]) .ret))
def F_gazetteerlaw18_spots (P : Program) (a0 : V) (st : St) (K : V → St → Prop) : Prop :=
  @stp P (.mkSl 2 0 [(.int .i64 0), (.int .i64 0)] []) st ⟨fun v3 st =>
  @stp P (.len .sl (.c a0)) st ⟨fun v6 st =>
  @stp P (.minmax false (.c v6) [(.c (.int .i64 130))]) st ⟨fun v7 st =>
  @stp P (.slice 2 (.c a0) none (some (.c v7)) none) st ⟨fun v8 st =>
  @stp P (.append 2 16 (.c v3) (.c v8)) st ⟨fun v9 st =>
  GhostV [v9] st fun vs st => K (mkres vs) st⟩⟩⟩⟩⟩
theorem q_gazetteerlaw18_spots {P : Program} {a0 : V} {st : St} {K : V → St → Prop} : F_gazetteerlaw18_spots P a0 st K = hwp P c_gazetteerlaw18_spots (hretQ [.tmp 2] K) (enterFr [a0]) st := by kernel_rfl
abbrev R_gazetteerlaw18_spots (P : Program) : Prop := resFnH P n_gazetteerlaw18_spots = some (10, c_gazetteerlaw18_spots.er, [.tmp 2])
theorem A_gazetteerlaw18_spots {P : Program} (h : R_gazetteerlaw18_spots P) {a0 : V} {st : St} {K : V → St → Prop} (hF : F_gazetteerlaw18_spots P a0 st K) : ACalls P n_gazetteerlaw18_spots [a0] st K :=
  ACalls_h h rfl (by simp) (q_gazetteerlaw18_spots ▸ hF)

def c_gazetteerref18_Spot : ACode := (.seq (.reg [⟨(some 1), none, (.box (.s 0))⟩, ⟨(some 2), none, (.mov (.c (.bool false)))⟩]) (.seq (.reg [⟨(some 3), none, (.fld 0 (.s 1))⟩, ⟨(some 4), none, (.ld none (.s 3))⟩, ⟨(some 5), none, (.bin .geq (.s 4) (.c (.int .i64 0)))⟩, ⟨(some 6), none, (.mov (.s 5))⟩, ⟨(some 7), (some (6, true)), (.fld 0 (.s 1))⟩, ⟨(some 8), (some (6, true)), (.ld none (.s 7))⟩, ⟨(some 9), (some (6, true)), (.bin .lss (.s 8) (.c (.int .i64 32)))⟩, ⟨(some 10), none, (.pick (.s 6) (.s 9) (.c (.bool false)))⟩, ⟨(some 11), none, (.mov (.s 10))⟩, ⟨(some 12), (some (11, true)), (.fld 1 (.s 1))⟩, ⟨(some 13), (some (11, true)), (.ld none (.s 12))⟩, ⟨(some 14), (some (11, true)), (.bin .geq (.s 13) (.c (.int .i64 0)))⟩, ⟨(some 15), none, (.pick (.s 11) (.s 14) (.c (.bool false)))⟩, ⟨(some 16), none, (.mov (.s 15))⟩, ⟨(some 17), (some (16, true)), (.fld 1 (.s 1))⟩, ⟨(some 18), (some (16, true)), (.ld none (.s 17))⟩, ⟨(some 19), (some (16, true)), (.bin .lss (.s 18) (.c (.int .i64 4)))⟩, ⟨(some 20), none, (.pick (.s 16) (.s 19) (.c (.bool false)))⟩, ⟨(some 2), none, (.mov (.s 20))⟩]) .ret))
def F_gazetteerref18_Spot (P : Program) (a0 : V) (st : St) (K : V → St → Prop) : Prop :=
  @stp P (.box (.c a0)) st ⟨fun v1 st =>
  @stp P (.fld 0 (.c v1)) st ⟨fun v3 st =>
  @stp P (.ld none (.c v3)) st ⟨fun v4 st =>
  @stp P (.bin .geq (.c v4) (.c (.int .i64 0))) st ⟨fun v5 st =>
  @gst P v5 true (.fld 0 (.c v1)) st ⟨fun v7 st =>
  @gst P v5 true (.ld none (.c v7)) st ⟨fun v8 st =>
  @gst P v5 true (.bin .lss (.c v8) (.c (.int .i64 32))) st ⟨fun v9 st =>
  @stp P (.pick (.c v5) (.c v9) (.c (.bool false))) st ⟨fun v10 st =>
  @gst P v10 true (.fld 1 (.c v1)) st ⟨fun v12 st =>
  @gst P v10 true (.ld none (.c v12)) st ⟨fun v13 st =>
  @gst P v10 true (.bin .geq (.c v13) (.c (.int .i64 0))) st ⟨fun v14 st =>
  @stp P (.pick (.c v10) (.c v14) (.c (.bool false))) st ⟨fun v15 st =>
  @gst P v15 true (.fld 1 (.c v1)) st ⟨fun v17 st =>
  @gst P v15 true (.ld none (.c v17)) st ⟨fun v18 st =>
  @gst P v15 true (.bin .lss (.c v18) (.c (.int .i64 4))) st ⟨fun v19 st =>
  @stp P (.pick (.c v15) (.c v19) (.c (.bool false))) st ⟨fun v20 st =>
  GhostV [v20] st fun vs st => K (mkres vs) st⟩⟩⟩⟩⟩⟩⟩⟩⟩⟩⟩⟩⟩⟩⟩⟩
theorem q_gazetteerref18_Spot {P : Program} {a0 : V} {st : St} {K : V → St → Prop} : F_gazetteerref18_Spot P a0 st K = hwp P c_gazetteerref18_Spot (hretQ [.tmp 2] K) (enterFr [a0]) st := by kernel_rfl
abbrev R_gazetteerref18_Spot (P : Program) : Prop := resFnH P n_gazetteerref18_Spot = some (21, c_gazetteerref18_Spot.er, [.tmp 2])
theorem A_gazetteerref18_Spot {P : Program} (h : R_gazetteerref18_Spot P) {a0 : V} {st : St} {K : V → St → Prop} (hF : F_gazetteerref18_Spot P a0 st K) : ACalls P n_gazetteerref18_Spot [a0] st K :=
  ACalls_h h rfl (by simp) (q_gazetteerref18_Spot ▸ hF)

def c_gazetteerref18_Entry : ACode := (.seq (.reg [⟨(some 1), none, (.box (.s 0))⟩, ⟨(some 2), none, (.mov (.c (.int .u32 0)))⟩]) (.seq (.reg [⟨(some 3), none, (.fld 0 (.s 1))⟩, ⟨(some 4), none, (.ld none (.s 3))⟩, ⟨(some 5), none, (.bin .mul (.c (.int .i64 4)) (.s 4))⟩, ⟨(some 6), none, (.fld 1 (.s 1))⟩, ⟨(some 7), none, (.ld none (.s 6))⟩, ⟨(some 8), none, (.bin .add (.s 5) (.s 7))⟩, ⟨(some 9), none, (.bin .add (.s 8) (.c (.int .i64 1)))⟩, ⟨(some 10), none, (.conv .u32 (.s 9))⟩, ⟨(some 2), none, (.mov (.s 10))⟩]) .ret))
def F_gazetteerref18_Entry (P : Program) (a0 : V) (st : St) (K : V → St → Prop) : Prop :=
  @stp P (.box (.c a0)) st ⟨fun v1 st =>
  @stp P (.fld 0 (.c v1)) st ⟨fun v3 st =>
  @stp P (.ld none (.c v3)) st ⟨fun v4 st =>
  @stp P (.bin .mul (.c (.int .i64 4)) (.c v4)) st ⟨fun v5 st =>
  @stp P (.fld 1 (.c v1)) st ⟨fun v6 st =>
  @stp P (.ld none (.c v6)) st ⟨fun v7 st =>
  @stp P (.bin .add (.c v5) (.c v7)) st ⟨fun v8 st =>
  @stp P (.bin .add (.c v8) (.c (.int .i64 1))) st ⟨fun v9 st =>
  @stp P (.conv .u32 (.c v9)) st ⟨fun v10 st =>
  GhostV [v10] st fun vs st => K (mkres vs) st⟩⟩⟩⟩⟩⟩⟩⟩⟩
theorem q_gazetteerref18_Entry {P : Program} {a0 : V} {st : St} {K : V → St → Prop} : F_gazetteerref18_Entry P a0 st K = hwp P c_gazetteerref18_Entry (hretQ [.tmp 2] K) (enterFr [a0]) st := by kernel_rfl
abbrev R_gazetteerref18_Entry (P : Program) : Prop := resFnH P n_gazetteerref18_Entry = some (11, c_gazetteerref18_Entry.er, [.tmp 2])
theorem A_gazetteerref18_Entry {P : Program} (h : R_gazetteerref18_Entry P) {a0 : V} {st : St} {K : V → St → Prop} (hF : F_gazetteerref18_Entry P a0 st K) : ACalls P n_gazetteerref18_Entry [a0] st K :=
  ACalls_h h rfl (by simp) (q_gazetteerref18_Entry ▸ hF)

def c_vacuum_Batches : ACode := (.seq (.reg [⟨(some 4), none, (.mov (.c (.sl .nil 0 [] [])))⟩, ⟨(some 5), none, (.mov (.c (.int .i64 0)))⟩]) (.seq (.seq (.reg [⟨(some 9), none, (.mov (.s 1))⟩, ⟨(some 10), none, (.bin .lss (.s 9) (.c (.int .i64 1)))⟩]) (.cond (.s 10) (.seq (.reg [⟨(some 4), none, (.mov (.c (.sl .nil 0 [] [])))⟩, ⟨(some 5), none, (.mov (.c (.int .i64 2)))⟩]) .ret) .skip)) (.seq (.reg [⟨(some 6), none, (.mov (.c (.sl .nil 0 [] [])))⟩]) (.seq (.seq (.reg [⟨(some 11), none, (.mov (.s 0))⟩, ⟨(some 7), none, (.mov (.s 11))⟩]) (.block 0 (.loop [6, 7] [6, 7, 8, 12, 13, 14, 15, 16, 17, 18, 19, 20, 21, 22, 23, 24, 25, 26, 27, 28, 29] (.seq (.seq (.reg [⟨(some 12), none, (.mov (.s 7))⟩, ⟨(some 13), none, (.len .sl (.s 12))⟩, ⟨(some 14), none, (.bin .gtr (.s 13) (.c (.int .i64 0)))⟩]) (.cond (.s 14) .skip (.exit 0))) (.block 1 (.seq (.reg [⟨(some 15), none, (.mov (.s 1))⟩, ⟨(some 16), none, (.mov (.s 7))⟩, ⟨(some 17), none, (.len .sl (.s 16))⟩, ⟨(some 18), none, (.minmax false (.s 15) [(.s 17)])⟩, ⟨(some 8), none, (.mov (.s 18))⟩]) (.seq (.reg [⟨(some 19), none, (.mov (.s 6))⟩, ⟨(some 20), none, (.mov (.s 7))⟩, ⟨(some 21), none, (.mov (.s 8))⟩, ⟨(some 22), none, (.mov (.s 8))⟩, ⟨(some 23), none, (.slice 2 (.s 20) none (some (.s 21)) (some (.s 22)))⟩, ⟨(some 24), none, (.call (.c (.fn (.func n_slices_Clone_Spot_Spot) [] [])) [(.s 23)])⟩, ⟨(some 25), none, (.mkSl 1 1 [(.sl .nil 0 [] [])] [(0, (.s 24))])⟩, ⟨(some 26), none, (.append 1 24 (.s 19) (.s 25))⟩, ⟨(some 6), none, (.mov (.s 26))⟩]) (.reg [⟨(some 27), none, (.mov (.s 7))⟩, ⟨(some 28), none, (.mov (.s 8))⟩, ⟨(some 29), none, (.slice 2 (.s 27) (some (.s 28)) none none)⟩, ⟨(some 7), none, (.mov (.s 29))⟩])))))))) (.seq (.reg [⟨(some 30), none, (.mov (.s 6))⟩, ⟨(some 4), none, (.mov (.s 30))⟩, ⟨(some 5), none, (.mov (.c (.int .i64 0)))⟩]) .ret)))))
def F_vacuum_Batches (P : Program) (a0 a1 : V) (st : St) (K : V → St → Prop) : Prop :=
  @stp P (.bin .lss (.c a1) (.c (.int .i64 1))) st ⟨fun v10 st =>
  @cnd v10 ⟨
    GhostV [(.sl .nil 0 [] []), (.int .i64 2)] st fun vs st => K (mkres vs) st⟩
  ⟨
    @Hold ⟨∃ I1 : Nat → Rel 2, (∃ k, GhostV [(.sl .nil 0 [] []), a0] st (app (I1 k))) ∧ ∀ k1 v6 v7, ∀ st, app (I1 k1) [v6, v7] st →
      @stp P (.len .sl (.c v7)) st ⟨fun v13 st =>
      @stp P (.bin .gtr (.c v13) (.c (.int .i64 0))) st ⟨fun v14 st =>
      @cnd v14 ⟨
        @stp P (.len .sl (.c v7)) st ⟨fun v17 st =>
        @stp P (.minmax false (.c a1) [(.c v17)]) st ⟨fun v18 st =>
        @stp P (.slice 2 (.c v7) none (some (.c v18)) (some (.c v18))) st ⟨fun v23 st =>
        @stp P (.call (.c (.fn (.func n_slices_Clone_Spot_Spot) [] [])) [(.c v23)]) st ⟨fun v24 st =>
        @stp P (.mkSl 1 1 [(.sl .nil 0 [] [])] [(0, (.c v24))]) st ⟨fun v25 st =>
        @stp P (.append 1 24 (.c v6) (.c v25)) st ⟨fun v26 st =>
        @stp P (.slice 2 (.c v7) (some (.c v18)) none none) st ⟨fun v29 st =>
        ∃ j, j < k1 ∧ GhostV [v26, v29] st (app (I1 j))⟩⟩⟩⟩⟩⟩⟩⟩
      ⟨
        GhostV [v6, (.int .i64 0)] st fun vs st => K (mkres vs) st⟩⟩⟩⟩⟩⟩
theorem q_vacuum_Batches {P : Program} {a0 a1 : V} {st : St} {K : V → St → Prop} : F_vacuum_Batches P a0 a1 st K = hwp P c_vacuum_Batches (hretQ [.tmp 4, .tmp 5] K) (enterFr [a0, a1]) st := by kernel_rfl
abbrev R_vacuum_Batches (P : Program) : Prop := resFnH P n_vacuum_Batches = some (31, c_vacuum_Batches.er, [.tmp 4, .tmp 5])
theorem A_vacuum_Batches {P : Program} (h : R_vacuum_Batches P) {a0 a1 : V} {st : St} {K : V → St → Prop} (hF : F_vacuum_Batches P a0 a1 st K) : ACalls P n_vacuum_Batches [a0, a1] st K :=
  ACalls_h h rfl (by simp) (q_vacuum_Batches ▸ hF)

def c_slices_Clone_Spot_Spot : ACode := (.seq (.reg [⟨(some 2), none, (.mov (.c (.sl .nil 0 [] [])))⟩]) (.seq (.seq (.reg [⟨(some 3), none, (.mov (.s 0))⟩, ⟨(some 4), none, (.eqs false .sl (.s 3) (.c (.sl .nil 0 [] [])))⟩]) (.cond (.s 4) (.seq (.reg [⟨(some 2), none, (.mov (.c (.sl .nil 0 [] [])))⟩]) .ret) .skip)) (.seq (.reg [⟨(some 5), none, (.mkSl 2 0 [(.int .i64 0), (.int .i64 0)] [])⟩, ⟨(some 6), none, (.mov (.s 0))⟩, ⟨(some 7), none, (.append 2 16 (.s 5) (.s 6))⟩, ⟨(some 2), none, (.mov (.s 7))⟩]) .ret)))
def F_slices_Clone_Spot_Spot (P : Program) (a0 : V) (st : St) (K : V → St → Prop) : Prop :=
  @stp P (.eqs false .sl (.c a0) (.c (.sl .nil 0 [] []))) st ⟨fun v4 st =>
  @cnd v4 ⟨
    GhostV [(.sl .nil 0 [] [])] st fun vs st => K (mkres vs) st⟩
  ⟨
    @stp P (.mkSl 2 0 [(.int .i64 0), (.int .i64 0)] []) st ⟨fun v5 st =>
    @stp P (.append 2 16 (.c v5) (.c a0)) st ⟨fun v7 st =>
    GhostV [v7] st fun vs st => K (mkres vs) st⟩⟩⟩⟩
theorem q_slices_Clone_Spot_Spot {P : Program} {a0 : V} {st : St} {K : V → St → Prop} : F_slices_Clone_Spot_Spot P a0 st K = hwp P c_slices_Clone_Spot_Spot (hretQ [.tmp 2] K) (enterFr [a0]) st := by kernel_rfl
abbrev R_slices_Clone_Spot_Spot (P : Program) : Prop := resFnH P n_slices_Clone_Spot_Spot = some (8, c_slices_Clone_Spot_Spot.er, [.tmp 2])
theorem A_slices_Clone_Spot_Spot {P : Program} (h : R_slices_Clone_Spot_Spot P) {a0 : V} {st : St} {K : V → St → Prop} (hF : F_slices_Clone_Spot_Spot P a0 st K) : ACalls P n_slices_Clone_Spot_Spot [a0] st K :=
  ACalls_h h rfl (by simp) (q_slices_Clone_Spot_Spot ▸ hF)

end Go.Proofs.Ytmgkjbphlbpbfaa.AM
