import Derived.Test.YtmgkjbphlbpbfaaVCode2
import Derived.KernelRfl
namespace Go.Proofs.Ytmgkjbphlbpbfaa.AM
open Go
set_option linter.unusedVariables false

def c_gazetteerlaw18_VacuumSeen : ACode := (.seq (.reg [⟨(some 3), none, (.box (.s 0))⟩, ⟨(some 5), none, (.box (.s 2))⟩, ⟨(some 6), none, (.mov (.c (.bool false)))⟩]) (.seq (.seq (.reg [⟨(some 19), none, (.call (.c (.fn (.func n_gazetteerlaw18_wakes) [] [])) [])⟩, ⟨(some 20), none, (.un .not (.s 19))⟩]) (.cond (.s 20) (.seq (.reg [⟨(some 6), none, (.mov (.c (.bool false)))⟩]) .ret) .skip)) (.seq (.reg [⟨(some 21), none, (.ld (some 2) (.s 3))⟩, ⟨(some 22), none, (.call (.c (.fn (.func n_gazetteerlaw18_fates) [] [])) [(.s 21)])⟩, ⟨(some 23), none, (.mov (.s 1))⟩, ⟨(some 24), none, (.call (.c (.fn (.func n_gazetteerlaw18_items) [] [])) [(.s 23)])⟩, ⟨none, none, (.st 2 (.s 3) (.s 22))⟩, ⟨(some 1), none, (.mov (.s 24))⟩]) (.seq (.reg [⟨(some 25), none, .mkmap⟩, ⟨(some 7), none, (.mov (.s 25))⟩]) (.seq (.seq (.reg [⟨(some 26), none, (.mov (.s 1))⟩, ⟨(some 27), none, (.len .sl (.s 26))⟩, ⟨(some 28), none, (.mov (.c (.int .i64 0)))⟩]) (.block 0 (.loop [28] [6, 9, 28, 29, 30, 31, 32, 33, 34, 35, 36, 37, 38, 39] (.seq (.reg [⟨(some 29), none, (.bin .lss (.s 28) (.s 27))⟩]) (.seq (.cond (.s 29) .skip (.exit 0)) (.seq (.block 1 (.seq (.reg [⟨(some 30), none, (.idx 10 (.s 26) (.s 28))⟩, ⟨(some 31), none, (.ld (some 10) (.s 30))⟩, ⟨(some 9), none, (.alloc [(.int .i64 0), (.int .i64 0), (.int .u32 0), (.int .u64 0), (.int .u64 0), (.int .i64 0), (.int .i64 0), (.int .i64 0), (.int .i64 0), (.int .i64 0)])⟩, ⟨none, none, (.st 10 (.s 9) (.s 31))⟩]) (.seq (.seq (.reg [⟨(some 32), none, (.mov (.s 7))⟩, ⟨(some 33), none, (.fld 0 (.s 9))⟩, ⟨(some 34), none, (.ld (some 2) (.s 33))⟩, ⟨(some 35), none, (.lookup (.many [.int, .int]) (.bool false) false (.s 32) (.s 34))⟩]) (.cond (.s 35) (.seq (.reg [⟨(some 6), none, (.mov (.c (.bool true)))⟩]) .ret) .skip)) (.reg [⟨(some 36), none, (.mov (.s 7))⟩, ⟨(some 37), none, (.fld 0 (.s 9))⟩, ⟨(some 38), none, (.ld (some 2) (.s 37))⟩, ⟨none, none, (.mupd (.many [.int, .int]) (.s 36) (.s 38) (.c (.bool true)))⟩])))) (.reg [⟨(some 39), none, (.bin .add (.s 28) (.c (.int .i64 1)))⟩, ⟨(some 28), none, (.mov (.s 39))⟩]))))))) (.seq (.reg [⟨(some 40), none, (.fld 2 (.s 5))⟩, ⟨(some 41), none, (.ld none (.s 40))⟩, ⟨(some 10), none, (.mov (.s 41))⟩]) (.join [10] [10, 42, 43, 44] (.seq (.reg [⟨(some 42), none, (.fld 1 (.s 5))⟩, ⟨(some 43), none, (.ld none (.s 42))⟩, ⟨(some 44), none, (.un .not (.s 43))⟩]) (.cond (.s 44) (.reg [⟨(some 10), none, (.mov (.c (.int .u64 1099511627776)))⟩]) .skip)) (.seq (.reg [⟨(some 46), none, (.ld (some 2) (.s 3))⟩, ⟨(some 47), none, (.mov (.s 10))⟩, ⟨(some 48), none, (.mov (.s 1))⟩, ⟨(some 49), none, (.call (.c (.fn (.func n_vacuum_Dead) [] [])) [(.s 46), (.s 47), (.s 48)])⟩, ⟨(some 45), none, (.mov (.s 49))⟩, ⟨(some 50), none, (.ext 0 (.s 45))⟩, ⟨(some 51), none, (.ext 1 (.s 45))⟩, ⟨(some 11), none, (.mov (.s 50))⟩, ⟨(some 12), none, (.mov (.s 51))⟩]) (.seq (.seq (.reg [⟨(some 52), none, (.mov (.s 12))⟩, ⟨(some 53), none, (.bin .neq (.s 52) (.c (.int .i64 0)))⟩]) (.cond (.s 53) (.seq (.reg [⟨(some 54), none, (.mov (.s 11))⟩, ⟨(some 55), none, (.len .sl (.s 54))⟩, ⟨(some 56), none, (.bin .eql (.s 55) (.c (.int .i64 0)))⟩, ⟨(some 6), none, (.mov (.s 56))⟩]) .ret) .skip)) (.seq (.seq (.reg [⟨(some 57), none, (.mov (.s 1))⟩, ⟨(some 58), none, (.len .sl (.s 57))⟩, ⟨(some 59), none, (.mov (.c (.int .i64 0)))⟩]) (.block 2 (.loop [59] [6, 14, 59, 60, 61, 62, 63, 64, 65, 66, 67, 68, 69, 70, 71, 72, 73, 74, 75, 76, 77, 78, 79, 80, 81, 82, 83, 84, 85, 86, 87, 88] (.seq (.reg [⟨(some 60), none, (.bin .lss (.s 59) (.s 58))⟩]) (.seq (.cond (.s 60) .skip (.exit 2)) (.seq (.block 3 (.seq (.reg [⟨(some 61), none, (.idx 10 (.s 57) (.s 59))⟩, ⟨(some 62), none, (.ld (some 10) (.s 61))⟩, ⟨(some 14), none, (.alloc [(.int .i64 0), (.int .i64 0), (.int .u32 0), (.int .u64 0), (.int .u64 0), (.int .i64 0), (.int .i64 0), (.int .i64 0), (.int .i64 0), (.int .i64 0)])⟩, ⟨none, none, (.st 10 (.s 14) (.s 62))⟩]) (.seq (.reg [⟨(some 63), none, (.fld 1 (.s 5))⟩, ⟨(some 64), none, (.ld none (.s 63))⟩, ⟨(some 65), none, (.un .not (.s 64))⟩, ⟨(some 66), none, (.mov (.s 65))⟩, ⟨(some 67), (some (66, true)), (.mov (.s 11))⟩, ⟨(some 68), (some (66, true)), (.fld 0 (.s 14))⟩, ⟨(some 69), (some (66, true)), (.ld (some 2) (.s 68))⟩, ⟨(some 70), (some (66, true)), (.call (.c (.fn (.func n_slices_Contains_Spot_Spot) [] [])) [(.s 67), (.s 69)])⟩, ⟨(some 71), none, (.pick (.s 66) (.s 70) (.c (.bool false)))⟩, ⟨(some 72), none, (.mov (.s 71))⟩, ⟨(some 73), (some (72, true)), (.fld 2 (.s 14))⟩, ⟨(some 74), (some (72, true)), (.fld 1 (.s 73))⟩, ⟨(some 75), (some (72, true)), (.ld none (.s 74))⟩, ⟨(some 76), (some (72, true)), (.fld 0 (.s 5))⟩, ⟨(some 77), (some (72, true)), (.ld none (.s 76))⟩, ⟨(some 78), (some (72, true)), (.bin .eql (.s 75) (.s 77))⟩, ⟨(some 79), (some (72, true)), (.mov (.s 78))⟩, ⟨(some 80), (some (79, false)), (.fld 2 (.s 14))⟩, ⟨(some 81), (some (79, false)), (.fld 2 (.s 80))⟩, ⟨(some 82), (some (79, false)), (.ld none (.s 81))⟩, ⟨(some 83), (some (79, false)), (.fld 0 (.s 5))⟩, ⟨(some 84), (some (79, false)), (.ld none (.s 83))⟩, ⟨(some 85), (some (79, false)), (.bin .eql (.s 82) (.s 84))⟩, ⟨(some 86), (some (72, true)), (.pick (.s 79) (.c (.bool true)) (.s 85))⟩, ⟨(some 87), none, (.pick (.s 72) (.s 86) (.c (.bool false)))⟩]) (.cond (.s 87) (.seq (.reg [⟨(some 6), none, (.mov (.c (.bool true)))⟩]) .ret) .skip)))) (.reg [⟨(some 88), none, (.bin .add (.s 59) (.c (.int .i64 1)))⟩, ⟨(some 59), none, (.mov (.s 88))⟩]))))))) (.seq (.reg [⟨(some 90), none, (.ld (some 2) (.s 3))⟩, ⟨(some 91), none, (.ld (some 3) (.s 5))⟩, ⟨(some 92), none, (.mov (.s 1))⟩, ⟨(some 93), none, (.call (.c (.fn (.func n_vision_Seen) [] [])) [(.s 90), (.s 91), (.s 92)])⟩, ⟨(some 89), none, (.mov (.s 93))⟩, ⟨(some 94), none, (.ext 0 (.s 89))⟩, ⟨(some 95), none, (.ext 1 (.s 89))⟩, ⟨(some 15), none, (.mov (.s 94))⟩, ⟨(some 16), none, (.mov (.s 95))⟩]) (.seq (.regD [⟨(some 97), none, (.ld (some 2) (.s 3))⟩, ⟨(some 98), none, (.ld (some 3) (.s 5))⟩, ⟨(some 99), none, (.mov (.s 1))⟩, ⟨(some 100), none, (.mov (.s 11))⟩, ⟨(some 101), none, (.call (.c (.fn (.func n_vacuum_Left) [] [])) [(.s 99), (.s 100)])⟩, ⟨(some 102), none, (.call (.c (.fn (.func n_vision_Seen) [] [])) [(.s 97), (.s 98), (.s 101)])⟩, ⟨(some 96), none, (.mov (.s 102))⟩, ⟨(some 103), none, (.ext 0 (.s 96))⟩, ⟨(some 104), none, (.ext 1 (.s 96))⟩, ⟨(some 17), none, (.mov (.s 103))⟩, ⟨(some 18), none, (.mov (.s 104))⟩] [(0, (false, [])), (1, (false, [])), (2, (false, [])), (3, (false, [])), (4, (true, [1, 0])), (5, (true, [])), (6, (false, [])), (7, (false, [])), (8, (false, [])), (9, (false, [])), (10, (false, []))]) (.seq (.reg [⟨(some 105), none, (.mov (.s 16))⟩, ⟨(some 106), none, (.bin .eql (.s 105) (.c (.int .i64 0)))⟩, ⟨(some 107), none, (.mov (.s 106))⟩, ⟨(some 108), (some (107, true)), (.mov (.s 18))⟩, ⟨(some 109), (some (107, true)), (.bin .eql (.s 108) (.c (.int .i64 0)))⟩, ⟨(some 110), none, (.pick (.s 107) (.s 109) (.c (.bool false)))⟩, ⟨(some 111), none, (.mov (.s 110))⟩, ⟨(some 112), (some (111, true)), (.mov (.s 15))⟩, ⟨(some 113), (some (111, true)), (.mov (.s 17))⟩, ⟨(some 114), (some (111, true)), (.call (.c (.fn (.func n_slices_Equal_Stored_Stored) [] [])) [(.s 112), (.s 113)])⟩, ⟨(some 115), none, (.pick (.s 111) (.s 114) (.c (.bool false)))⟩, ⟨(some 6), none, (.mov (.s 115))⟩]) .ret)))))))))))))
def F_gazetteerlaw18_VacuumSeen (P : Program) (a0 a1 a2 : V) (st : St) (K : V → St → Prop) : Prop :=
  @stp P (.box (.c a0)) st ⟨fun v3 st =>
  @stp P (.box (.c a2)) st ⟨fun v5 st =>
  @stp P (.call (.c (.fn (.func n_gazetteerlaw18_wakes) [] [])) []) st ⟨fun v19 st =>
  @stp P (.un .not (.c v19)) st ⟨fun v20 st =>
  @cnd v20 ⟨
    GhostV [(.bool false)] st fun vs st => K (mkres vs) st⟩
  ⟨
    @stp P (.ld (some 2) (.c v3)) st ⟨fun v21 st =>
    @stp P (.call (.c (.fn (.func n_gazetteerlaw18_fates) [] [])) [(.c v21)]) st ⟨fun v22 st =>
    @stp P (.call (.c (.fn (.func n_gazetteerlaw18_items) [] [])) [(.c a1)]) st ⟨fun v24 st =>
    @stp P (.st 2 (.c v3) (.c v22)) st ⟨fun _v st =>
    @stp P .mkmap st ⟨fun v25 st =>
    @stp P (.len .sl (.c v24)) st ⟨fun v27 st =>
    @Hold ⟨∃ I1 : Nat → Rel 1, (∃ k, GhostV [(.int .i64 0)] st (app (I1 k))) ∧ ∀ k1 v28, ∀ st, app (I1 k1) [v28] st →
      @stp P (.bin .lss (.c v28) (.c v27)) st ⟨fun v29 st =>
      @cnd v29 ⟨
        @stp P (.idx 10 (.c v24) (.c v28)) st ⟨fun v30 st =>
        @stp P (.ld (some 10) (.c v30)) st ⟨fun v31 st =>
        @stp P (.alloc [(.int .i64 0), (.int .i64 0), (.int .u32 0), (.int .u64 0), (.int .u64 0), (.int .i64 0), (.int .i64 0), (.int .i64 0), (.int .i64 0), (.int .i64 0)]) st ⟨fun v9 st =>
        @stp P (.st 10 (.c v9) (.c v31)) st ⟨fun _v st =>
        @stp P (.fld 0 (.c v9)) st ⟨fun v33 st =>
        @stp P (.ld (some 2) (.c v33)) st ⟨fun v34 st =>
        @stp P (.lookup (.many [.int, .int]) (.bool false) false (.c v25) (.c v34)) st ⟨fun v35 st =>
        @cnd v35 ⟨
          GhostV [(.bool true)] st fun vs st => K (mkres vs) st⟩
        ⟨
          @stp P (.fld 0 (.c v9)) st ⟨fun v37 st =>
          @stp P (.ld (some 2) (.c v37)) st ⟨fun v38 st =>
          @stp P (.mupd (.many [.int, .int]) (.c v25) (.c v38) (.c (.bool true))) st ⟨fun _v st =>
          @stp P (.bin .add (.c v28) (.c (.int .i64 1))) st ⟨fun v39 st =>
          ∃ j, j < k1 ∧ GhostV [v39] st (app (I1 j))⟩⟩⟩⟩⟩⟩⟩⟩⟩⟩⟩⟩⟩
      ⟨
        @stp P (.fld 2 (.c v5)) st ⟨fun v40 st =>
        @stp P (.ld none (.c v40)) st ⟨fun v41 st =>
        @Hold ⟨∃ J2 : Rel 1, (
          @stp P (.fld 1 (.c v5)) st ⟨fun v42 st =>
          @stp P (.ld none (.c v42)) st ⟨fun v43 st =>
          @stp P (.un .not (.c v43)) st ⟨fun v44 st =>
          @cnd v44 ⟨
            GhostV [(.int .u64 1099511627776)] st (app J2)⟩
          ⟨
            GhostV [v41] st (app J2)⟩⟩⟩⟩) ∧
        ∀ v10 st, app J2 [v10] st →
          @stp P (.ld (some 2) (.c v3)) st ⟨fun v46 st =>
          @stp P (.call (.c (.fn (.func n_vacuum_Dead) [] [])) [(.c v46), (.c v10), (.c v24)]) st ⟨fun v49 st =>
          @stp P (.ext 0 (.c v49)) st ⟨fun v50 st =>
          @stp P (.ext 1 (.c v49)) st ⟨fun v51 st =>
          @stp P (.bin .neq (.c v51) (.c (.int .i64 0))) st ⟨fun v53 st =>
          @cnd v53 ⟨
            @stp P (.len .sl (.c v50)) st ⟨fun v55 st =>
            @stp P (.bin .eql (.c v55) (.c (.int .i64 0))) st ⟨fun v56 st =>
            GhostV [v56] st fun vs st => K (mkres vs) st⟩⟩⟩
          ⟨
            @stp P (.len .sl (.c v24)) st ⟨fun v58 st =>
            @Hold ⟨∃ I3 : Nat → Rel 1, (∃ k, GhostV [(.int .i64 0)] st (app (I3 k))) ∧ ∀ k3 v59, ∀ st, app (I3 k3) [v59] st →
              @stp P (.bin .lss (.c v59) (.c v58)) st ⟨fun v60 st =>
              @cnd v60 ⟨
                @stp P (.idx 10 (.c v24) (.c v59)) st ⟨fun v61 st =>
                @stp P (.ld (some 10) (.c v61)) st ⟨fun v62 st =>
                @stp P (.alloc [(.int .i64 0), (.int .i64 0), (.int .u32 0), (.int .u64 0), (.int .u64 0), (.int .i64 0), (.int .i64 0), (.int .i64 0), (.int .i64 0), (.int .i64 0)]) st ⟨fun v14 st =>
                @stp P (.st 10 (.c v14) (.c v62)) st ⟨fun _v st =>
                @stp P (.fld 1 (.c v5)) st ⟨fun v63 st =>
                @stp P (.ld none (.c v63)) st ⟨fun v64 st =>
                @stp P (.un .not (.c v64)) st ⟨fun v65 st =>
                @gst P v65 true (.mov (.c v50)) st ⟨fun v67 st =>
                @gst P v65 true (.fld 0 (.c v14)) st ⟨fun v68 st =>
                @gst P v65 true (.ld (some 2) (.c v68)) st ⟨fun v69 st =>
                @gst P v65 true (.call (.c (.fn (.func n_slices_Contains_Spot_Spot) [] [])) [(.c v67), (.c v69)]) st ⟨fun v70 st =>
                @stp P (.pick (.c v65) (.c v70) (.c (.bool false))) st ⟨fun v71 st =>
                @gst P v71 true (.fld 2 (.c v14)) st ⟨fun v73 st =>
                @gst P v71 true (.fld 1 (.c v73)) st ⟨fun v74 st =>
                @gst P v71 true (.ld none (.c v74)) st ⟨fun v75 st =>
                @gst P v71 true (.fld 0 (.c v5)) st ⟨fun v76 st =>
                @gst P v71 true (.ld none (.c v76)) st ⟨fun v77 st =>
                @gst P v71 true (.bin .eql (.c v75) (.c v77)) st ⟨fun v78 st =>
                @gst P v71 true (.mov (.c v78)) st ⟨fun v79 st =>
                @gst P v79 false (.fld 2 (.c v14)) st ⟨fun v80 st =>
                @gst P v79 false (.fld 2 (.c v80)) st ⟨fun v81 st =>
                @gst P v79 false (.ld none (.c v81)) st ⟨fun v82 st =>
                @gst P v79 false (.fld 0 (.c v5)) st ⟨fun v83 st =>
                @gst P v79 false (.ld none (.c v83)) st ⟨fun v84 st =>
                @gst P v79 false (.bin .eql (.c v82) (.c v84)) st ⟨fun v85 st =>
                @gst P v71 true (.pick (.c v79) (.c (.bool true)) (.c v85)) st ⟨fun v86 st =>
                @stp P (.pick (.c v71) (.c v86) (.c (.bool false))) st ⟨fun v87 st =>
                @cnd v87 ⟨
                  GhostV [(.bool true)] st fun vs st => K (mkres vs) st⟩
                ⟨
                  @stp P (.bin .add (.c v59) (.c (.int .i64 1))) st ⟨fun v88 st =>
                  ∃ j, j < k3 ∧ GhostV [v88] st (app (I3 j))⟩⟩⟩⟩⟩⟩⟩⟩⟩⟩⟩⟩⟩⟩⟩⟩⟩⟩⟩⟩⟩⟩⟩⟩⟩⟩⟩⟩⟩⟩
              ⟨
                @stp P (.ld (some 2) (.c v3)) st ⟨fun v90 st =>
                @stp P (.ld (some 3) (.c v5)) st ⟨fun v91 st =>
                @stp P (.call (.c (.fn (.func n_vision_Seen) [] [])) [(.c v90), (.c v91), (.c v24)]) st ⟨fun v93 st =>
                @stp P (.ext 0 (.c v93)) st ⟨fun v94 st =>
                @stp P (.ext 1 (.c v93)) st ⟨fun v95 st =>
                @stpD P (.ld (some 2) (.c v3)) st ⟨fun v97 st =>
                @stpD P (.ld (some 3) (.c v5)) st ⟨fun v98 st =>
                @stpD P (.call (.c (.fn (.func n_vacuum_Left) [] [])) [(.c v24), (.c v50)]) st ⟨fun v101 st =>
                hwat P none (.ld (some 3) (.c v5)) st v98 ∧ (
                hwat P none (.ld (some 2) (.c v3)) st v97 ∧ (
                @stpD P (.call (.c (.fn (.func n_vision_Seen) [] [])) [(.c v97), (.c v98), (.c v101)]) st ⟨fun v102 st =>
                @stpD P (.ext 0 (.c v102)) st ⟨fun v103 st =>
                @stpD P (.ext 1 (.c v102)) st ⟨fun v104 st =>
                @stp P (.bin .eql (.c v95) (.c (.int .i64 0))) st ⟨fun v106 st =>
                @gst P v106 true (.mov (.c v104)) st ⟨fun v108 st =>
                @gst P v106 true (.bin .eql (.c v108) (.c (.int .i64 0))) st ⟨fun v109 st =>
                @stp P (.pick (.c v106) (.c v109) (.c (.bool false))) st ⟨fun v110 st =>
                @gst P v110 true (.mov (.c v94)) st ⟨fun v112 st =>
                @gst P v110 true (.mov (.c v103)) st ⟨fun v113 st =>
                @gst P v110 true (.call (.c (.fn (.func n_slices_Equal_Stored_Stored) [] [])) [(.c v112), (.c v113)]) st ⟨fun v114 st =>
                @stp P (.pick (.c v110) (.c v114) (.c (.bool false))) st ⟨fun v115 st =>
                GhostV [v115] st fun vs st => K (mkres vs) st⟩⟩⟩⟩⟩⟩⟩⟩⟩⟩⟩))⟩⟩⟩⟩⟩⟩⟩⟩⟩⟩⟩⟩⟩⟩⟩⟩⟩⟩⟩⟩⟩⟩⟩⟩⟩⟩⟩⟩⟩⟩⟩⟩⟩⟩⟩
theorem q_gazetteerlaw18_VacuumSeen {P : Program} {a0 a1 a2 : V} {st : St} {K : V → St → Prop} : F_gazetteerlaw18_VacuumSeen P a0 a1 a2 st K = hwp P c_gazetteerlaw18_VacuumSeen (hretQ [.tmp 6] K) (enterFr [a0, a1, a2]) st := by kernel_rfl
abbrev R_gazetteerlaw18_VacuumSeen (P : Program) : Prop := resFnH P n_gazetteerlaw18_VacuumSeen = some (116, c_gazetteerlaw18_VacuumSeen.er, [.tmp 6])
theorem A_gazetteerlaw18_VacuumSeen {P : Program} (h : R_gazetteerlaw18_VacuumSeen P) {a0 a1 a2 : V} {st : St} {K : V → St → Prop} (hF : F_gazetteerlaw18_VacuumSeen P a0 a1 a2 st K) : ACalls P n_gazetteerlaw18_VacuumSeen [a0, a1, a2] st K :=
  ACalls_h h rfl (by simp) (q_gazetteerlaw18_VacuumSeen ▸ hF)

def c_vision_Seen : ACode := (.seq (.reg [⟨(some 3), none, (.box (.s 0))⟩, ⟨(some 4), none, (.box (.s 1))⟩, ⟨(some 6), none, (.mov (.c (.sl .nil 0 [] [])))⟩, ⟨(some 7), none, (.mov (.c (.int .i64 0)))⟩]) (.seq (.seq (.reg [⟨(some 9), none, (.ld (some 2) (.s 3))⟩, ⟨(some 10), none, (.mov (.s 2))⟩, ⟨(some 11), none, (.call (.c (.fn (.func n_vision_ready) [] [])) [(.s 9), (.s 10)])⟩, ⟨(some 8), none, (.mov (.s 11))⟩]) (.seq (.reg [⟨(some 12), none, (.mov (.s 8))⟩, ⟨(some 13), none, (.bin .neq (.s 12) (.c (.int .i64 0)))⟩]) (.cond (.s 13) (.seq (.reg [⟨(some 14), none, (.mov (.s 8))⟩, ⟨(some 6), none, (.mov (.c (.sl .nil 0 [] [])))⟩, ⟨(some 7), none, (.mov (.s 14))⟩]) .ret) .skip))) (.seq (.reg [⟨(some 15), none, (.ld (some 3) (.s 4))⟩, ⟨(some 16), none, (.ld (some 2) (.s 3))⟩, ⟨(some 17), none, (.build [(.int .u64 0), (.bool false), (.int .u64 0), (.int .u64 0), (.sl .nil 0 [] [])] [(0, (3, (.s 15))), (3, (2, (.s 16)))])⟩, ⟨(some 18), none, (.mov (.s 2))⟩, ⟨(some 19), none, (.call (.c (.fn (.func n_vision_look_seen) [] [])) [(.s 17), (.s 18)])⟩, ⟨(some 20), none, (.call (.c (.fn (.func n_slices_Collect_Stored) [] [])) [(.s 19)])⟩, ⟨(some 6), none, (.mov (.s 20))⟩, ⟨(some 7), none, (.mov (.c (.int .i64 0)))⟩]) .ret)))
def F_vision_Seen (P : Program) (a0 a1 a2 : V) (st : St) (K : V → St → Prop) : Prop :=
  @stp P (.box (.c a0)) st ⟨fun v3 st =>
  @stp P (.box (.c a1)) st ⟨fun v4 st =>
  @stp P (.ld (some 2) (.c v3)) st ⟨fun v9 st =>
  @stp P (.call (.c (.fn (.func n_vision_ready) [] [])) [(.c v9), (.c a2)]) st ⟨fun v11 st =>
  @stp P (.bin .neq (.c v11) (.c (.int .i64 0))) st ⟨fun v13 st =>
  @cnd v13 ⟨
    GhostV [(.sl .nil 0 [] []), v11] st fun vs st => K (mkres vs) st⟩
  ⟨
    @stp P (.ld (some 3) (.c v4)) st ⟨fun v15 st =>
    @stp P (.ld (some 2) (.c v3)) st ⟨fun v16 st =>
    @stp P (.build [(.int .u64 0), (.bool false), (.int .u64 0), (.int .u64 0), (.sl .nil 0 [] [])] [(0, 3, (.c v15)), (3, 2, (.c v16))]) st ⟨fun v17 st =>
    @stp P (.call (.c (.fn (.func n_vision_look_seen) [] [])) [(.c v17), (.c a2)]) st ⟨fun v19 st =>
    @stp P (.call (.c (.fn (.func n_slices_Collect_Stored) [] [])) [(.c v19)]) st ⟨fun v20 st =>
    GhostV [v20, (.int .i64 0)] st fun vs st => K (mkres vs) st⟩⟩⟩⟩⟩⟩⟩⟩⟩⟩⟩
theorem q_vision_Seen {P : Program} {a0 a1 a2 : V} {st : St} {K : V → St → Prop} : F_vision_Seen P a0 a1 a2 st K = hwp P c_vision_Seen (hretQ [.tmp 6, .tmp 7] K) (enterFr [a0, a1, a2]) st := by kernel_rfl
abbrev R_vision_Seen (P : Program) : Prop := resFnH P n_vision_Seen = some (21, c_vision_Seen.er, [.tmp 6, .tmp 7])
theorem A_vision_Seen {P : Program} (h : R_vision_Seen P) {a0 a1 a2 : V} {st : St} {K : V → St → Prop} (hF : F_vision_Seen P a0 a1 a2 st K) : ACalls P n_vision_Seen [a0, a1, a2] st K :=
  ACalls_h h rfl (by simp) (q_vision_Seen ▸ hF)

def c_slices_Equal_Stored_Stored : ACode := (.seq (.reg [⟨(some 4), none, (.mov (.c (.bool false)))⟩]) (.seq (.seq (.reg [⟨(some 6), none, (.mov (.s 0))⟩, ⟨(some 7), none, (.len .sl (.s 6))⟩, ⟨(some 8), none, (.mov (.s 1))⟩, ⟨(some 9), none, (.len .sl (.s 8))⟩, ⟨(some 10), none, (.bin .neq (.s 7) (.s 9))⟩]) (.cond (.s 10) (.seq (.reg [⟨(some 4), none, (.mov (.c (.bool false)))⟩]) .ret) .skip)) (.seq (.seq (.reg [⟨(some 11), none, (.mov (.s 0))⟩, ⟨(some 12), none, (.len .sl (.s 11))⟩, ⟨(some 13), none, (.mov (.c (.int .i64 0)))⟩]) (.block 0 (.loop [13] [4, 5, 13, 14, 15, 16, 17, 18, 19, 20, 21, 22, 23, 24, 25] (.seq (.reg [⟨(some 14), none, (.bin .lss (.s 13) (.s 12))⟩]) (.seq (.cond (.s 14) .skip (.exit 0)) (.seq (.block 1 (.seq (.reg [⟨(some 15), none, (.mov (.s 13))⟩, ⟨(some 5), none, (.mov (.s 15))⟩]) (.seq (.regD [⟨(some 16), none, (.mov (.s 0))⟩, ⟨(some 17), none, (.mov (.s 5))⟩, ⟨(some 18), none, (.idx 10 (.s 16) (.s 17))⟩, ⟨(some 19), none, (.ld (some 10) (.s 18))⟩, ⟨(some 20), none, (.mov (.s 1))⟩, ⟨(some 21), none, (.mov (.s 5))⟩, ⟨(some 22), none, (.idx 10 (.s 20) (.s 21))⟩, ⟨(some 23), none, (.ld (some 10) (.s 22))⟩, ⟨(some 24), none, (.eqs true (.flat [.int, .int, .int, .int, .int, .int, .int, .int, .int, .int]) (.s 19) (.s 23))⟩] [(0, (false, [])), (1, (false, [])), (2, (false, [])), (3, (false, [])), (4, (false, [])), (5, (false, [])), (6, (false, [])), (7, (false, [])), (8, (false, []))]) (.cond (.s 24) (.seq (.reg [⟨(some 4), none, (.mov (.c (.bool false)))⟩]) .ret) .skip)))) (.reg [⟨(some 25), none, (.bin .add (.s 13) (.c (.int .i64 1)))⟩, ⟨(some 13), none, (.mov (.s 25))⟩]))))))) (.seq (.reg [⟨(some 4), none, (.mov (.c (.bool true)))⟩]) .ret))))
def F_slices_Equal_Stored_Stored (P : Program) (a0 a1 : V) (st : St) (K : V → St → Prop) : Prop :=
  @stp P (.len .sl (.c a0)) st ⟨fun v7 st =>
  @stp P (.len .sl (.c a1)) st ⟨fun v9 st =>
  @stp P (.bin .neq (.c v7) (.c v9)) st ⟨fun v10 st =>
  @cnd v10 ⟨
    GhostV [(.bool false)] st fun vs st => K (mkres vs) st⟩
  ⟨
    @stp P (.len .sl (.c a0)) st ⟨fun v12 st =>
    @Hold ⟨∃ I1 : Nat → Rel 1, (∃ k, GhostV [(.int .i64 0)] st (app (I1 k))) ∧ ∀ k1 v13, ∀ st, app (I1 k1) [v13] st →
      @stp P (.bin .lss (.c v13) (.c v12)) st ⟨fun v14 st =>
      @cnd v14 ⟨
        @stpD P (.idx 10 (.c a0) (.c v13)) st ⟨fun v18 st =>
        @stpD P (.ld (some 10) (.c v18)) st ⟨fun v19 st =>
        @stpD P (.idx 10 (.c a1) (.c v13)) st ⟨fun v22 st =>
        @stpD P (.ld (some 10) (.c v22)) st ⟨fun v23 st =>
        @stpD P (.eqs true (.flat [.int, .int, .int, .int, .int, .int, .int, .int, .int, .int]) (.c v19) (.c v23)) st ⟨fun v24 st =>
        @cnd v24 ⟨
          GhostV [(.bool false)] st fun vs st => K (mkres vs) st⟩
        ⟨
          @stp P (.bin .add (.c v13) (.c (.int .i64 1))) st ⟨fun v25 st =>
          ∃ j, j < k1 ∧ GhostV [v25] st (app (I1 j))⟩⟩⟩⟩⟩⟩⟩⟩
      ⟨
        GhostV [(.bool true)] st fun vs st => K (mkres vs) st⟩⟩⟩⟩⟩⟩⟩⟩
theorem q_slices_Equal_Stored_Stored {P : Program} {a0 a1 : V} {st : St} {K : V → St → Prop} : F_slices_Equal_Stored_Stored P a0 a1 st K = hwp P c_slices_Equal_Stored_Stored (hretQ [.tmp 4] K) (enterFr [a0, a1]) st := by kernel_rfl
abbrev R_slices_Equal_Stored_Stored (P : Program) : Prop := resFnH P n_slices_Equal_Stored_Stored = some (26, c_slices_Equal_Stored_Stored.er, [.tmp 4])
theorem A_slices_Equal_Stored_Stored {P : Program} (h : R_slices_Equal_Stored_Stored P) {a0 a1 : V} {st : St} {K : V → St → Prop} (hF : F_slices_Equal_Stored_Stored P a0 a1 st K) : ACalls P n_slices_Equal_Stored_Stored [a0, a1] st K :=
  ACalls_h h rfl (by simp) (q_slices_Equal_Stored_Stored ▸ hF)

def c_vision_ready : ACode := (.seq (.reg [⟨(some 2), none, (.box (.s 0))⟩, ⟨(some 4), none, (.mov (.c (.int .i64 0)))⟩]) (.seq (.seq (.reg [⟨(some 5), none, (.ld (some 2) (.s 2))⟩, ⟨(some 6), none, (.call (.c (.fn (.func n_vision_Check) [] [])) [(.s 5)])⟩, ⟨(some 7), none, (.bin .neq (.s 6) (.c (.int .i64 0)))⟩]) (.cond (.s 7) (.seq (.reg [⟨(some 4), none, (.mov (.c (.int .i64 270)))⟩]) .ret) .skip)) (.seq (.seq (.reg [⟨(some 8), none, (.mov (.s 1))⟩, ⟨(some 9), none, (.call (.c (.fn (.func n_slices_ContainsFunc_Stored_Stored) [] [])) [(.s 8), (.c (.fn (.func n_vision_ready_1) [] []))])⟩]) (.cond (.s 9) (.seq (.reg [⟨(some 4), none, (.mov (.c (.int .i64 200)))⟩]) .ret) .skip)) (.seq (.reg [⟨(some 4), none, (.mov (.c (.int .i64 0)))⟩]) .ret))))
def F_vision_ready (P : Program) (a0 a1 : V) (st : St) (K : V → St → Prop) : Prop :=
  @stp P (.box (.c a0)) st ⟨fun v2 st =>
  @stp P (.ld (some 2) (.c v2)) st ⟨fun v5 st =>
  @stp P (.call (.c (.fn (.func n_vision_Check) [] [])) [(.c v5)]) st ⟨fun v6 st =>
  @stp P (.bin .neq (.c v6) (.c (.int .i64 0))) st ⟨fun v7 st =>
  @cnd v7 ⟨
    GhostV [(.int .i64 270)] st fun vs st => K (mkres vs) st⟩
  ⟨
    @stp P (.call (.c (.fn (.func n_slices_ContainsFunc_Stored_Stored) [] [])) [(.c a1), (.c (.fn (.func n_vision_ready_1) [] []))]) st ⟨fun v9 st =>
    @cnd v9 ⟨
      GhostV [(.int .i64 200)] st fun vs st => K (mkres vs) st⟩
    ⟨
      GhostV [(.int .i64 0)] st fun vs st => K (mkres vs) st⟩⟩⟩⟩⟩⟩⟩
theorem q_vision_ready {P : Program} {a0 a1 : V} {st : St} {K : V → St → Prop} : F_vision_ready P a0 a1 st K = hwp P c_vision_ready (hretQ [.tmp 4] K) (enterFr [a0, a1]) st := by kernel_rfl
abbrev R_vision_ready (P : Program) : Prop := resFnH P n_vision_ready = some (10, c_vision_ready.er, [.tmp 4])
theorem A_vision_ready {P : Program} (h : R_vision_ready P) {a0 a1 : V} {st : St} {K : V → St → Prop} (hF : F_vision_ready P a0 a1 st K) : ACalls P n_vision_ready [a0, a1] st K :=
  ACalls_h h rfl (by simp) (q_vision_ready ▸ hF)

def c_slices_Collect_Stored : ACode := (.seq (.reg [⟨(some 2), none, (.mov (.c (.sl .nil 0 [] [])))⟩]) (.seq (.reg [⟨(some 3), none, (.mov (.s 0))⟩, ⟨(some 4), none, (.call (.c (.fn (.func n_slices_AppendSeq_Stored_Stored) [] [])) [(.c (.sl .nil 0 [] [])), (.s 3)])⟩, ⟨(some 2), none, (.mov (.s 4))⟩]) .ret))
def F_slices_Collect_Stored (P : Program) (a0 : V) (st : St) (K : V → St → Prop) : Prop :=
  @stp P (.call (.c (.fn (.func n_slices_AppendSeq_Stored_Stored) [] [])) [(.c (.sl .nil 0 [] [])), (.c a0)]) st ⟨fun v4 st =>
  GhostV [v4] st fun vs st => K (mkres vs) st⟩
theorem q_slices_Collect_Stored {P : Program} {a0 : V} {st : St} {K : V → St → Prop} : F_slices_Collect_Stored P a0 st K = hwp P c_slices_Collect_Stored (hretQ [.tmp 2] K) (enterFr [a0]) st := by kernel_rfl
abbrev R_slices_Collect_Stored (P : Program) : Prop := resFnH P n_slices_Collect_Stored = some (5, c_slices_Collect_Stored.er, [.tmp 2])
theorem A_slices_Collect_Stored {P : Program} (h : R_slices_Collect_Stored P) {a0 : V} {st : St} {K : V → St → Prop} (hF : F_slices_Collect_Stored P a0 st K) : ACalls P n_slices_Collect_Stored [a0] st K :=
  ACalls_h h rfl (by simp) (q_slices_Collect_Stored ▸ hF)

def c_vision_look_seen : ACode := (.seq (.reg [⟨(some 2), none, (.box (.s 0))⟩, ⟨(some 3), none, (.box (.s 1))⟩, ⟨(some 4), none, (.mov (.c .nilf))⟩]) (.seq (.reg [⟨(some 5), none, (.mkfn (.func n_vision_look_seen_1) [] [(.s 3), (.s 2)])⟩, ⟨(some 4), none, (.mov (.s 5))⟩]) .ret))
def F_vision_look_seen (P : Program) (a0 a1 : V) (st : St) (K : V → St → Prop) : Prop :=
  @stp P (.box (.c a0)) st ⟨fun v2 st =>
  @stp P (.box (.c a1)) st ⟨fun v3 st =>
  @stp P (.mkfn (.func n_vision_look_seen_1) [] [(.c v3), (.c v2)]) st ⟨fun v5 st =>
  GhostV [v5] st fun vs st => K (mkres vs) st⟩⟩⟩
theorem q_vision_look_seen {P : Program} {a0 a1 : V} {st : St} {K : V → St → Prop} : F_vision_look_seen P a0 a1 st K = hwp P c_vision_look_seen (hretQ [.tmp 4] K) (enterFr [a0, a1]) st := by kernel_rfl
abbrev R_vision_look_seen (P : Program) : Prop := resFnH P n_vision_look_seen = some (6, c_vision_look_seen.er, [.tmp 4])
theorem A_vision_look_seen {P : Program} (h : R_vision_look_seen P) {a0 a1 : V} {st : St} {K : V → St → Prop} (hF : F_vision_look_seen P a0 a1 st K) : ACalls P n_vision_look_seen [a0, a1] st K :=
  ACalls_h h rfl (by simp) (q_vision_look_seen ▸ hF)

def c_slices_ContainsFunc_Stored_Stored : ACode := (.seq (.reg [⟨(some 4), none, (.mov (.c (.bool false)))⟩]) (.seq (.reg [⟨(some 5), none, (.mov (.s 0))⟩, ⟨(some 6), none, (.mov (.s 1))⟩, ⟨(some 7), none, (.call (.c (.fn (.func n_slices_IndexFunc_Stored_Stored) [] [])) [(.s 5), (.s 6)])⟩, ⟨(some 8), none, (.bin .geq (.s 7) (.c (.int .i64 0)))⟩, ⟨(some 4), none, (.mov (.s 8))⟩]) .ret))
def F_slices_ContainsFunc_Stored_Stored (P : Program) (a0 a1 : V) (st : St) (K : V → St → Prop) : Prop :=
  @stp P (.call (.c (.fn (.func n_slices_IndexFunc_Stored_Stored) [] [])) [(.c a0), (.c a1)]) st ⟨fun v7 st =>
  @stp P (.bin .geq (.c v7) (.c (.int .i64 0))) st ⟨fun v8 st =>
  GhostV [v8] st fun vs st => K (mkres vs) st⟩⟩
theorem q_slices_ContainsFunc_Stored_Stored {P : Program} {a0 a1 : V} {st : St} {K : V → St → Prop} : F_slices_ContainsFunc_Stored_Stored P a0 a1 st K = hwp P c_slices_ContainsFunc_Stored_Stored (hretQ [.tmp 4] K) (enterFr [a0, a1]) st := by kernel_rfl
abbrev R_slices_ContainsFunc_Stored_Stored (P : Program) : Prop := resFnH P n_slices_ContainsFunc_Stored_Stored = some (9, c_slices_ContainsFunc_Stored_Stored.er, [.tmp 4])
theorem A_slices_ContainsFunc_Stored_Stored {P : Program} (h : R_slices_ContainsFunc_Stored_Stored P) {a0 a1 : V} {st : St} {K : V → St → Prop} (hF : F_slices_ContainsFunc_Stored_Stored P a0 a1 st K) : ACalls P n_slices_ContainsFunc_Stored_Stored [a0, a1] st K :=
  ACalls_h h rfl (by simp) (q_slices_ContainsFunc_Stored_Stored ▸ hF)

def c_vision_ready_1 : ACode := (.seq (.reg [⟨(some 1), none, (.box (.s 0))⟩, ⟨(some 2), none, (.mov (.c (.bool false)))⟩]) (.seq (.reg [⟨(some 3), none, (.fld 2 (.s 1))⟩, ⟨(some 4), none, (.ld (some 8) (.s 3))⟩, ⟨(some 5), none, (.call (.c (.fn (.func n_heap_Check) [] [])) [(.s 4)])⟩, ⟨(some 6), none, (.bin .neq (.s 5) (.c (.int .i64 0)))⟩, ⟨(some 2), none, (.mov (.s 6))⟩]) .ret))
def F_vision_ready_1 (P : Program) (a0 : V) (st : St) (K : V → St → Prop) : Prop :=
  @stp P (.box (.c a0)) st ⟨fun v1 st =>
  @stp P (.fld 2 (.c v1)) st ⟨fun v3 st =>
  @stp P (.ld (some 8) (.c v3)) st ⟨fun v4 st =>
  @stp P (.call (.c (.fn (.func n_heap_Check) [] [])) [(.c v4)]) st ⟨fun v5 st =>
  @stp P (.bin .neq (.c v5) (.c (.int .i64 0))) st ⟨fun v6 st =>
  GhostV [v6] st fun vs st => K (mkres vs) st⟩⟩⟩⟩⟩
theorem q_vision_ready_1 {P : Program} {a0 : V} {st : St} {K : V → St → Prop} : F_vision_ready_1 P a0 st K = hwp P c_vision_ready_1 (hretQ [.tmp 2] K) (enterFr [a0]) st := by kernel_rfl
abbrev R_vision_ready_1 (P : Program) : Prop := resFnH P n_vision_ready_1 = some (7, c_vision_ready_1.er, [.tmp 2])
theorem A_vision_ready_1 {P : Program} (h : R_vision_ready_1 P) {a0 : V} {st : St} {K : V → St → Prop} (hF : F_vision_ready_1 P a0 st K) : ACalls P n_vision_ready_1 [a0] st K :=
  ACalls_h h rfl (by simp) (q_vision_ready_1 ▸ hF)

def c_slices_AppendSeq_Stored_Stored : ACode := (.seq (.reg [⟨(some 2), none, (.box (.s 0))⟩, ⟨(some 4), none, (.mov (.c (.sl .nil 0 [] [])))⟩]) (.seq (.seq (.reg [⟨(some 6), none, (.mov (.s 1))⟩]) (.block 0 (.rfunc (.s 6) [7] (.reg [⟨(some 5), none, (.alloc [(.int .i64 0), (.int .i64 0), (.int .u32 0), (.int .u64 0), (.int .u64 0), (.int .i64 0), (.int .i64 0), (.int .i64 0), (.int .i64 0), (.int .i64 0)])⟩, ⟨none, none, (.st 10 (.s 5) (.s 7))⟩]) (.block 1 (.reg [⟨(some 8), none, (.ld none (.s 2))⟩, ⟨(some 9), none, (.ld (some 10) (.s 5))⟩, ⟨(some 10), none, (.mkSl 10 1 [(.int .i64 0), (.int .i64 0), (.int .u32 0), (.int .u64 0), (.int .u64 0), (.int .i64 0), (.int .i64 0), (.int .i64 0), (.int .i64 0), (.int .i64 0)] [(0, (.s 9))])⟩, ⟨(some 11), none, (.append 10 80 (.s 8) (.s 10))⟩, ⟨none, none, (.st 1 (.s 2) (.s 11))⟩]))))) (.seq (.reg [⟨(some 12), none, (.ld none (.s 2))⟩, ⟨(some 4), none, (.mov (.s 12))⟩]) .ret)))
def F_slices_AppendSeq_Stored_Stored (P : Program) (a0 a1 : V) (st : St) (K : V → St → Prop) : Prop :=
  @stp P (.box (.c a0)) st ⟨fun v2 st =>
  @Hold ⟨(fun s1 : St => ∀ LP1 : LSt → Obj,
    (∀ (st : St) (K : V → St → Prop) (v7 : V), st.get s1.objs.length s1.nv = some (LP1 .ready) → (
      @stp P (.alloc [(.int .i64 0), (.int .i64 0), (.int .u32 0), (.int .u64 0), (.int .u64 0), (.int .i64 0), (.int .i64 0), (.int .i64 0), (.int .i64 0), (.int .i64 0)]) st ⟨fun v5 st =>
      @stp P (.st 10 (.c v5) (.c v7)) st ⟨fun _v st =>
      st.get s1.objs.length s1.nv = some (LP1 .ready) ∧ (fun st : St =>
        @stp P (.ld none (.c v2)) st ⟨fun v8 st =>
        @stp P (.ld (some 10) (.c v5)) st ⟨fun v9 st =>
        @stp P (.mkSl 10 1 [(.int .i64 0), (.int .i64 0), (.int .u32 0), (.int .u64 0), (.int .u64 0), (.int .i64 0), (.int .i64 0), (.int .i64 0), (.int .i64 0), (.int .i64 0)] [(0, (.c v9))]) st ⟨fun v10 st =>
        @stp P (.append 10 80 (.c v8) (.c v10)) st ⟨fun v11 st =>
        @stp P (.st 1 (.c v2) (.c v11)) st ⟨fun _v st =>
        st.get s1.objs.length s1.nv = some (LP1 .busy) ∧ K (.bool true) (st.setO s1.objs.length s1.nv (LP1 .ready))⟩⟩⟩⟩⟩) (st.setO s1.objs.length s1.nv (LP1 .busy))⟩⟩) →
    AInv P (.yld s1.objs.length s1.nv) [v7] st K) →
    AInvE P a1 [.yld s1.objs.length s1.nv] (s1.push (LP1 .ready)) fun _ st => ∃ s, st.get s1.objs.length s1.nv = some (LP1 s) ∧ (fun st : St => hend s (
      @stp P (.ld none (.c v2)) st ⟨fun v12 st =>
      GhostV [v12] st fun vs st => K (mkres vs) st⟩)
    (
      GhostV [(.sl .nil 0 [] [])] st fun vs st => K (mkres vs) st)
    (fun id : Nat =>       (if id = 0 then
        @stp P (.ld none (.c v2)) st ⟨fun v12 st =>
        GhostV [v12] st fun vs st => K (mkres vs) st⟩
      else
        False))) (st.gone s1.objs.length)) st⟩⟩
theorem q_slices_AppendSeq_Stored_Stored {P : Program} {a0 a1 : V} {st : St} {K : V → St → Prop} : F_slices_AppendSeq_Stored_Stored P a0 a1 st K = hwp P c_slices_AppendSeq_Stored_Stored (hretQ [.tmp 4] K) (enterFr [a0, a1]) st := by kernel_rfl
abbrev R_slices_AppendSeq_Stored_Stored (P : Program) : Prop := resFnH P n_slices_AppendSeq_Stored_Stored = some (13, c_slices_AppendSeq_Stored_Stored.er, [.tmp 4])
theorem A_slices_AppendSeq_Stored_Stored {P : Program} (h : R_slices_AppendSeq_Stored_Stored P) {a0 a1 : V} {st : St} {K : V → St → Prop} (hF : F_slices_AppendSeq_Stored_Stored P a0 a1 st K) : ACalls P n_slices_AppendSeq_Stored_Stored [a0, a1] st K :=
  ACalls_h h rfl (by simp) (q_slices_AppendSeq_Stored_Stored ▸ hF)

def c_vision_look_seen_1 : ACode := (.seq (.reg [⟨(some 6), none, (.ld none (.s 1))⟩, ⟨(some 7), none, (.len .sl (.s 6))⟩, ⟨(some 8), none, (.mov (.c (.int .i64 0)))⟩]) (.block 0 (.loop [8] [5, 8, 9, 10, 11, 12, 13, 14, 15, 16, 17, 18, 19, 20, 21, 22] (.seq (.reg [⟨(some 9), none, (.bin .lss (.s 8) (.s 7))⟩]) (.seq (.cond (.s 9) .skip (.exit 0)) (.seq (.block 1 (.seq (.reg [⟨(some 10), none, (.idx 10 (.s 6) (.s 8))⟩, ⟨(some 11), none, (.ld (some 10) (.s 10))⟩, ⟨(some 5), none, (.alloc [(.int .i64 0), (.int .i64 0), (.int .u32 0), (.int .u64 0), (.int .u64 0), (.int .i64 0), (.int .i64 0), (.int .i64 0), (.int .i64 0), (.int .i64 0)])⟩, ⟨none, none, (.st 10 (.s 5) (.s 11))⟩]) (.seq (.reg [⟨(some 12), none, (.ld (some 5) (.s 2))⟩, ⟨(some 13), none, (.fld 2 (.s 5))⟩, ⟨(some 14), none, (.ld (some 8) (.s 13))⟩, ⟨(some 15), none, (.call (.c (.fn (.func n_vision_look_sees) [] [])) [(.s 12), (.s 14)])⟩, ⟨(some 16), none, (.mov (.s 15))⟩, ⟨(some 17), (some (16, true)), (.mov (.s 0))⟩, ⟨(some 18), (some (16, true)), (.ld (some 10) (.s 5))⟩, ⟨(some 19), (some (16, true)), (.call (.s 17) [(.s 18)])⟩, ⟨(some 20), (some (16, true)), (.un .not (.s 19))⟩, ⟨(some 21), none, (.pick (.s 16) (.s 20) (.c (.bool false)))⟩]) (.cond (.s 21) .ret .skip)))) (.reg [⟨(some 22), none, (.bin .add (.s 8) (.c (.int .i64 1)))⟩, ⟨(some 8), none, (.mov (.s 22))⟩])))))))
def F_vision_look_seen_1 (P : Program) (a0 a1 a2 : V) (st : St) (K : V → St → Prop) : Prop :=
  @stp P (.ld none (.c a1)) st ⟨fun v6 st =>
  @stp P (.len .sl (.c v6)) st ⟨fun v7 st =>
  @Hold ⟨∃ I1 : Nat → Rel 1, (∃ k, GhostV [(.int .i64 0)] st (app (I1 k))) ∧ ∀ k1 v8, ∀ st, app (I1 k1) [v8] st →
    @stp P (.bin .lss (.c v8) (.c v7)) st ⟨fun v9 st =>
    @cnd v9 ⟨
      @stp P (.idx 10 (.c v6) (.c v8)) st ⟨fun v10 st =>
      @stp P (.ld (some 10) (.c v10)) st ⟨fun v11 st =>
      @stp P (.alloc [(.int .i64 0), (.int .i64 0), (.int .u32 0), (.int .u64 0), (.int .u64 0), (.int .i64 0), (.int .i64 0), (.int .i64 0), (.int .i64 0), (.int .i64 0)]) st ⟨fun v5 st =>
      @stp P (.st 10 (.c v5) (.c v11)) st ⟨fun _v st =>
      @stp P (.ld (some 5) (.c a2)) st ⟨fun v12 st =>
      @stp P (.fld 2 (.c v5)) st ⟨fun v13 st =>
      @stp P (.ld (some 8) (.c v13)) st ⟨fun v14 st =>
      @stp P (.call (.c (.fn (.func n_vision_look_sees) [] [])) [(.c v12), (.c v14)]) st ⟨fun v15 st =>
      @gst P v15 true (.mov (.c a0)) st ⟨fun v17 st =>
      @gst P v15 true (.ld (some 10) (.c v5)) st ⟨fun v18 st =>
      @gst P v15 true (.call (.c v17) [(.c v18)]) st ⟨fun v19 st =>
      @gst P v15 true (.un .not (.c v19)) st ⟨fun v20 st =>
      @stp P (.pick (.c v15) (.c v20) (.c (.bool false))) st ⟨fun v21 st =>
      @cnd v21 ⟨
        GhostV [] st fun vs st => K (mkres vs) st⟩
      ⟨
        @stp P (.bin .add (.c v8) (.c (.int .i64 1))) st ⟨fun v22 st =>
        ∃ j, j < k1 ∧ GhostV [v22] st (app (I1 j))⟩⟩⟩⟩⟩⟩⟩⟩⟩⟩⟩⟩⟩⟩⟩⟩
    ⟨
      GhostV [] st fun vs st => K (mkres vs) st⟩⟩⟩⟩⟩
theorem q_vision_look_seen_1 {P : Program} {a0 a1 a2 : V} {st : St} {K : V → St → Prop} : F_vision_look_seen_1 P a0 a1 a2 st K = hwp P c_vision_look_seen_1 (hretQ [] K) (enterFr [a0, a1, a2]) st := by kernel_rfl
abbrev R_vision_look_seen_1 (P : Program) : Prop := resFnH P n_vision_look_seen_1 = some (23, c_vision_look_seen_1.er, [])
theorem A_vision_look_seen_1 {P : Program} (h : R_vision_look_seen_1 P) {a0 a1 a2 : V} {st : St} {K : V → St → Prop} (hF : F_vision_look_seen_1 P a0 a1 a2 st K) : ACalls P n_vision_look_seen_1 [a0, a1, a2] st K :=
  ACalls_h h rfl (by simp) (q_vision_look_seen_1 ▸ hF)

end Go.Proofs.Ytmgkjbphlbpbfaa.AM
