import Derived.Test.YtmgkjbphlbpbfaaVA
import Derived.KernelRfl
namespace Go.Proofs.Ytmgkjbphlbpbfaa.AM
open Go
set_option linter.unusedVariables false

def c_gazetteerlaw18_VacuumDead : ACode := (.seq (.reg [⟨(some 3), none, (.box (.s 0))⟩, ⟨(some 6), none, (.mov (.c (.bool false)))⟩]) (.seq (.seq (.reg [⟨(some 14), none, (.call (.c (.fn (.func n_gazetteerlaw18_wakes) [] [])) [])⟩, ⟨(some 15), none, (.un .not (.s 14))⟩]) (.cond (.s 15) (.seq (.reg [⟨(some 6), none, (.mov (.c (.bool false)))⟩]) .ret) .skip)) (.seq (.reg [⟨(some 16), none, (.mov (.s 2))⟩, ⟨(some 17), none, (.call (.c (.fn (.func n_gazetteerlaw18_items) [] [])) [(.s 16)])⟩, ⟨(some 18), none, (.mov (.s 2))⟩, ⟨(some 19), none, (.call (.c (.fn (.func n_gazetteerlaw18_items) [] [])) [(.s 18)])⟩, ⟨(some 7), none, (.mov (.s 17))⟩, ⟨(some 8), none, (.mov (.s 19))⟩]) (.seq (.reg [⟨(some 20), none, (.ld (some 2) (.s 3))⟩, ⟨(some 21), none, (.call (.c (.fn (.func n_gazetteerlaw18_fates) [] [])) [(.s 20)])⟩, ⟨none, none, (.st 2 (.s 3) (.s 21))⟩]) (.seq (.reg [⟨(some 23), none, (.ld (some 2) (.s 3))⟩, ⟨(some 24), none, (.mov (.s 1))⟩, ⟨(some 25), none, (.mov (.s 7))⟩, ⟨(some 26), none, (.call (.c (.fn (.func n_vacuum_Dead) [] [])) [(.s 23), (.s 24), (.s 25)])⟩, ⟨(some 22), none, (.mov (.s 26))⟩, ⟨(some 27), none, (.ext 0 (.s 22))⟩, ⟨(some 28), none, (.ext 1 (.s 22))⟩, ⟨(some 9), none, (.mov (.s 27))⟩, ⟨(some 10), none, (.mov (.s 28))⟩]) (.seq (.seq (.reg [⟨(some 29), none, (.mov (.s 7))⟩, ⟨(some 30), none, (.mov (.s 8))⟩, ⟨(some 31), none, (.call (.c (.fn (.func n_gazetteerref17_Same) [] [])) [(.s 29), (.s 30)])⟩, ⟨(some 32), none, (.un .not (.s 31))⟩]) (.cond (.s 32) (.seq (.reg [⟨(some 6), none, (.mov (.c (.bool false)))⟩]) .ret) .skip)) (.seq (.block 0 (.seq (.reg [⟨(some 34), none, (.ld (some 2) (.s 3))⟩, ⟨(some 35), none, (.call (.c (.fn (.func n_gazetteerref17_Right) [] [])) [(.s 34)])⟩, ⟨(some 36), none, (.un .not (.s 35))⟩, ⟨(some 33), none, (.mov (.s 36))⟩]) (.cond (.s 33) (.seq (.reg [⟨(some 37), none, (.mov (.s 10))⟩, ⟨(some 38), none, (.bin .eql (.s 37) (.c (.int .i64 270)))⟩, ⟨(some 39), none, (.mov (.s 38))⟩, ⟨(some 40), (some (39, true)), (.mov (.s 9))⟩, ⟨(some 41), (some (39, true)), (.len .sl (.s 40))⟩, ⟨(some 42), (some (39, true)), (.bin .eql (.s 41) (.c (.int .i64 0)))⟩, ⟨(some 43), none, (.pick (.s 39) (.s 42) (.c (.bool false)))⟩, ⟨(some 6), none, (.mov (.s 43))⟩]) .ret) (.seq (.reg [⟨(some 45), none, (.mov (.s 8))⟩, ⟨(some 46), none, (.call (.c (.fn (.func n_gazetteerref17_All) [] [])) [(.s 45)])⟩, ⟨(some 47), none, (.un .not (.s 46))⟩, ⟨(some 44), none, (.mov (.s 47))⟩]) (.cond (.s 44) (.seq (.reg [⟨(some 48), none, (.mov (.s 10))⟩, ⟨(some 49), none, (.bin .eql (.s 48) (.c (.int .i64 200)))⟩, ⟨(some 50), none, (.mov (.s 49))⟩, ⟨(some 51), (some (50, true)), (.mov (.s 9))⟩, ⟨(some 52), (some (50, true)), (.len .sl (.s 51))⟩, ⟨(some 53), (some (50, true)), (.bin .eql (.s 52) (.c (.int .i64 0)))⟩, ⟨(some 54), none, (.pick (.s 50) (.s 53) (.c (.bool false)))⟩, ⟨(some 6), none, (.mov (.s 54))⟩]) .ret) .skip))))) (.seq (.reg [⟨(some 55), none, (.ld (some 2) (.s 3))⟩, ⟨(some 56), none, (.mov (.s 1))⟩, ⟨(some 57), none, (.mov (.s 8))⟩, ⟨(some 58), none, (.call (.c (.fn (.func n_gazetteerref18_Dead) [] [])) [(.s 55), (.s 56), (.s 57)])⟩, ⟨(some 11), none, (.mov (.s 58))⟩]) (.seq (.seq (.reg [⟨(some 59), none, (.mov (.s 10))⟩, ⟨(some 60), none, (.bin .neq (.s 59) (.c (.int .i64 0)))⟩, ⟨(some 61), none, (.mov (.s 60))⟩, ⟨(some 62), (some (61, false)), (.mov (.s 9))⟩, ⟨(some 63), (some (61, false)), (.mov (.s 11))⟩, ⟨(some 64), (some (61, false)), (.call (.c (.fn (.func n_gazetteerlaw18_same) [] [])) [(.s 62), (.s 63)])⟩, ⟨(some 65), (some (61, false)), (.un .not (.s 64))⟩, ⟨(some 66), none, (.pick (.s 61) (.c (.bool true)) (.s 65))⟩]) (.cond (.s 66) (.seq (.reg [⟨(some 6), none, (.mov (.c (.bool false)))⟩]) .ret) .skip)) (.seq (.reg [⟨(some 67), none, (.mov (.s 7))⟩, ⟨(some 68), none, (.mov (.s 9))⟩, ⟨(some 69), none, (.call (.c (.fn (.func n_vacuum_Left) [] [])) [(.s 67), (.s 68)])⟩, ⟨(some 12), none, (.mov (.s 69))⟩]) (.seq (.seq (.reg [⟨(some 70), none, (.mov (.s 12))⟩, ⟨(some 71), none, (.mov (.s 8))⟩, ⟨(some 72), none, (.mov (.s 11))⟩, ⟨(some 73), none, (.call (.c (.fn (.func n_gazetteerref18_Left) [] [])) [(.s 71), (.s 72)])⟩, ⟨(some 74), none, (.call (.c (.fn (.func n_gazetteerref17_Same) [] [])) [(.s 70), (.s 73)])⟩, ⟨(some 75), none, (.un .not (.s 74))⟩]) (.cond (.s 75) (.seq (.reg [⟨(some 6), none, (.mov (.c (.bool false)))⟩]) .ret) .skip)) (.seq (.seq (.reg [⟨(some 76), none, (.mov (.s 12))⟩, ⟨(some 77), none, (.len .sl (.s 76))⟩, ⟨(some 78), none, (.mov (.c (.int .i64 0)))⟩]) (.block 1 (.loop [78] [13, 78, 79, 80, 81, 82, 83, 84, 85, 86] (.seq (.reg [⟨(some 79), none, (.bin .lss (.s 78) (.s 77))⟩]) (.seq (.cond (.s 79) .skip (.exit 1)) (.seq (.block 2 (.seq (.reg [⟨(some 80), none, (.mov (.s 78))⟩, ⟨(some 13), none, (.mov (.s 80))⟩]) (.reg [⟨(some 81), none, (.mov (.s 12))⟩, ⟨(some 82), none, (.mov (.s 13))⟩, ⟨(some 83), none, (.idx 10 (.s 81) (.s 82))⟩, ⟨(some 84), none, (.fld 0 (.s 83))⟩, ⟨(some 85), none, (.fld 0 (.s 84))⟩, ⟨none, none, (.st 1 (.s 85) (.c (.int .i64 99)))⟩]))) (.reg [⟨(some 86), none, (.bin .add (.s 78) (.c (.int .i64 1)))⟩, ⟨(some 78), none, (.mov (.s 86))⟩]))))))) (.seq (.reg [⟨(some 87), none, (.mov (.s 7))⟩, ⟨(some 88), none, (.mov (.s 8))⟩, ⟨(some 89), none, (.call (.c (.fn (.func n_gazetteerref17_Same) [] [])) [(.s 87), (.s 88)])⟩, ⟨(some 6), none, (.mov (.s 89))⟩]) .ret)))))))))))))
def F_gazetteerlaw18_VacuumDead (P : Program) (a0 a1 a2 : V) (st : St) (K : V → St → Prop) : Prop :=
  @stp P (.box (.c a0)) st ⟨fun v3 st =>
  @stp P (.call (.c (.fn (.func n_gazetteerlaw18_wakes) [] [])) []) st ⟨fun v14 st =>
  @stp P (.un .not (.c v14)) st ⟨fun v15 st =>
  @cnd v15 ⟨
    GhostV [(.bool false)] st fun vs st => K (mkres vs) st⟩
  ⟨
    @stp P (.call (.c (.fn (.func n_gazetteerlaw18_items) [] [])) [(.c a2)]) st ⟨fun v17 st =>
    @stp P (.call (.c (.fn (.func n_gazetteerlaw18_items) [] [])) [(.c a2)]) st ⟨fun v19 st =>
    @stp P (.ld (some 2) (.c v3)) st ⟨fun v20 st =>
    @stp P (.call (.c (.fn (.func n_gazetteerlaw18_fates) [] [])) [(.c v20)]) st ⟨fun v21 st =>
    @stp P (.st 2 (.c v3) (.c v21)) st ⟨fun _v st =>
    @stp P (.ld (some 2) (.c v3)) st ⟨fun v23 st =>
    @stp P (.call (.c (.fn (.func n_vacuum_Dead) [] [])) [(.c v23), (.c a1), (.c v17)]) st ⟨fun v26 st =>
    @stp P (.ext 0 (.c v26)) st ⟨fun v27 st =>
    @stp P (.ext 1 (.c v26)) st ⟨fun v28 st =>
    @stp P (.call (.c (.fn (.func n_gazetteerref17_Same) [] [])) [(.c v17), (.c v19)]) st ⟨fun v31 st =>
    @stp P (.un .not (.c v31)) st ⟨fun v32 st =>
    @cnd v32 ⟨
      GhostV [(.bool false)] st fun vs st => K (mkres vs) st⟩
    ⟨
      @stp P (.ld (some 2) (.c v3)) st ⟨fun v34 st =>
      @stp P (.call (.c (.fn (.func n_gazetteerref17_Right) [] [])) [(.c v34)]) st ⟨fun v35 st =>
      @stp P (.un .not (.c v35)) st ⟨fun v36 st =>
      @cnd v36 ⟨
        @stp P (.bin .eql (.c v28) (.c (.int .i64 270))) st ⟨fun v38 st =>
        @gst P v38 true (.mov (.c v27)) st ⟨fun v40 st =>
        @gst P v38 true (.len .sl (.c v40)) st ⟨fun v41 st =>
        @gst P v38 true (.bin .eql (.c v41) (.c (.int .i64 0))) st ⟨fun v42 st =>
        @stp P (.pick (.c v38) (.c v42) (.c (.bool false))) st ⟨fun v43 st =>
        GhostV [v43] st fun vs st => K (mkres vs) st⟩⟩⟩⟩⟩⟩
      ⟨
        @stp P (.call (.c (.fn (.func n_gazetteerref17_All) [] [])) [(.c v19)]) st ⟨fun v46 st =>
        @stp P (.un .not (.c v46)) st ⟨fun v47 st =>
        @cnd v47 ⟨
          @stp P (.bin .eql (.c v28) (.c (.int .i64 200))) st ⟨fun v49 st =>
          @gst P v49 true (.mov (.c v27)) st ⟨fun v51 st =>
          @gst P v49 true (.len .sl (.c v51)) st ⟨fun v52 st =>
          @gst P v49 true (.bin .eql (.c v52) (.c (.int .i64 0))) st ⟨fun v53 st =>
          @stp P (.pick (.c v49) (.c v53) (.c (.bool false))) st ⟨fun v54 st =>
          GhostV [v54] st fun vs st => K (mkres vs) st⟩⟩⟩⟩⟩⟩
        ⟨
          @stp P (.ld (some 2) (.c v3)) st ⟨fun v55 st =>
          @stp P (.call (.c (.fn (.func n_gazetteerref18_Dead) [] [])) [(.c v55), (.c a1), (.c v19)]) st ⟨fun v58 st =>
          @stp P (.bin .neq (.c v28) (.c (.int .i64 0))) st ⟨fun v60 st =>
          @gst P v60 false (.mov (.c v27)) st ⟨fun v62 st =>
          @gst P v60 false (.mov (.c v58)) st ⟨fun v63 st =>
          @gst P v60 false (.call (.c (.fn (.func n_gazetteerlaw18_same) [] [])) [(.c v62), (.c v63)]) st ⟨fun v64 st =>
          @gst P v60 false (.un .not (.c v64)) st ⟨fun v65 st =>
          @stp P (.pick (.c v60) (.c (.bool true)) (.c v65)) st ⟨fun v66 st =>
          @cnd v66 ⟨
            GhostV [(.bool false)] st fun vs st => K (mkres vs) st⟩
          ⟨
            @stp P (.call (.c (.fn (.func n_vacuum_Left) [] [])) [(.c v17), (.c v27)]) st ⟨fun v69 st =>
            @stp P (.call (.c (.fn (.func n_gazetteerref18_Left) [] [])) [(.c v19), (.c v58)]) st ⟨fun v73 st =>
            @stp P (.call (.c (.fn (.func n_gazetteerref17_Same) [] [])) [(.c v69), (.c v73)]) st ⟨fun v74 st =>
            @stp P (.un .not (.c v74)) st ⟨fun v75 st =>
            @cnd v75 ⟨
              GhostV [(.bool false)] st fun vs st => K (mkres vs) st⟩
            ⟨
              @stp P (.len .sl (.c v69)) st ⟨fun v77 st =>
              @Hold ⟨∃ I1 : Nat → Rel 1, (∃ k, GhostV [(.int .i64 0)] st (app (I1 k))) ∧ ∀ k1 v78, ∀ st, app (I1 k1) [v78] st →
                @stp P (.bin .lss (.c v78) (.c v77)) st ⟨fun v79 st =>
                @cnd v79 ⟨
                  @stp P (.idx 10 (.c v69) (.c v78)) st ⟨fun v83 st =>
                  @stp P (.fld 0 (.c v83)) st ⟨fun v84 st =>
                  @stp P (.fld 0 (.c v84)) st ⟨fun v85 st =>
                  @stp P (.st 1 (.c v85) (.c (.int .i64 99))) st ⟨fun _v st =>
                  @stp P (.bin .add (.c v78) (.c (.int .i64 1))) st ⟨fun v86 st =>
                  ∃ j, j < k1 ∧ GhostV [v86] st (app (I1 j))⟩⟩⟩⟩⟩⟩
                ⟨
                  @stp P (.call (.c (.fn (.func n_gazetteerref17_Same) [] [])) [(.c v17), (.c v19)]) st ⟨fun v89 st =>
                  GhostV [v89] st fun vs st => K (mkres vs) st⟩⟩⟩⟩⟩⟩⟩⟩⟩⟩⟩⟩⟩⟩⟩⟩⟩⟩⟩⟩⟩⟩⟩⟩⟩⟩⟩⟩⟩⟩⟩⟩⟩⟩⟩⟩⟩⟩⟩⟩⟩⟩
theorem q_gazetteerlaw18_VacuumDead {P : Program} {a0 a1 a2 : V} {st : St} {K : V → St → Prop} : F_gazetteerlaw18_VacuumDead P a0 a1 a2 st K = hwp P c_gazetteerlaw18_VacuumDead (hretQ [.tmp 6] K) (enterFr [a0, a1, a2]) st := by kernel_rfl
abbrev R_gazetteerlaw18_VacuumDead (P : Program) : Prop := resFnH P n_gazetteerlaw18_VacuumDead = some (90, c_gazetteerlaw18_VacuumDead.er, [.tmp 6])
theorem A_gazetteerlaw18_VacuumDead {P : Program} (h : R_gazetteerlaw18_VacuumDead P) {a0 a1 a2 : V} {st : St} {K : V → St → Prop} (hF : F_gazetteerlaw18_VacuumDead P a0 a1 a2 st K) : ACalls P n_gazetteerlaw18_VacuumDead [a0, a1, a2] st K :=
  ACalls_h h rfl (by simp) (q_gazetteerlaw18_VacuumDead ▸ hF)

def c_gazetteerlaw18_items : ACode := (.seq (.reg [⟨(some 2), none, (.mov (.c (.sl .nil 0 [] [])))⟩]) (.seq (.reg [⟨(some 3), none, (.mkSl 10 0 [(.int .i64 0), (.int .i64 0), (.int .u32 0), (.int .u64 0), (.int .u64 0), (.int .i64 0), (.int .i64 0), (.int .i64 0), (.int .i64 0), (.int .i64 0)] [])⟩, ⟨(some 4), none, (.mov (.s 0))⟩, ⟨(some 5), none, (.mov (.s 0))⟩, ⟨(some 6), none, (.len .sl (.s 5))⟩, ⟨(some 7), none, (.minmax false (.s 6) [(.c (.int .i64 130))])⟩, ⟨(some 8), none, (.slice 10 (.s 4) none (some (.s 7)) none)⟩, ⟨(some 9), none, (.append 10 80 (.s 3) (.s 8))⟩, ⟨(some 2), none, (.mov (.s 9))⟩]) .ret))
def F_gazetteerlaw18_items (P : Program) (a0 : V) (st : St) (K : V → St → Prop) : Prop :=
  @stp P (.mkSl 10 0 [(.int .i64 0), (.int .i64 0), (.int .u32 0), (.int .u64 0), (.int .u64 0), (.int .i64 0), (.int .i64 0), (.int .i64 0), (.int .i64 0), (.int .i64 0)] []) st ⟨fun v3 st =>
  @stp P (.len .sl (.c a0)) st ⟨fun v6 st =>
  @stp P (.minmax false (.c v6) [(.c (.int .i64 130))]) st ⟨fun v7 st =>
  @stp P (.slice 10 (.c a0) none (some (.c v7)) none) st ⟨fun v8 st =>
  @stp P (.append 10 80 (.c v3) (.c v8)) st ⟨fun v9 st =>
  GhostV [v9] st fun vs st => K (mkres vs) st⟩⟩⟩⟩⟩
theorem q_gazetteerlaw18_items {P : Program} {a0 : V} {st : St} {K : V → St → Prop} : F_gazetteerlaw18_items P a0 st K = hwp P c_gazetteerlaw18_items (hretQ [.tmp 2] K) (enterFr [a0]) st := by kernel_rfl
abbrev R_gazetteerlaw18_items (P : Program) : Prop := resFnH P n_gazetteerlaw18_items = some (10, c_gazetteerlaw18_items.er, [.tmp 2])
theorem A_gazetteerlaw18_items {P : Program} (h : R_gazetteerlaw18_items P) {a0 : V} {st : St} {K : V → St → Prop} (hF : F_gazetteerlaw18_items P a0 st K) : ACalls P n_gazetteerlaw18_items [a0] st K :=
  ACalls_h h rfl (by simp) (q_gazetteerlaw18_items ▸ hF)

def c_gazetteerlaw18_fates : ACode := (.seq (.reg [⟨(some 1), none, (.box (.s 0))⟩, ⟨(some 2), none, (.alloc [(.int .u64 0), (.sl .nil 0 [] [])])⟩]) (.seq (.regD [⟨(some 3), none, (.fld 0 (.s 1))⟩, ⟨(some 4), none, (.ld none (.s 3))⟩, ⟨(some 5), none, (.mkSl 2 0 [(.int .u64 0), (.int .u64 0)] [])⟩, ⟨(some 6), none, (.fld 1 (.s 1))⟩, ⟨(some 7), none, (.ld none (.s 6))⟩, ⟨(some 8), none, (.fld 1 (.s 1))⟩, ⟨(some 9), none, (.ld none (.s 8))⟩, ⟨(some 10), none, (.len .sl (.s 9))⟩, ⟨(some 11), none, (.minmax false (.s 10) [(.c (.int .i64 257))])⟩, ⟨(some 12), none, (.slice 2 (.s 7) none (some (.s 11)) none)⟩, ⟨(some 13), none, (.append 2 16 (.s 5) (.s 12))⟩, ⟨(some 14), none, (.build [(.int .u64 0), (.sl .nil 0 [] [])] [(0, (1, (.s 4))), (1, (1, (.s 13)))])⟩, ⟨none, none, (.st 2 (.s 2) (.s 14))⟩] [(0, (false, [])), (1, (false, [])), (3, (false, [])), (4, (false, [])), (5, (false, [])), (6, (false, [])), (7, (false, [])), (8, (false, [])), (9, (false, [])), (2, (true, [9, 8, 7, 6, 5, 4, 3, 1, 0])), (10, (true, [1, 0])), (11, (false, [])), (12, (true, []))]) .ret))
def F_gazetteerlaw18_fates (P : Program) (a0 : V) (st : St) (K : V → St → Prop) : Prop :=
  @stp P (.box (.c a0)) st ⟨fun v1 st =>
  @stp P (.alloc [(.int .u64 0), (.sl .nil 0 [] [])]) st ⟨fun v2 st =>
  @stpD P (.fld 0 (.c v1)) st ⟨fun v3 st =>
  @stpD P (.ld none (.c v3)) st ⟨fun v4 st =>
  @stpD P (.fld 1 (.c v1)) st ⟨fun v6 st =>
  @stpD P (.ld none (.c v6)) st ⟨fun v7 st =>
  @stpD P (.fld 1 (.c v1)) st ⟨fun v8 st =>
  @stpD P (.ld none (.c v8)) st ⟨fun v9 st =>
  @stpD P (.len .sl (.c v9)) st ⟨fun v10 st =>
  @stpD P (.minmax false (.c v10) [(.c (.int .i64 257))]) st ⟨fun v11 st =>
  @stpD P (.slice 2 (.c v7) none (some (.c v11)) none) st ⟨fun v12 st =>
  @stpD P (.mkSl 2 0 [(.int .u64 0), (.int .u64 0)] []) st ⟨fun v5 st =>
  hwat P none (.slice 2 (.c v7) none (some (.c v11)) none) st v12 ∧ (
  hwat P none (.minmax false (.c v10) [(.c (.int .i64 257))]) st v11 ∧ (
  hwat P none (.len .sl (.c v9)) st v10 ∧ (
  hwat P none (.ld none (.c v8)) st v9 ∧ (
  hwat P none (.fld 1 (.c v1)) st v8 ∧ (
  hwat P none (.ld none (.c v6)) st v7 ∧ (
  hwat P none (.fld 1 (.c v1)) st v6 ∧ (
  hwat P none (.ld none (.c v3)) st v4 ∧ (
  hwat P none (.fld 0 (.c v1)) st v3 ∧ (
  @stpD P (.append 2 16 (.c v5) (.c v12)) st ⟨fun v13 st =>
  hwat P none (.ld none (.c v3)) st v4 ∧ (
  hwat P none (.fld 0 (.c v1)) st v3 ∧ (
  @stpD P (.build [(.int .u64 0), (.sl .nil 0 [] [])] [(0, 1, (.c v4)), (1, 1, (.c v13))]) st ⟨fun v14 st =>
  @stpD P (.st 2 (.c v2) (.c v14)) st ⟨fun _v st =>
  @ldr (some 2) v2 st ⟨fun r1 =>
  GhostV [r1] st fun vs st => K (mkres vs) st⟩⟩⟩))⟩)))))))))⟩⟩⟩⟩⟩⟩⟩⟩⟩⟩⟩⟩
theorem q_gazetteerlaw18_fates {P : Program} {a0 : V} {st : St} {K : V → St → Prop} : F_gazetteerlaw18_fates P a0 st K = hwp P c_gazetteerlaw18_fates (hretQ [.cell 2 (some 2)] K) (enterFr [a0]) st := by kernel_rfl
abbrev R_gazetteerlaw18_fates (P : Program) : Prop := resFnH P n_gazetteerlaw18_fates = some (15, c_gazetteerlaw18_fates.er, [.cell 2 (some 2)])
theorem A_gazetteerlaw18_fates {P : Program} (h : R_gazetteerlaw18_fates P) {a0 : V} {st : St} {K : V → St → Prop} (hF : F_gazetteerlaw18_fates P a0 st K) : ACalls P n_gazetteerlaw18_fates [a0] st K :=
  ACalls_h h rfl (by simp) (q_gazetteerlaw18_fates ▸ hF)

def c_gazetteerref17_Same : ACode := (.seq (.reg [⟨(some 4), none, (.mov (.c (.bool false)))⟩]) (.seq (.seq (.reg [⟨(some 6), none, (.mov (.s 0))⟩, ⟨(some 7), none, (.len .sl (.s 6))⟩, ⟨(some 8), none, (.mov (.s 1))⟩, ⟨(some 9), none, (.len .sl (.s 8))⟩, ⟨(some 10), none, (.bin .neq (.s 7) (.s 9))⟩]) (.cond (.s 10) (.seq (.reg [⟨(some 4), none, (.mov (.c (.bool false)))⟩]) .ret) .skip)) (.seq (.seq (.reg [⟨(some 5), none, (.mov (.c (.int .i64 0)))⟩]) (.block 0 (.loop [5] [4, 5, 11, 12, 13, 14, 15, 16, 17, 18, 19, 20, 21, 22, 23, 24, 25] (.seq (.seq (.reg [⟨(some 11), none, (.mov (.s 5))⟩, ⟨(some 12), none, (.mov (.s 0))⟩, ⟨(some 13), none, (.len .sl (.s 12))⟩, ⟨(some 14), none, (.bin .lss (.s 11) (.s 13))⟩]) (.cond (.s 14) .skip (.exit 0))) (.seq (.block 1 (.seq (.regD [⟨(some 17), none, (.mov (.s 0))⟩, ⟨(some 18), none, (.mov (.s 5))⟩, ⟨(some 19), none, (.idx 10 (.s 17) (.s 18))⟩, ⟨(some 20), none, (.ld (some 10) (.s 19))⟩, ⟨(some 21), none, (.mov (.s 1))⟩, ⟨(some 22), none, (.mov (.s 5))⟩, ⟨(some 23), none, (.idx 10 (.s 21) (.s 22))⟩, ⟨(some 24), none, (.ld (some 10) (.s 23))⟩, ⟨(some 25), none, (.eqs true (.flat [.int, .int, .int, .int, .int, .int, .int, .int, .int, .int]) (.s 20) (.s 24))⟩] [(0, (false, [])), (1, (false, [])), (2, (false, [])), (3, (false, [])), (4, (false, [])), (5, (false, [])), (6, (false, [])), (7, (false, [])), (8, (false, []))]) (.cond (.s 25) (.seq (.reg [⟨(some 4), none, (.mov (.c (.bool false)))⟩]) .ret) .skip))) (.reg [⟨(some 15), none, (.mov (.s 5))⟩, ⟨(some 16), none, (.bin .add (.s 15) (.c (.int .i64 1)))⟩, ⟨(some 5), none, (.mov (.s 16))⟩])))))) (.seq (.reg [⟨(some 4), none, (.mov (.c (.bool true)))⟩]) .ret))))
def F_gazetteerref17_Same (P : Program) (a0 a1 : V) (st : St) (K : V → St → Prop) : Prop :=
  @stp P (.len .sl (.c a0)) st ⟨fun v7 st =>
  @stp P (.len .sl (.c a1)) st ⟨fun v9 st =>
  @stp P (.bin .neq (.c v7) (.c v9)) st ⟨fun v10 st =>
  @cnd v10 ⟨
    GhostV [(.bool false)] st fun vs st => K (mkres vs) st⟩
  ⟨
    @Hold ⟨∃ I1 : Nat → Rel 1, (∃ k, GhostV [(.int .i64 0)] st (app (I1 k))) ∧ ∀ k1 v5, ∀ st, app (I1 k1) [v5] st →
      @stp P (.len .sl (.c a0)) st ⟨fun v13 st =>
      @stp P (.bin .lss (.c v5) (.c v13)) st ⟨fun v14 st =>
      @cnd v14 ⟨
        @stpD P (.idx 10 (.c a0) (.c v5)) st ⟨fun v19 st =>
        @stpD P (.ld (some 10) (.c v19)) st ⟨fun v20 st =>
        @stpD P (.idx 10 (.c a1) (.c v5)) st ⟨fun v23 st =>
        @stpD P (.ld (some 10) (.c v23)) st ⟨fun v24 st =>
        @stpD P (.eqs true (.flat [.int, .int, .int, .int, .int, .int, .int, .int, .int, .int]) (.c v20) (.c v24)) st ⟨fun v25 st =>
        @cnd v25 ⟨
          GhostV [(.bool false)] st fun vs st => K (mkres vs) st⟩
        ⟨
          @stp P (.bin .add (.c v5) (.c (.int .i64 1))) st ⟨fun v16 st =>
          ∃ j, j < k1 ∧ GhostV [v16] st (app (I1 j))⟩⟩⟩⟩⟩⟩⟩⟩
      ⟨
        GhostV [(.bool true)] st fun vs st => K (mkres vs) st⟩⟩⟩⟩⟩⟩⟩⟩
theorem q_gazetteerref17_Same {P : Program} {a0 a1 : V} {st : St} {K : V → St → Prop} : F_gazetteerref17_Same P a0 a1 st K = hwp P c_gazetteerref17_Same (hretQ [.tmp 4] K) (enterFr [a0, a1]) st := by kernel_rfl
abbrev R_gazetteerref17_Same (P : Program) : Prop := resFnH P n_gazetteerref17_Same = some (26, c_gazetteerref17_Same.er, [.tmp 4])
theorem A_gazetteerref17_Same {P : Program} (h : R_gazetteerref17_Same P) {a0 a1 : V} {st : St} {K : V → St → Prop} (hF : F_gazetteerref17_Same P a0 a1 st K) : ACalls P n_gazetteerref17_Same [a0, a1] st K :=
  ACalls_h h rfl (by simp) (q_gazetteerref17_Same ▸ hF)

def c_gazetteerref17_Right : ACode := (.seq (.reg [⟨(some 1), none, (.box (.s 0))⟩, ⟨(some 2), none, (.mov (.c (.bool false)))⟩]) (.seq (.seq (.reg [⟨(some 6), none, (.fld 0 (.s 1))⟩, ⟨(some 7), none, (.ld none (.s 6))⟩, ⟨(some 8), none, (.bin .eql (.s 7) (.c (.int .u64 0)))⟩, ⟨(some 9), none, (.mov (.s 8))⟩, ⟨(some 10), (some (9, false)), (.fld 1 (.s 1))⟩, ⟨(some 11), (some (9, false)), (.ld none (.s 10))⟩, ⟨(some 12), (some (9, false)), (.len .sl (.s 11))⟩, ⟨(some 13), (some (9, false)), (.bin .gtr (.s 12) (.c (.int .i64 256)))⟩, ⟨(some 14), none, (.pick (.s 9) (.c (.bool true)) (.s 13))⟩]) (.cond (.s 14) (.seq (.reg [⟨(some 2), none, (.mov (.c (.bool false)))⟩]) .ret) .skip)) (.seq (.seq (.reg [⟨(some 3), none, (.mov (.c (.int .i64 0)))⟩]) (.block 0 (.loop [3] [2, 3, 4, 5, 15, 16, 17, 18, 19, 20, 21, 22, 23, 24, 25, 26, 27, 28, 29, 30, 31, 32, 33, 34, 35, 36, 37, 38, 39, 40, 41, 42, 43, 44, 45, 46, 47, 48, 49, 50, 51, 52, 53, 54, 55, 56, 57, 58, 59, 60, 61, 62, 63, 64, 65, 66] (.seq (.seq (.reg [⟨(some 15), none, (.mov (.s 3))⟩, ⟨(some 16), none, (.fld 1 (.s 1))⟩, ⟨(some 17), none, (.ld none (.s 16))⟩, ⟨(some 18), none, (.len .sl (.s 17))⟩, ⟨(some 19), none, (.bin .lss (.s 15) (.s 18))⟩]) (.cond (.s 19) .skip (.exit 0))) (.seq (.block 1 (.seq (.reg [⟨(some 22), none, (.fld 1 (.s 1))⟩, ⟨(some 23), none, (.ld none (.s 22))⟩, ⟨(some 24), none, (.mov (.s 3))⟩, ⟨(some 25), none, (.idx 2 (.s 23) (.s 24))⟩, ⟨(some 26), none, (.ld (some 2) (.s 25))⟩, ⟨(some 4), none, (.alloc [(.int .u64 0), (.int .u64 0)])⟩, ⟨none, none, (.st 2 (.s 4) (.s 26))⟩]) (.seq (.seq (.regD [⟨(some 27), none, (.fld 0 (.s 4))⟩, ⟨(some 28), none, (.ld none (.s 27))⟩, ⟨(some 29), none, (.fld 0 (.s 1))⟩, ⟨(some 30), none, (.ld none (.s 29))⟩, ⟨(some 31), none, (.bin .lss (.s 28) (.s 30))⟩, ⟨(some 32), none, (.mov (.s 31))⟩, ⟨(some 33), (some (32, false)), (.mov (.s 3))⟩, ⟨(some 34), (some (32, false)), (.bin .gtr (.s 33) (.c (.int .i64 0)))⟩, ⟨(some 35), (some (32, false)), (.mov (.s 34))⟩, ⟨(some 36), (some (35, true)), (.fld 0 (.s 4))⟩, ⟨(some 37), (some (35, true)), (.ld none (.s 36))⟩, ⟨(some 38), (some (35, true)), (.fld 1 (.s 1))⟩, ⟨(some 39), (some (35, true)), (.ld none (.s 38))⟩, ⟨(some 40), (some (35, true)), (.mov (.s 3))⟩, ⟨(some 41), (some (35, true)), (.bin .sub (.s 40) (.c (.int .i64 1)))⟩, ⟨(some 42), (some (35, true)), (.idx 2 (.s 39) (.s 41))⟩, ⟨(some 43), (some (35, true)), (.fld 0 (.s 42))⟩, ⟨(some 44), (some (35, true)), (.ld none (.s 43))⟩, ⟨(some 45), (some (35, true)), (.bin .leq (.s 37) (.s 44))⟩, ⟨(some 46), (some (32, false)), (.pick (.s 35) (.s 45) (.c (.bool false)))⟩, ⟨(some 47), none, (.pick (.s 32) (.c (.bool true)) (.s 46))⟩] [(0, (false, [])), (1, (false, [])), (2, (false, [])), (3, (false, [])), (4, (false, [])), (5, (false, [])), (6, (false, [])), (7, (false, [])), (8, (false, [])), (9, (false, [])), (10, (false, [])), (11, (false, [])), (12, (false, [])), (13, (false, [])), (14, (false, [])), (15, (false, [])), (16, (false, [])), (17, (false, [])), (18, (false, [])), (19, (false, [])), (20, (false, []))]) (.cond (.s 47) (.seq (.reg [⟨(some 2), none, (.mov (.c (.bool false)))⟩]) .ret) .skip)) (.seq (.reg [⟨(some 5), none, (.mov (.c (.int .i64 0)))⟩]) (.block 2 (.loop [5] [2, 5, 48, 49, 50, 51, 52, 53, 54, 55, 56, 57, 58, 59, 60, 61, 62, 63, 64, 65, 66] (.seq (.seq (.reg [⟨(some 48), none, (.mov (.s 5))⟩, ⟨(some 49), none, (.mov (.s 3))⟩, ⟨(some 50), none, (.bin .lss (.s 48) (.s 49))⟩]) (.cond (.s 50) .skip (.exit 2))) (.seq (.block 3 (.seq (.regD [⟨(some 53), none, (.fld 1 (.s 4))⟩, ⟨(some 54), none, (.ld none (.s 53))⟩, ⟨(some 55), none, (.bin .neq (.s 54) (.c (.int .u64 0)))⟩, ⟨(some 56), none, (.mov (.s 55))⟩, ⟨(some 57), (some (56, true)), (.fld 1 (.s 1))⟩, ⟨(some 58), (some (56, true)), (.ld none (.s 57))⟩, ⟨(some 59), (some (56, true)), (.mov (.s 5))⟩, ⟨(some 60), (some (56, true)), (.idx 2 (.s 58) (.s 59))⟩, ⟨(some 61), (some (56, true)), (.fld 1 (.s 60))⟩, ⟨(some 62), (some (56, true)), (.ld none (.s 61))⟩, ⟨(some 63), (some (56, true)), (.fld 1 (.s 4))⟩, ⟨(some 64), (some (56, true)), (.ld none (.s 63))⟩, ⟨(some 65), (some (56, true)), (.bin .eql (.s 62) (.s 64))⟩, ⟨(some 66), none, (.pick (.s 56) (.s 65) (.c (.bool false)))⟩] [(0, (false, [])), (1, (false, [])), (2, (false, [])), (3, (false, [])), (4, (false, [])), (5, (false, [])), (6, (false, [])), (7, (false, [])), (8, (false, [])), (9, (false, [])), (10, (false, [])), (11, (false, [])), (12, (false, [])), (13, (false, []))]) (.cond (.s 66) (.seq (.reg [⟨(some 2), none, (.mov (.c (.bool false)))⟩]) .ret) .skip))) (.reg [⟨(some 51), none, (.mov (.s 5))⟩, ⟨(some 52), none, (.bin .add (.s 51) (.c (.int .i64 1)))⟩, ⟨(some 5), none, (.mov (.s 52))⟩]))))))))) (.reg [⟨(some 20), none, (.mov (.s 3))⟩, ⟨(some 21), none, (.bin .add (.s 20) (.c (.int .i64 1)))⟩, ⟨(some 3), none, (.mov (.s 21))⟩])))))) (.seq (.reg [⟨(some 2), none, (.mov (.c (.bool true)))⟩]) .ret))))
def F_gazetteerref17_Right (P : Program) (a0 : V) (st : St) (K : V → St → Prop) : Prop :=
  @stp P (.box (.c a0)) st ⟨fun v1 st =>
  @stp P (.fld 0 (.c v1)) st ⟨fun v6 st =>
  @stp P (.ld none (.c v6)) st ⟨fun v7 st =>
  @stp P (.bin .eql (.c v7) (.c (.int .u64 0))) st ⟨fun v8 st =>
  @gst P v8 false (.fld 1 (.c v1)) st ⟨fun v10 st =>
  @gst P v8 false (.ld none (.c v10)) st ⟨fun v11 st =>
  @gst P v8 false (.len .sl (.c v11)) st ⟨fun v12 st =>
  @gst P v8 false (.bin .gtr (.c v12) (.c (.int .i64 256))) st ⟨fun v13 st =>
  @stp P (.pick (.c v8) (.c (.bool true)) (.c v13)) st ⟨fun v14 st =>
  @cnd v14 ⟨
    GhostV [(.bool false)] st fun vs st => K (mkres vs) st⟩
  ⟨
    @Hold ⟨∃ I1 : Nat → Rel 1, (∃ k, GhostV [(.int .i64 0)] st (app (I1 k))) ∧ ∀ k1 v3, ∀ st, app (I1 k1) [v3] st →
      @stp P (.fld 1 (.c v1)) st ⟨fun v16 st =>
      @stp P (.ld none (.c v16)) st ⟨fun v17 st =>
      @stp P (.len .sl (.c v17)) st ⟨fun v18 st =>
      @stp P (.bin .lss (.c v3) (.c v18)) st ⟨fun v19 st =>
      @cnd v19 ⟨
        @stp P (.fld 1 (.c v1)) st ⟨fun v22 st =>
        @stp P (.ld none (.c v22)) st ⟨fun v23 st =>
        @stp P (.idx 2 (.c v23) (.c v3)) st ⟨fun v25 st =>
        @stp P (.ld (some 2) (.c v25)) st ⟨fun v26 st =>
        @stp P (.alloc [(.int .u64 0), (.int .u64 0)]) st ⟨fun v4 st =>
        @stp P (.st 2 (.c v4) (.c v26)) st ⟨fun _v st =>
        @stpD P (.fld 0 (.c v4)) st ⟨fun v27 st =>
        @stpD P (.ld none (.c v27)) st ⟨fun v28 st =>
        @stpD P (.fld 0 (.c v1)) st ⟨fun v29 st =>
        @stpD P (.ld none (.c v29)) st ⟨fun v30 st =>
        @stpD P (.bin .lss (.c v28) (.c v30)) st ⟨fun v31 st =>
        @gstD P v31 false (.mov (.c v3)) st ⟨fun v33 st =>
        @gstD P v31 false (.bin .gtr (.c v33) (.c (.int .i64 0))) st ⟨fun v34 st =>
        @gstD P v31 false (.mov (.c v34)) st ⟨fun v35 st =>
        @gstD P v35 true (.fld 0 (.c v4)) st ⟨fun v36 st =>
        @gstD P v35 true (.ld none (.c v36)) st ⟨fun v37 st =>
        @gstD P v35 true (.fld 1 (.c v1)) st ⟨fun v38 st =>
        @gstD P v35 true (.ld none (.c v38)) st ⟨fun v39 st =>
        @gstD P v35 true (.mov (.c v3)) st ⟨fun v40 st =>
        @gstD P v35 true (.bin .sub (.c v40) (.c (.int .i64 1))) st ⟨fun v41 st =>
        @gstD P v35 true (.idx 2 (.c v39) (.c v41)) st ⟨fun v42 st =>
        @gstD P v35 true (.fld 0 (.c v42)) st ⟨fun v43 st =>
        @gstD P v35 true (.ld none (.c v43)) st ⟨fun v44 st =>
        @gstD P v35 true (.bin .leq (.c v37) (.c v44)) st ⟨fun v45 st =>
        @gstD P v31 false (.pick (.c v35) (.c v45) (.c (.bool false))) st ⟨fun v46 st =>
        @stpD P (.pick (.c v31) (.c (.bool true)) (.c v46)) st ⟨fun v47 st =>
        @cnd v47 ⟨
          GhostV [(.bool false)] st fun vs st => K (mkres vs) st⟩
        ⟨
          @Hold ⟨∃ I2 : Nat → Rel 1, (∃ k, GhostV [(.int .i64 0)] st (app (I2 k))) ∧ ∀ k2 v5, ∀ st, app (I2 k2) [v5] st →
            @stp P (.bin .lss (.c v5) (.c v3)) st ⟨fun v50 st =>
            @cnd v50 ⟨
              @stpD P (.fld 1 (.c v4)) st ⟨fun v53 st =>
              @stpD P (.ld none (.c v53)) st ⟨fun v54 st =>
              @stpD P (.bin .neq (.c v54) (.c (.int .u64 0))) st ⟨fun v55 st =>
              @gstD P v55 true (.fld 1 (.c v1)) st ⟨fun v57 st =>
              @gstD P v55 true (.ld none (.c v57)) st ⟨fun v58 st =>
              @gstD P v55 true (.mov (.c v5)) st ⟨fun v59 st =>
              @gstD P v55 true (.idx 2 (.c v58) (.c v59)) st ⟨fun v60 st =>
              @gstD P v55 true (.fld 1 (.c v60)) st ⟨fun v61 st =>
              @gstD P v55 true (.ld none (.c v61)) st ⟨fun v62 st =>
              @gstD P v55 true (.fld 1 (.c v4)) st ⟨fun v63 st =>
              @gstD P v55 true (.ld none (.c v63)) st ⟨fun v64 st =>
              @gstD P v55 true (.bin .eql (.c v62) (.c v64)) st ⟨fun v65 st =>
              @stpD P (.pick (.c v55) (.c v65) (.c (.bool false))) st ⟨fun v66 st =>
              @cnd v66 ⟨
                GhostV [(.bool false)] st fun vs st => K (mkres vs) st⟩
              ⟨
                @stp P (.bin .add (.c v5) (.c (.int .i64 1))) st ⟨fun v52 st =>
                ∃ j, j < k2 ∧ GhostV [v52] st (app (I2 j))⟩⟩⟩⟩⟩⟩⟩⟩⟩⟩⟩⟩⟩⟩⟩⟩
            ⟨
              @stp P (.bin .add (.c v3) (.c (.int .i64 1))) st ⟨fun v21 st =>
              ∃ j, j < k1 ∧ GhostV [v21] st (app (I1 j))⟩⟩⟩⟩⟩⟩⟩⟩⟩⟩⟩⟩⟩⟩⟩⟩⟩⟩⟩⟩⟩⟩⟩⟩⟩⟩⟩⟩⟩⟩⟩⟩
      ⟨
        GhostV [(.bool true)] st fun vs st => K (mkres vs) st⟩⟩⟩⟩⟩⟩⟩⟩⟩⟩⟩⟩⟩⟩⟩⟩
theorem q_gazetteerref17_Right {P : Program} {a0 : V} {st : St} {K : V → St → Prop} : F_gazetteerref17_Right P a0 st K = hwp P c_gazetteerref17_Right (hretQ [.tmp 2] K) (enterFr [a0]) st := by kernel_rfl
abbrev R_gazetteerref17_Right (P : Program) : Prop := resFnH P n_gazetteerref17_Right = some (67, c_gazetteerref17_Right.er, [.tmp 2])
theorem A_gazetteerref17_Right {P : Program} (h : R_gazetteerref17_Right P) {a0 : V} {st : St} {K : V → St → Prop} (hF : F_gazetteerref17_Right P a0 st K) : ACalls P n_gazetteerref17_Right [a0] st K :=
  ACalls_h h rfl (by simp) (q_gazetteerref17_Right ▸ hF)

def c_gazetteerref17_All : ACode := (.seq (.reg [⟨(some 2), none, (.mov (.c (.bool false)))⟩]) (.seq (.seq (.reg [⟨(some 3), none, (.mov (.c (.int .i64 0)))⟩]) (.block 0 (.loop [3] [2, 3, 4, 5, 6, 7, 8, 9, 10, 11, 12, 13, 14, 15, 16] (.seq (.seq (.reg [⟨(some 4), none, (.mov (.s 3))⟩, ⟨(some 5), none, (.mov (.s 0))⟩, ⟨(some 6), none, (.len .sl (.s 5))⟩, ⟨(some 7), none, (.bin .lss (.s 4) (.s 6))⟩]) (.cond (.s 7) .skip (.exit 0))) (.seq (.block 1 (.seq (.reg [⟨(some 10), none, (.mov (.s 0))⟩, ⟨(some 11), none, (.mov (.s 3))⟩, ⟨(some 12), none, (.idx 10 (.s 10) (.s 11))⟩, ⟨(some 13), none, (.fld 2 (.s 12))⟩, ⟨(some 14), none, (.ld (some 8) (.s 13))⟩, ⟨(some 15), none, (.call (.c (.fn (.func n_gazetteerref10_Right) [] [])) [(.s 14)])⟩, ⟨(some 16), none, (.un .not (.s 15))⟩]) (.cond (.s 16) (.seq (.reg [⟨(some 2), none, (.mov (.c (.bool false)))⟩]) .ret) .skip))) (.reg [⟨(some 8), none, (.mov (.s 3))⟩, ⟨(some 9), none, (.bin .add (.s 8) (.c (.int .i64 1)))⟩, ⟨(some 3), none, (.mov (.s 9))⟩])))))) (.seq (.reg [⟨(some 2), none, (.mov (.c (.bool true)))⟩]) .ret)))
def F_gazetteerref17_All (P : Program) (a0 : V) (st : St) (K : V → St → Prop) : Prop :=
  @Hold ⟨∃ I1 : Nat → Rel 1, (∃ k, GhostV [(.int .i64 0)] st (app (I1 k))) ∧ ∀ k1 v3, ∀ st, app (I1 k1) [v3] st →
    @stp P (.len .sl (.c a0)) st ⟨fun v6 st =>
    @stp P (.bin .lss (.c v3) (.c v6)) st ⟨fun v7 st =>
    @cnd v7 ⟨
      @stp P (.idx 10 (.c a0) (.c v3)) st ⟨fun v12 st =>
      @stp P (.fld 2 (.c v12)) st ⟨fun v13 st =>
      @stp P (.ld (some 8) (.c v13)) st ⟨fun v14 st =>
      @stp P (.call (.c (.fn (.func n_gazetteerref10_Right) [] [])) [(.c v14)]) st ⟨fun v15 st =>
      @stp P (.un .not (.c v15)) st ⟨fun v16 st =>
      @cnd v16 ⟨
        GhostV [(.bool false)] st fun vs st => K (mkres vs) st⟩
      ⟨
        @stp P (.bin .add (.c v3) (.c (.int .i64 1))) st ⟨fun v9 st =>
        ∃ j, j < k1 ∧ GhostV [v9] st (app (I1 j))⟩⟩⟩⟩⟩⟩⟩⟩
    ⟨
      GhostV [(.bool true)] st fun vs st => K (mkres vs) st⟩⟩⟩⟩
theorem q_gazetteerref17_All {P : Program} {a0 : V} {st : St} {K : V → St → Prop} : F_gazetteerref17_All P a0 st K = hwp P c_gazetteerref17_All (hretQ [.tmp 2] K) (enterFr [a0]) st := by kernel_rfl
abbrev R_gazetteerref17_All (P : Program) : Prop := resFnH P n_gazetteerref17_All = some (17, c_gazetteerref17_All.er, [.tmp 2])
theorem A_gazetteerref17_All {P : Program} (h : R_gazetteerref17_All P) {a0 : V} {st : St} {K : V → St → Prop} (hF : F_gazetteerref17_All P a0 st K) : ACalls P n_gazetteerref17_All [a0] st K :=
  ACalls_h h rfl (by simp) (q_gazetteerref17_All ▸ hF)

def c_gazetteerref18_Dead : ACode := (.seq (.reg [⟨(some 3), none, (.box (.s 0))⟩, ⟨(some 6), none, (.mov (.c (.sl .nil 0 [] [])))⟩]) (.seq (.reg [⟨(some 7), none, (.mov (.c (.sl .nil 0 [] [])))⟩]) (.seq (.seq (.reg [⟨(some 10), none, (.mov (.s 2))⟩, ⟨(some 11), none, (.len .sl (.s 10))⟩, ⟨(some 12), none, (.mov (.c (.int .i64 0)))⟩]) (.block 0 (.loop [7, 12] [7, 9, 12, 13, 14, 15, 16, 17, 18, 19, 20, 21, 22, 23, 24, 25, 26] (.seq (.reg [⟨(some 13), none, (.bin .lss (.s 12) (.s 11))⟩]) (.seq (.cond (.s 13) .skip (.exit 0)) (.seq (.block 1 (.seq (.reg [⟨(some 14), none, (.idx 10 (.s 10) (.s 12))⟩, ⟨(some 15), none, (.ld (some 10) (.s 14))⟩, ⟨(some 9), none, (.alloc [(.int .i64 0), (.int .i64 0), (.int .u32 0), (.int .u64 0), (.int .u64 0), (.int .i64 0), (.int .i64 0), (.int .i64 0), (.int .i64 0), (.int .i64 0)])⟩, ⟨none, none, (.st 10 (.s 9) (.s 15))⟩]) (.seq (.reg [⟨(some 16), none, (.ld (some 2) (.s 3))⟩, ⟨(some 17), none, (.mov (.s 1))⟩, ⟨(some 18), none, (.fld 2 (.s 9))⟩, ⟨(some 19), none, (.ld (some 8) (.s 18))⟩, ⟨(some 20), none, (.call (.c (.fn (.func n_gazetteerref17_Dead) [] [])) [(.s 16), (.s 17), (.s 19)])⟩]) (.cond (.s 20) (.reg [⟨(some 21), none, (.mov (.s 7))⟩, ⟨(some 22), none, (.fld 0 (.s 9))⟩, ⟨(some 23), none, (.ld (some 2) (.s 22))⟩, ⟨(some 24), none, (.mkSl 2 1 [(.int .i64 0), (.int .i64 0)] [(0, (.s 23))])⟩, ⟨(some 25), none, (.append 2 16 (.s 21) (.s 24))⟩, ⟨(some 7), none, (.mov (.s 25))⟩]) .skip)))) (.reg [⟨(some 26), none, (.bin .add (.s 12) (.c (.int .i64 1)))⟩, ⟨(some 12), none, (.mov (.s 26))⟩]))))))) (.seq (.reg [⟨(some 27), none, (.mov (.s 7))⟩, ⟨(some 6), none, (.mov (.s 27))⟩]) .ret))))
def F_gazetteerref18_Dead (P : Program) (a0 a1 a2 : V) (st : St) (K : V → St → Prop) : Prop :=
  @stp P (.box (.c a0)) st ⟨fun v3 st =>
  @stp P (.len .sl (.c a2)) st ⟨fun v11 st =>
  @Hold ⟨∃ I1 : Nat → Rel 2, (∃ k, GhostV [(.sl .nil 0 [] []), (.int .i64 0)] st (app (I1 k))) ∧ ∀ k1 v7 v12, ∀ st, app (I1 k1) [v7, v12] st →
    @stp P (.bin .lss (.c v12) (.c v11)) st ⟨fun v13 st =>
    @cnd v13 ⟨
      @stp P (.idx 10 (.c a2) (.c v12)) st ⟨fun v14 st =>
      @stp P (.ld (some 10) (.c v14)) st ⟨fun v15 st =>
      @stp P (.alloc [(.int .i64 0), (.int .i64 0), (.int .u32 0), (.int .u64 0), (.int .u64 0), (.int .i64 0), (.int .i64 0), (.int .i64 0), (.int .i64 0), (.int .i64 0)]) st ⟨fun v9 st =>
      @stp P (.st 10 (.c v9) (.c v15)) st ⟨fun _v st =>
      @stp P (.ld (some 2) (.c v3)) st ⟨fun v16 st =>
      @stp P (.fld 2 (.c v9)) st ⟨fun v18 st =>
      @stp P (.ld (some 8) (.c v18)) st ⟨fun v19 st =>
      @stp P (.call (.c (.fn (.func n_gazetteerref17_Dead) [] [])) [(.c v16), (.c a1), (.c v19)]) st ⟨fun v20 st =>
      @cnd v20 ⟨
        @stp P (.fld 0 (.c v9)) st ⟨fun v22 st =>
        @stp P (.ld (some 2) (.c v22)) st ⟨fun v23 st =>
        @stp P (.mkSl 2 1 [(.int .i64 0), (.int .i64 0)] [(0, (.c v23))]) st ⟨fun v24 st =>
        @stp P (.append 2 16 (.c v7) (.c v24)) st ⟨fun v25 st =>
        @stp P (.bin .add (.c v12) (.c (.int .i64 1))) st ⟨fun v26 st =>
        ∃ j, j < k1 ∧ GhostV [v25, v26] st (app (I1 j))⟩⟩⟩⟩⟩⟩
      ⟨
        @stp P (.bin .add (.c v12) (.c (.int .i64 1))) st ⟨fun v26 st =>
        ∃ j, j < k1 ∧ GhostV [v7, v26] st (app (I1 j))⟩⟩⟩⟩⟩⟩⟩⟩⟩⟩⟩
    ⟨
      GhostV [v7] st fun vs st => K (mkres vs) st⟩⟩⟩⟩⟩
theorem q_gazetteerref18_Dead {P : Program} {a0 a1 a2 : V} {st : St} {K : V → St → Prop} : F_gazetteerref18_Dead P a0 a1 a2 st K = hwp P c_gazetteerref18_Dead (hretQ [.tmp 6] K) (enterFr [a0, a1, a2]) st := by kernel_rfl
abbrev R_gazetteerref18_Dead (P : Program) : Prop := resFnH P n_gazetteerref18_Dead = some (28, c_gazetteerref18_Dead.er, [.tmp 6])
theorem A_gazetteerref18_Dead {P : Program} (h : R_gazetteerref18_Dead P) {a0 a1 a2 : V} {st : St} {K : V → St → Prop} (hF : F_gazetteerref18_Dead P a0 a1 a2 st K) : ACalls P n_gazetteerref18_Dead [a0, a1, a2] st K :=
  ACalls_h h rfl (by simp) (q_gazetteerref18_Dead ▸ hF)

def c_gazetteerlaw18_same : ACode := (.seq (.reg [⟨(some 4), none, (.mov (.c (.bool false)))⟩]) (.seq (.seq (.reg [⟨(some 6), none, (.mov (.s 0))⟩, ⟨(some 7), none, (.len .sl (.s 6))⟩, ⟨(some 8), none, (.mov (.s 1))⟩, ⟨(some 9), none, (.len .sl (.s 8))⟩, ⟨(some 10), none, (.bin .neq (.s 7) (.s 9))⟩]) (.cond (.s 10) (.seq (.reg [⟨(some 4), none, (.mov (.c (.bool false)))⟩]) .ret) .skip)) (.seq (.seq (.reg [⟨(some 11), none, (.mov (.s 0))⟩, ⟨(some 12), none, (.len .sl (.s 11))⟩, ⟨(some 13), none, (.mov (.c (.int .i64 0)))⟩]) (.block 0 (.loop [13] [4, 5, 13, 14, 15, 16, 17, 18, 19, 20, 21, 22, 23, 24, 25] (.seq (.reg [⟨(some 14), none, (.bin .lss (.s 13) (.s 12))⟩]) (.seq (.cond (.s 14) .skip (.exit 0)) (.seq (.block 1 (.seq (.reg [⟨(some 15), none, (.mov (.s 13))⟩, ⟨(some 5), none, (.mov (.s 15))⟩]) (.seq (.regD [⟨(some 16), none, (.mov (.s 0))⟩, ⟨(some 17), none, (.mov (.s 5))⟩, ⟨(some 18), none, (.idx 2 (.s 16) (.s 17))⟩, ⟨(some 19), none, (.ld (some 2) (.s 18))⟩, ⟨(some 20), none, (.mov (.s 1))⟩, ⟨(some 21), none, (.mov (.s 5))⟩, ⟨(some 22), none, (.idx 2 (.s 20) (.s 21))⟩, ⟨(some 23), none, (.ld (some 2) (.s 22))⟩, ⟨(some 24), none, (.eqs true (.flat [.int, .int]) (.s 19) (.s 23))⟩] [(0, (false, [])), (1, (false, [])), (2, (false, [])), (3, (false, [])), (4, (false, [])), (5, (false, [])), (6, (false, [])), (7, (false, [])), (8, (false, []))]) (.cond (.s 24) (.seq (.reg [⟨(some 4), none, (.mov (.c (.bool false)))⟩]) .ret) .skip)))) (.reg [⟨(some 25), none, (.bin .add (.s 13) (.c (.int .i64 1)))⟩, ⟨(some 13), none, (.mov (.s 25))⟩]))))))) (.seq (.reg [⟨(some 4), none, (.mov (.c (.bool true)))⟩]) .ret))))
def F_gazetteerlaw18_same (P : Program) (a0 a1 : V) (st : St) (K : V → St → Prop) : Prop :=
  @stp P (.len .sl (.c a0)) st ⟨fun v7 st =>
  @stp P (.len .sl (.c a1)) st ⟨fun v9 st =>
  @stp P (.bin .neq (.c v7) (.c v9)) st ⟨fun v10 st =>
  @cnd v10 ⟨
    GhostV [(.bool false)] st fun vs st => K (mkres vs) st⟩
  ⟨
    @stp P (.len .sl (.c a0)) st ⟨fun v12 st =>
    @Hold ⟨∃ I1 : Nat → Rel 1, (∃ k, GhostV [(.int .i64 0)] st (app (I1 k))) ∧ ∀ k1 v13, ∀ st, app (I1 k1) [v13] st →
      @stp P (.bin .lss (.c v13) (.c v12)) st ⟨fun v14 st =>
      @cnd v14 ⟨
        @stpD P (.idx 2 (.c a0) (.c v13)) st ⟨fun v18 st =>
        @stpD P (.ld (some 2) (.c v18)) st ⟨fun v19 st =>
        @stpD P (.idx 2 (.c a1) (.c v13)) st ⟨fun v22 st =>
        @stpD P (.ld (some 2) (.c v22)) st ⟨fun v23 st =>
        @stpD P (.eqs true (.flat [.int, .int]) (.c v19) (.c v23)) st ⟨fun v24 st =>
        @cnd v24 ⟨
          GhostV [(.bool false)] st fun vs st => K (mkres vs) st⟩
        ⟨
          @stp P (.bin .add (.c v13) (.c (.int .i64 1))) st ⟨fun v25 st =>
          ∃ j, j < k1 ∧ GhostV [v25] st (app (I1 j))⟩⟩⟩⟩⟩⟩⟩⟩
      ⟨
        GhostV [(.bool true)] st fun vs st => K (mkres vs) st⟩⟩⟩⟩⟩⟩⟩⟩
theorem q_gazetteerlaw18_same {P : Program} {a0 a1 : V} {st : St} {K : V → St → Prop} : F_gazetteerlaw18_same P a0 a1 st K = hwp P c_gazetteerlaw18_same (hretQ [.tmp 4] K) (enterFr [a0, a1]) st := by kernel_rfl
abbrev R_gazetteerlaw18_same (P : Program) : Prop := resFnH P n_gazetteerlaw18_same = some (26, c_gazetteerlaw18_same.er, [.tmp 4])
theorem A_gazetteerlaw18_same {P : Program} (h : R_gazetteerlaw18_same P) {a0 a1 : V} {st : St} {K : V → St → Prop} (hF : F_gazetteerlaw18_same P a0 a1 st K) : ACalls P n_gazetteerlaw18_same [a0, a1] st K :=
  ACalls_h h rfl (by simp) (q_gazetteerlaw18_same ▸ hF)

def c_gazetteerref18_Left : ACode := (.seq (.reg [⟨(some 4), none, (.mov (.c (.sl .nil 0 [] [])))⟩]) (.seq (.reg [⟨(some 5), none, (.mov (.c (.sl .nil 0 [] [])))⟩]) (.seq (.seq (.reg [⟨(some 8), none, (.mov (.s 0))⟩, ⟨(some 9), none, (.len .sl (.s 8))⟩, ⟨(some 10), none, (.mov (.c (.int .i64 0)))⟩]) (.block 0 (.loop [5, 10] [5, 7, 10, 11, 12, 13, 14, 15, 16, 17, 18, 19, 20, 21, 22, 23] (.seq (.reg [⟨(some 11), none, (.bin .lss (.s 10) (.s 9))⟩]) (.seq (.cond (.s 11) .skip (.exit 0)) (.seq (.block 1 (.seq (.reg [⟨(some 12), none, (.idx 10 (.s 8) (.s 10))⟩, ⟨(some 13), none, (.ld (some 10) (.s 12))⟩, ⟨(some 7), none, (.alloc [(.int .i64 0), (.int .i64 0), (.int .u32 0), (.int .u64 0), (.int .u64 0), (.int .i64 0), (.int .i64 0), (.int .i64 0), (.int .i64 0), (.int .i64 0)])⟩, ⟨none, none, (.st 10 (.s 7) (.s 13))⟩]) (.seq (.reg [⟨(some 14), none, (.mov (.s 1))⟩, ⟨(some 15), none, (.fld 0 (.s 7))⟩, ⟨(some 16), none, (.ld (some 2) (.s 15))⟩, ⟨(some 17), none, (.call (.c (.fn (.func n_gazetteerref18_Has) [] [])) [(.s 14), (.s 16)])⟩, ⟨(some 18), none, (.un .not (.s 17))⟩]) (.cond (.s 18) (.reg [⟨(some 19), none, (.mov (.s 5))⟩, ⟨(some 20), none, (.ld (some 10) (.s 7))⟩, ⟨(some 21), none, (.mkSl 10 1 [(.int .i64 0), (.int .i64 0), (.int .u32 0), (.int .u64 0), (.int .u64 0), (.int .i64 0), (.int .i64 0), (.int .i64 0), (.int .i64 0), (.int .i64 0)] [(0, (.s 20))])⟩, ⟨(some 22), none, (.append 10 80 (.s 19) (.s 21))⟩, ⟨(some 5), none, (.mov (.s 22))⟩]) .skip)))) (.reg [⟨(some 23), none, (.bin .add (.s 10) (.c (.int .i64 1)))⟩, ⟨(some 10), none, (.mov (.s 23))⟩]))))))) (.seq (.reg [⟨(some 24), none, (.mov (.s 5))⟩, ⟨(some 4), none, (.mov (.s 24))⟩]) .ret))))
def F_gazetteerref18_Left (P : Program) (a0 a1 : V) (st : St) (K : V → St → Prop) : Prop :=
  @stp P (.len .sl (.c a0)) st ⟨fun v9 st =>
  @Hold ⟨∃ I1 : Nat → Rel 2, (∃ k, GhostV [(.sl .nil 0 [] []), (.int .i64 0)] st (app (I1 k))) ∧ ∀ k1 v5 v10, ∀ st, app (I1 k1) [v5, v10] st →
    @stp P (.bin .lss (.c v10) (.c v9)) st ⟨fun v11 st =>
    @cnd v11 ⟨
      @stp P (.idx 10 (.c a0) (.c v10)) st ⟨fun v12 st =>
      @stp P (.ld (some 10) (.c v12)) st ⟨fun v13 st =>
      @stp P (.alloc [(.int .i64 0), (.int .i64 0), (.int .u32 0), (.int .u64 0), (.int .u64 0), (.int .i64 0), (.int .i64 0), (.int .i64 0), (.int .i64 0), (.int .i64 0)]) st ⟨fun v7 st =>
      @stp P (.st 10 (.c v7) (.c v13)) st ⟨fun _v st =>
      @stp P (.fld 0 (.c v7)) st ⟨fun v15 st =>
      @stp P (.ld (some 2) (.c v15)) st ⟨fun v16 st =>
      @stp P (.call (.c (.fn (.func n_gazetteerref18_Has) [] [])) [(.c a1), (.c v16)]) st ⟨fun v17 st =>
      @stp P (.un .not (.c v17)) st ⟨fun v18 st =>
      @cnd v18 ⟨
        @stp P (.ld (some 10) (.c v7)) st ⟨fun v20 st =>
        @stp P (.mkSl 10 1 [(.int .i64 0), (.int .i64 0), (.int .u32 0), (.int .u64 0), (.int .u64 0), (.int .i64 0), (.int .i64 0), (.int .i64 0), (.int .i64 0), (.int .i64 0)] [(0, (.c v20))]) st ⟨fun v21 st =>
        @stp P (.append 10 80 (.c v5) (.c v21)) st ⟨fun v22 st =>
        @stp P (.bin .add (.c v10) (.c (.int .i64 1))) st ⟨fun v23 st =>
        ∃ j, j < k1 ∧ GhostV [v22, v23] st (app (I1 j))⟩⟩⟩⟩⟩
      ⟨
        @stp P (.bin .add (.c v10) (.c (.int .i64 1))) st ⟨fun v23 st =>
        ∃ j, j < k1 ∧ GhostV [v5, v23] st (app (I1 j))⟩⟩⟩⟩⟩⟩⟩⟩⟩⟩⟩
    ⟨
      GhostV [v5] st fun vs st => K (mkres vs) st⟩⟩⟩⟩
theorem q_gazetteerref18_Left {P : Program} {a0 a1 : V} {st : St} {K : V → St → Prop} : F_gazetteerref18_Left P a0 a1 st K = hwp P c_gazetteerref18_Left (hretQ [.tmp 4] K) (enterFr [a0, a1]) st := by kernel_rfl
abbrev R_gazetteerref18_Left (P : Program) : Prop := resFnH P n_gazetteerref18_Left = some (25, c_gazetteerref18_Left.er, [.tmp 4])
theorem A_gazetteerref18_Left {P : Program} (h : R_gazetteerref18_Left P) {a0 a1 : V} {st : St} {K : V → St → Prop} (hF : F_gazetteerref18_Left P a0 a1 st K) : ACalls P n_gazetteerref18_Left [a0, a1] st K :=
  ACalls_h h rfl (by simp) (q_gazetteerref18_Left ▸ hF)

def c_gazetteerref09_Box : ACode := (.seq (.reg [⟨(some 1), none, (.box (.s 0))⟩, ⟨(some 2), none, (.mov (.c (.bool false)))⟩]) (.seq (.reg [⟨(some 3), none, (.fld 0 (.s 1))⟩, ⟨(some 4), none, (.ld none (.s 3))⟩, ⟨(some 5), none, (.fld 1 (.s 1))⟩, ⟨(some 6), none, (.ld none (.s 5))⟩, ⟨(some 7), none, (.bin .leq (.s 4) (.s 6))⟩, ⟨(some 8), none, (.mov (.s 7))⟩, ⟨(some 9), (some (8, true)), (.fld 2 (.s 1))⟩, ⟨(some 10), (some (8, true)), (.ld none (.s 9))⟩, ⟨(some 11), (some (8, true)), (.fld 3 (.s 1))⟩, ⟨(some 12), (some (8, true)), (.ld none (.s 11))⟩, ⟨(some 13), (some (8, true)), (.bin .leq (.s 10) (.s 12))⟩, ⟨(some 14), none, (.pick (.s 8) (.s 13) (.c (.bool false)))⟩, ⟨(some 2), none, (.mov (.s 14))⟩]) .ret))
def F_gazetteerref09_Box (P : Program) (a0 : V) (st : St) (K : V → St → Prop) : Prop :=
  @stp P (.box (.c a0)) st ⟨fun v1 st =>
  @stp P (.fld 0 (.c v1)) st ⟨fun v3 st =>
  @stp P (.ld none (.c v3)) st ⟨fun v4 st =>
  @stp P (.fld 1 (.c v1)) st ⟨fun v5 st =>
  @stp P (.ld none (.c v5)) st ⟨fun v6 st =>
  @stp P (.bin .leq (.c v4) (.c v6)) st ⟨fun v7 st =>
  @gst P v7 true (.fld 2 (.c v1)) st ⟨fun v9 st =>
  @gst P v7 true (.ld none (.c v9)) st ⟨fun v10 st =>
  @gst P v7 true (.fld 3 (.c v1)) st ⟨fun v11 st =>
  @gst P v7 true (.ld none (.c v11)) st ⟨fun v12 st =>
  @gst P v7 true (.bin .leq (.c v10) (.c v12)) st ⟨fun v13 st =>
  @stp P (.pick (.c v7) (.c v13) (.c (.bool false))) st ⟨fun v14 st =>
  GhostV [v14] st fun vs st => K (mkres vs) st⟩⟩⟩⟩⟩⟩⟩⟩⟩⟩⟩⟩
theorem q_gazetteerref09_Box {P : Program} {a0 : V} {st : St} {K : V → St → Prop} : F_gazetteerref09_Box P a0 st K = hwp P c_gazetteerref09_Box (hretQ [.tmp 2] K) (enterFr [a0]) st := by kernel_rfl
abbrev R_gazetteerref09_Box (P : Program) : Prop := resFnH P n_gazetteerref09_Box = some (15, c_gazetteerref09_Box.er, [.tmp 2])
theorem A_gazetteerref09_Box {P : Program} (h : R_gazetteerref09_Box P) {a0 : V} {st : St} {K : V → St → Prop} (hF : F_gazetteerref09_Box P a0 st K) : ACalls P n_gazetteerref09_Box [a0] st K :=
  ACalls_h h rfl (by simp) (q_gazetteerref09_Box ▸ hF)

def c_gazetteerref10_Right : ACode := (.seq (.reg [⟨(some 1), none, (.box (.s 0))⟩, ⟨(some 2), none, (.mov (.c (.bool false)))⟩]) (.seq (.reg [⟨(some 3), none, (.fld 0 (.s 1))⟩, ⟨(some 4), none, (.ld none (.s 3))⟩, ⟨(some 5), none, (.bin .geq (.s 4) (.c (.int .u32 1)))⟩, ⟨(some 6), none, (.mov (.s 5))⟩, ⟨(some 7), (some (6, true)), (.fld 1 (.s 1))⟩, ⟨(some 8), (some (6, true)), (.ld none (.s 7))⟩, ⟨(some 9), (some (6, true)), (.bin .geq (.s 8) (.c (.int .u64 1)))⟩, ⟨(some 10), none, (.pick (.s 6) (.s 9) (.c (.bool false)))⟩, ⟨(some 11), none, (.mov (.s 10))⟩, ⟨(some 12), (some (11, true)), (.fld 1 (.s 1))⟩, ⟨(some 13), (some (11, true)), (.ld none (.s 12))⟩, ⟨(some 14), (some (11, true)), (.bin .leq (.s 13) (.c (.int .u64 4294967295)))⟩, ⟨(some 15), none, (.pick (.s 11) (.s 14) (.c (.bool false)))⟩, ⟨(some 16), none, (.mov (.s 15))⟩, ⟨(some 17), (some (16, true)), (.fld 2 (.s 1))⟩, ⟨(some 18), (some (16, true)), (.ld none (.s 17))⟩, ⟨(some 19), (some (16, true)), (.bin .leq (.s 18) (.c (.int .u64 4294967295)))⟩, ⟨(some 20), none, (.pick (.s 16) (.s 19) (.c (.bool false)))⟩, ⟨(some 21), none, (.mov (.s 20))⟩, ⟨(some 22), (some (21, true)), (.fld 3 (.s 1))⟩, ⟨(some 23), (some (21, true)), (.ld (some 4) (.s 22))⟩, ⟨(some 24), (some (21, true)), (.call (.c (.fn (.func n_gazetteerref09_Box) [] [])) [(.s 23)])⟩, ⟨(some 25), none, (.pick (.s 21) (.s 24) (.c (.bool false)))⟩, ⟨(some 2), none, (.mov (.s 25))⟩]) .ret))
def F_gazetteerref10_Right (P : Program) (a0 : V) (st : St) (K : V → St → Prop) : Prop :=
  @stp P (.box (.c a0)) st ⟨fun v1 st =>
  @stp P (.fld 0 (.c v1)) st ⟨fun v3 st =>
  @stp P (.ld none (.c v3)) st ⟨fun v4 st =>
  @stp P (.bin .geq (.c v4) (.c (.int .u32 1))) st ⟨fun v5 st =>
  @gst P v5 true (.fld 1 (.c v1)) st ⟨fun v7 st =>
  @gst P v5 true (.ld none (.c v7)) st ⟨fun v8 st =>
  @gst P v5 true (.bin .geq (.c v8) (.c (.int .u64 1))) st ⟨fun v9 st =>
  @stp P (.pick (.c v5) (.c v9) (.c (.bool false))) st ⟨fun v10 st =>
  @gst P v10 true (.fld 1 (.c v1)) st ⟨fun v12 st =>
  @gst P v10 true (.ld none (.c v12)) st ⟨fun v13 st =>
  @gst P v10 true (.bin .leq (.c v13) (.c (.int .u64 4294967295))) st ⟨fun v14 st =>
  @stp P (.pick (.c v10) (.c v14) (.c (.bool false))) st ⟨fun v15 st =>
  @gst P v15 true (.fld 2 (.c v1)) st ⟨fun v17 st =>
  @gst P v15 true (.ld none (.c v17)) st ⟨fun v18 st =>
  @gst P v15 true (.bin .leq (.c v18) (.c (.int .u64 4294967295))) st ⟨fun v19 st =>
  @stp P (.pick (.c v15) (.c v19) (.c (.bool false))) st ⟨fun v20 st =>
  @gst P v20 true (.fld 3 (.c v1)) st ⟨fun v22 st =>
  @gst P v20 true (.ld (some 4) (.c v22)) st ⟨fun v23 st =>
  @gst P v20 true (.call (.c (.fn (.func n_gazetteerref09_Box) [] [])) [(.c v23)]) st ⟨fun v24 st =>
  @stp P (.pick (.c v20) (.c v24) (.c (.bool false))) st ⟨fun v25 st =>
  GhostV [v25] st fun vs st => K (mkres vs) st⟩⟩⟩⟩⟩⟩⟩⟩⟩⟩⟩⟩⟩⟩⟩⟩⟩⟩⟩⟩
theorem q_gazetteerref10_Right {P : Program} {a0 : V} {st : St} {K : V → St → Prop} : F_gazetteerref10_Right P a0 st K = hwp P c_gazetteerref10_Right (hretQ [.tmp 2] K) (enterFr [a0]) st := by kernel_rfl
abbrev R_gazetteerref10_Right (P : Program) : Prop := resFnH P n_gazetteerref10_Right = some (26, c_gazetteerref10_Right.er, [.tmp 2])
theorem A_gazetteerref10_Right {P : Program} (h : R_gazetteerref10_Right P) {a0 : V} {st : St} {K : V → St → Prop} (hF : F_gazetteerref10_Right P a0 st K) : ACalls P n_gazetteerref10_Right [a0] st K :=
  ACalls_h h rfl (by simp) (q_gazetteerref10_Right ▸ hF)

def c_gazetteerref17_Dead : ACode := (.seq (.reg [⟨(some 3), none, (.box (.s 0))⟩, ⟨(some 5), none, (.box (.s 2))⟩, ⟨(some 6), none, (.mov (.c (.bool false)))⟩]) (.seq (.reg [⟨(some 12), none, (.ld (some 2) (.s 3))⟩, ⟨(some 13), none, (.fld 1 (.s 5))⟩, ⟨(some 14), none, (.ld none (.s 13))⟩, ⟨(some 15), none, (.call (.c (.fn (.func n_gazetteerref17_Fate) [] [])) [(.s 12), (.s 14)])⟩, ⟨(some 11), none, (.mov (.s 15))⟩, ⟨(some 16), none, (.ext 0 (.s 11))⟩, ⟨(some 17), none, (.ext 1 (.s 11))⟩, ⟨(some 7), none, (.mov (.s 16))⟩, ⟨(some 8), none, (.mov (.s 17))⟩]) (.seq (.reg [⟨(some 19), none, (.ld (some 2) (.s 3))⟩, ⟨(some 20), none, (.fld 2 (.s 5))⟩, ⟨(some 21), none, (.ld none (.s 20))⟩, ⟨(some 22), none, (.call (.c (.fn (.func n_gazetteerref17_Fate) [] [])) [(.s 19), (.s 21)])⟩, ⟨(some 18), none, (.mov (.s 22))⟩, ⟨(some 23), none, (.ext 0 (.s 18))⟩, ⟨(some 24), none, (.ext 1 (.s 18))⟩, ⟨(some 9), none, (.mov (.s 23))⟩, ⟨(some 10), none, (.mov (.s 24))⟩]) (.seq (.reg [⟨(some 25), none, (.mov (.s 7))⟩, ⟨(some 26), none, (.bin .eql (.s 25) (.c (.int .i64 3)))⟩, ⟨(some 27), none, (.mov (.s 26))⟩, ⟨(some 28), (some (27, false)), (.mov (.s 9))⟩, ⟨(some 29), (some (27, false)), (.bin .eql (.s 28) (.c (.int .i64 1)))⟩, ⟨(some 30), (some (27, false)), (.mov (.s 29))⟩, ⟨(some 31), (some (30, true)), (.mov (.s 10))⟩, ⟨(some 32), (some (30, true)), (.mov (.s 1))⟩, ⟨(some 33), (some (30, true)), (.bin .leq (.s 31) (.s 32))⟩, ⟨(some 34), (some (27, false)), (.pick (.s 30) (.s 33) (.c (.bool false)))⟩, ⟨(some 35), none, (.pick (.s 27) (.c (.bool true)) (.s 34))⟩, ⟨(some 6), none, (.mov (.s 35))⟩]) .ret))))
def F_gazetteerref17_Dead (P : Program) (a0 a1 a2 : V) (st : St) (K : V → St → Prop) : Prop :=
  @stp P (.box (.c a0)) st ⟨fun v3 st =>
  @stp P (.box (.c a2)) st ⟨fun v5 st =>
  @stp P (.ld (some 2) (.c v3)) st ⟨fun v12 st =>
  @stp P (.fld 1 (.c v5)) st ⟨fun v13 st =>
  @stp P (.ld none (.c v13)) st ⟨fun v14 st =>
  @stp P (.call (.c (.fn (.func n_gazetteerref17_Fate) [] [])) [(.c v12), (.c v14)]) st ⟨fun v15 st =>
  @stp P (.ext 0 (.c v15)) st ⟨fun v16 st =>
  @stp P (.ext 1 (.c v15)) st ⟨fun v17 st =>
  @stp P (.ld (some 2) (.c v3)) st ⟨fun v19 st =>
  @stp P (.fld 2 (.c v5)) st ⟨fun v20 st =>
  @stp P (.ld none (.c v20)) st ⟨fun v21 st =>
  @stp P (.call (.c (.fn (.func n_gazetteerref17_Fate) [] [])) [(.c v19), (.c v21)]) st ⟨fun v22 st =>
  @stp P (.ext 0 (.c v22)) st ⟨fun v23 st =>
  @stp P (.ext 1 (.c v22)) st ⟨fun v24 st =>
  @stp P (.bin .eql (.c v16) (.c (.int .i64 3))) st ⟨fun v26 st =>
  @gst P v26 false (.mov (.c v23)) st ⟨fun v28 st =>
  @gst P v26 false (.bin .eql (.c v28) (.c (.int .i64 1))) st ⟨fun v29 st =>
  @gst P v26 false (.mov (.c v29)) st ⟨fun v30 st =>
  @gst P v30 true (.mov (.c v24)) st ⟨fun v31 st =>
  @gst P v30 true (.mov (.c a1)) st ⟨fun v32 st =>
  @gst P v30 true (.bin .leq (.c v31) (.c v32)) st ⟨fun v33 st =>
  @gst P v26 false (.pick (.c v30) (.c v33) (.c (.bool false))) st ⟨fun v34 st =>
  @stp P (.pick (.c v26) (.c (.bool true)) (.c v34)) st ⟨fun v35 st =>
  GhostV [v35] st fun vs st => K (mkres vs) st⟩⟩⟩⟩⟩⟩⟩⟩⟩⟩⟩⟩⟩⟩⟩⟩⟩⟩⟩⟩⟩⟩⟩
theorem q_gazetteerref17_Dead {P : Program} {a0 a1 a2 : V} {st : St} {K : V → St → Prop} : F_gazetteerref17_Dead P a0 a1 a2 st K = hwp P c_gazetteerref17_Dead (hretQ [.tmp 6] K) (enterFr [a0, a1, a2]) st := by kernel_rfl
abbrev R_gazetteerref17_Dead (P : Program) : Prop := resFnH P n_gazetteerref17_Dead = some (36, c_gazetteerref17_Dead.er, [.tmp 6])
theorem A_gazetteerref17_Dead {P : Program} (h : R_gazetteerref17_Dead P) {a0 a1 a2 : V} {st : St} {K : V → St → Prop} (hF : F_gazetteerref17_Dead P a0 a1 a2 st K) : ACalls P n_gazetteerref17_Dead [a0, a1, a2] st K :=
  ACalls_h h rfl (by simp) (q_gazetteerref17_Dead ▸ hF)

def c_gazetteerref18_Has : ACode := (.seq (.reg [⟨(some 3), none, (.box (.s 1))⟩, ⟨(some 4), none, (.mov (.c (.bool false)))⟩]) (.seq (.seq (.reg [⟨(some 7), none, (.mov (.s 0))⟩, ⟨(some 8), none, (.len .sl (.s 7))⟩, ⟨(some 9), none, (.mov (.c (.int .i64 0)))⟩]) (.block 0 (.loop [9] [4, 6, 9, 10, 11, 12, 13, 14, 15, 16] (.seq (.reg [⟨(some 10), none, (.bin .lss (.s 9) (.s 8))⟩]) (.seq (.cond (.s 10) .skip (.exit 0)) (.seq (.block 1 (.seq (.reg [⟨(some 11), none, (.idx 2 (.s 7) (.s 9))⟩, ⟨(some 12), none, (.ld (some 2) (.s 11))⟩, ⟨(some 6), none, (.alloc [(.int .i64 0), (.int .i64 0)])⟩, ⟨none, none, (.st 2 (.s 6) (.s 12))⟩]) (.seq (.reg [⟨(some 13), none, (.ld (some 2) (.s 6))⟩, ⟨(some 14), none, (.ld (some 2) (.s 3))⟩, ⟨(some 15), none, (.eqs false (.flat [.int, .int]) (.s 13) (.s 14))⟩]) (.cond (.s 15) (.seq (.reg [⟨(some 4), none, (.mov (.c (.bool true)))⟩]) .ret) .skip)))) (.reg [⟨(some 16), none, (.bin .add (.s 9) (.c (.int .i64 1)))⟩, ⟨(some 9), none, (.mov (.s 16))⟩]))))))) (.seq (.reg [⟨(some 4), none, (.mov (.c (.bool false)))⟩]) .ret)))
def F_gazetteerref18_Has (P : Program) (a0 a1 : V) (st : St) (K : V → St → Prop) : Prop :=
  @stp P (.box (.c a1)) st ⟨fun v3 st =>
  @stp P (.len .sl (.c a0)) st ⟨fun v8 st =>
  @Hold ⟨∃ I1 : Nat → Rel 1, (∃ k, GhostV [(.int .i64 0)] st (app (I1 k))) ∧ ∀ k1 v9, ∀ st, app (I1 k1) [v9] st →
    @stp P (.bin .lss (.c v9) (.c v8)) st ⟨fun v10 st =>
    @cnd v10 ⟨
      @stp P (.idx 2 (.c a0) (.c v9)) st ⟨fun v11 st =>
      @stp P (.ld (some 2) (.c v11)) st ⟨fun v12 st =>
      @stp P (.alloc [(.int .i64 0), (.int .i64 0)]) st ⟨fun v6 st =>
      @stp P (.st 2 (.c v6) (.c v12)) st ⟨fun _v st =>
      @stp P (.ld (some 2) (.c v6)) st ⟨fun v13 st =>
      @stp P (.ld (some 2) (.c v3)) st ⟨fun v14 st =>
      @stp P (.eqs false (.flat [.int, .int]) (.c v13) (.c v14)) st ⟨fun v15 st =>
      @cnd v15 ⟨
        GhostV [(.bool true)] st fun vs st => K (mkres vs) st⟩
      ⟨
        @stp P (.bin .add (.c v9) (.c (.int .i64 1))) st ⟨fun v16 st =>
        ∃ j, j < k1 ∧ GhostV [v16] st (app (I1 j))⟩⟩⟩⟩⟩⟩⟩⟩⟩⟩
    ⟨
      GhostV [(.bool false)] st fun vs st => K (mkres vs) st⟩⟩⟩⟩⟩
theorem q_gazetteerref18_Has {P : Program} {a0 a1 : V} {st : St} {K : V → St → Prop} : F_gazetteerref18_Has P a0 a1 st K = hwp P c_gazetteerref18_Has (hretQ [.tmp 4] K) (enterFr [a0, a1]) st := by kernel_rfl
abbrev R_gazetteerref18_Has (P : Program) : Prop := resFnH P n_gazetteerref18_Has = some (17, c_gazetteerref18_Has.er, [.tmp 4])
theorem A_gazetteerref18_Has {P : Program} (h : R_gazetteerref18_Has P) {a0 a1 : V} {st : St} {K : V → St → Prop} (hF : F_gazetteerref18_Has P a0 a1 st K) : ACalls P n_gazetteerref18_Has [a0, a1] st K :=
  ACalls_h h rfl (by simp) (q_gazetteerref18_Has ▸ hF)

def c_gazetteerref17_Fate : ACode := (.seq (.reg [⟨(some 2), none, (.box (.s 0))⟩, ⟨(some 4), none, (.mov (.c (.int .i64 0)))⟩, ⟨(some 5), none, (.mov (.c (.int .u64 0)))⟩]) (.seq (.seq (.reg [⟨(some 7), none, (.mov (.s 1))⟩, ⟨(some 8), none, (.bin .eql (.s 7) (.c (.int .u64 0)))⟩]) (.cond (.s 8) (.seq (.reg [⟨(some 4), none, (.mov (.c (.int .i64 0)))⟩, ⟨(some 5), none, (.mov (.c (.int .u64 0)))⟩]) .ret) .skip)) (.seq (.seq (.reg [⟨(some 9), none, (.mov (.s 1))⟩, ⟨(some 10), none, (.fld 0 (.s 2))⟩, ⟨(some 11), none, (.ld none (.s 10))⟩, ⟨(some 12), none, (.bin .lss (.s 9) (.s 11))⟩]) (.cond (.s 12) (.seq (.reg [⟨(some 4), none, (.mov (.c (.int .i64 1)))⟩, ⟨(some 5), none, (.mov (.c (.int .u64 0)))⟩]) .ret) .skip)) (.seq (.seq (.reg [⟨(some 6), none, (.mov (.c (.int .i64 0)))⟩]) (.block 0 (.loop [6] [4, 5, 6, 13, 14, 15, 16, 17, 18, 19, 20, 21, 22, 23, 24, 25, 26, 27, 28, 29, 30, 31, 32, 33, 34, 35, 36, 37, 38, 39, 40, 41, 42, 43, 44, 45, 46, 47, 48, 49, 50] (.seq (.seq (.reg [⟨(some 13), none, (.mov (.s 6))⟩, ⟨(some 14), none, (.fld 1 (.s 2))⟩, ⟨(some 15), none, (.ld none (.s 14))⟩, ⟨(some 16), none, (.len .sl (.s 15))⟩, ⟨(some 17), none, (.bin .lss (.s 13) (.s 16))⟩]) (.cond (.s 17) .skip (.exit 0))) (.seq (.block 1 (.seq (.seq (.reg [⟨(some 20), none, (.fld 1 (.s 2))⟩, ⟨(some 21), none, (.ld none (.s 20))⟩, ⟨(some 22), none, (.mov (.s 6))⟩, ⟨(some 23), none, (.idx 2 (.s 21) (.s 22))⟩, ⟨(some 24), none, (.fld 0 (.s 23))⟩, ⟨(some 25), none, (.ld none (.s 24))⟩, ⟨(some 26), none, (.mov (.s 1))⟩, ⟨(some 27), none, (.bin .eql (.s 25) (.s 26))⟩, ⟨(some 28), none, (.mov (.s 27))⟩, ⟨(some 29), (some (28, true)), (.fld 1 (.s 2))⟩, ⟨(some 30), (some (28, true)), (.ld none (.s 29))⟩, ⟨(some 31), (some (28, true)), (.mov (.s 6))⟩, ⟨(some 32), (some (28, true)), (.idx 2 (.s 30) (.s 31))⟩, ⟨(some 33), (some (28, true)), (.fld 1 (.s 32))⟩, ⟨(some 34), (some (28, true)), (.ld none (.s 33))⟩, ⟨(some 35), (some (28, true)), (.bin .eql (.s 34) (.c (.int .u64 0)))⟩, ⟨(some 36), none, (.pick (.s 28) (.s 35) (.c (.bool false)))⟩]) (.cond (.s 36) (.seq (.reg [⟨(some 4), none, (.mov (.c (.int .i64 2)))⟩, ⟨(some 5), none, (.mov (.c (.int .u64 0)))⟩]) .ret) .skip)) (.seq (.reg [⟨(some 37), none, (.fld 1 (.s 2))⟩, ⟨(some 38), none, (.ld none (.s 37))⟩, ⟨(some 39), none, (.mov (.s 6))⟩, ⟨(some 40), none, (.idx 2 (.s 38) (.s 39))⟩, ⟨(some 41), none, (.fld 0 (.s 40))⟩, ⟨(some 42), none, (.ld none (.s 41))⟩, ⟨(some 43), none, (.mov (.s 1))⟩, ⟨(some 44), none, (.bin .eql (.s 42) (.s 43))⟩]) (.cond (.s 44) (.seq (.regD [⟨(some 45), none, (.fld 1 (.s 2))⟩, ⟨(some 46), none, (.ld none (.s 45))⟩, ⟨(some 47), none, (.mov (.s 6))⟩, ⟨(some 48), none, (.idx 2 (.s 46) (.s 47))⟩, ⟨(some 49), none, (.fld 1 (.s 48))⟩, ⟨(some 50), none, (.ld none (.s 49))⟩, ⟨(some 4), none, (.mov (.c (.int .i64 1)))⟩, ⟨(some 5), none, (.mov (.s 50))⟩] [(0, (false, [])), (1, (false, [])), (2, (false, [])), (3, (false, [])), (4, (false, [])), (5, (false, [])), (6, (false, [])), (7, (false, []))]) .ret) .skip)))) (.reg [⟨(some 18), none, (.mov (.s 6))⟩, ⟨(some 19), none, (.bin .add (.s 18) (.c (.int .i64 1)))⟩, ⟨(some 6), none, (.mov (.s 19))⟩])))))) (.seq (.reg [⟨(some 4), none, (.mov (.c (.int .i64 3)))⟩, ⟨(some 5), none, (.mov (.c (.int .u64 0)))⟩]) .ret)))))
def F_gazetteerref17_Fate (P : Program) (a0 a1 : V) (st : St) (K : V → St → Prop) : Prop :=
  @stp P (.box (.c a0)) st ⟨fun v2 st =>
  @stp P (.bin .eql (.c a1) (.c (.int .u64 0))) st ⟨fun v8 st =>
  @cnd v8 ⟨
    GhostV [(.int .i64 0), (.int .u64 0)] st fun vs st => K (mkres vs) st⟩
  ⟨
    @stp P (.fld 0 (.c v2)) st ⟨fun v10 st =>
    @stp P (.ld none (.c v10)) st ⟨fun v11 st =>
    @stp P (.bin .lss (.c a1) (.c v11)) st ⟨fun v12 st =>
    @cnd v12 ⟨
      GhostV [(.int .i64 1), (.int .u64 0)] st fun vs st => K (mkres vs) st⟩
    ⟨
      @Hold ⟨∃ I1 : Nat → Rel 1, (∃ k, GhostV [(.int .i64 0)] st (app (I1 k))) ∧ ∀ k1 v6, ∀ st, app (I1 k1) [v6] st →
        @stp P (.fld 1 (.c v2)) st ⟨fun v14 st =>
        @stp P (.ld none (.c v14)) st ⟨fun v15 st =>
        @stp P (.len .sl (.c v15)) st ⟨fun v16 st =>
        @stp P (.bin .lss (.c v6) (.c v16)) st ⟨fun v17 st =>
        @cnd v17 ⟨
          @stp P (.fld 1 (.c v2)) st ⟨fun v20 st =>
          @stp P (.ld none (.c v20)) st ⟨fun v21 st =>
          @stp P (.idx 2 (.c v21) (.c v6)) st ⟨fun v23 st =>
          @stp P (.fld 0 (.c v23)) st ⟨fun v24 st =>
          @stp P (.ld none (.c v24)) st ⟨fun v25 st =>
          @stp P (.bin .eql (.c v25) (.c a1)) st ⟨fun v27 st =>
          @gst P v27 true (.fld 1 (.c v2)) st ⟨fun v29 st =>
          @gst P v27 true (.ld none (.c v29)) st ⟨fun v30 st =>
          @gst P v27 true (.mov (.c v6)) st ⟨fun v31 st =>
          @gst P v27 true (.idx 2 (.c v30) (.c v31)) st ⟨fun v32 st =>
          @gst P v27 true (.fld 1 (.c v32)) st ⟨fun v33 st =>
          @gst P v27 true (.ld none (.c v33)) st ⟨fun v34 st =>
          @gst P v27 true (.bin .eql (.c v34) (.c (.int .u64 0))) st ⟨fun v35 st =>
          @stp P (.pick (.c v27) (.c v35) (.c (.bool false))) st ⟨fun v36 st =>
          @cnd v36 ⟨
            GhostV [(.int .i64 2), (.int .u64 0)] st fun vs st => K (mkres vs) st⟩
          ⟨
            @stp P (.fld 1 (.c v2)) st ⟨fun v37 st =>
            @stp P (.ld none (.c v37)) st ⟨fun v38 st =>
            @stp P (.idx 2 (.c v38) (.c v6)) st ⟨fun v40 st =>
            @stp P (.fld 0 (.c v40)) st ⟨fun v41 st =>
            @stp P (.ld none (.c v41)) st ⟨fun v42 st =>
            @stp P (.bin .eql (.c v42) (.c a1)) st ⟨fun v44 st =>
            @cnd v44 ⟨
              @stpD P (.fld 1 (.c v2)) st ⟨fun v45 st =>
              @stpD P (.ld none (.c v45)) st ⟨fun v46 st =>
              @stpD P (.idx 2 (.c v46) (.c v6)) st ⟨fun v48 st =>
              @stpD P (.fld 1 (.c v48)) st ⟨fun v49 st =>
              @stpD P (.ld none (.c v49)) st ⟨fun v50 st =>
              GhostV [(.int .i64 1), v50] st fun vs st => K (mkres vs) st⟩⟩⟩⟩⟩⟩
            ⟨
              @stp P (.bin .add (.c v6) (.c (.int .i64 1))) st ⟨fun v19 st =>
              ∃ j, j < k1 ∧ GhostV [v19] st (app (I1 j))⟩⟩⟩⟩⟩⟩⟩⟩⟩⟩⟩⟩⟩⟩⟩⟩⟩⟩⟩⟩⟩⟩⟩⟩
        ⟨
          GhostV [(.int .i64 3), (.int .u64 0)] st fun vs st => K (mkres vs) st⟩⟩⟩⟩⟩⟩⟩⟩⟩⟩⟩⟩⟩
theorem q_gazetteerref17_Fate {P : Program} {a0 a1 : V} {st : St} {K : V → St → Prop} : F_gazetteerref17_Fate P a0 a1 st K = hwp P c_gazetteerref17_Fate (hretQ [.tmp 4, .tmp 5] K) (enterFr [a0, a1]) st := by kernel_rfl
abbrev R_gazetteerref17_Fate (P : Program) : Prop := resFnH P n_gazetteerref17_Fate = some (51, c_gazetteerref17_Fate.er, [.tmp 4, .tmp 5])
theorem A_gazetteerref17_Fate {P : Program} (h : R_gazetteerref17_Fate P) {a0 a1 : V} {st : St} {K : V → St → Prop} (hF : F_gazetteerref17_Fate P a0 a1 st K) : ACalls P n_gazetteerref17_Fate [a0, a1] st K :=
  ACalls_h h rfl (by simp) (q_gazetteerref17_Fate ▸ hF)

end Go.Proofs.Ytmgkjbphlbpbfaa.AM
