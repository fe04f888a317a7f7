import Derived.Test.YtmgkjbphlbpbfaaPCodeA
import Derived.KernelRfl
namespace Go.Proofs.Ytmgkjbphlbpbfaa.AM
open Go
set_option linter.unusedVariables false

def c_pred_Gone : ACode := (.seq (.reg [⟨(some 4), none, (.box (.s 0))⟩, ⟨(some 5), none, (.box (.s 1))⟩, ⟨(some 6), none, (.box (.s 2))⟩, ⟨(some 7), none, (.box (.s 3))⟩, ⟨(some 8), none, (.alloc [(.sl .nil 0 [] [])])⟩, ⟨(some 9), none, (.mov (.c (.int .i64 0)))⟩]) (.seq (.block 0 (.seq (.reg [⟨(some 11), none, (.ld (some 1) (.s 4))⟩, ⟨(some 12), none, (.call (.c (.fn (.func n_pred_Check) [] [])) [(.s 11)])⟩, ⟨(some 13), none, (.bin .neq (.s 12) (.c (.int .i64 0)))⟩, ⟨(some 10), none, (.mov (.s 13))⟩]) (.cond (.s 10) (.seq (.reg [⟨(some 14), none, (.build [(.sl .nil 0 [] [])] [])⟩, ⟨none, none, (.st 1 (.s 8) (.s 14))⟩, ⟨(some 9), none, (.mov (.c (.int .i64 250)))⟩]) .ret) (.seq (.reg [⟨(some 16), none, (.ld none (.s 5))⟩, ⟨(some 17), none, (.call (.c (.fn (.func n_slices_Contains_uint32_uint32) [] [])) [(.s 16), (.c (.int .u32 0))])⟩, ⟨(some 18), none, (.mov (.s 17))⟩, ⟨(some 19), (some (18, false)), (.ld none (.s 6))⟩, ⟨(some 20), (some (18, false)), (.bin .eql (.s 19) (.c (.int .u32 0)))⟩, ⟨(some 21), none, (.pick (.s 18) (.c (.bool true)) (.s 20))⟩, ⟨(some 22), none, (.mov (.s 21))⟩, ⟨(some 23), (some (22, false)), (.ld none (.s 7))⟩, ⟨(some 24), (some (22, false)), (.bin .eql (.s 23) (.c (.int .u32 0)))⟩, ⟨(some 25), none, (.pick (.s 22) (.c (.bool true)) (.s 24))⟩, ⟨(some 15), none, (.mov (.s 25))⟩]) (.cond (.s 15) (.seq (.reg [⟨(some 26), none, (.build [(.sl .nil 0 [] [])] [])⟩, ⟨none, none, (.st 1 (.s 8) (.s 26))⟩, ⟨(some 9), none, (.mov (.c (.int .i64 2)))⟩]) .ret) .skip))))) (.seq (.reg [⟨(some 27), none, (.ld (some 1) (.s 4))⟩, ⟨(some 28), none, (.mkfn (.func n_pred_Gone_1) [] [(.s 6), (.s 7), (.s 5)])⟩, ⟨(some 29), none, (.call (.c (.fn (.func n_pred_change) [] [])) [(.s 27), (.s 28)])⟩, ⟨(some 30), none, (.ext 0 (.s 29))⟩, ⟨(some 31), none, (.ext 1 (.s 29))⟩, ⟨none, none, (.st 1 (.s 8) (.s 30))⟩, ⟨(some 9), none, (.mov (.s 31))⟩]) .ret)))
def F_pred_Gone (P : Program) (a0 a1 a2 a3 : V) (st : St) (K : V → St → Prop) : Prop :=
  @stp P (.box (.c a0)) st ⟨fun v4 st =>
  @stp P (.box (.c a1)) st ⟨fun v5 st =>
  @stp P (.box (.c a2)) st ⟨fun v6 st =>
  @stp P (.box (.c a3)) st ⟨fun v7 st =>
  @stp P (.alloc [(.sl .nil 0 [] [])]) st ⟨fun v8 st =>
  @stp P (.ld (some 1) (.c v4)) st ⟨fun v11 st =>
  @stp P (.call (.c (.fn (.func n_pred_Check) [] [])) [(.c v11)]) st ⟨fun v12 st =>
  @stp P (.bin .neq (.c v12) (.c (.int .i64 0))) st ⟨fun v13 st =>
  @cnd v13 ⟨
    @stp P (.build [(.sl .nil 0 [] [])] []) st ⟨fun v14 st =>
    @stp P (.st 1 (.c v8) (.c v14)) st ⟨fun _v st =>
    @ldr (some 1) v8 st ⟨fun r1 =>
    GhostV [r1, (.int .i64 250)] st fun vs st => K (mkres vs) st⟩⟩⟩⟩
  ⟨
    @stp P (.ld none (.c v5)) st ⟨fun v16 st =>
    @stp P (.call (.c (.fn (.func n_slices_Contains_uint32_uint32) [] [])) [(.c v16), (.c (.int .u32 0))]) st ⟨fun v17 st =>
    @gst P v17 false (.ld none (.c v6)) st ⟨fun v19 st =>
    @gst P v17 false (.bin .eql (.c v19) (.c (.int .u32 0))) st ⟨fun v20 st =>
    @stp P (.pick (.c v17) (.c (.bool true)) (.c v20)) st ⟨fun v21 st =>
    @gst P v21 false (.ld none (.c v7)) st ⟨fun v23 st =>
    @gst P v21 false (.bin .eql (.c v23) (.c (.int .u32 0))) st ⟨fun v24 st =>
    @stp P (.pick (.c v21) (.c (.bool true)) (.c v24)) st ⟨fun v25 st =>
    @cnd v25 ⟨
      @stp P (.build [(.sl .nil 0 [] [])] []) st ⟨fun v26 st =>
      @stp P (.st 1 (.c v8) (.c v26)) st ⟨fun _v st =>
      @ldr (some 1) v8 st ⟨fun r1 =>
      GhostV [r1, (.int .i64 2)] st fun vs st => K (mkres vs) st⟩⟩⟩⟩
    ⟨
      @stp P (.ld (some 1) (.c v4)) st ⟨fun v27 st =>
      @stp P (.mkfn (.func n_pred_Gone_1) [] [(.c v6), (.c v7), (.c v5)]) st ⟨fun v28 st =>
      @stp P (.call (.c (.fn (.func n_pred_change) [] [])) [(.c v27), (.c v28)]) st ⟨fun v29 st =>
      @stp P (.ext 0 (.c v29)) st ⟨fun v30 st =>
      @stp P (.ext 1 (.c v29)) st ⟨fun v31 st =>
      @stp P (.st 1 (.c v8) (.c v30)) st ⟨fun _v st =>
      @ldr (some 1) v8 st ⟨fun r1 =>
      GhostV [r1, v31] st fun vs st => K (mkres vs) st⟩⟩⟩⟩⟩⟩⟩⟩⟩⟩⟩⟩⟩⟩⟩⟩⟩⟩⟩⟩⟩⟩⟩⟩⟩
theorem q_pred_Gone {P : Program} {a0 a1 a2 a3 : V} {st : St} {K : V → St → Prop} : F_pred_Gone P a0 a1 a2 a3 st K = hwp P c_pred_Gone (hretQ [.cell 8 (some 1), .tmp 9] K) (enterFr [a0, a1, a2, a3]) st := by kernel_rfl
abbrev R_pred_Gone (P : Program) : Prop := resFnH P n_pred_Gone = some (32, c_pred_Gone.er, [.cell 8 (some 1), .tmp 9])
theorem A_pred_Gone {P : Program} (h : R_pred_Gone P) {a0 a1 a2 a3 : V} {st : St} {K : V → St → Prop} (hF : F_pred_Gone P a0 a1 a2 a3 st K) : ACalls P n_pred_Gone [a0, a1, a2, a3] st K :=
  ACalls_h h rfl (by simp) (q_pred_Gone ▸ hF)

def c_gazetteerref15_Split : ACode := (.seq (.reg [⟨(some 3), none, (.box (.s 0))⟩, ⟨(some 6), none, (.alloc [(.sl .nil 0 [] [])])⟩]) (.seq (.seq (.reg [⟨(some 7), none, (.mov (.c (.int .i64 0)))⟩]) (.block 0 (.loop [7] [7, 8, 9, 10, 11, 12, 13, 14, 15, 16, 17, 18, 19, 20, 21, 22, 23, 24, 25, 26, 27, 28, 29, 30, 31, 32, 33, 34, 35, 36, 37, 38, 39, 40, 41, 42, 43, 44, 45, 46, 47, 48, 49, 50, 51, 52, 53, 54, 55, 56, 57, 58, 59, 60] (.seq (.seq (.reg [⟨(some 11), none, (.mov (.s 7))⟩, ⟨(some 12), none, (.mov (.s 1))⟩, ⟨(some 13), none, (.len .sl (.s 12))⟩, ⟨(some 14), none, (.bin .lss (.s 11) (.s 13))⟩]) (.cond (.s 14) .skip (.exit 0))) (.seq (.block 1 (.seq (.reg [⟨(some 17), none, (.ld (some 1) (.s 3))⟩, ⟨(some 8), none, (.alloc [(.sl .nil 0 [] [])])⟩, ⟨none, none, (.st 1 (.s 8) (.s 17))⟩]) (.seq (.regD [⟨(some 18), none, (.ld (some 1) (.s 3))⟩, ⟨(some 19), none, (.mov (.s 1))⟩, ⟨(some 20), none, (.mov (.s 7))⟩, ⟨(some 21), none, (.idx 3 (.s 19) (.s 20))⟩, ⟨(some 22), none, (.fld 0 (.s 21))⟩, ⟨(some 23), none, (.ld none (.s 22))⟩, ⟨(some 24), none, (.mov (.s 1))⟩, ⟨(some 25), none, (.mov (.s 7))⟩, ⟨(some 26), none, (.idx 3 (.s 24) (.s 25))⟩, ⟨(some 27), none, (.fld 1 (.s 26))⟩, ⟨(some 28), none, (.ld none (.s 27))⟩, ⟨(some 29), none, (.build [(.int .i64 0), (.int .i64 0), (.int .i64 0), (.int .i64 0)] [])⟩, ⟨(some 30), none, (.call (.c (.fn (.func n_gazetteerref15_Copied) [] [])) [(.s 18), (.s 23), (.s 28), (.s 29), (.c (.bool false))])⟩, ⟨none, none, (.st 1 (.s 3) (.s 30))⟩] [(0, (false, [])), (1, (false, [])), (2, (false, [])), (3, (false, [])), (4, (false, [])), (5, (false, [])), (6, (false, [])), (7, (false, [])), (8, (false, [])), (9, (false, [])), (10, (false, [])), (11, (false, [])), (12, (true, [])), (13, (true, []))]) (.seq (.reg [⟨(some 31), none, (.mov (.s 1))⟩, ⟨(some 32), none, (.mov (.s 7))⟩, ⟨(some 33), none, (.idx 3 (.s 31) (.s 32))⟩, ⟨(some 34), none, (.fld 2 (.s 33))⟩, ⟨(some 35), none, (.ld none (.s 34))⟩]) (.cond (.s 35) (.seq (.reg [⟨(some 9), none, (.mov (.c (.int .i64 0)))⟩]) (.block 2 (.loop [9] [9, 10, 36, 37, 38, 39, 40, 41, 42, 43, 44, 45, 46, 47, 48, 49, 50, 51, 52, 53, 54, 55, 56, 57, 58, 59, 60] (.seq (.seq (.reg [⟨(some 36), none, (.mov (.s 9))⟩, ⟨(some 37), none, (.fld 0 (.s 8))⟩, ⟨(some 38), none, (.ld none (.s 37))⟩, ⟨(some 39), none, (.len .sl (.s 38))⟩, ⟨(some 40), none, (.bin .lss (.s 36) (.s 39))⟩]) (.cond (.s 40) .skip (.exit 2))) (.seq (.block 3 (.seq (.reg [⟨(some 43), none, (.fld 0 (.s 8))⟩, ⟨(some 44), none, (.ld none (.s 43))⟩, ⟨(some 45), none, (.mov (.s 9))⟩, ⟨(some 46), none, (.idx 6 (.s 44) (.s 45))⟩, ⟨(some 47), none, (.ld (some 6) (.s 46))⟩, ⟨(some 10), none, (.alloc [(.int .u32 0), (.int .u64 0), (.int .i64 0), (.int .i64 0), (.int .i64 0), (.int .i64 0)])⟩, ⟨none, none, (.st 6 (.s 10) (.s 47))⟩]) (.seq (.regD [⟨(some 48), none, (.fld 0 (.s 10))⟩, ⟨(some 49), none, (.ld none (.s 48))⟩, ⟨(some 50), none, (.mov (.s 1))⟩, ⟨(some 51), none, (.mov (.s 7))⟩, ⟨(some 52), none, (.idx 3 (.s 50) (.s 51))⟩, ⟨(some 53), none, (.fld 0 (.s 52))⟩, ⟨(some 54), none, (.ld none (.s 53))⟩, ⟨(some 55), none, (.bin .eql (.s 49) (.s 54))⟩] [(0, (false, [])), (1, (false, [])), (2, (false, [])), (3, (false, [])), (4, (false, [])), (5, (false, [])), (6, (false, [])), (7, (false, []))]) (.cond (.s 55) (.seq (.reg [⟨(some 56), none, (.mov (.s 2))⟩, ⟨(some 57), none, (.fld 0 (.s 10))⟩, ⟨none, none, (.st 1 (.s 57) (.s 56))⟩]) (.reg [⟨(some 58), none, (.ld (some 1) (.s 3))⟩, ⟨(some 59), none, (.ld (some 6) (.s 10))⟩, ⟨(some 60), none, (.call (.c (.fn (.func n_gazetteerref15_With) [] [])) [(.s 58), (.s 59)])⟩, ⟨none, none, (.st 1 (.s 3) (.s 60))⟩])) .skip)))) (.reg [⟨(some 41), none, (.mov (.s 9))⟩, ⟨(some 42), none, (.bin .add (.s 41) (.c (.int .i64 1)))⟩, ⟨(some 9), none, (.mov (.s 42))⟩])))))) .skip))))) (.reg [⟨(some 15), none, (.mov (.s 7))⟩, ⟨(some 16), none, (.bin .add (.s 15) (.c (.int .i64 1)))⟩, ⟨(some 7), none, (.mov (.s 16))⟩])))))) (.seq (.reg [⟨(some 61), none, (.ld (some 1) (.s 3))⟩, ⟨none, none, (.st 1 (.s 6) (.s 61))⟩]) .ret)))
def F_gazetteerref15_Split (P : Program) (a0 a1 a2 : V) (st : St) (K : V → St → Prop) : Prop :=
  @stp P (.box (.c a0)) st ⟨fun v3 st =>
  @stp P (.alloc [(.sl .nil 0 [] [])]) st ⟨fun v6 st =>
  @Hold ⟨∃ I1 : Nat → Rel 1, (∃ k, GhostV [(.int .i64 0)] st (app (I1 k))) ∧ ∀ k1 v7, ∀ st, app (I1 k1) [v7] st →
    @stp P (.len .sl (.c a1)) st ⟨fun v13 st =>
    @stp P (.bin .lss (.c v7) (.c v13)) st ⟨fun v14 st =>
    @cnd v14 ⟨
      @stp P (.ld (some 1) (.c v3)) st ⟨fun v17 st =>
      @stp P (.alloc [(.sl .nil 0 [] [])]) st ⟨fun v8 st =>
      @stp P (.st 1 (.c v8) (.c v17)) st ⟨fun _v st =>
      @stpD P (.ld (some 1) (.c v3)) st ⟨fun v18 st =>
      @stpD P (.idx 3 (.c a1) (.c v7)) st ⟨fun v21 st =>
      @stpD P (.fld 0 (.c v21)) st ⟨fun v22 st =>
      @stpD P (.ld none (.c v22)) st ⟨fun v23 st =>
      @stpD P (.idx 3 (.c a1) (.c v7)) st ⟨fun v26 st =>
      @stpD P (.fld 1 (.c v26)) st ⟨fun v27 st =>
      @stpD P (.ld none (.c v27)) st ⟨fun v28 st =>
      @stpD P (.build [(.int .i64 0), (.int .i64 0), (.int .i64 0), (.int .i64 0)] []) st ⟨fun v29 st =>
      @stpD P (.call (.c (.fn (.func n_gazetteerref15_Copied) [] [])) [(.c v18), (.c v23), (.c v28), (.c v29), (.c (.bool false))]) st ⟨fun v30 st =>
      @stpD P (.st 1 (.c v3) (.c v30)) st ⟨fun _v st =>
      @stp P (.idx 3 (.c a1) (.c v7)) st ⟨fun v33 st =>
      @stp P (.fld 2 (.c v33)) st ⟨fun v34 st =>
      @stp P (.ld none (.c v34)) st ⟨fun v35 st =>
      @cnd v35 ⟨
        @Hold ⟨∃ I2 : Nat → Rel 1, (∃ k, GhostV [(.int .i64 0)] st (app (I2 k))) ∧ ∀ k2 v9, ∀ st, app (I2 k2) [v9] st →
          @stp P (.fld 0 (.c v8)) st ⟨fun v37 st =>
          @stp P (.ld none (.c v37)) st ⟨fun v38 st =>
          @stp P (.len .sl (.c v38)) st ⟨fun v39 st =>
          @stp P (.bin .lss (.c v9) (.c v39)) st ⟨fun v40 st =>
          @cnd v40 ⟨
            @stp P (.fld 0 (.c v8)) st ⟨fun v43 st =>
            @stp P (.ld none (.c v43)) st ⟨fun v44 st =>
            @stp P (.idx 6 (.c v44) (.c v9)) st ⟨fun v46 st =>
            @stp P (.ld (some 6) (.c v46)) st ⟨fun v47 st =>
            @stp P (.alloc [(.int .u32 0), (.int .u64 0), (.int .i64 0), (.int .i64 0), (.int .i64 0), (.int .i64 0)]) st ⟨fun v10 st =>
            @stp P (.st 6 (.c v10) (.c v47)) st ⟨fun _v st =>
            @stpD P (.fld 0 (.c v10)) st ⟨fun v48 st =>
            @stpD P (.ld none (.c v48)) st ⟨fun v49 st =>
            @stpD P (.idx 3 (.c a1) (.c v7)) st ⟨fun v52 st =>
            @stpD P (.fld 0 (.c v52)) st ⟨fun v53 st =>
            @stpD P (.ld none (.c v53)) st ⟨fun v54 st =>
            @stpD P (.bin .eql (.c v49) (.c v54)) st ⟨fun v55 st =>
            @cnd v55 ⟨
              @stp P (.fld 0 (.c v10)) st ⟨fun v57 st =>
              @stp P (.st 1 (.c v57) (.c a2)) st ⟨fun _v st =>
              @stp P (.ld (some 1) (.c v3)) st ⟨fun v58 st =>
              @stp P (.ld (some 6) (.c v10)) st ⟨fun v59 st =>
              @stp P (.call (.c (.fn (.func n_gazetteerref15_With) [] [])) [(.c v58), (.c v59)]) st ⟨fun v60 st =>
              @stp P (.st 1 (.c v3) (.c v60)) st ⟨fun _v st =>
              @stp P (.bin .add (.c v9) (.c (.int .i64 1))) st ⟨fun v42 st =>
              ∃ j, j < k2 ∧ GhostV [v42] st (app (I2 j))⟩⟩⟩⟩⟩⟩⟩⟩
            ⟨
              @stp P (.bin .add (.c v9) (.c (.int .i64 1))) st ⟨fun v42 st =>
              ∃ j, j < k2 ∧ GhostV [v42] st (app (I2 j))⟩⟩⟩⟩⟩⟩⟩⟩⟩⟩⟩⟩⟩⟩⟩
          ⟨
            @stp P (.bin .add (.c v7) (.c (.int .i64 1))) st ⟨fun v16 st =>
            ∃ j, j < k1 ∧ GhostV [v16] st (app (I1 j))⟩⟩⟩⟩⟩⟩⟩⟩
      ⟨
        @stp P (.bin .add (.c v7) (.c (.int .i64 1))) st ⟨fun v16 st =>
        ∃ j, j < k1 ∧ GhostV [v16] st (app (I1 j))⟩⟩⟩⟩⟩⟩⟩⟩⟩⟩⟩⟩⟩⟩⟩⟩⟩⟩⟩
    ⟨
      @stp P (.ld (some 1) (.c v3)) st ⟨fun v61 st =>
      @stp P (.st 1 (.c v6) (.c v61)) st ⟨fun _v st =>
      @ldr (some 1) v6 st ⟨fun r1 =>
      GhostV [r1] st fun vs st => K (mkres vs) st⟩⟩⟩⟩⟩⟩⟩⟩⟩
theorem q_gazetteerref15_Split {P : Program} {a0 a1 a2 : V} {st : St} {K : V → St → Prop} : F_gazetteerref15_Split P a0 a1 a2 st K = hwp P c_gazetteerref15_Split (hretQ [.cell 6 (some 1)] K) (enterFr [a0, a1, a2]) st := by kernel_rfl
abbrev R_gazetteerref15_Split (P : Program) : Prop := resFnH P n_gazetteerref15_Split = some (62, c_gazetteerref15_Split.er, [.cell 6 (some 1)])
theorem A_gazetteerref15_Split {P : Program} (h : R_gazetteerref15_Split P) {a0 a1 a2 : V} {st : St} {K : V → St → Prop} (hF : F_gazetteerref15_Split P a0 a1 a2 st K) : ACalls P n_gazetteerref15_Split [a0, a1, a2] st K :=
  ACalls_h h rfl (by simp) (q_gazetteerref15_Split ▸ hF)

def c_gazetteerref15_Gone : ACode := (.seq (.reg [⟨(some 4), none, (.box (.s 0))⟩, ⟨(some 8), none, (.alloc [(.sl .nil 0 [] [])])⟩]) (.seq (.reg [⟨(some 17), none, (.build [(.sl .nil 0 [] [])] [])⟩, ⟨(some 9), none, (.alloc [(.sl .nil 0 [] [])])⟩, ⟨none, none, (.st 1 (.s 9) (.s 17))⟩]) (.seq (.seq (.reg [⟨(some 10), none, (.mov (.c (.int .i64 0)))⟩]) (.block 0 (.loop [10] [10, 11, 12, 18, 19, 20, 21, 22, 23, 24, 25, 26, 27, 28, 29, 30, 31, 32, 33, 34, 35, 36, 37, 38, 39, 40, 41, 42, 43, 44, 45, 46, 47, 48, 49, 50, 51, 52, 53, 54, 55] (.seq (.seq (.reg [⟨(some 18), none, (.mov (.s 10))⟩, ⟨(some 19), none, (.fld 0 (.s 4))⟩, ⟨(some 20), none, (.ld none (.s 19))⟩, ⟨(some 21), none, (.len .sl (.s 20))⟩, ⟨(some 22), none, (.bin .lss (.s 18) (.s 21))⟩]) (.cond (.s 22) .skip (.exit 0))) (.seq (.block 1 (.seq (.reg [⟨(some 11), none, (.mov (.c (.bool true)))⟩]) (.seq (.seq (.reg [⟨(some 12), none, (.mov (.c (.int .i64 0)))⟩]) (.block 2 (.loop [11, 12] [11, 12, 25, 26, 27, 28, 29, 30, 31, 32, 33, 34, 35, 36, 37, 38, 39, 40, 41, 42, 43, 44] (.seq (.seq (.reg [⟨(some 25), none, (.mov (.s 12))⟩, ⟨(some 26), none, (.mov (.s 1))⟩, ⟨(some 27), none, (.len .sl (.s 26))⟩, ⟨(some 28), none, (.bin .lss (.s 25) (.s 27))⟩]) (.cond (.s 28) .skip (.exit 2))) (.seq (.block 3 (.regD [⟨(some 31), none, (.mov (.s 11))⟩, ⟨(some 32), none, (.mov (.s 31))⟩, ⟨(some 33), (some (32, true)), (.mov (.s 1))⟩, ⟨(some 34), (some (32, true)), (.mov (.s 12))⟩, ⟨(some 35), (some (32, true)), (.idx 1 (.s 33) (.s 34))⟩, ⟨(some 36), (some (32, true)), (.ld none (.s 35))⟩, ⟨(some 37), (some (32, true)), (.fld 0 (.s 4))⟩, ⟨(some 38), (some (32, true)), (.ld none (.s 37))⟩, ⟨(some 39), (some (32, true)), (.mov (.s 10))⟩, ⟨(some 40), (some (32, true)), (.idx 6 (.s 38) (.s 39))⟩, ⟨(some 41), (some (32, true)), (.fld 0 (.s 40))⟩, ⟨(some 42), (some (32, true)), (.ld none (.s 41))⟩, ⟨(some 43), (some (32, true)), (.bin .neq (.s 36) (.s 42))⟩, ⟨(some 44), none, (.pick (.s 32) (.s 43) (.c (.bool false)))⟩, ⟨(some 11), none, (.mov (.s 44))⟩] [(0, (false, [])), (1, (false, [])), (2, (false, [])), (3, (false, [])), (4, (false, [])), (5, (false, [])), (6, (false, [])), (7, (false, [])), (8, (false, [])), (9, (false, [])), (10, (false, [])), (11, (false, [])), (12, (false, [])), (13, (false, [])), (14, (true, []))])) (.reg [⟨(some 29), none, (.mov (.s 12))⟩, ⟨(some 30), none, (.bin .add (.s 29) (.c (.int .i64 1)))⟩, ⟨(some 12), none, (.mov (.s 30))⟩])))))) (.seq (.reg [⟨(some 45), none, (.mov (.s 11))⟩]) (.cond (.s 45) (.regD [⟨(some 46), none, (.fld 0 (.s 9))⟩, ⟨(some 47), none, (.ld none (.s 46))⟩, ⟨(some 48), none, (.fld 0 (.s 4))⟩, ⟨(some 49), none, (.ld none (.s 48))⟩, ⟨(some 50), none, (.mov (.s 10))⟩, ⟨(some 51), none, (.idx 6 (.s 49) (.s 50))⟩, ⟨(some 52), none, (.ld (some 6) (.s 51))⟩, ⟨(some 53), none, (.mkSl 6 1 [(.int .u32 0), (.int .u64 0), (.int .i64 0), (.int .i64 0), (.int .i64 0), (.int .i64 0)] [(0, (.s 52))])⟩, ⟨(some 54), none, (.append 6 48 (.s 47) (.s 53))⟩, ⟨(some 55), none, (.fld 0 (.s 9))⟩, ⟨none, none, (.st 1 (.s 55) (.s 54))⟩] [(0, (false, [])), (1, (false, [])), (2, (false, [])), (3, (false, [])), (4, (false, [])), (5, (false, [])), (6, (false, [])), (7, (true, [1, 0])), (8, (true, [])), (9, (false, [])), (10, (true, []))]) .skip))))) (.reg [⟨(some 23), none, (.mov (.s 10))⟩, ⟨(some 24), none, (.bin .add (.s 23) (.c (.int .i64 1)))⟩, ⟨(some 10), none, (.mov (.s 24))⟩])))))) (.seq (.seq (.reg [⟨(some 13), none, (.mov (.c (.int .i64 0)))⟩]) (.block 4 (.loop [13] [13, 14, 15, 16, 56, 57, 58, 59, 60, 61, 62, 63, 64, 65, 66, 67, 68, 69, 70, 71, 72, 73, 74, 75, 76, 77, 78, 79, 80, 81, 82, 83, 84, 85, 86, 87, 88, 89, 90, 91, 92, 93, 94, 95, 96, 97, 98] (.seq (.seq (.reg [⟨(some 56), none, (.mov (.s 13))⟩, ⟨(some 57), none, (.fld 0 (.s 4))⟩, ⟨(some 58), none, (.ld none (.s 57))⟩, ⟨(some 59), none, (.len .sl (.s 58))⟩, ⟨(some 60), none, (.bin .lss (.s 56) (.s 59))⟩]) (.cond (.s 60) .skip (.exit 4))) (.seq (.block 5 (.seq (.reg [⟨(some 63), none, (.fld 0 (.s 4))⟩, ⟨(some 64), none, (.ld none (.s 63))⟩, ⟨(some 65), none, (.mov (.s 13))⟩, ⟨(some 66), none, (.idx 6 (.s 64) (.s 65))⟩, ⟨(some 67), none, (.ld (some 6) (.s 66))⟩, ⟨(some 14), none, (.alloc [(.int .u32 0), (.int .u64 0), (.int .i64 0), (.int .i64 0), (.int .i64 0), (.int .i64 0)])⟩, ⟨none, none, (.st 6 (.s 14) (.s 67))⟩]) (.seq (.reg [⟨(some 68), none, (.fld 0 (.s 14))⟩, ⟨(some 69), none, (.ld none (.s 68))⟩, ⟨(some 70), none, (.mov (.s 2))⟩, ⟨(some 71), none, (.bin .eql (.s 69) (.s 70))⟩, ⟨(some 15), none, (.mov (.s 71))⟩]) (.seq (.seq (.reg [⟨(some 16), none, (.mov (.c (.int .i64 0)))⟩]) (.block 6 (.loop [15, 16] [15, 16, 72, 73, 74, 75, 76, 77, 78, 79, 80, 81, 82, 83, 84, 85, 86, 87, 88, 89, 90, 91, 92] (.seq (.seq (.reg [⟨(some 72), none, (.mov (.s 16))⟩, ⟨(some 73), none, (.mov (.s 1))⟩, ⟨(some 74), none, (.len .sl (.s 73))⟩, ⟨(some 75), none, (.bin .lss (.s 72) (.s 74))⟩]) (.cond (.s 75) .skip (.exit 6))) (.seq (.block 7 (.regD [⟨(some 78), none, (.mov (.s 15))⟩, ⟨(some 79), none, (.mov (.s 78))⟩, ⟨(some 80), (some (79, false)), (.mov (.s 2))⟩, ⟨(some 81), (some (79, false)), (.mov (.s 3))⟩, ⟨(some 82), (some (79, false)), (.bin .neq (.s 80) (.s 81))⟩, ⟨(some 83), (some (79, false)), (.mov (.s 82))⟩, ⟨(some 84), (some (83, true)), (.mov (.s 1))⟩, ⟨(some 85), (some (83, true)), (.mov (.s 16))⟩, ⟨(some 86), (some (83, true)), (.idx 1 (.s 84) (.s 85))⟩, ⟨(some 87), (some (83, true)), (.ld none (.s 86))⟩, ⟨(some 88), (some (83, true)), (.fld 0 (.s 14))⟩, ⟨(some 89), (some (83, true)), (.ld none (.s 88))⟩, ⟨(some 90), (some (83, true)), (.bin .eql (.s 87) (.s 89))⟩, ⟨(some 91), (some (79, false)), (.pick (.s 83) (.s 90) (.c (.bool false)))⟩, ⟨(some 92), none, (.pick (.s 79) (.c (.bool true)) (.s 91))⟩, ⟨(some 15), none, (.mov (.s 92))⟩] [(0, (false, [])), (1, (false, [])), (2, (false, [])), (3, (false, [])), (4, (false, [])), (5, (false, [])), (6, (false, [])), (7, (false, [])), (8, (false, [])), (9, (false, [])), (10, (false, [])), (11, (false, [])), (12, (false, [])), (13, (false, [])), (14, (false, [])), (15, (true, []))])) (.reg [⟨(some 76), none, (.mov (.s 16))⟩, ⟨(some 77), none, (.bin .add (.s 76) (.c (.int .i64 1)))⟩, ⟨(some 16), none, (.mov (.s 77))⟩])))))) (.seq (.reg [⟨(some 93), none, (.mov (.s 15))⟩]) (.cond (.s 93) (.seq (.reg [⟨(some 94), none, (.mov (.s 3))⟩, ⟨(some 95), none, (.fld 0 (.s 14))⟩, ⟨none, none, (.st 1 (.s 95) (.s 94))⟩]) (.reg [⟨(some 96), none, (.ld (some 1) (.s 9))⟩, ⟨(some 97), none, (.ld (some 6) (.s 14))⟩, ⟨(some 98), none, (.call (.c (.fn (.func n_gazetteerref15_With) [] [])) [(.s 96), (.s 97)])⟩, ⟨none, none, (.st 1 (.s 9) (.s 98))⟩])) .skip)))))) (.reg [⟨(some 61), none, (.mov (.s 13))⟩, ⟨(some 62), none, (.bin .add (.s 61) (.c (.int .i64 1)))⟩, ⟨(some 13), none, (.mov (.s 62))⟩])))))) (.seq (.reg [⟨(some 99), none, (.ld (some 1) (.s 9))⟩, ⟨none, none, (.st 1 (.s 8) (.s 99))⟩]) .ret)))))
def F_gazetteerref15_Gone (P : Program) (a0 a1 a2 a3 : V) (st : St) (K : V → St → Prop) : Prop :=
  @stp P (.box (.c a0)) st ⟨fun v4 st =>
  @stp P (.alloc [(.sl .nil 0 [] [])]) st ⟨fun v8 st =>
  @stp P (.build [(.sl .nil 0 [] [])] []) st ⟨fun v17 st =>
  @stp P (.alloc [(.sl .nil 0 [] [])]) st ⟨fun v9 st =>
  @stp P (.st 1 (.c v9) (.c v17)) st ⟨fun _v st =>
  @Hold ⟨∃ I1 : Nat → Rel 1, (∃ k, GhostV [(.int .i64 0)] st (app (I1 k))) ∧ ∀ k1 v10, ∀ st, app (I1 k1) [v10] st →
    @stp P (.fld 0 (.c v4)) st ⟨fun v19 st =>
    @stp P (.ld none (.c v19)) st ⟨fun v20 st =>
    @stp P (.len .sl (.c v20)) st ⟨fun v21 st =>
    @stp P (.bin .lss (.c v10) (.c v21)) st ⟨fun v22 st =>
    @cnd v22 ⟨
      @Hold ⟨∃ I2 : Nat → Rel 2, (∃ k, GhostV [(.bool true), (.int .i64 0)] st (app (I2 k))) ∧ ∀ k2 v11 v12, ∀ st, app (I2 k2) [v11, v12] st →
        @stp P (.len .sl (.c a1)) st ⟨fun v27 st =>
        @stp P (.bin .lss (.c v12) (.c v27)) st ⟨fun v28 st =>
        @cnd v28 ⟨
          @gstD P v11 true (.mov (.c a1)) st ⟨fun v33 st =>
          @gstD P v11 true (.mov (.c v12)) st ⟨fun v34 st =>
          @gstD P v11 true (.idx 1 (.c v33) (.c v34)) st ⟨fun v35 st =>
          @gstD P v11 true (.ld none (.c v35)) st ⟨fun v36 st =>
          @gstD P v11 true (.fld 0 (.c v4)) st ⟨fun v37 st =>
          @gstD P v11 true (.ld none (.c v37)) st ⟨fun v38 st =>
          @gstD P v11 true (.mov (.c v10)) st ⟨fun v39 st =>
          @gstD P v11 true (.idx 6 (.c v38) (.c v39)) st ⟨fun v40 st =>
          @gstD P v11 true (.fld 0 (.c v40)) st ⟨fun v41 st =>
          @gstD P v11 true (.ld none (.c v41)) st ⟨fun v42 st =>
          @gstD P v11 true (.bin .neq (.c v36) (.c v42)) st ⟨fun v43 st =>
          @stpD P (.pick (.c v11) (.c v43) (.c (.bool false))) st ⟨fun v44 st =>
          @stp P (.bin .add (.c v12) (.c (.int .i64 1))) st ⟨fun v30 st =>
          ∃ j, j < k2 ∧ GhostV [v44, v30] st (app (I2 j))⟩⟩⟩⟩⟩⟩⟩⟩⟩⟩⟩⟩⟩⟩
        ⟨
          @cnd v11 ⟨
            @stpD P (.fld 0 (.c v9)) st ⟨fun v46 st =>
            @stpD P (.ld none (.c v46)) st ⟨fun v47 st =>
            @stpD P (.fld 0 (.c v4)) st ⟨fun v48 st =>
            @stpD P (.ld none (.c v48)) st ⟨fun v49 st =>
            @stpD P (.idx 6 (.c v49) (.c v10)) st ⟨fun v51 st =>
            @stpD P (.ld (some 6) (.c v51)) st ⟨fun v52 st =>
            @stpD P (.mkSl 6 1 [(.int .u32 0), (.int .u64 0), (.int .i64 0), (.int .i64 0), (.int .i64 0), (.int .i64 0)] [(0, (.c v52))]) st ⟨fun v53 st =>
            hwat P none (.ld none (.c v46)) st v47 ∧ (
            hwat P none (.fld 0 (.c v9)) st v46 ∧ (
            @stpD P (.append 6 48 (.c v47) (.c v53)) st ⟨fun v54 st =>
            @stpD P (.fld 0 (.c v9)) st ⟨fun v55 st =>
            @stpD P (.st 1 (.c v55) (.c v54)) st ⟨fun _v st =>
            @stp P (.bin .add (.c v10) (.c (.int .i64 1))) st ⟨fun v24 st =>
            ∃ j, j < k1 ∧ GhostV [v24] st (app (I1 j))⟩⟩⟩⟩))⟩⟩⟩⟩⟩⟩⟩⟩
          ⟨
            @stp P (.bin .add (.c v10) (.c (.int .i64 1))) st ⟨fun v24 st =>
            ∃ j, j < k1 ∧ GhostV [v24] st (app (I1 j))⟩⟩⟩⟩⟩⟩⟩
    ⟨
      @Hold ⟨∃ I3 : Nat → Rel 1, (∃ k, GhostV [(.int .i64 0)] st (app (I3 k))) ∧ ∀ k3 v13, ∀ st, app (I3 k3) [v13] st →
        @stp P (.fld 0 (.c v4)) st ⟨fun v57 st =>
        @stp P (.ld none (.c v57)) st ⟨fun v58 st =>
        @stp P (.len .sl (.c v58)) st ⟨fun v59 st =>
        @stp P (.bin .lss (.c v13) (.c v59)) st ⟨fun v60 st =>
        @cnd v60 ⟨
          @stp P (.fld 0 (.c v4)) st ⟨fun v63 st =>
          @stp P (.ld none (.c v63)) st ⟨fun v64 st =>
          @stp P (.idx 6 (.c v64) (.c v13)) st ⟨fun v66 st =>
          @stp P (.ld (some 6) (.c v66)) st ⟨fun v67 st =>
          @stp P (.alloc [(.int .u32 0), (.int .u64 0), (.int .i64 0), (.int .i64 0), (.int .i64 0), (.int .i64 0)]) st ⟨fun v14 st =>
          @stp P (.st 6 (.c v14) (.c v67)) st ⟨fun _v st =>
          @stp P (.fld 0 (.c v14)) st ⟨fun v68 st =>
          @stp P (.ld none (.c v68)) st ⟨fun v69 st =>
          @stp P (.bin .eql (.c v69) (.c a2)) st ⟨fun v71 st =>
          @Hold ⟨∃ I4 : Nat → Rel 2, (∃ k, GhostV [v71, (.int .i64 0)] st (app (I4 k))) ∧ ∀ k4 v15 v16, ∀ st, app (I4 k4) [v15, v16] st →
            @stp P (.len .sl (.c a1)) st ⟨fun v74 st =>
            @stp P (.bin .lss (.c v16) (.c v74)) st ⟨fun v75 st =>
            @cnd v75 ⟨
              @gstD P v15 false (.mov (.c a2)) st ⟨fun v80 st =>
              @gstD P v15 false (.mov (.c a3)) st ⟨fun v81 st =>
              @gstD P v15 false (.bin .neq (.c v80) (.c v81)) st ⟨fun v82 st =>
              @gstD P v15 false (.mov (.c v82)) st ⟨fun v83 st =>
              @gstD P v83 true (.mov (.c a1)) st ⟨fun v84 st =>
              @gstD P v83 true (.mov (.c v16)) st ⟨fun v85 st =>
              @gstD P v83 true (.idx 1 (.c v84) (.c v85)) st ⟨fun v86 st =>
              @gstD P v83 true (.ld none (.c v86)) st ⟨fun v87 st =>
              @gstD P v83 true (.fld 0 (.c v14)) st ⟨fun v88 st =>
              @gstD P v83 true (.ld none (.c v88)) st ⟨fun v89 st =>
              @gstD P v83 true (.bin .eql (.c v87) (.c v89)) st ⟨fun v90 st =>
              @gstD P v15 false (.pick (.c v83) (.c v90) (.c (.bool false))) st ⟨fun v91 st =>
              @stpD P (.pick (.c v15) (.c (.bool true)) (.c v91)) st ⟨fun v92 st =>
              @stp P (.bin .add (.c v16) (.c (.int .i64 1))) st ⟨fun v77 st =>
              ∃ j, j < k4 ∧ GhostV [v92, v77] st (app (I4 j))⟩⟩⟩⟩⟩⟩⟩⟩⟩⟩⟩⟩⟩⟩⟩
            ⟨
              @cnd v15 ⟨
                @stp P (.fld 0 (.c v14)) st ⟨fun v95 st =>
                @stp P (.st 1 (.c v95) (.c a3)) st ⟨fun _v st =>
                @stp P (.ld (some 1) (.c v9)) st ⟨fun v96 st =>
                @stp P (.ld (some 6) (.c v14)) st ⟨fun v97 st =>
                @stp P (.call (.c (.fn (.func n_gazetteerref15_With) [] [])) [(.c v96), (.c v97)]) st ⟨fun v98 st =>
                @stp P (.st 1 (.c v9) (.c v98)) st ⟨fun _v st =>
                @stp P (.bin .add (.c v13) (.c (.int .i64 1))) st ⟨fun v62 st =>
                ∃ j, j < k3 ∧ GhostV [v62] st (app (I3 j))⟩⟩⟩⟩⟩⟩⟩⟩
              ⟨
                @stp P (.bin .add (.c v13) (.c (.int .i64 1))) st ⟨fun v62 st =>
                ∃ j, j < k3 ∧ GhostV [v62] st (app (I3 j))⟩⟩⟩⟩⟩⟩⟩⟩⟩⟩⟩⟩⟩⟩⟩⟩
        ⟨
          @stp P (.ld (some 1) (.c v9)) st ⟨fun v99 st =>
          @stp P (.st 1 (.c v8) (.c v99)) st ⟨fun _v st =>
          @ldr (some 1) v8 st ⟨fun r1 =>
          GhostV [r1] st fun vs st => K (mkres vs) st⟩⟩⟩⟩⟩⟩⟩⟩⟩⟩⟩⟩⟩⟩⟩⟩⟩⟩⟩⟩
theorem q_gazetteerref15_Gone {P : Program} {a0 a1 a2 a3 : V} {st : St} {K : V → St → Prop} : F_gazetteerref15_Gone P a0 a1 a2 a3 st K = hwp P c_gazetteerref15_Gone (hretQ [.cell 8 (some 1)] K) (enterFr [a0, a1, a2, a3]) st := by kernel_rfl
abbrev R_gazetteerref15_Gone (P : Program) : Prop := resFnH P n_gazetteerref15_Gone = some (100, c_gazetteerref15_Gone.er, [.cell 8 (some 1)])
theorem A_gazetteerref15_Gone {P : Program} (h : R_gazetteerref15_Gone P) {a0 a1 a2 a3 : V} {st : St} {K : V → St → Prop} (hF : F_gazetteerref15_Gone P a0 a1 a2 a3 st K) : ACalls P n_gazetteerref15_Gone [a0, a1, a2, a3] st K :=
  ACalls_h h rfl (by simp) (q_gazetteerref15_Gone ▸ hF)

def c_pred_box : ACode := (.seq (.reg [⟨(some 1), none, (.box (.s 0))⟩, ⟨(some 2), none, (.mov (.c (.bool false)))⟩]) (.seq (.reg [⟨(some 3), none, (.ld (some 4) (.s 1))⟩, ⟨(some 4), none, (.call (.c (.fn (.func n_key_Check) [] [])) [(.c (.int .i64 1)), (.s 3)])⟩, ⟨(some 5), none, (.bin .eql (.s 4) (.c (.int .i64 0)))⟩, ⟨(some 2), none, (.mov (.s 5))⟩]) .ret))
def F_pred_box (P : Program) (a0 : V) (st : St) (K : V → St → Prop) : Prop :=
  @stp P (.box (.c a0)) st ⟨fun v1 st =>
  @stp P (.ld (some 4) (.c v1)) st ⟨fun v3 st =>
  @stp P (.call (.c (.fn (.func n_key_Check) [] [])) [(.c (.int .i64 1)), (.c v3)]) st ⟨fun v4 st =>
  @stp P (.bin .eql (.c v4) (.c (.int .i64 0))) st ⟨fun v5 st =>
  GhostV [v5] st fun vs st => K (mkres vs) st⟩⟩⟩⟩
theorem q_pred_box {P : Program} {a0 : V} {st : St} {K : V → St → Prop} : F_pred_box P a0 st K = hwp P c_pred_box (hretQ [.tmp 2] K) (enterFr [a0]) st := by kernel_rfl
abbrev R_pred_box (P : Program) : Prop := resFnH P n_pred_box = some (6, c_pred_box.er, [.tmp 2])
theorem A_pred_box {P : Program} (h : R_pred_box P) {a0 : V} {st : St} {K : V → St → Prop} (hF : F_pred_box P a0 st K) : ACalls P n_pred_box [a0] st K :=
  ACalls_h h rfl (by simp) (q_pred_box ▸ hF)

def c_pred_at : ACode := (.seq (.reg [⟨(some 2), none, (.box (.s 0))⟩, ⟨(some 3), none, (.box (.s 1))⟩, ⟨(some 4), none, (.mov (.c .nilf))⟩]) (.seq (.reg [⟨(some 5), none, (.mkfn (.func n_pred_at_1) [] [(.s 2), (.s 3)])⟩, ⟨(some 4), none, (.mov (.s 5))⟩]) .ret))
def F_pred_at (P : Program) (a0 a1 : V) (st : St) (K : V → St → Prop) : Prop :=
  @stp P (.box (.c a0)) st ⟨fun v2 st =>
  @stp P (.box (.c a1)) st ⟨fun v3 st =>
  @stp P (.mkfn (.func n_pred_at_1) [] [(.c v2), (.c v3)]) st ⟨fun v5 st =>
  GhostV [v5] st fun vs st => K (mkres vs) st⟩⟩⟩
theorem q_pred_at {P : Program} {a0 a1 : V} {st : St} {K : V → St → Prop} : F_pred_at P a0 a1 st K = hwp P c_pred_at (hretQ [.tmp 4] K) (enterFr [a0, a1]) st := by kernel_rfl
abbrev R_pred_at (P : Program) : Prop := resFnH P n_pred_at = some (6, c_pred_at.er, [.tmp 4])
theorem A_pred_at {P : Program} (h : R_pred_at P) {a0 a1 : V} {st : St} {K : V → St → Prop} (hF : F_pred_at P a0 a1 st K) : ACalls P n_pred_at [a0, a1] st K :=
  ACalls_h h rfl (by simp) (q_pred_at ▸ hF)

def c_key_Meets : ACode := (.seq (.reg [⟨(some 2), none, (.box (.s 0))⟩, ⟨(some 3), none, (.box (.s 1))⟩, ⟨(some 4), none, (.mov (.c (.bool false)))⟩]) (.seq (.reg [⟨(some 5), none, (.ld (some 4) (.s 2))⟩, ⟨(some 6), none, (.call (.c (.fn (.func n_key_box) [] [])) [(.s 5)])⟩, ⟨(some 7), none, (.mov (.s 6))⟩, ⟨(some 8), (some (7, true)), (.ld (some 4) (.s 3))⟩, ⟨(some 9), (some (7, true)), (.call (.c (.fn (.func n_key_box) [] [])) [(.s 8)])⟩, ⟨(some 10), none, (.pick (.s 7) (.s 9) (.c (.bool false)))⟩, ⟨(some 11), none, (.mov (.s 10))⟩, ⟨(some 12), (some (11, true)), (.fld 0 (.s 2))⟩, ⟨(some 13), (some (11, true)), (.ld none (.s 12))⟩, ⟨(some 14), (some (11, true)), (.fld 1 (.s 3))⟩, ⟨(some 15), (some (11, true)), (.ld none (.s 14))⟩, ⟨(some 16), (some (11, true)), (.bin .leq (.s 13) (.s 15))⟩, ⟨(some 17), none, (.pick (.s 11) (.s 16) (.c (.bool false)))⟩, ⟨(some 18), none, (.mov (.s 17))⟩, ⟨(some 19), (some (18, true)), (.fld 0 (.s 3))⟩, ⟨(some 20), (some (18, true)), (.ld none (.s 19))⟩, ⟨(some 21), (some (18, true)), (.fld 1 (.s 2))⟩, ⟨(some 22), (some (18, true)), (.ld none (.s 21))⟩, ⟨(some 23), (some (18, true)), (.bin .leq (.s 20) (.s 22))⟩, ⟨(some 24), none, (.pick (.s 18) (.s 23) (.c (.bool false)))⟩, ⟨(some 25), none, (.mov (.s 24))⟩, ⟨(some 26), (some (25, true)), (.fld 2 (.s 2))⟩, ⟨(some 27), (some (25, true)), (.ld none (.s 26))⟩, ⟨(some 28), (some (25, true)), (.fld 3 (.s 3))⟩, ⟨(some 29), (some (25, true)), (.ld none (.s 28))⟩, ⟨(some 30), (some (25, true)), (.bin .leq (.s 27) (.s 29))⟩, ⟨(some 31), none, (.pick (.s 25) (.s 30) (.c (.bool false)))⟩, ⟨(some 32), none, (.mov (.s 31))⟩, ⟨(some 33), (some (32, true)), (.fld 2 (.s 3))⟩, ⟨(some 34), (some (32, true)), (.ld none (.s 33))⟩, ⟨(some 35), (some (32, true)), (.fld 3 (.s 2))⟩, ⟨(some 36), (some (32, true)), (.ld none (.s 35))⟩, ⟨(some 37), (some (32, true)), (.bin .leq (.s 34) (.s 36))⟩, ⟨(some 38), none, (.pick (.s 32) (.s 37) (.c (.bool false)))⟩, ⟨(some 4), none, (.mov (.s 38))⟩]) .ret))
def F_key_Meets (P : Program) (a0 a1 : V) (st : St) (K : V → St → Prop) : Prop :=
  @stp P (.box (.c a0)) st ⟨fun v2 st =>
  @stp P (.box (.c a1)) st ⟨fun v3 st =>
  @stp P (.ld (some 4) (.c v2)) st ⟨fun v5 st =>
  @stp P (.call (.c (.fn (.func n_key_box) [] [])) [(.c v5)]) st ⟨fun v6 st =>
  @gst P v6 true (.ld (some 4) (.c v3)) st ⟨fun v8 st =>
  @gst P v6 true (.call (.c (.fn (.func n_key_box) [] [])) [(.c v8)]) st ⟨fun v9 st =>
  @stp P (.pick (.c v6) (.c v9) (.c (.bool false))) st ⟨fun v10 st =>
  @gst P v10 true (.fld 0 (.c v2)) st ⟨fun v12 st =>
  @gst P v10 true (.ld none (.c v12)) st ⟨fun v13 st =>
  @gst P v10 true (.fld 1 (.c v3)) st ⟨fun v14 st =>
  @gst P v10 true (.ld none (.c v14)) st ⟨fun v15 st =>
  @gst P v10 true (.bin .leq (.c v13) (.c v15)) st ⟨fun v16 st =>
  @stp P (.pick (.c v10) (.c v16) (.c (.bool false))) st ⟨fun v17 st =>
  @gst P v17 true (.fld 0 (.c v3)) st ⟨fun v19 st =>
  @gst P v17 true (.ld none (.c v19)) st ⟨fun v20 st =>
  @gst P v17 true (.fld 1 (.c v2)) st ⟨fun v21 st =>
  @gst P v17 true (.ld none (.c v21)) st ⟨fun v22 st =>
  @gst P v17 true (.bin .leq (.c v20) (.c v22)) st ⟨fun v23 st =>
  @stp P (.pick (.c v17) (.c v23) (.c (.bool false))) st ⟨fun v24 st =>
  @gst P v24 true (.fld 2 (.c v2)) st ⟨fun v26 st =>
  @gst P v24 true (.ld none (.c v26)) st ⟨fun v27 st =>
  @gst P v24 true (.fld 3 (.c v3)) st ⟨fun v28 st =>
  @gst P v24 true (.ld none (.c v28)) st ⟨fun v29 st =>
  @gst P v24 true (.bin .leq (.c v27) (.c v29)) st ⟨fun v30 st =>
  @stp P (.pick (.c v24) (.c v30) (.c (.bool false))) st ⟨fun v31 st =>
  @gst P v31 true (.fld 2 (.c v3)) st ⟨fun v33 st =>
  @gst P v31 true (.ld none (.c v33)) st ⟨fun v34 st =>
  @gst P v31 true (.fld 3 (.c v2)) st ⟨fun v35 st =>
  @gst P v31 true (.ld none (.c v35)) st ⟨fun v36 st =>
  @gst P v31 true (.bin .leq (.c v34) (.c v36)) st ⟨fun v37 st =>
  @stp P (.pick (.c v31) (.c v37) (.c (.bool false))) st ⟨fun v38 st =>
  GhostV [v38] st fun vs st => K (mkres vs) st⟩⟩⟩⟩⟩⟩⟩⟩⟩⟩⟩⟩⟩⟩⟩⟩⟩⟩⟩⟩⟩⟩⟩⟩⟩⟩⟩⟩⟩⟩⟩
theorem q_key_Meets {P : Program} {a0 a1 : V} {st : St} {K : V → St → Prop} : F_key_Meets P a0 a1 st K = hwp P c_key_Meets (hretQ [.tmp 4] K) (enterFr [a0, a1]) st := by kernel_rfl
abbrev R_key_Meets (P : Program) : Prop := resFnH P n_key_Meets = some (39, c_key_Meets.er, [.tmp 4])
theorem A_key_Meets {P : Program} (h : R_key_Meets P) {a0 a1 : V} {st : St} {K : V → St → Prop} (hF : F_key_Meets P a0 a1 st K) : ACalls P n_key_Meets [a0, a1] st K :=
  ACalls_h h rfl (by simp) (q_key_Meets ▸ hF)

def c_slices_Compact_uint64_uint64 : ACode := (.seq (.reg [⟨(some 2), none, (.mov (.c (.sl .nil 0 [] [])))⟩]) (.seq (.seq (.reg [⟨(some 6), none, (.mov (.s 0))⟩, ⟨(some 7), none, (.len .sl (.s 6))⟩, ⟨(some 8), none, (.bin .lss (.s 7) (.c (.int .i64 2)))⟩]) (.cond (.s 8) (.seq (.reg [⟨(some 9), none, (.mov (.s 0))⟩, ⟨(some 2), none, (.mov (.s 9))⟩]) .ret) .skip)) (.seq (.seq (.reg [⟨(some 3), none, (.mov (.c (.int .i64 1)))⟩]) (.block 0 (.loop [3] [2, 3, 4, 5, 10, 11, 12, 13, 14, 15, 16, 17, 18, 19, 20, 21, 22, 23, 24, 25, 26, 27, 28, 29, 30, 31, 32, 33, 34, 35, 36, 37, 38, 39, 40, 41, 42, 43, 44, 45, 46, 47, 48, 49, 50, 51, 52, 53, 54, 55, 56, 57, 58, 59] (.seq (.seq (.reg [⟨(some 10), none, (.mov (.s 3))⟩, ⟨(some 11), none, (.mov (.s 0))⟩, ⟨(some 12), none, (.len .sl (.s 11))⟩, ⟨(some 13), none, (.bin .lss (.s 10) (.s 12))⟩]) (.cond (.s 13) .skip (.exit 0))) (.seq (.block 1 (.seq (.regD [⟨(some 16), none, (.mov (.s 0))⟩, ⟨(some 17), none, (.mov (.s 3))⟩, ⟨(some 18), none, (.idx 1 (.s 16) (.s 17))⟩, ⟨(some 19), none, (.ld none (.s 18))⟩, ⟨(some 20), none, (.mov (.s 0))⟩, ⟨(some 21), none, (.mov (.s 3))⟩, ⟨(some 22), none, (.bin .sub (.s 21) (.c (.int .i64 1)))⟩, ⟨(some 23), none, (.idx 1 (.s 20) (.s 22))⟩, ⟨(some 24), none, (.ld none (.s 23))⟩, ⟨(some 25), none, (.bin .eql (.s 19) (.s 24))⟩] [(0, (false, [])), (1, (false, [])), (2, (false, [])), (3, (false, [])), (4, (false, [])), (5, (false, [])), (6, (false, [])), (7, (false, [])), (8, (false, [])), (9, (false, []))]) (.cond (.s 25) (.seq (.reg [⟨(some 26), none, (.mov (.s 0))⟩, ⟨(some 27), none, (.mov (.s 3))⟩, ⟨(some 28), none, (.slice 1 (.s 26) (some (.s 27)) none none)⟩, ⟨(some 4), none, (.mov (.s 28))⟩]) (.seq (.seq (.reg [⟨(some 5), none, (.mov (.c (.int .i64 1)))⟩]) (.block 2 (.loop [3, 5] [3, 5, 29, 30, 31, 32, 33, 34, 35, 36, 37, 38, 39, 40, 41, 42, 43, 44, 45, 46, 47, 48, 49, 50, 51, 52, 53] (.seq (.seq (.reg [⟨(some 29), none, (.mov (.s 5))⟩, ⟨(some 30), none, (.mov (.s 4))⟩, ⟨(some 31), none, (.len .sl (.s 30))⟩, ⟨(some 32), none, (.bin .lss (.s 29) (.s 31))⟩]) (.cond (.s 32) .skip (.exit 2))) (.seq (.block 3 (.seq (.regD [⟨(some 35), none, (.mov (.s 4))⟩, ⟨(some 36), none, (.mov (.s 5))⟩, ⟨(some 37), none, (.idx 1 (.s 35) (.s 36))⟩, ⟨(some 38), none, (.ld none (.s 37))⟩, ⟨(some 39), none, (.mov (.s 4))⟩, ⟨(some 40), none, (.mov (.s 5))⟩, ⟨(some 41), none, (.bin .sub (.s 40) (.c (.int .i64 1)))⟩, ⟨(some 42), none, (.idx 1 (.s 39) (.s 41))⟩, ⟨(some 43), none, (.ld none (.s 42))⟩, ⟨(some 44), none, (.bin .neq (.s 38) (.s 43))⟩] [(0, (false, [])), (1, (false, [])), (2, (false, [])), (3, (false, [])), (4, (false, [])), (5, (false, [])), (6, (false, [])), (7, (false, [])), (8, (false, [])), (9, (false, []))]) (.cond (.s 44) (.seq (.reg [⟨(some 45), none, (.mov (.s 0))⟩, ⟨(some 46), none, (.mov (.s 3))⟩, ⟨(some 47), none, (.mov (.s 4))⟩, ⟨(some 48), none, (.mov (.s 5))⟩, ⟨(some 49), none, (.idx 1 (.s 47) (.s 48))⟩, ⟨(some 50), none, (.ld none (.s 49))⟩, ⟨(some 51), none, (.idx 1 (.s 45) (.s 46))⟩, ⟨none, none, (.st 1 (.s 51) (.s 50))⟩]) (.reg [⟨(some 52), none, (.mov (.s 3))⟩, ⟨(some 53), none, (.bin .add (.s 52) (.c (.int .i64 1)))⟩, ⟨(some 3), none, (.mov (.s 53))⟩])) .skip))) (.reg [⟨(some 33), none, (.mov (.s 5))⟩, ⟨(some 34), none, (.bin .add (.s 33) (.c (.int .i64 1)))⟩, ⟨(some 5), none, (.mov (.s 34))⟩])))))) (.seq (.reg [⟨(some 54), none, (.mov (.s 0))⟩, ⟨(some 55), none, (.mov (.s 3))⟩, ⟨(some 56), none, (.slice 1 (.s 54) (some (.s 55)) none none)⟩, ⟨none, none, (.clear [(.int .u64 0)] (.s 56))⟩]) (.seq (.reg [⟨(some 57), none, (.mov (.s 0))⟩, ⟨(some 58), none, (.mov (.s 3))⟩, ⟨(some 59), none, (.slice 1 (.s 57) none (some (.s 58)) none)⟩, ⟨(some 2), none, (.mov (.s 59))⟩]) .ret)))) .skip))) (.reg [⟨(some 14), none, (.mov (.s 3))⟩, ⟨(some 15), none, (.bin .add (.s 14) (.c (.int .i64 1)))⟩, ⟨(some 3), none, (.mov (.s 15))⟩])))))) (.seq (.reg [⟨(some 60), none, (.mov (.s 0))⟩, ⟨(some 2), none, (.mov (.s 60))⟩]) .ret))))
def F_slices_Compact_uint64_uint64 (P : Program) (a0 : V) (st : St) (K : V → St → Prop) : Prop :=
  @stp P (.len .sl (.c a0)) st ⟨fun v7 st =>
  @stp P (.bin .lss (.c v7) (.c (.int .i64 2))) st ⟨fun v8 st =>
  @cnd v8 ⟨
    GhostV [a0] st fun vs st => K (mkres vs) st⟩
  ⟨
    @Hold ⟨∃ I1 : Nat → Rel 1, (∃ k, GhostV [(.int .i64 1)] st (app (I1 k))) ∧ ∀ k1 v3, ∀ st, app (I1 k1) [v3] st →
      @stp P (.len .sl (.c a0)) st ⟨fun v12 st =>
      @stp P (.bin .lss (.c v3) (.c v12)) st ⟨fun v13 st =>
      @cnd v13 ⟨
        @stpD P (.idx 1 (.c a0) (.c v3)) st ⟨fun v18 st =>
        @stpD P (.ld none (.c v18)) st ⟨fun v19 st =>
        @stpD P (.bin .sub (.c v3) (.c (.int .i64 1))) st ⟨fun v22 st =>
        @stpD P (.idx 1 (.c a0) (.c v22)) st ⟨fun v23 st =>
        @stpD P (.ld none (.c v23)) st ⟨fun v24 st =>
        @stpD P (.bin .eql (.c v19) (.c v24)) st ⟨fun v25 st =>
        @cnd v25 ⟨
          @stp P (.slice 1 (.c a0) (some (.c v3)) none none) st ⟨fun v28 st =>
          @Hold ⟨∃ I2 : Nat → Rel 2, (∃ k, GhostV [v3, (.int .i64 1)] st (app (I2 k))) ∧ ∀ k2 v3_1 v5, ∀ st, app (I2 k2) [v3_1, v5] st →
            @stp P (.len .sl (.c v28)) st ⟨fun v31 st =>
            @stp P (.bin .lss (.c v5) (.c v31)) st ⟨fun v32 st =>
            @cnd v32 ⟨
              @stpD P (.idx 1 (.c v28) (.c v5)) st ⟨fun v37 st =>
              @stpD P (.ld none (.c v37)) st ⟨fun v38 st =>
              @stpD P (.bin .sub (.c v5) (.c (.int .i64 1))) st ⟨fun v41 st =>
              @stpD P (.idx 1 (.c v28) (.c v41)) st ⟨fun v42 st =>
              @stpD P (.ld none (.c v42)) st ⟨fun v43 st =>
              @stpD P (.bin .neq (.c v38) (.c v43)) st ⟨fun v44 st =>
              @cnd v44 ⟨
                @stp P (.idx 1 (.c v28) (.c v5)) st ⟨fun v49 st =>
                @stp P (.ld none (.c v49)) st ⟨fun v50 st =>
                @stp P (.idx 1 (.c a0) (.c v3_1)) st ⟨fun v51 st =>
                @stp P (.st 1 (.c v51) (.c v50)) st ⟨fun _v st =>
                @stp P (.bin .add (.c v3_1) (.c (.int .i64 1))) st ⟨fun v53 st =>
                @stp P (.bin .add (.c v5) (.c (.int .i64 1))) st ⟨fun v34 st =>
                ∃ j, j < k2 ∧ GhostV [v53, v34] st (app (I2 j))⟩⟩⟩⟩⟩⟩⟩
              ⟨
                @stp P (.bin .add (.c v5) (.c (.int .i64 1))) st ⟨fun v34 st =>
                ∃ j, j < k2 ∧ GhostV [v3_1, v34] st (app (I2 j))⟩⟩⟩⟩⟩⟩⟩⟩⟩
            ⟨
              @stp P (.slice 1 (.c a0) (some (.c v3_1)) none none) st ⟨fun v56 st =>
              @stp P (.clear [(.int .u64 0)] (.c v56)) st ⟨fun _v st =>
              @stp P (.slice 1 (.c a0) none (some (.c v3_1)) none) st ⟨fun v59 st =>
              GhostV [v59] st fun vs st => K (mkres vs) st⟩⟩⟩⟩⟩⟩⟩⟩⟩
        ⟨
          @stp P (.bin .add (.c v3) (.c (.int .i64 1))) st ⟨fun v15 st =>
          ∃ j, j < k1 ∧ GhostV [v15] st (app (I1 j))⟩⟩⟩⟩⟩⟩⟩⟩⟩
      ⟨
        GhostV [a0] st fun vs st => K (mkres vs) st⟩⟩⟩⟩⟩⟩⟩
theorem q_slices_Compact_uint64_uint64 {P : Program} {a0 : V} {st : St} {K : V → St → Prop} : F_slices_Compact_uint64_uint64 P a0 st K = hwp P c_slices_Compact_uint64_uint64 (hretQ [.tmp 2] K) (enterFr [a0]) st := by kernel_rfl
abbrev R_slices_Compact_uint64_uint64 (P : Program) : Prop := resFnH P n_slices_Compact_uint64_uint64 = some (61, c_slices_Compact_uint64_uint64.er, [.tmp 2])
theorem A_slices_Compact_uint64_uint64 {P : Program} (h : R_slices_Compact_uint64_uint64 P) {a0 : V} {st : St} {K : V → St → Prop} (hF : F_slices_Compact_uint64_uint64 P a0 st K) : ACalls P n_slices_Compact_uint64_uint64 [a0] st K :=
  ACalls_h h rfl (by simp) (q_slices_Compact_uint64_uint64 ▸ hF)

def c_gazetteerref15_Less : ACode := (.seq (.reg [⟨(some 2), none, (.box (.s 0))⟩, ⟨(some 3), none, (.box (.s 1))⟩, ⟨(some 4), none, (.mov (.c (.bool false)))⟩]) (.seq (.seq (.reg [⟨(some 7), none, (.fld 0 (.s 2))⟩, ⟨(some 8), none, (.ld none (.s 7))⟩, ⟨(some 9), none, (.fld 0 (.s 3))⟩, ⟨(some 10), none, (.ld none (.s 9))⟩, ⟨(some 11), none, (.bin .neq (.s 8) (.s 10))⟩]) (.cond (.s 11) (.seq (.reg [⟨(some 12), none, (.fld 0 (.s 2))⟩, ⟨(some 13), none, (.ld none (.s 12))⟩, ⟨(some 14), none, (.fld 0 (.s 3))⟩, ⟨(some 15), none, (.ld none (.s 14))⟩, ⟨(some 16), none, (.bin .lss (.s 13) (.s 15))⟩, ⟨(some 4), none, (.mov (.s 16))⟩]) .ret) .skip)) (.seq (.seq (.reg [⟨(some 17), none, (.fld 1 (.s 2))⟩, ⟨(some 18), none, (.ld none (.s 17))⟩, ⟨(some 19), none, (.fld 1 (.s 3))⟩, ⟨(some 20), none, (.ld none (.s 19))⟩, ⟨(some 21), none, (.bin .neq (.s 18) (.s 20))⟩]) (.cond (.s 21) (.seq (.reg [⟨(some 22), none, (.fld 1 (.s 2))⟩, ⟨(some 23), none, (.ld none (.s 22))⟩, ⟨(some 24), none, (.fld 1 (.s 3))⟩, ⟨(some 25), none, (.ld none (.s 24))⟩, ⟨(some 26), none, (.bin .lss (.s 23) (.s 25))⟩, ⟨(some 4), none, (.mov (.s 26))⟩]) .ret) .skip)) (.seq (.regD [⟨(some 27), none, (.fld 2 (.s 2))⟩, ⟨(some 28), none, (.ld (some 4) (.s 27))⟩, ⟨(some 29), none, (.fld 2 (.s 3))⟩, ⟨(some 30), none, (.ld (some 4) (.s 29))⟩, ⟨(some 5), none, (.alloc [(.int .i64 0), (.int .i64 0), (.int .i64 0), (.int .i64 0)])⟩, ⟨(some 6), none, (.alloc [(.int .i64 0), (.int .i64 0), (.int .i64 0), (.int .i64 0)])⟩, ⟨none, none, (.st 4 (.s 5) (.s 28))⟩, ⟨none, none, (.st 4 (.s 6) (.s 30))⟩] [(0, (false, [])), (1, (false, [])), (2, (false, [])), (3, (false, [])), (4, (false, [])), (6, (false, [])), (5, (false, [])), (7, (false, []))]) (.seq (.seq (.reg [⟨(some 31), none, (.fld 0 (.s 5))⟩, ⟨(some 32), none, (.ld none (.s 31))⟩, ⟨(some 33), none, (.fld 0 (.s 6))⟩, ⟨(some 34), none, (.ld none (.s 33))⟩, ⟨(some 35), none, (.bin .neq (.s 32) (.s 34))⟩]) (.cond (.s 35) (.seq (.reg [⟨(some 36), none, (.fld 0 (.s 5))⟩, ⟨(some 37), none, (.ld none (.s 36))⟩, ⟨(some 38), none, (.fld 0 (.s 6))⟩, ⟨(some 39), none, (.ld none (.s 38))⟩, ⟨(some 40), none, (.bin .lss (.s 37) (.s 39))⟩, ⟨(some 4), none, (.mov (.s 40))⟩]) .ret) .skip)) (.seq (.seq (.reg [⟨(some 41), none, (.fld 1 (.s 5))⟩, ⟨(some 42), none, (.ld none (.s 41))⟩, ⟨(some 43), none, (.fld 1 (.s 6))⟩, ⟨(some 44), none, (.ld none (.s 43))⟩, ⟨(some 45), none, (.bin .neq (.s 42) (.s 44))⟩]) (.cond (.s 45) (.seq (.reg [⟨(some 46), none, (.fld 1 (.s 5))⟩, ⟨(some 47), none, (.ld none (.s 46))⟩, ⟨(some 48), none, (.fld 1 (.s 6))⟩, ⟨(some 49), none, (.ld none (.s 48))⟩, ⟨(some 50), none, (.bin .lss (.s 47) (.s 49))⟩, ⟨(some 4), none, (.mov (.s 50))⟩]) .ret) .skip)) (.seq (.seq (.reg [⟨(some 51), none, (.fld 2 (.s 5))⟩, ⟨(some 52), none, (.ld none (.s 51))⟩, ⟨(some 53), none, (.fld 2 (.s 6))⟩, ⟨(some 54), none, (.ld none (.s 53))⟩, ⟨(some 55), none, (.bin .neq (.s 52) (.s 54))⟩]) (.cond (.s 55) (.seq (.reg [⟨(some 56), none, (.fld 2 (.s 5))⟩, ⟨(some 57), none, (.ld none (.s 56))⟩, ⟨(some 58), none, (.fld 2 (.s 6))⟩, ⟨(some 59), none, (.ld none (.s 58))⟩, ⟨(some 60), none, (.bin .lss (.s 57) (.s 59))⟩, ⟨(some 4), none, (.mov (.s 60))⟩]) .ret) .skip)) (.seq (.reg [⟨(some 61), none, (.fld 3 (.s 5))⟩, ⟨(some 62), none, (.ld none (.s 61))⟩, ⟨(some 63), none, (.fld 3 (.s 6))⟩, ⟨(some 64), none, (.ld none (.s 63))⟩, ⟨(some 65), none, (.bin .lss (.s 62) (.s 64))⟩, ⟨(some 4), none, (.mov (.s 65))⟩]) .ret))))))))
def F_gazetteerref15_Less (P : Program) (a0 a1 : V) (st : St) (K : V → St → Prop) : Prop :=
  @stp P (.box (.c a0)) st ⟨fun v2 st =>
  @stp P (.box (.c a1)) st ⟨fun v3 st =>
  @stp P (.fld 0 (.c v2)) st ⟨fun v7 st =>
  @stp P (.ld none (.c v7)) st ⟨fun v8 st =>
  @stp P (.fld 0 (.c v3)) st ⟨fun v9 st =>
  @stp P (.ld none (.c v9)) st ⟨fun v10 st =>
  @stp P (.bin .neq (.c v8) (.c v10)) st ⟨fun v11 st =>
  @cnd v11 ⟨
    @stp P (.fld 0 (.c v2)) st ⟨fun v12 st =>
    @stp P (.ld none (.c v12)) st ⟨fun v13 st =>
    @stp P (.fld 0 (.c v3)) st ⟨fun v14 st =>
    @stp P (.ld none (.c v14)) st ⟨fun v15 st =>
    @stp P (.bin .lss (.c v13) (.c v15)) st ⟨fun v16 st =>
    GhostV [v16] st fun vs st => K (mkres vs) st⟩⟩⟩⟩⟩⟩
  ⟨
    @stp P (.fld 1 (.c v2)) st ⟨fun v17 st =>
    @stp P (.ld none (.c v17)) st ⟨fun v18 st =>
    @stp P (.fld 1 (.c v3)) st ⟨fun v19 st =>
    @stp P (.ld none (.c v19)) st ⟨fun v20 st =>
    @stp P (.bin .neq (.c v18) (.c v20)) st ⟨fun v21 st =>
    @cnd v21 ⟨
      @stp P (.fld 1 (.c v2)) st ⟨fun v22 st =>
      @stp P (.ld none (.c v22)) st ⟨fun v23 st =>
      @stp P (.fld 1 (.c v3)) st ⟨fun v24 st =>
      @stp P (.ld none (.c v24)) st ⟨fun v25 st =>
      @stp P (.bin .lss (.c v23) (.c v25)) st ⟨fun v26 st =>
      GhostV [v26] st fun vs st => K (mkres vs) st⟩⟩⟩⟩⟩⟩
    ⟨
      @stpD P (.fld 2 (.c v2)) st ⟨fun v27 st =>
      @stpD P (.ld (some 4) (.c v27)) st ⟨fun v28 st =>
      @stpD P (.fld 2 (.c v3)) st ⟨fun v29 st =>
      @stpD P (.ld (some 4) (.c v29)) st ⟨fun v30 st =>
      @stpD P (.alloc [(.int .i64 0), (.int .i64 0), (.int .i64 0), (.int .i64 0)]) st ⟨fun v5 st =>
      @stpD P (.st 4 (.c v5) (.c v28)) st ⟨fun _v st =>
      @stpD P (.alloc [(.int .i64 0), (.int .i64 0), (.int .i64 0), (.int .i64 0)]) st ⟨fun v6 st =>
      @stpD P (.st 4 (.c v6) (.c v30)) st ⟨fun _v st =>
      @stp P (.fld 0 (.c v5)) st ⟨fun v31 st =>
      @stp P (.ld none (.c v31)) st ⟨fun v32 st =>
      @stp P (.fld 0 (.c v6)) st ⟨fun v33 st =>
      @stp P (.ld none (.c v33)) st ⟨fun v34 st =>
      @stp P (.bin .neq (.c v32) (.c v34)) st ⟨fun v35 st =>
      @cnd v35 ⟨
        @stp P (.fld 0 (.c v5)) st ⟨fun v36 st =>
        @stp P (.ld none (.c v36)) st ⟨fun v37 st =>
        @stp P (.fld 0 (.c v6)) st ⟨fun v38 st =>
        @stp P (.ld none (.c v38)) st ⟨fun v39 st =>
        @stp P (.bin .lss (.c v37) (.c v39)) st ⟨fun v40 st =>
        GhostV [v40] st fun vs st => K (mkres vs) st⟩⟩⟩⟩⟩⟩
      ⟨
        @stp P (.fld 1 (.c v5)) st ⟨fun v41 st =>
        @stp P (.ld none (.c v41)) st ⟨fun v42 st =>
        @stp P (.fld 1 (.c v6)) st ⟨fun v43 st =>
        @stp P (.ld none (.c v43)) st ⟨fun v44 st =>
        @stp P (.bin .neq (.c v42) (.c v44)) st ⟨fun v45 st =>
        @cnd v45 ⟨
          @stp P (.fld 1 (.c v5)) st ⟨fun v46 st =>
          @stp P (.ld none (.c v46)) st ⟨fun v47 st =>
          @stp P (.fld 1 (.c v6)) st ⟨fun v48 st =>
          @stp P (.ld none (.c v48)) st ⟨fun v49 st =>
          @stp P (.bin .lss (.c v47) (.c v49)) st ⟨fun v50 st =>
          GhostV [v50] st fun vs st => K (mkres vs) st⟩⟩⟩⟩⟩⟩
        ⟨
          @stp P (.fld 2 (.c v5)) st ⟨fun v51 st =>
          @stp P (.ld none (.c v51)) st ⟨fun v52 st =>
          @stp P (.fld 2 (.c v6)) st ⟨fun v53 st =>
          @stp P (.ld none (.c v53)) st ⟨fun v54 st =>
          @stp P (.bin .neq (.c v52) (.c v54)) st ⟨fun v55 st =>
          @cnd v55 ⟨
            @stp P (.fld 2 (.c v5)) st ⟨fun v56 st =>
            @stp P (.ld none (.c v56)) st ⟨fun v57 st =>
            @stp P (.fld 2 (.c v6)) st ⟨fun v58 st =>
            @stp P (.ld none (.c v58)) st ⟨fun v59 st =>
            @stp P (.bin .lss (.c v57) (.c v59)) st ⟨fun v60 st =>
            GhostV [v60] st fun vs st => K (mkres vs) st⟩⟩⟩⟩⟩⟩
          ⟨
            @stp P (.fld 3 (.c v5)) st ⟨fun v61 st =>
            @stp P (.ld none (.c v61)) st ⟨fun v62 st =>
            @stp P (.fld 3 (.c v6)) st ⟨fun v63 st =>
            @stp P (.ld none (.c v63)) st ⟨fun v64 st =>
            @stp P (.bin .lss (.c v62) (.c v64)) st ⟨fun v65 st =>
            GhostV [v65] st fun vs st => K (mkres vs) st⟩⟩⟩⟩⟩⟩⟩⟩⟩⟩⟩⟩⟩⟩⟩⟩⟩⟩⟩⟩⟩⟩⟩⟩⟩⟩⟩⟩⟩⟩⟩⟩⟩⟩⟩⟩⟩⟩⟩⟩⟩⟩⟩⟩⟩
theorem q_gazetteerref15_Less {P : Program} {a0 a1 : V} {st : St} {K : V → St → Prop} : F_gazetteerref15_Less P a0 a1 st K = hwp P c_gazetteerref15_Less (hretQ [.tmp 4] K) (enterFr [a0, a1]) st := by kernel_rfl
abbrev R_gazetteerref15_Less (P : Program) : Prop := resFnH P n_gazetteerref15_Less = some (66, c_gazetteerref15_Less.er, [.tmp 4])
theorem A_gazetteerref15_Less {P : Program} (h : R_gazetteerref15_Less P) {a0 a1 : V} {st : St} {K : V → St → Prop} (hF : F_gazetteerref15_Less P a0 a1 st K) : ACalls P n_gazetteerref15_Less [a0, a1] st K :=
  ACalls_h h rfl (by simp) (q_gazetteerref15_Less ▸ hF)

def c_gazetteerref09_Meets : ACode := (.seq (.reg [⟨(some 2), none, (.box (.s 0))⟩, ⟨(some 3), none, (.box (.s 1))⟩, ⟨(some 4), none, (.mov (.c (.bool false)))⟩]) (.seq (.seq (.reg [⟨(some 7), none, (.ld (some 4) (.s 2))⟩, ⟨(some 8), none, (.call (.c (.fn (.func n_gazetteerref09_Box) [] [])) [(.s 7)])⟩, ⟨(some 9), none, (.un .not (.s 8))⟩, ⟨(some 10), none, (.mov (.s 9))⟩, ⟨(some 11), (some (10, false)), (.ld (some 4) (.s 3))⟩, ⟨(some 12), (some (10, false)), (.call (.c (.fn (.func n_gazetteerref09_Box) [] [])) [(.s 11)])⟩, ⟨(some 13), (some (10, false)), (.un .not (.s 12))⟩, ⟨(some 14), none, (.pick (.s 10) (.c (.bool true)) (.s 13))⟩]) (.cond (.s 14) (.seq (.reg [⟨(some 4), none, (.mov (.c (.bool false)))⟩]) .ret) .skip)) (.seq (.regD [⟨(some 15), none, (.fld 0 (.s 2))⟩, ⟨(some 16), none, (.ld none (.s 15))⟩, ⟨(some 17), none, (.fld 2 (.s 2))⟩, ⟨(some 18), none, (.ld none (.s 17))⟩, ⟨(some 5), none, (.mov (.s 16))⟩, ⟨(some 6), none, (.mov (.s 18))⟩] [(0, (false, [])), (1, (false, [])), (2, (false, [])), (3, (false, [])), (4, (false, [])), (5, (false, []))]) (.join [5] [5, 19, 20, 21, 22, 23, 24] (.seq (.reg [⟨(some 19), none, (.fld 0 (.s 3))⟩, ⟨(some 20), none, (.ld none (.s 19))⟩, ⟨(some 21), none, (.mov (.s 5))⟩, ⟨(some 22), none, (.bin .gtr (.s 20) (.s 21))⟩]) (.cond (.s 22) (.reg [⟨(some 23), none, (.fld 0 (.s 3))⟩, ⟨(some 24), none, (.ld none (.s 23))⟩, ⟨(some 5), none, (.mov (.s 24))⟩]) .skip)) (.join [6] [6, 25, 26, 27, 28, 29, 30] (.seq (.reg [⟨(some 25), none, (.fld 2 (.s 3))⟩, ⟨(some 26), none, (.ld none (.s 25))⟩, ⟨(some 27), none, (.mov (.s 6))⟩, ⟨(some 28), none, (.bin .gtr (.s 26) (.s 27))⟩]) (.cond (.s 28) (.reg [⟨(some 29), none, (.fld 2 (.s 3))⟩, ⟨(some 30), none, (.ld none (.s 29))⟩, ⟨(some 6), none, (.mov (.s 30))⟩]) .skip)) (.seq (.reg [⟨(some 31), none, (.fld 0 (.s 2))⟩, ⟨(some 32), none, (.ld none (.s 31))⟩, ⟨(some 33), none, (.fld 1 (.s 2))⟩, ⟨(some 34), none, (.ld none (.s 33))⟩, ⟨(some 35), none, (.mov (.s 5))⟩, ⟨(some 36), none, (.call (.c (.fn (.func n_gazetteerref09_inside) [] [])) [(.s 32), (.s 34), (.s 35)])⟩, ⟨(some 37), none, (.mov (.s 36))⟩, ⟨(some 38), (some (37, true)), (.fld 0 (.s 3))⟩, ⟨(some 39), (some (37, true)), (.ld none (.s 38))⟩, ⟨(some 40), (some (37, true)), (.fld 1 (.s 3))⟩, ⟨(some 41), (some (37, true)), (.ld none (.s 40))⟩, ⟨(some 42), (some (37, true)), (.mov (.s 5))⟩, ⟨(some 43), (some (37, true)), (.call (.c (.fn (.func n_gazetteerref09_inside) [] [])) [(.s 39), (.s 41), (.s 42)])⟩, ⟨(some 44), none, (.pick (.s 37) (.s 43) (.c (.bool false)))⟩, ⟨(some 45), none, (.mov (.s 44))⟩, ⟨(some 46), (some (45, true)), (.fld 2 (.s 2))⟩, ⟨(some 47), (some (45, true)), (.ld none (.s 46))⟩, ⟨(some 48), (some (45, true)), (.fld 3 (.s 2))⟩, ⟨(some 49), (some (45, true)), (.ld none (.s 48))⟩, ⟨(some 50), (some (45, true)), (.mov (.s 6))⟩, ⟨(some 51), (some (45, true)), (.call (.c (.fn (.func n_gazetteerref09_inside) [] [])) [(.s 47), (.s 49), (.s 50)])⟩, ⟨(some 52), none, (.pick (.s 45) (.s 51) (.c (.bool false)))⟩, ⟨(some 53), none, (.mov (.s 52))⟩, ⟨(some 54), (some (53, true)), (.fld 2 (.s 3))⟩, ⟨(some 55), (some (53, true)), (.ld none (.s 54))⟩, ⟨(some 56), (some (53, true)), (.fld 3 (.s 3))⟩, ⟨(some 57), (some (53, true)), (.ld none (.s 56))⟩, ⟨(some 58), (some (53, true)), (.mov (.s 6))⟩, ⟨(some 59), (some (53, true)), (.call (.c (.fn (.func n_gazetteerref09_inside) [] [])) [(.s 55), (.s 57), (.s 58)])⟩, ⟨(some 60), none, (.pick (.s 53) (.s 59) (.c (.bool false)))⟩, ⟨(some 4), none, (.mov (.s 60))⟩]) .ret))))))
def F_gazetteerref09_Meets (P : Program) (a0 a1 : V) (st : St) (K : V → St → Prop) : Prop :=
  @stp P (.box (.c a0)) st ⟨fun v2 st =>
  @stp P (.box (.c a1)) st ⟨fun v3 st =>
  @stp P (.ld (some 4) (.c v2)) st ⟨fun v7 st =>
  @stp P (.call (.c (.fn (.func n_gazetteerref09_Box) [] [])) [(.c v7)]) st ⟨fun v8 st =>
  @stp P (.un .not (.c v8)) st ⟨fun v9 st =>
  @gst P v9 false (.ld (some 4) (.c v3)) st ⟨fun v11 st =>
  @gst P v9 false (.call (.c (.fn (.func n_gazetteerref09_Box) [] [])) [(.c v11)]) st ⟨fun v12 st =>
  @gst P v9 false (.un .not (.c v12)) st ⟨fun v13 st =>
  @stp P (.pick (.c v9) (.c (.bool true)) (.c v13)) st ⟨fun v14 st =>
  @cnd v14 ⟨
    GhostV [(.bool false)] st fun vs st => K (mkres vs) st⟩
  ⟨
    @stpD P (.fld 0 (.c v2)) st ⟨fun v15 st =>
    @stpD P (.ld none (.c v15)) st ⟨fun v16 st =>
    @stpD P (.fld 2 (.c v2)) st ⟨fun v17 st =>
    @stpD P (.ld none (.c v17)) st ⟨fun v18 st =>
    @Hold ⟨∃ J1 : Rel 1, (
      @stp P (.fld 0 (.c v3)) st ⟨fun v19 st =>
      @stp P (.ld none (.c v19)) st ⟨fun v20 st =>
      @stp P (.bin .gtr (.c v20) (.c v16)) st ⟨fun v22 st =>
      @cnd v22 ⟨
        @stp P (.fld 0 (.c v3)) st ⟨fun v23 st =>
        @stp P (.ld none (.c v23)) st ⟨fun v24 st =>
        GhostV [v24] st (app J1)⟩⟩⟩
      ⟨
        GhostV [v16] st (app J1)⟩⟩⟩⟩) ∧
    ∀ v5 st, app J1 [v5] st →
      @Hold ⟨∃ J2 : Rel 1, (
        @stp P (.fld 2 (.c v3)) st ⟨fun v25 st =>
        @stp P (.ld none (.c v25)) st ⟨fun v26 st =>
        @stp P (.bin .gtr (.c v26) (.c v18)) st ⟨fun v28 st =>
        @cnd v28 ⟨
          @stp P (.fld 2 (.c v3)) st ⟨fun v29 st =>
          @stp P (.ld none (.c v29)) st ⟨fun v30 st =>
          GhostV [v30] st (app J2)⟩⟩⟩
        ⟨
          GhostV [v18] st (app J2)⟩⟩⟩⟩) ∧
      ∀ v6 st, app J2 [v6] st →
        @stp P (.fld 0 (.c v2)) st ⟨fun v31 st =>
        @stp P (.ld none (.c v31)) st ⟨fun v32 st =>
        @stp P (.fld 1 (.c v2)) st ⟨fun v33 st =>
        @stp P (.ld none (.c v33)) st ⟨fun v34 st =>
        @stp P (.call (.c (.fn (.func n_gazetteerref09_inside) [] [])) [(.c v32), (.c v34), (.c v5)]) st ⟨fun v36 st =>
        @gst P v36 true (.fld 0 (.c v3)) st ⟨fun v38 st =>
        @gst P v36 true (.ld none (.c v38)) st ⟨fun v39 st =>
        @gst P v36 true (.fld 1 (.c v3)) st ⟨fun v40 st =>
        @gst P v36 true (.ld none (.c v40)) st ⟨fun v41 st =>
        @gst P v36 true (.mov (.c v5)) st ⟨fun v42 st =>
        @gst P v36 true (.call (.c (.fn (.func n_gazetteerref09_inside) [] [])) [(.c v39), (.c v41), (.c v42)]) st ⟨fun v43 st =>
        @stp P (.pick (.c v36) (.c v43) (.c (.bool false))) st ⟨fun v44 st =>
        @gst P v44 true (.fld 2 (.c v2)) st ⟨fun v46 st =>
        @gst P v44 true (.ld none (.c v46)) st ⟨fun v47 st =>
        @gst P v44 true (.fld 3 (.c v2)) st ⟨fun v48 st =>
        @gst P v44 true (.ld none (.c v48)) st ⟨fun v49 st =>
        @gst P v44 true (.mov (.c v6)) st ⟨fun v50 st =>
        @gst P v44 true (.call (.c (.fn (.func n_gazetteerref09_inside) [] [])) [(.c v47), (.c v49), (.c v50)]) st ⟨fun v51 st =>
        @stp P (.pick (.c v44) (.c v51) (.c (.bool false))) st ⟨fun v52 st =>
        @gst P v52 true (.fld 2 (.c v3)) st ⟨fun v54 st =>
        @gst P v52 true (.ld none (.c v54)) st ⟨fun v55 st =>
        @gst P v52 true (.fld 3 (.c v3)) st ⟨fun v56 st =>
        @gst P v52 true (.ld none (.c v56)) st ⟨fun v57 st =>
        @gst P v52 true (.mov (.c v6)) st ⟨fun v58 st =>
        @gst P v52 true (.call (.c (.fn (.func n_gazetteerref09_inside) [] [])) [(.c v55), (.c v57), (.c v58)]) st ⟨fun v59 st =>
        @stp P (.pick (.c v52) (.c v59) (.c (.bool false))) st ⟨fun v60 st =>
        GhostV [v60] st fun vs st => K (mkres vs) st⟩⟩⟩⟩⟩⟩⟩⟩⟩⟩⟩⟩⟩⟩⟩⟩⟩⟩⟩⟩⟩⟩⟩⟩⟩⟩⟩⟩⟩⟩⟩⟩⟩⟩⟩⟩⟩⟩⟩⟩⟩⟩
theorem q_gazetteerref09_Meets {P : Program} {a0 a1 : V} {st : St} {K : V → St → Prop} : F_gazetteerref09_Meets P a0 a1 st K = hwp P c_gazetteerref09_Meets (hretQ [.tmp 4] K) (enterFr [a0, a1]) st := by kernel_rfl
abbrev R_gazetteerref09_Meets (P : Program) : Prop := resFnH P n_gazetteerref09_Meets = some (61, c_gazetteerref09_Meets.er, [.tmp 4])
theorem A_gazetteerref09_Meets {P : Program} (h : R_gazetteerref09_Meets P) {a0 a1 : V} {st : St} {K : V → St → Prop} (hF : F_gazetteerref09_Meets P a0 a1 st K) : ACalls P n_gazetteerref09_Meets [a0, a1] st K :=
  ACalls_h h rfl (by simp) (q_gazetteerref09_Meets ▸ hF)

def c_pred_mark : ACode := (.seq (.reg [⟨(some 1), none, (.box (.s 0))⟩, ⟨(some 2), none, (.mov (.c (.bool false)))⟩]) (.seq (.reg [⟨(some 3), none, (.fld 0 (.s 1))⟩, ⟨(some 4), none, (.ld none (.s 3))⟩, ⟨(some 5), none, (.bin .gtr (.s 4) (.c (.int .u32 0)))⟩, ⟨(some 6), none, (.mov (.s 5))⟩, ⟨(some 7), (some (6, true)), (.fld 1 (.s 1))⟩, ⟨(some 8), (some (6, true)), (.ld none (.s 7))⟩, ⟨(some 9), (some (6, true)), (.bin .gtr (.s 8) (.c (.int .u64 0)))⟩, ⟨(some 10), none, (.pick (.s 6) (.s 9) (.c (.bool false)))⟩, ⟨(some 11), none, (.mov (.s 10))⟩, ⟨(some 12), (some (11, true)), (.fld 2 (.s 1))⟩, ⟨(some 13), (some (11, true)), (.ld (some 4) (.s 12))⟩, ⟨(some 14), (some (11, true)), (.call (.c (.fn (.func n_pred_box) [] [])) [(.s 13)])⟩, ⟨(some 15), none, (.pick (.s 11) (.s 14) (.c (.bool false)))⟩, ⟨(some 2), none, (.mov (.s 15))⟩]) .ret))
def F_pred_mark (P : Program) (a0 : V) (st : St) (K : V → St → Prop) : Prop :=
  @stp P (.box (.c a0)) st ⟨fun v1 st =>
  @stp P (.fld 0 (.c v1)) st ⟨fun v3 st =>
  @stp P (.ld none (.c v3)) st ⟨fun v4 st =>
  @stp P (.bin .gtr (.c v4) (.c (.int .u32 0))) st ⟨fun v5 st =>
  @gst P v5 true (.fld 1 (.c v1)) st ⟨fun v7 st =>
  @gst P v5 true (.ld none (.c v7)) st ⟨fun v8 st =>
  @gst P v5 true (.bin .gtr (.c v8) (.c (.int .u64 0))) st ⟨fun v9 st =>
  @stp P (.pick (.c v5) (.c v9) (.c (.bool false))) st ⟨fun v10 st =>
  @gst P v10 true (.fld 2 (.c v1)) st ⟨fun v12 st =>
  @gst P v10 true (.ld (some 4) (.c v12)) st ⟨fun v13 st =>
  @gst P v10 true (.call (.c (.fn (.func n_pred_box) [] [])) [(.c v13)]) st ⟨fun v14 st =>
  @stp P (.pick (.c v10) (.c v14) (.c (.bool false))) st ⟨fun v15 st =>
  GhostV [v15] st fun vs st => K (mkres vs) st⟩⟩⟩⟩⟩⟩⟩⟩⟩⟩⟩⟩
theorem q_pred_mark {P : Program} {a0 : V} {st : St} {K : V → St → Prop} : F_pred_mark P a0 st K = hwp P c_pred_mark (hretQ [.tmp 2] K) (enterFr [a0]) st := by kernel_rfl
abbrev R_pred_mark (P : Program) : Prop := resFnH P n_pred_mark = some (16, c_pred_mark.er, [.tmp 2])
theorem A_pred_mark {P : Program} (h : R_pred_mark P) {a0 : V} {st : St} {K : V → St → Prop} (hF : F_pred_mark P a0 st K) : ACalls P n_pred_mark [a0] st K :=
  ACalls_h h rfl (by simp) (q_pred_mark ▸ hF)

def c_pred_change : ACode := (.seq (.reg [⟨(some 2), none, (.box (.s 0))⟩, ⟨(some 4), none, (.alloc [(.sl .nil 0 [] [])])⟩, ⟨(some 5), none, (.mov (.c (.int .i64 0)))⟩]) (.seq (.reg [⟨(some 7), none, (.fld 0 (.s 2))⟩, ⟨(some 8), none, (.ld none (.s 7))⟩, ⟨(some 9), none, (.call (.c (.fn (.func n_slices_Clone_Pred_Pred) [] [])) [(.s 8)])⟩, ⟨(some 10), none, (.build [(.sl .nil 0 [] [])] [(0, (1, (.s 9)))])⟩, ⟨(some 6), none, (.alloc [(.sl .nil 0 [] [])])⟩, ⟨none, none, (.st 1 (.s 6) (.s 10))⟩]) (.seq (.reg [⟨(some 11), none, (.mov (.s 1))⟩, ⟨(some 12), none, (.mkfn (.func n_pred_change_1) [] [(.s 6)])⟩, ⟨(some 13), none, (.call (.s 11) [(.s 12), (.s 6)])⟩]) (.seq (.seq (.reg [⟨(some 14), none, (.fld 0 (.s 6))⟩, ⟨(some 15), none, (.ld none (.s 14))⟩, ⟨(some 16), none, (.len .sl (.s 15))⟩, ⟨(some 17), none, (.bin .gtr (.s 16) (.c (.int .i64 512)))⟩]) (.cond (.s 17) (.seq (.reg [⟨(some 18), none, (.build [(.sl .nil 0 [] [])] [])⟩, ⟨none, none, (.st 1 (.s 4) (.s 18))⟩, ⟨(some 5), none, (.mov (.c (.int .i64 6)))⟩]) .ret) .skip)) (.seq (.reg [⟨(some 19), none, (.ld (some 1) (.s 6))⟩, ⟨none, none, (.st 1 (.s 4) (.s 19))⟩, ⟨(some 5), none, (.mov (.c (.int .i64 0)))⟩]) .ret)))))
def F_pred_change (P : Program) (a0 a1 : V) (st : St) (K : V → St → Prop) : Prop :=
  @stp P (.box (.c a0)) st ⟨fun v2 st =>
  @stp P (.alloc [(.sl .nil 0 [] [])]) st ⟨fun v4 st =>
  @stp P (.fld 0 (.c v2)) st ⟨fun v7 st =>
  @stp P (.ld none (.c v7)) st ⟨fun v8 st =>
  @stp P (.call (.c (.fn (.func n_slices_Clone_Pred_Pred) [] [])) [(.c v8)]) st ⟨fun v9 st =>
  @stp P (.build [(.sl .nil 0 [] [])] [(0, 1, (.c v9))]) st ⟨fun v10 st =>
  @stp P (.alloc [(.sl .nil 0 [] [])]) st ⟨fun v6 st =>
  @stp P (.st 1 (.c v6) (.c v10)) st ⟨fun _v st =>
  @stp P (.mkfn (.func n_pred_change_1) [] [(.c v6)]) st ⟨fun v12 st =>
  @stp P (.call (.c a1) [(.c v12), (.c v6)]) st ⟨fun v13 st =>
  @stp P (.fld 0 (.c v6)) st ⟨fun v14 st =>
  @stp P (.ld none (.c v14)) st ⟨fun v15 st =>
  @stp P (.len .sl (.c v15)) st ⟨fun v16 st =>
  @stp P (.bin .gtr (.c v16) (.c (.int .i64 512))) st ⟨fun v17 st =>
  @cnd v17 ⟨
    @stp P (.build [(.sl .nil 0 [] [])] []) st ⟨fun v18 st =>
    @stp P (.st 1 (.c v4) (.c v18)) st ⟨fun _v st =>
    @ldr (some 1) v4 st ⟨fun r1 =>
    GhostV [r1, (.int .i64 6)] st fun vs st => K (mkres vs) st⟩⟩⟩⟩
  ⟨
    @stp P (.ld (some 1) (.c v6)) st ⟨fun v19 st =>
    @stp P (.st 1 (.c v4) (.c v19)) st ⟨fun _v st =>
    @ldr (some 1) v4 st ⟨fun r1 =>
    GhostV [r1, (.int .i64 0)] st fun vs st => K (mkres vs) st⟩⟩⟩⟩⟩⟩⟩⟩⟩⟩⟩⟩⟩⟩⟩⟩⟩⟩
theorem q_pred_change {P : Program} {a0 a1 : V} {st : St} {K : V → St → Prop} : F_pred_change P a0 a1 st K = hwp P c_pred_change (hretQ [.cell 4 (some 1), .tmp 5] K) (enterFr [a0, a1]) st := by kernel_rfl
abbrev R_pred_change (P : Program) : Prop := resFnH P n_pred_change = some (20, c_pred_change.er, [.cell 4 (some 1), .tmp 5])
theorem A_pred_change {P : Program} (h : R_pred_change P) {a0 a1 : V} {st : St} {K : V → St → Prop} (hF : F_pred_change P a0 a1 st K) : ACalls P n_pred_change [a0, a1] st K :=
  ACalls_h h rfl (by simp) (q_pred_change ▸ hF)

def c_pred_Attach_1 : ACode := (.reg [⟨(some 5), none, (.mov (.s 0))⟩, ⟨(some 6), none, (.ld (some 6) (.s 2))⟩, ⟨(some 7), none, (.call (.s 5) [(.s 6)])⟩])
def F_pred_Attach_1 (P : Program) (a0 a1 a2 : V) (st : St) (K : V → St → Prop) : Prop :=
  @stp P (.ld (some 6) (.c a2)) st ⟨fun v6 st =>
  @stp P (.call (.c a0) [(.c v6)]) st ⟨fun v7 st =>
  GhostV [] st fun vs st => K (mkres vs) st⟩⟩
theorem q_pred_Attach_1 {P : Program} {a0 a1 a2 : V} {st : St} {K : V → St → Prop} : F_pred_Attach_1 P a0 a1 a2 st K = hwp P c_pred_Attach_1 (hretQ [] K) (enterFr [a0, a1, a2]) st := by kernel_rfl
abbrev R_pred_Attach_1 (P : Program) : Prop := resFnH P n_pred_Attach_1 = some (8, c_pred_Attach_1.er, [])
theorem A_pred_Attach_1 {P : Program} (h : R_pred_Attach_1 P) {a0 a1 a2 : V} {st : St} {K : V → St → Prop} (hF : F_pred_Attach_1 P a0 a1 a2 st K) : ACalls P n_pred_Attach_1 [a0, a1, a2] st K :=
  ACalls_h h rfl (by simp) (q_pred_Attach_1 ▸ hF)

def c_slices_ContainsFunc_Split_Split : ACode := (.seq (.reg [⟨(some 4), none, (.mov (.c (.bool false)))⟩]) (.seq (.reg [⟨(some 5), none, (.mov (.s 0))⟩, ⟨(some 6), none, (.mov (.s 1))⟩, ⟨(some 7), none, (.call (.c (.fn (.func n_slices_IndexFunc_Split_Split) [] [])) [(.s 5), (.s 6)])⟩, ⟨(some 8), none, (.bin .geq (.s 7) (.c (.int .i64 0)))⟩, ⟨(some 4), none, (.mov (.s 8))⟩]) .ret))
def F_slices_ContainsFunc_Split_Split (P : Program) (a0 a1 : V) (st : St) (K : V → St → Prop) : Prop :=
  @stp P (.call (.c (.fn (.func n_slices_IndexFunc_Split_Split) [] [])) [(.c a0), (.c a1)]) st ⟨fun v7 st =>
  @stp P (.bin .geq (.c v7) (.c (.int .i64 0))) st ⟨fun v8 st =>
  GhostV [v8] st fun vs st => K (mkres vs) st⟩⟩
theorem q_slices_ContainsFunc_Split_Split {P : Program} {a0 a1 : V} {st : St} {K : V → St → Prop} : F_slices_ContainsFunc_Split_Split P a0 a1 st K = hwp P c_slices_ContainsFunc_Split_Split (hretQ [.tmp 4] K) (enterFr [a0, a1]) st := by kernel_rfl
abbrev R_slices_ContainsFunc_Split_Split (P : Program) : Prop := resFnH P n_slices_ContainsFunc_Split_Split = some (9, c_slices_ContainsFunc_Split_Split.er, [.tmp 4])
theorem A_slices_ContainsFunc_Split_Split {P : Program} (h : R_slices_ContainsFunc_Split_Split P) {a0 a1 : V} {st : St} {K : V → St → Prop} (hF : F_slices_ContainsFunc_Split_Split P a0 a1 st K) : ACalls P n_slices_ContainsFunc_Split_Split [a0, a1] st K :=
  ACalls_h h rfl (by simp) (q_slices_ContainsFunc_Split_Split ▸ hF)

def c_pred_Split_1 : ACode := (.seq (.reg [⟨(some 1), none, (.box (.s 0))⟩, ⟨(some 2), none, (.mov (.c (.bool false)))⟩]) (.seq (.reg [⟨(some 3), none, (.fld 0 (.s 1))⟩, ⟨(some 4), none, (.ld none (.s 3))⟩, ⟨(some 5), none, (.bin .eql (.s 4) (.c (.int .u32 0)))⟩, ⟨(some 6), none, (.mov (.s 5))⟩, ⟨(some 7), (some (6, false)), (.fld 1 (.s 1))⟩, ⟨(some 8), (some (6, false)), (.ld none (.s 7))⟩, ⟨(some 9), (some (6, false)), (.bin .eql (.s 8) (.c (.int .u32 0)))⟩, ⟨(some 10), none, (.pick (.s 6) (.c (.bool true)) (.s 9))⟩, ⟨(some 2), none, (.mov (.s 10))⟩]) .ret))
def F_pred_Split_1 (P : Program) (a0 : V) (st : St) (K : V → St → Prop) : Prop :=
  @stp P (.box (.c a0)) st ⟨fun v1 st =>
  @stp P (.fld 0 (.c v1)) st ⟨fun v3 st =>
  @stp P (.ld none (.c v3)) st ⟨fun v4 st =>
  @stp P (.bin .eql (.c v4) (.c (.int .u32 0))) st ⟨fun v5 st =>
  @gst P v5 false (.fld 1 (.c v1)) st ⟨fun v7 st =>
  @gst P v5 false (.ld none (.c v7)) st ⟨fun v8 st =>
  @gst P v5 false (.bin .eql (.c v8) (.c (.int .u32 0))) st ⟨fun v9 st =>
  @stp P (.pick (.c v5) (.c (.bool true)) (.c v9)) st ⟨fun v10 st =>
  GhostV [v10] st fun vs st => K (mkres vs) st⟩⟩⟩⟩⟩⟩⟩⟩
theorem q_pred_Split_1 {P : Program} {a0 : V} {st : St} {K : V → St → Prop} : F_pred_Split_1 P a0 st K = hwp P c_pred_Split_1 (hretQ [.tmp 2] K) (enterFr [a0]) st := by kernel_rfl
abbrev R_pred_Split_1 (P : Program) : Prop := resFnH P n_pred_Split_1 = some (11, c_pred_Split_1.er, [.tmp 2])
theorem A_pred_Split_1 {P : Program} (h : R_pred_Split_1 P) {a0 : V} {st : St} {K : V → St → Prop} (hF : F_pred_Split_1 P a0 st K) : ACalls P n_pred_Split_1 [a0] st K :=
  ACalls_h h rfl (by simp) (q_pred_Split_1 ▸ hF)

def c_pred_Split_2 : ACode := (.seq (.reg [⟨(some 10), none, (.ld none (.s 2))⟩, ⟨(some 11), none, (.len .sl (.s 10))⟩, ⟨(some 12), none, (.mov (.c (.int .i64 0)))⟩]) (.block 0 (.loop [12] [7, 9, 12, 13, 14, 15, 16, 17, 18, 19, 20, 21, 22, 23, 24, 25, 26, 27, 28, 29, 30, 31, 32, 33, 34, 35, 36, 37, 38, 39, 40, 41, 42] (.seq (.reg [⟨(some 13), none, (.bin .lss (.s 12) (.s 11))⟩]) (.seq (.cond (.s 13) .skip (.exit 0)) (.seq (.block 1 (.seq (.reg [⟨(some 14), none, (.idx 3 (.s 10) (.s 12))⟩, ⟨(some 15), none, (.ld (some 3) (.s 14))⟩, ⟨(some 7), none, (.alloc [(.int .u32 0), (.int .u32 0), (.bool false)])⟩, ⟨none, none, (.st 3 (.s 7) (.s 15))⟩]) (.seq (.regD [⟨(some 16), none, (.mov (.s 1))⟩, ⟨(some 17), none, (.nilchk (.s 16))⟩, ⟨(some 18), none, (.ld (some 1) (.s 17))⟩, ⟨(some 19), none, (.fld 0 (.s 7))⟩, ⟨(some 20), none, (.ld none (.s 19))⟩, ⟨(some 21), none, (.call (.c (.fn (.func n_pred_at) [] [])) [(.s 18), (.s 20)])⟩, ⟨(some 22), none, (.call (.c (.fn (.func n_slices_Collect_Pred) [] [])) [(.s 21)])⟩, ⟨(some 23), none, (.len .sl (.s 22))⟩, ⟨(some 24), none, (.mov (.c (.int .i64 0)))⟩] [(0, (false, [])), (1, (false, [])), (2, (false, [])), (3, (false, [])), (4, (false, [])), (8, (false, [])), (5, (true, [8])), (6, (true, [8])), (7, (false, []))]) (.block 2 (.loop [24] [9, 24, 25, 26, 27, 28, 29, 30, 31, 32, 33, 34, 35, 36, 37, 38, 39, 40, 41] (.seq (.reg [⟨(some 25), none, (.bin .lss (.s 24) (.s 23))⟩]) (.seq (.cond (.s 25) .skip (.exit 2)) (.seq (.block 3 (.seq (.reg [⟨(some 26), none, (.idx 6 (.s 22) (.s 24))⟩, ⟨(some 27), none, (.ld (some 6) (.s 26))⟩, ⟨(some 9), none, (.alloc [(.int .u32 0), (.int .u64 0), (.int .i64 0), (.int .i64 0), (.int .i64 0), (.int .i64 0)])⟩, ⟨none, none, (.st 6 (.s 9) (.s 27))⟩]) (.seq (.reg [⟨(some 28), none, (.fld 1 (.s 7))⟩, ⟨(some 29), none, (.ld none (.s 28))⟩, ⟨(some 30), none, (.fld 0 (.s 9))⟩, ⟨none, none, (.st 1 (.s 30) (.s 29))⟩]) (.seq (.reg [⟨(some 31), none, (.mov (.s 0))⟩, ⟨(some 32), none, (.ld (some 6) (.s 9))⟩, ⟨(some 33), none, (.call (.s 31) [(.s 32)])⟩]) (.seq (.reg [⟨(some 34), none, (.fld 2 (.s 7))⟩, ⟨(some 35), none, (.ld none (.s 34))⟩]) (.cond (.s 35) (.seq (.reg [⟨(some 36), none, (.ld none (.s 3))⟩, ⟨(some 37), none, (.fld 0 (.s 9))⟩, ⟨none, none, (.st 1 (.s 37) (.s 36))⟩]) (.reg [⟨(some 38), none, (.mov (.s 0))⟩, ⟨(some 39), none, (.ld (some 6) (.s 9))⟩, ⟨(some 40), none, (.call (.s 38) [(.s 39)])⟩])) .skip)))))) (.reg [⟨(some 41), none, (.bin .add (.s 24) (.c (.int .i64 1)))⟩, ⟨(some 24), none, (.mov (.s 41))⟩]))))))))) (.reg [⟨(some 42), none, (.bin .add (.s 12) (.c (.int .i64 1)))⟩, ⟨(some 12), none, (.mov (.s 42))⟩])))))))
def F_pred_Split_2 (P : Program) (a0 a1 a2 a3 : V) (st : St) (K : V → St → Prop) : Prop :=
  @stp P (.ld none (.c a2)) st ⟨fun v10 st =>
  @stp P (.len .sl (.c v10)) st ⟨fun v11 st =>
  @Hold ⟨∃ I1 : Nat → Rel 1, (∃ k, GhostV [(.int .i64 0)] st (app (I1 k))) ∧ ∀ k1 v12, ∀ st, app (I1 k1) [v12] st →
    @stp P (.bin .lss (.c v12) (.c v11)) st ⟨fun v13 st =>
    @cnd v13 ⟨
      @stp P (.idx 3 (.c v10) (.c v12)) st ⟨fun v14 st =>
      @stp P (.ld (some 3) (.c v14)) st ⟨fun v15 st =>
      @stp P (.alloc [(.int .u32 0), (.int .u32 0), (.bool false)]) st ⟨fun v7 st =>
      @stp P (.st 3 (.c v7) (.c v15)) st ⟨fun _v st =>
      @stpD P (.nilchk (.c a1)) st ⟨fun v17 st =>
      @stpD P (.ld (some 1) (.c v17)) st ⟨fun v18 st =>
      @stpD P (.fld 0 (.c v7)) st ⟨fun v19 st =>
      @stpD P (.ld none (.c v19)) st ⟨fun v20 st =>
      @stpD P (.call (.c (.fn (.func n_pred_at) [] [])) [(.c v18), (.c v20)]) st ⟨fun v21 st =>
      hwat P none (.mov (.c (.int .i64 0))) st (.int .i64 0) ∧ (
      @stpD P (.call (.c (.fn (.func n_slices_Collect_Pred) [] [])) [(.c v21)]) st ⟨fun v22 st =>
      hwat P none (.mov (.c (.int .i64 0))) st (.int .i64 0) ∧ (
      @stpD P (.len .sl (.c v22)) st ⟨fun v23 st =>
      @Hold ⟨∃ I2 : Nat → Rel 1, (∃ k, GhostV [(.int .i64 0)] st (app (I2 k))) ∧ ∀ k2 v24, ∀ st, app (I2 k2) [v24] st →
        @stp P (.bin .lss (.c v24) (.c v23)) st ⟨fun v25 st =>
        @cnd v25 ⟨
          @stp P (.idx 6 (.c v22) (.c v24)) st ⟨fun v26 st =>
          @stp P (.ld (some 6) (.c v26)) st ⟨fun v27 st =>
          @stp P (.alloc [(.int .u32 0), (.int .u64 0), (.int .i64 0), (.int .i64 0), (.int .i64 0), (.int .i64 0)]) st ⟨fun v9 st =>
          @stp P (.st 6 (.c v9) (.c v27)) st ⟨fun _v st =>
          @stp P (.fld 1 (.c v7)) st ⟨fun v28 st =>
          @stp P (.ld none (.c v28)) st ⟨fun v29 st =>
          @stp P (.fld 0 (.c v9)) st ⟨fun v30 st =>
          @stp P (.st 1 (.c v30) (.c v29)) st ⟨fun _v st =>
          @stp P (.ld (some 6) (.c v9)) st ⟨fun v32 st =>
          @stp P (.call (.c a0) [(.c v32)]) st ⟨fun v33 st =>
          @stp P (.fld 2 (.c v7)) st ⟨fun v34 st =>
          @stp P (.ld none (.c v34)) st ⟨fun v35 st =>
          @cnd v35 ⟨
            @stp P (.ld none (.c a3)) st ⟨fun v36 st =>
            @stp P (.fld 0 (.c v9)) st ⟨fun v37 st =>
            @stp P (.st 1 (.c v37) (.c v36)) st ⟨fun _v st =>
            @stp P (.ld (some 6) (.c v9)) st ⟨fun v39 st =>
            @stp P (.call (.c a0) [(.c v39)]) st ⟨fun v40 st =>
            @stp P (.bin .add (.c v24) (.c (.int .i64 1))) st ⟨fun v41 st =>
            ∃ j, j < k2 ∧ GhostV [v41] st (app (I2 j))⟩⟩⟩⟩⟩⟩⟩
          ⟨
            @stp P (.bin .add (.c v24) (.c (.int .i64 1))) st ⟨fun v41 st =>
            ∃ j, j < k2 ∧ GhostV [v41] st (app (I2 j))⟩⟩⟩⟩⟩⟩⟩⟩⟩⟩⟩⟩⟩⟩⟩
        ⟨
          @stp P (.bin .add (.c v12) (.c (.int .i64 1))) st ⟨fun v42 st =>
          ∃ j, j < k1 ∧ GhostV [v42] st (app (I1 j))⟩⟩⟩⟩⟩)⟩)⟩⟩⟩⟩⟩⟩⟩⟩⟩⟩
    ⟨
      GhostV [] st fun vs st => K (mkres vs) st⟩⟩⟩⟩⟩
theorem q_pred_Split_2 {P : Program} {a0 a1 a2 a3 : V} {st : St} {K : V → St → Prop} : F_pred_Split_2 P a0 a1 a2 a3 st K = hwp P c_pred_Split_2 (hretQ [] K) (enterFr [a0, a1, a2, a3]) st := by kernel_rfl
abbrev R_pred_Split_2 (P : Program) : Prop := resFnH P n_pred_Split_2 = some (43, c_pred_Split_2.er, [])
theorem A_pred_Split_2 {P : Program} (h : R_pred_Split_2 P) {a0 a1 a2 a3 : V} {st : St} {K : V → St → Prop} (hF : F_pred_Split_2 P a0 a1 a2 a3 st K) : ACalls P n_pred_Split_2 [a0, a1, a2, a3] st K :=
  ACalls_h h rfl (by simp) (q_pred_Split_2 ▸ hF)

def c_slices_Collect_Pred : ACode := (.seq (.reg [⟨(some 2), none, (.mov (.c (.sl .nil 0 [] [])))⟩]) (.seq (.reg [⟨(some 3), none, (.mov (.s 0))⟩, ⟨(some 4), none, (.call (.c (.fn (.func n_slices_AppendSeq_Pred_Pred) [] [])) [(.c (.sl .nil 0 [] [])), (.s 3)])⟩, ⟨(some 2), none, (.mov (.s 4))⟩]) .ret))
def F_slices_Collect_Pred (P : Program) (a0 : V) (st : St) (K : V → St → Prop) : Prop :=
  @stp P (.call (.c (.fn (.func n_slices_AppendSeq_Pred_Pred) [] [])) [(.c (.sl .nil 0 [] [])), (.c a0)]) st ⟨fun v4 st =>
  GhostV [v4] st fun vs st => K (mkres vs) st⟩
theorem q_slices_Collect_Pred {P : Program} {a0 : V} {st : St} {K : V → St → Prop} : F_slices_Collect_Pred P a0 st K = hwp P c_slices_Collect_Pred (hretQ [.tmp 2] K) (enterFr [a0]) st := by kernel_rfl
abbrev R_slices_Collect_Pred (P : Program) : Prop := resFnH P n_slices_Collect_Pred = some (5, c_slices_Collect_Pred.er, [.tmp 2])
theorem A_slices_Collect_Pred {P : Program} (h : R_slices_Collect_Pred P) {a0 : V} {st : St} {K : V → St → Prop} (hF : F_slices_Collect_Pred P a0 st K) : ACalls P n_slices_Collect_Pred [a0] st K :=
  ACalls_h h rfl (by simp) (q_slices_Collect_Pred ▸ hF)

def c_slices_DeleteFunc_Pred_Pred : ACode := (.seq (.reg [⟨(some 4), none, (.mov (.c (.sl .nil 0 [] [])))⟩]) (.seq (.reg [⟨(some 8), none, (.mov (.s 0))⟩, ⟨(some 9), none, (.mov (.s 1))⟩, ⟨(some 10), none, (.call (.c (.fn (.func n_slices_IndexFunc_Pred_Pred) [] [])) [(.s 8), (.s 9)])⟩, ⟨(some 5), none, (.mov (.s 10))⟩]) (.seq (.seq (.reg [⟨(some 11), none, (.mov (.s 5))⟩, ⟨(some 12), none, (.bin .eql (.s 11) (.c (.int .i64 (-1))))⟩]) (.cond (.s 12) (.seq (.reg [⟨(some 13), none, (.mov (.s 0))⟩, ⟨(some 4), none, (.mov (.s 13))⟩]) .ret) .skip)) (.seq (.seq (.reg [⟨(some 14), none, (.mov (.s 5))⟩, ⟨(some 15), none, (.bin .add (.s 14) (.c (.int .i64 1)))⟩, ⟨(some 6), none, (.mov (.s 15))⟩]) (.block 0 (.loop [5, 6] [5, 6, 7, 16, 17, 18, 19, 20, 21, 22, 23, 24, 25, 26, 27, 28, 29, 30, 31, 32, 33, 34, 35] (.seq (.seq (.reg [⟨(some 16), none, (.mov (.s 6))⟩, ⟨(some 17), none, (.mov (.s 0))⟩, ⟨(some 18), none, (.len .sl (.s 17))⟩, ⟨(some 19), none, (.bin .lss (.s 16) (.s 18))⟩]) (.cond (.s 19) .skip (.exit 0))) (.seq (.block 1 (.seq (.reg [⟨(some 22), none, (.mov (.s 0))⟩, ⟨(some 23), none, (.mov (.s 6))⟩, ⟨(some 24), none, (.idx 6 (.s 22) (.s 23))⟩, ⟨(some 25), none, (.ld (some 6) (.s 24))⟩, ⟨(some 7), none, (.alloc [(.int .u32 0), (.int .u64 0), (.int .i64 0), (.int .i64 0), (.int .i64 0), (.int .i64 0)])⟩, ⟨none, none, (.st 6 (.s 7) (.s 25))⟩]) (.seq (.reg [⟨(some 26), none, (.mov (.s 1))⟩, ⟨(some 27), none, (.ld (some 6) (.s 7))⟩, ⟨(some 28), none, (.call (.s 26) [(.s 27)])⟩, ⟨(some 29), none, (.un .not (.s 28))⟩]) (.cond (.s 29) (.seq (.reg [⟨(some 30), none, (.mov (.s 0))⟩, ⟨(some 31), none, (.mov (.s 5))⟩, ⟨(some 32), none, (.ld (some 6) (.s 7))⟩, ⟨(some 33), none, (.idx 6 (.s 30) (.s 31))⟩, ⟨none, none, (.st 6 (.s 33) (.s 32))⟩]) (.reg [⟨(some 34), none, (.mov (.s 5))⟩, ⟨(some 35), none, (.bin .add (.s 34) (.c (.int .i64 1)))⟩, ⟨(some 5), none, (.mov (.s 35))⟩])) .skip)))) (.reg [⟨(some 20), none, (.mov (.s 6))⟩, ⟨(some 21), none, (.bin .add (.s 20) (.c (.int .i64 1)))⟩, ⟨(some 6), none, (.mov (.s 21))⟩])))))) (.seq (.reg [⟨(some 36), none, (.mov (.s 0))⟩, ⟨(some 37), none, (.mov (.s 5))⟩, ⟨(some 38), none, (.slice 6 (.s 36) (some (.s 37)) none none)⟩, ⟨none, none, (.clear [(.int .u32 0), (.int .u64 0), (.int .i64 0), (.int .i64 0), (.int .i64 0), (.int .i64 0)] (.s 38))⟩]) (.seq (.reg [⟨(some 39), none, (.mov (.s 0))⟩, ⟨(some 40), none, (.mov (.s 5))⟩, ⟨(some 41), none, (.slice 6 (.s 39) none (some (.s 40)) none)⟩, ⟨(some 4), none, (.mov (.s 41))⟩]) .ret))))))
def F_slices_DeleteFunc_Pred_Pred (P : Program) (a0 a1 : V) (st : St) (K : V → St → Prop) : Prop :=
  @stp P (.call (.c (.fn (.func n_slices_IndexFunc_Pred_Pred) [] [])) [(.c a0), (.c a1)]) st ⟨fun v10 st =>
  @stp P (.bin .eql (.c v10) (.c (.int .i64 (-1)))) st ⟨fun v12 st =>
  @cnd v12 ⟨
    GhostV [a0] st fun vs st => K (mkres vs) st⟩
  ⟨
    @stp P (.bin .add (.c v10) (.c (.int .i64 1))) st ⟨fun v15 st =>
    @Hold ⟨∃ I1 : Nat → Rel 2, (∃ k, GhostV [v10, v15] st (app (I1 k))) ∧ ∀ k1 v5 v6, ∀ st, app (I1 k1) [v5, v6] st →
      @stp P (.len .sl (.c a0)) st ⟨fun v18 st =>
      @stp P (.bin .lss (.c v6) (.c v18)) st ⟨fun v19 st =>
      @cnd v19 ⟨
        @stp P (.idx 6 (.c a0) (.c v6)) st ⟨fun v24 st =>
        @stp P (.ld (some 6) (.c v24)) st ⟨fun v25 st =>
        @stp P (.alloc [(.int .u32 0), (.int .u64 0), (.int .i64 0), (.int .i64 0), (.int .i64 0), (.int .i64 0)]) st ⟨fun v7 st =>
        @stp P (.st 6 (.c v7) (.c v25)) st ⟨fun _v st =>
        @stp P (.ld (some 6) (.c v7)) st ⟨fun v27 st =>
        @stp P (.call (.c a1) [(.c v27)]) st ⟨fun v28 st =>
        @stp P (.un .not (.c v28)) st ⟨fun v29 st =>
        @cnd v29 ⟨
          @stp P (.ld (some 6) (.c v7)) st ⟨fun v32 st =>
          @stp P (.idx 6 (.c a0) (.c v5)) st ⟨fun v33 st =>
          @stp P (.st 6 (.c v33) (.c v32)) st ⟨fun _v st =>
          @stp P (.bin .add (.c v5) (.c (.int .i64 1))) st ⟨fun v35 st =>
          @stp P (.bin .add (.c v6) (.c (.int .i64 1))) st ⟨fun v21 st =>
          ∃ j, j < k1 ∧ GhostV [v35, v21] st (app (I1 j))⟩⟩⟩⟩⟩⟩
        ⟨
          @stp P (.bin .add (.c v6) (.c (.int .i64 1))) st ⟨fun v21 st =>
          ∃ j, j < k1 ∧ GhostV [v5, v21] st (app (I1 j))⟩⟩⟩⟩⟩⟩⟩⟩⟩⟩
      ⟨
        @stp P (.slice 6 (.c a0) (some (.c v5)) none none) st ⟨fun v38 st =>
        @stp P (.clear [(.int .u32 0), (.int .u64 0), (.int .i64 0), (.int .i64 0), (.int .i64 0), (.int .i64 0)] (.c v38)) st ⟨fun _v st =>
        @stp P (.slice 6 (.c a0) none (some (.c v5)) none) st ⟨fun v41 st =>
        GhostV [v41] st fun vs st => K (mkres vs) st⟩⟩⟩⟩⟩⟩⟩⟩⟩⟩⟩
theorem q_slices_DeleteFunc_Pred_Pred {P : Program} {a0 a1 : V} {st : St} {K : V → St → Prop} : F_slices_DeleteFunc_Pred_Pred P a0 a1 st K = hwp P c_slices_DeleteFunc_Pred_Pred (hretQ [.tmp 4] K) (enterFr [a0, a1]) st := by kernel_rfl
abbrev R_slices_DeleteFunc_Pred_Pred (P : Program) : Prop := resFnH P n_slices_DeleteFunc_Pred_Pred = some (42, c_slices_DeleteFunc_Pred_Pred.er, [.tmp 4])
theorem A_slices_DeleteFunc_Pred_Pred {P : Program} (h : R_slices_DeleteFunc_Pred_Pred P) {a0 a1 : V} {st : St} {K : V → St → Prop} (hF : F_slices_DeleteFunc_Pred_Pred P a0 a1 st K) : ACalls P n_slices_DeleteFunc_Pred_Pred [a0, a1] st K :=
  ACalls_h h rfl (by simp) (q_slices_DeleteFunc_Pred_Pred ▸ hF)

def c_slices_Clone_Pred_Pred : ACode := (.seq (.reg [⟨(some 2), none, (.mov (.c (.sl .nil 0 [] [])))⟩]) (.seq (.seq (.reg [⟨(some 3), none, (.mov (.s 0))⟩, ⟨(some 4), none, (.eqs false .sl (.s 3) (.c (.sl .nil 0 [] [])))⟩]) (.cond (.s 4) (.seq (.reg [⟨(some 2), none, (.mov (.c (.sl .nil 0 [] [])))⟩]) .ret) .skip)) (.seq (.reg [⟨(some 5), none, (.mkSl 6 0 [(.int .u32 0), (.int .u64 0), (.int .i64 0), (.int .i64 0), (.int .i64 0), (.int .i64 0)] [])⟩, ⟨(some 6), none, (.mov (.s 0))⟩, ⟨(some 7), none, (.append 6 48 (.s 5) (.s 6))⟩, ⟨(some 2), none, (.mov (.s 7))⟩]) .ret)))
def F_slices_Clone_Pred_Pred (P : Program) (a0 : V) (st : St) (K : V → St → Prop) : Prop :=
  @stp P (.eqs false .sl (.c a0) (.c (.sl .nil 0 [] []))) st ⟨fun v4 st =>
  @cnd v4 ⟨
    GhostV [(.sl .nil 0 [] [])] st fun vs st => K (mkres vs) st⟩
  ⟨
    @stp P (.mkSl 6 0 [(.int .u32 0), (.int .u64 0), (.int .i64 0), (.int .i64 0), (.int .i64 0), (.int .i64 0)] []) st ⟨fun v5 st =>
    @stp P (.append 6 48 (.c v5) (.c a0)) st ⟨fun v7 st =>
    GhostV [v7] st fun vs st => K (mkres vs) st⟩⟩⟩⟩
theorem q_slices_Clone_Pred_Pred {P : Program} {a0 : V} {st : St} {K : V → St → Prop} : F_slices_Clone_Pred_Pred P a0 st K = hwp P c_slices_Clone_Pred_Pred (hretQ [.tmp 2] K) (enterFr [a0]) st := by kernel_rfl
abbrev R_slices_Clone_Pred_Pred (P : Program) : Prop := resFnH P n_slices_Clone_Pred_Pred = some (8, c_slices_Clone_Pred_Pred.er, [.tmp 2])
theorem A_slices_Clone_Pred_Pred {P : Program} (h : R_slices_Clone_Pred_Pred P) {a0 : V} {st : St} {K : V → St → Prop} (hF : F_slices_Clone_Pred_Pred P a0 st K) : ACalls P n_slices_Clone_Pred_Pred [a0] st K :=
  ACalls_h h rfl (by simp) (q_slices_Clone_Pred_Pred ▸ hF)

def c_pred_Release_1 : ACode := (.seq (.reg [⟨(some 2), none, (.box (.s 0))⟩, ⟨(some 3), none, (.mov (.c (.bool false)))⟩]) (.seq (.reg [⟨(some 4), none, (.fld 1 (.s 2))⟩, ⟨(some 5), none, (.ld none (.s 4))⟩, ⟨(some 6), none, (.ld none (.s 1))⟩, ⟨(some 7), none, (.bin .eql (.s 5) (.s 6))⟩, ⟨(some 3), none, (.mov (.s 7))⟩]) .ret))
def F_pred_Release_1 (P : Program) (a0 a1 : V) (st : St) (K : V → St → Prop) : Prop :=
  @stp P (.box (.c a0)) st ⟨fun v2 st =>
  @stp P (.fld 1 (.c v2)) st ⟨fun v4 st =>
  @stp P (.ld none (.c v4)) st ⟨fun v5 st =>
  @stp P (.ld none (.c a1)) st ⟨fun v6 st =>
  @stp P (.bin .eql (.c v5) (.c v6)) st ⟨fun v7 st =>
  GhostV [v7] st fun vs st => K (mkres vs) st⟩⟩⟩⟩⟩
theorem q_pred_Release_1 {P : Program} {a0 a1 : V} {st : St} {K : V → St → Prop} : F_pred_Release_1 P a0 a1 st K = hwp P c_pred_Release_1 (hretQ [.tmp 3] K) (enterFr [a0, a1]) st := by kernel_rfl
abbrev R_pred_Release_1 (P : Program) : Prop := resFnH P n_pred_Release_1 = some (8, c_pred_Release_1.er, [.tmp 3])
theorem A_pred_Release_1 {P : Program} (h : R_pred_Release_1 P) {a0 a1 : V} {st : St} {K : V → St → Prop} (hF : F_pred_Release_1 P a0 a1 st K) : ACalls P n_pred_Release_1 [a0, a1] st K :=
  ACalls_h h rfl (by simp) (q_pred_Release_1 ▸ hF)

def c_slices_Contains_uint32_uint32 : ACode := (.seq (.reg [⟨(some 4), none, (.mov (.c (.bool false)))⟩]) (.seq (.reg [⟨(some 5), none, (.mov (.s 0))⟩, ⟨(some 6), none, (.mov (.s 1))⟩, ⟨(some 7), none, (.call (.c (.fn (.func n_slices_Index_uint32_uint32) [] [])) [(.s 5), (.s 6)])⟩, ⟨(some 8), none, (.bin .geq (.s 7) (.c (.int .i64 0)))⟩, ⟨(some 4), none, (.mov (.s 8))⟩]) .ret))
def F_slices_Contains_uint32_uint32 (P : Program) (a0 a1 : V) (st : St) (K : V → St → Prop) : Prop :=
  @stp P (.call (.c (.fn (.func n_slices_Index_uint32_uint32) [] [])) [(.c a0), (.c a1)]) st ⟨fun v7 st =>
  @stp P (.bin .geq (.c v7) (.c (.int .i64 0))) st ⟨fun v8 st =>
  GhostV [v8] st fun vs st => K (mkres vs) st⟩⟩
theorem q_slices_Contains_uint32_uint32 {P : Program} {a0 a1 : V} {st : St} {K : V → St → Prop} : F_slices_Contains_uint32_uint32 P a0 a1 st K = hwp P c_slices_Contains_uint32_uint32 (hretQ [.tmp 4] K) (enterFr [a0, a1]) st := by kernel_rfl
abbrev R_slices_Contains_uint32_uint32 (P : Program) : Prop := resFnH P n_slices_Contains_uint32_uint32 = some (9, c_slices_Contains_uint32_uint32.er, [.tmp 4])
theorem A_slices_Contains_uint32_uint32 {P : Program} (h : R_slices_Contains_uint32_uint32 P) {a0 a1 : V} {st : St} {K : V → St → Prop} (hF : F_slices_Contains_uint32_uint32 P a0 a1 st K) : ACalls P n_slices_Contains_uint32_uint32 [a0, a1] st K :=
  ACalls_h h rfl (by simp) (q_slices_Contains_uint32_uint32 ▸ hF)

def c_pred_Pass_1 : ACode := (.seq (.reg [⟨(some 6), none, (.mov (.c (.int .i64 1)))⟩]) (.block 0 (.loop [6] [6, 8, 9, 10, 11, 12, 13, 14, 15, 16, 17, 18, 19, 20, 21, 22, 23, 24, 25, 26, 27, 28, 29, 30, 31, 32, 33, 34, 35, 36, 37, 38, 39, 40, 41, 42] (.seq (.seq (.reg [⟨(some 9), none, (.mov (.s 6))⟩, ⟨(some 10), none, (.ld none (.s 2))⟩, ⟨(some 11), none, (.len .sl (.s 10))⟩, ⟨(some 12), none, (.bin .lss (.s 9) (.s 11))⟩]) (.cond (.s 12) .skip (.exit 0))) (.seq (.block 1 (.seq (.regD [⟨(some 15), none, (.mov (.s 1))⟩, ⟨(some 16), none, (.nilchk (.s 15))⟩, ⟨(some 17), none, (.ld (some 1) (.s 16))⟩, ⟨(some 18), none, (.ld none (.s 2))⟩, ⟨(some 19), none, (.mov (.s 6))⟩, ⟨(some 20), none, (.bin .sub (.s 19) (.c (.int .i64 1)))⟩, ⟨(some 21), none, (.idx 1 (.s 18) (.s 20))⟩, ⟨(some 22), none, (.ld none (.s 21))⟩, ⟨(some 23), none, (.call (.c (.fn (.func n_pred_at) [] [])) [(.s 17), (.s 22)])⟩, ⟨(some 24), none, (.call (.c (.fn (.func n_slices_Collect_Pred) [] [])) [(.s 23)])⟩, ⟨(some 25), none, (.len .sl (.s 24))⟩, ⟨(some 26), none, (.mov (.c (.int .i64 0)))⟩] [(0, (false, [])), (1, (false, [])), (2, (false, [])), (3, (false, [])), (4, (false, [])), (5, (false, [])), (6, (false, [])), (7, (false, [])), (11, (false, [])), (8, (true, [11])), (9, (true, [11])), (10, (false, []))]) (.block 2 (.loop [26] [8, 26, 27, 28, 29, 30, 31, 32, 33, 34, 35, 36, 37, 38, 39, 40, 41, 42] (.seq (.reg [⟨(some 27), none, (.bin .lss (.s 26) (.s 25))⟩]) (.seq (.cond (.s 27) .skip (.exit 2)) (.seq (.block 3 (.seq (.reg [⟨(some 28), none, (.idx 6 (.s 24) (.s 26))⟩, ⟨(some 29), none, (.ld (some 6) (.s 28))⟩, ⟨(some 8), none, (.alloc [(.int .u32 0), (.int .u64 0), (.int .i64 0), (.int .i64 0), (.int .i64 0), (.int .i64 0)])⟩, ⟨none, none, (.st 6 (.s 8) (.s 29))⟩]) (.seq (.reg [⟨(some 30), none, (.fld 2 (.s 8))⟩, ⟨(some 31), none, (.ld (some 4) (.s 30))⟩, ⟨(some 32), none, (.ld (some 4) (.s 3))⟩, ⟨(some 33), none, (.call (.c (.fn (.func n_key_Meets) [] [])) [(.s 31), (.s 32)])⟩]) (.cond (.s 33) (.seq (.reg [⟨(some 34), none, (.ld none (.s 2))⟩, ⟨(some 35), none, (.mov (.s 6))⟩, ⟨(some 36), none, (.idx 1 (.s 34) (.s 35))⟩, ⟨(some 37), none, (.ld none (.s 36))⟩, ⟨(some 38), none, (.fld 0 (.s 8))⟩, ⟨none, none, (.st 1 (.s 38) (.s 37))⟩]) (.reg [⟨(some 39), none, (.mov (.s 0))⟩, ⟨(some 40), none, (.ld (some 6) (.s 8))⟩, ⟨(some 41), none, (.call (.s 39) [(.s 40)])⟩])) .skip)))) (.reg [⟨(some 42), none, (.bin .add (.s 26) (.c (.int .i64 1)))⟩, ⟨(some 26), none, (.mov (.s 42))⟩])))))))) (.reg [⟨(some 13), none, (.mov (.s 6))⟩, ⟨(some 14), none, (.bin .add (.s 13) (.c (.int .i64 1)))⟩, ⟨(some 6), none, (.mov (.s 14))⟩]))))))
def F_pred_Pass_1 (P : Program) (a0 a1 a2 a3 : V) (st : St) (K : V → St → Prop) : Prop :=
  @Hold ⟨∃ I1 : Nat → Rel 1, (∃ k, GhostV [(.int .i64 1)] st (app (I1 k))) ∧ ∀ k1 v6, ∀ st, app (I1 k1) [v6] st →
    @stp P (.ld none (.c a2)) st ⟨fun v10 st =>
    @stp P (.len .sl (.c v10)) st ⟨fun v11 st =>
    @stp P (.bin .lss (.c v6) (.c v11)) st ⟨fun v12 st =>
    @cnd v12 ⟨
      @stpD P (.nilchk (.c a1)) st ⟨fun v16 st =>
      @stpD P (.ld (some 1) (.c v16)) st ⟨fun v17 st =>
      @stpD P (.ld none (.c a2)) st ⟨fun v18 st =>
      @stpD P (.bin .sub (.c v6) (.c (.int .i64 1))) st ⟨fun v20 st =>
      @stpD P (.idx 1 (.c v18) (.c v20)) st ⟨fun v21 st =>
      @stpD P (.ld none (.c v21)) st ⟨fun v22 st =>
      @stpD P (.call (.c (.fn (.func n_pred_at) [] [])) [(.c v17), (.c v22)]) st ⟨fun v23 st =>
      hwat P none (.mov (.c (.int .i64 0))) st (.int .i64 0) ∧ (
      @stpD P (.call (.c (.fn (.func n_slices_Collect_Pred) [] [])) [(.c v23)]) st ⟨fun v24 st =>
      hwat P none (.mov (.c (.int .i64 0))) st (.int .i64 0) ∧ (
      @stpD P (.len .sl (.c v24)) st ⟨fun v25 st =>
      @Hold ⟨∃ I2 : Nat → Rel 1, (∃ k, GhostV [(.int .i64 0)] st (app (I2 k))) ∧ ∀ k2 v26, ∀ st, app (I2 k2) [v26] st →
        @stp P (.bin .lss (.c v26) (.c v25)) st ⟨fun v27 st =>
        @cnd v27 ⟨
          @stp P (.idx 6 (.c v24) (.c v26)) st ⟨fun v28 st =>
          @stp P (.ld (some 6) (.c v28)) st ⟨fun v29 st =>
          @stp P (.alloc [(.int .u32 0), (.int .u64 0), (.int .i64 0), (.int .i64 0), (.int .i64 0), (.int .i64 0)]) st ⟨fun v8 st =>
          @stp P (.st 6 (.c v8) (.c v29)) st ⟨fun _v st =>
          @stp P (.fld 2 (.c v8)) st ⟨fun v30 st =>
          @stp P (.ld (some 4) (.c v30)) st ⟨fun v31 st =>
          @stp P (.ld (some 4) (.c a3)) st ⟨fun v32 st =>
          @stp P (.call (.c (.fn (.func n_key_Meets) [] [])) [(.c v31), (.c v32)]) st ⟨fun v33 st =>
          @cnd v33 ⟨
            @stp P (.ld none (.c a2)) st ⟨fun v34 st =>
            @stp P (.idx 1 (.c v34) (.c v6)) st ⟨fun v36 st =>
            @stp P (.ld none (.c v36)) st ⟨fun v37 st =>
            @stp P (.fld 0 (.c v8)) st ⟨fun v38 st =>
            @stp P (.st 1 (.c v38) (.c v37)) st ⟨fun _v st =>
            @stp P (.ld (some 6) (.c v8)) st ⟨fun v40 st =>
            @stp P (.call (.c a0) [(.c v40)]) st ⟨fun v41 st =>
            @stp P (.bin .add (.c v26) (.c (.int .i64 1))) st ⟨fun v42 st =>
            ∃ j, j < k2 ∧ GhostV [v42] st (app (I2 j))⟩⟩⟩⟩⟩⟩⟩⟩⟩
          ⟨
            @stp P (.bin .add (.c v26) (.c (.int .i64 1))) st ⟨fun v42 st =>
            ∃ j, j < k2 ∧ GhostV [v42] st (app (I2 j))⟩⟩⟩⟩⟩⟩⟩⟩⟩⟩⟩
        ⟨
          @stp P (.bin .add (.c v6) (.c (.int .i64 1))) st ⟨fun v14 st =>
          ∃ j, j < k1 ∧ GhostV [v14] st (app (I1 j))⟩⟩⟩⟩⟩)⟩)⟩⟩⟩⟩⟩⟩⟩⟩
    ⟨
      GhostV [] st fun vs st => K (mkres vs) st⟩⟩⟩⟩⟩
theorem q_pred_Pass_1 {P : Program} {a0 a1 a2 a3 : V} {st : St} {K : V → St → Prop} : F_pred_Pass_1 P a0 a1 a2 a3 st K = hwp P c_pred_Pass_1 (hretQ [] K) (enterFr [a0, a1, a2, a3]) st := by kernel_rfl
abbrev R_pred_Pass_1 (P : Program) : Prop := resFnH P n_pred_Pass_1 = some (43, c_pred_Pass_1.er, [])
theorem A_pred_Pass_1 {P : Program} (h : R_pred_Pass_1 P) {a0 a1 a2 a3 : V} {st : St} {K : V → St → Prop} (hF : F_pred_Pass_1 P a0 a1 a2 a3 st K) : ACalls P n_pred_Pass_1 [a0, a1, a2, a3] st K :=
  ACalls_h h rfl (by simp) (q_pred_Pass_1 ▸ hF)

def c_gazetteerref15_Copied : ACode := (.seq (.reg [⟨(some 5), none, (.box (.s 0))⟩, ⟨(some 8), none, (.box (.s 3))⟩, ⟨(some 10), none, (.alloc [(.sl .nil 0 [] [])])⟩]) (.seq (.reg [⟨(some 14), none, (.ld (some 1) (.s 5))⟩, ⟨(some 11), none, (.alloc [(.sl .nil 0 [] [])])⟩, ⟨none, none, (.st 1 (.s 11) (.s 14))⟩]) (.seq (.seq (.reg [⟨(some 12), none, (.mov (.c (.int .i64 0)))⟩]) (.block 0 (.loop [12] [12, 13, 15, 16, 17, 18, 19, 20, 21, 22, 23, 24, 25, 26, 27, 28, 29, 30, 31, 32, 33, 34, 35, 36, 37, 38, 39, 40, 41, 42, 43, 44, 45] (.seq (.seq (.reg [⟨(some 15), none, (.mov (.s 12))⟩, ⟨(some 16), none, (.fld 0 (.s 5))⟩, ⟨(some 17), none, (.ld none (.s 16))⟩, ⟨(some 18), none, (.len .sl (.s 17))⟩, ⟨(some 19), none, (.bin .lss (.s 15) (.s 18))⟩]) (.cond (.s 19) .skip (.exit 0))) (.seq (.block 1 (.seq (.reg [⟨(some 22), none, (.fld 0 (.s 5))⟩, ⟨(some 23), none, (.ld none (.s 22))⟩, ⟨(some 24), none, (.mov (.s 12))⟩, ⟨(some 25), none, (.idx 6 (.s 23) (.s 24))⟩, ⟨(some 26), none, (.ld (some 6) (.s 25))⟩, ⟨(some 13), none, (.alloc [(.int .u32 0), (.int .u64 0), (.int .i64 0), (.int .i64 0), (.int .i64 0), (.int .i64 0)])⟩, ⟨none, none, (.st 6 (.s 13) (.s 26))⟩]) (.seq (.reg [⟨(some 27), none, (.fld 0 (.s 13))⟩, ⟨(some 28), none, (.ld none (.s 27))⟩, ⟨(some 29), none, (.mov (.s 1))⟩, ⟨(some 30), none, (.bin .eql (.s 28) (.s 29))⟩, ⟨(some 31), none, (.mov (.s 30))⟩, ⟨(some 32), (some (31, true)), (.mov (.s 4))⟩, ⟨(some 33), (some (31, true)), (.un .not (.s 32))⟩, ⟨(some 34), (some (31, true)), (.mov (.s 33))⟩, ⟨(some 35), (some (34, false)), (.fld 2 (.s 13))⟩, ⟨(some 36), (some (34, false)), (.ld (some 4) (.s 35))⟩, ⟨(some 37), (some (34, false)), (.ld (some 4) (.s 8))⟩, ⟨(some 38), (some (34, false)), (.call (.c (.fn (.func n_gazetteerref09_Meets) [] [])) [(.s 36), (.s 37)])⟩, ⟨(some 39), (some (31, true)), (.pick (.s 34) (.c (.bool true)) (.s 38))⟩, ⟨(some 40), none, (.pick (.s 31) (.s 39) (.c (.bool false)))⟩]) (.cond (.s 40) (.seq (.reg [⟨(some 41), none, (.mov (.s 2))⟩, ⟨(some 42), none, (.fld 0 (.s 13))⟩, ⟨none, none, (.st 1 (.s 42) (.s 41))⟩]) (.reg [⟨(some 43), none, (.ld (some 1) (.s 11))⟩, ⟨(some 44), none, (.ld (some 6) (.s 13))⟩, ⟨(some 45), none, (.call (.c (.fn (.func n_gazetteerref15_With) [] [])) [(.s 43), (.s 44)])⟩, ⟨none, none, (.st 1 (.s 11) (.s 45))⟩])) .skip)))) (.reg [⟨(some 20), none, (.mov (.s 12))⟩, ⟨(some 21), none, (.bin .add (.s 20) (.c (.int .i64 1)))⟩, ⟨(some 12), none, (.mov (.s 21))⟩])))))) (.seq (.reg [⟨(some 46), none, (.ld (some 1) (.s 11))⟩, ⟨none, none, (.st 1 (.s 10) (.s 46))⟩]) .ret))))
def F_gazetteerref15_Copied (P : Program) (a0 a1 a2 a3 a4 : V) (st : St) (K : V → St → Prop) : Prop :=
  @stp P (.box (.c a0)) st ⟨fun v5 st =>
  @stp P (.box (.c a3)) st ⟨fun v8 st =>
  @stp P (.alloc [(.sl .nil 0 [] [])]) st ⟨fun v10 st =>
  @stp P (.ld (some 1) (.c v5)) st ⟨fun v14 st =>
  @stp P (.alloc [(.sl .nil 0 [] [])]) st ⟨fun v11 st =>
  @stp P (.st 1 (.c v11) (.c v14)) st ⟨fun _v st =>
  @Hold ⟨∃ I1 : Nat → Rel 1, (∃ k, GhostV [(.int .i64 0)] st (app (I1 k))) ∧ ∀ k1 v12, ∀ st, app (I1 k1) [v12] st →
    @stp P (.fld 0 (.c v5)) st ⟨fun v16 st =>
    @stp P (.ld none (.c v16)) st ⟨fun v17 st =>
    @stp P (.len .sl (.c v17)) st ⟨fun v18 st =>
    @stp P (.bin .lss (.c v12) (.c v18)) st ⟨fun v19 st =>
    @cnd v19 ⟨
      @stp P (.fld 0 (.c v5)) st ⟨fun v22 st =>
      @stp P (.ld none (.c v22)) st ⟨fun v23 st =>
      @stp P (.idx 6 (.c v23) (.c v12)) st ⟨fun v25 st =>
      @stp P (.ld (some 6) (.c v25)) st ⟨fun v26 st =>
      @stp P (.alloc [(.int .u32 0), (.int .u64 0), (.int .i64 0), (.int .i64 0), (.int .i64 0), (.int .i64 0)]) st ⟨fun v13 st =>
      @stp P (.st 6 (.c v13) (.c v26)) st ⟨fun _v st =>
      @stp P (.fld 0 (.c v13)) st ⟨fun v27 st =>
      @stp P (.ld none (.c v27)) st ⟨fun v28 st =>
      @stp P (.bin .eql (.c v28) (.c a1)) st ⟨fun v30 st =>
      @gst P v30 true (.mov (.c a4)) st ⟨fun v32 st =>
      @gst P v30 true (.un .not (.c v32)) st ⟨fun v33 st =>
      @gst P v30 true (.mov (.c v33)) st ⟨fun v34 st =>
      @gst P v34 false (.fld 2 (.c v13)) st ⟨fun v35 st =>
      @gst P v34 false (.ld (some 4) (.c v35)) st ⟨fun v36 st =>
      @gst P v34 false (.ld (some 4) (.c v8)) st ⟨fun v37 st =>
      @gst P v34 false (.call (.c (.fn (.func n_gazetteerref09_Meets) [] [])) [(.c v36), (.c v37)]) st ⟨fun v38 st =>
      @gst P v30 true (.pick (.c v34) (.c (.bool true)) (.c v38)) st ⟨fun v39 st =>
      @stp P (.pick (.c v30) (.c v39) (.c (.bool false))) st ⟨fun v40 st =>
      @cnd v40 ⟨
        @stp P (.fld 0 (.c v13)) st ⟨fun v42 st =>
        @stp P (.st 1 (.c v42) (.c a2)) st ⟨fun _v st =>
        @stp P (.ld (some 1) (.c v11)) st ⟨fun v43 st =>
        @stp P (.ld (some 6) (.c v13)) st ⟨fun v44 st =>
        @stp P (.call (.c (.fn (.func n_gazetteerref15_With) [] [])) [(.c v43), (.c v44)]) st ⟨fun v45 st =>
        @stp P (.st 1 (.c v11) (.c v45)) st ⟨fun _v st =>
        @stp P (.bin .add (.c v12) (.c (.int .i64 1))) st ⟨fun v21 st =>
        ∃ j, j < k1 ∧ GhostV [v21] st (app (I1 j))⟩⟩⟩⟩⟩⟩⟩⟩
      ⟨
        @stp P (.bin .add (.c v12) (.c (.int .i64 1))) st ⟨fun v21 st =>
        ∃ j, j < k1 ∧ GhostV [v21] st (app (I1 j))⟩⟩⟩⟩⟩⟩⟩⟩⟩⟩⟩⟩⟩⟩⟩⟩⟩⟩⟩⟩⟩
    ⟨
      @stp P (.ld (some 1) (.c v11)) st ⟨fun v46 st =>
      @stp P (.st 1 (.c v10) (.c v46)) st ⟨fun _v st =>
      @ldr (some 1) v10 st ⟨fun r1 =>
      GhostV [r1] st fun vs st => K (mkres vs) st⟩⟩⟩⟩⟩⟩⟩⟩⟩⟩⟩⟩⟩⟩⟩
theorem q_gazetteerref15_Copied {P : Program} {a0 a1 a2 a3 a4 : V} {st : St} {K : V → St → Prop} : F_gazetteerref15_Copied P a0 a1 a2 a3 a4 st K = hwp P c_gazetteerref15_Copied (hretQ [.cell 10 (some 1)] K) (enterFr [a0, a1, a2, a3, a4]) st := by kernel_rfl
abbrev R_gazetteerref15_Copied (P : Program) : Prop := resFnH P n_gazetteerref15_Copied = some (47, c_gazetteerref15_Copied.er, [.cell 10 (some 1)])
theorem A_gazetteerref15_Copied {P : Program} (h : R_gazetteerref15_Copied P) {a0 a1 a2 a3 a4 : V} {st : St} {K : V → St → Prop} (hF : F_gazetteerref15_Copied P a0 a1 a2 a3 a4 st K) : ACalls P n_gazetteerref15_Copied [a0, a1, a2, a3, a4] st K :=
  ACalls_h h rfl (by simp) (q_gazetteerref15_Copied ▸ hF)

def c_slices_Equal_Pred_Pred : ACode := (.seq (.reg [⟨(some 4), none, (.mov (.c (.bool false)))⟩]) (.seq (.seq (.reg [⟨(some 6), none, (.mov (.s 0))⟩, ⟨(some 7), none, (.len .sl (.s 6))⟩, ⟨(some 8), none, (.mov (.s 1))⟩, ⟨(some 9), none, (.len .sl (.s 8))⟩, ⟨(some 10), none, (.bin .neq (.s 7) (.s 9))⟩]) (.cond (.s 10) (.seq (.reg [⟨(some 4), none, (.mov (.c (.bool false)))⟩]) .ret) .skip)) (.seq (.seq (.reg [⟨(some 11), none, (.mov (.s 0))⟩, ⟨(some 12), none, (.len .sl (.s 11))⟩, ⟨(some 13), none, (.mov (.c (.int .i64 0)))⟩]) (.block 0 (.loop [13] [4, 5, 13, 14, 15, 16, 17, 18, 19, 20, 21, 22, 23, 24, 25] (.seq (.reg [⟨(some 14), none, (.bin .lss (.s 13) (.s 12))⟩]) (.seq (.cond (.s 14) .skip (.exit 0)) (.seq (.block 1 (.seq (.reg [⟨(some 15), none, (.mov (.s 13))⟩, ⟨(some 5), none, (.mov (.s 15))⟩]) (.seq (.regD [⟨(some 16), none, (.mov (.s 0))⟩, ⟨(some 17), none, (.mov (.s 5))⟩, ⟨(some 18), none, (.idx 6 (.s 16) (.s 17))⟩, ⟨(some 19), none, (.ld (some 6) (.s 18))⟩, ⟨(some 20), none, (.mov (.s 1))⟩, ⟨(some 21), none, (.mov (.s 5))⟩, ⟨(some 22), none, (.idx 6 (.s 20) (.s 21))⟩, ⟨(some 23), none, (.ld (some 6) (.s 22))⟩, ⟨(some 24), none, (.eqs true (.flat [.int, .int, .int, .int, .int, .int]) (.s 19) (.s 23))⟩] [(0, (false, [])), (1, (false, [])), (2, (false, [])), (3, (false, [])), (4, (false, [])), (5, (false, [])), (6, (false, [])), (7, (false, [])), (8, (false, []))]) (.cond (.s 24) (.seq (.reg [⟨(some 4), none, (.mov (.c (.bool false)))⟩]) .ret) .skip)))) (.reg [⟨(some 25), none, (.bin .add (.s 13) (.c (.int .i64 1)))⟩, ⟨(some 13), none, (.mov (.s 25))⟩]))))))) (.seq (.reg [⟨(some 4), none, (.mov (.c (.bool true)))⟩]) .ret))))
def F_slices_Equal_Pred_Pred (P : Program) (a0 a1 : V) (st : St) (K : V → St → Prop) : Prop :=
  @stp P (.len .sl (.c a0)) st ⟨fun v7 st =>
  @stp P (.len .sl (.c a1)) st ⟨fun v9 st =>
  @stp P (.bin .neq (.c v7) (.c v9)) st ⟨fun v10 st =>
  @cnd v10 ⟨
    GhostV [(.bool false)] st fun vs st => K (mkres vs) st⟩
  ⟨
    @stp P (.len .sl (.c a0)) st ⟨fun v12 st =>
    @Hold ⟨∃ I1 : Nat → Rel 1, (∃ k, GhostV [(.int .i64 0)] st (app (I1 k))) ∧ ∀ k1 v13, ∀ st, app (I1 k1) [v13] st →
      @stp P (.bin .lss (.c v13) (.c v12)) st ⟨fun v14 st =>
      @cnd v14 ⟨
        @stpD P (.idx 6 (.c a0) (.c v13)) st ⟨fun v18 st =>
        @stpD P (.ld (some 6) (.c v18)) st ⟨fun v19 st =>
        @stpD P (.idx 6 (.c a1) (.c v13)) st ⟨fun v22 st =>
        @stpD P (.ld (some 6) (.c v22)) st ⟨fun v23 st =>
        @stpD P (.eqs true (.flat [.int, .int, .int, .int, .int, .int]) (.c v19) (.c v23)) st ⟨fun v24 st =>
        @cnd v24 ⟨
          GhostV [(.bool false)] st fun vs st => K (mkres vs) st⟩
        ⟨
          @stp P (.bin .add (.c v13) (.c (.int .i64 1))) st ⟨fun v25 st =>
          ∃ j, j < k1 ∧ GhostV [v25] st (app (I1 j))⟩⟩⟩⟩⟩⟩⟩⟩
      ⟨
        GhostV [(.bool true)] st fun vs st => K (mkres vs) st⟩⟩⟩⟩⟩⟩⟩⟩
theorem q_slices_Equal_Pred_Pred {P : Program} {a0 a1 : V} {st : St} {K : V → St → Prop} : F_slices_Equal_Pred_Pred P a0 a1 st K = hwp P c_slices_Equal_Pred_Pred (hretQ [.tmp 4] K) (enterFr [a0, a1]) st := by kernel_rfl
abbrev R_slices_Equal_Pred_Pred (P : Program) : Prop := resFnH P n_slices_Equal_Pred_Pred = some (26, c_slices_Equal_Pred_Pred.er, [.tmp 4])
theorem A_slices_Equal_Pred_Pred {P : Program} (h : R_slices_Equal_Pred_Pred P) {a0 a1 : V} {st : St} {K : V → St → Prop} (hF : F_slices_Equal_Pred_Pred P a0 a1 st K) : ACalls P n_slices_Equal_Pred_Pred [a0, a1] st K :=
  ACalls_h h rfl (by simp) (q_slices_Equal_Pred_Pred ▸ hF)

def c_pred_order : ACode := (.seq (.reg [⟨(some 2), none, (.box (.s 0))⟩, ⟨(some 3), none, (.box (.s 1))⟩, ⟨(some 4), none, (.mov (.c (.int .i64 0)))⟩]) (.seq (.regD [⟨(some 7), none, (.fld 2 (.s 2))⟩, ⟨(some 8), none, (.ld (some 4) (.s 7))⟩, ⟨(some 9), none, (.fld 2 (.s 3))⟩, ⟨(some 10), none, (.ld (some 4) (.s 9))⟩, ⟨(some 5), none, (.alloc [(.int .i64 0), (.int .i64 0), (.int .i64 0), (.int .i64 0)])⟩, ⟨(some 6), none, (.alloc [(.int .i64 0), (.int .i64 0), (.int .i64 0), (.int .i64 0)])⟩, ⟨none, none, (.st 4 (.s 5) (.s 8))⟩, ⟨none, none, (.st 4 (.s 6) (.s 10))⟩] [(0, (false, [])), (1, (false, [])), (2, (false, [])), (3, (false, [])), (4, (false, [])), (6, (false, [])), (5, (false, [])), (7, (false, []))]) (.seq (.regD [⟨(some 11), none, (.fld 0 (.s 2))⟩, ⟨(some 12), none, (.ld none (.s 11))⟩, ⟨(some 13), none, (.fld 0 (.s 3))⟩, ⟨(some 14), none, (.ld none (.s 13))⟩, ⟨(some 15), none, (.call (.c (.fn (.func n_cmp_Compare_uint32) [] [])) [(.s 12), (.s 14)])⟩, ⟨(some 16), none, (.fld 1 (.s 2))⟩, ⟨(some 17), none, (.ld none (.s 16))⟩, ⟨(some 18), none, (.fld 1 (.s 3))⟩, ⟨(some 19), none, (.ld none (.s 18))⟩, ⟨(some 20), none, (.call (.c (.fn (.func n_cmp_Compare_uint64) [] [])) [(.s 17), (.s 19)])⟩, ⟨(some 21), none, (.fld 0 (.s 5))⟩, ⟨(some 22), none, (.ld none (.s 21))⟩, ⟨(some 23), none, (.fld 0 (.s 6))⟩, ⟨(some 24), none, (.ld none (.s 23))⟩, ⟨(some 25), none, (.call (.c (.fn (.func n_cmp_Compare_int64) [] [])) [(.s 22), (.s 24)])⟩, ⟨(some 26), none, (.fld 1 (.s 5))⟩, ⟨(some 27), none, (.ld none (.s 26))⟩, ⟨(some 28), none, (.fld 1 (.s 6))⟩, ⟨(some 29), none, (.ld none (.s 28))⟩, ⟨(some 30), none, (.call (.c (.fn (.func n_cmp_Compare_int64) [] [])) [(.s 27), (.s 29)])⟩, ⟨(some 31), none, (.fld 2 (.s 5))⟩, ⟨(some 32), none, (.ld none (.s 31))⟩, ⟨(some 33), none, (.fld 2 (.s 6))⟩, ⟨(some 34), none, (.ld none (.s 33))⟩, ⟨(some 35), none, (.call (.c (.fn (.func n_cmp_Compare_int64) [] [])) [(.s 32), (.s 34)])⟩, ⟨(some 36), none, (.fld 3 (.s 5))⟩, ⟨(some 37), none, (.ld none (.s 36))⟩, ⟨(some 38), none, (.fld 3 (.s 6))⟩, ⟨(some 39), none, (.ld none (.s 38))⟩, ⟨(some 40), none, (.call (.c (.fn (.func n_cmp_Compare_int64) [] [])) [(.s 37), (.s 39)])⟩, ⟨(some 41), none, (.mkSl 1 6 [(.int .i64 0)] [(0, (.s 15)), (1, (.s 20)), (2, (.s 25)), (3, (.s 30)), (4, (.s 35)), (5, (.s 40))])⟩, ⟨(some 42), none, (.call (.c (.fn (.func n_cmp_Or_int) [] [])) [(.s 41)])⟩, ⟨(some 4), none, (.mov (.s 42))⟩] [(0, (false, [])), (1, (false, [])), (2, (false, [])), (3, (false, [])), (5, (false, [])), (6, (false, [])), (7, (false, [])), (8, (false, [])), (10, (false, [])), (11, (false, [])), (12, (false, [])), (13, (false, [])), (15, (false, [])), (16, (false, [])), (17, (false, [])), (18, (false, [])), (20, (false, [])), (21, (false, [])), (22, (false, [])), (23, (false, [])), (25, (false, [])), (26, (false, [])), (27, (false, [])), (28, (false, [])), (4, (true, [28, 27, 26, 25, 23, 22, 21, 20, 18, 17, 16, 15, 13, 12, 11, 10, 8, 7, 6, 5])), (9, (true, [28, 27, 26, 25, 23, 22, 21, 20, 18, 17, 16, 15, 13, 12, 11, 10])), (14, (true, [28, 27, 26, 25, 23, 22, 21, 20, 18, 17, 16, 15])), (19, (true, [28, 27, 26, 25, 23, 22, 21, 20])), (24, (true, [28, 27, 26, 25])), (29, (true, [])), (30, (true, [])), (31, (true, [])), (32, (false, []))]) .ret)))
def F_pred_order (P : Program) (a0 a1 : V) (st : St) (K : V → St → Prop) : Prop :=
  @stp P (.box (.c a0)) st ⟨fun v2 st =>
  @stp P (.box (.c a1)) st ⟨fun v3 st =>
  @stpD P (.fld 2 (.c v2)) st ⟨fun v7 st =>
  @stpD P (.ld (some 4) (.c v7)) st ⟨fun v8 st =>
  @stpD P (.fld 2 (.c v3)) st ⟨fun v9 st =>
  @stpD P (.ld (some 4) (.c v9)) st ⟨fun v10 st =>
  @stpD P (.alloc [(.int .i64 0), (.int .i64 0), (.int .i64 0), (.int .i64 0)]) st ⟨fun v5 st =>
  @stpD P (.st 4 (.c v5) (.c v8)) st ⟨fun _v st =>
  @stpD P (.alloc [(.int .i64 0), (.int .i64 0), (.int .i64 0), (.int .i64 0)]) st ⟨fun v6 st =>
  @stpD P (.st 4 (.c v6) (.c v10)) st ⟨fun _v st =>
  @stpD P (.fld 0 (.c v2)) st ⟨fun v11 st =>
  @stpD P (.ld none (.c v11)) st ⟨fun v12 st =>
  @stpD P (.fld 0 (.c v3)) st ⟨fun v13 st =>
  @stpD P (.ld none (.c v13)) st ⟨fun v14 st =>
  @stpD P (.fld 1 (.c v2)) st ⟨fun v16 st =>
  @stpD P (.ld none (.c v16)) st ⟨fun v17 st =>
  @stpD P (.fld 1 (.c v3)) st ⟨fun v18 st =>
  @stpD P (.ld none (.c v18)) st ⟨fun v19 st =>
  @stpD P (.fld 0 (.c v5)) st ⟨fun v21 st =>
  @stpD P (.ld none (.c v21)) st ⟨fun v22 st =>
  @stpD P (.fld 0 (.c v6)) st ⟨fun v23 st =>
  @stpD P (.ld none (.c v23)) st ⟨fun v24 st =>
  @stpD P (.fld 1 (.c v5)) st ⟨fun v26 st =>
  @stpD P (.ld none (.c v26)) st ⟨fun v27 st =>
  @stpD P (.fld 1 (.c v6)) st ⟨fun v28 st =>
  @stpD P (.ld none (.c v28)) st ⟨fun v29 st =>
  @stpD P (.fld 2 (.c v5)) st ⟨fun v31 st =>
  @stpD P (.ld none (.c v31)) st ⟨fun v32 st =>
  @stpD P (.fld 2 (.c v6)) st ⟨fun v33 st =>
  @stpD P (.ld none (.c v33)) st ⟨fun v34 st =>
  @stpD P (.fld 3 (.c v5)) st ⟨fun v36 st =>
  @stpD P (.ld none (.c v36)) st ⟨fun v37 st =>
  @stpD P (.fld 3 (.c v6)) st ⟨fun v38 st =>
  @stpD P (.ld none (.c v38)) st ⟨fun v39 st =>
  @stpD P (.call (.c (.fn (.func n_cmp_Compare_uint32) [] [])) [(.c v12), (.c v14)]) st ⟨fun v15 st =>
  hwat P none (.ld none (.c v38)) st v39 ∧ (
  hwat P none (.fld 3 (.c v6)) st v38 ∧ (
  hwat P none (.ld none (.c v36)) st v37 ∧ (
  hwat P none (.fld 3 (.c v5)) st v36 ∧ (
  hwat P none (.ld none (.c v33)) st v34 ∧ (
  hwat P none (.fld 2 (.c v6)) st v33 ∧ (
  hwat P none (.ld none (.c v31)) st v32 ∧ (
  hwat P none (.fld 2 (.c v5)) st v31 ∧ (
  hwat P none (.ld none (.c v28)) st v29 ∧ (
  hwat P none (.fld 1 (.c v6)) st v28 ∧ (
  hwat P none (.ld none (.c v26)) st v27 ∧ (
  hwat P none (.fld 1 (.c v5)) st v26 ∧ (
  hwat P none (.ld none (.c v23)) st v24 ∧ (
  hwat P none (.fld 0 (.c v6)) st v23 ∧ (
  hwat P none (.ld none (.c v21)) st v22 ∧ (
  hwat P none (.fld 0 (.c v5)) st v21 ∧ (
  hwat P none (.ld none (.c v18)) st v19 ∧ (
  hwat P none (.fld 1 (.c v3)) st v18 ∧ (
  hwat P none (.ld none (.c v16)) st v17 ∧ (
  hwat P none (.fld 1 (.c v2)) st v16 ∧ (
  @stpD P (.call (.c (.fn (.func n_cmp_Compare_uint64) [] [])) [(.c v17), (.c v19)]) st ⟨fun v20 st =>
  hwat P none (.ld none (.c v38)) st v39 ∧ (
  hwat P none (.fld 3 (.c v6)) st v38 ∧ (
  hwat P none (.ld none (.c v36)) st v37 ∧ (
  hwat P none (.fld 3 (.c v5)) st v36 ∧ (
  hwat P none (.ld none (.c v33)) st v34 ∧ (
  hwat P none (.fld 2 (.c v6)) st v33 ∧ (
  hwat P none (.ld none (.c v31)) st v32 ∧ (
  hwat P none (.fld 2 (.c v5)) st v31 ∧ (
  hwat P none (.ld none (.c v28)) st v29 ∧ (
  hwat P none (.fld 1 (.c v6)) st v28 ∧ (
  hwat P none (.ld none (.c v26)) st v27 ∧ (
  hwat P none (.fld 1 (.c v5)) st v26 ∧ (
  hwat P none (.ld none (.c v23)) st v24 ∧ (
  hwat P none (.fld 0 (.c v6)) st v23 ∧ (
  hwat P none (.ld none (.c v21)) st v22 ∧ (
  hwat P none (.fld 0 (.c v5)) st v21 ∧ (
  @stpD P (.call (.c (.fn (.func n_cmp_Compare_int64) [] [])) [(.c v22), (.c v24)]) st ⟨fun v25 st =>
  hwat P none (.ld none (.c v38)) st v39 ∧ (
  hwat P none (.fld 3 (.c v6)) st v38 ∧ (
  hwat P none (.ld none (.c v36)) st v37 ∧ (
  hwat P none (.fld 3 (.c v5)) st v36 ∧ (
  hwat P none (.ld none (.c v33)) st v34 ∧ (
  hwat P none (.fld 2 (.c v6)) st v33 ∧ (
  hwat P none (.ld none (.c v31)) st v32 ∧ (
  hwat P none (.fld 2 (.c v5)) st v31 ∧ (
  hwat P none (.ld none (.c v28)) st v29 ∧ (
  hwat P none (.fld 1 (.c v6)) st v28 ∧ (
  hwat P none (.ld none (.c v26)) st v27 ∧ (
  hwat P none (.fld 1 (.c v5)) st v26 ∧ (
  @stpD P (.call (.c (.fn (.func n_cmp_Compare_int64) [] [])) [(.c v27), (.c v29)]) st ⟨fun v30 st =>
  hwat P none (.ld none (.c v38)) st v39 ∧ (
  hwat P none (.fld 3 (.c v6)) st v38 ∧ (
  hwat P none (.ld none (.c v36)) st v37 ∧ (
  hwat P none (.fld 3 (.c v5)) st v36 ∧ (
  hwat P none (.ld none (.c v33)) st v34 ∧ (
  hwat P none (.fld 2 (.c v6)) st v33 ∧ (
  hwat P none (.ld none (.c v31)) st v32 ∧ (
  hwat P none (.fld 2 (.c v5)) st v31 ∧ (
  @stpD P (.call (.c (.fn (.func n_cmp_Compare_int64) [] [])) [(.c v32), (.c v34)]) st ⟨fun v35 st =>
  hwat P none (.ld none (.c v38)) st v39 ∧ (
  hwat P none (.fld 3 (.c v6)) st v38 ∧ (
  hwat P none (.ld none (.c v36)) st v37 ∧ (
  hwat P none (.fld 3 (.c v5)) st v36 ∧ (
  @stpD P (.call (.c (.fn (.func n_cmp_Compare_int64) [] [])) [(.c v37), (.c v39)]) st ⟨fun v40 st =>
  @stpD P (.mkSl 1 6 [(.int .i64 0)] [(0, (.c v15)), (1, (.c v20)), (2, (.c v25)), (3, (.c v30)), (4, (.c v35)), (5, (.c v40))]) st ⟨fun v41 st =>
  @stpD P (.call (.c (.fn (.func n_cmp_Or_int) [] [])) [(.c v41)]) st ⟨fun v42 st =>
  GhostV [v42] st fun vs st => K (mkres vs) st⟩⟩⟩))))⟩))))))))⟩))))))))))))⟩))))))))))))))))⟩))))))))))))))))))))⟩⟩⟩⟩⟩⟩⟩⟩⟩⟩⟩⟩⟩⟩⟩⟩⟩⟩⟩⟩⟩⟩⟩⟩⟩⟩⟩⟩⟩⟩⟩⟩⟩⟩⟩
theorem q_pred_order {P : Program} {a0 a1 : V} {st : St} {K : V → St → Prop} : F_pred_order P a0 a1 st K = hwp P c_pred_order (hretQ [.tmp 4] K) (enterFr [a0, a1]) st := by kernel_rfl
abbrev R_pred_order (P : Program) : Prop := resFnH P n_pred_order = some (43, c_pred_order.er, [.tmp 4])
theorem A_pred_order {P : Program} (h : R_pred_order P) {a0 a1 : V} {st : St} {K : V → St → Prop} (hF : F_pred_order P a0 a1 st K) : ACalls P n_pred_order [a0, a1] st K :=
  ACalls_h h rfl (by simp) (q_pred_order ▸ hF)

def c_pred_Gone_1 : ACode := (.seq (.regD [⟨(some 12), none, (.mov (.s 1))⟩, ⟨(some 13), none, (.nilchk (.s 12))⟩, ⟨(some 14), none, (.ld (some 1) (.s 13))⟩, ⟨(some 15), none, (.ld none (.s 2))⟩, ⟨(some 16), none, (.call (.c (.fn (.func n_pred_at) [] [])) [(.s 14), (.s 15)])⟩, ⟨(some 17), none, (.call (.c (.fn (.func n_slices_Collect_Pred) [] [])) [(.s 16)])⟩, ⟨(some 7), none, (.mov (.s 17))⟩] [(0, (false, [])), (1, (false, [])), (2, (false, [])), (3, (false, [])), (4, (true, [])), (5, (true, [])), (6, (false, []))]) (.seq (.seq (.reg [⟨(some 18), none, (.mov (.s 1))⟩, ⟨(some 19), none, (.nilchk (.s 18))⟩, ⟨(some 20), none, (.fld 0 (.s 19))⟩, ⟨(some 21), none, (.ld none (.s 20))⟩, ⟨(some 22), none, (.len .sl (.s 21))⟩, ⟨(some 23), none, (.mov (.c (.int .i64 0)))⟩]) (.block 0 (.loop [7, 23] [7, 9, 23, 24, 25, 26, 27, 28, 29, 30, 31, 32, 33, 34, 35, 36, 37, 38, 39, 40, 41, 42, 43, 44, 45, 46] (.seq (.reg [⟨(some 24), none, (.bin .lss (.s 23) (.s 22))⟩]) (.seq (.cond (.s 24) .skip (.exit 0)) (.seq (.block 1 (.seq (.reg [⟨(some 25), none, (.idx 6 (.s 21) (.s 23))⟩, ⟨(some 26), none, (.ld (some 6) (.s 25))⟩, ⟨(some 9), none, (.alloc [(.int .u32 0), (.int .u64 0), (.int .i64 0), (.int .i64 0), (.int .i64 0), (.int .i64 0)])⟩, ⟨none, none, (.st 6 (.s 9) (.s 26))⟩]) (.seq (.reg [⟨(some 27), none, (.ld none (.s 3))⟩, ⟨(some 28), none, (.ld none (.s 2))⟩, ⟨(some 29), none, (.bin .neq (.s 27) (.s 28))⟩, ⟨(some 30), none, (.mov (.s 29))⟩, ⟨(some 31), (some (30, true)), (.fld 0 (.s 9))⟩, ⟨(some 32), (some (30, true)), (.ld none (.s 31))⟩, ⟨(some 33), (some (30, true)), (.ld none (.s 2))⟩, ⟨(some 34), (some (30, true)), (.bin .neq (.s 32) (.s 33))⟩, ⟨(some 35), none, (.pick (.s 30) (.s 34) (.c (.bool false)))⟩, ⟨(some 36), none, (.mov (.s 35))⟩, ⟨(some 37), (some (36, true)), (.ld none (.s 4))⟩, ⟨(some 38), (some (36, true)), (.fld 0 (.s 9))⟩, ⟨(some 39), (some (36, true)), (.ld none (.s 38))⟩, ⟨(some 40), (some (36, true)), (.call (.c (.fn (.func n_slices_Contains_uint32_uint32) [] [])) [(.s 37), (.s 39)])⟩, ⟨(some 41), none, (.pick (.s 36) (.s 40) (.c (.bool false)))⟩]) (.cond (.s 41) (.reg [⟨(some 42), none, (.mov (.s 7))⟩, ⟨(some 43), none, (.ld (some 6) (.s 9))⟩, ⟨(some 44), none, (.mkSl 6 1 [(.int .u32 0), (.int .u64 0), (.int .i64 0), (.int .i64 0), (.int .i64 0), (.int .i64 0)] [(0, (.s 43))])⟩, ⟨(some 45), none, (.append 6 48 (.s 42) (.s 44))⟩, ⟨(some 7), none, (.mov (.s 45))⟩]) .skip)))) (.reg [⟨(some 46), none, (.bin .add (.s 23) (.c (.int .i64 1)))⟩, ⟨(some 23), none, (.mov (.s 46))⟩]))))))) (.seq (.reg [⟨(some 47), none, (.mov (.s 1))⟩, ⟨(some 48), none, (.mov (.s 1))⟩, ⟨(some 49), none, (.nilchk (.s 48))⟩, ⟨(some 50), none, (.fld 0 (.s 49))⟩, ⟨(some 51), none, (.ld none (.s 50))⟩, ⟨(some 52), none, (.mkfn (.func n_pred_Gone_1_1) [] [(.s 4)])⟩, ⟨(some 53), none, (.call (.c (.fn (.func n_slices_DeleteFunc_Pred_Pred) [] [])) [(.s 51), (.s 52)])⟩, ⟨(some 54), none, (.nilchk (.s 47))⟩, ⟨(some 55), none, (.fld 0 (.s 54))⟩, ⟨none, none, (.st 1 (.s 55) (.s 53))⟩]) (.seq (.reg [⟨(some 56), none, (.mov (.s 7))⟩, ⟨(some 57), none, (.len .sl (.s 56))⟩, ⟨(some 58), none, (.mov (.c (.int .i64 0)))⟩]) (.block 2 (.loop [58] [11, 58, 59, 60, 61, 62, 63, 64, 65, 66, 67] (.seq (.reg [⟨(some 59), none, (.bin .lss (.s 58) (.s 57))⟩]) (.seq (.cond (.s 59) .skip (.exit 2)) (.seq (.block 3 (.seq (.reg [⟨(some 60), none, (.idx 6 (.s 56) (.s 58))⟩, ⟨(some 61), none, (.ld (some 6) (.s 60))⟩, ⟨(some 11), none, (.alloc [(.int .u32 0), (.int .u64 0), (.int .i64 0), (.int .i64 0), (.int .i64 0), (.int .i64 0)])⟩, ⟨none, none, (.st 6 (.s 11) (.s 61))⟩]) (.seq (.reg [⟨(some 62), none, (.ld none (.s 3))⟩, ⟨(some 63), none, (.fld 0 (.s 11))⟩, ⟨none, none, (.st 1 (.s 63) (.s 62))⟩]) (.reg [⟨(some 64), none, (.mov (.s 0))⟩, ⟨(some 65), none, (.ld (some 6) (.s 11))⟩, ⟨(some 66), none, (.call (.s 64) [(.s 65)])⟩])))) (.reg [⟨(some 67), none, (.bin .add (.s 58) (.c (.int .i64 1)))⟩, ⟨(some 58), none, (.mov (.s 67))⟩]))))))))))
def F_pred_Gone_1 (P : Program) (a0 a1 a2 a3 a4 : V) (st : St) (K : V → St → Prop) : Prop :=
  @stpD P (.nilchk (.c a1)) st ⟨fun v13 st =>
  @stpD P (.ld (some 1) (.c v13)) st ⟨fun v14 st =>
  @stpD P (.ld none (.c a2)) st ⟨fun v15 st =>
  @stpD P (.call (.c (.fn (.func n_pred_at) [] [])) [(.c v14), (.c v15)]) st ⟨fun v16 st =>
  @stpD P (.call (.c (.fn (.func n_slices_Collect_Pred) [] [])) [(.c v16)]) st ⟨fun v17 st =>
  @stp P (.nilchk (.c a1)) st ⟨fun v19 st =>
  @stp P (.fld 0 (.c v19)) st ⟨fun v20 st =>
  @stp P (.ld none (.c v20)) st ⟨fun v21 st =>
  @stp P (.len .sl (.c v21)) st ⟨fun v22 st =>
  @Hold ⟨∃ I1 : Nat → Rel 2, (∃ k, GhostV [v17, (.int .i64 0)] st (app (I1 k))) ∧ ∀ k1 v7 v23, ∀ st, app (I1 k1) [v7, v23] st →
    @stp P (.bin .lss (.c v23) (.c v22)) st ⟨fun v24 st =>
    @cnd v24 ⟨
      @stp P (.idx 6 (.c v21) (.c v23)) st ⟨fun v25 st =>
      @stp P (.ld (some 6) (.c v25)) st ⟨fun v26 st =>
      @stp P (.alloc [(.int .u32 0), (.int .u64 0), (.int .i64 0), (.int .i64 0), (.int .i64 0), (.int .i64 0)]) st ⟨fun v9 st =>
      @stp P (.st 6 (.c v9) (.c v26)) st ⟨fun _v st =>
      @stp P (.ld none (.c a3)) st ⟨fun v27 st =>
      @stp P (.ld none (.c a2)) st ⟨fun v28 st =>
      @stp P (.bin .neq (.c v27) (.c v28)) st ⟨fun v29 st =>
      @gst P v29 true (.fld 0 (.c v9)) st ⟨fun v31 st =>
      @gst P v29 true (.ld none (.c v31)) st ⟨fun v32 st =>
      @gst P v29 true (.ld none (.c a2)) st ⟨fun v33 st =>
      @gst P v29 true (.bin .neq (.c v32) (.c v33)) st ⟨fun v34 st =>
      @stp P (.pick (.c v29) (.c v34) (.c (.bool false))) st ⟨fun v35 st =>
      @gst P v35 true (.ld none (.c a4)) st ⟨fun v37 st =>
      @gst P v35 true (.fld 0 (.c v9)) st ⟨fun v38 st =>
      @gst P v35 true (.ld none (.c v38)) st ⟨fun v39 st =>
      @gst P v35 true (.call (.c (.fn (.func n_slices_Contains_uint32_uint32) [] [])) [(.c v37), (.c v39)]) st ⟨fun v40 st =>
      @stp P (.pick (.c v35) (.c v40) (.c (.bool false))) st ⟨fun v41 st =>
      @cnd v41 ⟨
        @stp P (.ld (some 6) (.c v9)) st ⟨fun v43 st =>
        @stp P (.mkSl 6 1 [(.int .u32 0), (.int .u64 0), (.int .i64 0), (.int .i64 0), (.int .i64 0), (.int .i64 0)] [(0, (.c v43))]) st ⟨fun v44 st =>
        @stp P (.append 6 48 (.c v7) (.c v44)) st ⟨fun v45 st =>
        @stp P (.bin .add (.c v23) (.c (.int .i64 1))) st ⟨fun v46 st =>
        ∃ j, j < k1 ∧ GhostV [v45, v46] st (app (I1 j))⟩⟩⟩⟩⟩
      ⟨
        @stp P (.bin .add (.c v23) (.c (.int .i64 1))) st ⟨fun v46 st =>
        ∃ j, j < k1 ∧ GhostV [v7, v46] st (app (I1 j))⟩⟩⟩⟩⟩⟩⟩⟩⟩⟩⟩⟩⟩⟩⟩⟩⟩⟩⟩⟩
    ⟨
      @stp P (.nilchk (.c a1)) st ⟨fun v49 st =>
      @stp P (.fld 0 (.c v49)) st ⟨fun v50 st =>
      @stp P (.ld none (.c v50)) st ⟨fun v51 st =>
      @stp P (.mkfn (.func n_pred_Gone_1_1) [] [(.c a4)]) st ⟨fun v52 st =>
      @stp P (.call (.c (.fn (.func n_slices_DeleteFunc_Pred_Pred) [] [])) [(.c v51), (.c v52)]) st ⟨fun v53 st =>
      @stp P (.nilchk (.c a1)) st ⟨fun v54 st =>
      @stp P (.fld 0 (.c v54)) st ⟨fun v55 st =>
      @stp P (.st 1 (.c v55) (.c v53)) st ⟨fun _v st =>
      @stp P (.len .sl (.c v7)) st ⟨fun v57 st =>
      @Hold ⟨∃ I2 : Nat → Rel 1, (∃ k, GhostV [(.int .i64 0)] st (app (I2 k))) ∧ ∀ k2 v58, ∀ st, app (I2 k2) [v58] st →
        @stp P (.bin .lss (.c v58) (.c v57)) st ⟨fun v59 st =>
        @cnd v59 ⟨
          @stp P (.idx 6 (.c v7) (.c v58)) st ⟨fun v60 st =>
          @stp P (.ld (some 6) (.c v60)) st ⟨fun v61 st =>
          @stp P (.alloc [(.int .u32 0), (.int .u64 0), (.int .i64 0), (.int .i64 0), (.int .i64 0), (.int .i64 0)]) st ⟨fun v11 st =>
          @stp P (.st 6 (.c v11) (.c v61)) st ⟨fun _v st =>
          @stp P (.ld none (.c a3)) st ⟨fun v62 st =>
          @stp P (.fld 0 (.c v11)) st ⟨fun v63 st =>
          @stp P (.st 1 (.c v63) (.c v62)) st ⟨fun _v st =>
          @stp P (.ld (some 6) (.c v11)) st ⟨fun v65 st =>
          @stp P (.call (.c a0) [(.c v65)]) st ⟨fun v66 st =>
          @stp P (.bin .add (.c v58) (.c (.int .i64 1))) st ⟨fun v67 st =>
          ∃ j, j < k2 ∧ GhostV [v67] st (app (I2 j))⟩⟩⟩⟩⟩⟩⟩⟩⟩⟩⟩
        ⟨
          GhostV [] st fun vs st => K (mkres vs) st⟩⟩⟩⟩⟩⟩⟩⟩⟩⟩⟩⟩⟩⟩⟩⟩⟩⟩⟩⟩⟩⟩⟩⟩
theorem q_pred_Gone_1 {P : Program} {a0 a1 a2 a3 a4 : V} {st : St} {K : V → St → Prop} : F_pred_Gone_1 P a0 a1 a2 a3 a4 st K = hwp P c_pred_Gone_1 (hretQ [] K) (enterFr [a0, a1, a2, a3, a4]) st := by kernel_rfl
abbrev R_pred_Gone_1 (P : Program) : Prop := resFnH P n_pred_Gone_1 = some (68, c_pred_Gone_1.er, [])
theorem A_pred_Gone_1 {P : Program} (h : R_pred_Gone_1 P) {a0 a1 a2 a3 a4 : V} {st : St} {K : V → St → Prop} (hF : F_pred_Gone_1 P a0 a1 a2 a3 a4 st K) : ACalls P n_pred_Gone_1 [a0, a1, a2, a3, a4] st K :=
  ACalls_h h rfl (by simp) (q_pred_Gone_1 ▸ hF)

def c_pred_Gone_1_1 : ACode := (.seq (.reg [⟨(some 2), none, (.box (.s 0))⟩, ⟨(some 3), none, (.mov (.c (.bool false)))⟩]) (.seq (.reg [⟨(some 4), none, (.ld none (.s 1))⟩, ⟨(some 5), none, (.fld 0 (.s 2))⟩, ⟨(some 6), none, (.ld none (.s 5))⟩, ⟨(some 7), none, (.call (.c (.fn (.func n_slices_Contains_uint32_uint32) [] [])) [(.s 4), (.s 6)])⟩, ⟨(some 3), none, (.mov (.s 7))⟩]) .ret))
def F_pred_Gone_1_1 (P : Program) (a0 a1 : V) (st : St) (K : V → St → Prop) : Prop :=
  @stp P (.box (.c a0)) st ⟨fun v2 st =>
  @stp P (.ld none (.c a1)) st ⟨fun v4 st =>
  @stp P (.fld 0 (.c v2)) st ⟨fun v5 st =>
  @stp P (.ld none (.c v5)) st ⟨fun v6 st =>
  @stp P (.call (.c (.fn (.func n_slices_Contains_uint32_uint32) [] [])) [(.c v4), (.c v6)]) st ⟨fun v7 st =>
  GhostV [v7] st fun vs st => K (mkres vs) st⟩⟩⟩⟩⟩
theorem q_pred_Gone_1_1 {P : Program} {a0 a1 : V} {st : St} {K : V → St → Prop} : F_pred_Gone_1_1 P a0 a1 st K = hwp P c_pred_Gone_1_1 (hretQ [.tmp 3] K) (enterFr [a0, a1]) st := by kernel_rfl
abbrev R_pred_Gone_1_1 (P : Program) : Prop := resFnH P n_pred_Gone_1_1 = some (8, c_pred_Gone_1_1.er, [.tmp 3])
theorem A_pred_Gone_1_1 {P : Program} (h : R_pred_Gone_1_1 P) {a0 a1 : V} {st : St} {K : V → St → Prop} (hF : F_pred_Gone_1_1 P a0 a1 st K) : ACalls P n_pred_Gone_1_1 [a0, a1] st K :=
  ACalls_h h rfl (by simp) (q_pred_Gone_1_1 ▸ hF)

def c_key_Check : ACode := (.seq (.reg [⟨(some 3), none, (.box (.s 1))⟩, ⟨(some 4), none, (.mov (.c (.int .i64 0)))⟩]) (.seq (.reg [⟨(some 6), none, (.ld (some 4) (.s 3))⟩, ⟨(some 7), none, (.call (.c (.fn (.func n_key_box) [] [])) [(.s 6)])⟩, ⟨(some 5), none, (.mov (.s 7))⟩]) (.join [5] [5, 8, 9, 10, 11, 12, 13, 14, 15, 16, 17, 18, 19, 20, 21, 22, 23, 24, 25, 26, 27, 28, 29, 30, 31, 32, 33, 34, 35, 36, 37, 38, 39, 40] (.seq (.reg [⟨(some 8), none, (.mov (.s 0))⟩]) (.block 0 (.seq (.reg [⟨(some 10), none, (.bin .eql (.s 8) (.c (.int .i64 1)))⟩, ⟨(some 9), none, (.mov (.s 10))⟩]) (.cond (.s 9) .skip (.seq (.reg [⟨(some 12), none, (.bin .eql (.s 8) (.c (.int .i64 2)))⟩, ⟨(some 11), none, (.mov (.s 12))⟩]) (.cond (.s 11) (.reg [⟨(some 13), none, (.mov (.s 5))⟩, ⟨(some 14), none, (.mov (.s 13))⟩, ⟨(some 15), (some (14, true)), (.fld 2 (.s 3))⟩, ⟨(some 16), (some (14, true)), (.ld none (.s 15))⟩, ⟨(some 17), (some (14, true)), (.bin .eql (.s 16) (.c (.int .i64 0)))⟩, ⟨(some 18), none, (.pick (.s 14) (.s 17) (.c (.bool false)))⟩, ⟨(some 19), none, (.mov (.s 18))⟩, ⟨(some 20), (some (19, true)), (.fld 3 (.s 3))⟩, ⟨(some 21), (some (19, true)), (.ld none (.s 20))⟩, ⟨(some 22), (some (19, true)), (.bin .eql (.s 21) (.c (.int .i64 0)))⟩, ⟨(some 23), none, (.pick (.s 19) (.s 22) (.c (.bool false)))⟩, ⟨(some 5), none, (.mov (.s 23))⟩]) (.seq (.reg [⟨(some 25), none, (.bin .eql (.s 8) (.c (.int .i64 3)))⟩, ⟨(some 24), none, (.mov (.s 25))⟩]) (.cond (.s 24) (.reg [⟨(some 26), none, (.mov (.s 5))⟩, ⟨(some 27), none, (.mov (.s 26))⟩, ⟨(some 28), (some (27, true)), (.fld 0 (.s 3))⟩, ⟨(some 29), (some (27, true)), (.ld none (.s 28))⟩, ⟨(some 30), (some (27, true)), (.fld 1 (.s 3))⟩, ⟨(some 31), (some (27, true)), (.ld none (.s 30))⟩, ⟨(some 32), (some (27, true)), (.bin .eql (.s 29) (.s 31))⟩, ⟨(some 33), none, (.pick (.s 27) (.s 32) (.c (.bool false)))⟩, ⟨(some 34), none, (.mov (.s 33))⟩, ⟨(some 35), (some (34, true)), (.fld 2 (.s 3))⟩, ⟨(some 36), (some (34, true)), (.ld none (.s 35))⟩, ⟨(some 37), (some (34, true)), (.fld 3 (.s 3))⟩, ⟨(some 38), (some (34, true)), (.ld none (.s 37))⟩, ⟨(some 39), (some (34, true)), (.bin .eql (.s 36) (.s 38))⟩, ⟨(some 40), none, (.pick (.s 34) (.s 39) (.c (.bool false)))⟩, ⟨(some 5), none, (.mov (.s 40))⟩]) (.reg [⟨(some 5), none, (.mov (.c (.bool false)))⟩]))))))))) (.seq (.seq (.reg [⟨(some 41), none, (.mov (.s 5))⟩, ⟨(some 42), none, (.un .not (.s 41))⟩]) (.cond (.s 42) (.seq (.reg [⟨(some 4), none, (.mov (.c (.int .i64 2)))⟩]) .ret) .skip)) (.seq (.reg [⟨(some 4), none, (.mov (.c (.int .i64 0)))⟩]) .ret)))))
def F_key_Check (P : Program) (a0 a1 : V) (st : St) (K : V → St → Prop) : Prop :=
  @stp P (.box (.c a1)) st ⟨fun v3 st =>
  @stp P (.ld (some 4) (.c v3)) st ⟨fun v6 st =>
  @stp P (.call (.c (.fn (.func n_key_box) [] [])) [(.c v6)]) st ⟨fun v7 st =>
  @Hold ⟨∃ J1 : Rel 1, (
    @stp P (.bin .eql (.c a0) (.c (.int .i64 1))) st ⟨fun v10 st =>
    @cnd v10 ⟨
      GhostV [v7] st (app J1)⟩
    ⟨
      @stp P (.bin .eql (.c a0) (.c (.int .i64 2))) st ⟨fun v12 st =>
      @cnd v12 ⟨
        @gst P v7 true (.fld 2 (.c v3)) st ⟨fun v15 st =>
        @gst P v7 true (.ld none (.c v15)) st ⟨fun v16 st =>
        @gst P v7 true (.bin .eql (.c v16) (.c (.int .i64 0))) st ⟨fun v17 st =>
        @stp P (.pick (.c v7) (.c v17) (.c (.bool false))) st ⟨fun v18 st =>
        @gst P v18 true (.fld 3 (.c v3)) st ⟨fun v20 st =>
        @gst P v18 true (.ld none (.c v20)) st ⟨fun v21 st =>
        @gst P v18 true (.bin .eql (.c v21) (.c (.int .i64 0))) st ⟨fun v22 st =>
        @stp P (.pick (.c v18) (.c v22) (.c (.bool false))) st ⟨fun v23 st =>
        GhostV [v23] st (app J1)⟩⟩⟩⟩⟩⟩⟩⟩⟩
      ⟨
        @stp P (.bin .eql (.c a0) (.c (.int .i64 3))) st ⟨fun v25 st =>
        @cnd v25 ⟨
          @gst P v7 true (.fld 0 (.c v3)) st ⟨fun v28 st =>
          @gst P v7 true (.ld none (.c v28)) st ⟨fun v29 st =>
          @gst P v7 true (.fld 1 (.c v3)) st ⟨fun v30 st =>
          @gst P v7 true (.ld none (.c v30)) st ⟨fun v31 st =>
          @gst P v7 true (.bin .eql (.c v29) (.c v31)) st ⟨fun v32 st =>
          @stp P (.pick (.c v7) (.c v32) (.c (.bool false))) st ⟨fun v33 st =>
          @gst P v33 true (.fld 2 (.c v3)) st ⟨fun v35 st =>
          @gst P v33 true (.ld none (.c v35)) st ⟨fun v36 st =>
          @gst P v33 true (.fld 3 (.c v3)) st ⟨fun v37 st =>
          @gst P v33 true (.ld none (.c v37)) st ⟨fun v38 st =>
          @gst P v33 true (.bin .eql (.c v36) (.c v38)) st ⟨fun v39 st =>
          @stp P (.pick (.c v33) (.c v39) (.c (.bool false))) st ⟨fun v40 st =>
          GhostV [v40] st (app J1)⟩⟩⟩⟩⟩⟩⟩⟩⟩⟩⟩⟩⟩
        ⟨
          GhostV [(.bool false)] st (app J1)⟩⟩⟩⟩⟩⟩) ∧
  ∀ v5 st, app J1 [v5] st →
    @stp P (.un .not (.c v5)) st ⟨fun v42 st =>
    @cnd v42 ⟨
      GhostV [(.int .i64 2)] st fun vs st => K (mkres vs) st⟩
    ⟨
      GhostV [(.int .i64 0)] st fun vs st => K (mkres vs) st⟩⟩⟩⟩⟩⟩
theorem q_key_Check {P : Program} {a0 a1 : V} {st : St} {K : V → St → Prop} : F_key_Check P a0 a1 st K = hwp P c_key_Check (hretQ [.tmp 4] K) (enterFr [a0, a1]) st := by kernel_rfl
abbrev R_key_Check (P : Program) : Prop := resFnH P n_key_Check = some (43, c_key_Check.er, [.tmp 4])
theorem A_key_Check {P : Program} (h : R_key_Check P) {a0 a1 : V} {st : St} {K : V → St → Prop} (hF : F_key_Check P a0 a1 st K) : ACalls P n_key_Check [a0, a1] st K :=
  ACalls_h h rfl (by simp) (q_key_Check ▸ hF)

def c_pred_at_1 : ACode := (.seq (.reg [⟨(some 6), none, (.fld 0 (.s 1))⟩, ⟨(some 7), none, (.ld none (.s 6))⟩, ⟨(some 8), none, (.len .sl (.s 7))⟩, ⟨(some 9), none, (.mov (.c (.int .i64 0)))⟩]) (.block 0 (.loop [9] [5, 9, 10, 11, 12, 13, 14, 15, 16, 17, 18, 19, 20, 21, 22, 23] (.seq (.reg [⟨(some 10), none, (.bin .lss (.s 9) (.s 8))⟩]) (.seq (.cond (.s 10) .skip (.exit 0)) (.seq (.block 1 (.seq (.reg [⟨(some 11), none, (.idx 6 (.s 7) (.s 9))⟩, ⟨(some 12), none, (.ld (some 6) (.s 11))⟩, ⟨(some 5), none, (.alloc [(.int .u32 0), (.int .u64 0), (.int .i64 0), (.int .i64 0), (.int .i64 0), (.int .i64 0)])⟩, ⟨none, none, (.st 6 (.s 5) (.s 12))⟩]) (.seq (.reg [⟨(some 13), none, (.fld 0 (.s 5))⟩, ⟨(some 14), none, (.ld none (.s 13))⟩, ⟨(some 15), none, (.ld none (.s 2))⟩, ⟨(some 16), none, (.bin .eql (.s 14) (.s 15))⟩, ⟨(some 17), none, (.mov (.s 16))⟩, ⟨(some 18), (some (17, true)), (.mov (.s 0))⟩, ⟨(some 19), (some (17, true)), (.ld (some 6) (.s 5))⟩, ⟨(some 20), (some (17, true)), (.call (.s 18) [(.s 19)])⟩, ⟨(some 21), (some (17, true)), (.un .not (.s 20))⟩, ⟨(some 22), none, (.pick (.s 17) (.s 21) (.c (.bool false)))⟩]) (.cond (.s 22) .ret .skip)))) (.reg [⟨(some 23), none, (.bin .add (.s 9) (.c (.int .i64 1)))⟩, ⟨(some 9), none, (.mov (.s 23))⟩])))))))
def F_pred_at_1 (P : Program) (a0 a1 a2 : V) (st : St) (K : V → St → Prop) : Prop :=
  @stp P (.fld 0 (.c a1)) st ⟨fun v6 st =>
  @stp P (.ld none (.c v6)) st ⟨fun v7 st =>
  @stp P (.len .sl (.c v7)) st ⟨fun v8 st =>
  @Hold ⟨∃ I1 : Nat → Rel 1, (∃ k, GhostV [(.int .i64 0)] st (app (I1 k))) ∧ ∀ k1 v9, ∀ st, app (I1 k1) [v9] st →
    @stp P (.bin .lss (.c v9) (.c v8)) st ⟨fun v10 st =>
    @cnd v10 ⟨
      @stp P (.idx 6 (.c v7) (.c v9)) st ⟨fun v11 st =>
      @stp P (.ld (some 6) (.c v11)) st ⟨fun v12 st =>
      @stp P (.alloc [(.int .u32 0), (.int .u64 0), (.int .i64 0), (.int .i64 0), (.int .i64 0), (.int .i64 0)]) st ⟨fun v5 st =>
      @stp P (.st 6 (.c v5) (.c v12)) st ⟨fun _v st =>
      @stp P (.fld 0 (.c v5)) st ⟨fun v13 st =>
      @stp P (.ld none (.c v13)) st ⟨fun v14 st =>
      @stp P (.ld none (.c a2)) st ⟨fun v15 st =>
      @stp P (.bin .eql (.c v14) (.c v15)) st ⟨fun v16 st =>
      @gst P v16 true (.mov (.c a0)) st ⟨fun v18 st =>
      @gst P v16 true (.ld (some 6) (.c v5)) st ⟨fun v19 st =>
      @gst P v16 true (.call (.c v18) [(.c v19)]) st ⟨fun v20 st =>
      @gst P v16 true (.un .not (.c v20)) st ⟨fun v21 st =>
      @stp P (.pick (.c v16) (.c v21) (.c (.bool false))) st ⟨fun v22 st =>
      @cnd v22 ⟨
        GhostV [] st fun vs st => K (mkres vs) st⟩
      ⟨
        @stp P (.bin .add (.c v9) (.c (.int .i64 1))) st ⟨fun v23 st =>
        ∃ j, j < k1 ∧ GhostV [v23] st (app (I1 j))⟩⟩⟩⟩⟩⟩⟩⟩⟩⟩⟩⟩⟩⟩⟩⟩
    ⟨
      GhostV [] st fun vs st => K (mkres vs) st⟩⟩⟩⟩⟩⟩
theorem q_pred_at_1 {P : Program} {a0 a1 a2 : V} {st : St} {K : V → St → Prop} : F_pred_at_1 P a0 a1 a2 st K = hwp P c_pred_at_1 (hretQ [] K) (enterFr [a0, a1, a2]) st := by kernel_rfl
abbrev R_pred_at_1 (P : Program) : Prop := resFnH P n_pred_at_1 = some (24, c_pred_at_1.er, [])
theorem A_pred_at_1 {P : Program} (h : R_pred_at_1 P) {a0 a1 a2 : V} {st : St} {K : V → St → Prop} (hF : F_pred_at_1 P a0 a1 a2 st K) : ACalls P n_pred_at_1 [a0, a1, a2] st K :=
  ACalls_h h rfl (by simp) (q_pred_at_1 ▸ hF)

def c_key_box : ACode := (.seq (.reg [⟨(some 1), none, (.box (.s 0))⟩, ⟨(some 2), none, (.mov (.c (.bool false)))⟩]) (.seq (.reg [⟨(some 3), none, (.fld 0 (.s 1))⟩, ⟨(some 4), none, (.ld none (.s 3))⟩, ⟨(some 5), none, (.fld 1 (.s 1))⟩, ⟨(some 6), none, (.ld none (.s 5))⟩, ⟨(some 7), none, (.bin .leq (.s 4) (.s 6))⟩, ⟨(some 8), none, (.mov (.s 7))⟩, ⟨(some 9), (some (8, true)), (.fld 2 (.s 1))⟩, ⟨(some 10), (some (8, true)), (.ld none (.s 9))⟩, ⟨(some 11), (some (8, true)), (.fld 3 (.s 1))⟩, ⟨(some 12), (some (8, true)), (.ld none (.s 11))⟩, ⟨(some 13), (some (8, true)), (.bin .leq (.s 10) (.s 12))⟩, ⟨(some 14), none, (.pick (.s 8) (.s 13) (.c (.bool false)))⟩, ⟨(some 2), none, (.mov (.s 14))⟩]) .ret))
def F_key_box (P : Program) (a0 : V) (st : St) (K : V → St → Prop) : Prop :=
  @stp P (.box (.c a0)) st ⟨fun v1 st =>
  @stp P (.fld 0 (.c v1)) st ⟨fun v3 st =>
  @stp P (.ld none (.c v3)) st ⟨fun v4 st =>
  @stp P (.fld 1 (.c v1)) st ⟨fun v5 st =>
  @stp P (.ld none (.c v5)) st ⟨fun v6 st =>
  @stp P (.bin .leq (.c v4) (.c v6)) st ⟨fun v7 st =>
  @gst P v7 true (.fld 2 (.c v1)) st ⟨fun v9 st =>
  @gst P v7 true (.ld none (.c v9)) st ⟨fun v10 st =>
  @gst P v7 true (.fld 3 (.c v1)) st ⟨fun v11 st =>
  @gst P v7 true (.ld none (.c v11)) st ⟨fun v12 st =>
  @gst P v7 true (.bin .leq (.c v10) (.c v12)) st ⟨fun v13 st =>
  @stp P (.pick (.c v7) (.c v13) (.c (.bool false))) st ⟨fun v14 st =>
  GhostV [v14] st fun vs st => K (mkres vs) st⟩⟩⟩⟩⟩⟩⟩⟩⟩⟩⟩⟩
theorem q_key_box {P : Program} {a0 : V} {st : St} {K : V → St → Prop} : F_key_box P a0 st K = hwp P c_key_box (hretQ [.tmp 2] K) (enterFr [a0]) st := by kernel_rfl
abbrev R_key_box (P : Program) : Prop := resFnH P n_key_box = some (15, c_key_box.er, [.tmp 2])
theorem A_key_box {P : Program} (h : R_key_box P) {a0 : V} {st : St} {K : V → St → Prop} (hF : F_key_box P a0 st K) : ACalls P n_key_box [a0] st K :=
  ACalls_h h rfl (by simp) (q_key_box ▸ hF)

def c_gazetteerref09_inside : ACode := (.seq (.reg [⟨(some 6), none, (.mov (.c (.bool false)))⟩]) (.seq (.reg [⟨(some 7), none, (.mov (.s 0))⟩, ⟨(some 8), none, (.mov (.s 2))⟩, ⟨(some 9), none, (.bin .leq (.s 7) (.s 8))⟩, ⟨(some 10), none, (.mov (.s 9))⟩, ⟨(some 11), (some (10, true)), (.mov (.s 2))⟩, ⟨(some 12), (some (10, true)), (.mov (.s 1))⟩, ⟨(some 13), (some (10, true)), (.bin .leq (.s 11) (.s 12))⟩, ⟨(some 14), none, (.pick (.s 10) (.s 13) (.c (.bool false)))⟩, ⟨(some 6), none, (.mov (.s 14))⟩]) .ret))
def F_gazetteerref09_inside (P : Program) (a0 a1 a2 : V) (st : St) (K : V → St → Prop) : Prop :=
  @stp P (.bin .leq (.c a0) (.c a2)) st ⟨fun v9 st =>
  @gst P v9 true (.mov (.c a2)) st ⟨fun v11 st =>
  @gst P v9 true (.mov (.c a1)) st ⟨fun v12 st =>
  @gst P v9 true (.bin .leq (.c v11) (.c v12)) st ⟨fun v13 st =>
  @stp P (.pick (.c v9) (.c v13) (.c (.bool false))) st ⟨fun v14 st =>
  GhostV [v14] st fun vs st => K (mkres vs) st⟩⟩⟩⟩⟩
theorem q_gazetteerref09_inside {P : Program} {a0 a1 a2 : V} {st : St} {K : V → St → Prop} : F_gazetteerref09_inside P a0 a1 a2 st K = hwp P c_gazetteerref09_inside (hretQ [.tmp 6] K) (enterFr [a0, a1, a2]) st := by kernel_rfl
abbrev R_gazetteerref09_inside (P : Program) : Prop := resFnH P n_gazetteerref09_inside = some (15, c_gazetteerref09_inside.er, [.tmp 6])
theorem A_gazetteerref09_inside {P : Program} (h : R_gazetteerref09_inside P) {a0 a1 a2 : V} {st : St} {K : V → St → Prop} (hF : F_gazetteerref09_inside P a0 a1 a2 st K) : ACalls P n_gazetteerref09_inside [a0, a1, a2] st K :=
  ACalls_h h rfl (by simp) (q_gazetteerref09_inside ▸ hF)

def c_pred_change_1 : ACode := (.seq (.reg [⟨(some 2), none, (.box (.s 0))⟩]) (.seq (.reg [⟨(some 6), none, (.fld 0 (.s 1))⟩, ⟨(some 7), none, (.ld none (.s 6))⟩, ⟨(some 8), none, (.ld (some 6) (.s 2))⟩, ⟨(some 9), none, (.call (.c (.fn (.func n_slices_BinarySearchFunc_Pred_Pred_Pred) [] [])) [(.s 7), (.s 8), (.c (.fn (.func n_pred_order) [] []))])⟩, ⟨(some 5), none, (.mov (.s 9))⟩, ⟨(some 10), none, (.ext 0 (.s 5))⟩, ⟨(some 11), none, (.ext 1 (.s 5))⟩, ⟨(some 3), none, (.mov (.s 10))⟩, ⟨(some 4), none, (.mov (.s 11))⟩]) (.seq (.reg [⟨(some 12), none, (.mov (.s 4))⟩, ⟨(some 13), none, (.un .not (.s 12))⟩]) (.cond (.s 13) (.reg [⟨(some 14), none, (.fld 0 (.s 1))⟩, ⟨(some 15), none, (.ld none (.s 14))⟩, ⟨(some 16), none, (.mov (.s 3))⟩, ⟨(some 17), none, (.ld (some 6) (.s 2))⟩, ⟨(some 18), none, (.mkSl 6 1 [(.int .u32 0), (.int .u64 0), (.int .i64 0), (.int .i64 0), (.int .i64 0), (.int .i64 0)] [(0, (.s 17))])⟩, ⟨(some 19), none, (.call (.c (.fn (.func 107) [] [])) [(.s 15), (.s 16), (.s 18)])⟩, ⟨(some 20), none, (.fld 0 (.s 1))⟩, ⟨none, none, (.st 1 (.s 20) (.s 19))⟩]) .skip))))
def F_pred_change_1 (P : Program) (a0 a1 : V) (st : St) (K : V → St → Prop) : Prop :=
  @stp P (.box (.c a0)) st ⟨fun v2 st =>
  @stp P (.fld 0 (.c a1)) st ⟨fun v6 st =>
  @stp P (.ld none (.c v6)) st ⟨fun v7 st =>
  @stp P (.ld (some 6) (.c v2)) st ⟨fun v8 st =>
  @stp P (.call (.c (.fn (.func n_slices_BinarySearchFunc_Pred_Pred_Pred) [] [])) [(.c v7), (.c v8), (.c (.fn (.func n_pred_order) [] []))]) st ⟨fun v9 st =>
  @stp P (.ext 0 (.c v9)) st ⟨fun v10 st =>
  @stp P (.ext 1 (.c v9)) st ⟨fun v11 st =>
  @stp P (.un .not (.c v11)) st ⟨fun v13 st =>
  @cnd v13 ⟨
    @stp P (.fld 0 (.c a1)) st ⟨fun v14 st =>
    @stp P (.ld none (.c v14)) st ⟨fun v15 st =>
    @stp P (.ld (some 6) (.c v2)) st ⟨fun v17 st =>
    @stp P (.mkSl 6 1 [(.int .u32 0), (.int .u64 0), (.int .i64 0), (.int .i64 0), (.int .i64 0), (.int .i64 0)] [(0, (.c v17))]) st ⟨fun v18 st =>
    @stp P (.call (.c (.fn (.func 107) [] [])) [(.c v15), (.c v10), (.c v18)]) st ⟨fun v19 st =>
    @stp P (.fld 0 (.c a1)) st ⟨fun v20 st =>
    @stp P (.st 1 (.c v20) (.c v19)) st ⟨fun _v st =>
    GhostV [] st fun vs st => K (mkres vs) st⟩⟩⟩⟩⟩⟩⟩⟩
  ⟨
    GhostV [] st fun vs st => K (mkres vs) st⟩⟩⟩⟩⟩⟩⟩⟩⟩
theorem q_pred_change_1 {P : Program} {a0 a1 : V} {st : St} {K : V → St → Prop} : F_pred_change_1 P a0 a1 st K = hwp P c_pred_change_1 (hretQ [] K) (enterFr [a0, a1]) st := by kernel_rfl
abbrev R_pred_change_1 (P : Program) : Prop := resFnH P n_pred_change_1 = some (21, c_pred_change_1.er, [])
theorem A_pred_change_1 {P : Program} (h : R_pred_change_1 P) {a0 a1 : V} {st : St} {K : V → St → Prop} (hF : F_pred_change_1 P a0 a1 st K) : ACalls P n_pred_change_1 [a0, a1] st K :=
  ACalls_h h rfl (by simp) (q_pred_change_1 ▸ hF)

def c_slices_BinarySearchFunc_Pred_Pred_Pred : ACode := (.seq (.reg [⟨(some 4), none, (.box (.s 1))⟩, ⟨(some 6), none, (.mov (.c (.int .i64 0)))⟩, ⟨(some 7), none, (.mov (.c (.bool false)))⟩]) (.seq (.reg [⟨(some 12), none, (.mov (.s 0))⟩, ⟨(some 13), none, (.len .sl (.s 12))⟩, ⟨(some 8), none, (.mov (.s 13))⟩]) (.seq (.reg [⟨(some 14), none, (.mov (.s 8))⟩, ⟨(some 9), none, (.mov (.c (.int .i64 0)))⟩, ⟨(some 10), none, (.mov (.s 14))⟩]) (.seq (.block 0 (.loop [9, 10] [9, 10, 11, 15, 16, 17, 18, 19, 20, 21, 22, 23, 24, 25, 26, 27, 28, 29, 30, 31, 32, 33, 34] (.seq (.seq (.reg [⟨(some 15), none, (.mov (.s 9))⟩, ⟨(some 16), none, (.mov (.s 10))⟩, ⟨(some 17), none, (.bin .lss (.s 15) (.s 16))⟩]) (.cond (.s 17) .skip (.exit 0))) (.block 1 (.seq (.reg [⟨(some 18), none, (.mov (.s 9))⟩, ⟨(some 19), none, (.mov (.s 10))⟩, ⟨(some 20), none, (.bin .add (.s 18) (.s 19))⟩, ⟨(some 21), none, (.conv .u64 (.s 20))⟩, ⟨(some 22), none, (.bin .shr (.s 21) (.c (.int .u64 1)))⟩, ⟨(some 23), none, (.conv .i64 (.s 22))⟩, ⟨(some 11), none, (.mov (.s 23))⟩]) (.seq (.regD [⟨(some 24), none, (.mov (.s 2))⟩, ⟨(some 25), none, (.mov (.s 0))⟩, ⟨(some 26), none, (.mov (.s 11))⟩, ⟨(some 27), none, (.idx 6 (.s 25) (.s 26))⟩, ⟨(some 28), none, (.ld (some 6) (.s 27))⟩, ⟨(some 29), none, (.ld (some 6) (.s 4))⟩, ⟨(some 30), none, (.call (.s 24) [(.s 28), (.s 29)])⟩, ⟨(some 31), none, (.bin .lss (.s 30) (.c (.int .i64 0)))⟩] [(0, (false, [])), (1, (false, [])), (2, (false, [])), (3, (false, [])), (4, (false, [])), (5, (false, [])), (6, (true, [])), (7, (false, []))]) (.cond (.s 31) (.reg [⟨(some 32), none, (.mov (.s 11))⟩, ⟨(some 33), none, (.bin .add (.s 32) (.c (.int .i64 1)))⟩, ⟨(some 9), none, (.mov (.s 33))⟩]) (.reg [⟨(some 34), none, (.mov (.s 11))⟩, ⟨(some 10), none, (.mov (.s 34))⟩])))))))) (.seq (.regD [⟨(some 35), none, (.mov (.s 9))⟩, ⟨(some 36), none, (.mov (.s 9))⟩, ⟨(some 37), none, (.mov (.s 8))⟩, ⟨(some 38), none, (.bin .lss (.s 36) (.s 37))⟩, ⟨(some 39), none, (.mov (.s 38))⟩, ⟨(some 40), (some (39, true)), (.mov (.s 2))⟩, ⟨(some 41), (some (39, true)), (.mov (.s 0))⟩, ⟨(some 42), (some (39, true)), (.mov (.s 9))⟩, ⟨(some 43), (some (39, true)), (.idx 6 (.s 41) (.s 42))⟩, ⟨(some 44), (some (39, true)), (.ld (some 6) (.s 43))⟩, ⟨(some 45), (some (39, true)), (.ld (some 6) (.s 4))⟩, ⟨(some 46), (some (39, true)), (.call (.s 40) [(.s 44), (.s 45)])⟩, ⟨(some 47), (some (39, true)), (.bin .eql (.s 46) (.c (.int .i64 0)))⟩, ⟨(some 48), none, (.pick (.s 39) (.s 47) (.c (.bool false)))⟩, ⟨(some 6), none, (.mov (.s 35))⟩, ⟨(some 7), none, (.mov (.s 48))⟩] [(0, (false, [])), (1, (false, [])), (2, (false, [])), (3, (false, [])), (4, (false, [])), (5, (false, [])), (6, (false, [])), (7, (false, [])), (8, (false, [])), (9, (false, [])), (10, (false, [])), (11, (true, [0])), (12, (false, [])), (13, (false, [])), (14, (false, [])), (15, (false, []))]) .ret)))))
def F_slices_BinarySearchFunc_Pred_Pred_Pred (P : Program) (a0 a1 a2 : V) (st : St) (K : V → St → Prop) : Prop :=
  @stp P (.box (.c a1)) st ⟨fun v4 st =>
  @stp P (.len .sl (.c a0)) st ⟨fun v13 st =>
  @Hold ⟨∃ I1 : Nat → Rel 2, (∃ k, GhostV [(.int .i64 0), v13] st (app (I1 k))) ∧ ∀ k1 v9 v10, ∀ st, app (I1 k1) [v9, v10] st →
    @stp P (.bin .lss (.c v9) (.c v10)) st ⟨fun v17 st =>
    @cnd v17 ⟨
      @stp P (.bin .add (.c v9) (.c v10)) st ⟨fun v20 st =>
      @stp P (.conv .u64 (.c v20)) st ⟨fun v21 st =>
      @stp P (.bin .shr (.c v21) (.c (.int .u64 1))) st ⟨fun v22 st =>
      @stp P (.conv .i64 (.c v22)) st ⟨fun v23 st =>
      @stpD P (.idx 6 (.c a0) (.c v23)) st ⟨fun v27 st =>
      @stpD P (.ld (some 6) (.c v27)) st ⟨fun v28 st =>
      @stpD P (.ld (some 6) (.c v4)) st ⟨fun v29 st =>
      @stpD P (.call (.c a2) [(.c v28), (.c v29)]) st ⟨fun v30 st =>
      @stpD P (.bin .lss (.c v30) (.c (.int .i64 0))) st ⟨fun v31 st =>
      @cnd v31 ⟨
        @stp P (.bin .add (.c v23) (.c (.int .i64 1))) st ⟨fun v33 st =>
        ∃ j, j < k1 ∧ GhostV [v33, v10] st (app (I1 j))⟩⟩
      ⟨
        ∃ j, j < k1 ∧ GhostV [v9, v23] st (app (I1 j))⟩⟩⟩⟩⟩⟩⟩⟩⟩⟩⟩
    ⟨
      @stpD P (.bin .lss (.c v9) (.c v13)) st ⟨fun v38 st =>
      @gstD P v38 true (.mov (.c a2)) st ⟨fun v40 st =>
      @gstD P v38 true (.mov (.c a0)) st ⟨fun v41 st =>
      @gstD P v38 true (.mov (.c v9)) st ⟨fun v42 st =>
      @gstD P v38 true (.idx 6 (.c v41) (.c v42)) st ⟨fun v43 st =>
      @gstD P v38 true (.ld (some 6) (.c v43)) st ⟨fun v44 st =>
      @gstD P v38 true (.ld (some 6) (.c v4)) st ⟨fun v45 st =>
      @gstD P v38 true (.call (.c v40) [(.c v44), (.c v45)]) st ⟨fun v46 st =>
      hwat P none (.mov (.c v9)) st v9 ∧ (
      @gstD P v38 true (.bin .eql (.c v46) (.c (.int .i64 0))) st ⟨fun v47 st =>
      @stpD P (.pick (.c v38) (.c v47) (.c (.bool false))) st ⟨fun v48 st =>
      GhostV [v9, v48] st fun vs st => K (mkres vs) st⟩⟩)⟩⟩⟩⟩⟩⟩⟩⟩⟩⟩⟩⟩⟩
theorem q_slices_BinarySearchFunc_Pred_Pred_Pred {P : Program} {a0 a1 a2 : V} {st : St} {K : V → St → Prop} : F_slices_BinarySearchFunc_Pred_Pred_Pred P a0 a1 a2 st K = hwp P c_slices_BinarySearchFunc_Pred_Pred_Pred (hretQ [.tmp 6, .tmp 7] K) (enterFr [a0, a1, a2]) st := by kernel_rfl
abbrev R_slices_BinarySearchFunc_Pred_Pred_Pred (P : Program) : Prop := resFnH P n_slices_BinarySearchFunc_Pred_Pred_Pred = some (49, c_slices_BinarySearchFunc_Pred_Pred_Pred.er, [.tmp 6, .tmp 7])
theorem A_slices_BinarySearchFunc_Pred_Pred_Pred {P : Program} (h : R_slices_BinarySearchFunc_Pred_Pred_Pred P) {a0 a1 a2 : V} {st : St} {K : V → St → Prop} (hF : F_slices_BinarySearchFunc_Pred_Pred_Pred P a0 a1 a2 st K) : ACalls P n_slices_BinarySearchFunc_Pred_Pred_Pred [a0, a1, a2] st K :=
  ACalls_h h rfl (by simp) (q_slices_BinarySearchFunc_Pred_Pred_Pred ▸ hF)

def c_slices_IndexFunc_Split_Split : ACode := (.seq (.reg [⟨(some 4), none, (.mov (.c (.int .i64 0)))⟩]) (.seq (.seq (.reg [⟨(some 6), none, (.mov (.s 0))⟩, ⟨(some 7), none, (.len .sl (.s 6))⟩, ⟨(some 8), none, (.mov (.c (.int .i64 0)))⟩]) (.block 0 (.loop [8] [4, 5, 8, 9, 10, 11, 12, 13, 14, 15, 16, 17, 18] (.seq (.reg [⟨(some 9), none, (.bin .lss (.s 8) (.s 7))⟩]) (.seq (.cond (.s 9) .skip (.exit 0)) (.seq (.block 1 (.seq (.reg [⟨(some 10), none, (.mov (.s 8))⟩, ⟨(some 5), none, (.mov (.s 10))⟩]) (.seq (.reg [⟨(some 11), none, (.mov (.s 1))⟩, ⟨(some 12), none, (.mov (.s 0))⟩, ⟨(some 13), none, (.mov (.s 5))⟩, ⟨(some 14), none, (.idx 3 (.s 12) (.s 13))⟩, ⟨(some 15), none, (.ld (some 3) (.s 14))⟩, ⟨(some 16), none, (.call (.s 11) [(.s 15)])⟩]) (.cond (.s 16) (.seq (.reg [⟨(some 17), none, (.mov (.s 5))⟩, ⟨(some 4), none, (.mov (.s 17))⟩]) .ret) .skip)))) (.reg [⟨(some 18), none, (.bin .add (.s 8) (.c (.int .i64 1)))⟩, ⟨(some 8), none, (.mov (.s 18))⟩]))))))) (.seq (.reg [⟨(some 4), none, (.mov (.c (.int .i64 (-1))))⟩]) .ret)))
def F_slices_IndexFunc_Split_Split (P : Program) (a0 a1 : V) (st : St) (K : V → St → Prop) : Prop :=
  @stp P (.len .sl (.c a0)) st ⟨fun v7 st =>
  @Hold ⟨∃ I1 : Nat → Rel 1, (∃ k, GhostV [(.int .i64 0)] st (app (I1 k))) ∧ ∀ k1 v8, ∀ st, app (I1 k1) [v8] st →
    @stp P (.bin .lss (.c v8) (.c v7)) st ⟨fun v9 st =>
    @cnd v9 ⟨
      @stp P (.idx 3 (.c a0) (.c v8)) st ⟨fun v14 st =>
      @stp P (.ld (some 3) (.c v14)) st ⟨fun v15 st =>
      @stp P (.call (.c a1) [(.c v15)]) st ⟨fun v16 st =>
      @cnd v16 ⟨
        GhostV [v8] st fun vs st => K (mkres vs) st⟩
      ⟨
        @stp P (.bin .add (.c v8) (.c (.int .i64 1))) st ⟨fun v18 st =>
        ∃ j, j < k1 ∧ GhostV [v18] st (app (I1 j))⟩⟩⟩⟩⟩⟩
    ⟨
      GhostV [(.int .i64 (-1))] st fun vs st => K (mkres vs) st⟩⟩⟩⟩
theorem q_slices_IndexFunc_Split_Split {P : Program} {a0 a1 : V} {st : St} {K : V → St → Prop} : F_slices_IndexFunc_Split_Split P a0 a1 st K = hwp P c_slices_IndexFunc_Split_Split (hretQ [.tmp 4] K) (enterFr [a0, a1]) st := by kernel_rfl
abbrev R_slices_IndexFunc_Split_Split (P : Program) : Prop := resFnH P n_slices_IndexFunc_Split_Split = some (19, c_slices_IndexFunc_Split_Split.er, [.tmp 4])
theorem A_slices_IndexFunc_Split_Split {P : Program} (h : R_slices_IndexFunc_Split_Split P) {a0 a1 : V} {st : St} {K : V → St → Prop} (hF : F_slices_IndexFunc_Split_Split P a0 a1 st K) : ACalls P n_slices_IndexFunc_Split_Split [a0, a1] st K :=
  ACalls_h h rfl (by simp) (q_slices_IndexFunc_Split_Split ▸ hF)

def c_slices_AppendSeq_Pred_Pred : ACode := (.seq (.reg [⟨(some 2), none, (.box (.s 0))⟩, ⟨(some 4), none, (.mov (.c (.sl .nil 0 [] [])))⟩]) (.seq (.seq (.reg [⟨(some 6), none, (.mov (.s 1))⟩]) (.block 0 (.rfunc (.s 6) [7] (.reg [⟨(some 5), none, (.alloc [(.int .u32 0), (.int .u64 0), (.int .i64 0), (.int .i64 0), (.int .i64 0), (.int .i64 0)])⟩, ⟨none, none, (.st 6 (.s 5) (.s 7))⟩]) (.block 1 (.reg [⟨(some 8), none, (.ld none (.s 2))⟩, ⟨(some 9), none, (.ld (some 6) (.s 5))⟩, ⟨(some 10), none, (.mkSl 6 1 [(.int .u32 0), (.int .u64 0), (.int .i64 0), (.int .i64 0), (.int .i64 0), (.int .i64 0)] [(0, (.s 9))])⟩, ⟨(some 11), none, (.append 6 48 (.s 8) (.s 10))⟩, ⟨none, none, (.st 1 (.s 2) (.s 11))⟩]))))) (.seq (.reg [⟨(some 12), none, (.ld none (.s 2))⟩, ⟨(some 4), none, (.mov (.s 12))⟩]) .ret)))
def F_slices_AppendSeq_Pred_Pred (P : Program) (a0 a1 : V) (st : St) (K : V → St → Prop) : Prop :=
  @stp P (.box (.c a0)) st ⟨fun v2 st =>
  @Hold ⟨(fun s1 : St => ∀ LP1 : LSt → Obj,
    (∀ (st : St) (K : V → St → Prop) (v7 : V), st.get s1.objs.length s1.nv = some (LP1 .ready) → (
      @stp P (.alloc [(.int .u32 0), (.int .u64 0), (.int .i64 0), (.int .i64 0), (.int .i64 0), (.int .i64 0)]) st ⟨fun v5 st =>
      @stp P (.st 6 (.c v5) (.c v7)) st ⟨fun _v st =>
      st.get s1.objs.length s1.nv = some (LP1 .ready) ∧ (fun st : St =>
        @stp P (.ld none (.c v2)) st ⟨fun v8 st =>
        @stp P (.ld (some 6) (.c v5)) st ⟨fun v9 st =>
        @stp P (.mkSl 6 1 [(.int .u32 0), (.int .u64 0), (.int .i64 0), (.int .i64 0), (.int .i64 0), (.int .i64 0)] [(0, (.c v9))]) st ⟨fun v10 st =>
        @stp P (.append 6 48 (.c v8) (.c v10)) st ⟨fun v11 st =>
        @stp P (.st 1 (.c v2) (.c v11)) st ⟨fun _v st =>
        st.get s1.objs.length s1.nv = some (LP1 .busy) ∧ K (.bool true) (st.setO s1.objs.length s1.nv (LP1 .ready))⟩⟩⟩⟩⟩) (st.setO s1.objs.length s1.nv (LP1 .busy))⟩⟩) →
    AInv P (.yld s1.objs.length s1.nv) [v7] st K) →
    AInvE P a1 [.yld s1.objs.length s1.nv] (s1.push (LP1 .ready)) fun _ st => ∃ s, st.get s1.objs.length s1.nv = some (LP1 s) ∧ (fun st : St => hend s (
      @stp P (.ld none (.c v2)) st ⟨fun v12 st =>
      GhostV [v12] st fun vs st => K (mkres vs) st⟩)
    (
      GhostV [(.sl .nil 0 [] [])] st fun vs st => K (mkres vs) st)
    (fun id : Nat =>       (if id = 0 then
        @stp P (.ld none (.c v2)) st ⟨fun v12 st =>
        GhostV [v12] st fun vs st => K (mkres vs) st⟩
      else
        False))) (st.gone s1.objs.length)) st⟩⟩
theorem q_slices_AppendSeq_Pred_Pred {P : Program} {a0 a1 : V} {st : St} {K : V → St → Prop} : F_slices_AppendSeq_Pred_Pred P a0 a1 st K = hwp P c_slices_AppendSeq_Pred_Pred (hretQ [.tmp 4] K) (enterFr [a0, a1]) st := by kernel_rfl
abbrev R_slices_AppendSeq_Pred_Pred (P : Program) : Prop := resFnH P n_slices_AppendSeq_Pred_Pred = some (13, c_slices_AppendSeq_Pred_Pred.er, [.tmp 4])
theorem A_slices_AppendSeq_Pred_Pred {P : Program} (h : R_slices_AppendSeq_Pred_Pred P) {a0 a1 : V} {st : St} {K : V → St → Prop} (hF : F_slices_AppendSeq_Pred_Pred P a0 a1 st K) : ACalls P n_slices_AppendSeq_Pred_Pred [a0, a1] st K :=
  ACalls_h h rfl (by simp) (q_slices_AppendSeq_Pred_Pred ▸ hF)

def c_slices_IndexFunc_Pred_Pred : ACode := (.seq (.reg [⟨(some 4), none, (.mov (.c (.int .i64 0)))⟩]) (.seq (.seq (.reg [⟨(some 6), none, (.mov (.s 0))⟩, ⟨(some 7), none, (.len .sl (.s 6))⟩, ⟨(some 8), none, (.mov (.c (.int .i64 0)))⟩]) (.block 0 (.loop [8] [4, 5, 8, 9, 10, 11, 12, 13, 14, 15, 16, 17, 18] (.seq (.reg [⟨(some 9), none, (.bin .lss (.s 8) (.s 7))⟩]) (.seq (.cond (.s 9) .skip (.exit 0)) (.seq (.block 1 (.seq (.reg [⟨(some 10), none, (.mov (.s 8))⟩, ⟨(some 5), none, (.mov (.s 10))⟩]) (.seq (.reg [⟨(some 11), none, (.mov (.s 1))⟩, ⟨(some 12), none, (.mov (.s 0))⟩, ⟨(some 13), none, (.mov (.s 5))⟩, ⟨(some 14), none, (.idx 6 (.s 12) (.s 13))⟩, ⟨(some 15), none, (.ld (some 6) (.s 14))⟩, ⟨(some 16), none, (.call (.s 11) [(.s 15)])⟩]) (.cond (.s 16) (.seq (.reg [⟨(some 17), none, (.mov (.s 5))⟩, ⟨(some 4), none, (.mov (.s 17))⟩]) .ret) .skip)))) (.reg [⟨(some 18), none, (.bin .add (.s 8) (.c (.int .i64 1)))⟩, ⟨(some 8), none, (.mov (.s 18))⟩]))))))) (.seq (.reg [⟨(some 4), none, (.mov (.c (.int .i64 (-1))))⟩]) .ret)))
def F_slices_IndexFunc_Pred_Pred (P : Program) (a0 a1 : V) (st : St) (K : V → St → Prop) : Prop :=
  @stp P (.len .sl (.c a0)) st ⟨fun v7 st =>
  @Hold ⟨∃ I1 : Nat → Rel 1, (∃ k, GhostV [(.int .i64 0)] st (app (I1 k))) ∧ ∀ k1 v8, ∀ st, app (I1 k1) [v8] st →
    @stp P (.bin .lss (.c v8) (.c v7)) st ⟨fun v9 st =>
    @cnd v9 ⟨
      @stp P (.idx 6 (.c a0) (.c v8)) st ⟨fun v14 st =>
      @stp P (.ld (some 6) (.c v14)) st ⟨fun v15 st =>
      @stp P (.call (.c a1) [(.c v15)]) st ⟨fun v16 st =>
      @cnd v16 ⟨
        GhostV [v8] st fun vs st => K (mkres vs) st⟩
      ⟨
        @stp P (.bin .add (.c v8) (.c (.int .i64 1))) st ⟨fun v18 st =>
        ∃ j, j < k1 ∧ GhostV [v18] st (app (I1 j))⟩⟩⟩⟩⟩⟩
    ⟨
      GhostV [(.int .i64 (-1))] st fun vs st => K (mkres vs) st⟩⟩⟩⟩
theorem q_slices_IndexFunc_Pred_Pred {P : Program} {a0 a1 : V} {st : St} {K : V → St → Prop} : F_slices_IndexFunc_Pred_Pred P a0 a1 st K = hwp P c_slices_IndexFunc_Pred_Pred (hretQ [.tmp 4] K) (enterFr [a0, a1]) st := by kernel_rfl
abbrev R_slices_IndexFunc_Pred_Pred (P : Program) : Prop := resFnH P n_slices_IndexFunc_Pred_Pred = some (19, c_slices_IndexFunc_Pred_Pred.er, [.tmp 4])
theorem A_slices_IndexFunc_Pred_Pred {P : Program} (h : R_slices_IndexFunc_Pred_Pred P) {a0 a1 : V} {st : St} {K : V → St → Prop} (hF : F_slices_IndexFunc_Pred_Pred P a0 a1 st K) : ACalls P n_slices_IndexFunc_Pred_Pred [a0, a1] st K :=
  ACalls_h h rfl (by simp) (q_slices_IndexFunc_Pred_Pred ▸ hF)

def c_slices_Index_uint32_uint32 : ACode := (.seq (.reg [⟨(some 4), none, (.mov (.c (.int .i64 0)))⟩]) (.seq (.seq (.reg [⟨(some 6), none, (.mov (.s 0))⟩, ⟨(some 7), none, (.len .sl (.s 6))⟩, ⟨(some 8), none, (.mov (.c (.int .i64 0)))⟩]) (.block 0 (.loop [8] [4, 5, 8, 9, 10, 11, 12, 13, 14, 15, 16, 17, 18] (.seq (.reg [⟨(some 9), none, (.bin .lss (.s 8) (.s 7))⟩]) (.seq (.cond (.s 9) .skip (.exit 0)) (.seq (.block 1 (.seq (.reg [⟨(some 10), none, (.mov (.s 8))⟩, ⟨(some 5), none, (.mov (.s 10))⟩]) (.seq (.reg [⟨(some 11), none, (.mov (.s 1))⟩, ⟨(some 12), none, (.mov (.s 0))⟩, ⟨(some 13), none, (.mov (.s 5))⟩, ⟨(some 14), none, (.idx 1 (.s 12) (.s 13))⟩, ⟨(some 15), none, (.ld none (.s 14))⟩, ⟨(some 16), none, (.bin .eql (.s 11) (.s 15))⟩]) (.cond (.s 16) (.seq (.reg [⟨(some 17), none, (.mov (.s 5))⟩, ⟨(some 4), none, (.mov (.s 17))⟩]) .ret) .skip)))) (.reg [⟨(some 18), none, (.bin .add (.s 8) (.c (.int .i64 1)))⟩, ⟨(some 8), none, (.mov (.s 18))⟩]))))))) (.seq (.reg [⟨(some 4), none, (.mov (.c (.int .i64 (-1))))⟩]) .ret)))
def F_slices_Index_uint32_uint32 (P : Program) (a0 a1 : V) (st : St) (K : V → St → Prop) : Prop :=
  @stp P (.len .sl (.c a0)) st ⟨fun v7 st =>
  @Hold ⟨∃ I1 : Nat → Rel 1, (∃ k, GhostV [(.int .i64 0)] st (app (I1 k))) ∧ ∀ k1 v8, ∀ st, app (I1 k1) [v8] st →
    @stp P (.bin .lss (.c v8) (.c v7)) st ⟨fun v9 st =>
    @cnd v9 ⟨
      @stp P (.idx 1 (.c a0) (.c v8)) st ⟨fun v14 st =>
      @stp P (.ld none (.c v14)) st ⟨fun v15 st =>
      @stp P (.bin .eql (.c a1) (.c v15)) st ⟨fun v16 st =>
      @cnd v16 ⟨
        GhostV [v8] st fun vs st => K (mkres vs) st⟩
      ⟨
        @stp P (.bin .add (.c v8) (.c (.int .i64 1))) st ⟨fun v18 st =>
        ∃ j, j < k1 ∧ GhostV [v18] st (app (I1 j))⟩⟩⟩⟩⟩⟩
    ⟨
      GhostV [(.int .i64 (-1))] st fun vs st => K (mkres vs) st⟩⟩⟩⟩
theorem q_slices_Index_uint32_uint32 {P : Program} {a0 a1 : V} {st : St} {K : V → St → Prop} : F_slices_Index_uint32_uint32 P a0 a1 st K = hwp P c_slices_Index_uint32_uint32 (hretQ [.tmp 4] K) (enterFr [a0, a1]) st := by kernel_rfl
abbrev R_slices_Index_uint32_uint32 (P : Program) : Prop := resFnH P n_slices_Index_uint32_uint32 = some (19, c_slices_Index_uint32_uint32.er, [.tmp 4])
theorem A_slices_Index_uint32_uint32 {P : Program} (h : R_slices_Index_uint32_uint32 P) {a0 a1 : V} {st : St} {K : V → St → Prop} (hF : F_slices_Index_uint32_uint32 P a0 a1 st K) : ACalls P n_slices_Index_uint32_uint32 [a0, a1] st K :=
  ACalls_h h rfl (by simp) (q_slices_Index_uint32_uint32 ▸ hF)

def c_cmp_Or_int : ACode := (.seq (.reg [⟨(some 2), none, (.mov (.c (.int .i64 0)))⟩]) (.seq (.reg [⟨(some 3), none, (.mov (.c (.int .i64 0)))⟩]) (.seq (.seq (.reg [⟨(some 6), none, (.mov (.s 0))⟩, ⟨(some 7), none, (.len .sl (.s 6))⟩, ⟨(some 8), none, (.mov (.c (.int .i64 0)))⟩]) (.block 0 (.loop [8] [2, 5, 8, 9, 10, 11, 12, 13, 14, 15, 16] (.seq (.reg [⟨(some 9), none, (.bin .lss (.s 8) (.s 7))⟩]) (.seq (.cond (.s 9) .skip (.exit 0)) (.seq (.block 1 (.seq (.reg [⟨(some 10), none, (.idx 1 (.s 6) (.s 8))⟩, ⟨(some 11), none, (.ld none (.s 10))⟩, ⟨(some 5), none, (.mov (.s 11))⟩]) (.seq (.reg [⟨(some 12), none, (.mov (.s 5))⟩, ⟨(some 13), none, (.mov (.s 3))⟩, ⟨(some 14), none, (.bin .neq (.s 12) (.s 13))⟩]) (.cond (.s 14) (.seq (.reg [⟨(some 15), none, (.mov (.s 5))⟩, ⟨(some 2), none, (.mov (.s 15))⟩]) .ret) .skip)))) (.reg [⟨(some 16), none, (.bin .add (.s 8) (.c (.int .i64 1)))⟩, ⟨(some 8), none, (.mov (.s 16))⟩]))))))) (.seq (.reg [⟨(some 17), none, (.mov (.s 3))⟩, ⟨(some 2), none, (.mov (.s 17))⟩]) .ret))))
def F_cmp_Or_int (P : Program) (a0 : V) (st : St) (K : V → St → Prop) : Prop :=
  @stp P (.len .sl (.c a0)) st ⟨fun v7 st =>
  @Hold ⟨∃ I1 : Nat → Rel 1, (∃ k, GhostV [(.int .i64 0)] st (app (I1 k))) ∧ ∀ k1 v8, ∀ st, app (I1 k1) [v8] st →
    @stp P (.bin .lss (.c v8) (.c v7)) st ⟨fun v9 st =>
    @cnd v9 ⟨
      @stp P (.idx 1 (.c a0) (.c v8)) st ⟨fun v10 st =>
      @stp P (.ld none (.c v10)) st ⟨fun v11 st =>
      @stp P (.bin .neq (.c v11) (.c (.int .i64 0))) st ⟨fun v14 st =>
      @cnd v14 ⟨
        GhostV [v11] st fun vs st => K (mkres vs) st⟩
      ⟨
        @stp P (.bin .add (.c v8) (.c (.int .i64 1))) st ⟨fun v16 st =>
        ∃ j, j < k1 ∧ GhostV [v16] st (app (I1 j))⟩⟩⟩⟩⟩⟩
    ⟨
      GhostV [(.int .i64 0)] st fun vs st => K (mkres vs) st⟩⟩⟩⟩
theorem q_cmp_Or_int {P : Program} {a0 : V} {st : St} {K : V → St → Prop} : F_cmp_Or_int P a0 st K = hwp P c_cmp_Or_int (hretQ [.tmp 2] K) (enterFr [a0]) st := by kernel_rfl
abbrev R_cmp_Or_int (P : Program) : Prop := resFnH P n_cmp_Or_int = some (18, c_cmp_Or_int.er, [.tmp 2])
theorem A_cmp_Or_int {P : Program} (h : R_cmp_Or_int P) {a0 : V} {st : St} {K : V → St → Prop} (hF : F_cmp_Or_int P a0 st K) : ACalls P n_cmp_Or_int [a0] st K :=
  ACalls_h h rfl (by simp) (q_cmp_Or_int ▸ hF)

def c_cmp_Compare_uint32 : ACode := (.seq (.reg [⟨(some 4), none, (.mov (.c (.int .i64 0)))⟩]) (.seq (.reg [⟨(some 7), none, (.mov (.s 0))⟩, ⟨(some 8), none, (.call (.c (.fn (.func n_cmp_isNaN_uint32) [] [])) [(.s 7)])⟩, ⟨(some 5), none, (.mov (.s 8))⟩]) (.seq (.reg [⟨(some 9), none, (.mov (.s 1))⟩, ⟨(some 10), none, (.call (.c (.fn (.func n_cmp_isNaN_uint32) [] [])) [(.s 9)])⟩, ⟨(some 6), none, (.mov (.s 10))⟩]) (.seq (.seq (.reg [⟨(some 11), none, (.mov (.s 5))⟩]) (.cond (.s 11) (.seq (.seq (.reg [⟨(some 12), none, (.mov (.s 6))⟩]) (.cond (.s 12) (.seq (.reg [⟨(some 4), none, (.mov (.c (.int .i64 0)))⟩]) .ret) .skip)) (.seq (.reg [⟨(some 4), none, (.mov (.c (.int .i64 (-1))))⟩]) .ret)) .skip)) (.seq (.seq (.reg [⟨(some 13), none, (.mov (.s 6))⟩]) (.cond (.s 13) (.seq (.reg [⟨(some 4), none, (.mov (.c (.int .i64 1)))⟩]) .ret) .skip)) (.seq (.seq (.reg [⟨(some 14), none, (.mov (.s 0))⟩, ⟨(some 15), none, (.mov (.s 1))⟩, ⟨(some 16), none, (.bin .lss (.s 14) (.s 15))⟩]) (.cond (.s 16) (.seq (.reg [⟨(some 4), none, (.mov (.c (.int .i64 (-1))))⟩]) .ret) .skip)) (.seq (.seq (.reg [⟨(some 17), none, (.mov (.s 0))⟩, ⟨(some 18), none, (.mov (.s 1))⟩, ⟨(some 19), none, (.bin .gtr (.s 17) (.s 18))⟩]) (.cond (.s 19) (.seq (.reg [⟨(some 4), none, (.mov (.c (.int .i64 1)))⟩]) .ret) .skip)) (.seq (.reg [⟨(some 4), none, (.mov (.c (.int .i64 0)))⟩]) .ret))))))))
def F_cmp_Compare_uint32 (P : Program) (a0 a1 : V) (st : St) (K : V → St → Prop) : Prop :=
  @stp P (.call (.c (.fn (.func n_cmp_isNaN_uint32) [] [])) [(.c a0)]) st ⟨fun v8 st =>
  @stp P (.call (.c (.fn (.func n_cmp_isNaN_uint32) [] [])) [(.c a1)]) st ⟨fun v10 st =>
  @cnd v8 ⟨
    @cnd v10 ⟨
      GhostV [(.int .i64 0)] st fun vs st => K (mkres vs) st⟩
    ⟨
      GhostV [(.int .i64 (-1))] st fun vs st => K (mkres vs) st⟩⟩
  ⟨
    @cnd v10 ⟨
      GhostV [(.int .i64 1)] st fun vs st => K (mkres vs) st⟩
    ⟨
      @stp P (.bin .lss (.c a0) (.c a1)) st ⟨fun v16 st =>
      @cnd v16 ⟨
        GhostV [(.int .i64 (-1))] st fun vs st => K (mkres vs) st⟩
      ⟨
        @stp P (.bin .gtr (.c a0) (.c a1)) st ⟨fun v19 st =>
        @cnd v19 ⟨
          GhostV [(.int .i64 1)] st fun vs st => K (mkres vs) st⟩
        ⟨
          GhostV [(.int .i64 0)] st fun vs st => K (mkres vs) st⟩⟩⟩⟩⟩⟩⟩⟩
theorem q_cmp_Compare_uint32 {P : Program} {a0 a1 : V} {st : St} {K : V → St → Prop} : F_cmp_Compare_uint32 P a0 a1 st K = hwp P c_cmp_Compare_uint32 (hretQ [.tmp 4] K) (enterFr [a0, a1]) st := by kernel_rfl
abbrev R_cmp_Compare_uint32 (P : Program) : Prop := resFnH P n_cmp_Compare_uint32 = some (20, c_cmp_Compare_uint32.er, [.tmp 4])
theorem A_cmp_Compare_uint32 {P : Program} (h : R_cmp_Compare_uint32 P) {a0 a1 : V} {st : St} {K : V → St → Prop} (hF : F_cmp_Compare_uint32 P a0 a1 st K) : ACalls P n_cmp_Compare_uint32 [a0, a1] st K :=
  ACalls_h h rfl (by simp) (q_cmp_Compare_uint32 ▸ hF)

def c_cmp_Compare_uint64 : ACode := (.seq (.reg [⟨(some 4), none, (.mov (.c (.int .i64 0)))⟩]) (.seq (.reg [⟨(some 7), none, (.mov (.s 0))⟩, ⟨(some 8), none, (.call (.c (.fn (.func n_cmp_isNaN_uint64) [] [])) [(.s 7)])⟩, ⟨(some 5), none, (.mov (.s 8))⟩]) (.seq (.reg [⟨(some 9), none, (.mov (.s 1))⟩, ⟨(some 10), none, (.call (.c (.fn (.func n_cmp_isNaN_uint64) [] [])) [(.s 9)])⟩, ⟨(some 6), none, (.mov (.s 10))⟩]) (.seq (.seq (.reg [⟨(some 11), none, (.mov (.s 5))⟩]) (.cond (.s 11) (.seq (.seq (.reg [⟨(some 12), none, (.mov (.s 6))⟩]) (.cond (.s 12) (.seq (.reg [⟨(some 4), none, (.mov (.c (.int .i64 0)))⟩]) .ret) .skip)) (.seq (.reg [⟨(some 4), none, (.mov (.c (.int .i64 (-1))))⟩]) .ret)) .skip)) (.seq (.seq (.reg [⟨(some 13), none, (.mov (.s 6))⟩]) (.cond (.s 13) (.seq (.reg [⟨(some 4), none, (.mov (.c (.int .i64 1)))⟩]) .ret) .skip)) (.seq (.seq (.reg [⟨(some 14), none, (.mov (.s 0))⟩, ⟨(some 15), none, (.mov (.s 1))⟩, ⟨(some 16), none, (.bin .lss (.s 14) (.s 15))⟩]) (.cond (.s 16) (.seq (.reg [⟨(some 4), none, (.mov (.c (.int .i64 (-1))))⟩]) .ret) .skip)) (.seq (.seq (.reg [⟨(some 17), none, (.mov (.s 0))⟩, ⟨(some 18), none, (.mov (.s 1))⟩, ⟨(some 19), none, (.bin .gtr (.s 17) (.s 18))⟩]) (.cond (.s 19) (.seq (.reg [⟨(some 4), none, (.mov (.c (.int .i64 1)))⟩]) .ret) .skip)) (.seq (.reg [⟨(some 4), none, (.mov (.c (.int .i64 0)))⟩]) .ret))))))))
def F_cmp_Compare_uint64 (P : Program) (a0 a1 : V) (st : St) (K : V → St → Prop) : Prop :=
  @stp P (.call (.c (.fn (.func n_cmp_isNaN_uint64) [] [])) [(.c a0)]) st ⟨fun v8 st =>
  @stp P (.call (.c (.fn (.func n_cmp_isNaN_uint64) [] [])) [(.c a1)]) st ⟨fun v10 st =>
  @cnd v8 ⟨
    @cnd v10 ⟨
      GhostV [(.int .i64 0)] st fun vs st => K (mkres vs) st⟩
    ⟨
      GhostV [(.int .i64 (-1))] st fun vs st => K (mkres vs) st⟩⟩
  ⟨
    @cnd v10 ⟨
      GhostV [(.int .i64 1)] st fun vs st => K (mkres vs) st⟩
    ⟨
      @stp P (.bin .lss (.c a0) (.c a1)) st ⟨fun v16 st =>
      @cnd v16 ⟨
        GhostV [(.int .i64 (-1))] st fun vs st => K (mkres vs) st⟩
      ⟨
        @stp P (.bin .gtr (.c a0) (.c a1)) st ⟨fun v19 st =>
        @cnd v19 ⟨
          GhostV [(.int .i64 1)] st fun vs st => K (mkres vs) st⟩
        ⟨
          GhostV [(.int .i64 0)] st fun vs st => K (mkres vs) st⟩⟩⟩⟩⟩⟩⟩⟩
theorem q_cmp_Compare_uint64 {P : Program} {a0 a1 : V} {st : St} {K : V → St → Prop} : F_cmp_Compare_uint64 P a0 a1 st K = hwp P c_cmp_Compare_uint64 (hretQ [.tmp 4] K) (enterFr [a0, a1]) st := by kernel_rfl
abbrev R_cmp_Compare_uint64 (P : Program) : Prop := resFnH P n_cmp_Compare_uint64 = some (20, c_cmp_Compare_uint64.er, [.tmp 4])
theorem A_cmp_Compare_uint64 {P : Program} (h : R_cmp_Compare_uint64 P) {a0 a1 : V} {st : St} {K : V → St → Prop} (hF : F_cmp_Compare_uint64 P a0 a1 st K) : ACalls P n_cmp_Compare_uint64 [a0, a1] st K :=
  ACalls_h h rfl (by simp) (q_cmp_Compare_uint64 ▸ hF)

def c_cmp_Compare_int64 : ACode := (.seq (.reg [⟨(some 4), none, (.mov (.c (.int .i64 0)))⟩]) (.seq (.reg [⟨(some 7), none, (.mov (.s 0))⟩, ⟨(some 8), none, (.call (.c (.fn (.func n_cmp_isNaN_int64) [] [])) [(.s 7)])⟩, ⟨(some 5), none, (.mov (.s 8))⟩]) (.seq (.reg [⟨(some 9), none, (.mov (.s 1))⟩, ⟨(some 10), none, (.call (.c (.fn (.func n_cmp_isNaN_int64) [] [])) [(.s 9)])⟩, ⟨(some 6), none, (.mov (.s 10))⟩]) (.seq (.seq (.reg [⟨(some 11), none, (.mov (.s 5))⟩]) (.cond (.s 11) (.seq (.seq (.reg [⟨(some 12), none, (.mov (.s 6))⟩]) (.cond (.s 12) (.seq (.reg [⟨(some 4), none, (.mov (.c (.int .i64 0)))⟩]) .ret) .skip)) (.seq (.reg [⟨(some 4), none, (.mov (.c (.int .i64 (-1))))⟩]) .ret)) .skip)) (.seq (.seq (.reg [⟨(some 13), none, (.mov (.s 6))⟩]) (.cond (.s 13) (.seq (.reg [⟨(some 4), none, (.mov (.c (.int .i64 1)))⟩]) .ret) .skip)) (.seq (.seq (.reg [⟨(some 14), none, (.mov (.s 0))⟩, ⟨(some 15), none, (.mov (.s 1))⟩, ⟨(some 16), none, (.bin .lss (.s 14) (.s 15))⟩]) (.cond (.s 16) (.seq (.reg [⟨(some 4), none, (.mov (.c (.int .i64 (-1))))⟩]) .ret) .skip)) (.seq (.seq (.reg [⟨(some 17), none, (.mov (.s 0))⟩, ⟨(some 18), none, (.mov (.s 1))⟩, ⟨(some 19), none, (.bin .gtr (.s 17) (.s 18))⟩]) (.cond (.s 19) (.seq (.reg [⟨(some 4), none, (.mov (.c (.int .i64 1)))⟩]) .ret) .skip)) (.seq (.reg [⟨(some 4), none, (.mov (.c (.int .i64 0)))⟩]) .ret))))))))
def F_cmp_Compare_int64 (P : Program) (a0 a1 : V) (st : St) (K : V → St → Prop) : Prop :=
  @stp P (.call (.c (.fn (.func n_cmp_isNaN_int64) [] [])) [(.c a0)]) st ⟨fun v8 st =>
  @stp P (.call (.c (.fn (.func n_cmp_isNaN_int64) [] [])) [(.c a1)]) st ⟨fun v10 st =>
  @cnd v8 ⟨
    @cnd v10 ⟨
      GhostV [(.int .i64 0)] st fun vs st => K (mkres vs) st⟩
    ⟨
      GhostV [(.int .i64 (-1))] st fun vs st => K (mkres vs) st⟩⟩
  ⟨
    @cnd v10 ⟨
      GhostV [(.int .i64 1)] st fun vs st => K (mkres vs) st⟩
    ⟨
      @stp P (.bin .lss (.c a0) (.c a1)) st ⟨fun v16 st =>
      @cnd v16 ⟨
        GhostV [(.int .i64 (-1))] st fun vs st => K (mkres vs) st⟩
      ⟨
        @stp P (.bin .gtr (.c a0) (.c a1)) st ⟨fun v19 st =>
        @cnd v19 ⟨
          GhostV [(.int .i64 1)] st fun vs st => K (mkres vs) st⟩
        ⟨
          GhostV [(.int .i64 0)] st fun vs st => K (mkres vs) st⟩⟩⟩⟩⟩⟩⟩⟩
theorem q_cmp_Compare_int64 {P : Program} {a0 a1 : V} {st : St} {K : V → St → Prop} : F_cmp_Compare_int64 P a0 a1 st K = hwp P c_cmp_Compare_int64 (hretQ [.tmp 4] K) (enterFr [a0, a1]) st := by kernel_rfl
abbrev R_cmp_Compare_int64 (P : Program) : Prop := resFnH P n_cmp_Compare_int64 = some (20, c_cmp_Compare_int64.er, [.tmp 4])
theorem A_cmp_Compare_int64 {P : Program} (h : R_cmp_Compare_int64 P) {a0 a1 : V} {st : St} {K : V → St → Prop} (hF : F_cmp_Compare_int64 P a0 a1 st K) : ACalls P n_cmp_Compare_int64 [a0, a1] st K :=
  ACalls_h h rfl (by simp) (q_cmp_Compare_int64 ▸ hF)

def c_cmp_isNaN_uint32 : ACode := (.seq (.reg [⟨(some 2), none, (.mov (.c (.bool false)))⟩]) (.seq (.reg [⟨(some 3), none, (.mov (.s 0))⟩, ⟨(some 4), none, (.mov (.s 0))⟩, ⟨(some 5), none, (.bin .neq (.s 3) (.s 4))⟩, ⟨(some 2), none, (.mov (.s 5))⟩]) .ret))
def F_cmp_isNaN_uint32 (P : Program) (a0 : V) (st : St) (K : V → St → Prop) : Prop :=
  @stp P (.bin .neq (.c a0) (.c a0)) st ⟨fun v5 st =>
  GhostV [v5] st fun vs st => K (mkres vs) st⟩
theorem q_cmp_isNaN_uint32 {P : Program} {a0 : V} {st : St} {K : V → St → Prop} : F_cmp_isNaN_uint32 P a0 st K = hwp P c_cmp_isNaN_uint32 (hretQ [.tmp 2] K) (enterFr [a0]) st := by kernel_rfl
abbrev R_cmp_isNaN_uint32 (P : Program) : Prop := resFnH P n_cmp_isNaN_uint32 = some (6, c_cmp_isNaN_uint32.er, [.tmp 2])
theorem A_cmp_isNaN_uint32 {P : Program} (h : R_cmp_isNaN_uint32 P) {a0 : V} {st : St} {K : V → St → Prop} (hF : F_cmp_isNaN_uint32 P a0 st K) : ACalls P n_cmp_isNaN_uint32 [a0] st K :=
  ACalls_h h rfl (by simp) (q_cmp_isNaN_uint32 ▸ hF)

def c_cmp_isNaN_uint64 : ACode := (.seq (.reg [⟨(some 2), none, (.mov (.c (.bool false)))⟩]) (.seq (.reg [⟨(some 3), none, (.mov (.s 0))⟩, ⟨(some 4), none, (.mov (.s 0))⟩, ⟨(some 5), none, (.bin .neq (.s 3) (.s 4))⟩, ⟨(some 2), none, (.mov (.s 5))⟩]) .ret))
def F_cmp_isNaN_uint64 (P : Program) (a0 : V) (st : St) (K : V → St → Prop) : Prop :=
  @stp P (.bin .neq (.c a0) (.c a0)) st ⟨fun v5 st =>
  GhostV [v5] st fun vs st => K (mkres vs) st⟩
theorem q_cmp_isNaN_uint64 {P : Program} {a0 : V} {st : St} {K : V → St → Prop} : F_cmp_isNaN_uint64 P a0 st K = hwp P c_cmp_isNaN_uint64 (hretQ [.tmp 2] K) (enterFr [a0]) st := by kernel_rfl
abbrev R_cmp_isNaN_uint64 (P : Program) : Prop := resFnH P n_cmp_isNaN_uint64 = some (6, c_cmp_isNaN_uint64.er, [.tmp 2])
theorem A_cmp_isNaN_uint64 {P : Program} (h : R_cmp_isNaN_uint64 P) {a0 : V} {st : St} {K : V → St → Prop} (hF : F_cmp_isNaN_uint64 P a0 st K) : ACalls P n_cmp_isNaN_uint64 [a0] st K :=
  ACalls_h h rfl (by simp) (q_cmp_isNaN_uint64 ▸ hF)

def c_cmp_isNaN_int64 : ACode := (.seq (.reg [⟨(some 2), none, (.mov (.c (.bool false)))⟩]) (.seq (.reg [⟨(some 3), none, (.mov (.s 0))⟩, ⟨(some 4), none, (.mov (.s 0))⟩, ⟨(some 5), none, (.bin .neq (.s 3) (.s 4))⟩, ⟨(some 2), none, (.mov (.s 5))⟩]) .ret))
def F_cmp_isNaN_int64 (P : Program) (a0 : V) (st : St) (K : V → St → Prop) : Prop :=
  @stp P (.bin .neq (.c a0) (.c a0)) st ⟨fun v5 st =>
  GhostV [v5] st fun vs st => K (mkres vs) st⟩
theorem q_cmp_isNaN_int64 {P : Program} {a0 : V} {st : St} {K : V → St → Prop} : F_cmp_isNaN_int64 P a0 st K = hwp P c_cmp_isNaN_int64 (hretQ [.tmp 2] K) (enterFr [a0]) st := by kernel_rfl
abbrev R_cmp_isNaN_int64 (P : Program) : Prop := resFnH P n_cmp_isNaN_int64 = some (6, c_cmp_isNaN_int64.er, [.tmp 2])
theorem A_cmp_isNaN_int64 {P : Program} (h : R_cmp_isNaN_int64 P) {a0 : V} {st : St} {K : V → St → Prop} (hF : F_cmp_isNaN_int64 P a0 st K) : ACalls P n_cmp_isNaN_int64 [a0] st K :=
  ACalls_h h rfl (by simp) (q_cmp_isNaN_int64 ▸ hF)

end Go.Proofs.Ytmgkjbphlbpbfaa.AM
