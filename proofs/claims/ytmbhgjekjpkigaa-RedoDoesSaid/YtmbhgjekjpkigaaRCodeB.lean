/- The second half. -/
import Derived.Test.YtmbhgjekjpkigaaRCodeA
import Derived.KernelRfl
namespace Go.Proofs.Ytmbhgjekjpkigaa.AM
open Go
set_option linter.unusedVariables false

def c_bytes_Clone : ACode := (.seq (.reg [(oo 2 (.mov nx0))]) (.seq (.seq (.reg [(oo 3 (.mov (.s 0))),(oo 4 (.eqs false .sl (.s 3) nx0))]) (.cond (.s 4) (.seq (.reg [(oo 2 (.mov nx0))]) .ret) .skip)) (.seq (.reg [(oo 5 (.mkSl 1 0 [(.int .u8 0)] [])),(oo 6 (.mov (.s 0))),(oo 7 (.append 1 1 (.s 5) (.s 6))),(oo 2 (.mov (.s 7)))]) .ret)))
def F_bytes_Clone (P : Program) (a0 : V) (st : St) (K : V → St → Prop) : Prop :=
 @stp P (.eqs false .sl (.c a0) (.c (.sl .nil 0 [] []))) st ⟨fun v4 st =>
 @cnd v4 ⟨
 GhostV [(.sl .nil 0 [] [])] st fun vs st => K (mkres vs) st⟩
 ⟨
 @stp P (.mkSl 1 0 [(.int .u8 0)] []) st ⟨fun v5 st =>
 @stp P (.append 1 1 (.c v5) (.c a0)) st ⟨fun v7 st =>
 GhostV [v7] st fun vs st => K (mkres vs) st⟩⟩⟩⟩
theorem q_bytes_Clone {P : Program} {a0 : V} {st : St} {K : V → St → Prop} : F_bytes_Clone P a0 st K = hwp P c_bytes_Clone (hretQ [.tmp 2] K) (enterFr [a0]) st := by kernel_rfl
abbrev R_bytes_Clone (P : Program) : Prop := resFnH P n_bytes_Clone = some (8, c_bytes_Clone.er, [.tmp 2])
theorem A_bytes_Clone {P : Program} (h : R_bytes_Clone P) {a0 : V} {st : St} {K : V → St → Prop} (hF : F_bytes_Clone P a0 st K) : ACalls P n_bytes_Clone [a0] st K :=
  ACalls_h h rfl (by simp) (q_bytes_Clone ▸ hF)

def c_slices_Clone_Open_Open : ACode := (.seq (.reg [(oo 2 (.mov nx0))]) (.seq (.seq (.reg [(oo 3 (.mov (.s 0))),(oo 4 (.eqs false .sl (.s 3) nx0))]) (.cond (.s 4) (.seq (.reg [(oo 2 (.mov nx0))]) .ret) .skip)) (.seq (.reg [(oo 5 (.mkSl 3 0 [(.int .u64 0),(.int .u64 0),(.int .u64 0)] [])),(oo 6 (.mov (.s 0))),(oo 7 (.append 3 24 (.s 5) (.s 6))),(oo 2 (.mov (.s 7)))]) .ret)))
def F_slices_Clone_Open_Open (P : Program) (a0 : V) (st : St) (K : V → St → Prop) : Prop :=
 @stp P (.eqs false .sl (.c a0) (.c (.sl .nil 0 [] []))) st ⟨fun v4 st =>
 @cnd v4 ⟨
 GhostV [(.sl .nil 0 [] [])] st fun vs st => K (mkres vs) st⟩
 ⟨
 @stp P (.mkSl 3 0 [(.int .u64 0),(.int .u64 0),(.int .u64 0)] []) st ⟨fun v5 st =>
 @stp P (.append 3 24 (.c v5) (.c a0)) st ⟨fun v7 st =>
 GhostV [v7] st fun vs st => K (mkres vs) st⟩⟩⟩⟩
theorem q_slices_Clone_Open_Open {P : Program} {a0 : V} {st : St} {K : V → St → Prop} : F_slices_Clone_Open_Open P a0 st K = hwp P c_slices_Clone_Open_Open (hretQ [.tmp 2] K) (enterFr [a0]) st := by kernel_rfl
abbrev R_slices_Clone_Open_Open (P : Program) : Prop := resFnH P n_slices_Clone_Open_Open = some (8, c_slices_Clone_Open_Open.er, [.tmp 2])
theorem A_slices_Clone_Open_Open {P : Program} (h : R_slices_Clone_Open_Open P) {a0 : V} {st : St} {K : V → St → Prop} (hF : F_slices_Clone_Open_Open P a0 st K) : ACalls P n_slices_Clone_Open_Open [a0] st K :=
  ACalls_h h rfl (by simp) (q_slices_Clone_Open_Open ▸ hF)

def c_slices_MinFunc_Open_Open : ACode := (.seq (.reg [(oo 4 (.alloc [(.int .u64 0),(.int .u64 0),(.int .u64 0)]))]) (.join [] [7,8,9,10] (.seq (.reg [(oo 7 (.mov (.s 0))),(oo 8 (.len .sl (.s 7))),(oo 9 (.bin .lss (.s 8) (.c (.int .i64 1))))]) (.cond (.s 9) (.reg [(oo 10 .dead),⟨none,none,.dead⟩]) .skip)) (.seq (.reg [(oo 11 (.mov (.s 0))),(oo 12 (.idx 3 (.s 11) (.c (.int .i64 0)))),(oo 13 (.ld (some 3) (.s 12))),(oo 5 (.alloc [(.int .u64 0),(.int .u64 0),(.int .u64 0)])),⟨none,none,(.st 3 (.s 5) (.s 13))⟩]) (.seq (.seq (.reg [(oo 6 (.mov (.c (.int .i64 1))))]) (.block 0 (.loop [6] [6,14,15,16,17,18,19,20,21,22,23,24,25,26,27,28,29,30,31] (.seq (.seq (.reg [(oo 14 (.mov (.s 6))),(oo 15 (.mov (.s 0))),(oo 16 (.len .sl (.s 15))),(oo 17 (.bin .lss (.s 14) (.s 16)))]) (.cond (.s 17) .skip (.exit 0))) (.seq (.block 1 (.seq (.regD [(oo 20 (.mov (.s 1))),(oo 21 (.mov (.s 0))),(oo 22 (.mov (.s 6))),(oo 23 (.idx 3 (.s 21) (.s 22))),(oo 24 (.ld (some 3) (.s 23))),(oo 25 (.ld (some 3) (.s 5))),(oo 26 (.call (.s 20) [(.s 24),(.s 25)])),(oo 27 (.bin .lss (.s 26) (.c (.int .i64 0))))] [(0,(false,[])),(1,(false,[])),(2,(false,[])),(3,(false,[])),(4,(false,[])),(5,(false,[])),(6,(true,[])),(7,(false,[]))]) (.cond (.s 27) (.reg [(oo 28 (.mov (.s 0))),(oo 29 (.mov (.s 6))),(oo 30 (.idx 3 (.s 28) (.s 29))),(oo 31 (.ld (some 3) (.s 30))),⟨none,none,(.st 3 (.s 5) (.s 31))⟩]) .skip))) (.reg [(oo 18 (.mov (.s 6))),(oo 19 (.bin .add (.s 18) (.c (.int .i64 1)))),(oo 6 (.mov (.s 19)))])))))) (.seq (.reg [(oo 32 (.ld (some 3) (.s 5))),⟨none,none,(.st 3 (.s 4) (.s 32))⟩]) .ret)))))
def F_slices_MinFunc_Open_Open (P : Program) (a0 a1 : V) (st : St) (K : V → St → Prop) : Prop :=
 @stp P (.alloc [(.int .u64 0),(.int .u64 0),(.int .u64 0)]) st ⟨fun v4 st =>
 @Hold ⟨∃ J1 : Rel 0,(
 @stp P (.len .sl (.c a0)) st ⟨fun v8 st =>
 @stp P (.bin .lss (.c v8) (.c (.int .i64 1))) st ⟨fun v9 st =>
 @cnd v9 ⟨
 @stp P .dead st ⟨fun v10 st =>
 @stp P .dead st ⟨fun _v st =>
 GhostV [] st (app J1)⟩⟩⟩
 ⟨
 GhostV [] st (app J1)⟩⟩⟩) ∧
 ∀ st,app J1 [] st →
 @stp P (.idx 3 (.c a0) (.c (.int .i64 0))) st ⟨fun v12 st =>
 @stp P (.ld (some 3) (.c v12)) st ⟨fun v13 st =>
 @stp P (.alloc [(.int .u64 0),(.int .u64 0),(.int .u64 0)]) st ⟨fun v5 st =>
 @stp P (.st 3 (.c v5) (.c v13)) st ⟨fun _v st =>
 @Hold ⟨∃ I2 : Nat → Rel 1,(∃ k,GhostV [(.int .i64 1)] st (app (I2 k))) ∧ ∀ k2 v6,∀ st,app (I2 k2) [v6] st →
 @stp P (.len .sl (.c a0)) st ⟨fun v16 st =>
 @stp P (.bin .lss (.c v6) (.c v16)) st ⟨fun v17 st =>
 @cnd v17 ⟨
 @stpD P (.idx 3 (.c a0) (.c v6)) st ⟨fun v23 st =>
 @stpD P (.ld (some 3) (.c v23)) st ⟨fun v24 st =>
 @stpD P (.ld (some 3) (.c v5)) st ⟨fun v25 st =>
 @stpD P (.call (.c a1) [(.c v24),(.c v25)]) st ⟨fun v26 st =>
 @stpD P (.bin .lss (.c v26) (.c (.int .i64 0))) st ⟨fun v27 st =>
 @cnd v27 ⟨
 @stp P (.idx 3 (.c a0) (.c v6)) st ⟨fun v30 st =>
 @stp P (.ld (some 3) (.c v30)) st ⟨fun v31 st =>
 @stp P (.st 3 (.c v5) (.c v31)) st ⟨fun _v st =>
 @stp P (.bin .add (.c v6) (.c (.int .i64 1))) st ⟨fun v19 st =>
 ∃ j,j < k2 ∧ GhostV [v19] st (app (I2 j))⟩⟩⟩⟩⟩
 ⟨
 @stp P (.bin .add (.c v6) (.c (.int .i64 1))) st ⟨fun v19 st =>
 ∃ j,j < k2 ∧ GhostV [v19] st (app (I2 j))⟩⟩⟩⟩⟩⟩⟩⟩
 ⟨
 @stp P (.ld (some 3) (.c v5)) st ⟨fun v32 st =>
 @stp P (.st 3 (.c v4) (.c v32)) st ⟨fun _v st =>
 @ldr (some 3) v4 st ⟨fun r1 =>
 GhostV [r1] st fun vs st => K (mkres vs) st⟩⟩⟩⟩⟩⟩⟩⟩⟩⟩⟩⟩⟩
theorem q_slices_MinFunc_Open_Open {P : Program} {a0 a1 : V} {st : St} {K : V → St → Prop} : F_slices_MinFunc_Open_Open P a0 a1 st K = hwp P c_slices_MinFunc_Open_Open (hretQ [.cell 4 (some 3)] K) (enterFr [a0, a1]) st := by kernel_rfl
abbrev R_slices_MinFunc_Open_Open (P : Program) : Prop := resFnH P n_slices_MinFunc_Open_Open = some (33, c_slices_MinFunc_Open_Open.er, [.cell 4 (some 3)])
theorem A_slices_MinFunc_Open_Open {P : Program} (h : R_slices_MinFunc_Open_Open P) {a0 a1 : V} {st : St} {K : V → St → Prop} (hF : F_slices_MinFunc_Open_Open P a0 a1 st K) : ACalls P n_slices_MinFunc_Open_Open [a0, a1] st K :=
  ACalls_h h rfl (by simp) (q_slices_MinFunc_Open_Open ▸ hF)

def c_redo_before : ACode := (.seq (.reg [(oo 2 (.box (.s 0))),(oo 3 (.box (.s 1))),(oo 4 (.mov (.c (.int .i64 0))))]) (.seq (.seq (.reg [(oo 5 (.fld 2 (.s 2))),(oo 6 (.ld none (.s 5))),(oo 7 (.bin .eql (.s 6) (.c (.int .u64 0)))),(oo 8 (.mov (.s 7))),⟨(some 9),(some (8,false)),(.fld 2 (.s 3))⟩,⟨(some 10),(some (8,false)),(.ld none (.s 9))⟩,⟨(some 11),(some (8,false)),(.bin .eql (.s 10) (.c (.int .u64 0)))⟩,(oo 12 (.pick (.s 8) (.c (.bool true)) (.s 11)))]) (.cond (.s 12) (.seq (.regD [(oo 13 (.fld 2 (.s 2))),(oo 14 (.ld none (.s 13))),(oo 15 (.minmax false (.s 14) [(.c (.int .u64 1))])),(oo 16 (.fld 2 (.s 3))),(oo 17 (.ld none (.s 16))),(oo 18 (.minmax false (.s 17) [(.c (.int .u64 1))])),(oo 19 (.call (fx n_cmp_Compare_uint64) [(.s 15),(.s 18)])),(oo 20 (.fld 0 (.s 2))),(oo 21 (.ld none (.s 20))),(oo 22 (.fld 0 (.s 3))),(oo 23 (.ld none (.s 22))),(oo 24 (.call (fx n_cmp_Compare_uint64) [(.s 21),(.s 23)])),(oo 25 (.mkSl 1 2 [(.int .i64 0)] [(0,(.s 19)),(1,(.s 24))])),(oo 26 (.call (fx n_cmp_Or_int) [(.s 25)])),(oo 4 (.mov (.s 26)))] [(0,(false,[])),(1,(false,[])),(2,(false,[])),(3,(false,[])),(4,(false,[])),(5,(false,[])),(7,(false,[])),(8,(false,[])),(9,(false,[])),(10,(false,[])),(6,(true,[10,9,8,7])),(11,(true,[])),(12,(true,[])),(13,(true,[])),(14,(false,[]))]) .ret) .skip)) (.seq (.reg [(oo 27 (.fld 2 (.s 3))),(oo 28 (.ld none (.s 27))),(oo 29 (.fld 2 (.s 2))),(oo 30 (.ld none (.s 29))),(oo 31 (.call (fx n_cmp_Compare_uint64) [(.s 28),(.s 30)])),(oo 4 (.mov (.s 31)))]) .ret)))
def F_redo_before (P : Program) (a0 a1 : V) (st : St) (K : V → St → Prop) : Prop :=
 @stp P (.box (.c a0)) st ⟨fun v2 st =>
 @stp P (.box (.c a1)) st ⟨fun v3 st =>
 @stp P (.fld 2 (.c v2)) st ⟨fun v5 st =>
 @stp P (.ld none (.c v5)) st ⟨fun v6 st =>
 @stp P (.bin .eql (.c v6) (.c (.int .u64 0))) st ⟨fun v7 st =>
 @gst P v7 false (.fld 2 (.c v3)) st ⟨fun v9 st =>
 @gst P v7 false (.ld none (.c v9)) st ⟨fun v10 st =>
 @gst P v7 false (.bin .eql (.c v10) (.c (.int .u64 0))) st ⟨fun v11 st =>
 @stp P (.pick (.c v7) (.c (.bool true)) (.c v11)) st ⟨fun v12 st =>
 @cnd v12 ⟨
 @stpD P (.fld 2 (.c v2)) st ⟨fun v13 st =>
 @stpD P (.ld none (.c v13)) st ⟨fun v14 st =>
 @stpD P (.minmax false (.c v14) [(.c (.int .u64 1))]) st ⟨fun v15 st =>
 @stpD P (.fld 2 (.c v3)) st ⟨fun v16 st =>
 @stpD P (.ld none (.c v16)) st ⟨fun v17 st =>
 @stpD P (.minmax false (.c v17) [(.c (.int .u64 1))]) st ⟨fun v18 st =>
 @stpD P (.fld 0 (.c v2)) st ⟨fun v20 st =>
 @stpD P (.ld none (.c v20)) st ⟨fun v21 st =>
 @stpD P (.fld 0 (.c v3)) st ⟨fun v22 st =>
 @stpD P (.ld none (.c v22)) st ⟨fun v23 st =>
 @stpD P (.call (.c (.fn (.func n_cmp_Compare_uint64) [] [])) [(.c v15),(.c v18)]) st ⟨fun v19 st =>
 hwat P none (.ld none (.c v22)) st v23 ∧ (
 hwat P none (.fld 0 (.c v3)) st v22 ∧ (
 hwat P none (.ld none (.c v20)) st v21 ∧ (
 hwat P none (.fld 0 (.c v2)) st v20 ∧ (
 @stpD P (.call (.c (.fn (.func n_cmp_Compare_uint64) [] [])) [(.c v21),(.c v23)]) st ⟨fun v24 st =>
 @stpD P (.mkSl 1 2 [(.int .i64 0)] [(0,(.c v19)),(1,(.c v24))]) st ⟨fun v25 st =>
 @stpD P (.call (.c (.fn (.func n_cmp_Or_int) [] [])) [(.c v25)]) st ⟨fun v26 st =>
 GhostV [v26] st fun vs st => K (mkres vs) st⟩⟩⟩))))⟩⟩⟩⟩⟩⟩⟩⟩⟩⟩⟩⟩
 ⟨
 @stp P (.fld 2 (.c v3)) st ⟨fun v27 st =>
 @stp P (.ld none (.c v27)) st ⟨fun v28 st =>
 @stp P (.fld 2 (.c v2)) st ⟨fun v29 st =>
 @stp P (.ld none (.c v29)) st ⟨fun v30 st =>
 @stp P (.call (.c (.fn (.func n_cmp_Compare_uint64) [] [])) [(.c v28),(.c v30)]) st ⟨fun v31 st =>
 GhostV [v31] st fun vs st => K (mkres vs) st⟩⟩⟩⟩⟩⟩⟩⟩⟩⟩⟩⟩⟩⟩⟩
theorem q_redo_before {P : Program} {a0 a1 : V} {st : St} {K : V → St → Prop} : F_redo_before P a0 a1 st K = hwp P c_redo_before (hretQ [.tmp 4] K) (enterFr [a0, a1]) st := by kernel_rfl
abbrev R_redo_before (P : Program) : Prop := resFnH P n_redo_before = some (32, c_redo_before.er, [.tmp 4])
theorem A_redo_before {P : Program} (h : R_redo_before P) {a0 a1 : V} {st : St} {K : V → St → Prop} (hF : F_redo_before P a0 a1 st K) : ACalls P n_redo_before [a0, a1] st K :=
  ACalls_h h rfl (by simp) (q_redo_before ▸ hF)

def c_slices_Index_Open_Open : ACode := (.seq (.reg [(oo 3 (.box (.s 1))),(oo 4 (.mov (.c (.int .i64 0))))]) (.seq (.seq (.reg [(oo 6 (.mov (.s 0))),(oo 7 (.len .sl (.s 6))),(oo 8 (.mov (.c (.int .i64 0))))]) (.block 0 (.loop [8] [4,5,8,9,10,11,12,13,14,15,16,17,18] (.seq (.reg [(oo 9 (.bin .lss (.s 8) (.s 7)))]) (.seq (.cond (.s 9) .skip (.exit 0)) (.seq (.block 1 (.seq (.reg [(oo 10 (.mov (.s 8))),(oo 5 (.mov (.s 10)))]) (.seq (.regD [(oo 11 (.ld (some 3) (.s 3))),(oo 12 (.mov (.s 0))),(oo 13 (.mov (.s 5))),(oo 14 (.idx 3 (.s 12) (.s 13))),(oo 15 (.ld (some 3) (.s 14))),(oo 16 (.eqs false (.flat [.int,.int,.int]) (.s 11) (.s 15)))] [(0,(false,[])),(1,(false,[])),(2,(false,[])),(3,(false,[])),(4,(false,[])),(5,(false,[]))]) (.cond (.s 16) (.seq (.reg [(oo 17 (.mov (.s 5))),(oo 4 (.mov (.s 17)))]) .ret) .skip)))) (.reg [(oo 18 (.bin .add (.s 8) (.c (.int .i64 1)))),(oo 8 (.mov (.s 18)))]))))))) (.seq (.reg [(oo 4 (.mov (.c (.int .i64 (-1)))))]) .ret)))
def F_slices_Index_Open_Open (P : Program) (a0 a1 : V) (st : St) (K : V → St → Prop) : Prop :=
 @stp P (.box (.c a1)) st ⟨fun v3 st =>
 @stp P (.len .sl (.c a0)) st ⟨fun v7 st =>
 @Hold ⟨∃ I1 : Nat → Rel 1,(∃ k,GhostV [(.int .i64 0)] st (app (I1 k))) ∧ ∀ k1 v8,∀ st,app (I1 k1) [v8] st →
 @stp P (.bin .lss (.c v8) (.c v7)) st ⟨fun v9 st =>
 @cnd v9 ⟨
 @stpD P (.ld (some 3) (.c v3)) st ⟨fun v11 st =>
 @stpD P (.idx 3 (.c a0) (.c v8)) st ⟨fun v14 st =>
 @stpD P (.ld (some 3) (.c v14)) st ⟨fun v15 st =>
 @stpD P (.eqs false (.flat [.int,.int,.int]) (.c v11) (.c v15)) st ⟨fun v16 st =>
 @cnd v16 ⟨
 GhostV [v8] st fun vs st => K (mkres vs) st⟩
 ⟨
 @stp P (.bin .add (.c v8) (.c (.int .i64 1))) st ⟨fun v18 st =>
 ∃ j,j < k1 ∧ GhostV [v18] st (app (I1 j))⟩⟩⟩⟩⟩⟩⟩
 ⟨
 GhostV [(.int .i64 (-1))] st fun vs st => K (mkres vs) st⟩⟩⟩⟩⟩
theorem q_slices_Index_Open_Open {P : Program} {a0 a1 : V} {st : St} {K : V → St → Prop} : F_slices_Index_Open_Open P a0 a1 st K = hwp P c_slices_Index_Open_Open (hretQ [.tmp 4] K) (enterFr [a0, a1]) st := by kernel_rfl
abbrev R_slices_Index_Open_Open (P : Program) : Prop := resFnH P n_slices_Index_Open_Open = some (19, c_slices_Index_Open_Open.er, [.tmp 4])
theorem A_slices_Index_Open_Open {P : Program} (h : R_slices_Index_Open_Open P) {a0 a1 : V} {st : St} {K : V → St → Prop} (hF : F_slices_Index_Open_Open P a0 a1 st K) : ACalls P n_slices_Index_Open_Open [a0, a1] st K :=
  ACalls_h h rfl (by simp) (q_slices_Index_Open_Open ▸ hF)

def c_slices_Delete_Open_Open : ACode := (.seq (.reg [(oo 6 (.mov nx0))]) (.seq (.reg [(oo 8 (.mov (.s 0))),(oo 9 (.mov (.s 1))),(oo 10 (.mov (.s 2))),(oo 11 (.mov (.s 0))),(oo 12 (.len .sl (.s 11))),(oo 13 (.slice 3 (.s 8) (some (.s 9)) (some (.s 10)) (some (.s 12))))]) (.seq (.seq (.reg [(oo 14 (.mov (.s 1))),(oo 15 (.mov (.s 2))),(oo 16 (.bin .eql (.s 14) (.s 15)))]) (.cond (.s 16) (.seq (.reg [(oo 17 (.mov (.s 0))),(oo 6 (.mov (.s 17)))]) .ret) .skip)) (.seq (.reg [(oo 18 (.mov (.s 0))),(oo 19 (.len .sl (.s 18))),(oo 7 (.mov (.s 19)))]) (.seq (.regD [(oo 20 (.mov (.s 0))),(oo 21 (.mov (.s 1))),(oo 22 (.slice 3 (.s 20) none (some (.s 21)) none)),(oo 23 (.mov (.s 0))),(oo 24 (.mov (.s 2))),(oo 25 (.slice 3 (.s 23) (some (.s 24)) none none)),(oo 26 (.append 3 24 (.s 22) (.s 25))),(oo 0 (.mov (.s 26)))] [(0,(false,[])),(1,(false,[])),(2,(false,[])),(3,(false,[])),(4,(false,[])),(5,(false,[])),(6,(true,[])),(7,(true,[]))]) (.seq (.reg [(oo 27 (.mov (.s 0))),(oo 28 (.mov (.s 0))),(oo 29 (.len .sl (.s 28))),(oo 30 (.mov (.s 7))),(oo 31 (.slice 3 (.s 27) (some (.s 29)) (some (.s 30)) none)),⟨none,none,(.clear [(.int .u64 0),(.int .u64 0),(.int .u64 0)] (.s 31))⟩]) (.seq (.reg [(oo 32 (.mov (.s 0))),(oo 6 (.mov (.s 32)))]) .ret)))))))
def F_slices_Delete_Open_Open (P : Program) (a0 a1 a2 : V) (st : St) (K : V → St → Prop) : Prop :=
 @stp P (.len .sl (.c a0)) st ⟨fun v12 st =>
 @stp P (.slice 3 (.c a0) (some (.c a1)) (some (.c a2)) (some (.c v12))) st ⟨fun v13 st =>
 @stp P (.bin .eql (.c a1) (.c a2)) st ⟨fun v16 st =>
 @cnd v16 ⟨
 GhostV [a0] st fun vs st => K (mkres vs) st⟩
 ⟨
 @stp P (.len .sl (.c a0)) st ⟨fun v19 st =>
 @stpD P (.slice 3 (.c a0) none (some (.c a1)) none) st ⟨fun v22 st =>
 @stpD P (.slice 3 (.c a0) (some (.c a2)) none none) st ⟨fun v25 st =>
 @stpD P (.append 3 24 (.c v22) (.c v25)) st ⟨fun v26 st =>
 @stp P (.len .sl (.c v26)) st ⟨fun v29 st =>
 @stp P (.slice 3 (.c v26) (some (.c v29)) (some (.c v19)) none) st ⟨fun v31 st =>
 @stp P (.clear [(.int .u64 0),(.int .u64 0),(.int .u64 0)] (.c v31)) st ⟨fun _v st =>
 GhostV [v26] st fun vs st => K (mkres vs) st⟩⟩⟩⟩⟩⟩⟩⟩⟩⟩⟩
theorem q_slices_Delete_Open_Open {P : Program} {a0 a1 a2 : V} {st : St} {K : V → St → Prop} : F_slices_Delete_Open_Open P a0 a1 a2 st K = hwp P c_slices_Delete_Open_Open (hretQ [.tmp 6] K) (enterFr [a0, a1, a2]) st := by kernel_rfl
abbrev R_slices_Delete_Open_Open (P : Program) : Prop := resFnH P n_slices_Delete_Open_Open = some (33, c_slices_Delete_Open_Open.er, [.tmp 6])
theorem A_slices_Delete_Open_Open {P : Program} (h : R_slices_Delete_Open_Open P) {a0 a1 a2 : V} {st : St} {K : V → St → Prop} (hF : F_slices_Delete_Open_Open P a0 a1 a2 st K) : ACalls P n_slices_Delete_Open_Open [a0, a1, a2] st K :=
  ACalls_h h rfl (by simp) (q_slices_Delete_Open_Open ▸ hF)

def c_slices_Clone_byte_byte : ACode := (.seq (.reg [(oo 2 (.mov nx0))]) (.seq (.seq (.reg [(oo 3 (.mov (.s 0))),(oo 4 (.eqs false .sl (.s 3) nx0))]) (.cond (.s 4) (.seq (.reg [(oo 2 (.mov nx0))]) .ret) .skip)) (.seq (.reg [(oo 5 (.mkSl 1 0 [(.int .u8 0)] [])),(oo 6 (.mov (.s 0))),(oo 7 (.append 1 1 (.s 5) (.s 6))),(oo 2 (.mov (.s 7)))]) .ret)))
def F_slices_Clone_byte_byte (P : Program) (a0 : V) (st : St) (K : V → St → Prop) : Prop :=
 @stp P (.eqs false .sl (.c a0) (.c (.sl .nil 0 [] []))) st ⟨fun v4 st =>
 @cnd v4 ⟨
 GhostV [(.sl .nil 0 [] [])] st fun vs st => K (mkres vs) st⟩
 ⟨
 @stp P (.mkSl 1 0 [(.int .u8 0)] []) st ⟨fun v5 st =>
 @stp P (.append 1 1 (.c v5) (.c a0)) st ⟨fun v7 st =>
 GhostV [v7] st fun vs st => K (mkres vs) st⟩⟩⟩⟩
theorem q_slices_Clone_byte_byte {P : Program} {a0 : V} {st : St} {K : V → St → Prop} : F_slices_Clone_byte_byte P a0 st K = hwp P c_slices_Clone_byte_byte (hretQ [.tmp 2] K) (enterFr [a0]) st := by kernel_rfl
abbrev R_slices_Clone_byte_byte (P : Program) : Prop := resFnH P n_slices_Clone_byte_byte = some (8, c_slices_Clone_byte_byte.er, [.tmp 2])
theorem A_slices_Clone_byte_byte {P : Program} (h : R_slices_Clone_byte_byte P) {a0 : V} {st : St} {K : V → St → Prop} (hF : F_slices_Clone_byte_byte P a0 st K) : ACalls P n_slices_Clone_byte_byte [a0] st K :=
  ACalls_h h rfl (by simp) (q_slices_Clone_byte_byte ▸ hF)

def c_slices_Clone_Page_Page : ACode := (.seq (.reg [(oo 2 (.mov nx0))]) (.seq (.seq (.reg [(oo 3 (.mov (.s 0))),(oo 4 (.eqs false .sl (.s 3) nx0))]) (.cond (.s 4) (.seq (.reg [(oo 2 (.mov nx0))]) .ret) .skip)) (.seq (.reg [(oo 5 (.mkSl 6 0 zrP [])),(oo 6 (.mov (.s 0))),(oo 7 (.append 6 112 (.s 5) (.s 6))),(oo 2 (.mov (.s 7)))]) .ret)))
def F_slices_Clone_Page_Page (P : Program) (a0 : V) (st : St) (K : V → St → Prop) : Prop :=
 @stp P (.eqs false .sl (.c a0) (.c (.sl .nil 0 [] []))) st ⟨fun v4 st =>
 @cnd v4 ⟨
 GhostV [(.sl .nil 0 [] [])] st fun vs st => K (mkres vs) st⟩
 ⟨
 @stp P (.mkSl 6 0 [(.int .i64 0),(.int .u64 0),(.sl .nil 0 [] []),(.sl .nil 0 [] []),(.sl .nil 0 [] []),(.sl .nil 0 [] [])] []) st ⟨fun v5 st =>
 @stp P (.append 6 112 (.c v5) (.c a0)) st ⟨fun v7 st =>
 GhostV [v7] st fun vs st => K (mkres vs) st⟩⟩⟩⟩
theorem q_slices_Clone_Page_Page {P : Program} {a0 : V} {st : St} {K : V → St → Prop} : F_slices_Clone_Page_Page P a0 st K = hwp P c_slices_Clone_Page_Page (hretQ [.tmp 2] K) (enterFr [a0]) st := by kernel_rfl
abbrev R_slices_Clone_Page_Page (P : Program) : Prop := resFnH P n_slices_Clone_Page_Page = some (8, c_slices_Clone_Page_Page.er, [.tmp 2])
theorem A_slices_Clone_Page_Page {P : Program} (h : R_slices_Clone_Page_Page P) {a0 : V} {st : St} {K : V → St → Prop} (hF : F_slices_Clone_Page_Page P a0 st K) : ACalls P n_slices_Clone_Page_Page [a0] st K :=
  ACalls_h h rfl (by simp) (q_slices_Clone_Page_Page ▸ hF)

def c_slices_BinarySearchFunc_Page_Page_int : ACode := (.seq (.reg [(oo 6 (.mov (.c (.int .i64 0)))),(oo 7 (.mov (.c (.bool false))))]) (.seq (.reg [(oo 12 (.mov (.s 0))),(oo 13 (.len .sl (.s 12))),(oo 8 (.mov (.s 13)))]) (.seq (.reg [(oo 14 (.mov (.s 8))),(oo 9 (.mov (.c (.int .i64 0)))),(oo 10 (.mov (.s 14)))]) (.seq (.block 0 (.loop [9,10] [9,10,11,15,16,17,18,19,20,21,22,23,24,25,26,27,28,29,30,31,32,33,34] (.seq (.seq (.reg [(oo 15 (.mov (.s 9))),(oo 16 (.mov (.s 10))),(oo 17 (.bin .lss (.s 15) (.s 16)))]) (.cond (.s 17) .skip (.exit 0))) (.block 1 (.seq (.reg [(oo 18 (.mov (.s 9))),(oo 19 (.mov (.s 10))),(oo 20 (.bin .add (.s 18) (.s 19))),(oo 21 (.conv .u64 (.s 20))),(oo 22 (.bin .shr (.s 21) (.c (.int .u64 1)))),(oo 23 (.conv .i64 (.s 22))),(oo 11 (.mov (.s 23)))]) (.seq (.reg [(oo 24 (.mov (.s 2))),(oo 25 (.mov (.s 0))),(oo 26 (.mov (.s 11))),(oo 27 (.idx 6 (.s 25) (.s 26))),(oo 28 (.ld (some 6) (.s 27))),(oo 29 (.mov (.s 1))),(oo 30 (.call (.s 24) [(.s 28),(.s 29)])),(oo 31 (.bin .lss (.s 30) (.c (.int .i64 0))))]) (.cond (.s 31) (.reg [(oo 32 (.mov (.s 11))),(oo 33 (.bin .add (.s 32) (.c (.int .i64 1)))),(oo 9 (.mov (.s 33)))]) (.reg [(oo 34 (.mov (.s 11))),(oo 10 (.mov (.s 34)))])))))))) (.seq (.reg [(oo 35 (.mov (.s 9))),(oo 36 (.mov (.s 9))),(oo 37 (.mov (.s 8))),(oo 38 (.bin .lss (.s 36) (.s 37))),(oo 39 (.mov (.s 38))),⟨(some 40),(some (39,true)),(.mov (.s 2))⟩,⟨(some 41),(some (39,true)),(.mov (.s 0))⟩,⟨(some 42),(some (39,true)),(.mov (.s 9))⟩,⟨(some 43),(some (39,true)),(.idx 6 (.s 41) (.s 42))⟩,⟨(some 44),(some (39,true)),(.ld (some 6) (.s 43))⟩,⟨(some 45),(some (39,true)),(.mov (.s 1))⟩,⟨(some 46),(some (39,true)),(.call (.s 40) [(.s 44),(.s 45)])⟩,⟨(some 47),(some (39,true)),(.bin .eql (.s 46) (.c (.int .i64 0)))⟩,(oo 48 (.pick (.s 39) (.s 47) (.c (.bool false)))),(oo 6 (.mov (.s 35))),(oo 7 (.mov (.s 48)))]) .ret)))))
def F_slices_BinarySearchFunc_Page_Page_int (P : Program) (a0 a1 a2 : V) (st : St) (K : V → St → Prop) : Prop :=
 @stp P (.len .sl (.c a0)) st ⟨fun v13 st =>
 @Hold ⟨∃ I1 : Nat → Rel 2,(∃ k,GhostV [(.int .i64 0),v13] st (app (I1 k))) ∧ ∀ k1 v9 v10,∀ st,app (I1 k1) [v9,v10] st →
 @stp P (.bin .lss (.c v9) (.c v10)) st ⟨fun v17 st =>
 @cnd v17 ⟨
 @stp P (.bin .add (.c v9) (.c v10)) st ⟨fun v20 st =>
 @stp P (.conv .u64 (.c v20)) st ⟨fun v21 st =>
 @stp P (.bin .shr (.c v21) (.c (.int .u64 1))) st ⟨fun v22 st =>
 @stp P (.conv .i64 (.c v22)) st ⟨fun v23 st =>
 @stp P (.idx 6 (.c a0) (.c v23)) st ⟨fun v27 st =>
 @stp P (.ld (some 6) (.c v27)) st ⟨fun v28 st =>
 @stp P (.call (.c a2) [(.c v28),(.c a1)]) st ⟨fun v30 st =>
 @stp P (.bin .lss (.c v30) (.c (.int .i64 0))) st ⟨fun v31 st =>
 @cnd v31 ⟨
 @stp P (.bin .add (.c v23) (.c (.int .i64 1))) st ⟨fun v33 st =>
 ∃ j,j < k1 ∧ GhostV [v33,v10] st (app (I1 j))⟩⟩
 ⟨
 ∃ j,j < k1 ∧ GhostV [v9,v23] st (app (I1 j))⟩⟩⟩⟩⟩⟩⟩⟩⟩⟩
 ⟨
 @stp P (.bin .lss (.c v9) (.c v13)) st ⟨fun v38 st =>
 @gst P v38 true (.mov (.c a2)) st ⟨fun v40 st =>
 @gst P v38 true (.mov (.c a0)) st ⟨fun v41 st =>
 @gst P v38 true (.mov (.c v9)) st ⟨fun v42 st =>
 @gst P v38 true (.idx 6 (.c v41) (.c v42)) st ⟨fun v43 st =>
 @gst P v38 true (.ld (some 6) (.c v43)) st ⟨fun v44 st =>
 @gst P v38 true (.mov (.c a1)) st ⟨fun v45 st =>
 @gst P v38 true (.call (.c v40) [(.c v44),(.c v45)]) st ⟨fun v46 st =>
 @gst P v38 true (.bin .eql (.c v46) (.c (.int .i64 0))) st ⟨fun v47 st =>
 @stp P (.pick (.c v38) (.c v47) (.c (.bool false))) st ⟨fun v48 st =>
 GhostV [v9,v48] st fun vs st => K (mkres vs) st⟩⟩⟩⟩⟩⟩⟩⟩⟩⟩⟩⟩⟩⟩
theorem q_slices_BinarySearchFunc_Page_Page_int {P : Program} {a0 a1 a2 : V} {st : St} {K : V → St → Prop} : F_slices_BinarySearchFunc_Page_Page_int P a0 a1 a2 st K = hwp P c_slices_BinarySearchFunc_Page_Page_int (hretQ [.tmp 6, .tmp 7] K) (enterFr [a0, a1, a2]) st := by kernel_rfl
abbrev R_slices_BinarySearchFunc_Page_Page_int (P : Program) : Prop := resFnH P n_slices_BinarySearchFunc_Page_Page_int = some (49, c_slices_BinarySearchFunc_Page_Page_int.er, [.tmp 6, .tmp 7])
theorem A_slices_BinarySearchFunc_Page_Page_int {P : Program} (h : R_slices_BinarySearchFunc_Page_Page_int P) {a0 a1 a2 : V} {st : St} {K : V → St → Prop} (hF : F_slices_BinarySearchFunc_Page_Page_int P a0 a1 a2 st K) : ACalls P n_slices_BinarySearchFunc_Page_Page_int [a0, a1, a2] st K :=
  ACalls_h h rfl (by simp) (q_slices_BinarySearchFunc_Page_Page_int ▸ hF)

def c_redo_again_1 : ACode := (.seq (.reg [(oo 2 (.box (.s 0))),(oo 4 (.mov (.c (.int .i64 0))))]) (.seq (.reg [(oo 5 (.fld 0 (.s 2))),(oo 6 (.ld none (.s 5))),(oo 7 (.mov (.s 1))),(oo 8 (.call (fx n_cmp_Compare_int) [(.s 6),(.s 7)])),(oo 4 (.mov (.s 8)))]) .ret))
def F_redo_again_1 (P : Program) (a0 a1 : V) (st : St) (K : V → St → Prop) : Prop :=
 @stp P (.box (.c a0)) st ⟨fun v2 st =>
 @stp P (.fld 0 (.c v2)) st ⟨fun v5 st =>
 @stp P (.ld none (.c v5)) st ⟨fun v6 st =>
 @stp P (.call (.c (.fn (.func n_cmp_Compare_int) [] [])) [(.c v6),(.c a1)]) st ⟨fun v8 st =>
 GhostV [v8] st fun vs st => K (mkres vs) st⟩⟩⟩⟩
theorem q_redo_again_1 {P : Program} {a0 a1 : V} {st : St} {K : V → St → Prop} : F_redo_again_1 P a0 a1 st K = hwp P c_redo_again_1 (hretQ [.tmp 4] K) (enterFr [a0, a1]) st := by kernel_rfl
abbrev R_redo_again_1 (P : Program) : Prop := resFnH P n_redo_again_1 = some (9, c_redo_again_1.er, [.tmp 4])
theorem A_redo_again_1 {P : Program} (h : R_redo_again_1 P) {a0 a1 : V} {st : St} {K : V → St → Prop} (hF : F_redo_again_1 P a0 a1 st K) : ACalls P n_redo_again_1 [a0, a1] st K :=
  ACalls_h h rfl (by simp) (q_redo_again_1 ▸ hF)

def c_cmp_Compare_int : ACode := (.seq (.reg [(oo 4 (.mov (.c (.int .i64 0))))]) (.seq (.reg [(oo 7 (.mov (.s 0))),(oo 8 (.call (fx n_cmp_isNaN_int) [(.s 7)])),(oo 5 (.mov (.s 8)))]) (.seq (.reg [(oo 9 (.mov (.s 1))),(oo 10 (.call (fx n_cmp_isNaN_int) [(.s 9)])),(oo 6 (.mov (.s 10)))]) (.seq (.seq (.reg [(oo 11 (.mov (.s 5)))]) (.cond (.s 11) (.seq (.seq (.reg [(oo 12 (.mov (.s 6)))]) (.cond (.s 12) (.seq (.reg [(oo 4 (.mov (.c (.int .i64 0))))]) .ret) .skip)) (.seq (.reg [(oo 4 (.mov (.c (.int .i64 (-1)))))]) .ret)) .skip)) (.seq (.seq (.reg [(oo 13 (.mov (.s 6)))]) (.cond (.s 13) (.seq (.reg [(oo 4 (.mov (.c (.int .i64 1))))]) .ret) .skip)) (.seq (.seq (.reg [(oo 14 (.mov (.s 0))),(oo 15 (.mov (.s 1))),(oo 16 (.bin .lss (.s 14) (.s 15)))]) (.cond (.s 16) (.seq (.reg [(oo 4 (.mov (.c (.int .i64 (-1)))))]) .ret) .skip)) (.seq (.seq (.reg [(oo 17 (.mov (.s 0))),(oo 18 (.mov (.s 1))),(oo 19 (.bin .gtr (.s 17) (.s 18)))]) (.cond (.s 19) (.seq (.reg [(oo 4 (.mov (.c (.int .i64 1))))]) .ret) .skip)) (.seq (.reg [(oo 4 (.mov (.c (.int .i64 0))))]) .ret))))))))
def F_cmp_Compare_int (P : Program) (a0 a1 : V) (st : St) (K : V → St → Prop) : Prop :=
 @stp P (.call (.c (.fn (.func n_cmp_isNaN_int) [] [])) [(.c a0)]) st ⟨fun v8 st =>
 @stp P (.call (.c (.fn (.func n_cmp_isNaN_int) [] [])) [(.c a1)]) st ⟨fun v10 st =>
 @cnd v8 ⟨
 @cnd v10 ⟨
 GhostV [(.int .i64 0)] st fun vs st => K (mkres vs) st⟩
 ⟨
 GhostV [(.int .i64 (-1))] st fun vs st => K (mkres vs) st⟩⟩
 ⟨
 @cnd v10 ⟨
 GhostV [(.int .i64 1)] st fun vs st => K (mkres vs) st⟩
 ⟨
 @stp P (.bin .lss (.c a0) (.c a1)) st ⟨fun v16 st =>
 @cnd v16 ⟨
 GhostV [(.int .i64 (-1))] st fun vs st => K (mkres vs) st⟩
 ⟨
 @stp P (.bin .gtr (.c a0) (.c a1)) st ⟨fun v19 st =>
 @cnd v19 ⟨
 GhostV [(.int .i64 1)] st fun vs st => K (mkres vs) st⟩
 ⟨
 GhostV [(.int .i64 0)] st fun vs st => K (mkres vs) st⟩⟩⟩⟩⟩⟩⟩⟩
theorem q_cmp_Compare_int {P : Program} {a0 a1 : V} {st : St} {K : V → St → Prop} : F_cmp_Compare_int P a0 a1 st K = hwp P c_cmp_Compare_int (hretQ [.tmp 4] K) (enterFr [a0, a1]) st := by kernel_rfl
abbrev R_cmp_Compare_int (P : Program) : Prop := resFnH P n_cmp_Compare_int = some (20, c_cmp_Compare_int.er, [.tmp 4])
theorem A_cmp_Compare_int {P : Program} (h : R_cmp_Compare_int P) {a0 a1 : V} {st : St} {K : V → St → Prop} (hF : F_cmp_Compare_int P a0 a1 st K) : ACalls P n_cmp_Compare_int [a0, a1] st K :=
  ACalls_h h rfl (by simp) (q_cmp_Compare_int ▸ hF)

def c_gazetteerref05_Right : ACode := (.seq (.reg [(oo 1 (.box (.s 0))),(oo 2 (.mov (.c (.bool false))))]) (.seq (.seq (.reg [(oo 3 (.fld 1 (.s 1))),(oo 4 (.ld none (.s 3))),(oo 5 (.bin .lss (.s 4) (.c (.int .i64 1)))),(oo 6 (.mov (.s 5))),⟨(some 7),(some (6,false)),(.fld 1 (.s 1))⟩,⟨(some 8),(some (6,false)),(.ld none (.s 7))⟩,⟨(some 9),(some (6,false)),(.bin .gtr (.s 8) (.c (.int .i64 4)))⟩,(oo 10 (.pick (.s 6) (.c (.bool true)) (.s 9))),(oo 11 (.mov (.s 10))),⟨(some 12),(some (11,false)),(.fld 0 (.s 1))⟩,⟨(some 13),(some (11,false)),(.ld none (.s 12))⟩,⟨(some 14),(some (11,false)),(.bin .eql (.s 13) (.c (.int .u64 0)))⟩,(oo 15 (.pick (.s 11) (.c (.bool true)) (.s 14))),(oo 16 (.mov (.s 15))),⟨(some 17),(some (16,false)),(.fld 2 (.s 1))⟩,⟨(some 18),(some (16,false)),(.ld none (.s 17))⟩,⟨(some 19),(some (16,false)),(.bin .eql (.s 18) (.c (.int .u64 0)))⟩,(oo 20 (.pick (.s 16) (.c (.bool true)) (.s 19))),(oo 21 (.mov (.s 20))),⟨(some 22),(some (21,false)),(.fld 3 (.s 1))⟩,⟨(some 23),(some (21,false)),(.ld none (.s 22))⟩,⟨(some 24),(some (21,false)),(.fld 0 (.s 1))⟩,⟨(some 25),(some (21,false)),(.ld none (.s 24))⟩,⟨(some 26),(some (21,false)),(.bin .geq (.s 23) (.s 25))⟩,(oo 27 (.pick (.s 21) (.c (.bool true)) (.s 26))),(oo 28 (.mov (.s 27))),⟨(some 29),(some (28,false)),(.fld 8 (.s 1))⟩,⟨(some 30),(some (28,false)),(.ld none (.s 29))⟩,⟨(some 31),(some (28,false)),(.fld 3 (.s 1))⟩,⟨(some 32),(some (28,false)),(.ld none (.s 31))⟩,⟨(some 33),(some (28,false)),(.bin .gtr (.s 30) (.s 32))⟩,(oo 34 (.pick (.s 28) (.c (.bool true)) (.s 33)))]) (.cond (.s 34) (.seq (.reg [(oo 2 (.mov (.c (.bool false))))]) .ret) .skip)) (.seq (.seq (.reg [(oo 35 (.fld 4 (.s 1))),(oo 36 (.ld none (.s 35))),(oo 37 (.bin .lss (.s 36) (.c (.int .i64 0)))),(oo 38 (.mov (.s 37))),⟨(some 39),(some (38,false)),(.fld 4 (.s 1))⟩,⟨(some 40),(some (38,false)),(.ld none (.s 39))⟩,⟨(some 41),(some (38,false)),(.bin .gtr (.s 40) (.c (.int .i64 31)))⟩,(oo 42 (.pick (.s 38) (.c (.bool true)) (.s 41))),(oo 43 (.mov (.s 42))),⟨(some 44),(some (43,false)),(.fld 5 (.s 1))⟩,⟨(some 45),(some (43,false)),(.ld none (.s 44))⟩,⟨(some 46),(some (43,false)),(.bin .lss (.s 45) (.c (.int .i64 0)))⟩,(oo 47 (.pick (.s 43) (.c (.bool true)) (.s 46))),(oo 48 (.mov (.s 47))),⟨(some 49),(some (48,false)),(.fld 5 (.s 1))⟩,⟨(some 50),(some (48,false)),(.ld none (.s 49))⟩,⟨(some 51),(some (48,false)),(.bin .gtr (.s 50) (.c (.int .i64 3)))⟩,(oo 52 (.pick (.s 48) (.c (.bool true)) (.s 51))),(oo 53 (.mov (.s 52))),⟨(some 54),(some (53,false)),(.fld 6 (.s 1))⟩,⟨(some 55),(some (53,false)),(.ld none (.s 54))⟩,⟨(some 56),(some (53,false)),(.len .sl (.s 55))⟩,⟨(some 57),(some (53,false)),(.bin .gtr (.s 56) (.c (.int .i64 52)))⟩,(oo 58 (.pick (.s 53) (.c (.bool true)) (.s 57))),(oo 59 (.mov (.s 58))),⟨(some 60),(some (59,false)),(.fld 7 (.s 1))⟩,⟨(some 61),(some (59,false)),(.ld none (.s 60))⟩,⟨(some 62),(some (59,false)),(.len .sl (.s 61))⟩,⟨(some 63),(some (59,false)),(.bin .gtr (.s 62) (.c (.int .i64 52)))⟩,(oo 64 (.pick (.s 59) (.c (.bool true)) (.s 63)))]) (.cond (.s 64) (.seq (.reg [(oo 2 (.mov (.c (.bool false))))]) .ret) .skip)) (.seq (.seq (.reg [(oo 65 (.fld 1 (.s 1))),(oo 66 (.ld none (.s 65))),(oo 67 (.bin .eql (.s 66) (.c (.int .i64 1))))]) (.cond (.s 67) (.seq (.reg [(oo 68 (.fld 8 (.s 1))),(oo 69 (.ld none (.s 68))),(oo 70 (.bin .eql (.s 69) (.c (.int .u64 0)))),(oo 71 (.mov (.s 70))),⟨(some 72),(some (71,true)),(.fld 6 (.s 1))⟩,⟨(some 73),(some (71,true)),(.ld none (.s 72))⟩,⟨(some 74),(some (71,true)),(.fld 7 (.s 1))⟩,⟨(some 75),(some (71,true)),(.ld none (.s 74))⟩,⟨(some 76),(some (71,true)),(.call (fx n_gazetteerref01_Same) [(.s 73),(.s 75)])⟩,⟨(some 77),(some (71,true)),(.un .not (.s 76))⟩,(oo 78 (.pick (.s 71) (.s 77) (.c (.bool false)))),(oo 2 (.mov (.s 78)))]) .ret) .skip)) (.seq (.seq (.reg [(oo 79 (.fld 1 (.s 1))),(oo 80 (.ld none (.s 79))),(oo 81 (.bin .eql (.s 80) (.c (.int .i64 2))))]) (.cond (.s 81) (.seq (.reg [(oo 82 (.fld 6 (.s 1))),(oo 83 (.ld none (.s 82))),(oo 84 (.len .sl (.s 83))),(oo 85 (.bin .eql (.s 84) (.c (.int .i64 0)))),(oo 2 (.mov (.s 85)))]) .ret) .skip)) (.seq (.reg [(oo 86 (.fld 4 (.s 1))),(oo 87 (.ld none (.s 86))),(oo 88 (.bin .eql (.s 87) (.c (.int .i64 0)))),(oo 89 (.mov (.s 88))),⟨(some 90),(some (89,true)),(.fld 5 (.s 1))⟩,⟨(some 91),(some (89,true)),(.ld none (.s 90))⟩,⟨(some 92),(some (89,true)),(.bin .eql (.s 91) (.c (.int .i64 0)))⟩,(oo 93 (.pick (.s 89) (.s 92) (.c (.bool false)))),(oo 94 (.mov (.s 93))),⟨(some 95),(some (94,true)),(.fld 6 (.s 1))⟩,⟨(some 96),(some (94,true)),(.ld none (.s 95))⟩,⟨(some 97),(some (94,true)),(.len .sl (.s 96))⟩,⟨(some 98),(some (94,true)),(.bin .eql (.s 97) (.c (.int .i64 0)))⟩,(oo 99 (.pick (.s 94) (.s 98) (.c (.bool false)))),(oo 100 (.mov (.s 99))),⟨(some 101),(some (100,true)),(.fld 7 (.s 1))⟩,⟨(some 102),(some (100,true)),(.ld none (.s 101))⟩,⟨(some 103),(some (100,true)),(.len .sl (.s 102))⟩,⟨(some 104),(some (100,true)),(.bin .eql (.s 103) (.c (.int .i64 0)))⟩,(oo 105 (.pick (.s 100) (.s 104) (.c (.bool false)))),(oo 106 (.mov (.s 105))),⟨(some 107),(some (106,true)),(.fld 8 (.s 1))⟩,⟨(some 108),(some (106,true)),(.ld none (.s 107))⟩,⟨(some 109),(some (106,true)),(.bin .eql (.s 108) (.c (.int .u64 0)))⟩,(oo 110 (.pick (.s 106) (.s 109) (.c (.bool false)))),(oo 2 (.mov (.s 110)))]) .ret))))))
def F_gazetteerref05_Right (P : Program) (a0 : V) (st : St) (K : V → St → Prop) : Prop :=
 @stp P (.box (.c a0)) st ⟨fun v1 st =>
 @stp P (.fld 1 (.c v1)) st ⟨fun v3 st =>
 @stp P (.ld none (.c v3)) st ⟨fun v4 st =>
 @stp P (.bin .lss (.c v4) (.c (.int .i64 1))) st ⟨fun v5 st =>
 @gst P v5 false (.fld 1 (.c v1)) st ⟨fun v7 st =>
 @gst P v5 false (.ld none (.c v7)) st ⟨fun v8 st =>
 @gst P v5 false (.bin .gtr (.c v8) (.c (.int .i64 4))) st ⟨fun v9 st =>
 @stp P (.pick (.c v5) (.c (.bool true)) (.c v9)) st ⟨fun v10 st =>
 @gst P v10 false (.fld 0 (.c v1)) st ⟨fun v12 st =>
 @gst P v10 false (.ld none (.c v12)) st ⟨fun v13 st =>
 @gst P v10 false (.bin .eql (.c v13) (.c (.int .u64 0))) st ⟨fun v14 st =>
 @stp P (.pick (.c v10) (.c (.bool true)) (.c v14)) st ⟨fun v15 st =>
 @gst P v15 false (.fld 2 (.c v1)) st ⟨fun v17 st =>
 @gst P v15 false (.ld none (.c v17)) st ⟨fun v18 st =>
 @gst P v15 false (.bin .eql (.c v18) (.c (.int .u64 0))) st ⟨fun v19 st =>
 @stp P (.pick (.c v15) (.c (.bool true)) (.c v19)) st ⟨fun v20 st =>
 @gst P v20 false (.fld 3 (.c v1)) st ⟨fun v22 st =>
 @gst P v20 false (.ld none (.c v22)) st ⟨fun v23 st =>
 @gst P v20 false (.fld 0 (.c v1)) st ⟨fun v24 st =>
 @gst P v20 false (.ld none (.c v24)) st ⟨fun v25 st =>
 @gst P v20 false (.bin .geq (.c v23) (.c v25)) st ⟨fun v26 st =>
 @stp P (.pick (.c v20) (.c (.bool true)) (.c v26)) st ⟨fun v27 st =>
 @gst P v27 false (.fld 8 (.c v1)) st ⟨fun v29 st =>
 @gst P v27 false (.ld none (.c v29)) st ⟨fun v30 st =>
 @gst P v27 false (.fld 3 (.c v1)) st ⟨fun v31 st =>
 @gst P v27 false (.ld none (.c v31)) st ⟨fun v32 st =>
 @gst P v27 false (.bin .gtr (.c v30) (.c v32)) st ⟨fun v33 st =>
 @stp P (.pick (.c v27) (.c (.bool true)) (.c v33)) st ⟨fun v34 st =>
 @cnd v34 ⟨
 GhostV [(.bool false)] st fun vs st => K (mkres vs) st⟩
 ⟨
 @stp P (.fld 4 (.c v1)) st ⟨fun v35 st =>
 @stp P (.ld none (.c v35)) st ⟨fun v36 st =>
 @stp P (.bin .lss (.c v36) (.c (.int .i64 0))) st ⟨fun v37 st =>
 @gst P v37 false (.fld 4 (.c v1)) st ⟨fun v39 st =>
 @gst P v37 false (.ld none (.c v39)) st ⟨fun v40 st =>
 @gst P v37 false (.bin .gtr (.c v40) (.c (.int .i64 31))) st ⟨fun v41 st =>
 @stp P (.pick (.c v37) (.c (.bool true)) (.c v41)) st ⟨fun v42 st =>
 @gst P v42 false (.fld 5 (.c v1)) st ⟨fun v44 st =>
 @gst P v42 false (.ld none (.c v44)) st ⟨fun v45 st =>
 @gst P v42 false (.bin .lss (.c v45) (.c (.int .i64 0))) st ⟨fun v46 st =>
 @stp P (.pick (.c v42) (.c (.bool true)) (.c v46)) st ⟨fun v47 st =>
 @gst P v47 false (.fld 5 (.c v1)) st ⟨fun v49 st =>
 @gst P v47 false (.ld none (.c v49)) st ⟨fun v50 st =>
 @gst P v47 false (.bin .gtr (.c v50) (.c (.int .i64 3))) st ⟨fun v51 st =>
 @stp P (.pick (.c v47) (.c (.bool true)) (.c v51)) st ⟨fun v52 st =>
 @gst P v52 false (.fld 6 (.c v1)) st ⟨fun v54 st =>
 @gst P v52 false (.ld none (.c v54)) st ⟨fun v55 st =>
 @gst P v52 false (.len .sl (.c v55)) st ⟨fun v56 st =>
 @gst P v52 false (.bin .gtr (.c v56) (.c (.int .i64 52))) st ⟨fun v57 st =>
 @stp P (.pick (.c v52) (.c (.bool true)) (.c v57)) st ⟨fun v58 st =>
 @gst P v58 false (.fld 7 (.c v1)) st ⟨fun v60 st =>
 @gst P v58 false (.ld none (.c v60)) st ⟨fun v61 st =>
 @gst P v58 false (.len .sl (.c v61)) st ⟨fun v62 st =>
 @gst P v58 false (.bin .gtr (.c v62) (.c (.int .i64 52))) st ⟨fun v63 st =>
 @stp P (.pick (.c v58) (.c (.bool true)) (.c v63)) st ⟨fun v64 st =>
 @cnd v64 ⟨
 GhostV [(.bool false)] st fun vs st => K (mkres vs) st⟩
 ⟨
 @stp P (.fld 1 (.c v1)) st ⟨fun v65 st =>
 @stp P (.ld none (.c v65)) st ⟨fun v66 st =>
 @stp P (.bin .eql (.c v66) (.c (.int .i64 1))) st ⟨fun v67 st =>
 @cnd v67 ⟨
 @stp P (.fld 8 (.c v1)) st ⟨fun v68 st =>
 @stp P (.ld none (.c v68)) st ⟨fun v69 st =>
 @stp P (.bin .eql (.c v69) (.c (.int .u64 0))) st ⟨fun v70 st =>
 @gst P v70 true (.fld 6 (.c v1)) st ⟨fun v72 st =>
 @gst P v70 true (.ld none (.c v72)) st ⟨fun v73 st =>
 @gst P v70 true (.fld 7 (.c v1)) st ⟨fun v74 st =>
 @gst P v70 true (.ld none (.c v74)) st ⟨fun v75 st =>
 @gst P v70 true (.call (.c (.fn (.func n_gazetteerref01_Same) [] [])) [(.c v73),(.c v75)]) st ⟨fun v76 st =>
 @gst P v70 true (.un .not (.c v76)) st ⟨fun v77 st =>
 @stp P (.pick (.c v70) (.c v77) (.c (.bool false))) st ⟨fun v78 st =>
 GhostV [v78] st fun vs st => K (mkres vs) st⟩⟩⟩⟩⟩⟩⟩⟩⟩⟩⟩
 ⟨
 @stp P (.fld 1 (.c v1)) st ⟨fun v79 st =>
 @stp P (.ld none (.c v79)) st ⟨fun v80 st =>
 @stp P (.bin .eql (.c v80) (.c (.int .i64 2))) st ⟨fun v81 st =>
 @cnd v81 ⟨
 @stp P (.fld 6 (.c v1)) st ⟨fun v82 st =>
 @stp P (.ld none (.c v82)) st ⟨fun v83 st =>
 @stp P (.len .sl (.c v83)) st ⟨fun v84 st =>
 @stp P (.bin .eql (.c v84) (.c (.int .i64 0))) st ⟨fun v85 st =>
 GhostV [v85] st fun vs st => K (mkres vs) st⟩⟩⟩⟩⟩
 ⟨
 @stp P (.fld 4 (.c v1)) st ⟨fun v86 st =>
 @stp P (.ld none (.c v86)) st ⟨fun v87 st =>
 @stp P (.bin .eql (.c v87) (.c (.int .i64 0))) st ⟨fun v88 st =>
 @gst P v88 true (.fld 5 (.c v1)) st ⟨fun v90 st =>
 @gst P v88 true (.ld none (.c v90)) st ⟨fun v91 st =>
 @gst P v88 true (.bin .eql (.c v91) (.c (.int .i64 0))) st ⟨fun v92 st =>
 @stp P (.pick (.c v88) (.c v92) (.c (.bool false))) st ⟨fun v93 st =>
 @gst P v93 true (.fld 6 (.c v1)) st ⟨fun v95 st =>
 @gst P v93 true (.ld none (.c v95)) st ⟨fun v96 st =>
 @gst P v93 true (.len .sl (.c v96)) st ⟨fun v97 st =>
 @gst P v93 true (.bin .eql (.c v97) (.c (.int .i64 0))) st ⟨fun v98 st =>
 @stp P (.pick (.c v93) (.c v98) (.c (.bool false))) st ⟨fun v99 st =>
 @gst P v99 true (.fld 7 (.c v1)) st ⟨fun v101 st =>
 @gst P v99 true (.ld none (.c v101)) st ⟨fun v102 st =>
 @gst P v99 true (.len .sl (.c v102)) st ⟨fun v103 st =>
 @gst P v99 true (.bin .eql (.c v103) (.c (.int .i64 0))) st ⟨fun v104 st =>
 @stp P (.pick (.c v99) (.c v104) (.c (.bool false))) st ⟨fun v105 st =>
 @gst P v105 true (.fld 8 (.c v1)) st ⟨fun v107 st =>
 @gst P v105 true (.ld none (.c v107)) st ⟨fun v108 st =>
 @gst P v105 true (.bin .eql (.c v108) (.c (.int .u64 0))) st ⟨fun v109 st =>
 @stp P (.pick (.c v105) (.c v109) (.c (.bool false))) st ⟨fun v110 st =>
 GhostV [v110] st fun vs st => K (mkres vs) st⟩⟩⟩⟩⟩⟩⟩⟩⟩⟩⟩⟩⟩⟩⟩⟩⟩⟩⟩⟩⟩⟩⟩⟩⟩⟩⟩⟩⟩⟩⟩⟩⟩⟩⟩⟩⟩⟩⟩⟩⟩⟩⟩⟩⟩⟩⟩⟩⟩⟩⟩⟩⟩⟩⟩⟩⟩⟩⟩⟩⟩⟩⟩⟩⟩⟩⟩⟩⟩⟩⟩⟩⟩⟩⟩⟩⟩⟩⟩⟩⟩⟩⟩⟩
theorem q_gazetteerref05_Right {P : Program} {a0 : V} {st : St} {K : V → St → Prop} : F_gazetteerref05_Right P a0 st K = hwp P c_gazetteerref05_Right (hretQ [.tmp 2] K) (enterFr [a0]) st := by kernel_rfl
abbrev R_gazetteerref05_Right (P : Program) : Prop := resFnH P n_gazetteerref05_Right = some (111, c_gazetteerref05_Right.er, [.tmp 2])
theorem A_gazetteerref05_Right {P : Program} (h : R_gazetteerref05_Right P) {a0 : V} {st : St} {K : V → St → Prop} (hF : F_gazetteerref05_Right P a0 st K) : ACalls P n_gazetteerref05_Right [a0] st K :=
  ACalls_h h rfl (by simp) (q_gazetteerref05_Right ▸ hF)

def c_gazetteerref01_Same : ACode := (.seq (.reg [(oo 4 (.mov (.c (.bool false))))]) (.seq (.seq (.reg [(oo 6 (.mov (.s 0))),(oo 7 (.len .sl (.s 6))),(oo 8 (.mov (.s 1))),(oo 9 (.len .sl (.s 8))),(oo 10 (.bin .neq (.s 7) (.s 9)))]) (.cond (.s 10) (.seq (.reg [(oo 4 (.mov (.c (.bool false))))]) .ret) .skip)) (.seq (.seq (.reg [(oo 5 (.mov (.c (.int .i64 0))))]) (.block 0 (.loop [5] [4,5,11,12,13,14,15,16,17,18,19,20,21,22,23,24,25] (.seq (.seq (.reg [(oo 11 (.mov (.s 5))),(oo 12 (.mov (.s 0))),(oo 13 (.len .sl (.s 12))),(oo 14 (.bin .lss (.s 11) (.s 13)))]) (.cond (.s 14) .skip (.exit 0))) (.seq (.block 1 (.seq (.regD [(oo 17 (.mov (.s 0))),(oo 18 (.mov (.s 5))),(oo 19 (.idx 1 (.s 17) (.s 18))),(oo 20 (.ld none (.s 19))),(oo 21 (.mov (.s 1))),(oo 22 (.mov (.s 5))),(oo 23 (.idx 1 (.s 21) (.s 22))),(oo 24 (.ld none (.s 23))),(oo 25 (.bin .neq (.s 20) (.s 24)))] [(0,(false,[])),(1,(false,[])),(2,(false,[])),(3,(false,[])),(4,(false,[])),(5,(false,[])),(6,(false,[])),(7,(false,[])),(8,(false,[]))]) (.cond (.s 25) (.seq (.reg [(oo 4 (.mov (.c (.bool false))))]) .ret) .skip))) (.reg [(oo 15 (.mov (.s 5))),(oo 16 (.bin .add (.s 15) (.c (.int .i64 1)))),(oo 5 (.mov (.s 16)))])))))) (.seq (.reg [(oo 4 (.mov (.c (.bool true))))]) .ret))))
def F_gazetteerref01_Same (P : Program) (a0 a1 : V) (st : St) (K : V → St → Prop) : Prop :=
 @stp P (.len .sl (.c a0)) st ⟨fun v7 st =>
 @stp P (.len .sl (.c a1)) st ⟨fun v9 st =>
 @stp P (.bin .neq (.c v7) (.c v9)) st ⟨fun v10 st =>
 @cnd v10 ⟨
 GhostV [(.bool false)] st fun vs st => K (mkres vs) st⟩
 ⟨
 @Hold ⟨∃ I1 : Nat → Rel 1,(∃ k,GhostV [(.int .i64 0)] st (app (I1 k))) ∧ ∀ k1 v5,∀ st,app (I1 k1) [v5] st →
 @stp P (.len .sl (.c a0)) st ⟨fun v13 st =>
 @stp P (.bin .lss (.c v5) (.c v13)) st ⟨fun v14 st =>
 @cnd v14 ⟨
 @stpD P (.idx 1 (.c a0) (.c v5)) st ⟨fun v19 st =>
 @stpD P (.ld none (.c v19)) st ⟨fun v20 st =>
 @stpD P (.idx 1 (.c a1) (.c v5)) st ⟨fun v23 st =>
 @stpD P (.ld none (.c v23)) st ⟨fun v24 st =>
 @stpD P (.bin .neq (.c v20) (.c v24)) st ⟨fun v25 st =>
 @cnd v25 ⟨
 GhostV [(.bool false)] st fun vs st => K (mkres vs) st⟩
 ⟨
 @stp P (.bin .add (.c v5) (.c (.int .i64 1))) st ⟨fun v16 st =>
 ∃ j,j < k1 ∧ GhostV [v16] st (app (I1 j))⟩⟩⟩⟩⟩⟩⟩⟩
 ⟨
 GhostV [(.bool true)] st fun vs st => K (mkres vs) st⟩⟩⟩⟩⟩⟩⟩⟩
theorem q_gazetteerref01_Same {P : Program} {a0 a1 : V} {st : St} {K : V → St → Prop} : F_gazetteerref01_Same P a0 a1 st K = hwp P c_gazetteerref01_Same (hretQ [.tmp 4] K) (enterFr [a0, a1]) st := by kernel_rfl
abbrev R_gazetteerref01_Same (P : Program) : Prop := resFnH P n_gazetteerref01_Same = some (26, c_gazetteerref01_Same.er, [.tmp 4])
theorem A_gazetteerref01_Same {P : Program} (h : R_gazetteerref01_Same P) {a0 a1 : V} {st : St} {K : V → St → Prop} (hF : F_gazetteerref01_Same P a0 a1 st K) : ACalls P n_gazetteerref01_Same [a0, a1] st K :=
  ACalls_h h rfl (by simp) (q_gazetteerref01_Same ▸ hF)

def c_page_Check_1 : ACode := (.seq (.reg [(oo 2 (.mov (.c (.bool false))))]) (.seq (.reg [(oo 3 (.mov (.s 0))),(oo 4 (.len .sl (.s 3))),(oo 5 (.bin .gtr (.s 4) (.c (.int .i64 52)))),(oo 2 (.mov (.s 5)))]) .ret))
def F_page_Check_1 (P : Program) (a0 : V) (st : St) (K : V → St → Prop) : Prop :=
 @stp P (.len .sl (.c a0)) st ⟨fun v4 st =>
 @stp P (.bin .gtr (.c v4) (.c (.int .i64 52))) st ⟨fun v5 st =>
 GhostV [v5] st fun vs st => K (mkres vs) st⟩⟩
theorem q_page_Check_1 {P : Program} {a0 : V} {st : St} {K : V → St → Prop} : F_page_Check_1 P a0 st K = hwp P c_page_Check_1 (hretQ [.tmp 2] K) (enterFr [a0]) st := by kernel_rfl
abbrev R_page_Check_1 (P : Program) : Prop := resFnH P n_page_Check_1 = some (6, c_page_Check_1.er, [.tmp 2])
theorem A_page_Check_1 {P : Program} (h : R_page_Check_1 P) {a0 : V} {st : St} {K : V → St → Prop} (hF : F_page_Check_1 P a0 st K) : ACalls P n_page_Check_1 [a0] st K :=
  ACalls_h h rfl (by simp) (q_page_Check_1 ▸ hF)

def c_page_numbered : ACode := (.seq (.reg [(oo 2 (.mov (.c (.bool false))))]) (.seq (.reg [(oo 3 (.mov (.s 0))),(oo 4 (.bin .geq (.s 3) (.c (.int .i64 0)))),(oo 5 (.mov (.s 4))),⟨(some 6),(some (5,true)),(.mov (.s 0))⟩,⟨(some 7),(some (5,true)),(.bin .lss (.s 6) (.c (.int .i64 32)))⟩,(oo 8 (.pick (.s 5) (.s 7) (.c (.bool false)))),(oo 2 (.mov (.s 8)))]) .ret))
def F_page_numbered (P : Program) (a0 : V) (st : St) (K : V → St → Prop) : Prop :=
 @stp P (.bin .geq (.c a0) (.c (.int .i64 0))) st ⟨fun v4 st =>
 @gst P v4 true (.mov (.c a0)) st ⟨fun v6 st =>
 @gst P v4 true (.bin .lss (.c v6) (.c (.int .i64 32))) st ⟨fun v7 st =>
 @stp P (.pick (.c v4) (.c v7) (.c (.bool false))) st ⟨fun v8 st =>
 GhostV [v8] st fun vs st => K (mkres vs) st⟩⟩⟩⟩
theorem q_page_numbered {P : Program} {a0 : V} {st : St} {K : V → St → Prop} : F_page_numbered P a0 st K = hwp P c_page_numbered (hretQ [.tmp 2] K) (enterFr [a0]) st := by kernel_rfl
abbrev R_page_numbered (P : Program) : Prop := resFnH P n_page_numbered = some (9, c_page_numbered.er, [.tmp 2])
theorem A_page_numbered {P : Program} (h : R_page_numbered P) {a0 : V} {st : St} {K : V → St → Prop} (hF : F_page_numbered P a0 st K) : ACalls P n_page_numbered [a0] st K :=
  ACalls_h h rfl (by simp) (q_page_numbered ▸ hF)

def c_slices_ContainsFunc_Lbyte_Lbyte : ACode := (.seq (.reg [(oo 4 (.mov (.c (.bool false))))]) (.seq (.reg [(oo 5 (.mov (.s 0))),(oo 6 (.mov (.s 1))),(oo 7 (.call (fx n_slices_IndexFunc_Lbyte_Lbyte) [(.s 5),(.s 6)])),(oo 8 (.bin .geq (.s 7) (.c (.int .i64 0)))),(oo 4 (.mov (.s 8)))]) .ret))
def F_slices_ContainsFunc_Lbyte_Lbyte (P : Program) (a0 a1 : V) (st : St) (K : V → St → Prop) : Prop :=
 @stp P (.call (.c (.fn (.func n_slices_IndexFunc_Lbyte_Lbyte) [] [])) [(.c a0),(.c a1)]) st ⟨fun v7 st =>
 @stp P (.bin .geq (.c v7) (.c (.int .i64 0))) st ⟨fun v8 st =>
 GhostV [v8] st fun vs st => K (mkres vs) st⟩⟩
theorem q_slices_ContainsFunc_Lbyte_Lbyte {P : Program} {a0 a1 : V} {st : St} {K : V → St → Prop} : F_slices_ContainsFunc_Lbyte_Lbyte P a0 a1 st K = hwp P c_slices_ContainsFunc_Lbyte_Lbyte (hretQ [.tmp 4] K) (enterFr [a0, a1]) st := by kernel_rfl
abbrev R_slices_ContainsFunc_Lbyte_Lbyte (P : Program) : Prop := resFnH P n_slices_ContainsFunc_Lbyte_Lbyte = some (9, c_slices_ContainsFunc_Lbyte_Lbyte.er, [.tmp 4])
theorem A_slices_ContainsFunc_Lbyte_Lbyte {P : Program} (h : R_slices_ContainsFunc_Lbyte_Lbyte P) {a0 a1 : V} {st : St} {K : V → St → Prop} (hF : F_slices_ContainsFunc_Lbyte_Lbyte P a0 a1 st K) : ACalls P n_slices_ContainsFunc_Lbyte_Lbyte [a0, a1] st K :=
  ACalls_h h rfl (by simp) (q_slices_ContainsFunc_Lbyte_Lbyte ▸ hF)

def c_slices_Sorted_uint64 : ACode := (.seq (.reg [(oo 2 (.mov nx0))]) (.seq (.reg [(oo 4 (.mov (.s 0))),(oo 5 (.call (fx n_slices_Collect_uint64) [(.s 4)])),(oo 3 (.mov (.s 5)))]) (.seq (.reg [(oo 6 (.mov (.s 3))),(oo 7 (.call (fx n_slices_Sort_uint64_uint64) [(.s 6)]))]) (.seq (.reg [(oo 8 (.mov (.s 3))),(oo 2 (.mov (.s 8)))]) .ret))))
def F_slices_Sorted_uint64 (P : Program) (a0 : V) (st : St) (K : V → St → Prop) : Prop :=
 @stp P (.call (.c (.fn (.func n_slices_Collect_uint64) [] [])) [(.c a0)]) st ⟨fun v5 st =>
 @stp P (.call (.c (.fn (.func n_slices_Sort_uint64_uint64) [] [])) [(.c v5)]) st ⟨fun v7 st =>
 GhostV [v5] st fun vs st => K (mkres vs) st⟩⟩
theorem q_slices_Sorted_uint64 {P : Program} {a0 : V} {st : St} {K : V → St → Prop} : F_slices_Sorted_uint64 P a0 st K = hwp P c_slices_Sorted_uint64 (hretQ [.tmp 2] K) (enterFr [a0]) st := by kernel_rfl
abbrev R_slices_Sorted_uint64 (P : Program) : Prop := resFnH P n_slices_Sorted_uint64 = some (9, c_slices_Sorted_uint64.er, [.tmp 2])
theorem A_slices_Sorted_uint64 {P : Program} (h : R_slices_Sorted_uint64 P) {a0 : V} {st : St} {K : V → St → Prop} (hF : F_slices_Sorted_uint64 P a0 st K) : ACalls P n_slices_Sorted_uint64 [a0] st K :=
  ACalls_h h rfl (by simp) (q_slices_Sorted_uint64 ▸ hF)

def c_maps_Keys_map_uint64_Open_uint64_Open : ACode := (.seq (.reg [(oo 1 (.box (.s 0))),(oo 2 (.mov (.c .nilf)))]) (.seq (.reg [(oo 3 (.mkfn (.func n_maps_Keys_map_uint64_Open_uint64_Open_1) [] [(.s 1)])),(oo 2 (.mov (.s 3)))]) .ret))
def F_maps_Keys_map_uint64_Open_uint64_Open (P : Program) (a0 : V) (st : St) (K : V → St → Prop) : Prop :=
 @stp P (.box (.c a0)) st ⟨fun v1 st =>
 @stp P (.mkfn (.func n_maps_Keys_map_uint64_Open_uint64_Open_1) [] [(.c v1)]) st ⟨fun v3 st =>
 GhostV [v3] st fun vs st => K (mkres vs) st⟩⟩
theorem q_maps_Keys_map_uint64_Open_uint64_Open {P : Program} {a0 : V} {st : St} {K : V → St → Prop} : F_maps_Keys_map_uint64_Open_uint64_Open P a0 st K = hwp P c_maps_Keys_map_uint64_Open_uint64_Open (hretQ [.tmp 2] K) (enterFr [a0]) st := by kernel_rfl
abbrev R_maps_Keys_map_uint64_Open_uint64_Open (P : Program) : Prop := resFnH P n_maps_Keys_map_uint64_Open_uint64_Open = some (4, c_maps_Keys_map_uint64_Open_uint64_Open.er, [.tmp 2])
theorem A_maps_Keys_map_uint64_Open_uint64_Open {P : Program} (h : R_maps_Keys_map_uint64_Open_uint64_Open P) {a0 : V} {st : St} {K : V → St → Prop} (hF : F_maps_Keys_map_uint64_Open_uint64_Open P a0 st K) : ACalls P n_maps_Keys_map_uint64_Open_uint64_Open [a0] st K :=
  ACalls_h h rfl (by simp) (q_maps_Keys_map_uint64_Open_uint64_Open ▸ hF)

def c_record_fields : ACode := (.seq (.reg [(oo 2 (.mov (.c (.int .i64 0)))),(oo 3 (.mov (.c (.bool false))))]) (.seq (.seq (.reg [(oo 4 (.mov (.s 0)))]) (.block 0 (.seq (.reg [(oo 6 (.bin .eql (.s 4) (.c (.int .i64 1)))),(oo 5 (.mov (.s 6)))]) (.cond (.s 5) (.seq (.reg [(oo 2 (.mov (.c (.int .i64 7)))),(oo 3 (.mov (.c (.bool true))))]) .ret) (.seq (.reg [(oo 8 (.bin .eql (.s 4) (.c (.int .i64 2)))),(oo 7 (.mov (.s 8)))]) (.cond (.s 7) (.seq (.reg [(oo 2 (.mov (.c (.int .i64 13)))),(oo 3 (.mov (.c (.bool true))))]) .ret) (.seq (.seq (.reg [(oo 10 (.bin .eql (.s 4) (.c (.int .i64 3)))),(oo 9 (.mov (.s 10)))]) (.cond (.s 9) .skip (.reg [(oo 11 (.bin .eql (.s 4) (.c (.int .i64 4)))),(oo 9 (.mov (.s 11)))]))) (.cond (.s 9) (.seq (.reg [(oo 2 (.mov (.c (.int .i64 0)))),(oo 3 (.mov (.c (.bool true))))]) .ret) .skip)))))))) (.seq (.reg [(oo 2 (.mov (.c (.int .i64 0)))),(oo 3 (.mov (.c (.bool false))))]) .ret)))
def F_record_fields (P : Program) (a0 : V) (st : St) (K : V → St → Prop) : Prop :=
 @stp P (.bin .eql (.c a0) (.c (.int .i64 1))) st ⟨fun v6 st =>
 @cnd v6 ⟨
 GhostV [(.int .i64 7),(.bool true)] st fun vs st => K (mkres vs) st⟩
 ⟨
 @stp P (.bin .eql (.c a0) (.c (.int .i64 2))) st ⟨fun v8 st =>
 @cnd v8 ⟨
 GhostV [(.int .i64 13),(.bool true)] st fun vs st => K (mkres vs) st⟩
 ⟨
 @stp P (.bin .eql (.c a0) (.c (.int .i64 3))) st ⟨fun v10 st =>
 @cnd v10 ⟨
 @cnd v10 ⟨
 GhostV [(.int .i64 0),(.bool true)] st fun vs st => K (mkres vs) st⟩
 ⟨
 GhostV [(.int .i64 0),(.bool false)] st fun vs st => K (mkres vs) st⟩⟩
 ⟨
 @stp P (.bin .eql (.c a0) (.c (.int .i64 4))) st ⟨fun v11 st =>
 @cnd v11 ⟨
 GhostV [(.int .i64 0),(.bool true)] st fun vs st => K (mkres vs) st⟩
 ⟨
 GhostV [(.int .i64 0),(.bool false)] st fun vs st => K (mkres vs) st⟩⟩⟩⟩⟩⟩⟩⟩
theorem q_record_fields {P : Program} {a0 : V} {st : St} {K : V → St → Prop} : F_record_fields P a0 st K = hwp P c_record_fields (hretQ [.tmp 2, .tmp 3] K) (enterFr [a0]) st := by kernel_rfl
abbrev R_record_fields (P : Program) : Prop := resFnH P n_record_fields = some (12, c_record_fields.er, [.tmp 2, .tmp 3])
theorem A_record_fields {P : Program} (h : R_record_fields P) {a0 : V} {st : St} {K : V → St → Prop} (hF : F_record_fields P a0 st K) : ACalls P n_record_fields [a0] st K :=
  ACalls_h h rfl (by simp) (q_record_fields ▸ hF)

def c_record_field_has : ACode := (.seq (.reg [(oo 4 (.mov (.c (.bool false))))]) (.seq (.reg [(oo 5 (.mov (.s 0))),(oo 6 (.mov (.s 1))),(oo 7 (.bin .and (.s 5) (.s 6))),(oo 8 (.bin .neq (.s 7) (.c (.int .i64 0)))),(oo 4 (.mov (.s 8)))]) .ret))
def F_record_field_has (P : Program) (a0 a1 : V) (st : St) (K : V → St → Prop) : Prop :=
 @stp P (.bin .and (.c a0) (.c a1)) st ⟨fun v7 st =>
 @stp P (.bin .neq (.c v7) (.c (.int .i64 0))) st ⟨fun v8 st =>
 GhostV [v8] st fun vs st => K (mkres vs) st⟩⟩
theorem q_record_field_has {P : Program} {a0 a1 : V} {st : St} {K : V → St → Prop} : F_record_field_has P a0 a1 st K = hwp P c_record_field_has (hretQ [.tmp 4] K) (enterFr [a0, a1]) st := by kernel_rfl
abbrev R_record_field_has (P : Program) : Prop := resFnH P n_record_field_has = some (9, c_record_field_has.er, [.tmp 4])
theorem A_record_field_has {P : Program} (h : R_record_field_has P) {a0 a1 : V} {st : St} {K : V → St → Prop} (hF : F_record_field_has P a0 a1 st K) : ACalls P n_record_field_has [a0, a1] st K :=
  ACalls_h h rfl (by simp) (q_record_field_has ▸ hF)

def c_record_ahead_1 : ACode := (.seq (.reg [(oo 6 (.ld none (.s 1))),(oo 7 (.bin .sub (.s 6) (.c (.int .i64 1)))),(oo 5 (.mov (.s 7)))]) (.block 0 (.loop [5] [5,8,9,10,11,12,13,14,15,16,17,18,19,20,21,22,23,24,25,26,27] (.seq (.seq (.reg [(oo 8 (.mov (.s 5))),(oo 9 (.bin .geq (.s 8) (.c (.int .i64 0))))]) (.cond (.s 9) .skip (.exit 0))) (.seq (.block 1 (.seq (.regD [(oo 12 (.ld none (.s 2))),(oo 13 (.mov (.s 5))),(oo 14 (.idx 9 (.s 12) (.s 13))),(oo 15 (.fld 2 (.s 14))),(oo 16 (.ld none (.s 15))),(oo 17 (.ld none (.s 3))),(oo 18 (.bin .eql (.s 16) (.s 17))),(oo 19 (.mov (.s 18))),⟨(some 20),(some (19,true)),(.mov (.s 0))⟩,⟨(some 21),(some (19,true)),(.ld none (.s 2))⟩,⟨(some 22),(some (19,true)),(.mov (.s 5))⟩,⟨(some 23),(some (19,true)),(.idx 9 (.s 21) (.s 22))⟩,⟨(some 24),(some (19,true)),(.ld (some 9) (.s 23))⟩,⟨(some 25),(some (19,true)),(.call (.s 20) [(.s 24)])⟩,⟨(some 26),(some (19,true)),(.un .not (.s 25))⟩,(oo 27 (.pick (.s 19) (.s 26) (.c (.bool false))))] [(0,(false,[])),(1,(false,[])),(2,(false,[])),(3,(false,[])),(4,(false,[])),(5,(false,[])),(6,(false,[])),(7,(false,[])),(8,(false,[])),(9,(false,[])),(10,(false,[])),(11,(false,[])),(12,(false,[])),(13,(true,[])),(14,(false,[])),(15,(false,[]))]) (.cond (.s 27) .ret .skip))) (.reg [(oo 10 (.mov (.s 5))),(oo 11 (.bin .sub (.s 10) (.c (.int .i64 1)))),(oo 5 (.mov (.s 11)))]))))))
def F_record_ahead_1 (P : Program) (a0 a1 a2 a3 : V) (st : St) (K : V → St → Prop) : Prop :=
 @stp P (.ld none (.c a1)) st ⟨fun v6 st =>
 @stp P (.bin .sub (.c v6) (.c (.int .i64 1))) st ⟨fun v7 st =>
 @Hold ⟨∃ I1 : Nat → Rel 1,(∃ k,GhostV [v7] st (app (I1 k))) ∧ ∀ k1 v5,∀ st,app (I1 k1) [v5] st →
 @stp P (.bin .geq (.c v5) (.c (.int .i64 0))) st ⟨fun v9 st =>
 @cnd v9 ⟨
 @stpD P (.ld none (.c a2)) st ⟨fun v12 st =>
 @stpD P (.idx 9 (.c v12) (.c v5)) st ⟨fun v14 st =>
 @stpD P (.fld 2 (.c v14)) st ⟨fun v15 st =>
 @stpD P (.ld none (.c v15)) st ⟨fun v16 st =>
 @stpD P (.ld none (.c a3)) st ⟨fun v17 st =>
 @stpD P (.bin .eql (.c v16) (.c v17)) st ⟨fun v18 st =>
 @gstD P v18 true (.mov (.c a0)) st ⟨fun v20 st =>
 @gstD P v18 true (.ld none (.c a2)) st ⟨fun v21 st =>
 @gstD P v18 true (.mov (.c v5)) st ⟨fun v22 st =>
 @gstD P v18 true (.idx 9 (.c v21) (.c v22)) st ⟨fun v23 st =>
 @gstD P v18 true (.ld (some 9) (.c v23)) st ⟨fun v24 st =>
 @gstD P v18 true (.call (.c v20) [(.c v24)]) st ⟨fun v25 st =>
 @gstD P v18 true (.un .not (.c v25)) st ⟨fun v26 st =>
 @stpD P (.pick (.c v18) (.c v26) (.c (.bool false))) st ⟨fun v27 st =>
 @cnd v27 ⟨
 GhostV [] st fun vs st => K (mkres vs) st⟩
 ⟨
 @stp P (.bin .sub (.c v5) (.c (.int .i64 1))) st ⟨fun v11 st =>
 ∃ j,j < k1 ∧ GhostV [v11] st (app (I1 j))⟩⟩⟩⟩⟩⟩⟩⟩⟩⟩⟩⟩⟩⟩⟩⟩⟩
 ⟨
 GhostV [] st fun vs st => K (mkres vs) st⟩⟩⟩⟩⟩
theorem q_record_ahead_1 {P : Program} {a0 a1 a2 a3 : V} {st : St} {K : V → St → Prop} : F_record_ahead_1 P a0 a1 a2 a3 st K = hwp P c_record_ahead_1 (hretQ [] K) (enterFr [a0, a1, a2, a3]) st := by kernel_rfl
abbrev R_record_ahead_1 (P : Program) : Prop := resFnH P n_record_ahead_1 = some (28, c_record_ahead_1.er, [])
theorem A_record_ahead_1 {P : Program} (h : R_record_ahead_1 P) {a0 a1 a2 a3 : V} {st : St} {K : V → St → Prop} (hF : F_record_ahead_1 P a0 a1 a2 a3 st K) : ACalls P n_record_ahead_1 [a0, a1, a2, a3] st K :=
  ACalls_h h rfl (by simp) (q_record_ahead_1 ▸ hF)

def c_slices_Equal_byte_byte : ACode := (.seq (.reg [(oo 4 (.mov (.c (.bool false))))]) (.seq (.seq (.reg [(oo 6 (.mov (.s 0))),(oo 7 (.len .sl (.s 6))),(oo 8 (.mov (.s 1))),(oo 9 (.len .sl (.s 8))),(oo 10 (.bin .neq (.s 7) (.s 9)))]) (.cond (.s 10) (.seq (.reg [(oo 4 (.mov (.c (.bool false))))]) .ret) .skip)) (.seq (.seq (.reg [(oo 11 (.mov (.s 0))),(oo 12 (.len .sl (.s 11))),(oo 13 (.mov (.c (.int .i64 0))))]) (.block 0 (.loop [13] [4,5,13,14,15,16,17,18,19,20,21,22,23,24,25] (.seq (.reg [(oo 14 (.bin .lss (.s 13) (.s 12)))]) (.seq (.cond (.s 14) .skip (.exit 0)) (.seq (.block 1 (.seq (.reg [(oo 15 (.mov (.s 13))),(oo 5 (.mov (.s 15)))]) (.seq (.regD [(oo 16 (.mov (.s 0))),(oo 17 (.mov (.s 5))),(oo 18 (.idx 1 (.s 16) (.s 17))),(oo 19 (.ld none (.s 18))),(oo 20 (.mov (.s 1))),(oo 21 (.mov (.s 5))),(oo 22 (.idx 1 (.s 20) (.s 21))),(oo 23 (.ld none (.s 22))),(oo 24 (.bin .neq (.s 19) (.s 23)))] [(0,(false,[])),(1,(false,[])),(2,(false,[])),(3,(false,[])),(4,(false,[])),(5,(false,[])),(6,(false,[])),(7,(false,[])),(8,(false,[]))]) (.cond (.s 24) (.seq (.reg [(oo 4 (.mov (.c (.bool false))))]) .ret) .skip)))) (.reg [(oo 25 (.bin .add (.s 13) (.c (.int .i64 1)))),(oo 13 (.mov (.s 25)))]))))))) (.seq (.reg [(oo 4 (.mov (.c (.bool true))))]) .ret))))
def F_slices_Equal_byte_byte (P : Program) (a0 a1 : V) (st : St) (K : V → St → Prop) : Prop :=
 @stp P (.len .sl (.c a0)) st ⟨fun v7 st =>
 @stp P (.len .sl (.c a1)) st ⟨fun v9 st =>
 @stp P (.bin .neq (.c v7) (.c v9)) st ⟨fun v10 st =>
 @cnd v10 ⟨
 GhostV [(.bool false)] st fun vs st => K (mkres vs) st⟩
 ⟨
 @stp P (.len .sl (.c a0)) st ⟨fun v12 st =>
 @Hold ⟨∃ I1 : Nat → Rel 1,(∃ k,GhostV [(.int .i64 0)] st (app (I1 k))) ∧ ∀ k1 v13,∀ st,app (I1 k1) [v13] st →
 @stp P (.bin .lss (.c v13) (.c v12)) st ⟨fun v14 st =>
 @cnd v14 ⟨
 @stpD P (.idx 1 (.c a0) (.c v13)) st ⟨fun v18 st =>
 @stpD P (.ld none (.c v18)) st ⟨fun v19 st =>
 @stpD P (.idx 1 (.c a1) (.c v13)) st ⟨fun v22 st =>
 @stpD P (.ld none (.c v22)) st ⟨fun v23 st =>
 @stpD P (.bin .neq (.c v19) (.c v23)) st ⟨fun v24 st =>
 @cnd v24 ⟨
 GhostV [(.bool false)] st fun vs st => K (mkres vs) st⟩
 ⟨
 @stp P (.bin .add (.c v13) (.c (.int .i64 1))) st ⟨fun v25 st =>
 ∃ j,j < k1 ∧ GhostV [v25] st (app (I1 j))⟩⟩⟩⟩⟩⟩⟩⟩
 ⟨
 GhostV [(.bool true)] st fun vs st => K (mkres vs) st⟩⟩⟩⟩⟩⟩⟩⟩
theorem q_slices_Equal_byte_byte {P : Program} {a0 a1 : V} {st : St} {K : V → St → Prop} : F_slices_Equal_byte_byte P a0 a1 st K = hwp P c_slices_Equal_byte_byte (hretQ [.tmp 4] K) (enterFr [a0, a1]) st := by kernel_rfl
abbrev R_slices_Equal_byte_byte (P : Program) : Prop := resFnH P n_slices_Equal_byte_byte = some (26, c_slices_Equal_byte_byte.er, [.tmp 4])
theorem A_slices_Equal_byte_byte {P : Program} (h : R_slices_Equal_byte_byte P) {a0 a1 : V} {st : St} {K : V → St → Prop} (hF : F_slices_Equal_byte_byte P a0 a1 st K) : ACalls P n_slices_Equal_byte_byte [a0, a1] st K :=
  ACalls_h h rfl (by simp) (q_slices_Equal_byte_byte ▸ hF)

def c_cmp_Or_int : ACode := (.seq (.reg [(oo 2 (.mov (.c (.int .i64 0))))]) (.seq (.reg [(oo 3 (.mov (.c (.int .i64 0))))]) (.seq (.seq (.reg [(oo 6 (.mov (.s 0))),(oo 7 (.len .sl (.s 6))),(oo 8 (.mov (.c (.int .i64 0))))]) (.block 0 (.loop [8] [2,5,8,9,10,11,12,13,14,15,16] (.seq (.reg [(oo 9 (.bin .lss (.s 8) (.s 7)))]) (.seq (.cond (.s 9) .skip (.exit 0)) (.seq (.block 1 (.seq (.reg [(oo 10 (.idx 1 (.s 6) (.s 8))),(oo 11 (.ld none (.s 10))),(oo 5 (.mov (.s 11)))]) (.seq (.reg [(oo 12 (.mov (.s 5))),(oo 13 (.mov (.s 3))),(oo 14 (.bin .neq (.s 12) (.s 13)))]) (.cond (.s 14) (.seq (.reg [(oo 15 (.mov (.s 5))),(oo 2 (.mov (.s 15)))]) .ret) .skip)))) (.reg [(oo 16 (.bin .add (.s 8) (.c (.int .i64 1)))),(oo 8 (.mov (.s 16)))]))))))) (.seq (.reg [(oo 17 (.mov (.s 3))),(oo 2 (.mov (.s 17)))]) .ret))))
def F_cmp_Or_int (P : Program) (a0 : V) (st : St) (K : V → St → Prop) : Prop :=
 @stp P (.len .sl (.c a0)) st ⟨fun v7 st =>
 @Hold ⟨∃ I1 : Nat → Rel 1,(∃ k,GhostV [(.int .i64 0)] st (app (I1 k))) ∧ ∀ k1 v8,∀ st,app (I1 k1) [v8] st →
 @stp P (.bin .lss (.c v8) (.c v7)) st ⟨fun v9 st =>
 @cnd v9 ⟨
 @stp P (.idx 1 (.c a0) (.c v8)) st ⟨fun v10 st =>
 @stp P (.ld none (.c v10)) st ⟨fun v11 st =>
 @stp P (.bin .neq (.c v11) (.c (.int .i64 0))) st ⟨fun v14 st =>
 @cnd v14 ⟨
 GhostV [v11] st fun vs st => K (mkres vs) st⟩
 ⟨
 @stp P (.bin .add (.c v8) (.c (.int .i64 1))) st ⟨fun v16 st =>
 ∃ j,j < k1 ∧ GhostV [v16] st (app (I1 j))⟩⟩⟩⟩⟩⟩
 ⟨
 GhostV [(.int .i64 0)] st fun vs st => K (mkres vs) st⟩⟩⟩⟩
theorem q_cmp_Or_int {P : Program} {a0 : V} {st : St} {K : V → St → Prop} : F_cmp_Or_int P a0 st K = hwp P c_cmp_Or_int (hretQ [.tmp 2] K) (enterFr [a0]) st := by kernel_rfl
abbrev R_cmp_Or_int (P : Program) : Prop := resFnH P n_cmp_Or_int = some (18, c_cmp_Or_int.er, [.tmp 2])
theorem A_cmp_Or_int {P : Program} (h : R_cmp_Or_int P) {a0 : V} {st : St} {K : V → St → Prop} (hF : F_cmp_Or_int P a0 st K) : ACalls P n_cmp_Or_int [a0] st K :=
  ACalls_h h rfl (by simp) (q_cmp_Or_int ▸ hF)

def c_cmp_Compare_uint64 : ACode := (.seq (.reg [(oo 4 (.mov (.c (.int .i64 0))))]) (.seq (.reg [(oo 7 (.mov (.s 0))),(oo 8 (.call (fx n_cmp_isNaN_uint64) [(.s 7)])),(oo 5 (.mov (.s 8)))]) (.seq (.reg [(oo 9 (.mov (.s 1))),(oo 10 (.call (fx n_cmp_isNaN_uint64) [(.s 9)])),(oo 6 (.mov (.s 10)))]) (.seq (.seq (.reg [(oo 11 (.mov (.s 5)))]) (.cond (.s 11) (.seq (.seq (.reg [(oo 12 (.mov (.s 6)))]) (.cond (.s 12) (.seq (.reg [(oo 4 (.mov (.c (.int .i64 0))))]) .ret) .skip)) (.seq (.reg [(oo 4 (.mov (.c (.int .i64 (-1)))))]) .ret)) .skip)) (.seq (.seq (.reg [(oo 13 (.mov (.s 6)))]) (.cond (.s 13) (.seq (.reg [(oo 4 (.mov (.c (.int .i64 1))))]) .ret) .skip)) (.seq (.seq (.reg [(oo 14 (.mov (.s 0))),(oo 15 (.mov (.s 1))),(oo 16 (.bin .lss (.s 14) (.s 15)))]) (.cond (.s 16) (.seq (.reg [(oo 4 (.mov (.c (.int .i64 (-1)))))]) .ret) .skip)) (.seq (.seq (.reg [(oo 17 (.mov (.s 0))),(oo 18 (.mov (.s 1))),(oo 19 (.bin .gtr (.s 17) (.s 18)))]) (.cond (.s 19) (.seq (.reg [(oo 4 (.mov (.c (.int .i64 1))))]) .ret) .skip)) (.seq (.reg [(oo 4 (.mov (.c (.int .i64 0))))]) .ret))))))))
def F_cmp_Compare_uint64 (P : Program) (a0 a1 : V) (st : St) (K : V → St → Prop) : Prop :=
 @stp P (.call (.c (.fn (.func n_cmp_isNaN_uint64) [] [])) [(.c a0)]) st ⟨fun v8 st =>
 @stp P (.call (.c (.fn (.func n_cmp_isNaN_uint64) [] [])) [(.c a1)]) st ⟨fun v10 st =>
 @cnd v8 ⟨
 @cnd v10 ⟨
 GhostV [(.int .i64 0)] st fun vs st => K (mkres vs) st⟩
 ⟨
 GhostV [(.int .i64 (-1))] st fun vs st => K (mkres vs) st⟩⟩
 ⟨
 @cnd v10 ⟨
 GhostV [(.int .i64 1)] st fun vs st => K (mkres vs) st⟩
 ⟨
 @stp P (.bin .lss (.c a0) (.c a1)) st ⟨fun v16 st =>
 @cnd v16 ⟨
 GhostV [(.int .i64 (-1))] st fun vs st => K (mkres vs) st⟩
 ⟨
 @stp P (.bin .gtr (.c a0) (.c a1)) st ⟨fun v19 st =>
 @cnd v19 ⟨
 GhostV [(.int .i64 1)] st fun vs st => K (mkres vs) st⟩
 ⟨
 GhostV [(.int .i64 0)] st fun vs st => K (mkres vs) st⟩⟩⟩⟩⟩⟩⟩⟩
theorem q_cmp_Compare_uint64 {P : Program} {a0 a1 : V} {st : St} {K : V → St → Prop} : F_cmp_Compare_uint64 P a0 a1 st K = hwp P c_cmp_Compare_uint64 (hretQ [.tmp 4] K) (enterFr [a0, a1]) st := by kernel_rfl
abbrev R_cmp_Compare_uint64 (P : Program) : Prop := resFnH P n_cmp_Compare_uint64 = some (20, c_cmp_Compare_uint64.er, [.tmp 4])
theorem A_cmp_Compare_uint64 {P : Program} (h : R_cmp_Compare_uint64 P) {a0 a1 : V} {st : St} {K : V → St → Prop} (hF : F_cmp_Compare_uint64 P a0 a1 st K) : ACalls P n_cmp_Compare_uint64 [a0, a1] st K :=
  ACalls_h h rfl (by simp) (q_cmp_Compare_uint64 ▸ hF)

def c_cmp_isNaN_int : ACode := (.seq (.reg [(oo 2 (.mov (.c (.bool false))))]) (.seq (.reg [(oo 3 (.mov (.s 0))),(oo 4 (.mov (.s 0))),(oo 5 (.bin .neq (.s 3) (.s 4))),(oo 2 (.mov (.s 5)))]) .ret))
def F_cmp_isNaN_int (P : Program) (a0 : V) (st : St) (K : V → St → Prop) : Prop :=
 @stp P (.bin .neq (.c a0) (.c a0)) st ⟨fun v5 st =>
 GhostV [v5] st fun vs st => K (mkres vs) st⟩
theorem q_cmp_isNaN_int {P : Program} {a0 : V} {st : St} {K : V → St → Prop} : F_cmp_isNaN_int P a0 st K = hwp P c_cmp_isNaN_int (hretQ [.tmp 2] K) (enterFr [a0]) st := by kernel_rfl
abbrev R_cmp_isNaN_int (P : Program) : Prop := resFnH P n_cmp_isNaN_int = some (6, c_cmp_isNaN_int.er, [.tmp 2])
theorem A_cmp_isNaN_int {P : Program} (h : R_cmp_isNaN_int P) {a0 : V} {st : St} {K : V → St → Prop} (hF : F_cmp_isNaN_int P a0 st K) : ACalls P n_cmp_isNaN_int [a0] st K :=
  ACalls_h h rfl (by simp) (q_cmp_isNaN_int ▸ hF)

def c_slices_IndexFunc_Lbyte_Lbyte : ACode := (.seq (.reg [(oo 4 (.mov (.c (.int .i64 0))))]) (.seq (.seq (.reg [(oo 6 (.mov (.s 0))),(oo 7 (.len .sl (.s 6))),(oo 8 (.mov (.c (.int .i64 0))))]) (.block 0 (.loop [8] [4,5,8,9,10,11,12,13,14,15,16,17,18] (.seq (.reg [(oo 9 (.bin .lss (.s 8) (.s 7)))]) (.seq (.cond (.s 9) .skip (.exit 0)) (.seq (.block 1 (.seq (.reg [(oo 10 (.mov (.s 8))),(oo 5 (.mov (.s 10)))]) (.seq (.reg [(oo 11 (.mov (.s 1))),(oo 12 (.mov (.s 0))),(oo 13 (.mov (.s 5))),(oo 14 (.idx 1 (.s 12) (.s 13))),(oo 15 (.ld none (.s 14))),(oo 16 (.call (.s 11) [(.s 15)]))]) (.cond (.s 16) (.seq (.reg [(oo 17 (.mov (.s 5))),(oo 4 (.mov (.s 17)))]) .ret) .skip)))) (.reg [(oo 18 (.bin .add (.s 8) (.c (.int .i64 1)))),(oo 8 (.mov (.s 18)))]))))))) (.seq (.reg [(oo 4 (.mov (.c (.int .i64 (-1)))))]) .ret)))
def F_slices_IndexFunc_Lbyte_Lbyte (P : Program) (a0 a1 : V) (st : St) (K : V → St → Prop) : Prop :=
 @stp P (.len .sl (.c a0)) st ⟨fun v7 st =>
 @Hold ⟨∃ I1 : Nat → Rel 1,(∃ k,GhostV [(.int .i64 0)] st (app (I1 k))) ∧ ∀ k1 v8,∀ st,app (I1 k1) [v8] st →
 @stp P (.bin .lss (.c v8) (.c v7)) st ⟨fun v9 st =>
 @cnd v9 ⟨
 @stp P (.idx 1 (.c a0) (.c v8)) st ⟨fun v14 st =>
 @stp P (.ld none (.c v14)) st ⟨fun v15 st =>
 @stp P (.call (.c a1) [(.c v15)]) st ⟨fun v16 st =>
 @cnd v16 ⟨
 GhostV [v8] st fun vs st => K (mkres vs) st⟩
 ⟨
 @stp P (.bin .add (.c v8) (.c (.int .i64 1))) st ⟨fun v18 st =>
 ∃ j,j < k1 ∧ GhostV [v18] st (app (I1 j))⟩⟩⟩⟩⟩⟩
 ⟨
 GhostV [(.int .i64 (-1))] st fun vs st => K (mkres vs) st⟩⟩⟩⟩
theorem q_slices_IndexFunc_Lbyte_Lbyte {P : Program} {a0 a1 : V} {st : St} {K : V → St → Prop} : F_slices_IndexFunc_Lbyte_Lbyte P a0 a1 st K = hwp P c_slices_IndexFunc_Lbyte_Lbyte (hretQ [.tmp 4] K) (enterFr [a0, a1]) st := by kernel_rfl
abbrev R_slices_IndexFunc_Lbyte_Lbyte (P : Program) : Prop := resFnH P n_slices_IndexFunc_Lbyte_Lbyte = some (19, c_slices_IndexFunc_Lbyte_Lbyte.er, [.tmp 4])
theorem A_slices_IndexFunc_Lbyte_Lbyte {P : Program} (h : R_slices_IndexFunc_Lbyte_Lbyte P) {a0 a1 : V} {st : St} {K : V → St → Prop} (hF : F_slices_IndexFunc_Lbyte_Lbyte P a0 a1 st K) : ACalls P n_slices_IndexFunc_Lbyte_Lbyte [a0, a1] st K :=
  ACalls_h h rfl (by simp) (q_slices_IndexFunc_Lbyte_Lbyte ▸ hF)

def c_slices_Collect_uint64 : ACode := (.seq (.reg [(oo 2 (.mov nx0))]) (.seq (.reg [(oo 3 (.mov (.s 0))),(oo 4 (.call (fx n_slices_AppendSeq_uint64_uint64) [nx0,(.s 3)])),(oo 2 (.mov (.s 4)))]) .ret))
def F_slices_Collect_uint64 (P : Program) (a0 : V) (st : St) (K : V → St → Prop) : Prop :=
 @stp P (.call (.c (.fn (.func n_slices_AppendSeq_uint64_uint64) [] [])) [(.c (.sl .nil 0 [] [])),(.c a0)]) st ⟨fun v4 st =>
 GhostV [v4] st fun vs st => K (mkres vs) st⟩
theorem q_slices_Collect_uint64 {P : Program} {a0 : V} {st : St} {K : V → St → Prop} : F_slices_Collect_uint64 P a0 st K = hwp P c_slices_Collect_uint64 (hretQ [.tmp 2] K) (enterFr [a0]) st := by kernel_rfl
abbrev R_slices_Collect_uint64 (P : Program) : Prop := resFnH P n_slices_Collect_uint64 = some (5, c_slices_Collect_uint64.er, [.tmp 2])
theorem A_slices_Collect_uint64 {P : Program} (h : R_slices_Collect_uint64 P) {a0 : V} {st : St} {K : V → St → Prop} (hF : F_slices_Collect_uint64 P a0 st K) : ACalls P n_slices_Collect_uint64 [a0] st K :=
  ACalls_h h rfl (by simp) (q_slices_Collect_uint64 ▸ hF)

def c_slices_Sort_uint64_uint64 : ACode := (.seq (.reg [(oo 3 (.mov (.s 0))),(oo 4 (.len .sl (.s 3))),(oo 2 (.mov (.s 4)))]) (.reg [(oo 5 (.mov (.s 0))),(oo 6 (.mov (.s 2))),(oo 7 (.mov (.s 2))),(oo 8 (.conv .u64 (.s 7))),(oo 9 (.call (fx n_math_bits_Len) [(.s 8)])),(oo 10 (.call (fx n_slices_pdqsortOrdered_uint64) [(.s 5),(.c (.int .i64 0)),(.s 6),(.s 9)]))]))
def F_slices_Sort_uint64_uint64 (P : Program) (a0 : V) (st : St) (K : V → St → Prop) : Prop :=
 @stp P (.len .sl (.c a0)) st ⟨fun v4 st =>
 @stp P (.conv .u64 (.c v4)) st ⟨fun v8 st =>
 @stp P (.call (.c (.fn (.func n_math_bits_Len) [] [])) [(.c v8)]) st ⟨fun v9 st =>
 @stp P (.call (.c (.fn (.func n_slices_pdqsortOrdered_uint64) [] [])) [(.c a0),(.c (.int .i64 0)),(.c v4),(.c v9)]) st ⟨fun v10 st =>
 GhostV [] st fun vs st => K (mkres vs) st⟩⟩⟩⟩
theorem q_slices_Sort_uint64_uint64 {P : Program} {a0 : V} {st : St} {K : V → St → Prop} : F_slices_Sort_uint64_uint64 P a0 st K = hwp P c_slices_Sort_uint64_uint64 (hretQ [] K) (enterFr [a0]) st := by kernel_rfl
abbrev R_slices_Sort_uint64_uint64 (P : Program) : Prop := resFnH P n_slices_Sort_uint64_uint64 = some (11, c_slices_Sort_uint64_uint64.er, [])
theorem A_slices_Sort_uint64_uint64 {P : Program} (h : R_slices_Sort_uint64_uint64 P) {a0 : V} {st : St} {K : V → St → Prop} (hF : F_slices_Sort_uint64_uint64 P a0 st K) : ACalls P n_slices_Sort_uint64_uint64 [a0] st K :=
  ACalls_h h rfl (by simp) (q_slices_Sort_uint64_uint64 ▸ hF)

def c_maps_Keys_map_uint64_Open_uint64_Open_1 : ACode := (.seq (.reg [(oo 4 (.ld none (.s 1))),(oo 5 (.range (.s 4)))]) (.block 0 (.loop [] [3,6,7,8,9,10,11,12,13] (.seq (.reg [(oo 6 (.next (.s 5))),(oo 7 (.ext 0 (.s 6)))]) (.seq (.cond (.s 7) .skip (.exit 0)) (.block 1 (.seq (.reg [(oo 8 (.entry (.s 5))),(oo 9 (.ext 0 (.s 8))),(oo 3 (.mov (.s 9)))]) (.seq (.reg [(oo 10 (.mov (.s 0))),(oo 11 (.mov (.s 3))),(oo 12 (.call (.s 10) [(.s 11)])),(oo 13 (.un .not (.s 12)))]) (.cond (.s 13) .ret .skip)))))))))
def F_maps_Keys_map_uint64_Open_uint64_Open_1 (P : Program) (a0 a1 : V) (st : St) (K : V → St → Prop) : Prop :=
 @stp P (.ld none (.c a1)) st ⟨fun v4 st =>
 @stp P (.range (.c v4)) st ⟨fun v5 st =>
 @Hold ⟨∃ I1 : Nat → Rel 0,(∃ k,GhostV [] st (app (I1 k))) ∧ ∀ k1 ,∀ st,app (I1 k1) [] st →
 @stp P (.next (.c v5)) st ⟨fun v6 st =>
 @stp P (.ext 0 (.c v6)) st ⟨fun v7 st =>
 @cnd v7 ⟨
 @stp P (.entry (.c v5)) st ⟨fun v8 st =>
 @stp P (.ext 0 (.c v8)) st ⟨fun v9 st =>
 @stp P (.call (.c a0) [(.c v9)]) st ⟨fun v12 st =>
 @stp P (.un .not (.c v12)) st ⟨fun v13 st =>
 @cnd v13 ⟨
 GhostV [] st fun vs st => K (mkres vs) st⟩
 ⟨
 ∃ j,j < k1 ∧ GhostV [] st (app (I1 j))⟩⟩⟩⟩⟩⟩
 ⟨
 GhostV [] st fun vs st => K (mkres vs) st⟩⟩⟩⟩⟩⟩
theorem q_maps_Keys_map_uint64_Open_uint64_Open_1 {P : Program} {a0 a1 : V} {st : St} {K : V → St → Prop} : F_maps_Keys_map_uint64_Open_uint64_Open_1 P a0 a1 st K = hwp P c_maps_Keys_map_uint64_Open_uint64_Open_1 (hretQ [] K) (enterFr [a0, a1]) st := by kernel_rfl
abbrev R_maps_Keys_map_uint64_Open_uint64_Open_1 (P : Program) : Prop := resFnH P n_maps_Keys_map_uint64_Open_uint64_Open_1 = some (14, c_maps_Keys_map_uint64_Open_uint64_Open_1.er, [])
theorem A_maps_Keys_map_uint64_Open_uint64_Open_1 {P : Program} (h : R_maps_Keys_map_uint64_Open_uint64_Open_1 P) {a0 a1 : V} {st : St} {K : V → St → Prop} (hF : F_maps_Keys_map_uint64_Open_uint64_Open_1 P a0 a1 st K) : ACalls P n_maps_Keys_map_uint64_Open_uint64_Open_1 [a0, a1] st K :=
  ACalls_h h rfl (by simp) (q_maps_Keys_map_uint64_Open_uint64_Open_1 ▸ hF)

def c_cmp_isNaN_uint64 : ACode := (.seq (.reg [(oo 2 (.mov (.c (.bool false))))]) (.seq (.reg [(oo 3 (.mov (.s 0))),(oo 4 (.mov (.s 0))),(oo 5 (.bin .neq (.s 3) (.s 4))),(oo 2 (.mov (.s 5)))]) .ret))
def F_cmp_isNaN_uint64 (P : Program) (a0 : V) (st : St) (K : V → St → Prop) : Prop :=
 @stp P (.bin .neq (.c a0) (.c a0)) st ⟨fun v5 st =>
 GhostV [v5] st fun vs st => K (mkres vs) st⟩
theorem q_cmp_isNaN_uint64 {P : Program} {a0 : V} {st : St} {K : V → St → Prop} : F_cmp_isNaN_uint64 P a0 st K = hwp P c_cmp_isNaN_uint64 (hretQ [.tmp 2] K) (enterFr [a0]) st := by kernel_rfl
abbrev R_cmp_isNaN_uint64 (P : Program) : Prop := resFnH P n_cmp_isNaN_uint64 = some (6, c_cmp_isNaN_uint64.er, [.tmp 2])
theorem A_cmp_isNaN_uint64 {P : Program} (h : R_cmp_isNaN_uint64 P) {a0 : V} {st : St} {K : V → St → Prop} (hF : F_cmp_isNaN_uint64 P a0 st K) : ACalls P n_cmp_isNaN_uint64 [a0] st K :=
  ACalls_h h rfl (by simp) (q_cmp_isNaN_uint64 ▸ hF)

def c_slices_AppendSeq_uint64_uint64 : ACode := (.seq (.reg [(oo 2 (.box (.s 0))),(oo 4 (.mov nx0))]) (.seq (.seq (.reg [(oo 6 (.mov (.s 1)))]) (.block 0 (.rfunc (.s 6) [7] (.reg [(oo 5 (.mov (.s 7)))]) (.block 1 (.reg [(oo 8 (.ld none (.s 2))),(oo 9 (.mov (.s 5))),(oo 10 (.mkSl 1 1 [(.int .u64 0)] [(0,(.s 9))])),(oo 11 (.append 1 8 (.s 8) (.s 10))),⟨none,none,(.st 1 (.s 2) (.s 11))⟩]))))) (.seq (.reg [(oo 12 (.ld none (.s 2))),(oo 4 (.mov (.s 12)))]) .ret)))
def F_slices_AppendSeq_uint64_uint64 (P : Program) (a0 a1 : V) (st : St) (K : V → St → Prop) : Prop :=
 @stp P (.box (.c a0)) st ⟨fun v2 st =>
 @Hold ⟨(fun s1 : St => ∀ LP1 : LSt → Obj,
 (∀ (st : St) (K : V → St → Prop) (v7 : V),st.get s1.objs.length s1.nv = some (LP1 .ready) → (
 st.get s1.objs.length s1.nv = some (LP1 .ready) ∧ (fun st : St =>
 @stp P (.ld none (.c v2)) st ⟨fun v8 st =>
 @stp P (.mkSl 1 1 [(.int .u64 0)] [(0,(.c v7))]) st ⟨fun v10 st =>
 @stp P (.append 1 8 (.c v8) (.c v10)) st ⟨fun v11 st =>
 @stp P (.st 1 (.c v2) (.c v11)) st ⟨fun _v st =>
 st.get s1.objs.length s1.nv = some (LP1 .busy) ∧ K (.bool true) (st.setO s1.objs.length s1.nv (LP1 .ready))⟩⟩⟩⟩) (st.setO s1.objs.length s1.nv (LP1 .busy))) →
 AInv P (.yld s1.objs.length s1.nv) [v7] st K) →
 AInvE P a1 [.yld s1.objs.length s1.nv] (s1.push (LP1 .ready)) fun _ st => ∃ s,st.get s1.objs.length s1.nv = some (LP1 s) ∧ (fun st : St => hend s (
 @stp P (.ld none (.c v2)) st ⟨fun v12 st =>
 GhostV [v12] st fun vs st => K (mkres vs) st⟩)
 (
 GhostV [(.sl .nil 0 [] [])] st fun vs st => K (mkres vs) st)
 (fun id : Nat =>       (if id = 0 then
 @stp P (.ld none (.c v2)) st ⟨fun v12 st =>
 GhostV [v12] st fun vs st => K (mkres vs) st⟩
 else
 False))) (st.gone s1.objs.length)) st⟩⟩
theorem q_slices_AppendSeq_uint64_uint64 {P : Program} {a0 a1 : V} {st : St} {K : V → St → Prop} : F_slices_AppendSeq_uint64_uint64 P a0 a1 st K = hwp P c_slices_AppendSeq_uint64_uint64 (hretQ [.tmp 4] K) (enterFr [a0, a1]) st := by kernel_rfl
abbrev R_slices_AppendSeq_uint64_uint64 (P : Program) : Prop := resFnH P n_slices_AppendSeq_uint64_uint64 = some (13, c_slices_AppendSeq_uint64_uint64.er, [.tmp 4])
theorem A_slices_AppendSeq_uint64_uint64 {P : Program} (h : R_slices_AppendSeq_uint64_uint64 P) {a0 a1 : V} {st : St} {K : V → St → Prop} (hF : F_slices_AppendSeq_uint64_uint64 P a0 a1 st K) : ACalls P n_slices_AppendSeq_uint64_uint64 [a0, a1] st K :=
  ACalls_h h rfl (by simp) (q_slices_AppendSeq_uint64_uint64 ▸ hF)

def c_slices_pdqsortOrdered_uint64 : ACode := (.seq (.reg [(oo 8 (.mov (.c (.bool true))))]) (.seq (.reg [(oo 9 (.mov (.c (.bool true))))]) (.block 0 (.loop [1,2,3,8,9] [1,2,3,8,9,10,11,12,13,14,15,16,17,18,19,20,21,22,23,24,25,26,27,28,29,30,31,32,33,34,35,36,37,38,39,40,41,42,43,44,45,46,47,48,49,50,51,52,53,54,55,56,57,58,59,60,61,62,63,64,65,66,67,68,69,70,71,72,73,74,75,76,77,78,79,80,81,82,83,84,85,86,87,88,89,90,91,92,93,94,95,96,97,98,99,100,101,102,103,104,105,106,107,108,109,110,111,112,113,114,115,116,117,118,119,120,121,122,123,124,125,126,127,128,129,130,131,132,133] (.block 1 (.seq (.reg [(oo 19 (.mov (.s 2))),(oo 20 (.mov (.s 1))),(oo 21 (.bin .sub (.s 19) (.s 20))),(oo 10 (.mov (.s 21)))]) (.seq (.seq (.reg [(oo 22 (.mov (.s 10))),(oo 23 (.bin .leq (.s 22) (.c (.int .i64 12))))]) (.cond (.s 23) (.seq (.reg [(oo 24 (.mov (.s 0))),(oo 25 (.mov (.s 1))),(oo 26 (.mov (.s 2))),(oo 27 (.call (fx n_slices_insertionSortOrdered_uint64) [(.s 24),(.s 25),(.s 26)]))]) .ret) .skip)) (.seq (.seq (.reg [(oo 28 (.mov (.s 3))),(oo 29 (.bin .eql (.s 28) (.c (.int .i64 0))))]) (.cond (.s 29) (.seq (.reg [(oo 30 (.mov (.s 0))),(oo 31 (.mov (.s 1))),(oo 32 (.mov (.s 2))),(oo 33 (.call (fx n_slices_heapSortOrdered_uint64) [(.s 30),(.s 31),(.s 32)]))]) .ret) .skip)) (.join [3] [3,34,35,36,37,38,39,40,41] (.seq (.reg [(oo 34 (.mov (.s 8))),(oo 35 (.un .not (.s 34)))]) (.cond (.s 35) (.seq (.reg [(oo 36 (.mov (.s 0))),(oo 37 (.mov (.s 1))),(oo 38 (.mov (.s 2))),(oo 39 (.call (fx n_slices_breakPatternsOrdered_uint64) [(.s 36),(.s 37),(.s 38)]))]) (.reg [(oo 40 (.mov (.s 3))),(oo 41 (.bin .sub (.s 40) (.c (.int .i64 1)))),(oo 3 (.mov (.s 41)))])) .skip)) (.seq (.reg [(oo 43 (.mov (.s 0))),(oo 44 (.mov (.s 1))),(oo 45 (.mov (.s 2))),(oo 46 (.call (fx n_slices_choosePivotOrdered_uint64) [(.s 43),(.s 44),(.s 45)])),(oo 42 (.mov (.s 46))),(oo 47 (.ext 0 (.s 42))),(oo 48 (.ext 1 (.s 42))),(oo 11 (.mov (.s 47))),(oo 12 (.mov (.s 48)))]) (.join [11,12] [11,12,49,50,51,52,53,54,55,56,57,58,59,60] (.seq (.reg [(oo 49 (.mov (.s 12))),(oo 50 (.bin .eql (.s 49) (.c (.int .i64 2))))]) (.cond (.s 50) (.seq (.reg [(oo 51 (.mov (.s 0))),(oo 52 (.mov (.s 1))),(oo 53 (.mov (.s 2))),(oo 54 (.call (fx n_slices_reverseRangeOrdered_uint64) [(.s 51),(.s 52),(.s 53)]))]) (.seq (.reg [(oo 55 (.mov (.s 2))),(oo 56 (.bin .sub (.s 55) (.c (.int .i64 1)))),(oo 57 (.mov (.s 11))),(oo 58 (.mov (.s 1))),(oo 59 (.bin .sub (.s 57) (.s 58))),(oo 60 (.bin .sub (.s 56) (.s 59))),(oo 11 (.mov (.s 60)))]) (.reg [(oo 12 (.mov (.c (.int .i64 1))))]))) .skip)) (.join [] [61,62,63,64,65,66,67,68,69,70,71,72] (.seq (.reg [(oo 61 (.mov (.s 8))),(oo 62 (.mov (.s 61))),⟨(some 63),(some (62,true)),(.mov (.s 9))⟩,(oo 64 (.pick (.s 62) (.s 63) (.c (.bool false)))),(oo 65 (.mov (.s 64))),⟨(some 66),(some (65,true)),(.mov (.s 12))⟩,⟨(some 67),(some (65,true)),(.bin .eql (.s 66) (.c (.int .i64 1)))⟩,(oo 68 (.pick (.s 65) (.s 67) (.c (.bool false))))]) (.cond (.s 68) (.seq (.reg [(oo 69 (.mov (.s 0))),(oo 70 (.mov (.s 1))),(oo 71 (.mov (.s 2))),(oo 72 (.call (fx n_slices_partialInsertionSortOrdered_uint64) [(.s 69),(.s 70),(.s 71)]))]) (.cond (.s 72) .ret .skip)) .skip)) (.seq (.seq (.regD [(oo 73 (.mov (.s 1))),(oo 74 (.bin .gtr (.s 73) (.c (.int .i64 0)))),(oo 75 (.mov (.s 74))),⟨(some 76),(some (75,true)),(.mov (.s 0))⟩,⟨(some 77),(some (75,true)),(.mov (.s 1))⟩,⟨(some 78),(some (75,true)),(.bin .sub (.s 77) (.c (.int .i64 1)))⟩,⟨(some 79),(some (75,true)),(.idx 1 (.s 76) (.s 78))⟩,⟨(some 80),(some (75,true)),(.ld none (.s 79))⟩,⟨(some 81),(some (75,true)),(.mov (.s 0))⟩,⟨(some 82),(some (75,true)),(.mov (.s 11))⟩,⟨(some 83),(some (75,true)),(.idx 1 (.s 81) (.s 82))⟩,⟨(some 84),(some (75,true)),(.ld none (.s 83))⟩,⟨(some 85),(some (75,true)),(.call (fx n_cmp_Less_uint64) [(.s 80),(.s 84)])⟩,⟨(some 86),(some (75,true)),(.un .not (.s 85))⟩,(oo 87 (.pick (.s 75) (.s 86) (.c (.bool false))))] [(0,(false,[])),(1,(false,[])),(2,(false,[])),(3,(false,[])),(4,(false,[])),(5,(false,[])),(6,(false,[])),(7,(false,[])),(8,(false,[])),(9,(false,[])),(10,(false,[])),(11,(false,[])),(12,(true,[])),(13,(false,[])),(14,(false,[]))]) (.cond (.s 87) (.seq (.reg [(oo 88 (.mov (.s 0))),(oo 89 (.mov (.s 1))),(oo 90 (.mov (.s 2))),(oo 91 (.mov (.s 11))),(oo 92 (.call (fx n_slices_partitionEqualOrdered_uint64) [(.s 88),(.s 89),(.s 90),(.s 91)])),(oo 13 (.mov (.s 92)))]) (.seq (.reg [(oo 93 (.mov (.s 13))),(oo 1 (.mov (.s 93)))]) (.exit 1))) .skip)) (.seq (.reg [(oo 95 (.mov (.s 0))),(oo 96 (.mov (.s 1))),(oo 97 (.mov (.s 2))),(oo 98 (.mov (.s 11))),(oo 99 (.call (fx n_slices_partitionOrdered_uint64) [(.s 95),(.s 96),(.s 97),(.s 98)])),(oo 94 (.mov (.s 99))),(oo 100 (.ext 0 (.s 94))),(oo 101 (.ext 1 (.s 94))),(oo 14 (.mov (.s 100))),(oo 15 (.mov (.s 101)))]) (.seq (.reg [(oo 102 (.mov (.s 15))),(oo 9 (.mov (.s 102)))]) (.seq (.reg [(oo 103 (.mov (.s 14))),(oo 104 (.mov (.s 1))),(oo 105 (.bin .sub (.s 103) (.s 104))),(oo 106 (.mov (.s 2))),(oo 107 (.mov (.s 14))),(oo 108 (.bin .sub (.s 106) (.s 107))),(oo 16 (.mov (.s 105))),(oo 17 (.mov (.s 108)))]) (.seq (.reg [(oo 109 (.mov (.s 10))),(oo 110 (.bin .quo (.s 109) (.c (.int .i64 8)))),(oo 18 (.mov (.s 110)))]) (.seq (.reg [(oo 111 (.mov (.s 16))),(oo 112 (.mov (.s 17))),(oo 113 (.bin .lss (.s 111) (.s 112)))]) (.cond (.s 113) (.seq (.reg [(oo 114 (.mov (.s 16))),(oo 115 (.mov (.s 18))),(oo 116 (.bin .geq (.s 114) (.s 115))),(oo 8 (.mov (.s 116)))]) (.seq (.reg [(oo 117 (.mov (.s 0))),(oo 118 (.mov (.s 1))),(oo 119 (.mov (.s 14))),(oo 120 (.mov (.s 3))),(oo 121 (.call (fx n_slices_pdqsortOrdered_uint64) [(.s 117),(.s 118),(.s 119),(.s 120)]))]) (.reg [(oo 122 (.mov (.s 14))),(oo 123 (.bin .add (.s 122) (.c (.int .i64 1)))),(oo 1 (.mov (.s 123)))]))) (.seq (.reg [(oo 124 (.mov (.s 17))),(oo 125 (.mov (.s 18))),(oo 126 (.bin .geq (.s 124) (.s 125))),(oo 8 (.mov (.s 126)))]) (.seq (.reg [(oo 127 (.mov (.s 0))),(oo 128 (.mov (.s 14))),(oo 129 (.bin .add (.s 128) (.c (.int .i64 1)))),(oo 130 (.mov (.s 2))),(oo 131 (.mov (.s 3))),(oo 132 (.call (fx n_slices_pdqsortOrdered_uint64) [(.s 127),(.s 129),(.s 130),(.s 131)]))]) (.reg [(oo 133 (.mov (.s 14))),(oo 2 (.mov (.s 133)))]))))))))))))))))))))))
def F_slices_pdqsortOrdered_uint64 (P : Program) (a0 a1 a2 a3 : V) (st : St) (K : V → St → Prop) : Prop :=
 @Hold ⟨∃ I1 : Nat → Rel 5,(∃ k,GhostV [a1,a2,a3,(.bool true),(.bool true)] st (app (I1 k))) ∧ ∀ k1 v1 v2 v3 v8 v9,∀ st,app (I1 k1) [v1,v2,v3,v8,v9] st →
 @stp P (.bin .sub (.c v2) (.c v1)) st ⟨fun v21 st =>
 @stp P (.bin .leq (.c v21) (.c (.int .i64 12))) st ⟨fun v23 st =>
 @cnd v23 ⟨
 @stp P (.call (.c (.fn (.func n_slices_insertionSortOrdered_uint64) [] [])) [(.c a0),(.c v1),(.c v2)]) st ⟨fun v27 st =>
 GhostV [] st fun vs st => K (mkres vs) st⟩⟩
 ⟨
 @stp P (.bin .eql (.c v3) (.c (.int .i64 0))) st ⟨fun v29 st =>
 @cnd v29 ⟨
 @stp P (.call (.c (.fn (.func n_slices_heapSortOrdered_uint64) [] [])) [(.c a0),(.c v1),(.c v2)]) st ⟨fun v33 st =>
 GhostV [] st fun vs st => K (mkres vs) st⟩⟩
 ⟨
 @Hold ⟨∃ J2 : Rel 1,(
 @stp P (.un .not (.c v8)) st ⟨fun v35 st =>
 @cnd v35 ⟨
 @stp P (.call (.c (.fn (.func n_slices_breakPatternsOrdered_uint64) [] [])) [(.c a0),(.c v1),(.c v2)]) st ⟨fun v39 st =>
 @stp P (.bin .sub (.c v3) (.c (.int .i64 1))) st ⟨fun v41 st =>
 GhostV [v41] st (app J2)⟩⟩⟩
 ⟨
 GhostV [v3] st (app J2)⟩⟩) ∧
 ∀ v3_1 st,app J2 [v3_1] st →
 @stp P (.call (.c (.fn (.func n_slices_choosePivotOrdered_uint64) [] [])) [(.c a0),(.c v1),(.c v2)]) st ⟨fun v46 st =>
 @stp P (.ext 0 (.c v46)) st ⟨fun v47 st =>
 @stp P (.ext 1 (.c v46)) st ⟨fun v48 st =>
 @Hold ⟨∃ J3 : Rel 2,(
 @stp P (.bin .eql (.c v48) (.c (.int .i64 2))) st ⟨fun v50 st =>
 @cnd v50 ⟨
 @stp P (.call (.c (.fn (.func n_slices_reverseRangeOrdered_uint64) [] [])) [(.c a0),(.c v1),(.c v2)]) st ⟨fun v54 st =>
 @stp P (.bin .sub (.c v2) (.c (.int .i64 1))) st ⟨fun v56 st =>
 @stp P (.bin .sub (.c v47) (.c v1)) st ⟨fun v59 st =>
 @stp P (.bin .sub (.c v56) (.c v59)) st ⟨fun v60 st =>
 GhostV [v60,(.int .i64 1)] st (app J3)⟩⟩⟩⟩⟩
 ⟨
 GhostV [v47,v48] st (app J3)⟩⟩) ∧
 ∀ v11 v12 st,app J3 [v11,v12] st →
 @Hold ⟨∃ J4 : Rel 0,(
 @gst P v8 true (.mov (.c v9)) st ⟨fun v63 st =>
 @stp P (.pick (.c v8) (.c v63) (.c (.bool false))) st ⟨fun v64 st =>
 @gst P v64 true (.mov (.c v12)) st ⟨fun v66 st =>
 @gst P v64 true (.bin .eql (.c v66) (.c (.int .i64 1))) st ⟨fun v67 st =>
 @stp P (.pick (.c v64) (.c v67) (.c (.bool false))) st ⟨fun v68 st =>
 @cnd v68 ⟨
 @stp P (.call (.c (.fn (.func n_slices_partialInsertionSortOrdered_uint64) [] [])) [(.c a0),(.c v1),(.c v2)]) st ⟨fun v72 st =>
 @cnd v72 ⟨
 GhostV [] st fun vs st => K (mkres vs) st⟩
 ⟨
 GhostV [] st (app J4)⟩⟩⟩
 ⟨
 GhostV [] st (app J4)⟩⟩⟩⟩⟩⟩) ∧
 ∀ st,app J4 [] st →
 @stpD P (.bin .gtr (.c v1) (.c (.int .i64 0))) st ⟨fun v74 st =>
 @gstD P v74 true (.mov (.c a0)) st ⟨fun v76 st =>
 @gstD P v74 true (.mov (.c v1)) st ⟨fun v77 st =>
 @gstD P v74 true (.bin .sub (.c v77) (.c (.int .i64 1))) st ⟨fun v78 st =>
 @gstD P v74 true (.idx 1 (.c v76) (.c v78)) st ⟨fun v79 st =>
 @gstD P v74 true (.ld none (.c v79)) st ⟨fun v80 st =>
 @gstD P v74 true (.mov (.c a0)) st ⟨fun v81 st =>
 @gstD P v74 true (.mov (.c v11)) st ⟨fun v82 st =>
 @gstD P v74 true (.idx 1 (.c v81) (.c v82)) st ⟨fun v83 st =>
 @gstD P v74 true (.ld none (.c v83)) st ⟨fun v84 st =>
 @gstD P v74 true (.call (.c (.fn (.func n_cmp_Less_uint64) [] [])) [(.c v80),(.c v84)]) st ⟨fun v85 st =>
 @gstD P v74 true (.un .not (.c v85)) st ⟨fun v86 st =>
 @stpD P (.pick (.c v74) (.c v86) (.c (.bool false))) st ⟨fun v87 st =>
 @cnd v87 ⟨
 @stp P (.call (.c (.fn (.func n_slices_partitionEqualOrdered_uint64) [] [])) [(.c a0),(.c v1),(.c v2),(.c v11)]) st ⟨fun v92 st =>
 ∃ j,j < k1 ∧ GhostV [v92,v2,v3_1,v8,v9] st (app (I1 j))⟩⟩
 ⟨
 @stp P (.call (.c (.fn (.func n_slices_partitionOrdered_uint64) [] [])) [(.c a0),(.c v1),(.c v2),(.c v11)]) st ⟨fun v99 st =>
 @stp P (.ext 0 (.c v99)) st ⟨fun v100 st =>
 @stp P (.ext 1 (.c v99)) st ⟨fun v101 st =>
 @stp P (.bin .sub (.c v100) (.c v1)) st ⟨fun v105 st =>
 @stp P (.bin .sub (.c v2) (.c v100)) st ⟨fun v108 st =>
 @stp P (.bin .quo (.c v21) (.c (.int .i64 8))) st ⟨fun v110 st =>
 @stp P (.bin .lss (.c v105) (.c v108)) st ⟨fun v113 st =>
 @cnd v113 ⟨
 @stp P (.bin .geq (.c v105) (.c v110)) st ⟨fun v116 st =>
 @stp P (.call (.c (.fn (.func n_slices_pdqsortOrdered_uint64) [] [])) [(.c a0),(.c v1),(.c v100),(.c v3_1)]) st ⟨fun v121 st =>
 @stp P (.bin .add (.c v100) (.c (.int .i64 1))) st ⟨fun v123 st =>
 ∃ j,j < k1 ∧ GhostV [v123,v2,v3_1,v116,v101] st (app (I1 j))⟩⟩⟩⟩
 ⟨
 @stp P (.bin .geq (.c v108) (.c v110)) st ⟨fun v126 st =>
 @stp P (.bin .add (.c v100) (.c (.int .i64 1))) st ⟨fun v129 st =>
 @stp P (.call (.c (.fn (.func n_slices_pdqsortOrdered_uint64) [] [])) [(.c a0),(.c v129),(.c v2),(.c v3_1)]) st ⟨fun v132 st =>
 ∃ j,j < k1 ∧ GhostV [v1,v100,v3_1,v126,v101] st (app (I1 j))⟩⟩⟩⟩⟩⟩⟩⟩⟩⟩⟩⟩⟩⟩⟩⟩⟩⟩⟩⟩⟩⟩⟩⟩⟩⟩⟩⟩⟩⟩⟩⟩⟩⟩⟩⟩⟩
theorem q_slices_pdqsortOrdered_uint64 {P : Program} {a0 a1 a2 a3 : V} {st : St} {K : V → St → Prop} : F_slices_pdqsortOrdered_uint64 P a0 a1 a2 a3 st K = hwp P c_slices_pdqsortOrdered_uint64 (hretQ [] K) (enterFr [a0, a1, a2, a3]) st := by kernel_rfl
abbrev R_slices_pdqsortOrdered_uint64 (P : Program) : Prop := resFnH P n_slices_pdqsortOrdered_uint64 = some (134, c_slices_pdqsortOrdered_uint64.er, [])
theorem A_slices_pdqsortOrdered_uint64 {P : Program} (h : R_slices_pdqsortOrdered_uint64 P) {a0 a1 a2 a3 : V} {st : St} {K : V → St → Prop} (hF : F_slices_pdqsortOrdered_uint64 P a0 a1 a2 a3 st K) : ACalls P n_slices_pdqsortOrdered_uint64 [a0, a1, a2, a3] st K :=
  ACalls_h h rfl (by simp) (q_slices_pdqsortOrdered_uint64 ▸ hF)

def c_math_bits_Len : ACode := (.seq (.reg [(oo 2 (.mov (.c (.int .i64 0))))]) (.seq (.cond (.c (.bool false)) (.seq (.reg [(oo 3 (.mov (.s 0))),(oo 4 (.conv .u32 (.s 3))),(oo 5 (.call (fx n_math_bits_Len32) [(.s 4)])),(oo 2 (.mov (.s 5)))]) .ret) .skip) (.seq (.reg [(oo 6 (.mov (.s 0))),(oo 7 (.call (fx n_math_bits_Len64) [(.s 6)])),(oo 2 (.mov (.s 7)))]) .ret)))
def F_math_bits_Len (P : Program) (a0 : V) (st : St) (K : V → St → Prop) : Prop :=
 @cnd (.bool false) ⟨
 @stp P (.conv .u32 (.c a0)) st ⟨fun v4 st =>
 @stp P (.call (.c (.fn (.func n_math_bits_Len32) [] [])) [(.c v4)]) st ⟨fun v5 st =>
 GhostV [v5] st fun vs st => K (mkres vs) st⟩⟩⟩
 ⟨
 @stp P (.call (.c (.fn (.func n_math_bits_Len64) [] [])) [(.c a0)]) st ⟨fun v7 st =>
 GhostV [v7] st fun vs st => K (mkres vs) st⟩⟩
theorem q_math_bits_Len {P : Program} {a0 : V} {st : St} {K : V → St → Prop} : F_math_bits_Len P a0 st K = hwp P c_math_bits_Len (hretQ [.tmp 2] K) (enterFr [a0]) st := by kernel_rfl
abbrev R_math_bits_Len (P : Program) : Prop := resFnH P n_math_bits_Len = some (8, c_math_bits_Len.er, [.tmp 2])
theorem A_math_bits_Len {P : Program} (h : R_math_bits_Len P) {a0 : V} {st : St} {K : V → St → Prop} (hF : F_math_bits_Len P a0 st K) : ACalls P n_math_bits_Len [a0] st K :=
  ACalls_h h rfl (by simp) (q_math_bits_Len ▸ hF)

def c_slices_insertionSortOrdered_uint64 : ACode := (.seq (.reg [(oo 8 (.mov (.s 1))),(oo 9 (.bin .add (.s 8) (.c (.int .i64 1)))),(oo 6 (.mov (.s 9)))]) (.block 0 (.loop [6] [6,7,10,11,12,13,14,15,16,17,18,19,20,21,22,23,24,25,26,27,28,29,30,31,32,33,34,35,36,37,38,39,40,41,42,43,44,45,46,47,48] (.seq (.seq (.reg [(oo 10 (.mov (.s 6))),(oo 11 (.mov (.s 2))),(oo 12 (.bin .lss (.s 10) (.s 11)))]) (.cond (.s 12) .skip (.exit 0))) (.seq (.block 1 (.seq (.reg [(oo 15 (.mov (.s 6))),(oo 7 (.mov (.s 15)))]) (.block 2 (.loop [7] [7,16,17,18,19,20,21,22,23,24,25,26,27,28,29,30,31,32,33,34,35,36,37,38,39,40,41,42,43,44,45,46,47,48] (.seq (.seq (.regD [(oo 16 (.mov (.s 7))),(oo 17 (.mov (.s 1))),(oo 18 (.bin .gtr (.s 16) (.s 17))),(oo 19 (.mov (.s 18))),⟨(some 20),(some (19,true)),(.mov (.s 0))⟩,⟨(some 21),(some (19,true)),(.mov (.s 7))⟩,⟨(some 22),(some (19,true)),(.idx 1 (.s 20) (.s 21))⟩,⟨(some 23),(some (19,true)),(.ld none (.s 22))⟩,⟨(some 24),(some (19,true)),(.mov (.s 0))⟩,⟨(some 25),(some (19,true)),(.mov (.s 7))⟩,⟨(some 26),(some (19,true)),(.bin .sub (.s 25) (.c (.int .i64 1)))⟩,⟨(some 27),(some (19,true)),(.idx 1 (.s 24) (.s 26))⟩,⟨(some 28),(some (19,true)),(.ld none (.s 27))⟩,⟨(some 29),(some (19,true)),(.call (fx n_cmp_Less_uint64) [(.s 23),(.s 28)])⟩,(oo 30 (.pick (.s 19) (.s 29) (.c (.bool false))))] [(0,(false,[])),(1,(false,[])),(2,(false,[])),(3,(false,[])),(4,(false,[])),(5,(false,[])),(6,(false,[])),(7,(false,[])),(8,(false,[])),(9,(false,[])),(10,(false,[])),(11,(false,[])),(12,(false,[])),(13,(true,[])),(14,(false,[]))]) (.cond (.s 30) .skip (.exit 2))) (.seq (.block 3 (.regD [(oo 33 (.mov (.s 0))),(oo 34 (.mov (.s 7))),(oo 35 (.mov (.s 0))),(oo 36 (.mov (.s 7))),(oo 37 (.bin .sub (.s 36) (.c (.int .i64 1)))),(oo 38 (.mov (.s 0))),(oo 39 (.mov (.s 7))),(oo 40 (.bin .sub (.s 39) (.c (.int .i64 1)))),(oo 41 (.idx 1 (.s 38) (.s 40))),(oo 42 (.ld none (.s 41))),(oo 43 (.mov (.s 0))),(oo 44 (.mov (.s 7))),(oo 45 (.idx 1 (.s 43) (.s 44))),(oo 46 (.ld none (.s 45))),(oo 47 (.idx 1 (.s 33) (.s 34))),⟨none,none,(.st 1 (.s 47) (.s 42))⟩,(oo 48 (.idx 1 (.s 35) (.s 37))),⟨none,none,(.st 1 (.s 48) (.s 46))⟩] [(0,(false,[])),(1,(false,[])),(2,(false,[])),(3,(false,[])),(4,(false,[])),(5,(false,[])),(6,(false,[])),(7,(false,[])),(8,(false,[])),(9,(false,[])),(10,(false,[])),(11,(false,[])),(12,(false,[])),(13,(false,[])),(14,(false,[])),(15,(true,[4,3,2])),(16,(false,[])),(17,(true,[]))])) (.reg [(oo 31 (.mov (.s 7))),(oo 32 (.bin .sub (.s 31) (.c (.int .i64 1)))),(oo 7 (.mov (.s 32)))]))))))) (.reg [(oo 13 (.mov (.s 6))),(oo 14 (.bin .add (.s 13) (.c (.int .i64 1)))),(oo 6 (.mov (.s 14)))]))))))
def F_slices_insertionSortOrdered_uint64 (P : Program) (a0 a1 a2 : V) (st : St) (K : V → St → Prop) : Prop :=
 @stp P (.bin .add (.c a1) (.c (.int .i64 1))) st ⟨fun v9 st =>
 @Hold ⟨∃ I1 : Nat → Rel 1,(∃ k,GhostV [v9] st (app (I1 k))) ∧ ∀ k1 v6,∀ st,app (I1 k1) [v6] st →
 @stp P (.bin .lss (.c v6) (.c a2)) st ⟨fun v12 st =>
 @cnd v12 ⟨
 @Hold ⟨∃ I2 : Nat → Rel 1,(∃ k,GhostV [v6] st (app (I2 k))) ∧ ∀ k2 v7,∀ st,app (I2 k2) [v7] st →
 @stpD P (.bin .gtr (.c v7) (.c a1)) st ⟨fun v18 st =>
 @gstD P v18 true (.mov (.c a0)) st ⟨fun v20 st =>
 @gstD P v18 true (.mov (.c v7)) st ⟨fun v21 st =>
 @gstD P v18 true (.idx 1 (.c v20) (.c v21)) st ⟨fun v22 st =>
 @gstD P v18 true (.ld none (.c v22)) st ⟨fun v23 st =>
 @gstD P v18 true (.mov (.c a0)) st ⟨fun v24 st =>
 @gstD P v18 true (.mov (.c v7)) st ⟨fun v25 st =>
 @gstD P v18 true (.bin .sub (.c v25) (.c (.int .i64 1))) st ⟨fun v26 st =>
 @gstD P v18 true (.idx 1 (.c v24) (.c v26)) st ⟨fun v27 st =>
 @gstD P v18 true (.ld none (.c v27)) st ⟨fun v28 st =>
 @gstD P v18 true (.call (.c (.fn (.func n_cmp_Less_uint64) [] [])) [(.c v23),(.c v28)]) st ⟨fun v29 st =>
 @stpD P (.pick (.c v18) (.c v29) (.c (.bool false))) st ⟨fun v30 st =>
 @cnd v30 ⟨
 @stpD P (.bin .sub (.c v7) (.c (.int .i64 1))) st ⟨fun v37 st =>
 @stpD P (.bin .sub (.c v7) (.c (.int .i64 1))) st ⟨fun v40 st =>
 @stpD P (.idx 1 (.c a0) (.c v40)) st ⟨fun v41 st =>
 @stpD P (.ld none (.c v41)) st ⟨fun v42 st =>
 @stpD P (.idx 1 (.c a0) (.c v7)) st ⟨fun v45 st =>
 @stpD P (.ld none (.c v45)) st ⟨fun v46 st =>
 @stpD P (.idx 1 (.c a0) (.c v7)) st ⟨fun v47 st =>
 @stpD P (.st 1 (.c v47) (.c v42)) st ⟨fun _v st =>
 hwat P none (.bin .sub (.c v7) (.c (.int .i64 1))) st v37 ∧ (
 hwat P none (.mov (.c v7)) st v7 ∧ (
 hwat P none (.mov (.c a0)) st a0 ∧ (
 @stpD P (.idx 1 (.c a0) (.c v37)) st ⟨fun v48 st =>
 @stpD P (.st 1 (.c v48) (.c v46)) st ⟨fun _v st =>
 @stp P (.bin .sub (.c v7) (.c (.int .i64 1))) st ⟨fun v32 st =>
 ∃ j,j < k2 ∧ GhostV [v32] st (app (I2 j))⟩⟩⟩)))⟩⟩⟩⟩⟩⟩⟩⟩⟩
 ⟨
 @stp P (.bin .add (.c v6) (.c (.int .i64 1))) st ⟨fun v14 st =>
 ∃ j,j < k1 ∧ GhostV [v14] st (app (I1 j))⟩⟩⟩⟩⟩⟩⟩⟩⟩⟩⟩⟩⟩⟩⟩⟩
 ⟨
 GhostV [] st fun vs st => K (mkres vs) st⟩⟩⟩⟩
theorem q_slices_insertionSortOrdered_uint64 {P : Program} {a0 a1 a2 : V} {st : St} {K : V → St → Prop} : F_slices_insertionSortOrdered_uint64 P a0 a1 a2 st K = hwp P c_slices_insertionSortOrdered_uint64 (hretQ [] K) (enterFr [a0, a1, a2]) st := by kernel_rfl
abbrev R_slices_insertionSortOrdered_uint64 (P : Program) : Prop := resFnH P n_slices_insertionSortOrdered_uint64 = some (49, c_slices_insertionSortOrdered_uint64.er, [])
theorem A_slices_insertionSortOrdered_uint64 {P : Program} (h : R_slices_insertionSortOrdered_uint64 P) {a0 a1 a2 : V} {st : St} {K : V → St → Prop} (hF : F_slices_insertionSortOrdered_uint64 P a0 a1 a2 st K) : ACalls P n_slices_insertionSortOrdered_uint64 [a0, a1, a2] st K :=
  ACalls_h h rfl (by simp) (q_slices_insertionSortOrdered_uint64 ▸ hF)

def c_slices_heapSortOrdered_uint64 : ACode := (.seq (.reg [(oo 11 (.mov (.s 1))),(oo 6 (.mov (.s 11)))]) (.seq (.reg [(oo 7 (.mov (.c (.int .i64 0))))]) (.seq (.reg [(oo 12 (.mov (.s 2))),(oo 13 (.mov (.s 1))),(oo 14 (.bin .sub (.s 12) (.s 13))),(oo 8 (.mov (.s 14)))]) (.seq (.seq (.reg [(oo 15 (.mov (.s 8))),(oo 16 (.bin .sub (.s 15) (.c (.int .i64 1)))),(oo 17 (.bin .quo (.s 16) (.c (.int .i64 2)))),(oo 9 (.mov (.s 17)))]) (.block 0 (.loop [9] [9,18,19,20,21,22,23,24,25,26] (.seq (.seq (.reg [(oo 18 (.mov (.s 9))),(oo 19 (.bin .geq (.s 18) (.c (.int .i64 0))))]) (.cond (.s 19) .skip (.exit 0))) (.seq (.block 1 (.reg [(oo 22 (.mov (.s 0))),(oo 23 (.mov (.s 9))),(oo 24 (.mov (.s 8))),(oo 25 (.mov (.s 6))),(oo 26 (.call (fx n_slices_siftDownOrdered_uint64) [(.s 22),(.s 23),(.s 24),(.s 25)]))])) (.reg [(oo 20 (.mov (.s 9))),(oo 21 (.bin .sub (.s 20) (.c (.int .i64 1)))),(oo 9 (.mov (.s 21)))])))))) (.seq (.reg [(oo 27 (.mov (.s 8))),(oo 28 (.bin .sub (.s 27) (.c (.int .i64 1)))),(oo 10 (.mov (.s 28)))]) (.block 2 (.loop [10] [10,29,30,31,32,33,34,35,36,37,38,39,40,41,42,43,44,45,46,47,48,49,50,51,52,53,54,55] (.seq (.seq (.reg [(oo 29 (.mov (.s 10))),(oo 30 (.bin .geq (.s 29) (.c (.int .i64 0))))]) (.cond (.s 30) .skip (.exit 2))) (.seq (.block 3 (.seq (.regD [(oo 33 (.mov (.s 0))),(oo 34 (.mov (.s 6))),(oo 35 (.mov (.s 0))),(oo 36 (.mov (.s 6))),(oo 37 (.mov (.s 10))),(oo 38 (.bin .add (.s 36) (.s 37))),(oo 39 (.mov (.s 0))),(oo 40 (.mov (.s 6))),(oo 41 (.mov (.s 10))),(oo 42 (.bin .add (.s 40) (.s 41))),(oo 43 (.idx 1 (.s 39) (.s 42))),(oo 44 (.ld none (.s 43))),(oo 45 (.mov (.s 0))),(oo 46 (.mov (.s 6))),(oo 47 (.idx 1 (.s 45) (.s 46))),(oo 48 (.ld none (.s 47))),(oo 49 (.idx 1 (.s 33) (.s 34))),⟨none,none,(.st 1 (.s 49) (.s 44))⟩,(oo 50 (.idx 1 (.s 35) (.s 38))),⟨none,none,(.st 1 (.s 50) (.s 48))⟩] [(0,(false,[])),(1,(false,[])),(2,(false,[])),(3,(false,[])),(4,(false,[])),(5,(false,[])),(6,(false,[])),(7,(false,[])),(8,(false,[])),(9,(false,[])),(10,(false,[])),(11,(false,[])),(12,(false,[])),(13,(false,[])),(14,(false,[])),(15,(false,[])),(16,(false,[])),(17,(true,[5,4,3,2])),(18,(false,[])),(19,(true,[]))]) (.reg [(oo 51 (.mov (.s 0))),(oo 52 (.mov (.s 7))),(oo 53 (.mov (.s 10))),(oo 54 (.mov (.s 6))),(oo 55 (.call (fx n_slices_siftDownOrdered_uint64) [(.s 51),(.s 52),(.s 53),(.s 54)]))]))) (.reg [(oo 31 (.mov (.s 10))),(oo 32 (.bin .sub (.s 31) (.c (.int .i64 1)))),(oo 10 (.mov (.s 32)))]))))))))))
def F_slices_heapSortOrdered_uint64 (P : Program) (a0 a1 a2 : V) (st : St) (K : V → St → Prop) : Prop :=
 @stp P (.bin .sub (.c a2) (.c a1)) st ⟨fun v14 st =>
 @stp P (.bin .sub (.c v14) (.c (.int .i64 1))) st ⟨fun v16 st =>
 @stp P (.bin .quo (.c v16) (.c (.int .i64 2))) st ⟨fun v17 st =>
 @Hold ⟨∃ I1 : Nat → Rel 1,(∃ k,GhostV [v17] st (app (I1 k))) ∧ ∀ k1 v9,∀ st,app (I1 k1) [v9] st →
 @stp P (.bin .geq (.c v9) (.c (.int .i64 0))) st ⟨fun v19 st =>
 @cnd v19 ⟨
 @stp P (.call (.c (.fn (.func n_slices_siftDownOrdered_uint64) [] [])) [(.c a0),(.c v9),(.c v14),(.c a1)]) st ⟨fun v26 st =>
 @stp P (.bin .sub (.c v9) (.c (.int .i64 1))) st ⟨fun v21 st =>
 ∃ j,j < k1 ∧ GhostV [v21] st (app (I1 j))⟩⟩⟩
 ⟨
 @stp P (.bin .sub (.c v14) (.c (.int .i64 1))) st ⟨fun v28 st =>
 @Hold ⟨∃ I2 : Nat → Rel 1,(∃ k,GhostV [v28] st (app (I2 k))) ∧ ∀ k2 v10,∀ st,app (I2 k2) [v10] st →
 @stp P (.bin .geq (.c v10) (.c (.int .i64 0))) st ⟨fun v30 st =>
 @cnd v30 ⟨
 @stpD P (.bin .add (.c a1) (.c v10)) st ⟨fun v38 st =>
 @stpD P (.bin .add (.c a1) (.c v10)) st ⟨fun v42 st =>
 @stpD P (.idx 1 (.c a0) (.c v42)) st ⟨fun v43 st =>
 @stpD P (.ld none (.c v43)) st ⟨fun v44 st =>
 @stpD P (.idx 1 (.c a0) (.c a1)) st ⟨fun v47 st =>
 @stpD P (.ld none (.c v47)) st ⟨fun v48 st =>
 @stpD P (.idx 1 (.c a0) (.c a1)) st ⟨fun v49 st =>
 @stpD P (.st 1 (.c v49) (.c v44)) st ⟨fun _v st =>
 hwat P none (.bin .add (.c a1) (.c v10)) st v38 ∧ (
 hwat P none (.mov (.c v10)) st v10 ∧ (
 hwat P none (.mov (.c a1)) st a1 ∧ (
 hwat P none (.mov (.c a0)) st a0 ∧ (
 @stpD P (.idx 1 (.c a0) (.c v38)) st ⟨fun v50 st =>
 @stpD P (.st 1 (.c v50) (.c v48)) st ⟨fun _v st =>
 @stp P (.call (.c (.fn (.func n_slices_siftDownOrdered_uint64) [] [])) [(.c a0),(.c (.int .i64 0)),(.c v10),(.c a1)]) st ⟨fun v55 st =>
 @stp P (.bin .sub (.c v10) (.c (.int .i64 1))) st ⟨fun v32 st =>
 ∃ j,j < k2 ∧ GhostV [v32] st (app (I2 j))⟩⟩⟩⟩))))⟩⟩⟩⟩⟩⟩⟩⟩⟩
 ⟨
 GhostV [] st fun vs st => K (mkres vs) st⟩⟩⟩⟩⟩⟩⟩⟩⟩⟩
theorem q_slices_heapSortOrdered_uint64 {P : Program} {a0 a1 a2 : V} {st : St} {K : V → St → Prop} : F_slices_heapSortOrdered_uint64 P a0 a1 a2 st K = hwp P c_slices_heapSortOrdered_uint64 (hretQ [] K) (enterFr [a0, a1, a2]) st := by kernel_rfl
abbrev R_slices_heapSortOrdered_uint64 (P : Program) : Prop := resFnH P n_slices_heapSortOrdered_uint64 = some (56, c_slices_heapSortOrdered_uint64.er, [])
theorem A_slices_heapSortOrdered_uint64 {P : Program} (h : R_slices_heapSortOrdered_uint64 P) {a0 a1 a2 : V} {st : St} {K : V → St → Prop} (hF : F_slices_heapSortOrdered_uint64 P a0 a1 a2 st K) : ACalls P n_slices_heapSortOrdered_uint64 [a0, a1, a2] st K :=
  ACalls_h h rfl (by simp) (q_slices_heapSortOrdered_uint64 ▸ hF)

def c_slices_breakPatternsOrdered_uint64 : ACode := (.seq (.reg [(oo 11 (.mov (.s 2))),(oo 12 (.mov (.s 1))),(oo 13 (.bin .sub (.s 11) (.s 12))),(oo 6 (.mov (.s 13)))]) (.seq (.reg [(oo 14 (.mov (.s 6))),(oo 15 (.bin .geq (.s 14) (.c (.int .i64 8))))]) (.cond (.s 15) (.seq (.reg [(oo 16 (.mov (.s 6))),(oo 17 (.conv .u64 (.s 16))),(oo 7 (.alloc [(.int .u64 0)])),⟨none,none,(.st 1 (.s 7) (.s 17))⟩]) (.seq (.reg [(oo 18 (.mov (.s 6))),(oo 19 (.call (fx n_slices_nextPowerOfTwo) [(.s 18)])),(oo 8 (.mov (.s 19)))]) (.seq (.reg [(oo 20 (.mov (.s 1))),(oo 21 (.mov (.s 6))),(oo 22 (.bin .quo (.s 21) (.c (.int .i64 4)))),(oo 23 (.bin .mul (.s 22) (.c (.int .i64 2)))),(oo 24 (.bin .add (.s 20) (.s 23))),(oo 25 (.bin .sub (.s 24) (.c (.int .i64 1)))),(oo 9 (.mov (.s 25)))]) (.block 0 (.loop [9] [9,10,26,27,28,29,30,31,32,33,34,35,36,37,38,39,40,41,42,43,44,45,46,47,48,49,50,51,52,53,54,55,56,57,58,59,60,61,62,63,64] (.seq (.seq (.reg [(oo 26 (.mov (.s 9))),(oo 27 (.mov (.s 1))),(oo 28 (.mov (.s 6))),(oo 29 (.bin .quo (.s 28) (.c (.int .i64 4)))),(oo 30 (.bin .mul (.s 29) (.c (.int .i64 2)))),(oo 31 (.bin .add (.s 27) (.s 30))),(oo 32 (.bin .add (.s 31) (.c (.int .i64 1)))),(oo 33 (.bin .leq (.s 26) (.s 32)))]) (.cond (.s 33) .skip (.exit 0))) (.seq (.block 1 (.seq (.reg [(oo 36 (.call (fx n_slices_xorshift_Next) [(.s 7)])),(oo 37 (.mov (.s 8))),(oo 38 (.bin .sub (.s 37) (.c (.int .u64 1)))),(oo 39 (.bin .and (.s 36) (.s 38))),(oo 40 (.conv .i64 (.s 39))),(oo 10 (.mov (.s 40)))]) (.join [10] [10,41,42,43,44,45,46] (.seq (.reg [(oo 41 (.mov (.s 10))),(oo 42 (.mov (.s 6))),(oo 43 (.bin .geq (.s 41) (.s 42)))]) (.cond (.s 43) (.reg [(oo 44 (.mov (.s 10))),(oo 45 (.mov (.s 6))),(oo 46 (.bin .sub (.s 44) (.s 45))),(oo 10 (.mov (.s 46)))]) .skip)) (.regD [(oo 47 (.mov (.s 0))),(oo 48 (.mov (.s 9))),(oo 49 (.mov (.s 0))),(oo 50 (.mov (.s 1))),(oo 51 (.mov (.s 10))),(oo 52 (.bin .add (.s 50) (.s 51))),(oo 53 (.mov (.s 0))),(oo 54 (.mov (.s 1))),(oo 55 (.mov (.s 10))),(oo 56 (.bin .add (.s 54) (.s 55))),(oo 57 (.idx 1 (.s 53) (.s 56))),(oo 58 (.ld none (.s 57))),(oo 59 (.mov (.s 0))),(oo 60 (.mov (.s 9))),(oo 61 (.idx 1 (.s 59) (.s 60))),(oo 62 (.ld none (.s 61))),(oo 63 (.idx 1 (.s 47) (.s 48))),⟨none,none,(.st 1 (.s 63) (.s 58))⟩,(oo 64 (.idx 1 (.s 49) (.s 52))),⟨none,none,(.st 1 (.s 64) (.s 62))⟩] [(0,(false,[])),(1,(false,[])),(2,(false,[])),(3,(false,[])),(4,(false,[])),(5,(false,[])),(6,(false,[])),(7,(false,[])),(8,(false,[])),(9,(false,[])),(10,(false,[])),(11,(false,[])),(12,(false,[])),(13,(false,[])),(14,(false,[])),(15,(false,[])),(16,(false,[])),(17,(true,[5,4,3,2])),(18,(false,[])),(19,(true,[]))])))) (.reg [(oo 34 (.mov (.s 9))),(oo 35 (.bin .add (.s 34) (.c (.int .i64 1)))),(oo 9 (.mov (.s 35)))])))))))) .skip)))
def F_slices_breakPatternsOrdered_uint64 (P : Program) (a0 a1 a2 : V) (st : St) (K : V → St → Prop) : Prop :=
 @stp P (.bin .sub (.c a2) (.c a1)) st ⟨fun v13 st =>
 @stp P (.bin .geq (.c v13) (.c (.int .i64 8))) st ⟨fun v15 st =>
 @cnd v15 ⟨
 @stp P (.conv .u64 (.c v13)) st ⟨fun v17 st =>
 @stp P (.alloc [(.int .u64 0)]) st ⟨fun v7 st =>
 @stp P (.st 1 (.c v7) (.c v17)) st ⟨fun _v st =>
 @stp P (.call (.c (.fn (.func n_slices_nextPowerOfTwo) [] [])) [(.c v13)]) st ⟨fun v19 st =>
 @stp P (.bin .quo (.c v13) (.c (.int .i64 4))) st ⟨fun v22 st =>
 @stp P (.bin .mul (.c v22) (.c (.int .i64 2))) st ⟨fun v23 st =>
 @stp P (.bin .add (.c a1) (.c v23)) st ⟨fun v24 st =>
 @stp P (.bin .sub (.c v24) (.c (.int .i64 1))) st ⟨fun v25 st =>
 @Hold ⟨∃ I1 : Nat → Rel 1,(∃ k,GhostV [v25] st (app (I1 k))) ∧ ∀ k1 v9,∀ st,app (I1 k1) [v9] st →
 @stp P (.bin .quo (.c v13) (.c (.int .i64 4))) st ⟨fun v29 st =>
 @stp P (.bin .mul (.c v29) (.c (.int .i64 2))) st ⟨fun v30 st =>
 @stp P (.bin .add (.c a1) (.c v30)) st ⟨fun v31 st =>
 @stp P (.bin .add (.c v31) (.c (.int .i64 1))) st ⟨fun v32 st =>
 @stp P (.bin .leq (.c v9) (.c v32)) st ⟨fun v33 st =>
 @cnd v33 ⟨
 @stp P (.call (.c (.fn (.func n_slices_xorshift_Next) [] [])) [(.c v7)]) st ⟨fun v36 st =>
 @stp P (.bin .sub (.c v19) (.c (.int .u64 1))) st ⟨fun v38 st =>
 @stp P (.bin .and (.c v36) (.c v38)) st ⟨fun v39 st =>
 @stp P (.conv .i64 (.c v39)) st ⟨fun v40 st =>
 @Hold ⟨∃ J2 : Rel 1,(
 @stp P (.bin .geq (.c v40) (.c v13)) st ⟨fun v43 st =>
 @cnd v43 ⟨
 @stp P (.bin .sub (.c v40) (.c v13)) st ⟨fun v46 st =>
 GhostV [v46] st (app J2)⟩⟩
 ⟨
 GhostV [v40] st (app J2)⟩⟩) ∧
 ∀ v10 st,app J2 [v10] st →
 @stpD P (.bin .add (.c a1) (.c v10)) st ⟨fun v52 st =>
 @stpD P (.bin .add (.c a1) (.c v10)) st ⟨fun v56 st =>
 @stpD P (.idx 1 (.c a0) (.c v56)) st ⟨fun v57 st =>
 @stpD P (.ld none (.c v57)) st ⟨fun v58 st =>
 @stpD P (.idx 1 (.c a0) (.c v9)) st ⟨fun v61 st =>
 @stpD P (.ld none (.c v61)) st ⟨fun v62 st =>
 @stpD P (.idx 1 (.c a0) (.c v9)) st ⟨fun v63 st =>
 @stpD P (.st 1 (.c v63) (.c v58)) st ⟨fun _v st =>
 hwat P none (.bin .add (.c a1) (.c v10)) st v52 ∧ (
 hwat P none (.mov (.c v10)) st v10 ∧ (
 hwat P none (.mov (.c a1)) st a1 ∧ (
 hwat P none (.mov (.c a0)) st a0 ∧ (
 @stpD P (.idx 1 (.c a0) (.c v52)) st ⟨fun v64 st =>
 @stpD P (.st 1 (.c v64) (.c v62)) st ⟨fun _v st =>
 @stp P (.bin .add (.c v9) (.c (.int .i64 1))) st ⟨fun v35 st =>
 ∃ j,j < k1 ∧ GhostV [v35] st (app (I1 j))⟩⟩⟩))))⟩⟩⟩⟩⟩⟩⟩⟩⟩⟩⟩⟩⟩⟩
 ⟨
 GhostV [] st fun vs st => K (mkres vs) st⟩⟩⟩⟩⟩⟩⟩⟩⟩⟩⟩⟩⟩⟩⟩⟩
 ⟨
 GhostV [] st fun vs st => K (mkres vs) st⟩⟩⟩
theorem q_slices_breakPatternsOrdered_uint64 {P : Program} {a0 a1 a2 : V} {st : St} {K : V → St → Prop} : F_slices_breakPatternsOrdered_uint64 P a0 a1 a2 st K = hwp P c_slices_breakPatternsOrdered_uint64 (hretQ [] K) (enterFr [a0, a1, a2]) st := by kernel_rfl
abbrev R_slices_breakPatternsOrdered_uint64 (P : Program) : Prop := resFnH P n_slices_breakPatternsOrdered_uint64 = some (65, c_slices_breakPatternsOrdered_uint64.er, [])
theorem A_slices_breakPatternsOrdered_uint64 {P : Program} (h : R_slices_breakPatternsOrdered_uint64 P) {a0 a1 a2 : V} {st : St} {K : V → St → Prop} (hF : F_slices_breakPatternsOrdered_uint64 P a0 a1 a2 st K) : ACalls P n_slices_breakPatternsOrdered_uint64 [a0, a1, a2] st K :=
  ACalls_h h rfl (by simp) (q_slices_breakPatternsOrdered_uint64 ▸ hF)

def c_slices_choosePivotOrdered_uint64 : ACode := (.seq (.reg [(oo 6 (.mov (.c (.int .i64 0)))),(oo 7 (.mov (.c (.int .i64 0))))]) (.seq (.reg [(oo 13 (.mov (.s 2))),(oo 14 (.mov (.s 1))),(oo 15 (.bin .sub (.s 13) (.s 14))),(oo 8 (.mov (.s 15)))]) (.seq (.reg [(oo 9 (.alloc [(.int .i64 0)]))]) (.seq (.reg [(oo 16 (.mov (.s 1))),(oo 17 (.mov (.s 8))),(oo 18 (.bin .quo (.s 17) (.c (.int .i64 4)))),(oo 19 (.bin .mul (.s 18) (.c (.int .i64 1)))),(oo 20 (.bin .add (.s 16) (.s 19))),(oo 10 (.mov (.s 20)))]) (.seq (.reg [(oo 21 (.mov (.s 1))),(oo 22 (.mov (.s 8))),(oo 23 (.bin .quo (.s 22) (.c (.int .i64 4)))),(oo 24 (.bin .mul (.s 23) (.c (.int .i64 2)))),(oo 25 (.bin .add (.s 21) (.s 24))),(oo 11 (.mov (.s 25)))]) (.seq (.reg [(oo 26 (.mov (.s 1))),(oo 27 (.mov (.s 8))),(oo 28 (.bin .quo (.s 27) (.c (.int .i64 4)))),(oo 29 (.bin .mul (.s 28) (.c (.int .i64 3)))),(oo 30 (.bin .add (.s 26) (.s 29))),(oo 12 (.mov (.s 30)))]) (.join [11] [10,11,12,31,32,33,34,35,36,37,38,39,40,41,42,43,44,45,46,47,48] (.seq (.reg [(oo 31 (.mov (.s 8))),(oo 32 (.bin .geq (.s 31) (.c (.int .i64 8))))]) (.cond (.s 32) (.seq (.seq (.reg [(oo 33 (.mov (.s 8))),(oo 34 (.bin .geq (.s 33) (.c (.int .i64 50))))]) (.cond (.s 34) (.seq (.reg [(oo 35 (.mov (.s 0))),(oo 36 (.mov (.s 10))),(oo 37 (.call (fx n_slices_medianAdjacentOrdered_uint64) [(.s 35),(.s 36),(.s 9)])),(oo 10 (.mov (.s 37)))]) (.seq (.reg [(oo 38 (.mov (.s 0))),(oo 39 (.mov (.s 11))),(oo 40 (.call (fx n_slices_medianAdjacentOrdered_uint64) [(.s 38),(.s 39),(.s 9)])),(oo 11 (.mov (.s 40)))]) (.reg [(oo 41 (.mov (.s 0))),(oo 42 (.mov (.s 12))),(oo 43 (.call (fx n_slices_medianAdjacentOrdered_uint64) [(.s 41),(.s 42),(.s 9)])),(oo 12 (.mov (.s 43)))]))) .skip)) (.reg [(oo 44 (.mov (.s 0))),(oo 45 (.mov (.s 10))),(oo 46 (.mov (.s 11))),(oo 47 (.mov (.s 12))),(oo 48 (.call (fx n_slices_medianOrdered_uint64) [(.s 44),(.s 45),(.s 46),(.s 47),(.s 9)])),(oo 11 (.mov (.s 48)))])) .skip)) (.seq (.reg [(oo 49 (.ld none (.s 9)))]) (.block 0 (.seq (.reg [(oo 52 (.bin .eql (.s 49) (.c (.int .i64 0)))),(oo 51 (.mov (.s 52)))]) (.cond (.s 51) (.seq (.reg [(oo 53 (.mov (.s 11))),(oo 6 (.mov (.s 53))),(oo 7 (.mov (.c (.int .i64 1))))]) .ret) (.seq (.reg [(oo 55 (.bin .eql (.s 49) (.c (.int .i64 12)))),(oo 54 (.mov (.s 55)))]) (.cond (.s 54) (.seq (.reg [(oo 56 (.mov (.s 11))),(oo 6 (.mov (.s 56))),(oo 7 (.mov (.c (.int .i64 2))))]) .ret) (.seq (.reg [(oo 50 (.mov (.s 11))),(oo 6 (.mov (.s 50))),(oo 7 (.mov (.c (.int .i64 0))))]) .ret))))))))))))))
def F_slices_choosePivotOrdered_uint64 (P : Program) (a0 a1 a2 : V) (st : St) (K : V → St → Prop) : Prop :=
 @stp P (.bin .sub (.c a2) (.c a1)) st ⟨fun v15 st =>
 @stp P (.alloc [(.int .i64 0)]) st ⟨fun v9 st =>
 @stp P (.bin .quo (.c v15) (.c (.int .i64 4))) st ⟨fun v18 st =>
 @stp P (.bin .mul (.c v18) (.c (.int .i64 1))) st ⟨fun v19 st =>
 @stp P (.bin .add (.c a1) (.c v19)) st ⟨fun v20 st =>
 @stp P (.bin .quo (.c v15) (.c (.int .i64 4))) st ⟨fun v23 st =>
 @stp P (.bin .mul (.c v23) (.c (.int .i64 2))) st ⟨fun v24 st =>
 @stp P (.bin .add (.c a1) (.c v24)) st ⟨fun v25 st =>
 @stp P (.bin .quo (.c v15) (.c (.int .i64 4))) st ⟨fun v28 st =>
 @stp P (.bin .mul (.c v28) (.c (.int .i64 3))) st ⟨fun v29 st =>
 @stp P (.bin .add (.c a1) (.c v29)) st ⟨fun v30 st =>
 @Hold ⟨∃ J1 : Rel 1,(
 @stp P (.bin .geq (.c v15) (.c (.int .i64 8))) st ⟨fun v32 st =>
 @cnd v32 ⟨
 @stp P (.bin .geq (.c v15) (.c (.int .i64 50))) st ⟨fun v34 st =>
 @cnd v34 ⟨
 @stp P (.call (.c (.fn (.func n_slices_medianAdjacentOrdered_uint64) [] [])) [(.c a0),(.c v20),(.c v9)]) st ⟨fun v37 st =>
 @stp P (.call (.c (.fn (.func n_slices_medianAdjacentOrdered_uint64) [] [])) [(.c a0),(.c v25),(.c v9)]) st ⟨fun v40 st =>
 @stp P (.call (.c (.fn (.func n_slices_medianAdjacentOrdered_uint64) [] [])) [(.c a0),(.c v30),(.c v9)]) st ⟨fun v43 st =>
 @stp P (.call (.c (.fn (.func n_slices_medianOrdered_uint64) [] [])) [(.c a0),(.c v37),(.c v40),(.c v43),(.c v9)]) st ⟨fun v48 st =>
 GhostV [v48] st (app J1)⟩⟩⟩⟩⟩
 ⟨
 @stp P (.call (.c (.fn (.func n_slices_medianOrdered_uint64) [] [])) [(.c a0),(.c v20),(.c v25),(.c v30),(.c v9)]) st ⟨fun v48 st =>
 GhostV [v48] st (app J1)⟩⟩⟩⟩
 ⟨
 GhostV [v25] st (app J1)⟩⟩) ∧
 ∀ v11 st,app J1 [v11] st →
 @stp P (.ld none (.c v9)) st ⟨fun v49 st =>
 @stp P (.bin .eql (.c v49) (.c (.int .i64 0))) st ⟨fun v52 st =>
 @cnd v52 ⟨
 GhostV [v11,(.int .i64 1)] st fun vs st => K (mkres vs) st⟩
 ⟨
 @stp P (.bin .eql (.c v49) (.c (.int .i64 12))) st ⟨fun v55 st =>
 @cnd v55 ⟨
 GhostV [v11,(.int .i64 2)] st fun vs st => K (mkres vs) st⟩
 ⟨
 GhostV [v11,(.int .i64 0)] st fun vs st => K (mkres vs) st⟩⟩⟩⟩⟩⟩⟩⟩⟩⟩⟩⟩⟩⟩⟩⟩⟩
theorem q_slices_choosePivotOrdered_uint64 {P : Program} {a0 a1 a2 : V} {st : St} {K : V → St → Prop} : F_slices_choosePivotOrdered_uint64 P a0 a1 a2 st K = hwp P c_slices_choosePivotOrdered_uint64 (hretQ [.tmp 6, .tmp 7] K) (enterFr [a0, a1, a2]) st := by kernel_rfl
abbrev R_slices_choosePivotOrdered_uint64 (P : Program) : Prop := resFnH P n_slices_choosePivotOrdered_uint64 = some (57, c_slices_choosePivotOrdered_uint64.er, [.tmp 6, .tmp 7])
theorem A_slices_choosePivotOrdered_uint64 {P : Program} (h : R_slices_choosePivotOrdered_uint64 P) {a0 a1 a2 : V} {st : St} {K : V → St → Prop} (hF : F_slices_choosePivotOrdered_uint64 P a0 a1 a2 st K) : ACalls P n_slices_choosePivotOrdered_uint64 [a0, a1, a2] st K :=
  ACalls_h h rfl (by simp) (q_slices_choosePivotOrdered_uint64 ▸ hF)

def c_slices_reverseRangeOrdered_uint64 : ACode := (.seq (.reg [(oo 8 (.mov (.s 1))),(oo 6 (.mov (.s 8)))]) (.seq (.reg [(oo 9 (.mov (.s 2))),(oo 10 (.bin .sub (.s 9) (.c (.int .i64 1)))),(oo 7 (.mov (.s 10)))]) (.block 0 (.loop [6,7] [6,7,11,12,13,14,15,16,17,18,19,20,21,22,23,24,25,26,27,28,29,30,31] (.seq (.seq (.reg [(oo 11 (.mov (.s 6))),(oo 12 (.mov (.s 7))),(oo 13 (.bin .lss (.s 11) (.s 12)))]) (.cond (.s 13) .skip (.exit 0))) (.block 1 (.seq (.regD [(oo 14 (.mov (.s 0))),(oo 15 (.mov (.s 6))),(oo 16 (.mov (.s 0))),(oo 17 (.mov (.s 7))),(oo 18 (.mov (.s 0))),(oo 19 (.mov (.s 7))),(oo 20 (.idx 1 (.s 18) (.s 19))),(oo 21 (.ld none (.s 20))),(oo 22 (.mov (.s 0))),(oo 23 (.mov (.s 6))),(oo 24 (.idx 1 (.s 22) (.s 23))),(oo 25 (.ld none (.s 24))),(oo 26 (.idx 1 (.s 14) (.s 15))),⟨none,none,(.st 1 (.s 26) (.s 21))⟩,(oo 27 (.idx 1 (.s 16) (.s 17))),⟨none,none,(.st 1 (.s 27) (.s 25))⟩] [(0,(false,[])),(1,(false,[])),(2,(false,[])),(3,(false,[])),(4,(false,[])),(5,(false,[])),(6,(false,[])),(7,(false,[])),(8,(false,[])),(9,(false,[])),(10,(false,[])),(11,(false,[])),(12,(false,[])),(13,(true,[3,2])),(14,(false,[])),(15,(true,[]))]) (.seq (.reg [(oo 28 (.mov (.s 6))),(oo 29 (.bin .add (.s 28) (.c (.int .i64 1)))),(oo 6 (.mov (.s 29)))]) (.reg [(oo 30 (.mov (.s 7))),(oo 31 (.bin .sub (.s 30) (.c (.int .i64 1)))),(oo 7 (.mov (.s 31)))])))))))))
def F_slices_reverseRangeOrdered_uint64 (P : Program) (a0 a1 a2 : V) (st : St) (K : V → St → Prop) : Prop :=
 @stp P (.bin .sub (.c a2) (.c (.int .i64 1))) st ⟨fun v10 st =>
 @Hold ⟨∃ I1 : Nat → Rel 2,(∃ k,GhostV [a1,v10] st (app (I1 k))) ∧ ∀ k1 v6 v7,∀ st,app (I1 k1) [v6,v7] st →
 @stp P (.bin .lss (.c v6) (.c v7)) st ⟨fun v13 st =>
 @cnd v13 ⟨
 @stpD P (.idx 1 (.c a0) (.c v7)) st ⟨fun v20 st =>
 @stpD P (.ld none (.c v20)) st ⟨fun v21 st =>
 @stpD P (.idx 1 (.c a0) (.c v6)) st ⟨fun v24 st =>
 @stpD P (.ld none (.c v24)) st ⟨fun v25 st =>
 @stpD P (.idx 1 (.c a0) (.c v6)) st ⟨fun v26 st =>
 @stpD P (.st 1 (.c v26) (.c v21)) st ⟨fun _v st =>
 hwat P none (.mov (.c v7)) st v7 ∧ (
 hwat P none (.mov (.c a0)) st a0 ∧ (
 @stpD P (.idx 1 (.c a0) (.c v7)) st ⟨fun v27 st =>
 @stpD P (.st 1 (.c v27) (.c v25)) st ⟨fun _v st =>
 @stp P (.bin .add (.c v6) (.c (.int .i64 1))) st ⟨fun v29 st =>
 @stp P (.bin .sub (.c v7) (.c (.int .i64 1))) st ⟨fun v31 st =>
 ∃ j,j < k1 ∧ GhostV [v29,v31] st (app (I1 j))⟩⟩⟩⟩))⟩⟩⟩⟩⟩⟩⟩
 ⟨
 GhostV [] st fun vs st => K (mkres vs) st⟩⟩⟩⟩
theorem q_slices_reverseRangeOrdered_uint64 {P : Program} {a0 a1 a2 : V} {st : St} {K : V → St → Prop} : F_slices_reverseRangeOrdered_uint64 P a0 a1 a2 st K = hwp P c_slices_reverseRangeOrdered_uint64 (hretQ [] K) (enterFr [a0, a1, a2]) st := by kernel_rfl
abbrev R_slices_reverseRangeOrdered_uint64 (P : Program) : Prop := resFnH P n_slices_reverseRangeOrdered_uint64 = some (32, c_slices_reverseRangeOrdered_uint64.er, [])
theorem A_slices_reverseRangeOrdered_uint64 {P : Program} (h : R_slices_reverseRangeOrdered_uint64 P) {a0 a1 a2 : V} {st : St} {K : V → St → Prop} (hF : F_slices_reverseRangeOrdered_uint64 P a0 a1 a2 st K) : ACalls P n_slices_reverseRangeOrdered_uint64 [a0, a1, a2] st K :=
  ACalls_h h rfl (by simp) (q_slices_reverseRangeOrdered_uint64 ▸ hF)

def c_slices_partialInsertionSortOrdered_uint64 : ACode := (.seq (.reg [(oo 6 (.mov (.c (.bool false))))]) (.seq (.reg [(oo 11 (.mov (.s 1))),(oo 12 (.bin .add (.s 11) (.c (.int .i64 1)))),(oo 7 (.mov (.s 12)))]) (.seq (.seq (.reg [(oo 8 (.mov (.c (.int .i64 0))))]) (.block 0 (.loop [7,8] [6,7,8,9,10,13,14,15,16,17,18,19,20,21,22,23,24,25,26,27,28,29,30,31,32,33,34,35,36,37,38,39,40,41,42,43,44,45,46,47,48,49,50,51,52,53,54,55,56,57,58,59,60,61,62,63,64,65,66,67,68,69,70,71,72,73,74,75,76,77,78,79,80,81,82,83,84,85,86,87,88,89,90,91,92,93,94,95,96,97,98,99,100,101,102,103,104,105,106,107,108,109,110,111,112,113,114,115,116,117,118,119,120,121,122,123,124,125,126,127,128,129,130,131,132] (.seq (.seq (.reg [(oo 13 (.mov (.s 8))),(oo 14 (.bin .lss (.s 13) (.c (.int .i64 5))))]) (.cond (.s 14) .skip (.exit 0))) (.seq (.block 1 (.join [7] [7,17,18,19,20,21,22,23,24,25,26,27,28,29,30,31,32,33,34] (.block 2 (.loop [7] [7,17,18,19,20,21,22,23,24,25,26,27,28,29,30,31,32,33,34] (.seq (.seq (.regD [(oo 17 (.mov (.s 7))),(oo 18 (.mov (.s 2))),(oo 19 (.bin .lss (.s 17) (.s 18))),(oo 20 (.mov (.s 19))),⟨(some 21),(some (20,true)),(.mov (.s 0))⟩,⟨(some 22),(some (20,true)),(.mov (.s 7))⟩,⟨(some 23),(some (20,true)),(.idx 1 (.s 21) (.s 22))⟩,⟨(some 24),(some (20,true)),(.ld none (.s 23))⟩,⟨(some 25),(some (20,true)),(.mov (.s 0))⟩,⟨(some 26),(some (20,true)),(.mov (.s 7))⟩,⟨(some 27),(some (20,true)),(.bin .sub (.s 26) (.c (.int .i64 1)))⟩,⟨(some 28),(some (20,true)),(.idx 1 (.s 25) (.s 27))⟩,⟨(some 29),(some (20,true)),(.ld none (.s 28))⟩,⟨(some 30),(some (20,true)),(.call (fx n_cmp_Less_uint64) [(.s 24),(.s 29)])⟩,⟨(some 31),(some (20,true)),(.un .not (.s 30))⟩,(oo 32 (.pick (.s 20) (.s 31) (.c (.bool false))))] [(0,(false,[])),(1,(false,[])),(2,(false,[])),(3,(false,[])),(4,(false,[])),(5,(false,[])),(6,(false,[])),(7,(false,[])),(8,(false,[])),(9,(false,[])),(10,(false,[])),(11,(false,[])),(12,(false,[])),(13,(true,[])),(14,(false,[])),(15,(false,[]))]) (.cond (.s 32) .skip (.exit 2))) (.block 3 (.reg [(oo 33 (.mov (.s 7))),(oo 34 (.bin .add (.s 33) (.c (.int .i64 1)))),(oo 7 (.mov (.s 34)))]))))) (.seq (.seq (.reg [(oo 35 (.mov (.s 7))),(oo 36 (.mov (.s 2))),(oo 37 (.bin .eql (.s 35) (.s 36)))]) (.cond (.s 37) (.seq (.reg [(oo 6 (.mov (.c (.bool true))))]) .ret) .skip)) (.seq (.seq (.reg [(oo 38 (.mov (.s 2))),(oo 39 (.mov (.s 1))),(oo 40 (.bin .sub (.s 38) (.s 39))),(oo 41 (.bin .lss (.s 40) (.c (.int .i64 50))))]) (.cond (.s 41) (.seq (.reg [(oo 6 (.mov (.c (.bool false))))]) .ret) .skip)) (.seq (.regD [(oo 42 (.mov (.s 0))),(oo 43 (.mov (.s 7))),(oo 44 (.mov (.s 0))),(oo 45 (.mov (.s 7))),(oo 46 (.bin .sub (.s 45) (.c (.int .i64 1)))),(oo 47 (.mov (.s 0))),(oo 48 (.mov (.s 7))),(oo 49 (.bin .sub (.s 48) (.c (.int .i64 1)))),(oo 50 (.idx 1 (.s 47) (.s 49))),(oo 51 (.ld none (.s 50))),(oo 52 (.mov (.s 0))),(oo 53 (.mov (.s 7))),(oo 54 (.idx 1 (.s 52) (.s 53))),(oo 55 (.ld none (.s 54))),(oo 56 (.idx 1 (.s 42) (.s 43))),⟨none,none,(.st 1 (.s 56) (.s 51))⟩,(oo 57 (.idx 1 (.s 44) (.s 46))),⟨none,none,(.st 1 (.s 57) (.s 55))⟩] [(0,(false,[])),(1,(false,[])),(2,(false,[])),(3,(false,[])),(4,(false,[])),(5,(false,[])),(6,(false,[])),(7,(false,[])),(8,(false,[])),(9,(false,[])),(10,(false,[])),(11,(false,[])),(12,(false,[])),(13,(false,[])),(14,(false,[])),(15,(true,[4,3,2])),(16,(false,[])),(17,(true,[]))]) (.join [] [9,58,59,60,61,62,63,64,65,66,67,68,69,70,71,72,73,74,75,76,77,78,79,80,81,82,83,84,85,86,87,88,89,90,91,92,93,94] (.seq (.reg [(oo 58 (.mov (.s 7))),(oo 59 (.mov (.s 1))),(oo 60 (.bin .sub (.s 58) (.s 59))),(oo 61 (.bin .geq (.s 60) (.c (.int .i64 2))))]) (.cond (.s 61) (.seq (.reg [(oo 62 (.mov (.s 7))),(oo 63 (.bin .sub (.s 62) (.c (.int .i64 1)))),(oo 9 (.mov (.s 63)))]) (.block 4 (.loop [9] [9,64,65,66,67,68,69,70,71,72,73,74,75,76,77,78,79,80,81,82,83,84,85,86,87,88,89,90,91,92,93,94] (.seq (.seq (.reg [(oo 64 (.mov (.s 9))),(oo 65 (.bin .geq (.s 64) (.c (.int .i64 1))))]) (.cond (.s 65) .skip (.exit 4))) (.seq (.block 5 (.seq (.seq (.regD [(oo 68 (.mov (.s 0))),(oo 69 (.mov (.s 9))),(oo 70 (.idx 1 (.s 68) (.s 69))),(oo 71 (.ld none (.s 70))),(oo 72 (.mov (.s 0))),(oo 73 (.mov (.s 9))),(oo 74 (.bin .sub (.s 73) (.c (.int .i64 1)))),(oo 75 (.idx 1 (.s 72) (.s 74))),(oo 76 (.ld none (.s 75))),(oo 77 (.call (fx n_cmp_Less_uint64) [(.s 71),(.s 76)])),(oo 78 (.un .not (.s 77)))] [(0,(false,[])),(1,(false,[])),(2,(false,[])),(3,(false,[])),(4,(false,[])),(5,(false,[])),(6,(false,[])),(7,(false,[])),(8,(false,[])),(9,(true,[])),(10,(false,[]))]) (.cond (.s 78) (.exit 4) .skip)) (.regD [(oo 79 (.mov (.s 0))),(oo 80 (.mov (.s 9))),(oo 81 (.mov (.s 0))),(oo 82 (.mov (.s 9))),(oo 83 (.bin .sub (.s 82) (.c (.int .i64 1)))),(oo 84 (.mov (.s 0))),(oo 85 (.mov (.s 9))),(oo 86 (.bin .sub (.s 85) (.c (.int .i64 1)))),(oo 87 (.idx 1 (.s 84) (.s 86))),(oo 88 (.ld none (.s 87))),(oo 89 (.mov (.s 0))),(oo 90 (.mov (.s 9))),(oo 91 (.idx 1 (.s 89) (.s 90))),(oo 92 (.ld none (.s 91))),(oo 93 (.idx 1 (.s 79) (.s 80))),⟨none,none,(.st 1 (.s 93) (.s 88))⟩,(oo 94 (.idx 1 (.s 81) (.s 83))),⟨none,none,(.st 1 (.s 94) (.s 92))⟩] [(0,(false,[])),(1,(false,[])),(2,(false,[])),(3,(false,[])),(4,(false,[])),(5,(false,[])),(6,(false,[])),(7,(false,[])),(8,(false,[])),(9,(false,[])),(10,(false,[])),(11,(false,[])),(12,(false,[])),(13,(false,[])),(14,(false,[])),(15,(true,[4,3,2])),(16,(false,[])),(17,(true,[]))]))) (.reg [(oo 66 (.mov (.s 9))),(oo 67 (.bin .sub (.s 66) (.c (.int .i64 1)))),(oo 9 (.mov (.s 67)))])))))) .skip)) (.seq (.reg [(oo 95 (.mov (.s 2))),(oo 96 (.mov (.s 7))),(oo 97 (.bin .sub (.s 95) (.s 96))),(oo 98 (.bin .geq (.s 97) (.c (.int .i64 2))))]) (.cond (.s 98) (.seq (.reg [(oo 99 (.mov (.s 7))),(oo 100 (.bin .add (.s 99) (.c (.int .i64 1)))),(oo 10 (.mov (.s 100)))]) (.block 6 (.loop [10] [10,101,102,103,104,105,106,107,108,109,110,111,112,113,114,115,116,117,118,119,120,121,122,123,124,125,126,127,128,129,130,131,132] (.seq (.seq (.reg [(oo 101 (.mov (.s 10))),(oo 102 (.mov (.s 2))),(oo 103 (.bin .lss (.s 101) (.s 102)))]) (.cond (.s 103) .skip (.exit 6))) (.seq (.block 7 (.seq (.seq (.regD [(oo 106 (.mov (.s 0))),(oo 107 (.mov (.s 10))),(oo 108 (.idx 1 (.s 106) (.s 107))),(oo 109 (.ld none (.s 108))),(oo 110 (.mov (.s 0))),(oo 111 (.mov (.s 10))),(oo 112 (.bin .sub (.s 111) (.c (.int .i64 1)))),(oo 113 (.idx 1 (.s 110) (.s 112))),(oo 114 (.ld none (.s 113))),(oo 115 (.call (fx n_cmp_Less_uint64) [(.s 109),(.s 114)])),(oo 116 (.un .not (.s 115)))] [(0,(false,[])),(1,(false,[])),(2,(false,[])),(3,(false,[])),(4,(false,[])),(5,(false,[])),(6,(false,[])),(7,(false,[])),(8,(false,[])),(9,(true,[])),(10,(false,[]))]) (.cond (.s 116) (.exit 6) .skip)) (.regD [(oo 117 (.mov (.s 0))),(oo 118 (.mov (.s 10))),(oo 119 (.mov (.s 0))),(oo 120 (.mov (.s 10))),(oo 121 (.bin .sub (.s 120) (.c (.int .i64 1)))),(oo 122 (.mov (.s 0))),(oo 123 (.mov (.s 10))),(oo 124 (.bin .sub (.s 123) (.c (.int .i64 1)))),(oo 125 (.idx 1 (.s 122) (.s 124))),(oo 126 (.ld none (.s 125))),(oo 127 (.mov (.s 0))),(oo 128 (.mov (.s 10))),(oo 129 (.idx 1 (.s 127) (.s 128))),(oo 130 (.ld none (.s 129))),(oo 131 (.idx 1 (.s 117) (.s 118))),⟨none,none,(.st 1 (.s 131) (.s 126))⟩,(oo 132 (.idx 1 (.s 119) (.s 121))),⟨none,none,(.st 1 (.s 132) (.s 130))⟩] [(0,(false,[])),(1,(false,[])),(2,(false,[])),(3,(false,[])),(4,(false,[])),(5,(false,[])),(6,(false,[])),(7,(false,[])),(8,(false,[])),(9,(false,[])),(10,(false,[])),(11,(false,[])),(12,(false,[])),(13,(false,[])),(14,(false,[])),(15,(true,[4,3,2])),(16,(false,[])),(17,(true,[]))]))) (.reg [(oo 104 (.mov (.s 10))),(oo 105 (.bin .add (.s 104) (.c (.int .i64 1)))),(oo 10 (.mov (.s 105)))])))))) .skip)))))))) (.reg [(oo 15 (.mov (.s 8))),(oo 16 (.bin .add (.s 15) (.c (.int .i64 1)))),(oo 8 (.mov (.s 16)))])))))) (.seq (.reg [(oo 6 (.mov (.c (.bool false))))]) .ret))))
def F_slices_partialInsertionSortOrdered_uint64 (P : Program) (a0 a1 a2 : V) (st : St) (K : V → St → Prop) : Prop :=
 @stp P (.bin .add (.c a1) (.c (.int .i64 1))) st ⟨fun v12 st =>
 @Hold ⟨∃ I1 : Nat → Rel 2,(∃ k,GhostV [v12,(.int .i64 0)] st (app (I1 k))) ∧ ∀ k1 v7 v8,∀ st,app (I1 k1) [v7,v8] st →
 @stp P (.bin .lss (.c v8) (.c (.int .i64 5))) st ⟨fun v14 st =>
 @cnd v14 ⟨
 @Hold ⟨∃ J2 : Rel 1,(
 @Hold ⟨∃ I3 : Nat → Rel 1,(∃ k,GhostV [v7] st (app (I3 k))) ∧ ∀ k3 v7,∀ st,app (I3 k3) [v7] st →
 @stpD P (.bin .lss (.c v7) (.c a2)) st ⟨fun v19 st =>
 @gstD P v19 true (.mov (.c a0)) st ⟨fun v21 st =>
 @gstD P v19 true (.mov (.c v7)) st ⟨fun v22 st =>
 @gstD P v19 true (.idx 1 (.c v21) (.c v22)) st ⟨fun v23 st =>
 @gstD P v19 true (.ld none (.c v23)) st ⟨fun v24 st =>
 @gstD P v19 true (.mov (.c a0)) st ⟨fun v25 st =>
 @gstD P v19 true (.mov (.c v7)) st ⟨fun v26 st =>
 @gstD P v19 true (.bin .sub (.c v26) (.c (.int .i64 1))) st ⟨fun v27 st =>
 @gstD P v19 true (.idx 1 (.c v25) (.c v27)) st ⟨fun v28 st =>
 @gstD P v19 true (.ld none (.c v28)) st ⟨fun v29 st =>
 @gstD P v19 true (.call (.c (.fn (.func n_cmp_Less_uint64) [] [])) [(.c v24),(.c v29)]) st ⟨fun v30 st =>
 @gstD P v19 true (.un .not (.c v30)) st ⟨fun v31 st =>
 @stpD P (.pick (.c v19) (.c v31) (.c (.bool false))) st ⟨fun v32 st =>
 @cnd v32 ⟨
 @stp P (.bin .add (.c v7) (.c (.int .i64 1))) st ⟨fun v34 st =>
 ∃ j,j < k3 ∧ GhostV [v34] st (app (I3 j))⟩⟩
 ⟨
 GhostV [v7] st (app J2)⟩⟩⟩⟩⟩⟩⟩⟩⟩⟩⟩⟩⟩⟩⟩) ∧
 ∀ v7 st,app J2 [v7] st →
 @stp P (.bin .eql (.c v7) (.c a2)) st ⟨fun v37 st =>
 @cnd v37 ⟨
 GhostV [(.bool true)] st fun vs st => K (mkres vs) st⟩
 ⟨
 @stp P (.bin .sub (.c a2) (.c a1)) st ⟨fun v40 st =>
 @stp P (.bin .lss (.c v40) (.c (.int .i64 50))) st ⟨fun v41 st =>
 @cnd v41 ⟨
 GhostV [(.bool false)] st fun vs st => K (mkres vs) st⟩
 ⟨
 @stpD P (.bin .sub (.c v7) (.c (.int .i64 1))) st ⟨fun v46 st =>
 @stpD P (.bin .sub (.c v7) (.c (.int .i64 1))) st ⟨fun v49 st =>
 @stpD P (.idx 1 (.c a0) (.c v49)) st ⟨fun v50 st =>
 @stpD P (.ld none (.c v50)) st ⟨fun v51 st =>
 @stpD P (.idx 1 (.c a0) (.c v7)) st ⟨fun v54 st =>
 @stpD P (.ld none (.c v54)) st ⟨fun v55 st =>
 @stpD P (.idx 1 (.c a0) (.c v7)) st ⟨fun v56 st =>
 @stpD P (.st 1 (.c v56) (.c v51)) st ⟨fun _v st =>
 hwat P none (.bin .sub (.c v7) (.c (.int .i64 1))) st v46 ∧ (
 hwat P none (.mov (.c v7)) st v7 ∧ (
 hwat P none (.mov (.c a0)) st a0 ∧ (
 @stpD P (.idx 1 (.c a0) (.c v46)) st ⟨fun v57 st =>
 @stpD P (.st 1 (.c v57) (.c v55)) st ⟨fun _v st =>
 @Hold ⟨∃ J4 : Rel 0,(
 @stp P (.bin .sub (.c v7) (.c a1)) st ⟨fun v60 st =>
 @stp P (.bin .geq (.c v60) (.c (.int .i64 2))) st ⟨fun v61 st =>
 @cnd v61 ⟨
 @stp P (.bin .sub (.c v7) (.c (.int .i64 1))) st ⟨fun v63 st =>
 @Hold ⟨∃ I5 : Nat → Rel 1,(∃ k,GhostV [v63] st (app (I5 k))) ∧ ∀ k5 v9,∀ st,app (I5 k5) [v9] st →
 @stp P (.bin .geq (.c v9) (.c (.int .i64 1))) st ⟨fun v65 st =>
 @cnd v65 ⟨
 @stpD P (.idx 1 (.c a0) (.c v9)) st ⟨fun v70 st =>
 @stpD P (.ld none (.c v70)) st ⟨fun v71 st =>
 @stpD P (.bin .sub (.c v9) (.c (.int .i64 1))) st ⟨fun v74 st =>
 @stpD P (.idx 1 (.c a0) (.c v74)) st ⟨fun v75 st =>
 @stpD P (.ld none (.c v75)) st ⟨fun v76 st =>
 @stpD P (.call (.c (.fn (.func n_cmp_Less_uint64) [] [])) [(.c v71),(.c v76)]) st ⟨fun v77 st =>
 @stpD P (.un .not (.c v77)) st ⟨fun v78 st =>
 @cnd v78 ⟨
 GhostV [] st (app J4)⟩
 ⟨
 @stpD P (.bin .sub (.c v9) (.c (.int .i64 1))) st ⟨fun v83 st =>
 @stpD P (.bin .sub (.c v9) (.c (.int .i64 1))) st ⟨fun v86 st =>
 @stpD P (.idx 1 (.c a0) (.c v86)) st ⟨fun v87 st =>
 @stpD P (.ld none (.c v87)) st ⟨fun v88 st =>
 @stpD P (.idx 1 (.c a0) (.c v9)) st ⟨fun v91 st =>
 @stpD P (.ld none (.c v91)) st ⟨fun v92 st =>
 @stpD P (.idx 1 (.c a0) (.c v9)) st ⟨fun v93 st =>
 @stpD P (.st 1 (.c v93) (.c v88)) st ⟨fun _v st =>
 hwat P none (.bin .sub (.c v9) (.c (.int .i64 1))) st v83 ∧ (
 hwat P none (.mov (.c v9)) st v9 ∧ (
 hwat P none (.mov (.c a0)) st a0 ∧ (
 @stpD P (.idx 1 (.c a0) (.c v83)) st ⟨fun v94 st =>
 @stpD P (.st 1 (.c v94) (.c v92)) st ⟨fun _v st =>
 @stp P (.bin .sub (.c v9) (.c (.int .i64 1))) st ⟨fun v67 st =>
 ∃ j,j < k5 ∧ GhostV [v67] st (app (I5 j))⟩⟩⟩)))⟩⟩⟩⟩⟩⟩⟩⟩⟩⟩⟩⟩⟩⟩⟩⟩⟩
 ⟨
 GhostV [] st (app J4)⟩⟩⟩⟩⟩
 ⟨
 GhostV [] st (app J4)⟩⟩⟩) ∧
 ∀ st,app J4 [] st →
 @stp P (.bin .sub (.c a2) (.c v7)) st ⟨fun v97 st =>
 @stp P (.bin .geq (.c v97) (.c (.int .i64 2))) st ⟨fun v98 st =>
 @cnd v98 ⟨
 @stp P (.bin .add (.c v7) (.c (.int .i64 1))) st ⟨fun v100 st =>
 @Hold ⟨∃ I6 : Nat → Rel 1,(∃ k,GhostV [v100] st (app (I6 k))) ∧ ∀ k6 v10,∀ st,app (I6 k6) [v10] st →
 @stp P (.bin .lss (.c v10) (.c a2)) st ⟨fun v103 st =>
 @cnd v103 ⟨
 @stpD P (.idx 1 (.c a0) (.c v10)) st ⟨fun v108 st =>
 @stpD P (.ld none (.c v108)) st ⟨fun v109 st =>
 @stpD P (.bin .sub (.c v10) (.c (.int .i64 1))) st ⟨fun v112 st =>
 @stpD P (.idx 1 (.c a0) (.c v112)) st ⟨fun v113 st =>
 @stpD P (.ld none (.c v113)) st ⟨fun v114 st =>
 @stpD P (.call (.c (.fn (.func n_cmp_Less_uint64) [] [])) [(.c v109),(.c v114)]) st ⟨fun v115 st =>
 @stpD P (.un .not (.c v115)) st ⟨fun v116 st =>
 @cnd v116 ⟨
 @stp P (.bin .add (.c v8) (.c (.int .i64 1))) st ⟨fun v16 st =>
 ∃ j,j < k1 ∧ GhostV [v7,v16] st (app (I1 j))⟩⟩
 ⟨
 @stpD P (.bin .sub (.c v10) (.c (.int .i64 1))) st ⟨fun v121 st =>
 @stpD P (.bin .sub (.c v10) (.c (.int .i64 1))) st ⟨fun v124 st =>
 @stpD P (.idx 1 (.c a0) (.c v124)) st ⟨fun v125 st =>
 @stpD P (.ld none (.c v125)) st ⟨fun v126 st =>
 @stpD P (.idx 1 (.c a0) (.c v10)) st ⟨fun v129 st =>
 @stpD P (.ld none (.c v129)) st ⟨fun v130 st =>
 @stpD P (.idx 1 (.c a0) (.c v10)) st ⟨fun v131 st =>
 @stpD P (.st 1 (.c v131) (.c v126)) st ⟨fun _v st =>
 hwat P none (.bin .sub (.c v10) (.c (.int .i64 1))) st v121 ∧ (
 hwat P none (.mov (.c v10)) st v10 ∧ (
 hwat P none (.mov (.c a0)) st a0 ∧ (
 @stpD P (.idx 1 (.c a0) (.c v121)) st ⟨fun v132 st =>
 @stpD P (.st 1 (.c v132) (.c v130)) st ⟨fun _v st =>
 @stp P (.bin .add (.c v10) (.c (.int .i64 1))) st ⟨fun v105 st =>
 ∃ j,j < k6 ∧ GhostV [v105] st (app (I6 j))⟩⟩⟩)))⟩⟩⟩⟩⟩⟩⟩⟩⟩⟩⟩⟩⟩⟩⟩⟩⟩
 ⟨
 @stp P (.bin .add (.c v8) (.c (.int .i64 1))) st ⟨fun v16 st =>
 ∃ j,j < k1 ∧ GhostV [v7,v16] st (app (I1 j))⟩⟩⟩⟩⟩⟩
 ⟨
 @stp P (.bin .add (.c v8) (.c (.int .i64 1))) st ⟨fun v16 st =>
 ∃ j,j < k1 ∧ GhostV [v7,v16] st (app (I1 j))⟩⟩⟩⟩⟩⟩⟩)))⟩⟩⟩⟩⟩⟩⟩⟩⟩⟩⟩⟩⟩⟩⟩
 ⟨
 GhostV [(.bool false)] st fun vs st => K (mkres vs) st⟩⟩⟩⟩
theorem q_slices_partialInsertionSortOrdered_uint64 {P : Program} {a0 a1 a2 : V} {st : St} {K : V → St → Prop} : F_slices_partialInsertionSortOrdered_uint64 P a0 a1 a2 st K = hwp P c_slices_partialInsertionSortOrdered_uint64 (hretQ [.tmp 6] K) (enterFr [a0, a1, a2]) st := by kernel_rfl
abbrev R_slices_partialInsertionSortOrdered_uint64 (P : Program) : Prop := resFnH P n_slices_partialInsertionSortOrdered_uint64 = some (133, c_slices_partialInsertionSortOrdered_uint64.er, [.tmp 6])
theorem A_slices_partialInsertionSortOrdered_uint64 {P : Program} (h : R_slices_partialInsertionSortOrdered_uint64 P) {a0 a1 a2 : V} {st : St} {K : V → St → Prop} (hF : F_slices_partialInsertionSortOrdered_uint64 P a0 a1 a2 st K) : ACalls P n_slices_partialInsertionSortOrdered_uint64 [a0, a1, a2] st K :=
  ACalls_h h rfl (by simp) (q_slices_partialInsertionSortOrdered_uint64 ▸ hF)

def c_cmp_Less_uint64 : ACode := (.seq (.reg [(oo 4 (.mov (.c (.bool false))))]) (.seq (.reg [(oo 5 (.mov (.s 0))),(oo 6 (.call (fx n_cmp_isNaN_uint64) [(.s 5)])),(oo 7 (.mov (.s 6))),⟨(some 8),(some (7,true)),(.mov (.s 1))⟩,⟨(some 9),(some (7,true)),(.call (fx n_cmp_isNaN_uint64) [(.s 8)])⟩,⟨(some 10),(some (7,true)),(.un .not (.s 9))⟩,(oo 11 (.pick (.s 7) (.s 10) (.c (.bool false)))),(oo 12 (.mov (.s 11))),⟨(some 13),(some (12,false)),(.mov (.s 0))⟩,⟨(some 14),(some (12,false)),(.mov (.s 1))⟩,⟨(some 15),(some (12,false)),(.bin .lss (.s 13) (.s 14))⟩,(oo 16 (.pick (.s 12) (.c (.bool true)) (.s 15))),(oo 4 (.mov (.s 16)))]) .ret))
def F_cmp_Less_uint64 (P : Program) (a0 a1 : V) (st : St) (K : V → St → Prop) : Prop :=
 @stp P (.call (.c (.fn (.func n_cmp_isNaN_uint64) [] [])) [(.c a0)]) st ⟨fun v6 st =>
 @gst P v6 true (.mov (.c a1)) st ⟨fun v8 st =>
 @gst P v6 true (.call (.c (.fn (.func n_cmp_isNaN_uint64) [] [])) [(.c v8)]) st ⟨fun v9 st =>
 @gst P v6 true (.un .not (.c v9)) st ⟨fun v10 st =>
 @stp P (.pick (.c v6) (.c v10) (.c (.bool false))) st ⟨fun v11 st =>
 @gst P v11 false (.mov (.c a0)) st ⟨fun v13 st =>
 @gst P v11 false (.mov (.c a1)) st ⟨fun v14 st =>
 @gst P v11 false (.bin .lss (.c v13) (.c v14)) st ⟨fun v15 st =>
 @stp P (.pick (.c v11) (.c (.bool true)) (.c v15)) st ⟨fun v16 st =>
 GhostV [v16] st fun vs st => K (mkres vs) st⟩⟩⟩⟩⟩⟩⟩⟩⟩
theorem q_cmp_Less_uint64 {P : Program} {a0 a1 : V} {st : St} {K : V → St → Prop} : F_cmp_Less_uint64 P a0 a1 st K = hwp P c_cmp_Less_uint64 (hretQ [.tmp 4] K) (enterFr [a0, a1]) st := by kernel_rfl
abbrev R_cmp_Less_uint64 (P : Program) : Prop := resFnH P n_cmp_Less_uint64 = some (17, c_cmp_Less_uint64.er, [.tmp 4])
theorem A_cmp_Less_uint64 {P : Program} (h : R_cmp_Less_uint64 P) {a0 a1 : V} {st : St} {K : V → St → Prop} (hF : F_cmp_Less_uint64 P a0 a1 st K) : ACalls P n_cmp_Less_uint64 [a0, a1] st K :=
  ACalls_h h rfl (by simp) (q_cmp_Less_uint64 ▸ hF)

def c_slices_partitionEqualOrdered_uint64 : ACode := (.seq (.reg [(oo 8 (.mov (.c (.int .i64 0))))]) (.seq (.regD [(oo 11 (.mov (.s 0))),(oo 12 (.mov (.s 1))),(oo 13 (.mov (.s 0))),(oo 14 (.mov (.s 3))),(oo 15 (.mov (.s 0))),(oo 16 (.mov (.s 3))),(oo 17 (.idx 1 (.s 15) (.s 16))),(oo 18 (.ld none (.s 17))),(oo 19 (.mov (.s 0))),(oo 20 (.mov (.s 1))),(oo 21 (.idx 1 (.s 19) (.s 20))),(oo 22 (.ld none (.s 21))),(oo 23 (.idx 1 (.s 11) (.s 12))),⟨none,none,(.st 1 (.s 23) (.s 18))⟩,(oo 24 (.idx 1 (.s 13) (.s 14))),⟨none,none,(.st 1 (.s 24) (.s 22))⟩] [(0,(false,[])),(1,(false,[])),(2,(false,[])),(3,(false,[])),(4,(false,[])),(5,(false,[])),(6,(false,[])),(7,(false,[])),(8,(false,[])),(9,(false,[])),(10,(false,[])),(11,(false,[])),(12,(false,[])),(13,(true,[3,2])),(14,(false,[])),(15,(true,[]))]) (.seq (.reg [(oo 25 (.mov (.s 1))),(oo 26 (.bin .add (.s 25) (.c (.int .i64 1)))),(oo 27 (.mov (.s 2))),(oo 28 (.bin .sub (.s 27) (.c (.int .i64 1)))),(oo 9 (.mov (.s 26))),(oo 10 (.mov (.s 28)))]) (.join [9] [9,10,29,30,31,32,33,34,35,36,37,38,39,40,41,42,43,44,45,46,47,48,49,50,51,52,53,54,55,56,57,58,59,60,61,62,63,64,65,66,67,68,69,70,71,72,73,74,75,76,77,78,79,80,81,82] (.block 0 (.loop [9,10] [9,10,29,30,31,32,33,34,35,36,37,38,39,40,41,42,43,44,45,46,47,48,49,50,51,52,53,54,55,56,57,58,59,60,61,62,63,64,65,66,67,68,69,70,71,72,73,74,75,76,77,78,79,80,81,82] (.block 1 (.join [9] [9,29,30,31,32,33,34,35,36,37,38,39,40,41,42,43,44,45] (.block 2 (.loop [9] [9,29,30,31,32,33,34,35,36,37,38,39,40,41,42,43,44,45] (.seq (.seq (.regD [(oo 29 (.mov (.s 9))),(oo 30 (.mov (.s 10))),(oo 31 (.bin .leq (.s 29) (.s 30))),(oo 32 (.mov (.s 31))),⟨(some 33),(some (32,true)),(.mov (.s 0))⟩,⟨(some 34),(some (32,true)),(.mov (.s 1))⟩,⟨(some 35),(some (32,true)),(.idx 1 (.s 33) (.s 34))⟩,⟨(some 36),(some (32,true)),(.ld none (.s 35))⟩,⟨(some 37),(some (32,true)),(.mov (.s 0))⟩,⟨(some 38),(some (32,true)),(.mov (.s 9))⟩,⟨(some 39),(some (32,true)),(.idx 1 (.s 37) (.s 38))⟩,⟨(some 40),(some (32,true)),(.ld none (.s 39))⟩,⟨(some 41),(some (32,true)),(.call (fx n_cmp_Less_uint64) [(.s 36),(.s 40)])⟩,⟨(some 42),(some (32,true)),(.un .not (.s 41))⟩,(oo 43 (.pick (.s 32) (.s 42) (.c (.bool false))))] [(0,(false,[])),(1,(false,[])),(2,(false,[])),(3,(false,[])),(4,(false,[])),(5,(false,[])),(6,(false,[])),(7,(false,[])),(8,(false,[])),(9,(false,[])),(10,(false,[])),(11,(false,[])),(12,(true,[])),(13,(false,[])),(14,(false,[]))]) (.cond (.s 43) .skip (.exit 2))) (.block 3 (.reg [(oo 44 (.mov (.s 9))),(oo 45 (.bin .add (.s 44) (.c (.int .i64 1)))),(oo 9 (.mov (.s 45)))]))))) (.join [10] [10,46,47,48,49,50,51,52,53,54,55,56,57,58,59,60,61] (.block 4 (.loop [10] [10,46,47,48,49,50,51,52,53,54,55,56,57,58,59,60,61] (.seq (.seq (.regD [(oo 46 (.mov (.s 9))),(oo 47 (.mov (.s 10))),(oo 48 (.bin .leq (.s 46) (.s 47))),(oo 49 (.mov (.s 48))),⟨(some 50),(some (49,true)),(.mov (.s 0))⟩,⟨(some 51),(some (49,true)),(.mov (.s 1))⟩,⟨(some 52),(some (49,true)),(.idx 1 (.s 50) (.s 51))⟩,⟨(some 53),(some (49,true)),(.ld none (.s 52))⟩,⟨(some 54),(some (49,true)),(.mov (.s 0))⟩,⟨(some 55),(some (49,true)),(.mov (.s 10))⟩,⟨(some 56),(some (49,true)),(.idx 1 (.s 54) (.s 55))⟩,⟨(some 57),(some (49,true)),(.ld none (.s 56))⟩,⟨(some 58),(some (49,true)),(.call (fx n_cmp_Less_uint64) [(.s 53),(.s 57)])⟩,(oo 59 (.pick (.s 49) (.s 58) (.c (.bool false))))] [(0,(false,[])),(1,(false,[])),(2,(false,[])),(3,(false,[])),(4,(false,[])),(5,(false,[])),(6,(false,[])),(7,(false,[])),(8,(false,[])),(9,(false,[])),(10,(false,[])),(11,(false,[])),(12,(true,[])),(13,(false,[]))]) (.cond (.s 59) .skip (.exit 4))) (.block 5 (.reg [(oo 60 (.mov (.s 10))),(oo 61 (.bin .sub (.s 60) (.c (.int .i64 1)))),(oo 10 (.mov (.s 61)))]))))) (.seq (.seq (.reg [(oo 62 (.mov (.s 9))),(oo 63 (.mov (.s 10))),(oo 64 (.bin .gtr (.s 62) (.s 63)))]) (.cond (.s 64) (.exit 0) .skip)) (.seq (.regD [(oo 65 (.mov (.s 0))),(oo 66 (.mov (.s 9))),(oo 67 (.mov (.s 0))),(oo 68 (.mov (.s 10))),(oo 69 (.mov (.s 0))),(oo 70 (.mov (.s 10))),(oo 71 (.idx 1 (.s 69) (.s 70))),(oo 72 (.ld none (.s 71))),(oo 73 (.mov (.s 0))),(oo 74 (.mov (.s 9))),(oo 75 (.idx 1 (.s 73) (.s 74))),(oo 76 (.ld none (.s 75))),(oo 77 (.idx 1 (.s 65) (.s 66))),⟨none,none,(.st 1 (.s 77) (.s 72))⟩,(oo 78 (.idx 1 (.s 67) (.s 68))),⟨none,none,(.st 1 (.s 78) (.s 76))⟩] [(0,(false,[])),(1,(false,[])),(2,(false,[])),(3,(false,[])),(4,(false,[])),(5,(false,[])),(6,(false,[])),(7,(false,[])),(8,(false,[])),(9,(false,[])),(10,(false,[])),(11,(false,[])),(12,(false,[])),(13,(true,[3,2])),(14,(false,[])),(15,(true,[]))]) (.seq (.reg [(oo 79 (.mov (.s 9))),(oo 80 (.bin .add (.s 79) (.c (.int .i64 1)))),(oo 9 (.mov (.s 80)))]) (.reg [(oo 81 (.mov (.s 10))),(oo 82 (.bin .sub (.s 81) (.c (.int .i64 1)))),(oo 10 (.mov (.s 82)))]))))))))) (.seq (.reg [(oo 83 (.mov (.s 9))),(oo 8 (.mov (.s 83)))]) .ret)))))
def F_slices_partitionEqualOrdered_uint64 (P : Program) (a0 a1 a2 a3 : V) (st : St) (K : V → St → Prop) : Prop :=
 @stpD P (.idx 1 (.c a0) (.c a3)) st ⟨fun v17 st =>
 @stpD P (.ld none (.c v17)) st ⟨fun v18 st =>
 @stpD P (.idx 1 (.c a0) (.c a1)) st ⟨fun v21 st =>
 @stpD P (.ld none (.c v21)) st ⟨fun v22 st =>
 @stpD P (.idx 1 (.c a0) (.c a1)) st ⟨fun v23 st =>
 @stpD P (.st 1 (.c v23) (.c v18)) st ⟨fun _v st =>
 hwat P none (.mov (.c a3)) st a3 ∧ (
 hwat P none (.mov (.c a0)) st a0 ∧ (
 @stpD P (.idx 1 (.c a0) (.c a3)) st ⟨fun v24 st =>
 @stpD P (.st 1 (.c v24) (.c v22)) st ⟨fun _v st =>
 @stp P (.bin .add (.c a1) (.c (.int .i64 1))) st ⟨fun v26 st =>
 @stp P (.bin .sub (.c a2) (.c (.int .i64 1))) st ⟨fun v28 st =>
 @Hold ⟨∃ J1 : Rel 1,(
 @Hold ⟨∃ I2 : Nat → Rel 2,(∃ k,GhostV [v26,v28] st (app (I2 k))) ∧ ∀ k2 v9 v10,∀ st,app (I2 k2) [v9,v10] st →
 @Hold ⟨∃ J3 : Rel 1,(
 @Hold ⟨∃ I4 : Nat → Rel 1,(∃ k,GhostV [v9] st (app (I4 k))) ∧ ∀ k4 v9,∀ st,app (I4 k4) [v9] st →
 @stpD P (.bin .leq (.c v9) (.c v10)) st ⟨fun v31 st =>
 @gstD P v31 true (.mov (.c a0)) st ⟨fun v33 st =>
 @gstD P v31 true (.mov (.c a1)) st ⟨fun v34 st =>
 @gstD P v31 true (.idx 1 (.c v33) (.c v34)) st ⟨fun v35 st =>
 @gstD P v31 true (.ld none (.c v35)) st ⟨fun v36 st =>
 @gstD P v31 true (.mov (.c a0)) st ⟨fun v37 st =>
 @gstD P v31 true (.mov (.c v9)) st ⟨fun v38 st =>
 @gstD P v31 true (.idx 1 (.c v37) (.c v38)) st ⟨fun v39 st =>
 @gstD P v31 true (.ld none (.c v39)) st ⟨fun v40 st =>
 @gstD P v31 true (.call (.c (.fn (.func n_cmp_Less_uint64) [] [])) [(.c v36),(.c v40)]) st ⟨fun v41 st =>
 @gstD P v31 true (.un .not (.c v41)) st ⟨fun v42 st =>
 @stpD P (.pick (.c v31) (.c v42) (.c (.bool false))) st ⟨fun v43 st =>
 @cnd v43 ⟨
 @stp P (.bin .add (.c v9) (.c (.int .i64 1))) st ⟨fun v45 st =>
 ∃ j,j < k4 ∧ GhostV [v45] st (app (I4 j))⟩⟩
 ⟨
 GhostV [v9] st (app J3)⟩⟩⟩⟩⟩⟩⟩⟩⟩⟩⟩⟩⟩⟩) ∧
 ∀ v9 st,app J3 [v9] st →
 @Hold ⟨∃ J5 : Rel 1,(
 @Hold ⟨∃ I6 : Nat → Rel 1,(∃ k,GhostV [v10] st (app (I6 k))) ∧ ∀ k6 v10,∀ st,app (I6 k6) [v10] st →
 @stpD P (.bin .leq (.c v9) (.c v10)) st ⟨fun v48 st =>
 @gstD P v48 true (.mov (.c a0)) st ⟨fun v50 st =>
 @gstD P v48 true (.mov (.c a1)) st ⟨fun v51 st =>
 @gstD P v48 true (.idx 1 (.c v50) (.c v51)) st ⟨fun v52 st =>
 @gstD P v48 true (.ld none (.c v52)) st ⟨fun v53 st =>
 @gstD P v48 true (.mov (.c a0)) st ⟨fun v54 st =>
 @gstD P v48 true (.mov (.c v10)) st ⟨fun v55 st =>
 @gstD P v48 true (.idx 1 (.c v54) (.c v55)) st ⟨fun v56 st =>
 @gstD P v48 true (.ld none (.c v56)) st ⟨fun v57 st =>
 @gstD P v48 true (.call (.c (.fn (.func n_cmp_Less_uint64) [] [])) [(.c v53),(.c v57)]) st ⟨fun v58 st =>
 @stpD P (.pick (.c v48) (.c v58) (.c (.bool false))) st ⟨fun v59 st =>
 @cnd v59 ⟨
 @stp P (.bin .sub (.c v10) (.c (.int .i64 1))) st ⟨fun v61 st =>
 ∃ j,j < k6 ∧ GhostV [v61] st (app (I6 j))⟩⟩
 ⟨
 GhostV [v10] st (app J5)⟩⟩⟩⟩⟩⟩⟩⟩⟩⟩⟩⟩⟩) ∧
 ∀ v10 st,app J5 [v10] st →
 @stp P (.bin .gtr (.c v9) (.c v10)) st ⟨fun v64 st =>
 @cnd v64 ⟨
 GhostV [v9] st (app J1)⟩
 ⟨
 @stpD P (.idx 1 (.c a0) (.c v10)) st ⟨fun v71 st =>
 @stpD P (.ld none (.c v71)) st ⟨fun v72 st =>
 @stpD P (.idx 1 (.c a0) (.c v9)) st ⟨fun v75 st =>
 @stpD P (.ld none (.c v75)) st ⟨fun v76 st =>
 @stpD P (.idx 1 (.c a0) (.c v9)) st ⟨fun v77 st =>
 @stpD P (.st 1 (.c v77) (.c v72)) st ⟨fun _v st =>
 hwat P none (.mov (.c v10)) st v10 ∧ (
 hwat P none (.mov (.c a0)) st a0 ∧ (
 @stpD P (.idx 1 (.c a0) (.c v10)) st ⟨fun v78 st =>
 @stpD P (.st 1 (.c v78) (.c v76)) st ⟨fun _v st =>
 @stp P (.bin .add (.c v9) (.c (.int .i64 1))) st ⟨fun v80 st =>
 @stp P (.bin .sub (.c v10) (.c (.int .i64 1))) st ⟨fun v82 st =>
 ∃ j,j < k2 ∧ GhostV [v80,v82] st (app (I2 j))⟩⟩⟩⟩))⟩⟩⟩⟩⟩⟩⟩⟩⟩⟩⟩) ∧
 ∀ v9 st,app J1 [v9] st →
 GhostV [v9] st fun vs st => K (mkres vs) st⟩⟩⟩⟩⟩))⟩⟩⟩⟩⟩⟩
theorem q_slices_partitionEqualOrdered_uint64 {P : Program} {a0 a1 a2 a3 : V} {st : St} {K : V → St → Prop} : F_slices_partitionEqualOrdered_uint64 P a0 a1 a2 a3 st K = hwp P c_slices_partitionEqualOrdered_uint64 (hretQ [.tmp 8] K) (enterFr [a0, a1, a2, a3]) st := by kernel_rfl
abbrev R_slices_partitionEqualOrdered_uint64 (P : Program) : Prop := resFnH P n_slices_partitionEqualOrdered_uint64 = some (84, c_slices_partitionEqualOrdered_uint64.er, [.tmp 8])
theorem A_slices_partitionEqualOrdered_uint64 {P : Program} (h : R_slices_partitionEqualOrdered_uint64 P) {a0 a1 a2 a3 : V} {st : St} {K : V → St → Prop} (hF : F_slices_partitionEqualOrdered_uint64 P a0 a1 a2 a3 st K) : ACalls P n_slices_partitionEqualOrdered_uint64 [a0, a1, a2, a3] st K :=
  ACalls_h h rfl (by simp) (q_slices_partitionEqualOrdered_uint64 ▸ hF)

def c_slices_partitionOrdered_uint64 : ACode := (.seq (.reg [(oo 8 (.mov (.c (.int .i64 0)))),(oo 9 (.mov (.c (.bool false))))]) (.seq (.regD [(oo 12 (.mov (.s 0))),(oo 13 (.mov (.s 1))),(oo 14 (.mov (.s 0))),(oo 15 (.mov (.s 3))),(oo 16 (.mov (.s 0))),(oo 17 (.mov (.s 3))),(oo 18 (.idx 1 (.s 16) (.s 17))),(oo 19 (.ld none (.s 18))),(oo 20 (.mov (.s 0))),(oo 21 (.mov (.s 1))),(oo 22 (.idx 1 (.s 20) (.s 21))),(oo 23 (.ld none (.s 22))),(oo 24 (.idx 1 (.s 12) (.s 13))),⟨none,none,(.st 1 (.s 24) (.s 19))⟩,(oo 25 (.idx 1 (.s 14) (.s 15))),⟨none,none,(.st 1 (.s 25) (.s 23))⟩] [(0,(false,[])),(1,(false,[])),(2,(false,[])),(3,(false,[])),(4,(false,[])),(5,(false,[])),(6,(false,[])),(7,(false,[])),(8,(false,[])),(9,(false,[])),(10,(false,[])),(11,(false,[])),(12,(false,[])),(13,(true,[3,2])),(14,(false,[])),(15,(true,[]))]) (.seq (.reg [(oo 26 (.mov (.s 1))),(oo 27 (.bin .add (.s 26) (.c (.int .i64 1)))),(oo 28 (.mov (.s 2))),(oo 29 (.bin .sub (.s 28) (.c (.int .i64 1)))),(oo 10 (.mov (.s 27))),(oo 11 (.mov (.s 29)))]) (.join [10] [10,30,31,32,33,34,35,36,37,38,39,40,41,42,43,44,45] (.block 0 (.loop [10] [10,30,31,32,33,34,35,36,37,38,39,40,41,42,43,44,45] (.seq (.seq (.regD [(oo 30 (.mov (.s 10))),(oo 31 (.mov (.s 11))),(oo 32 (.bin .leq (.s 30) (.s 31))),(oo 33 (.mov (.s 32))),⟨(some 34),(some (33,true)),(.mov (.s 0))⟩,⟨(some 35),(some (33,true)),(.mov (.s 10))⟩,⟨(some 36),(some (33,true)),(.idx 1 (.s 34) (.s 35))⟩,⟨(some 37),(some (33,true)),(.ld none (.s 36))⟩,⟨(some 38),(some (33,true)),(.mov (.s 0))⟩,⟨(some 39),(some (33,true)),(.mov (.s 1))⟩,⟨(some 40),(some (33,true)),(.idx 1 (.s 38) (.s 39))⟩,⟨(some 41),(some (33,true)),(.ld none (.s 40))⟩,⟨(some 42),(some (33,true)),(.call (fx n_cmp_Less_uint64) [(.s 37),(.s 41)])⟩,(oo 43 (.pick (.s 33) (.s 42) (.c (.bool false))))] [(0,(false,[])),(1,(false,[])),(2,(false,[])),(3,(false,[])),(4,(false,[])),(5,(false,[])),(6,(false,[])),(7,(false,[])),(8,(false,[])),(9,(false,[])),(10,(false,[])),(11,(false,[])),(12,(true,[])),(13,(false,[]))]) (.cond (.s 43) .skip (.exit 0))) (.block 1 (.reg [(oo 44 (.mov (.s 10))),(oo 45 (.bin .add (.s 44) (.c (.int .i64 1)))),(oo 10 (.mov (.s 45)))]))))) (.join [11] [11,46,47,48,49,50,51,52,53,54,55,56,57,58,59,60,61,62] (.block 2 (.loop [11] [11,46,47,48,49,50,51,52,53,54,55,56,57,58,59,60,61,62] (.seq (.seq (.regD [(oo 46 (.mov (.s 10))),(oo 47 (.mov (.s 11))),(oo 48 (.bin .leq (.s 46) (.s 47))),(oo 49 (.mov (.s 48))),⟨(some 50),(some (49,true)),(.mov (.s 0))⟩,⟨(some 51),(some (49,true)),(.mov (.s 11))⟩,⟨(some 52),(some (49,true)),(.idx 1 (.s 50) (.s 51))⟩,⟨(some 53),(some (49,true)),(.ld none (.s 52))⟩,⟨(some 54),(some (49,true)),(.mov (.s 0))⟩,⟨(some 55),(some (49,true)),(.mov (.s 1))⟩,⟨(some 56),(some (49,true)),(.idx 1 (.s 54) (.s 55))⟩,⟨(some 57),(some (49,true)),(.ld none (.s 56))⟩,⟨(some 58),(some (49,true)),(.call (fx n_cmp_Less_uint64) [(.s 53),(.s 57)])⟩,⟨(some 59),(some (49,true)),(.un .not (.s 58))⟩,(oo 60 (.pick (.s 49) (.s 59) (.c (.bool false))))] [(0,(false,[])),(1,(false,[])),(2,(false,[])),(3,(false,[])),(4,(false,[])),(5,(false,[])),(6,(false,[])),(7,(false,[])),(8,(false,[])),(9,(false,[])),(10,(false,[])),(11,(false,[])),(12,(true,[])),(13,(false,[])),(14,(false,[]))]) (.cond (.s 60) .skip (.exit 2))) (.block 3 (.reg [(oo 61 (.mov (.s 11))),(oo 62 (.bin .sub (.s 61) (.c (.int .i64 1)))),(oo 11 (.mov (.s 62)))]))))) (.seq (.seq (.reg [(oo 63 (.mov (.s 10))),(oo 64 (.mov (.s 11))),(oo 65 (.bin .gtr (.s 63) (.s 64)))]) (.cond (.s 65) (.seq (.regD [(oo 66 (.mov (.s 0))),(oo 67 (.mov (.s 11))),(oo 68 (.mov (.s 0))),(oo 69 (.mov (.s 1))),(oo 70 (.mov (.s 0))),(oo 71 (.mov (.s 1))),(oo 72 (.idx 1 (.s 70) (.s 71))),(oo 73 (.ld none (.s 72))),(oo 74 (.mov (.s 0))),(oo 75 (.mov (.s 11))),(oo 76 (.idx 1 (.s 74) (.s 75))),(oo 77 (.ld none (.s 76))),(oo 78 (.idx 1 (.s 66) (.s 67))),⟨none,none,(.st 1 (.s 78) (.s 73))⟩,(oo 79 (.idx 1 (.s 68) (.s 69))),⟨none,none,(.st 1 (.s 79) (.s 77))⟩] [(0,(false,[])),(1,(false,[])),(2,(false,[])),(3,(false,[])),(4,(false,[])),(5,(false,[])),(6,(false,[])),(7,(false,[])),(8,(false,[])),(9,(false,[])),(10,(false,[])),(11,(false,[])),(12,(false,[])),(13,(true,[3,2])),(14,(false,[])),(15,(true,[]))]) (.seq (.reg [(oo 80 (.mov (.s 11))),(oo 8 (.mov (.s 80))),(oo 9 (.mov (.c (.bool true))))]) .ret)) .skip)) (.seq (.regD [(oo 81 (.mov (.s 0))),(oo 82 (.mov (.s 10))),(oo 83 (.mov (.s 0))),(oo 84 (.mov (.s 11))),(oo 85 (.mov (.s 0))),(oo 86 (.mov (.s 11))),(oo 87 (.idx 1 (.s 85) (.s 86))),(oo 88 (.ld none (.s 87))),(oo 89 (.mov (.s 0))),(oo 90 (.mov (.s 10))),(oo 91 (.idx 1 (.s 89) (.s 90))),(oo 92 (.ld none (.s 91))),(oo 93 (.idx 1 (.s 81) (.s 82))),⟨none,none,(.st 1 (.s 93) (.s 88))⟩,(oo 94 (.idx 1 (.s 83) (.s 84))),⟨none,none,(.st 1 (.s 94) (.s 92))⟩] [(0,(false,[])),(1,(false,[])),(2,(false,[])),(3,(false,[])),(4,(false,[])),(5,(false,[])),(6,(false,[])),(7,(false,[])),(8,(false,[])),(9,(false,[])),(10,(false,[])),(11,(false,[])),(12,(false,[])),(13,(true,[3,2])),(14,(false,[])),(15,(true,[]))]) (.seq (.reg [(oo 95 (.mov (.s 10))),(oo 96 (.bin .add (.s 95) (.c (.int .i64 1)))),(oo 10 (.mov (.s 96)))]) (.seq (.reg [(oo 97 (.mov (.s 11))),(oo 98 (.bin .sub (.s 97) (.c (.int .i64 1)))),(oo 11 (.mov (.s 98)))]) (.join [11] [10,11,99,100,101,102,103,104,105,106,107,108,109,110,111,112,113,114,115,116,117,118,119,120,121,122,123,124,125,126,127,128,129,130,131,132,133,134,135,136,137,138,139,140,141,142,143,144,145,146,147,148,149,150,151,152] (.block 4 (.loop [10,11] [10,11,99,100,101,102,103,104,105,106,107,108,109,110,111,112,113,114,115,116,117,118,119,120,121,122,123,124,125,126,127,128,129,130,131,132,133,134,135,136,137,138,139,140,141,142,143,144,145,146,147,148,149,150,151,152] (.block 5 (.join [10] [10,99,100,101,102,103,104,105,106,107,108,109,110,111,112,113,114] (.block 6 (.loop [10] [10,99,100,101,102,103,104,105,106,107,108,109,110,111,112,113,114] (.seq (.seq (.regD [(oo 99 (.mov (.s 10))),(oo 100 (.mov (.s 11))),(oo 101 (.bin .leq (.s 99) (.s 100))),(oo 102 (.mov (.s 101))),⟨(some 103),(some (102,true)),(.mov (.s 0))⟩,⟨(some 104),(some (102,true)),(.mov (.s 10))⟩,⟨(some 105),(some (102,true)),(.idx 1 (.s 103) (.s 104))⟩,⟨(some 106),(some (102,true)),(.ld none (.s 105))⟩,⟨(some 107),(some (102,true)),(.mov (.s 0))⟩,⟨(some 108),(some (102,true)),(.mov (.s 1))⟩,⟨(some 109),(some (102,true)),(.idx 1 (.s 107) (.s 108))⟩,⟨(some 110),(some (102,true)),(.ld none (.s 109))⟩,⟨(some 111),(some (102,true)),(.call (fx n_cmp_Less_uint64) [(.s 106),(.s 110)])⟩,(oo 112 (.pick (.s 102) (.s 111) (.c (.bool false))))] [(0,(false,[])),(1,(false,[])),(2,(false,[])),(3,(false,[])),(4,(false,[])),(5,(false,[])),(6,(false,[])),(7,(false,[])),(8,(false,[])),(9,(false,[])),(10,(false,[])),(11,(false,[])),(12,(true,[])),(13,(false,[]))]) (.cond (.s 112) .skip (.exit 6))) (.block 7 (.reg [(oo 113 (.mov (.s 10))),(oo 114 (.bin .add (.s 113) (.c (.int .i64 1)))),(oo 10 (.mov (.s 114)))]))))) (.join [11] [11,115,116,117,118,119,120,121,122,123,124,125,126,127,128,129,130,131] (.block 8 (.loop [11] [11,115,116,117,118,119,120,121,122,123,124,125,126,127,128,129,130,131] (.seq (.seq (.regD [(oo 115 (.mov (.s 10))),(oo 116 (.mov (.s 11))),(oo 117 (.bin .leq (.s 115) (.s 116))),(oo 118 (.mov (.s 117))),⟨(some 119),(some (118,true)),(.mov (.s 0))⟩,⟨(some 120),(some (118,true)),(.mov (.s 11))⟩,⟨(some 121),(some (118,true)),(.idx 1 (.s 119) (.s 120))⟩,⟨(some 122),(some (118,true)),(.ld none (.s 121))⟩,⟨(some 123),(some (118,true)),(.mov (.s 0))⟩,⟨(some 124),(some (118,true)),(.mov (.s 1))⟩,⟨(some 125),(some (118,true)),(.idx 1 (.s 123) (.s 124))⟩,⟨(some 126),(some (118,true)),(.ld none (.s 125))⟩,⟨(some 127),(some (118,true)),(.call (fx n_cmp_Less_uint64) [(.s 122),(.s 126)])⟩,⟨(some 128),(some (118,true)),(.un .not (.s 127))⟩,(oo 129 (.pick (.s 118) (.s 128) (.c (.bool false))))] [(0,(false,[])),(1,(false,[])),(2,(false,[])),(3,(false,[])),(4,(false,[])),(5,(false,[])),(6,(false,[])),(7,(false,[])),(8,(false,[])),(9,(false,[])),(10,(false,[])),(11,(false,[])),(12,(true,[])),(13,(false,[])),(14,(false,[]))]) (.cond (.s 129) .skip (.exit 8))) (.block 9 (.reg [(oo 130 (.mov (.s 11))),(oo 131 (.bin .sub (.s 130) (.c (.int .i64 1)))),(oo 11 (.mov (.s 131)))]))))) (.seq (.seq (.reg [(oo 132 (.mov (.s 10))),(oo 133 (.mov (.s 11))),(oo 134 (.bin .gtr (.s 132) (.s 133)))]) (.cond (.s 134) (.exit 4) .skip)) (.seq (.regD [(oo 135 (.mov (.s 0))),(oo 136 (.mov (.s 10))),(oo 137 (.mov (.s 0))),(oo 138 (.mov (.s 11))),(oo 139 (.mov (.s 0))),(oo 140 (.mov (.s 11))),(oo 141 (.idx 1 (.s 139) (.s 140))),(oo 142 (.ld none (.s 141))),(oo 143 (.mov (.s 0))),(oo 144 (.mov (.s 10))),(oo 145 (.idx 1 (.s 143) (.s 144))),(oo 146 (.ld none (.s 145))),(oo 147 (.idx 1 (.s 135) (.s 136))),⟨none,none,(.st 1 (.s 147) (.s 142))⟩,(oo 148 (.idx 1 (.s 137) (.s 138))),⟨none,none,(.st 1 (.s 148) (.s 146))⟩] [(0,(false,[])),(1,(false,[])),(2,(false,[])),(3,(false,[])),(4,(false,[])),(5,(false,[])),(6,(false,[])),(7,(false,[])),(8,(false,[])),(9,(false,[])),(10,(false,[])),(11,(false,[])),(12,(false,[])),(13,(true,[3,2])),(14,(false,[])),(15,(true,[]))]) (.seq (.reg [(oo 149 (.mov (.s 10))),(oo 150 (.bin .add (.s 149) (.c (.int .i64 1)))),(oo 10 (.mov (.s 150)))]) (.reg [(oo 151 (.mov (.s 11))),(oo 152 (.bin .sub (.s 151) (.c (.int .i64 1)))),(oo 11 (.mov (.s 152)))]))))))))) (.seq (.regD [(oo 153 (.mov (.s 0))),(oo 154 (.mov (.s 11))),(oo 155 (.mov (.s 0))),(oo 156 (.mov (.s 1))),(oo 157 (.mov (.s 0))),(oo 158 (.mov (.s 1))),(oo 159 (.idx 1 (.s 157) (.s 158))),(oo 160 (.ld none (.s 159))),(oo 161 (.mov (.s 0))),(oo 162 (.mov (.s 11))),(oo 163 (.idx 1 (.s 161) (.s 162))),(oo 164 (.ld none (.s 163))),(oo 165 (.idx 1 (.s 153) (.s 154))),⟨none,none,(.st 1 (.s 165) (.s 160))⟩,(oo 166 (.idx 1 (.s 155) (.s 156))),⟨none,none,(.st 1 (.s 166) (.s 164))⟩] [(0,(false,[])),(1,(false,[])),(2,(false,[])),(3,(false,[])),(4,(false,[])),(5,(false,[])),(6,(false,[])),(7,(false,[])),(8,(false,[])),(9,(false,[])),(10,(false,[])),(11,(false,[])),(12,(false,[])),(13,(true,[3,2])),(14,(false,[])),(15,(true,[]))]) (.seq (.reg [(oo 167 (.mov (.s 11))),(oo 8 (.mov (.s 167))),(oo 9 (.mov (.c (.bool false))))]) .ret))))))))))))
def F_slices_partitionOrdered_uint64 (P : Program) (a0 a1 a2 a3 : V) (st : St) (K : V → St → Prop) : Prop :=
 @stpD P (.idx 1 (.c a0) (.c a3)) st ⟨fun v18 st =>
 @stpD P (.ld none (.c v18)) st ⟨fun v19 st =>
 @stpD P (.idx 1 (.c a0) (.c a1)) st ⟨fun v22 st =>
 @stpD P (.ld none (.c v22)) st ⟨fun v23 st =>
 @stpD P (.idx 1 (.c a0) (.c a1)) st ⟨fun v24 st =>
 @stpD P (.st 1 (.c v24) (.c v19)) st ⟨fun _v st =>
 hwat P none (.mov (.c a3)) st a3 ∧ (
 hwat P none (.mov (.c a0)) st a0 ∧ (
 @stpD P (.idx 1 (.c a0) (.c a3)) st ⟨fun v25 st =>
 @stpD P (.st 1 (.c v25) (.c v23)) st ⟨fun _v st =>
 @stp P (.bin .add (.c a1) (.c (.int .i64 1))) st ⟨fun v27 st =>
 @stp P (.bin .sub (.c a2) (.c (.int .i64 1))) st ⟨fun v29 st =>
 @Hold ⟨∃ J1 : Rel 1,(
 @Hold ⟨∃ I2 : Nat → Rel 1,(∃ k,GhostV [v27] st (app (I2 k))) ∧ ∀ k2 v10,∀ st,app (I2 k2) [v10] st →
 @stpD P (.bin .leq (.c v10) (.c v29)) st ⟨fun v32 st =>
 @gstD P v32 true (.mov (.c a0)) st ⟨fun v34 st =>
 @gstD P v32 true (.mov (.c v10)) st ⟨fun v35 st =>
 @gstD P v32 true (.idx 1 (.c v34) (.c v35)) st ⟨fun v36 st =>
 @gstD P v32 true (.ld none (.c v36)) st ⟨fun v37 st =>
 @gstD P v32 true (.mov (.c a0)) st ⟨fun v38 st =>
 @gstD P v32 true (.mov (.c a1)) st ⟨fun v39 st =>
 @gstD P v32 true (.idx 1 (.c v38) (.c v39)) st ⟨fun v40 st =>
 @gstD P v32 true (.ld none (.c v40)) st ⟨fun v41 st =>
 @gstD P v32 true (.call (.c (.fn (.func n_cmp_Less_uint64) [] [])) [(.c v37),(.c v41)]) st ⟨fun v42 st =>
 @stpD P (.pick (.c v32) (.c v42) (.c (.bool false))) st ⟨fun v43 st =>
 @cnd v43 ⟨
 @stp P (.bin .add (.c v10) (.c (.int .i64 1))) st ⟨fun v45 st =>
 ∃ j,j < k2 ∧ GhostV [v45] st (app (I2 j))⟩⟩
 ⟨
 GhostV [v10] st (app J1)⟩⟩⟩⟩⟩⟩⟩⟩⟩⟩⟩⟩⟩) ∧
 ∀ v10 st,app J1 [v10] st →
 @Hold ⟨∃ J3 : Rel 1,(
 @Hold ⟨∃ I4 : Nat → Rel 1,(∃ k,GhostV [v29] st (app (I4 k))) ∧ ∀ k4 v11,∀ st,app (I4 k4) [v11] st →
 @stpD P (.bin .leq (.c v10) (.c v11)) st ⟨fun v48 st =>
 @gstD P v48 true (.mov (.c a0)) st ⟨fun v50 st =>
 @gstD P v48 true (.mov (.c v11)) st ⟨fun v51 st =>
 @gstD P v48 true (.idx 1 (.c v50) (.c v51)) st ⟨fun v52 st =>
 @gstD P v48 true (.ld none (.c v52)) st ⟨fun v53 st =>
 @gstD P v48 true (.mov (.c a0)) st ⟨fun v54 st =>
 @gstD P v48 true (.mov (.c a1)) st ⟨fun v55 st =>
 @gstD P v48 true (.idx 1 (.c v54) (.c v55)) st ⟨fun v56 st =>
 @gstD P v48 true (.ld none (.c v56)) st ⟨fun v57 st =>
 @gstD P v48 true (.call (.c (.fn (.func n_cmp_Less_uint64) [] [])) [(.c v53),(.c v57)]) st ⟨fun v58 st =>
 @gstD P v48 true (.un .not (.c v58)) st ⟨fun v59 st =>
 @stpD P (.pick (.c v48) (.c v59) (.c (.bool false))) st ⟨fun v60 st =>
 @cnd v60 ⟨
 @stp P (.bin .sub (.c v11) (.c (.int .i64 1))) st ⟨fun v62 st =>
 ∃ j,j < k4 ∧ GhostV [v62] st (app (I4 j))⟩⟩
 ⟨
 GhostV [v11] st (app J3)⟩⟩⟩⟩⟩⟩⟩⟩⟩⟩⟩⟩⟩⟩) ∧
 ∀ v11 st,app J3 [v11] st →
 @stp P (.bin .gtr (.c v10) (.c v11)) st ⟨fun v65 st =>
 @cnd v65 ⟨
 @stpD P (.idx 1 (.c a0) (.c a1)) st ⟨fun v72 st =>
 @stpD P (.ld none (.c v72)) st ⟨fun v73 st =>
 @stpD P (.idx 1 (.c a0) (.c v11)) st ⟨fun v76 st =>
 @stpD P (.ld none (.c v76)) st ⟨fun v77 st =>
 @stpD P (.idx 1 (.c a0) (.c v11)) st ⟨fun v78 st =>
 @stpD P (.st 1 (.c v78) (.c v73)) st ⟨fun _v st =>
 hwat P none (.mov (.c a1)) st a1 ∧ (
 hwat P none (.mov (.c a0)) st a0 ∧ (
 @stpD P (.idx 1 (.c a0) (.c a1)) st ⟨fun v79 st =>
 @stpD P (.st 1 (.c v79) (.c v77)) st ⟨fun _v st =>
 GhostV [v11,(.bool true)] st fun vs st => K (mkres vs) st⟩⟩))⟩⟩⟩⟩⟩⟩⟩
 ⟨
 @stpD P (.idx 1 (.c a0) (.c v11)) st ⟨fun v87 st =>
 @stpD P (.ld none (.c v87)) st ⟨fun v88 st =>
 @stpD P (.idx 1 (.c a0) (.c v10)) st ⟨fun v91 st =>
 @stpD P (.ld none (.c v91)) st ⟨fun v92 st =>
 @stpD P (.idx 1 (.c a0) (.c v10)) st ⟨fun v93 st =>
 @stpD P (.st 1 (.c v93) (.c v88)) st ⟨fun _v st =>
 hwat P none (.mov (.c v11)) st v11 ∧ (
 hwat P none (.mov (.c a0)) st a0 ∧ (
 @stpD P (.idx 1 (.c a0) (.c v11)) st ⟨fun v94 st =>
 @stpD P (.st 1 (.c v94) (.c v92)) st ⟨fun _v st =>
 @stp P (.bin .add (.c v10) (.c (.int .i64 1))) st ⟨fun v96 st =>
 @stp P (.bin .sub (.c v11) (.c (.int .i64 1))) st ⟨fun v98 st =>
 @Hold ⟨∃ J5 : Rel 1,(
 @Hold ⟨∃ I6 : Nat → Rel 2,(∃ k,GhostV [v96,v98] st (app (I6 k))) ∧ ∀ k6 v10_1 v11_1,∀ st,app (I6 k6) [v10_1,v11_1] st →
 @Hold ⟨∃ J7 : Rel 1,(
 @Hold ⟨∃ I8 : Nat → Rel 1,(∃ k,GhostV [v10_1] st (app (I8 k))) ∧ ∀ k8 v10_1,∀ st,app (I8 k8) [v10_1] st →
 @stpD P (.bin .leq (.c v10_1) (.c v11_1)) st ⟨fun v101 st =>
 @gstD P v101 true (.mov (.c a0)) st ⟨fun v103 st =>
 @gstD P v101 true (.mov (.c v10_1)) st ⟨fun v104 st =>
 @gstD P v101 true (.idx 1 (.c v103) (.c v104)) st ⟨fun v105 st =>
 @gstD P v101 true (.ld none (.c v105)) st ⟨fun v106 st =>
 @gstD P v101 true (.mov (.c a0)) st ⟨fun v107 st =>
 @gstD P v101 true (.mov (.c a1)) st ⟨fun v108 st =>
 @gstD P v101 true (.idx 1 (.c v107) (.c v108)) st ⟨fun v109 st =>
 @gstD P v101 true (.ld none (.c v109)) st ⟨fun v110 st =>
 @gstD P v101 true (.call (.c (.fn (.func n_cmp_Less_uint64) [] [])) [(.c v106),(.c v110)]) st ⟨fun v111 st =>
 @stpD P (.pick (.c v101) (.c v111) (.c (.bool false))) st ⟨fun v112 st =>
 @cnd v112 ⟨
 @stp P (.bin .add (.c v10_1) (.c (.int .i64 1))) st ⟨fun v114 st =>
 ∃ j,j < k8 ∧ GhostV [v114] st (app (I8 j))⟩⟩
 ⟨
 GhostV [v10_1] st (app J7)⟩⟩⟩⟩⟩⟩⟩⟩⟩⟩⟩⟩⟩) ∧
 ∀ v10_1 st,app J7 [v10_1] st →
 @Hold ⟨∃ J9 : Rel 1,(
 @Hold ⟨∃ I10 : Nat → Rel 1,(∃ k,GhostV [v11_1] st (app (I10 k))) ∧ ∀ k10 v11_1,∀ st,app (I10 k10) [v11_1] st →
 @stpD P (.bin .leq (.c v10_1) (.c v11_1)) st ⟨fun v117 st =>
 @gstD P v117 true (.mov (.c a0)) st ⟨fun v119 st =>
 @gstD P v117 true (.mov (.c v11_1)) st ⟨fun v120 st =>
 @gstD P v117 true (.idx 1 (.c v119) (.c v120)) st ⟨fun v121 st =>
 @gstD P v117 true (.ld none (.c v121)) st ⟨fun v122 st =>
 @gstD P v117 true (.mov (.c a0)) st ⟨fun v123 st =>
 @gstD P v117 true (.mov (.c a1)) st ⟨fun v124 st =>
 @gstD P v117 true (.idx 1 (.c v123) (.c v124)) st ⟨fun v125 st =>
 @gstD P v117 true (.ld none (.c v125)) st ⟨fun v126 st =>
 @gstD P v117 true (.call (.c (.fn (.func n_cmp_Less_uint64) [] [])) [(.c v122),(.c v126)]) st ⟨fun v127 st =>
 @gstD P v117 true (.un .not (.c v127)) st ⟨fun v128 st =>
 @stpD P (.pick (.c v117) (.c v128) (.c (.bool false))) st ⟨fun v129 st =>
 @cnd v129 ⟨
 @stp P (.bin .sub (.c v11_1) (.c (.int .i64 1))) st ⟨fun v131 st =>
 ∃ j,j < k10 ∧ GhostV [v131] st (app (I10 j))⟩⟩
 ⟨
 GhostV [v11_1] st (app J9)⟩⟩⟩⟩⟩⟩⟩⟩⟩⟩⟩⟩⟩⟩) ∧
 ∀ v11_1 st,app J9 [v11_1] st →
 @stp P (.bin .gtr (.c v10_1) (.c v11_1)) st ⟨fun v134 st =>
 @cnd v134 ⟨
 GhostV [v11_1] st (app J5)⟩
 ⟨
 @stpD P (.idx 1 (.c a0) (.c v11_1)) st ⟨fun v141 st =>
 @stpD P (.ld none (.c v141)) st ⟨fun v142 st =>
 @stpD P (.idx 1 (.c a0) (.c v10_1)) st ⟨fun v145 st =>
 @stpD P (.ld none (.c v145)) st ⟨fun v146 st =>
 @stpD P (.idx 1 (.c a0) (.c v10_1)) st ⟨fun v147 st =>
 @stpD P (.st 1 (.c v147) (.c v142)) st ⟨fun _v st =>
 hwat P none (.mov (.c v11_1)) st v11_1 ∧ (
 hwat P none (.mov (.c a0)) st a0 ∧ (
 @stpD P (.idx 1 (.c a0) (.c v11_1)) st ⟨fun v148 st =>
 @stpD P (.st 1 (.c v148) (.c v146)) st ⟨fun _v st =>
 @stp P (.bin .add (.c v10_1) (.c (.int .i64 1))) st ⟨fun v150 st =>
 @stp P (.bin .sub (.c v11_1) (.c (.int .i64 1))) st ⟨fun v152 st =>
 ∃ j,j < k6 ∧ GhostV [v150,v152] st (app (I6 j))⟩⟩⟩⟩))⟩⟩⟩⟩⟩⟩⟩⟩⟩⟩⟩) ∧
 ∀ v11_1 st,app J5 [v11_1] st →
 @stpD P (.idx 1 (.c a0) (.c a1)) st ⟨fun v159 st =>
 @stpD P (.ld none (.c v159)) st ⟨fun v160 st =>
 @stpD P (.idx 1 (.c a0) (.c v11_1)) st ⟨fun v163 st =>
 @stpD P (.ld none (.c v163)) st ⟨fun v164 st =>
 @stpD P (.idx 1 (.c a0) (.c v11_1)) st ⟨fun v165 st =>
 @stpD P (.st 1 (.c v165) (.c v160)) st ⟨fun _v st =>
 hwat P none (.mov (.c a1)) st a1 ∧ (
 hwat P none (.mov (.c a0)) st a0 ∧ (
 @stpD P (.idx 1 (.c a0) (.c a1)) st ⟨fun v166 st =>
 @stpD P (.st 1 (.c v166) (.c v164)) st ⟨fun _v st =>
 GhostV [v11_1,(.bool false)] st fun vs st => K (mkres vs) st⟩⟩))⟩⟩⟩⟩⟩⟩⟩⟩⟩⟩⟩))⟩⟩⟩⟩⟩⟩⟩⟩⟩⟩⟩⟩⟩⟩))⟩⟩⟩⟩⟩⟩
theorem q_slices_partitionOrdered_uint64 {P : Program} {a0 a1 a2 a3 : V} {st : St} {K : V → St → Prop} : F_slices_partitionOrdered_uint64 P a0 a1 a2 a3 st K = hwp P c_slices_partitionOrdered_uint64 (hretQ [.tmp 8, .tmp 9] K) (enterFr [a0, a1, a2, a3]) st := by kernel_rfl
abbrev R_slices_partitionOrdered_uint64 (P : Program) : Prop := resFnH P n_slices_partitionOrdered_uint64 = some (168, c_slices_partitionOrdered_uint64.er, [.tmp 8, .tmp 9])
theorem A_slices_partitionOrdered_uint64 {P : Program} (h : R_slices_partitionOrdered_uint64 P) {a0 a1 a2 a3 : V} {st : St} {K : V → St → Prop} (hF : F_slices_partitionOrdered_uint64 P a0 a1 a2 a3 st K) : ACalls P n_slices_partitionOrdered_uint64 [a0, a1, a2, a3] st K :=
  ACalls_h h rfl (by simp) (q_slices_partitionOrdered_uint64 ▸ hF)

def c_math_bits_Len64 : ACode := (.seq (.reg [(oo 2 (.mov (.c (.int .i64 0))))]) (.join [0,2] [0,2,3,4,5,6] (.seq (.reg [(oo 3 (.mov (.s 0))),(oo 4 (.bin .geq (.s 3) (.c (.int .u64 4294967296))))]) (.cond (.s 4) (.seq (.reg [(oo 5 (.mov (.s 0))),(oo 6 (.bin .shr (.s 5) (.c (.int .u64 32)))),(oo 0 (.mov (.s 6)))]) (.reg [(oo 2 (.mov (.c (.int .i64 32))))])) .skip)) (.join [0,2] [0,2,7,8,9,10,11,12] (.seq (.reg [(oo 7 (.mov (.s 0))),(oo 8 (.bin .geq (.s 7) (.c (.int .u64 65536))))]) (.cond (.s 8) (.seq (.reg [(oo 9 (.mov (.s 0))),(oo 10 (.bin .shr (.s 9) (.c (.int .u64 16)))),(oo 0 (.mov (.s 10)))]) (.reg [(oo 11 (.mov (.s 2))),(oo 12 (.bin .add (.s 11) (.c (.int .i64 16)))),(oo 2 (.mov (.s 12)))])) .skip)) (.seq (.seq (.reg [(oo 13 (.mov (.s 0))),(oo 14 (.bin .geq (.s 13) (.c (.int .u64 256))))]) (.cond (.s 14) (.seq (.reg [(oo 15 (.mov (.s 0))),(oo 16 (.bin .shr (.s 15) (.c (.int .u64 8)))),(oo 0 (.mov (.s 16)))]) (.reg [(oo 17 (.mov (.s 2))),(oo 18 (.bin .add (.s 17) (.c (.int .i64 8)))),(oo 2 (.mov (.s 18)))])) .skip)) (.seq (.reg [(oo 19 (.mov (.s 2))),(oo 20 (.mov (.s 0))),(oo 21 (.conv .u8 (.s 20))),⟨(some 22),none,(.idxS (.c (.str ⟨#[0,1,2,2,3,3,3,3,4,4,4,4,4,4,4,4,5,5,5,5,5,5,5,5,5,5,5,5,5,5,5,5,6,6,6,6,6,6,6,6,6,6,6,6,6,6,6,6,6,6,6,6,6,6,6,6,6,6,6,6,6,6,6,6,7,7,7,7,7,7,7,7,7,7,7,7,7,7,7,7,7,7,7,7,7,7,7,7,7,7,7,7,7,7,7,7,7,7,7,7,7,7,7,7,7,7,7,7,7,7,7,7,7,7,7,7,7,7,7,7,7,7,7,7,7,7,7,7,8,8,8,8,8,8,8,8,8,8,8,8,8,8,8,8,8,8,8,8,8,8,8,8,8,8,8,8,8,8,8,8,8,8,8,8,8,8,8,8,8,8,8,8,8,8,8,8,8,8,8,8,8,8,8,8,8,8,8,8,8,8,8,8,8,8,8,8,8,8,8,8,8,8,8,8,8,8,8,8,8,8,8,8,8,8,8,8,8,8,8,8,8,8,8,8,8,8,8,8,8,8,8,8,8,8,8,8,8,8,8,8,8,8,8,8,8,8,8,8,8,8,8,8,8,8,8,8]⟩)) (.s 21))⟩,(oo 23 (.conv .i64 (.s 22))),(oo 24 (.bin .add (.s 19) (.s 23))),(oo 2 (.mov (.s 24)))]) .ret)))))
def F_math_bits_Len64 (P : Program) (a0 : V) (st : St) (K : V → St → Prop) : Prop :=
 @Hold ⟨∃ J1 : Rel 2,(
 @stp P (.bin .geq (.c a0) (.c (.int .u64 4294967296))) st ⟨fun v4 st =>
 @cnd v4 ⟨
 @stp P (.bin .shr (.c a0) (.c (.int .u64 32))) st ⟨fun v6 st =>
 GhostV [v6,(.int .i64 32)] st (app J1)⟩⟩
 ⟨
 GhostV [a0,(.int .i64 0)] st (app J1)⟩⟩) ∧
 ∀ v0 v2 st,app J1 [v0,v2] st →
 @Hold ⟨∃ J2 : Rel 2,(
 @stp P (.bin .geq (.c v0) (.c (.int .u64 65536))) st ⟨fun v8 st =>
 @cnd v8 ⟨
 @stp P (.bin .shr (.c v0) (.c (.int .u64 16))) st ⟨fun v10 st =>
 @stp P (.bin .add (.c v2) (.c (.int .i64 16))) st ⟨fun v12 st =>
 GhostV [v10,v12] st (app J2)⟩⟩⟩
 ⟨
 GhostV [v0,v2] st (app J2)⟩⟩) ∧
 ∀ v0 v2 st,app J2 [v0,v2] st →
 @stp P (.bin .geq (.c v0) (.c (.int .u64 256))) st ⟨fun v14 st =>
 @cnd v14 ⟨
 @stp P (.bin .shr (.c v0) (.c (.int .u64 8))) st ⟨fun v16 st =>
 @stp P (.bin .add (.c v2) (.c (.int .i64 8))) st ⟨fun v18 st =>
 @stp P (.conv .u8 (.c v16)) st ⟨fun v21 st =>
 @stp P (.idxS (.c (.str ⟨#[0,1,2,2,3,3,3,3,4,4,4,4,4,4,4,4,5,5,5,5,5,5,5,5,5,5,5,5,5,5,5,5,6,6,6,6,6,6,6,6,6,6,6,6,6,6,6,6,6,6,6,6,6,6,6,6,6,6,6,6,6,6,6,6,7,7,7,7,7,7,7,7,7,7,7,7,7,7,7,7,7,7,7,7,7,7,7,7,7,7,7,7,7,7,7,7,7,7,7,7,7,7,7,7,7,7,7,7,7,7,7,7,7,7,7,7,7,7,7,7,7,7,7,7,7,7,7,7,8,8,8,8,8,8,8,8,8,8,8,8,8,8,8,8,8,8,8,8,8,8,8,8,8,8,8,8,8,8,8,8,8,8,8,8,8,8,8,8,8,8,8,8,8,8,8,8,8,8,8,8,8,8,8,8,8,8,8,8,8,8,8,8,8,8,8,8,8,8,8,8,8,8,8,8,8,8,8,8,8,8,8,8,8,8,8,8,8,8,8,8,8,8,8,8,8,8,8,8,8,8,8,8,8,8,8,8,8,8,8,8,8,8,8,8,8,8,8,8,8,8,8,8,8,8,8,8]⟩)) (.c v21)) st ⟨fun v22 st =>
 @stp P (.conv .i64 (.c v22)) st ⟨fun v23 st =>
 @stp P (.bin .add (.c v18) (.c v23)) st ⟨fun v24 st =>
 GhostV [v24] st fun vs st => K (mkres vs) st⟩⟩⟩⟩⟩⟩⟩
 ⟨
 @stp P (.conv .u8 (.c v0)) st ⟨fun v21 st =>
 @stp P (.idxS (.c (.str ⟨#[0,1,2,2,3,3,3,3,4,4,4,4,4,4,4,4,5,5,5,5,5,5,5,5,5,5,5,5,5,5,5,5,6,6,6,6,6,6,6,6,6,6,6,6,6,6,6,6,6,6,6,6,6,6,6,6,6,6,6,6,6,6,6,6,7,7,7,7,7,7,7,7,7,7,7,7,7,7,7,7,7,7,7,7,7,7,7,7,7,7,7,7,7,7,7,7,7,7,7,7,7,7,7,7,7,7,7,7,7,7,7,7,7,7,7,7,7,7,7,7,7,7,7,7,7,7,7,7,8,8,8,8,8,8,8,8,8,8,8,8,8,8,8,8,8,8,8,8,8,8,8,8,8,8,8,8,8,8,8,8,8,8,8,8,8,8,8,8,8,8,8,8,8,8,8,8,8,8,8,8,8,8,8,8,8,8,8,8,8,8,8,8,8,8,8,8,8,8,8,8,8,8,8,8,8,8,8,8,8,8,8,8,8,8,8,8,8,8,8,8,8,8,8,8,8,8,8,8,8,8,8,8,8,8,8,8,8,8,8,8,8,8,8,8,8,8,8,8,8,8,8,8,8,8,8,8]⟩)) (.c v21)) st ⟨fun v22 st =>
 @stp P (.conv .i64 (.c v22)) st ⟨fun v23 st =>
 @stp P (.bin .add (.c v2) (.c v23)) st ⟨fun v24 st =>
 GhostV [v24] st fun vs st => K (mkres vs) st⟩⟩⟩⟩⟩⟩⟩⟩
theorem q_math_bits_Len64 {P : Program} {a0 : V} {st : St} {K : V → St → Prop} : F_math_bits_Len64 P a0 st K = hwp P c_math_bits_Len64 (hretQ [.tmp 2] K) (enterFr [a0]) st := by kernel_rfl
abbrev R_math_bits_Len64 (P : Program) : Prop := resFnH P n_math_bits_Len64 = some (25, c_math_bits_Len64.er, [.tmp 2])
theorem A_math_bits_Len64 {P : Program} (h : R_math_bits_Len64 P) {a0 : V} {st : St} {K : V → St → Prop} (hF : F_math_bits_Len64 P a0 st K) : ACalls P n_math_bits_Len64 [a0] st K :=
  ACalls_h h rfl (by simp) (q_math_bits_Len64 ▸ hF)

def c_slices_siftDownOrdered_uint64 : ACode := (.seq (.reg [(oo 10 (.mov (.s 1))),(oo 8 (.mov (.s 10)))]) (.block 0 (.loop [8] [8,9,11,12,13,14,15,16,17,18,19,20,21,22,23,24,25,26,27,28,29,30,31,32,33,34,35,36,37,38,39,40,41,42,43,44,45,46,47,48,49,50,51,52,53,54,55,56,57,58,59,60,61,62,63,64,65,66,67,68,69,70,71,72,73,74,75] (.block 1 (.seq (.reg [(oo 11 (.mov (.s 8))),(oo 12 (.bin .mul (.c (.int .i64 2)) (.s 11))),(oo 13 (.bin .add (.s 12) (.c (.int .i64 1)))),(oo 9 (.mov (.s 13)))]) (.seq (.seq (.reg [(oo 14 (.mov (.s 9))),(oo 15 (.mov (.s 2))),(oo 16 (.bin .geq (.s 14) (.s 15)))]) (.cond (.s 16) (.exit 0) .skip)) (.join [9] [9,17,18,19,20,21,22,23,24,25,26,27,28,29,30,31,32,33,34,35,36,37,38] (.seq (.regD [(oo 17 (.mov (.s 9))),(oo 18 (.bin .add (.s 17) (.c (.int .i64 1)))),(oo 19 (.mov (.s 2))),(oo 20 (.bin .lss (.s 18) (.s 19))),(oo 21 (.mov (.s 20))),⟨(some 22),(some (21,true)),(.mov (.s 0))⟩,⟨(some 23),(some (21,true)),(.mov (.s 3))⟩,⟨(some 24),(some (21,true)),(.mov (.s 9))⟩,⟨(some 25),(some (21,true)),(.bin .add (.s 23) (.s 24))⟩,⟨(some 26),(some (21,true)),(.idx 1 (.s 22) (.s 25))⟩,⟨(some 27),(some (21,true)),(.ld none (.s 26))⟩,⟨(some 28),(some (21,true)),(.mov (.s 0))⟩,⟨(some 29),(some (21,true)),(.mov (.s 3))⟩,⟨(some 30),(some (21,true)),(.mov (.s 9))⟩,⟨(some 31),(some (21,true)),(.bin .add (.s 29) (.s 30))⟩,⟨(some 32),(some (21,true)),(.bin .add (.s 31) (.c (.int .i64 1)))⟩,⟨(some 33),(some (21,true)),(.idx 1 (.s 28) (.s 32))⟩,⟨(some 34),(some (21,true)),(.ld none (.s 33))⟩,⟨(some 35),(some (21,true)),(.call (fx n_cmp_Less_uint64) [(.s 27),(.s 34)])⟩,(oo 36 (.pick (.s 21) (.s 35) (.c (.bool false))))] [(0,(false,[])),(1,(false,[])),(2,(false,[])),(3,(false,[])),(4,(false,[])),(5,(false,[])),(6,(false,[])),(7,(false,[])),(8,(false,[])),(9,(false,[])),(10,(false,[])),(11,(false,[])),(12,(false,[])),(13,(false,[])),(14,(false,[])),(15,(false,[])),(16,(false,[])),(17,(false,[])),(18,(true,[])),(19,(false,[]))]) (.cond (.s 36) (.reg [(oo 37 (.mov (.s 9))),(oo 38 (.bin .add (.s 37) (.c (.int .i64 1)))),(oo 9 (.mov (.s 38)))]) .skip)) (.seq (.seq (.regD [(oo 39 (.mov (.s 0))),(oo 40 (.mov (.s 3))),(oo 41 (.mov (.s 8))),(oo 42 (.bin .add (.s 40) (.s 41))),(oo 43 (.idx 1 (.s 39) (.s 42))),(oo 44 (.ld none (.s 43))),(oo 45 (.mov (.s 0))),(oo 46 (.mov (.s 3))),(oo 47 (.mov (.s 9))),(oo 48 (.bin .add (.s 46) (.s 47))),(oo 49 (.idx 1 (.s 45) (.s 48))),(oo 50 (.ld none (.s 49))),(oo 51 (.call (fx n_cmp_Less_uint64) [(.s 44),(.s 50)])),(oo 52 (.un .not (.s 51)))] [(0,(false,[])),(1,(false,[])),(2,(false,[])),(3,(false,[])),(4,(false,[])),(5,(false,[])),(6,(false,[])),(7,(false,[])),(8,(false,[])),(9,(false,[])),(10,(false,[])),(11,(false,[])),(12,(true,[])),(13,(false,[]))]) (.cond (.s 52) .ret .skip)) (.seq (.regD [(oo 53 (.mov (.s 0))),(oo 54 (.mov (.s 3))),(oo 55 (.mov (.s 8))),(oo 56 (.bin .add (.s 54) (.s 55))),(oo 57 (.mov (.s 0))),(oo 58 (.mov (.s 3))),(oo 59 (.mov (.s 9))),(oo 60 (.bin .add (.s 58) (.s 59))),(oo 61 (.mov (.s 0))),(oo 62 (.mov (.s 3))),(oo 63 (.mov (.s 9))),(oo 64 (.bin .add (.s 62) (.s 63))),(oo 65 (.idx 1 (.s 61) (.s 64))),(oo 66 (.ld none (.s 65))),(oo 67 (.mov (.s 0))),(oo 68 (.mov (.s 3))),(oo 69 (.mov (.s 8))),(oo 70 (.bin .add (.s 68) (.s 69))),(oo 71 (.idx 1 (.s 67) (.s 70))),(oo 72 (.ld none (.s 71))),(oo 73 (.idx 1 (.s 53) (.s 56))),⟨none,none,(.st 1 (.s 73) (.s 66))⟩,(oo 74 (.idx 1 (.s 57) (.s 60))),⟨none,none,(.st 1 (.s 74) (.s 72))⟩] [(0,(false,[])),(1,(false,[])),(2,(false,[])),(3,(false,[])),(4,(false,[])),(5,(false,[])),(6,(false,[])),(7,(false,[])),(8,(false,[])),(9,(false,[])),(10,(false,[])),(11,(false,[])),(12,(false,[])),(13,(false,[])),(14,(false,[])),(15,(false,[])),(16,(false,[])),(17,(false,[])),(18,(false,[])),(19,(false,[])),(20,(false,[])),(21,(true,[7,6,5,4])),(22,(false,[])),(23,(true,[]))]) (.reg [(oo 75 (.mov (.s 9))),(oo 8 (.mov (.s 75)))]))))))))))
def F_slices_siftDownOrdered_uint64 (P : Program) (a0 a1 a2 a3 : V) (st : St) (K : V → St → Prop) : Prop :=
 @Hold ⟨∃ I1 : Nat → Rel 1,(∃ k,GhostV [a1] st (app (I1 k))) ∧ ∀ k1 v8,∀ st,app (I1 k1) [v8] st →
 @stp P (.bin .mul (.c (.int .i64 2)) (.c v8)) st ⟨fun v12 st =>
 @stp P (.bin .add (.c v12) (.c (.int .i64 1))) st ⟨fun v13 st =>
 @stp P (.bin .geq (.c v13) (.c a2)) st ⟨fun v16 st =>
 @cnd v16 ⟨
 GhostV [] st fun vs st => K (mkres vs) st⟩
 ⟨
 @Hold ⟨∃ J2 : Rel 1,(
 @stpD P (.bin .add (.c v13) (.c (.int .i64 1))) st ⟨fun v18 st =>
 @stpD P (.bin .lss (.c v18) (.c a2)) st ⟨fun v20 st =>
 @gstD P v20 true (.mov (.c a0)) st ⟨fun v22 st =>
 @gstD P v20 true (.mov (.c a3)) st ⟨fun v23 st =>
 @gstD P v20 true (.mov (.c v13)) st ⟨fun v24 st =>
 @gstD P v20 true (.bin .add (.c v23) (.c v24)) st ⟨fun v25 st =>
 @gstD P v20 true (.idx 1 (.c v22) (.c v25)) st ⟨fun v26 st =>
 @gstD P v20 true (.ld none (.c v26)) st ⟨fun v27 st =>
 @gstD P v20 true (.mov (.c a0)) st ⟨fun v28 st =>
 @gstD P v20 true (.mov (.c a3)) st ⟨fun v29 st =>
 @gstD P v20 true (.mov (.c v13)) st ⟨fun v30 st =>
 @gstD P v20 true (.bin .add (.c v29) (.c v30)) st ⟨fun v31 st =>
 @gstD P v20 true (.bin .add (.c v31) (.c (.int .i64 1))) st ⟨fun v32 st =>
 @gstD P v20 true (.idx 1 (.c v28) (.c v32)) st ⟨fun v33 st =>
 @gstD P v20 true (.ld none (.c v33)) st ⟨fun v34 st =>
 @gstD P v20 true (.call (.c (.fn (.func n_cmp_Less_uint64) [] [])) [(.c v27),(.c v34)]) st ⟨fun v35 st =>
 @stpD P (.pick (.c v20) (.c v35) (.c (.bool false))) st ⟨fun v36 st =>
 @cnd v36 ⟨
 @stp P (.bin .add (.c v13) (.c (.int .i64 1))) st ⟨fun v38 st =>
 GhostV [v38] st (app J2)⟩⟩
 ⟨
 GhostV [v13] st (app J2)⟩⟩⟩⟩⟩⟩⟩⟩⟩⟩⟩⟩⟩⟩⟩⟩⟩⟩) ∧
 ∀ v9 st,app J2 [v9] st →
 @stpD P (.bin .add (.c a3) (.c v8)) st ⟨fun v42 st =>
 @stpD P (.idx 1 (.c a0) (.c v42)) st ⟨fun v43 st =>
 @stpD P (.ld none (.c v43)) st ⟨fun v44 st =>
 @stpD P (.bin .add (.c a3) (.c v9)) st ⟨fun v48 st =>
 @stpD P (.idx 1 (.c a0) (.c v48)) st ⟨fun v49 st =>
 @stpD P (.ld none (.c v49)) st ⟨fun v50 st =>
 @stpD P (.call (.c (.fn (.func n_cmp_Less_uint64) [] [])) [(.c v44),(.c v50)]) st ⟨fun v51 st =>
 @stpD P (.un .not (.c v51)) st ⟨fun v52 st =>
 @cnd v52 ⟨
 GhostV [] st fun vs st => K (mkres vs) st⟩
 ⟨
 @stpD P (.bin .add (.c a3) (.c v8)) st ⟨fun v56 st =>
 @stpD P (.bin .add (.c a3) (.c v9)) st ⟨fun v60 st =>
 @stpD P (.bin .add (.c a3) (.c v9)) st ⟨fun v64 st =>
 @stpD P (.idx 1 (.c a0) (.c v64)) st ⟨fun v65 st =>
 @stpD P (.ld none (.c v65)) st ⟨fun v66 st =>
 @stpD P (.bin .add (.c a3) (.c v8)) st ⟨fun v70 st =>
 @stpD P (.idx 1 (.c a0) (.c v70)) st ⟨fun v71 st =>
 @stpD P (.ld none (.c v71)) st ⟨fun v72 st =>
 @stpD P (.idx 1 (.c a0) (.c v56)) st ⟨fun v73 st =>
 @stpD P (.st 1 (.c v73) (.c v66)) st ⟨fun _v st =>
 hwat P none (.bin .add (.c a3) (.c v9)) st v60 ∧ (
 hwat P none (.mov (.c v9)) st v9 ∧ (
 hwat P none (.mov (.c a3)) st a3 ∧ (
 hwat P none (.mov (.c a0)) st a0 ∧ (
 @stpD P (.idx 1 (.c a0) (.c v60)) st ⟨fun v74 st =>
 @stpD P (.st 1 (.c v74) (.c v72)) st ⟨fun _v st =>
 ∃ j,j < k1 ∧ GhostV [v9] st (app (I1 j))⟩⟩))))⟩⟩⟩⟩⟩⟩⟩⟩⟩⟩⟩⟩⟩⟩⟩⟩⟩⟩⟩⟩⟩⟩⟩⟩⟩
theorem q_slices_siftDownOrdered_uint64 {P : Program} {a0 a1 a2 a3 : V} {st : St} {K : V → St → Prop} : F_slices_siftDownOrdered_uint64 P a0 a1 a2 a3 st K = hwp P c_slices_siftDownOrdered_uint64 (hretQ [] K) (enterFr [a0, a1, a2, a3]) st := by kernel_rfl
abbrev R_slices_siftDownOrdered_uint64 (P : Program) : Prop := resFnH P n_slices_siftDownOrdered_uint64 = some (76, c_slices_siftDownOrdered_uint64.er, [])
theorem A_slices_siftDownOrdered_uint64 {P : Program} (h : R_slices_siftDownOrdered_uint64 P) {a0 a1 a2 a3 : V} {st : St} {K : V → St → Prop} (hF : F_slices_siftDownOrdered_uint64 P a0 a1 a2 a3 st K) : ACalls P n_slices_siftDownOrdered_uint64 [a0, a1, a2, a3] st K :=
  ACalls_h h rfl (by simp) (q_slices_siftDownOrdered_uint64 ▸ hF)

def c_slices_nextPowerOfTwo : ACode := (.seq (.reg [(oo 2 (.mov (.c (.int .u64 0))))]) (.seq (.reg [(oo 3 (.mov (.s 0))),(oo 4 (.conv .u64 (.s 3))),(oo 5 (.call (fx n_math_bits_Len) [(.s 4)])),(oo 6 (.bin .shl (.c (.int .u64 1)) (.s 5))),(oo 2 (.mov (.s 6)))]) .ret))
def F_slices_nextPowerOfTwo (P : Program) (a0 : V) (st : St) (K : V → St → Prop) : Prop :=
 @stp P (.conv .u64 (.c a0)) st ⟨fun v4 st =>
 @stp P (.call (.c (.fn (.func n_math_bits_Len) [] [])) [(.c v4)]) st ⟨fun v5 st =>
 @stp P (.bin .shl (.c (.int .u64 1)) (.c v5)) st ⟨fun v6 st =>
 GhostV [v6] st fun vs st => K (mkres vs) st⟩⟩⟩
theorem q_slices_nextPowerOfTwo {P : Program} {a0 : V} {st : St} {K : V → St → Prop} : F_slices_nextPowerOfTwo P a0 st K = hwp P c_slices_nextPowerOfTwo (hretQ [.tmp 2] K) (enterFr [a0]) st := by kernel_rfl
abbrev R_slices_nextPowerOfTwo (P : Program) : Prop := resFnH P n_slices_nextPowerOfTwo = some (7, c_slices_nextPowerOfTwo.er, [.tmp 2])
theorem A_slices_nextPowerOfTwo {P : Program} (h : R_slices_nextPowerOfTwo P) {a0 : V} {st : St} {K : V → St → Prop} (hF : F_slices_nextPowerOfTwo P a0 st K) : ACalls P n_slices_nextPowerOfTwo [a0] st K :=
  ACalls_h h rfl (by simp) (q_slices_nextPowerOfTwo ▸ hF)

def c_slices_xorshift_Next : ACode := (.seq (.reg [(oo 2 (.mov (.c (.int .u64 0))))]) (.seq (.regD [(oo 3 (.mov (.s 0))),(oo 4 (.nilchk (.s 3))),(oo 5 (.ld none (.s 4))),(oo 6 (.mov (.s 0))),(oo 7 (.nilchk (.s 6))),(oo 8 (.ld none (.s 7))),(oo 9 (.bin .shl (.s 8) (.c (.int .u64 13)))),(oo 10 (.bin .xor (.s 5) (.s 9))),(oo 11 (.nilchk (.s 3))),⟨none,none,(.st 1 (.s 11) (.s 10))⟩] [(0,(false,[])),(1,(false,[])),(2,(false,[])),(3,(false,[])),(4,(false,[])),(5,(false,[])),(6,(false,[])),(7,(false,[])),(8,(false,[])),(9,(true,[]))]) (.seq (.regD [(oo 12 (.mov (.s 0))),(oo 13 (.nilchk (.s 12))),(oo 14 (.ld none (.s 13))),(oo 15 (.mov (.s 0))),(oo 16 (.nilchk (.s 15))),(oo 17 (.ld none (.s 16))),(oo 18 (.bin .shr (.s 17) (.c (.int .u64 7)))),(oo 19 (.bin .xor (.s 14) (.s 18))),(oo 20 (.nilchk (.s 12))),⟨none,none,(.st 1 (.s 20) (.s 19))⟩] [(0,(false,[])),(1,(false,[])),(2,(false,[])),(3,(false,[])),(4,(false,[])),(5,(false,[])),(6,(false,[])),(7,(false,[])),(8,(false,[])),(9,(true,[]))]) (.seq (.regD [(oo 21 (.mov (.s 0))),(oo 22 (.nilchk (.s 21))),(oo 23 (.ld none (.s 22))),(oo 24 (.mov (.s 0))),(oo 25 (.nilchk (.s 24))),(oo 26 (.ld none (.s 25))),(oo 27 (.bin .shl (.s 26) (.c (.int .u64 17)))),(oo 28 (.bin .xor (.s 23) (.s 27))),(oo 29 (.nilchk (.s 21))),⟨none,none,(.st 1 (.s 29) (.s 28))⟩] [(0,(false,[])),(1,(false,[])),(2,(false,[])),(3,(false,[])),(4,(false,[])),(5,(false,[])),(6,(false,[])),(7,(false,[])),(8,(false,[])),(9,(true,[]))]) (.seq (.reg [(oo 30 (.mov (.s 0))),(oo 31 (.nilchk (.s 30))),(oo 32 (.ld none (.s 31))),(oo 2 (.mov (.s 32)))]) .ret)))))
def F_slices_xorshift_Next (P : Program) (a0 : V) (st : St) (K : V → St → Prop) : Prop :=
 @stpD P (.nilchk (.c a0)) st ⟨fun v4 st =>
 @stpD P (.ld none (.c v4)) st ⟨fun v5 st =>
 @stpD P (.nilchk (.c a0)) st ⟨fun v7 st =>
 @stpD P (.ld none (.c v7)) st ⟨fun v8 st =>
 @stpD P (.bin .shl (.c v8) (.c (.int .u64 13))) st ⟨fun v9 st =>
 @stpD P (.bin .xor (.c v5) (.c v9)) st ⟨fun v10 st =>
 @stpD P (.nilchk (.c a0)) st ⟨fun v11 st =>
 @stpD P (.st 1 (.c v11) (.c v10)) st ⟨fun _v st =>
 @stpD P (.nilchk (.c a0)) st ⟨fun v13 st =>
 @stpD P (.ld none (.c v13)) st ⟨fun v14 st =>
 @stpD P (.nilchk (.c a0)) st ⟨fun v16 st =>
 @stpD P (.ld none (.c v16)) st ⟨fun v17 st =>
 @stpD P (.bin .shr (.c v17) (.c (.int .u64 7))) st ⟨fun v18 st =>
 @stpD P (.bin .xor (.c v14) (.c v18)) st ⟨fun v19 st =>
 @stpD P (.nilchk (.c a0)) st ⟨fun v20 st =>
 @stpD P (.st 1 (.c v20) (.c v19)) st ⟨fun _v st =>
 @stpD P (.nilchk (.c a0)) st ⟨fun v22 st =>
 @stpD P (.ld none (.c v22)) st ⟨fun v23 st =>
 @stpD P (.nilchk (.c a0)) st ⟨fun v25 st =>
 @stpD P (.ld none (.c v25)) st ⟨fun v26 st =>
 @stpD P (.bin .shl (.c v26) (.c (.int .u64 17))) st ⟨fun v27 st =>
 @stpD P (.bin .xor (.c v23) (.c v27)) st ⟨fun v28 st =>
 @stpD P (.nilchk (.c a0)) st ⟨fun v29 st =>
 @stpD P (.st 1 (.c v29) (.c v28)) st ⟨fun _v st =>
 @stp P (.nilchk (.c a0)) st ⟨fun v31 st =>
 @stp P (.ld none (.c v31)) st ⟨fun v32 st =>
 GhostV [v32] st fun vs st => K (mkres vs) st⟩⟩⟩⟩⟩⟩⟩⟩⟩⟩⟩⟩⟩⟩⟩⟩⟩⟩⟩⟩⟩⟩⟩⟩⟩⟩
theorem q_slices_xorshift_Next {P : Program} {a0 : V} {st : St} {K : V → St → Prop} : F_slices_xorshift_Next P a0 st K = hwp P c_slices_xorshift_Next (hretQ [.tmp 2] K) (enterFr [a0]) st := by kernel_rfl
abbrev R_slices_xorshift_Next (P : Program) : Prop := resFnH P n_slices_xorshift_Next = some (33, c_slices_xorshift_Next.er, [.tmp 2])
theorem A_slices_xorshift_Next {P : Program} (h : R_slices_xorshift_Next P) {a0 : V} {st : St} {K : V → St → Prop} (hF : F_slices_xorshift_Next P a0 st K) : ACalls P n_slices_xorshift_Next [a0] st K :=
  ACalls_h h rfl (by simp) (q_slices_xorshift_Next ▸ hF)

def c_slices_medianAdjacentOrdered_uint64 : ACode := (.seq (.reg [(oo 6 (.mov (.c (.int .i64 0))))]) (.seq (.reg [(oo 7 (.mov (.s 0))),(oo 8 (.mov (.s 1))),(oo 9 (.bin .sub (.s 8) (.c (.int .i64 1)))),(oo 10 (.mov (.s 1))),(oo 11 (.mov (.s 1))),(oo 12 (.bin .add (.s 11) (.c (.int .i64 1)))),(oo 13 (.mov (.s 2))),(oo 14 (.call (fx n_slices_medianOrdered_uint64) [(.s 7),(.s 9),(.s 10),(.s 12),(.s 13)])),(oo 6 (.mov (.s 14)))]) .ret))
def F_slices_medianAdjacentOrdered_uint64 (P : Program) (a0 a1 a2 : V) (st : St) (K : V → St → Prop) : Prop :=
 @stp P (.bin .sub (.c a1) (.c (.int .i64 1))) st ⟨fun v9 st =>
 @stp P (.bin .add (.c a1) (.c (.int .i64 1))) st ⟨fun v12 st =>
 @stp P (.call (.c (.fn (.func n_slices_medianOrdered_uint64) [] [])) [(.c a0),(.c v9),(.c a1),(.c v12),(.c a2)]) st ⟨fun v14 st =>
 GhostV [v14] st fun vs st => K (mkres vs) st⟩⟩⟩
theorem q_slices_medianAdjacentOrdered_uint64 {P : Program} {a0 a1 a2 : V} {st : St} {K : V → St → Prop} : F_slices_medianAdjacentOrdered_uint64 P a0 a1 a2 st K = hwp P c_slices_medianAdjacentOrdered_uint64 (hretQ [.tmp 6] K) (enterFr [a0, a1, a2]) st := by kernel_rfl
abbrev R_slices_medianAdjacentOrdered_uint64 (P : Program) : Prop := resFnH P n_slices_medianAdjacentOrdered_uint64 = some (15, c_slices_medianAdjacentOrdered_uint64.er, [.tmp 6])
theorem A_slices_medianAdjacentOrdered_uint64 {P : Program} (h : R_slices_medianAdjacentOrdered_uint64 P) {a0 a1 a2 : V} {st : St} {K : V → St → Prop} (hF : F_slices_medianAdjacentOrdered_uint64 P a0 a1 a2 st K) : ACalls P n_slices_medianAdjacentOrdered_uint64 [a0, a1, a2] st K :=
  ACalls_h h rfl (by simp) (q_slices_medianAdjacentOrdered_uint64 ▸ hF)

def c_slices_medianOrdered_uint64 : ACode := (.seq (.reg [(oo 10 (.mov (.c (.int .i64 0))))]) (.seq (.reg [(oo 12 (.mov (.s 0))),(oo 13 (.mov (.s 1))),(oo 14 (.mov (.s 2))),(oo 15 (.mov (.s 4))),(oo 16 (.call (fx n_slices_order2Ordered_uint64) [(.s 12),(.s 13),(.s 14),(.s 15)])),(oo 11 (.mov (.s 16))),(oo 17 (.ext 0 (.s 11))),(oo 18 (.ext 1 (.s 11))),(oo 1 (.mov (.s 17))),(oo 2 (.mov (.s 18)))]) (.seq (.reg [(oo 20 (.mov (.s 0))),(oo 21 (.mov (.s 2))),(oo 22 (.mov (.s 3))),(oo 23 (.mov (.s 4))),(oo 24 (.call (fx n_slices_order2Ordered_uint64) [(.s 20),(.s 21),(.s 22),(.s 23)])),(oo 19 (.mov (.s 24))),(oo 25 (.ext 0 (.s 19))),(oo 26 (.ext 1 (.s 19))),(oo 2 (.mov (.s 25))),(oo 3 (.mov (.s 26)))]) (.seq (.reg [(oo 28 (.mov (.s 0))),(oo 29 (.mov (.s 1))),(oo 30 (.mov (.s 2))),(oo 31 (.mov (.s 4))),(oo 32 (.call (fx n_slices_order2Ordered_uint64) [(.s 28),(.s 29),(.s 30),(.s 31)])),(oo 27 (.mov (.s 32))),(oo 33 (.ext 0 (.s 27))),(oo 34 (.ext 1 (.s 27))),(oo 1 (.mov (.s 33))),(oo 2 (.mov (.s 34)))]) (.seq (.reg [(oo 35 (.mov (.s 2))),(oo 10 (.mov (.s 35)))]) .ret)))))
def F_slices_medianOrdered_uint64 (P : Program) (a0 a1 a2 a3 a4 : V) (st : St) (K : V → St → Prop) : Prop :=
 @stp P (.call (.c (.fn (.func n_slices_order2Ordered_uint64) [] [])) [(.c a0),(.c a1),(.c a2),(.c a4)]) st ⟨fun v16 st =>
 @stp P (.ext 0 (.c v16)) st ⟨fun v17 st =>
 @stp P (.ext 1 (.c v16)) st ⟨fun v18 st =>
 @stp P (.call (.c (.fn (.func n_slices_order2Ordered_uint64) [] [])) [(.c a0),(.c v18),(.c a3),(.c a4)]) st ⟨fun v24 st =>
 @stp P (.ext 0 (.c v24)) st ⟨fun v25 st =>
 @stp P (.ext 1 (.c v24)) st ⟨fun v26 st =>
 @stp P (.call (.c (.fn (.func n_slices_order2Ordered_uint64) [] [])) [(.c a0),(.c v17),(.c v25),(.c a4)]) st ⟨fun v32 st =>
 @stp P (.ext 0 (.c v32)) st ⟨fun v33 st =>
 @stp P (.ext 1 (.c v32)) st ⟨fun v34 st =>
 GhostV [v34] st fun vs st => K (mkres vs) st⟩⟩⟩⟩⟩⟩⟩⟩⟩
theorem q_slices_medianOrdered_uint64 {P : Program} {a0 a1 a2 a3 a4 : V} {st : St} {K : V → St → Prop} : F_slices_medianOrdered_uint64 P a0 a1 a2 a3 a4 st K = hwp P c_slices_medianOrdered_uint64 (hretQ [.tmp 10] K) (enterFr [a0, a1, a2, a3, a4]) st := by kernel_rfl
abbrev R_slices_medianOrdered_uint64 (P : Program) : Prop := resFnH P n_slices_medianOrdered_uint64 = some (36, c_slices_medianOrdered_uint64.er, [.tmp 10])
theorem A_slices_medianOrdered_uint64 {P : Program} (h : R_slices_medianOrdered_uint64 P) {a0 a1 a2 a3 a4 : V} {st : St} {K : V → St → Prop} (hF : F_slices_medianOrdered_uint64 P a0 a1 a2 a3 a4 st K) : ACalls P n_slices_medianOrdered_uint64 [a0, a1, a2, a3, a4] st K :=
  ACalls_h h rfl (by simp) (q_slices_medianOrdered_uint64 ▸ hF)

def c_slices_order2Ordered_uint64 : ACode := (.seq (.reg [(oo 8 (.mov (.c (.int .i64 0)))),(oo 9 (.mov (.c (.int .i64 0))))]) (.seq (.seq (.regD [(oo 10 (.mov (.s 0))),(oo 11 (.mov (.s 2))),(oo 12 (.idx 1 (.s 10) (.s 11))),(oo 13 (.ld none (.s 12))),(oo 14 (.mov (.s 0))),(oo 15 (.mov (.s 1))),(oo 16 (.idx 1 (.s 14) (.s 15))),(oo 17 (.ld none (.s 16))),(oo 18 (.call (fx n_cmp_Less_uint64) [(.s 13),(.s 17)]))] [(0,(false,[])),(1,(false,[])),(2,(false,[])),(3,(false,[])),(4,(false,[])),(5,(false,[])),(6,(false,[])),(7,(false,[])),(8,(true,[]))]) (.cond (.s 18) (.seq (.reg [(oo 19 (.mov (.s 3))),(oo 20 (.nilchk (.s 19))),(oo 21 (.ld none (.s 20))),(oo 22 (.bin .add (.s 21) (.c (.int .i64 1)))),(oo 23 (.nilchk (.s 19))),⟨none,none,(.st 1 (.s 23) (.s 22))⟩]) (.seq (.reg [(oo 24 (.mov (.s 2))),(oo 25 (.mov (.s 1))),(oo 8 (.mov (.s 24))),(oo 9 (.mov (.s 25)))]) .ret)) .skip)) (.seq (.reg [(oo 26 (.mov (.s 1))),(oo 27 (.mov (.s 2))),(oo 8 (.mov (.s 26))),(oo 9 (.mov (.s 27)))]) .ret)))
def F_slices_order2Ordered_uint64 (P : Program) (a0 a1 a2 a3 : V) (st : St) (K : V → St → Prop) : Prop :=
 @stpD P (.idx 1 (.c a0) (.c a2)) st ⟨fun v12 st =>
 @stpD P (.ld none (.c v12)) st ⟨fun v13 st =>
 @stpD P (.idx 1 (.c a0) (.c a1)) st ⟨fun v16 st =>
 @stpD P (.ld none (.c v16)) st ⟨fun v17 st =>
 @stpD P (.call (.c (.fn (.func n_cmp_Less_uint64) [] [])) [(.c v13),(.c v17)]) st ⟨fun v18 st =>
 @cnd v18 ⟨
 @stp P (.nilchk (.c a3)) st ⟨fun v20 st =>
 @stp P (.ld none (.c v20)) st ⟨fun v21 st =>
 @stp P (.bin .add (.c v21) (.c (.int .i64 1))) st ⟨fun v22 st =>
 @stp P (.nilchk (.c a3)) st ⟨fun v23 st =>
 @stp P (.st 1 (.c v23) (.c v22)) st ⟨fun _v st =>
 GhostV [a2,a1] st fun vs st => K (mkres vs) st⟩⟩⟩⟩⟩⟩
 ⟨
 GhostV [a1,a2] st fun vs st => K (mkres vs) st⟩⟩⟩⟩⟩⟩
theorem q_slices_order2Ordered_uint64 {P : Program} {a0 a1 a2 a3 : V} {st : St} {K : V → St → Prop} : F_slices_order2Ordered_uint64 P a0 a1 a2 a3 st K = hwp P c_slices_order2Ordered_uint64 (hretQ [.tmp 8, .tmp 9] K) (enterFr [a0, a1, a2, a3]) st := by kernel_rfl
abbrev R_slices_order2Ordered_uint64 (P : Program) : Prop := resFnH P n_slices_order2Ordered_uint64 = some (28, c_slices_order2Ordered_uint64.er, [.tmp 8, .tmp 9])
theorem A_slices_order2Ordered_uint64 {P : Program} (h : R_slices_order2Ordered_uint64 P) {a0 a1 a2 a3 : V} {st : St} {K : V → St → Prop} (hF : F_slices_order2Ordered_uint64 P a0 a1 a2 a3 st K) : ACalls P n_slices_order2Ordered_uint64 [a0, a1, a2, a3] st K :=
  ACalls_h h rfl (by simp) (q_slices_order2Ordered_uint64 ▸ hF)

end Go.Proofs.Ytmbhgjekjpkigaa.AM
