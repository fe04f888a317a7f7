/- The functions of the statement, as code over values (printed), the first half. -/
import Derived.Test.YtmbhgjekjpkigaaAmS2
import Derived.KernelRfl
namespace Go.Proofs.Ytmbhgjekjpkigaa.AM
open Go
set_option linter.unusedVariables false
def n_gazetteerlaw12_RedoDoes : FuncId := 4
def n_gazetteerlaw12_wakes : FuncId := 9
def n_gazetteerlaw12_pages : FuncId := 10
def n_gazetteerlaw12_records : FuncId := 11
def n_redo_All : FuncId := 12
def n_gazetteerref12_Row : FuncId := 13
def n_gazetteerref12_SamePages : FuncId := 15
def n_gazetteerref05_SameRow : FuncId := 16
def n_gazetteerlaw12_spoil : FuncId := 17
def n_redo_Redo : FuncId := 18
def n_redo_Check : FuncId := 19
def n_gazetteerref12_Together : FuncId := 20
def n_gazetteerref12_Redo : FuncId := 21
def n_redo_Open : FuncId := 22
def n_record_CheckRow : FuncId := 27
def n_page_Set : FuncId := 31
def n_gazetteerlaw12_first : FuncId := 32
def n_gazetteerref06_Copy : FuncId := 33
def n_redo_Undo : FuncId := 34
def n_redo_again : FuncId := 35
def n_gazetteerref05_RightRow : FuncId := 36
def n_gazetteerref06_Same : FuncId := 38
def n_gazetteerref05_Same : FuncId := 39
def n_redo_changes : FuncId := 40
def n_page_Check : FuncId := 41
def n_redo_end : FuncId := 42
def n_gazetteerref06_Right : FuncId := 43
def n_gazetteerref12_changes : FuncId := 44
def n_gazetteerref12_last : FuncId := 45
def n_redo_rising_uint64_Open : FuncId := 46
def n_record_Check : FuncId := 49
def n_record_ahead : FuncId := 50
def n_octet_Equal : FuncId := 52
def n_page_at : FuncId := 53
def n_bytes_Clone : FuncId := 54
def n_slices_Clone_Open_Open : FuncId := 55
def n_slices_MinFunc_Open_Open : FuncId := 56
def n_redo_before : FuncId := 57
def n_slices_Index_Open_Open : FuncId := 58
def n_slices_Delete_Open_Open : FuncId := 59
def n_slices_Clone_byte_byte : FuncId := 60
def n_slices_Clone_Page_Page : FuncId := 61
def n_slices_BinarySearchFunc_Page_Page_int : FuncId := 62
def n_redo_again_1 : FuncId := 63
def n_cmp_Compare_int : FuncId := 64
def n_gazetteerref05_Right : FuncId := 65
def n_gazetteerref01_Same : FuncId := 69
def n_page_Check_1 : FuncId := 70
def n_page_numbered : FuncId := 71
def n_slices_ContainsFunc_Lbyte_Lbyte : FuncId := 72
def n_slices_Sorted_uint64 : FuncId := 73
def n_maps_Keys_map_uint64_Open_uint64_Open : FuncId := 74
def n_record_fields : FuncId := 76
def n_record_field_has : FuncId := 77
def n_record_ahead_1 : FuncId := 78
def n_slices_Equal_byte_byte : FuncId := 80
def n_cmp_Or_int : FuncId := 81
def n_cmp_Compare_uint64 : FuncId := 82
def n_cmp_isNaN_int : FuncId := 83
def n_slices_IndexFunc_Lbyte_Lbyte : FuncId := 84
def n_slices_Collect_uint64 : FuncId := 85
def n_slices_Sort_uint64_uint64 : FuncId := 86
def n_maps_Keys_map_uint64_Open_uint64_Open_1 : FuncId := 87
def n_cmp_isNaN_uint64 : FuncId := 89
def n_slices_AppendSeq_uint64_uint64 : FuncId := 90
def n_slices_pdqsortOrdered_uint64 : FuncId := 91
def n_math_bits_Len : FuncId := 92
def n_slices_insertionSortOrdered_uint64 : FuncId := 93
def n_slices_heapSortOrdered_uint64 : FuncId := 94
def n_slices_breakPatternsOrdered_uint64 : FuncId := 95
def n_slices_choosePivotOrdered_uint64 : FuncId := 96
def n_slices_reverseRangeOrdered_uint64 : FuncId := 97
def n_slices_partialInsertionSortOrdered_uint64 : FuncId := 98
def n_cmp_Less_uint64 : FuncId := 99
def n_slices_partitionEqualOrdered_uint64 : FuncId := 100
def n_slices_partitionOrdered_uint64 : FuncId := 101
def n_math_bits_Len32 : FuncId := 102
def n_math_bits_Len64 : FuncId := 103
def n_slices_siftDownOrdered_uint64 : FuncId := 104
def n_slices_nextPowerOfTwo : FuncId := 105
def n_slices_xorshift_Next : FuncId := 106
def n_slices_medianAdjacentOrdered_uint64 : FuncId := 107
def n_slices_medianOrdered_uint64 : FuncId := 108
def n_slices_order2Ordered_uint64 : FuncId := 109

/-- An operation whose value goes to a slot. -/
abbrev oo (d : Nat) (r : RO) : ROp := ⟨some d, none, r⟩
abbrev fx (n : FuncId) : X := .c (.fn (.func n) [] [])
abbrev nx0 : X := .c (.sl .nil 0 [] [])
abbrev zrR : List V := [(.int .u64 0), (.int .i64 0), (.int .u64 0), (.int .u64 0), (.int .i64 0), (.int .i64 0), (.sl .nil 0 [] []), (.sl .nil 0 [] []), (.int .u64 0)]
abbrev zrP : List V := [(.int .i64 0), (.int .u64 0), (.sl .nil 0 [] []), (.sl .nil 0 [] []), (.sl .nil 0 [] []), (.sl .nil 0 [] [])]
def c_gazetteerlaw12_RedoDoes : ACode := (.seq (.reg [(oo 4 (.mov (.c (.bool false))))]) (.seq (.seq (.reg [(oo 13 (.call (fx n_gazetteerlaw12_wakes) [])),(oo 14 (.un .not (.s 13)))]) (.cond (.s 14) (.seq (.reg [(oo 4 (.mov (.c (.bool false))))]) .ret) .skip)) (.seq (.reg [(oo 15 (.mov (.s 0))),(oo 16 (.call (fx n_gazetteerlaw12_pages) [(.s 15)])),(oo 17 (.mov (.s 1))),(oo 18 (.call (fx n_gazetteerlaw12_records) [(.s 17)])),(oo 5 (.mov (.s 16))),(oo 6 (.mov (.s 18)))]) (.seq (.reg [(oo 19 (.mov (.s 0))),(oo 20 (.call (fx n_gazetteerlaw12_pages) [(.s 19)])),(oo 21 (.mov (.s 1))),(oo 22 (.call (fx n_gazetteerlaw12_records) [(.s 21)])),(oo 7 (.mov (.s 20))),(oo 8 (.mov (.s 22)))]) (.seq (.reg [(oo 24 (.mov (.s 5))),(oo 25 (.mov (.s 6))),(oo 26 (.call (fx n_redo_Redo) [(.s 24),(.s 25)])),(oo 23 (.mov (.s 26))),(oo 27 (.ext 0 (.s 23))),(oo 28 (.ext 1 (.s 23))),(oo 9 (.mov (.s 27))),(oo 10 (.mov (.s 28)))]) (.seq (.reg [(oo 29 (.mov (.s 5))),(oo 30 (.mov (.s 6))),(oo 31 (.call (fx n_redo_Check) [(.s 29),(.s 30)])),(oo 11 (.mov (.s 31)))]) (.seq (.seq (.reg [(oo 32 (.mov (.s 5))),(oo 33 (.mov (.s 7))),(oo 34 (.call (fx n_gazetteerref12_SamePages) [(.s 32),(.s 33)])),(oo 35 (.un .not (.s 34))),(oo 36 (.mov (.s 35))),⟨(some 37),(some (36,false)),(.mov (.s 6))⟩,⟨(some 38),(some (36,false)),(.mov (.s 8))⟩,⟨(some 39),(some (36,false)),(.call (fx n_gazetteerref05_SameRow) [(.s 37),(.s 38)])⟩,⟨(some 40),(some (36,false)),(.un .not (.s 39))⟩,(oo 41 (.pick (.s 36) (.c (.bool true)) (.s 40)))]) (.cond (.s 41) (.seq (.reg [(oo 4 (.mov (.c (.bool false))))]) .ret) .skip)) (.seq (.reg [(oo 42 (.mov (.s 8))),(oo 43 (.call (fx n_gazetteerref12_Row) [(.s 42)])),(oo 12 (.mov (.s 43)))]) (.join [12] [12,44,45,46,47,48,49,50,51] (.seq (.reg [(oo 44 (.mov (.s 12))),(oo 45 (.bin .eql (.s 44) (.c (.int .i64 0)))),(oo 46 (.mov (.s 45))),⟨(some 47),(some (46,true)),(.mov (.s 7))⟩,⟨(some 48),(some (46,true)),(.mov (.s 8))⟩,⟨(some 49),(some (46,true)),(.call (fx n_gazetteerref12_Together) [(.s 47),(.s 48)])⟩,⟨(some 50),(some (46,true)),(.un .not (.s 49))⟩,(oo 51 (.pick (.s 46) (.s 50) (.c (.bool false))))]) (.cond (.s 51) (.reg [(oo 12 (.mov (.c (.int .i64 220))))]) .skip)) (.seq (.seq (.reg [(oo 52 (.mov (.s 12))),(oo 53 (.bin .neq (.s 52) (.c (.int .i64 0))))]) (.cond (.s 53) (.seq (.reg [(oo 54 (.mov (.s 10))),(oo 55 (.mov (.s 12))),(oo 56 (.bin .eql (.s 54) (.s 55))),(oo 57 (.mov (.s 56))),⟨(some 58),(some (57,true)),(.mov (.s 11))⟩,⟨(some 59),(some (57,true)),(.mov (.s 12))⟩,⟨(some 60),(some (57,true)),(.bin .eql (.s 58) (.s 59))⟩,(oo 61 (.pick (.s 57) (.s 60) (.c (.bool false)))),(oo 62 (.mov (.s 61))),⟨(some 63),(some (62,true)),(.mov (.s 9))⟩,⟨(some 64),(some (62,true)),(.len .sl (.s 63))⟩,⟨(some 65),(some (62,true)),(.bin .eql (.s 64) (.c (.int .i64 0)))⟩,(oo 66 (.pick (.s 62) (.s 65) (.c (.bool false)))),(oo 4 (.mov (.s 66)))]) .ret) .skip)) (.seq (.seq (.reg [(oo 67 (.mov (.s 10))),(oo 68 (.bin .neq (.s 67) (.c (.int .i64 0)))),(oo 69 (.mov (.s 68))),⟨(some 70),(some (69,false)),(.mov (.s 11))⟩,⟨(some 71),(some (69,false)),(.bin .neq (.s 70) (.c (.int .i64 0)))⟩,(oo 72 (.pick (.s 69) (.c (.bool true)) (.s 71))),(oo 73 (.mov (.s 72))),⟨(some 74),(some (73,false)),(.mov (.s 9))⟩,⟨(some 75),(some (73,false)),(.mov (.s 7))⟩,⟨(some 76),(some (73,false)),(.mov (.s 8))⟩,⟨(some 77),(some (73,false)),(.call (fx n_gazetteerref12_Redo) [(.s 75),(.s 76)])⟩,⟨(some 78),(some (73,false)),(.call (fx n_gazetteerref12_SamePages) [(.s 74),(.s 77)])⟩,⟨(some 79),(some (73,false)),(.un .not (.s 78))⟩,(oo 80 (.pick (.s 73) (.c (.bool true)) (.s 79)))]) (.cond (.s 80) (.seq (.reg [(oo 4 (.mov (.c (.bool false))))]) .ret) .skip)) (.seq (.reg [(oo 81 (.mov (.s 9))),(oo 82 (.call (fx n_gazetteerlaw12_spoil) [(.s 81),nx0]))]) (.seq (.reg [(oo 83 (.mov (.s 5))),(oo 84 (.mov (.s 7))),(oo 85 (.call (fx n_gazetteerref12_SamePages) [(.s 83),(.s 84)])),(oo 86 (.mov (.s 85))),⟨(some 87),(some (86,true)),(.mov (.s 6))⟩,⟨(some 88),(some (86,true)),(.mov (.s 8))⟩,⟨(some 89),(some (86,true)),(.call (fx n_gazetteerref05_SameRow) [(.s 87),(.s 88)])⟩,(oo 90 (.pick (.s 86) (.s 89) (.c (.bool false)))),(oo 4 (.mov (.s 90)))]) .ret)))))))))))))
def F_gazetteerlaw12_RedoDoes (P : Program) (a0 a1 : V) (st : St) (K : V → St → Prop) : Prop :=
 @stp P (.call (.c (.fn (.func n_gazetteerlaw12_wakes) [] [])) []) st ⟨fun v13 st =>
 @stp P (.un .not (.c v13)) st ⟨fun v14 st =>
 @cnd v14 ⟨
 GhostV [(.bool false)] st fun vs st => K (mkres vs) st⟩
 ⟨
 @stp P (.call (.c (.fn (.func n_gazetteerlaw12_pages) [] [])) [(.c a0)]) st ⟨fun v16 st =>
 @stp P (.call (.c (.fn (.func n_gazetteerlaw12_records) [] [])) [(.c a1)]) st ⟨fun v18 st =>
 @stp P (.call (.c (.fn (.func n_gazetteerlaw12_pages) [] [])) [(.c a0)]) st ⟨fun v20 st =>
 @stp P (.call (.c (.fn (.func n_gazetteerlaw12_records) [] [])) [(.c a1)]) st ⟨fun v22 st =>
 @stp P (.call (.c (.fn (.func n_redo_Redo) [] [])) [(.c v16),(.c v18)]) st ⟨fun v26 st =>
 @stp P (.ext 0 (.c v26)) st ⟨fun v27 st =>
 @stp P (.ext 1 (.c v26)) st ⟨fun v28 st =>
 @stp P (.call (.c (.fn (.func n_redo_Check) [] [])) [(.c v16),(.c v18)]) st ⟨fun v31 st =>
 @stp P (.call (.c (.fn (.func n_gazetteerref12_SamePages) [] [])) [(.c v16),(.c v20)]) st ⟨fun v34 st =>
 @stp P (.un .not (.c v34)) st ⟨fun v35 st =>
 @gst P v35 false (.mov (.c v18)) st ⟨fun v37 st =>
 @gst P v35 false (.mov (.c v22)) st ⟨fun v38 st =>
 @gst P v35 false (.call (.c (.fn (.func n_gazetteerref05_SameRow) [] [])) [(.c v37),(.c v38)]) st ⟨fun v39 st =>
 @gst P v35 false (.un .not (.c v39)) st ⟨fun v40 st =>
 @stp P (.pick (.c v35) (.c (.bool true)) (.c v40)) st ⟨fun v41 st =>
 @cnd v41 ⟨
 GhostV [(.bool false)] st fun vs st => K (mkres vs) st⟩
 ⟨
 @stp P (.call (.c (.fn (.func n_gazetteerref12_Row) [] [])) [(.c v22)]) st ⟨fun v43 st =>
 @Hold ⟨∃ J1 : Rel 1,(
 @stp P (.bin .eql (.c v43) (.c (.int .i64 0))) st ⟨fun v45 st =>
 @gst P v45 true (.mov (.c v20)) st ⟨fun v47 st =>
 @gst P v45 true (.mov (.c v22)) st ⟨fun v48 st =>
 @gst P v45 true (.call (.c (.fn (.func n_gazetteerref12_Together) [] [])) [(.c v47),(.c v48)]) st ⟨fun v49 st =>
 @gst P v45 true (.un .not (.c v49)) st ⟨fun v50 st =>
 @stp P (.pick (.c v45) (.c v50) (.c (.bool false))) st ⟨fun v51 st =>
 @cnd v51 ⟨
 GhostV [(.int .i64 220)] st (app J1)⟩
 ⟨
 GhostV [v43] st (app J1)⟩⟩⟩⟩⟩⟩⟩) ∧
 ∀ v12 st,app J1 [v12] st →
 @stp P (.bin .neq (.c v12) (.c (.int .i64 0))) st ⟨fun v53 st =>
 @cnd v53 ⟨
 @stp P (.bin .eql (.c v28) (.c v12)) st ⟨fun v56 st =>
 @gst P v56 true (.mov (.c v31)) st ⟨fun v58 st =>
 @gst P v56 true (.mov (.c v12)) st ⟨fun v59 st =>
 @gst P v56 true (.bin .eql (.c v58) (.c v59)) st ⟨fun v60 st =>
 @stp P (.pick (.c v56) (.c v60) (.c (.bool false))) st ⟨fun v61 st =>
 @gst P v61 true (.mov (.c v27)) st ⟨fun v63 st =>
 @gst P v61 true (.len .sl (.c v63)) st ⟨fun v64 st =>
 @gst P v61 true (.bin .eql (.c v64) (.c (.int .i64 0))) st ⟨fun v65 st =>
 @stp P (.pick (.c v61) (.c v65) (.c (.bool false))) st ⟨fun v66 st =>
 GhostV [v66] st fun vs st => K (mkres vs) st⟩⟩⟩⟩⟩⟩⟩⟩⟩⟩
 ⟨
 @stp P (.bin .neq (.c v28) (.c (.int .i64 0))) st ⟨fun v68 st =>
 @gst P v68 false (.mov (.c v31)) st ⟨fun v70 st =>
 @gst P v68 false (.bin .neq (.c v70) (.c (.int .i64 0))) st ⟨fun v71 st =>
 @stp P (.pick (.c v68) (.c (.bool true)) (.c v71)) st ⟨fun v72 st =>
 @gst P v72 false (.mov (.c v27)) st ⟨fun v74 st =>
 @gst P v72 false (.mov (.c v20)) st ⟨fun v75 st =>
 @gst P v72 false (.mov (.c v22)) st ⟨fun v76 st =>
 @gst P v72 false (.call (.c (.fn (.func n_gazetteerref12_Redo) [] [])) [(.c v75),(.c v76)]) st ⟨fun v77 st =>
 @gst P v72 false (.call (.c (.fn (.func n_gazetteerref12_SamePages) [] [])) [(.c v74),(.c v77)]) st ⟨fun v78 st =>
 @gst P v72 false (.un .not (.c v78)) st ⟨fun v79 st =>
 @stp P (.pick (.c v72) (.c (.bool true)) (.c v79)) st ⟨fun v80 st =>
 @cnd v80 ⟨
 GhostV [(.bool false)] st fun vs st => K (mkres vs) st⟩
 ⟨
 @stp P (.call (.c (.fn (.func n_gazetteerlaw12_spoil) [] [])) [(.c v27),(.c (.sl .nil 0 [] []))]) st ⟨fun v82 st =>
 @stp P (.call (.c (.fn (.func n_gazetteerref12_SamePages) [] [])) [(.c v16),(.c v20)]) st ⟨fun v85 st =>
 @gst P v85 true (.mov (.c v18)) st ⟨fun v87 st =>
 @gst P v85 true (.mov (.c v22)) st ⟨fun v88 st =>
 @gst P v85 true (.call (.c (.fn (.func n_gazetteerref05_SameRow) [] [])) [(.c v87),(.c v88)]) st ⟨fun v89 st =>
 @stp P (.pick (.c v85) (.c v89) (.c (.bool false))) st ⟨fun v90 st =>
 GhostV [v90] st fun vs st => K (mkres vs) st⟩⟩⟩⟩⟩⟩⟩⟩⟩⟩⟩⟩⟩⟩⟩⟩⟩⟩⟩⟩⟩⟩⟩⟩⟩⟩⟩⟩⟩⟩⟩⟩⟩⟩⟩⟩⟩⟩⟩⟩⟩
theorem q_gazetteerlaw12_RedoDoes {P : Program} {a0 a1 : V} {st : St} {K : V → St → Prop} : F_gazetteerlaw12_RedoDoes P a0 a1 st K = hwp P c_gazetteerlaw12_RedoDoes (hretQ [.tmp 4] K) (enterFr [a0, a1]) st := by kernel_rfl
abbrev R_gazetteerlaw12_RedoDoes (P : Program) : Prop := resFnH P n_gazetteerlaw12_RedoDoes = some (91, c_gazetteerlaw12_RedoDoes.er, [.tmp 4])
theorem A_gazetteerlaw12_RedoDoes {P : Program} (h : R_gazetteerlaw12_RedoDoes P) {a0 a1 : V} {st : St} {K : V → St → Prop} (hF : F_gazetteerlaw12_RedoDoes P a0 a1 st K) : ACalls P n_gazetteerlaw12_RedoDoes [a0, a1] st K :=
  ACalls_h h rfl (by simp) (q_gazetteerlaw12_RedoDoes ▸ hF)

def c_gazetteerlaw12_wakes : ACode := (.seq (.reg [(oo 0 (.mov (.c (.bool false))))]) (.seq (.reg [(oo 5 (.build zrP [])),(oo 6 (.mkSl 6 1 zrP [(0,(.s 5))])),(oo 7 (.call (fx n_gazetteerlaw12_first) [])),(oo 8 (.call (fx n_redo_All) [(.s 6),(.s 7),(.c (.int .u64 4))])),(oo 4 (.mov (.s 8))),(oo 9 (.ext 0 (.s 4))),(oo 10 (.ext 1 (.s 4))),(oo 11 (.ext 2 (.s 4))),(oo 1 (.mov (.s 9))),(oo 2 (.mov (.s 10))),(oo 3 (.mov (.s 11)))]) (.seq (.reg [(oo 12 (.mov (.s 3))),(oo 13 (.bin .eql (.s 12) (.c (.int .i64 0)))),(oo 14 (.mov (.s 13))),⟨(some 15),(some (14,true)),(.mov (.s 1))⟩,⟨(some 16),(some (14,true)),(.len .sl (.s 15))⟩,⟨(some 17),(some (14,true)),(.bin .eql (.s 16) (.c (.int .i64 1)))⟩,(oo 18 (.pick (.s 14) (.s 17) (.c (.bool false)))),(oo 19 (.mov (.s 18))),⟨(some 20),(some (19,true)),(.mov (.s 1))⟩,⟨(some 21),(some (19,true)),(.idx 6 (.s 20) (.c (.int .i64 0)))⟩,⟨(some 22),(some (19,true)),(.fld 1 (.s 21))⟩,⟨(some 23),(some (19,true)),(.ld none (.s 22))⟩,⟨(some 24),(some (19,true)),(.bin .eql (.s 23) (.c (.int .u64 4)))⟩,(oo 25 (.pick (.s 19) (.s 24) (.c (.bool false)))),(oo 26 (.mov (.s 25))),⟨(some 27),(some (26,true)),(.mov (.s 1))⟩,⟨(some 28),(some (26,true)),(.idx 6 (.s 27) (.c (.int .i64 0)))⟩,⟨(some 29),(some (26,true)),(.fld 2 (.s 28))⟩,⟨(some 30),(some (26,true)),(.idxA 4 1 (.s 29) (.c (.int .i64 0)))⟩,⟨(some 31),(some (26,true)),(.ld none (.s 30))⟩,⟨(some 32),(some (26,true)),(.len .sl (.s 31))⟩,⟨(some 33),(some (26,true)),(.bin .eql (.s 32) (.c (.int .i64 1)))⟩,(oo 34 (.pick (.s 26) (.s 33) (.c (.bool false)))),(oo 35 (.mov (.s 34))),⟨(some 36),(some (35,true)),(.mov (.s 1))⟩,⟨(some 37),(some (35,true)),(.idx 6 (.s 36) (.c (.int .i64 0)))⟩,⟨(some 38),(some (35,true)),(.fld 2 (.s 37))⟩,⟨(some 39),(some (35,true)),(.idxA 4 1 (.s 38) (.c (.int .i64 1)))⟩,⟨(some 40),(some (35,true)),(.ld none (.s 39))⟩,⟨(some 41),(some (35,true)),(.len .sl (.s 40))⟩,⟨(some 42),(some (35,true)),(.bin .eql (.s 41) (.c (.int .i64 0)))⟩,(oo 43 (.pick (.s 35) (.s 42) (.c (.bool false)))),(oo 44 (.mov (.s 43))),⟨(some 45),(some (44,true)),(.mov (.s 2))⟩,⟨(some 46),(some (44,true)),(.len .sl (.s 45))⟩,⟨(some 47),(some (44,true)),(.bin .eql (.s 46) (.c (.int .i64 2)))⟩,(oo 48 (.pick (.s 44) (.s 47) (.c (.bool false)))),(oo 49 (.mov (.s 48))),⟨(some 50),(some (49,true)),(.mov (.s 2))⟩,⟨(some 51),(some (49,true)),(.idx 9 (.s 50) (.c (.int .i64 1)))⟩,⟨(some 52),(some (49,true)),(.fld 1 (.s 51))⟩,⟨(some 53),(some (49,true)),(.ld none (.s 52))⟩,⟨(some 54),(some (49,true)),(.bin .eql (.s 53) (.c (.int .i64 4)))⟩,(oo 55 (.pick (.s 49) (.s 54) (.c (.bool false)))),(oo 56 (.mov (.s 55))),⟨(some 57),(some (56,true)),(.mov (.s 2))⟩,⟨(some 58),(some (56,true)),(.idx 9 (.s 57) (.c (.int .i64 1)))⟩,⟨(some 59),(some (56,true)),(.fld 3 (.s 58))⟩,⟨(some 60),(some (56,true)),(.ld none (.s 59))⟩,⟨(some 61),(some (56,true)),(.bin .eql (.s 60) (.c (.int .u64 4)))⟩,(oo 62 (.pick (.s 56) (.s 61) (.c (.bool false)))),(oo 0 (.mov (.s 62)))]) .ret)))
def F_gazetteerlaw12_wakes (P : Program) (st : St) (K : V → St → Prop) : Prop :=
 @stp P (.build [(.int .i64 0),(.int .u64 0),(.sl .nil 0 [] []),(.sl .nil 0 [] []),(.sl .nil 0 [] []),(.sl .nil 0 [] [])] []) st ⟨fun v5 st =>
 @stp P (.mkSl 6 1 [(.int .i64 0),(.int .u64 0),(.sl .nil 0 [] []),(.sl .nil 0 [] []),(.sl .nil 0 [] []),(.sl .nil 0 [] [])] [(0,(.c v5))]) st ⟨fun v6 st =>
 @stp P (.call (.c (.fn (.func n_gazetteerlaw12_first) [] [])) []) st ⟨fun v7 st =>
 @stp P (.call (.c (.fn (.func n_redo_All) [] [])) [(.c v6),(.c v7),(.c (.int .u64 4))]) st ⟨fun v8 st =>
 @stp P (.ext 0 (.c v8)) st ⟨fun v9 st =>
 @stp P (.ext 1 (.c v8)) st ⟨fun v10 st =>
 @stp P (.ext 2 (.c v8)) st ⟨fun v11 st =>
 @stp P (.bin .eql (.c v11) (.c (.int .i64 0))) st ⟨fun v13 st =>
 @gst P v13 true (.mov (.c v9)) st ⟨fun v15 st =>
 @gst P v13 true (.len .sl (.c v15)) st ⟨fun v16 st =>
 @gst P v13 true (.bin .eql (.c v16) (.c (.int .i64 1))) st ⟨fun v17 st =>
 @stp P (.pick (.c v13) (.c v17) (.c (.bool false))) st ⟨fun v18 st =>
 @gst P v18 true (.mov (.c v9)) st ⟨fun v20 st =>
 @gst P v18 true (.idx 6 (.c v20) (.c (.int .i64 0))) st ⟨fun v21 st =>
 @gst P v18 true (.fld 1 (.c v21)) st ⟨fun v22 st =>
 @gst P v18 true (.ld none (.c v22)) st ⟨fun v23 st =>
 @gst P v18 true (.bin .eql (.c v23) (.c (.int .u64 4))) st ⟨fun v24 st =>
 @stp P (.pick (.c v18) (.c v24) (.c (.bool false))) st ⟨fun v25 st =>
 @gst P v25 true (.mov (.c v9)) st ⟨fun v27 st =>
 @gst P v25 true (.idx 6 (.c v27) (.c (.int .i64 0))) st ⟨fun v28 st =>
 @gst P v25 true (.fld 2 (.c v28)) st ⟨fun v29 st =>
 @gst P v25 true (.idxA 4 1 (.c v29) (.c (.int .i64 0))) st ⟨fun v30 st =>
 @gst P v25 true (.ld none (.c v30)) st ⟨fun v31 st =>
 @gst P v25 true (.len .sl (.c v31)) st ⟨fun v32 st =>
 @gst P v25 true (.bin .eql (.c v32) (.c (.int .i64 1))) st ⟨fun v33 st =>
 @stp P (.pick (.c v25) (.c v33) (.c (.bool false))) st ⟨fun v34 st =>
 @gst P v34 true (.mov (.c v9)) st ⟨fun v36 st =>
 @gst P v34 true (.idx 6 (.c v36) (.c (.int .i64 0))) st ⟨fun v37 st =>
 @gst P v34 true (.fld 2 (.c v37)) st ⟨fun v38 st =>
 @gst P v34 true (.idxA 4 1 (.c v38) (.c (.int .i64 1))) st ⟨fun v39 st =>
 @gst P v34 true (.ld none (.c v39)) st ⟨fun v40 st =>
 @gst P v34 true (.len .sl (.c v40)) st ⟨fun v41 st =>
 @gst P v34 true (.bin .eql (.c v41) (.c (.int .i64 0))) st ⟨fun v42 st =>
 @stp P (.pick (.c v34) (.c v42) (.c (.bool false))) st ⟨fun v43 st =>
 @gst P v43 true (.mov (.c v10)) st ⟨fun v45 st =>
 @gst P v43 true (.len .sl (.c v45)) st ⟨fun v46 st =>
 @gst P v43 true (.bin .eql (.c v46) (.c (.int .i64 2))) st ⟨fun v47 st =>
 @stp P (.pick (.c v43) (.c v47) (.c (.bool false))) st ⟨fun v48 st =>
 @gst P v48 true (.mov (.c v10)) st ⟨fun v50 st =>
 @gst P v48 true (.idx 9 (.c v50) (.c (.int .i64 1))) st ⟨fun v51 st =>
 @gst P v48 true (.fld 1 (.c v51)) st ⟨fun v52 st =>
 @gst P v48 true (.ld none (.c v52)) st ⟨fun v53 st =>
 @gst P v48 true (.bin .eql (.c v53) (.c (.int .i64 4))) st ⟨fun v54 st =>
 @stp P (.pick (.c v48) (.c v54) (.c (.bool false))) st ⟨fun v55 st =>
 @gst P v55 true (.mov (.c v10)) st ⟨fun v57 st =>
 @gst P v55 true (.idx 9 (.c v57) (.c (.int .i64 1))) st ⟨fun v58 st =>
 @gst P v55 true (.fld 3 (.c v58)) st ⟨fun v59 st =>
 @gst P v55 true (.ld none (.c v59)) st ⟨fun v60 st =>
 @gst P v55 true (.bin .eql (.c v60) (.c (.int .u64 4))) st ⟨fun v61 st =>
 @stp P (.pick (.c v55) (.c v61) (.c (.bool false))) st ⟨fun v62 st =>
 GhostV [v62] st fun vs st => K (mkres vs) st⟩⟩⟩⟩⟩⟩⟩⟩⟩⟩⟩⟩⟩⟩⟩⟩⟩⟩⟩⟩⟩⟩⟩⟩⟩⟩⟩⟩⟩⟩⟩⟩⟩⟩⟩⟩⟩⟩⟩⟩⟩⟩⟩⟩⟩⟩⟩⟩⟩⟩
theorem q_gazetteerlaw12_wakes {P : Program} {st : St} {K : V → St → Prop} : F_gazetteerlaw12_wakes P  st K = hwp P c_gazetteerlaw12_wakes (hretQ [.tmp 0] K) (enterFr []) st := by kernel_rfl
abbrev R_gazetteerlaw12_wakes (P : Program) : Prop := resFnH P n_gazetteerlaw12_wakes = some (63, c_gazetteerlaw12_wakes.er, [.tmp 0])
theorem A_gazetteerlaw12_wakes {P : Program} (h : R_gazetteerlaw12_wakes P) {st : St} {K : V → St → Prop} (hF : F_gazetteerlaw12_wakes P  st K) : ACalls P n_gazetteerlaw12_wakes [] st K :=
  ACalls_h h rfl (by simp) (q_gazetteerlaw12_wakes ▸ hF)

def c_gazetteerlaw12_pages : ACode := (.seq (.reg [(oo 2 (.mov nx0))]) (.seq (.reg [(oo 3 (.mov nx0))]) (.seq (.seq (.reg [(oo 8 (.mov (.s 0))),(oo 9 (.len .sl (.s 8))),(oo 10 (.mov (.c (.int .i64 0))))]) (.block 0 (.loop [3,10] [3,4,5,6,7,10,11,12,13,14,15,16,17,18,19,20,21,22,23,24,25,26,27,28,29,30,31,32,33,34,35,36,37] (.seq (.reg [(oo 11 (.bin .lss (.s 10) (.s 9)))]) (.seq (.cond (.s 11) .skip (.exit 0)) (.seq (.block 1 (.seq (.reg [(oo 12 (.mov (.s 10))),(oo 13 (.idx 6 (.s 8) (.s 10))),(oo 14 (.ld (some 6) (.s 13))),(oo 5 (.alloc zrP)),(oo 4 (.mov (.s 12))),⟨none,none,(.st 6 (.s 5) (.s 14))⟩]) (.seq (.seq (.reg [(oo 15 (.mov (.s 4))),(oo 16 (.bin .eql (.s 15) (.c (.int .i64 33))))]) (.cond (.s 16) (.exit 0) .skip)) (.seq (.seq (.reg [(oo 17 (.fld 2 (.s 5))),(oo 18 (.ld (some 4) (.s 17))),(oo 19 (.mov (.c (.int .i64 0))))]) (.block 2 (.loop [19] [6,7,19,20,21,22,23,24,25,26,27,28,29,30,31] (.seq (.reg [(oo 20 (.bin .lss (.s 19) (.c (.int .i64 4))))]) (.seq (.cond (.s 20) .skip (.exit 2)) (.seq (.block 3 (.seq (.reg [(oo 21 (.mov (.s 19))),(oo 22 (.idxV 4 1 false (.s 18) (.s 19))),(oo 6 (.mov (.s 21))),(oo 7 (.mov (.s 22)))]) (.reg [(oo 23 (.mov (.s 6))),(oo 24 (.mov (.s 7))),(oo 25 (.mov (.s 7))),(oo 26 (.len .sl (.s 25))),(oo 27 (.minmax false (.s 26) [(.c (.int .i64 53))])),(oo 28 (.slice 1 (.s 24) none (some (.s 27)) none)),(oo 29 (.fld 2 (.s 5))),(oo 30 (.idxA 4 1 (.s 29) (.s 23))),⟨none,none,(.st 1 (.s 30) (.s 28))⟩]))) (.reg [(oo 31 (.bin .add (.s 19) (.c (.int .i64 1)))),(oo 19 (.mov (.s 31)))]))))))) (.reg [(oo 32 (.mov (.s 3))),(oo 33 (.ld (some 6) (.s 5))),(oo 34 (.call (fx n_gazetteerref06_Copy) [(.s 33)])),(oo 35 (.mkSl 6 1 zrP [(0,(.s 34))])),(oo 36 (.append 6 112 (.s 32) (.s 35))),(oo 3 (.mov (.s 36)))]))))) (.reg [(oo 37 (.bin .add (.s 10) (.c (.int .i64 1)))),(oo 10 (.mov (.s 37)))]))))))) (.seq (.reg [(oo 38 (.mov (.s 3))),(oo 2 (.mov (.s 38)))]) .ret))))
def F_gazetteerlaw12_pages (P : Program) (a0 : V) (st : St) (K : V → St → Prop) : Prop :=
 @stp P (.len .sl (.c a0)) st ⟨fun v9 st =>
 @Hold ⟨∃ I1 : Nat → Rel 2,(∃ k,GhostV [(.sl .nil 0 [] []),(.int .i64 0)] st (app (I1 k))) ∧ ∀ k1 v3 v10,∀ st,app (I1 k1) [v3,v10] st →
 @stp P (.bin .lss (.c v10) (.c v9)) st ⟨fun v11 st =>
 @cnd v11 ⟨
 @stp P (.idx 6 (.c a0) (.c v10)) st ⟨fun v13 st =>
 @stp P (.ld (some 6) (.c v13)) st ⟨fun v14 st =>
 @stp P (.alloc [(.int .i64 0),(.int .u64 0),(.sl .nil 0 [] []),(.sl .nil 0 [] []),(.sl .nil 0 [] []),(.sl .nil 0 [] [])]) st ⟨fun v5 st =>
 @stp P (.st 6 (.c v5) (.c v14)) st ⟨fun _v st =>
 @stp P (.bin .eql (.c v10) (.c (.int .i64 33))) st ⟨fun v16 st =>
 @cnd v16 ⟨
 GhostV [v3] st fun vs st => K (mkres vs) st⟩
 ⟨
 @stp P (.fld 2 (.c v5)) st ⟨fun v17 st =>
 @stp P (.ld (some 4) (.c v17)) st ⟨fun v18 st =>
 @Hold ⟨∃ I2 : Nat → Rel 1,(∃ k,GhostV [(.int .i64 0)] st (app (I2 k))) ∧ ∀ k2 v19,∀ st,app (I2 k2) [v19] st →
 @stp P (.bin .lss (.c v19) (.c (.int .i64 4))) st ⟨fun v20 st =>
 @cnd v20 ⟨
 @stp P (.idxV 4 1 false (.c v18) (.c v19)) st ⟨fun v22 st =>
 @stp P (.len .sl (.c v22)) st ⟨fun v26 st =>
 @stp P (.minmax false (.c v26) [(.c (.int .i64 53))]) st ⟨fun v27 st =>
 @stp P (.slice 1 (.c v22) none (some (.c v27)) none) st ⟨fun v28 st =>
 @stp P (.fld 2 (.c v5)) st ⟨fun v29 st =>
 @stp P (.idxA 4 1 (.c v29) (.c v19)) st ⟨fun v30 st =>
 @stp P (.st 1 (.c v30) (.c v28)) st ⟨fun _v st =>
 @stp P (.bin .add (.c v19) (.c (.int .i64 1))) st ⟨fun v31 st =>
 ∃ j,j < k2 ∧ GhostV [v31] st (app (I2 j))⟩⟩⟩⟩⟩⟩⟩⟩⟩
 ⟨
 @stp P (.ld (some 6) (.c v5)) st ⟨fun v33 st =>
 @stp P (.call (.c (.fn (.func n_gazetteerref06_Copy) [] [])) [(.c v33)]) st ⟨fun v34 st =>
 @stp P (.mkSl 6 1 [(.int .i64 0),(.int .u64 0),(.sl .nil 0 [] []),(.sl .nil 0 [] []),(.sl .nil 0 [] []),(.sl .nil 0 [] [])] [(0,(.c v34))]) st ⟨fun v35 st =>
 @stp P (.append 6 112 (.c v3) (.c v35)) st ⟨fun v36 st =>
 @stp P (.bin .add (.c v10) (.c (.int .i64 1))) st ⟨fun v37 st =>
 ∃ j,j < k1 ∧ GhostV [v36,v37] st (app (I1 j))⟩⟩⟩⟩⟩⟩⟩⟩⟩⟩⟩⟩⟩⟩⟩⟩⟩
 ⟨
 GhostV [v3] st fun vs st => K (mkres vs) st⟩⟩⟩⟩
theorem q_gazetteerlaw12_pages {P : Program} {a0 : V} {st : St} {K : V → St → Prop} : F_gazetteerlaw12_pages P a0 st K = hwp P c_gazetteerlaw12_pages (hretQ [.tmp 2] K) (enterFr [a0]) st := by kernel_rfl
abbrev R_gazetteerlaw12_pages (P : Program) : Prop := resFnH P n_gazetteerlaw12_pages = some (39, c_gazetteerlaw12_pages.er, [.tmp 2])
theorem A_gazetteerlaw12_pages {P : Program} (h : R_gazetteerlaw12_pages P) {a0 : V} {st : St} {K : V → St → Prop} (hF : F_gazetteerlaw12_pages P a0 st K) : ACalls P n_gazetteerlaw12_pages [a0] st K :=
  ACalls_h h rfl (by simp) (q_gazetteerlaw12_pages ▸ hF)

def c_gazetteerlaw12_records : ACode := (.seq (.reg [(oo 2 (.mov nx0))]) (.seq (.reg [(oo 3 (.mov nx0))]) (.seq (.seq (.reg [(oo 6 (.mov (.s 0))),(oo 7 (.len .sl (.s 6))),(oo 8 (.mov (.c (.int .i64 0))))]) (.block 0 (.loop [3,8] [3,4,5,8,9,10,11,12,13,14,15,16,17,18,19,20,21,22,23,24,25,26,27,28,29,30,31,32,33,34,35,36,37,38,39] (.seq (.reg [(oo 9 (.bin .lss (.s 8) (.s 7)))]) (.seq (.cond (.s 9) .skip (.exit 0)) (.seq (.block 1 (.seq (.reg [(oo 10 (.mov (.s 8))),(oo 11 (.idx 9 (.s 6) (.s 8))),(oo 12 (.ld (some 9) (.s 11))),(oo 5 (.alloc zrR)),(oo 4 (.mov (.s 10))),⟨none,none,(.st 9 (.s 5) (.s 12))⟩]) (.seq (.seq (.reg [(oo 13 (.mov (.s 4))),(oo 14 (.bin .eql (.s 13) (.c (.int .i64 65))))]) (.cond (.s 14) (.exit 0) .skip)) (.seq (.regD [(oo 15 (.mov (.c (.sl .cap0 1 [] [])))),(oo 16 (.fld 6 (.s 5))),(oo 17 (.ld none (.s 16))),(oo 18 (.fld 6 (.s 5))),(oo 19 (.ld none (.s 18))),(oo 20 (.len .sl (.s 19))),(oo 21 (.minmax false (.s 20) [(.c (.int .i64 53))])),(oo 22 (.slice 1 (.s 17) none (some (.s 21)) none)),(oo 23 (.appf 1 1 (.s 15) (.s 22))),(oo 24 (.mov (.c (.sl .cap0 1 [] [])))),(oo 25 (.fld 7 (.s 5))),(oo 26 (.ld none (.s 25))),(oo 27 (.fld 7 (.s 5))),(oo 28 (.ld none (.s 27))),(oo 29 (.len .sl (.s 28))),(oo 30 (.minmax false (.s 29) [(.c (.int .i64 53))])),(oo 31 (.slice 1 (.s 26) none (some (.s 30)) none)),(oo 32 (.appf 1 1 (.s 24) (.s 31))),(oo 33 (.fld 6 (.s 5))),⟨none,none,(.st 1 (.s 33) (.s 23))⟩,(oo 34 (.fld 7 (.s 5))),⟨none,none,(.st 1 (.s 34) (.s 32))⟩] [(0,(false,[])),(1,(false,[])),(2,(false,[])),(3,(false,[])),(4,(false,[])),(5,(false,[])),(6,(false,[])),(7,(false,[])),(8,(false,[])),(9,(false,[])),(10,(false,[])),(11,(false,[])),(12,(false,[])),(13,(false,[])),(14,(false,[])),(15,(false,[])),(16,(false,[])),(17,(false,[])),(18,(false,[])),(19,(true,[])),(20,(false,[])),(21,(true,[]))]) (.reg [(oo 35 (.mov (.s 3))),(oo 36 (.ld (some 9) (.s 5))),(oo 37 (.mkSl 9 1 zrR [(0,(.s 36))])),(oo 38 (.append 9 104 (.s 35) (.s 37))),(oo 3 (.mov (.s 38)))]))))) (.reg [(oo 39 (.bin .add (.s 8) (.c (.int .i64 1)))),(oo 8 (.mov (.s 39)))]))))))) (.seq (.reg [(oo 40 (.mov (.s 3))),(oo 2 (.mov (.s 40)))]) .ret))))
def F_gazetteerlaw12_records (P : Program) (a0 : V) (st : St) (K : V → St → Prop) : Prop :=
 @stp P (.len .sl (.c a0)) st ⟨fun v7 st =>
 @Hold ⟨∃ I1 : Nat → Rel 2,(∃ k,GhostV [(.sl .nil 0 [] []),(.int .i64 0)] st (app (I1 k))) ∧ ∀ k1 v3 v8,∀ st,app (I1 k1) [v3,v8] st →
 @stp P (.bin .lss (.c v8) (.c v7)) st ⟨fun v9 st =>
 @cnd v9 ⟨
 @stp P (.idx 9 (.c a0) (.c v8)) st ⟨fun v11 st =>
 @stp P (.ld (some 9) (.c v11)) st ⟨fun v12 st =>
 @stp P (.alloc [(.int .u64 0),(.int .i64 0),(.int .u64 0),(.int .u64 0),(.int .i64 0),(.int .i64 0),(.sl .nil 0 [] []),(.sl .nil 0 [] []),(.int .u64 0)]) st ⟨fun v5 st =>
 @stp P (.st 9 (.c v5) (.c v12)) st ⟨fun _v st =>
 @stp P (.bin .eql (.c v8) (.c (.int .i64 65))) st ⟨fun v14 st =>
 @cnd v14 ⟨
 GhostV [v3] st fun vs st => K (mkres vs) st⟩
 ⟨
 @stpD P (.fld 6 (.c v5)) st ⟨fun v16 st =>
 @stpD P (.ld none (.c v16)) st ⟨fun v17 st =>
 @stpD P (.fld 6 (.c v5)) st ⟨fun v18 st =>
 @stpD P (.ld none (.c v18)) st ⟨fun v19 st =>
 @stpD P (.len .sl (.c v19)) st ⟨fun v20 st =>
 @stpD P (.minmax false (.c v20) [(.c (.int .i64 53))]) st ⟨fun v21 st =>
 @stpD P (.slice 1 (.c v17) none (some (.c v21)) none) st ⟨fun v22 st =>
 @stpD P (.appf 1 1 (.c (.sl .cap0 1 [] [])) (.c v22)) st ⟨fun v23 st =>
 @stpD P (.fld 7 (.c v5)) st ⟨fun v25 st =>
 @stpD P (.ld none (.c v25)) st ⟨fun v26 st =>
 @stpD P (.fld 7 (.c v5)) st ⟨fun v27 st =>
 @stpD P (.ld none (.c v27)) st ⟨fun v28 st =>
 @stpD P (.len .sl (.c v28)) st ⟨fun v29 st =>
 @stpD P (.minmax false (.c v29) [(.c (.int .i64 53))]) st ⟨fun v30 st =>
 @stpD P (.slice 1 (.c v26) none (some (.c v30)) none) st ⟨fun v31 st =>
 @stpD P (.appf 1 1 (.c (.sl .cap0 1 [] [])) (.c v31)) st ⟨fun v32 st =>
 @stpD P (.fld 6 (.c v5)) st ⟨fun v33 st =>
 @stpD P (.st 1 (.c v33) (.c v23)) st ⟨fun _v st =>
 @stpD P (.fld 7 (.c v5)) st ⟨fun v34 st =>
 @stpD P (.st 1 (.c v34) (.c v32)) st ⟨fun _v st =>
 @stp P (.ld (some 9) (.c v5)) st ⟨fun v36 st =>
 @stp P (.mkSl 9 1 [(.int .u64 0),(.int .i64 0),(.int .u64 0),(.int .u64 0),(.int .i64 0),(.int .i64 0),(.sl .nil 0 [] []),(.sl .nil 0 [] []),(.int .u64 0)] [(0,(.c v36))]) st ⟨fun v37 st =>
 @stp P (.append 9 104 (.c v3) (.c v37)) st ⟨fun v38 st =>
 @stp P (.bin .add (.c v8) (.c (.int .i64 1))) st ⟨fun v39 st =>
 ∃ j,j < k1 ∧ GhostV [v38,v39] st (app (I1 j))⟩⟩⟩⟩⟩⟩⟩⟩⟩⟩⟩⟩⟩⟩⟩⟩⟩⟩⟩⟩⟩⟩⟩⟩⟩⟩⟩⟩⟩⟩⟩
 ⟨
 GhostV [v3] st fun vs st => K (mkres vs) st⟩⟩⟩⟩
theorem q_gazetteerlaw12_records {P : Program} {a0 : V} {st : St} {K : V → St → Prop} : F_gazetteerlaw12_records P a0 st K = hwp P c_gazetteerlaw12_records (hretQ [.tmp 2] K) (enterFr [a0]) st := by kernel_rfl
abbrev R_gazetteerlaw12_records (P : Program) : Prop := resFnH P n_gazetteerlaw12_records = some (41, c_gazetteerlaw12_records.er, [.tmp 2])
theorem A_gazetteerlaw12_records {P : Program} (h : R_gazetteerlaw12_records P) {a0 : V} {st : St} {K : V → St → Prop} (hF : F_gazetteerlaw12_records P a0 st K) : ACalls P n_gazetteerlaw12_records [a0] st K :=
  ACalls_h h rfl (by simp) (q_gazetteerlaw12_records ▸ hF)

def c_redo_All : ACode := (.seq (.reg [(oo 6 (.mov nx0)),(oo 7 (.mov nx0)),(oo 8 (.mov (.c (.int .i64 0))))]) (.seq (.seq (.reg [(oo 14 (.mov (.s 0))),(oo 15 (.mov (.s 1))),(oo 16 (.call (fx n_redo_Check) [(.s 14),(.s 15)])),(oo 9 (.mov (.s 16)))]) (.seq (.reg [(oo 17 (.mov (.s 9))),(oo 18 (.bin .neq (.s 17) (.c (.int .i64 0))))]) (.cond (.s 18) (.seq (.reg [(oo 19 (.mov (.s 9))),(oo 6 (.mov nx0)),(oo 7 (.mov nx0)),(oo 8 (.mov (.s 19)))]) .ret) .skip))) (.seq (.reg [(oo 21 (.mov (.s 1))),(oo 22 (.call (fx n_redo_Open) [(.s 21)])),(oo 20 (.mov (.s 22))),(oo 23 (.ext 0 (.s 20))),(oo 24 (.ext 1 (.s 20))),(oo 10 (.mov (.s 23))),(oo 11 (.mov (.s 24)))]) (.seq (.reg [(oo 12 (.mov nx0))]) (.seq (.seq (.reg [(oo 25 (.mov (.s 10))),(oo 26 (.len .sl (.s 25))),(oo 27 (.bin .gtr (.s 26) (.c (.int .i64 0))))]) (.cond (.s 27) (.seq (.reg [(oo 13 (.mov (.c (.int .i64 0))))]) (.seq (.reg [(oo 29 (.mov (.s 1))),(oo 30 (.mov (.s 10))),(oo 31 (.mov (.s 2))),(oo 32 (.call (fx n_redo_Undo) [(.s 29),(.s 30),(.s 31)])),(oo 28 (.mov (.s 32))),(oo 33 (.ext 0 (.s 28))),(oo 34 (.ext 1 (.s 28))),(oo 12 (.mov (.s 33))),(oo 13 (.mov (.s 34)))]) (.seq (.reg [(oo 35 (.mov (.s 13))),(oo 36 (.bin .neq (.s 35) (.c (.int .i64 0))))]) (.cond (.s 36) (.seq (.reg [(oo 37 (.mov (.s 13))),(oo 6 (.mov nx0)),(oo 7 (.mov nx0)),(oo 8 (.mov (.s 37)))]) .ret) .skip)))) .skip)) (.seq (.reg [(oo 38 (.mov (.s 0))),(oo 39 (.mov (.s 1))),(oo 40 (.call (fx n_redo_again) [(.s 38),(.s 39)])),(oo 41 (.mov (.s 12))),(oo 42 (.call (fx n_redo_again) [(.s 40),(.s 41)])),(oo 43 (.mov (.s 12))),(oo 6 (.mov (.s 42))),(oo 7 (.mov (.s 43))),(oo 8 (.mov (.c (.int .i64 0))))]) .ret))))))
def F_redo_All (P : Program) (a0 a1 a2 : V) (st : St) (K : V → St → Prop) : Prop :=
 @stp P (.call (.c (.fn (.func n_redo_Check) [] [])) [(.c a0),(.c a1)]) st ⟨fun v16 st =>
 @stp P (.bin .neq (.c v16) (.c (.int .i64 0))) st ⟨fun v18 st =>
 @cnd v18 ⟨
 GhostV [(.sl .nil 0 [] []),(.sl .nil 0 [] []),v16] st fun vs st => K (mkres vs) st⟩
 ⟨
 @stp P (.call (.c (.fn (.func n_redo_Open) [] [])) [(.c a1)]) st ⟨fun v22 st =>
 @stp P (.ext 0 (.c v22)) st ⟨fun v23 st =>
 @stp P (.ext 1 (.c v22)) st ⟨fun v24 st =>
 @stp P (.len .sl (.c v23)) st ⟨fun v26 st =>
 @stp P (.bin .gtr (.c v26) (.c (.int .i64 0))) st ⟨fun v27 st =>
 @cnd v27 ⟨
 @stp P (.call (.c (.fn (.func n_redo_Undo) [] [])) [(.c a1),(.c v23),(.c a2)]) st ⟨fun v32 st =>
 @stp P (.ext 0 (.c v32)) st ⟨fun v33 st =>
 @stp P (.ext 1 (.c v32)) st ⟨fun v34 st =>
 @stp P (.bin .neq (.c v34) (.c (.int .i64 0))) st ⟨fun v36 st =>
 @cnd v36 ⟨
 GhostV [(.sl .nil 0 [] []),(.sl .nil 0 [] []),v34] st fun vs st => K (mkres vs) st⟩
 ⟨
 @stp P (.call (.c (.fn (.func n_redo_again) [] [])) [(.c a0),(.c a1)]) st ⟨fun v40 st =>
 @stp P (.call (.c (.fn (.func n_redo_again) [] [])) [(.c v40),(.c v33)]) st ⟨fun v42 st =>
 GhostV [v42,v33,(.int .i64 0)] st fun vs st => K (mkres vs) st⟩⟩⟩⟩⟩⟩⟩⟩
 ⟨
 @stp P (.call (.c (.fn (.func n_redo_again) [] [])) [(.c a0),(.c a1)]) st ⟨fun v40 st =>
 @stp P (.call (.c (.fn (.func n_redo_again) [] [])) [(.c v40),(.c (.sl .nil 0 [] []))]) st ⟨fun v42 st =>
 GhostV [v42,(.sl .nil 0 [] []),(.int .i64 0)] st fun vs st => K (mkres vs) st⟩⟩⟩⟩⟩⟩⟩⟩⟩⟩⟩
theorem q_redo_All {P : Program} {a0 a1 a2 : V} {st : St} {K : V → St → Prop} : F_redo_All P a0 a1 a2 st K = hwp P c_redo_All (hretQ [.tmp 6, .tmp 7, .tmp 8] K) (enterFr [a0, a1, a2]) st := by kernel_rfl
abbrev R_redo_All (P : Program) : Prop := resFnH P n_redo_All = some (44, c_redo_All.er, [.tmp 6, .tmp 7, .tmp 8])
theorem A_redo_All {P : Program} (h : R_redo_All P) {a0 a1 a2 : V} {st : St} {K : V → St → Prop} (hF : F_redo_All P a0 a1 a2 st K) : ACalls P n_redo_All [a0, a1, a2] st K :=
  ACalls_h h rfl (by simp) (q_redo_All ▸ hF)

def c_gazetteerref12_Row : ACode := (.seq (.reg [(oo 2 (.mov (.c (.int .i64 0))))]) (.seq (.seq (.reg [(oo 3 (.mov (.s 0))),(oo 4 (.len .sl (.s 3))),(oo 5 (.bin .gtr (.s 4) (.c (.int .i64 64))))]) (.cond (.s 5) (.seq (.reg [(oo 2 (.mov (.c (.int .i64 3))))]) .ret) .skip)) (.seq (.seq (.reg [(oo 6 (.mov (.s 0))),(oo 7 (.call (fx n_gazetteerref05_RightRow) [(.s 6)])),(oo 8 (.un .not (.s 7)))]) (.cond (.s 8) (.seq (.reg [(oo 2 (.mov (.c (.int .i64 150))))]) .ret) .skip)) (.seq (.reg [(oo 2 (.mov (.c (.int .i64 0))))]) .ret))))
def F_gazetteerref12_Row (P : Program) (a0 : V) (st : St) (K : V → St → Prop) : Prop :=
 @stp P (.len .sl (.c a0)) st ⟨fun v4 st =>
 @stp P (.bin .gtr (.c v4) (.c (.int .i64 64))) st ⟨fun v5 st =>
 @cnd v5 ⟨
 GhostV [(.int .i64 3)] st fun vs st => K (mkres vs) st⟩
 ⟨
 @stp P (.call (.c (.fn (.func n_gazetteerref05_RightRow) [] [])) [(.c a0)]) st ⟨fun v7 st =>
 @stp P (.un .not (.c v7)) st ⟨fun v8 st =>
 @cnd v8 ⟨
 GhostV [(.int .i64 150)] st fun vs st => K (mkres vs) st⟩
 ⟨
 GhostV [(.int .i64 0)] st fun vs st => K (mkres vs) st⟩⟩⟩⟩⟩⟩
theorem q_gazetteerref12_Row {P : Program} {a0 : V} {st : St} {K : V → St → Prop} : F_gazetteerref12_Row P a0 st K = hwp P c_gazetteerref12_Row (hretQ [.tmp 2] K) (enterFr [a0]) st := by kernel_rfl
abbrev R_gazetteerref12_Row (P : Program) : Prop := resFnH P n_gazetteerref12_Row = some (9, c_gazetteerref12_Row.er, [.tmp 2])
theorem A_gazetteerref12_Row {P : Program} (h : R_gazetteerref12_Row P) {a0 : V} {st : St} {K : V → St → Prop} (hF : F_gazetteerref12_Row P a0 st K) : ACalls P n_gazetteerref12_Row [a0] st K :=
  ACalls_h h rfl (by simp) (q_gazetteerref12_Row ▸ hF)

def c_gazetteerref12_SamePages : ACode := (.seq (.reg [(oo 4 (.mov (.c (.bool false))))]) (.seq (.seq (.reg [(oo 6 (.mov (.s 0))),(oo 7 (.len .sl (.s 6))),(oo 8 (.mov (.s 1))),(oo 9 (.len .sl (.s 8))),(oo 10 (.bin .neq (.s 7) (.s 9)))]) (.cond (.s 10) (.seq (.reg [(oo 4 (.mov (.c (.bool false))))]) .ret) .skip)) (.seq (.seq (.reg [(oo 11 (.mov (.s 0))),(oo 12 (.len .sl (.s 11))),(oo 13 (.mov (.c (.int .i64 0))))]) (.block 0 (.loop [13] [4,5,13,14,15,16,17,18,19,20,21,22,23,24,25,26] (.seq (.reg [(oo 14 (.bin .lss (.s 13) (.s 12)))]) (.seq (.cond (.s 14) .skip (.exit 0)) (.seq (.block 1 (.seq (.reg [(oo 15 (.mov (.s 13))),(oo 5 (.mov (.s 15)))]) (.seq (.regD [(oo 16 (.mov (.s 0))),(oo 17 (.mov (.s 5))),(oo 18 (.idx 6 (.s 16) (.s 17))),(oo 19 (.ld (some 6) (.s 18))),(oo 20 (.mov (.s 1))),(oo 21 (.mov (.s 5))),(oo 22 (.idx 6 (.s 20) (.s 21))),(oo 23 (.ld (some 6) (.s 22))),(oo 24 (.call (fx n_gazetteerref06_Same) [(.s 19),(.s 23)])),(oo 25 (.un .not (.s 24)))] [(0,(false,[])),(1,(false,[])),(2,(false,[])),(3,(false,[])),(4,(false,[])),(5,(false,[])),(6,(false,[])),(7,(false,[])),(8,(true,[])),(9,(false,[]))]) (.cond (.s 25) (.seq (.reg [(oo 4 (.mov (.c (.bool false))))]) .ret) .skip)))) (.reg [(oo 26 (.bin .add (.s 13) (.c (.int .i64 1)))),(oo 13 (.mov (.s 26)))]))))))) (.seq (.reg [(oo 4 (.mov (.c (.bool true))))]) .ret))))
def F_gazetteerref12_SamePages (P : Program) (a0 a1 : V) (st : St) (K : V → St → Prop) : Prop :=
 @stp P (.len .sl (.c a0)) st ⟨fun v7 st =>
 @stp P (.len .sl (.c a1)) st ⟨fun v9 st =>
 @stp P (.bin .neq (.c v7) (.c v9)) st ⟨fun v10 st =>
 @cnd v10 ⟨
 GhostV [(.bool false)] st fun vs st => K (mkres vs) st⟩
 ⟨
 @stp P (.len .sl (.c a0)) st ⟨fun v12 st =>
 @Hold ⟨∃ I1 : Nat → Rel 1,(∃ k,GhostV [(.int .i64 0)] st (app (I1 k))) ∧ ∀ k1 v13,∀ st,app (I1 k1) [v13] st →
 @stp P (.bin .lss (.c v13) (.c v12)) st ⟨fun v14 st =>
 @cnd v14 ⟨
 @stpD P (.idx 6 (.c a0) (.c v13)) st ⟨fun v18 st =>
 @stpD P (.ld (some 6) (.c v18)) st ⟨fun v19 st =>
 @stpD P (.idx 6 (.c a1) (.c v13)) st ⟨fun v22 st =>
 @stpD P (.ld (some 6) (.c v22)) st ⟨fun v23 st =>
 @stpD P (.call (.c (.fn (.func n_gazetteerref06_Same) [] [])) [(.c v19),(.c v23)]) st ⟨fun v24 st =>
 @stpD P (.un .not (.c v24)) st ⟨fun v25 st =>
 @cnd v25 ⟨
 GhostV [(.bool false)] st fun vs st => K (mkres vs) st⟩
 ⟨
 @stp P (.bin .add (.c v13) (.c (.int .i64 1))) st ⟨fun v26 st =>
 ∃ j,j < k1 ∧ GhostV [v26] st (app (I1 j))⟩⟩⟩⟩⟩⟩⟩⟩⟩
 ⟨
 GhostV [(.bool true)] st fun vs st => K (mkres vs) st⟩⟩⟩⟩⟩⟩⟩⟩
theorem q_gazetteerref12_SamePages {P : Program} {a0 a1 : V} {st : St} {K : V → St → Prop} : F_gazetteerref12_SamePages P a0 a1 st K = hwp P c_gazetteerref12_SamePages (hretQ [.tmp 4] K) (enterFr [a0, a1]) st := by kernel_rfl
abbrev R_gazetteerref12_SamePages (P : Program) : Prop := resFnH P n_gazetteerref12_SamePages = some (27, c_gazetteerref12_SamePages.er, [.tmp 4])
theorem A_gazetteerref12_SamePages {P : Program} (h : R_gazetteerref12_SamePages P) {a0 a1 : V} {st : St} {K : V → St → Prop} (hF : F_gazetteerref12_SamePages P a0 a1 st K) : ACalls P n_gazetteerref12_SamePages [a0, a1] st K :=
  ACalls_h h rfl (by simp) (q_gazetteerref12_SamePages ▸ hF)

def c_gazetteerref05_SameRow : ACode := (.seq (.reg [(oo 4 (.mov (.c (.bool false))))]) (.seq (.seq (.reg [(oo 6 (.mov (.s 0))),(oo 7 (.len .sl (.s 6))),(oo 8 (.mov (.s 1))),(oo 9 (.len .sl (.s 8))),(oo 10 (.bin .neq (.s 7) (.s 9)))]) (.cond (.s 10) (.seq (.reg [(oo 4 (.mov (.c (.bool false))))]) .ret) .skip)) (.seq (.seq (.reg [(oo 5 (.mov (.c (.int .i64 0))))]) (.block 0 (.loop [5] [4,5,11,12,13,14,15,16,17,18,19,20,21,22,23,24,25,26] (.seq (.seq (.reg [(oo 11 (.mov (.s 5))),(oo 12 (.mov (.s 0))),(oo 13 (.len .sl (.s 12))),(oo 14 (.bin .lss (.s 11) (.s 13)))]) (.cond (.s 14) .skip (.exit 0))) (.seq (.block 1 (.seq (.regD [(oo 17 (.mov (.s 0))),(oo 18 (.mov (.s 5))),(oo 19 (.idx 9 (.s 17) (.s 18))),(oo 20 (.ld (some 9) (.s 19))),(oo 21 (.mov (.s 1))),(oo 22 (.mov (.s 5))),(oo 23 (.idx 9 (.s 21) (.s 22))),(oo 24 (.ld (some 9) (.s 23))),(oo 25 (.call (fx n_gazetteerref05_Same) [(.s 20),(.s 24)])),(oo 26 (.un .not (.s 25)))] [(0,(false,[])),(1,(false,[])),(2,(false,[])),(3,(false,[])),(4,(false,[])),(5,(false,[])),(6,(false,[])),(7,(false,[])),(8,(true,[])),(9,(false,[]))]) (.cond (.s 26) (.seq (.reg [(oo 4 (.mov (.c (.bool false))))]) .ret) .skip))) (.reg [(oo 15 (.mov (.s 5))),(oo 16 (.bin .add (.s 15) (.c (.int .i64 1)))),(oo 5 (.mov (.s 16)))])))))) (.seq (.reg [(oo 4 (.mov (.c (.bool true))))]) .ret))))
def F_gazetteerref05_SameRow (P : Program) (a0 a1 : V) (st : St) (K : V → St → Prop) : Prop :=
 @stp P (.len .sl (.c a0)) st ⟨fun v7 st =>
 @stp P (.len .sl (.c a1)) st ⟨fun v9 st =>
 @stp P (.bin .neq (.c v7) (.c v9)) st ⟨fun v10 st =>
 @cnd v10 ⟨
 GhostV [(.bool false)] st fun vs st => K (mkres vs) st⟩
 ⟨
 @Hold ⟨∃ I1 : Nat → Rel 1,(∃ k,GhostV [(.int .i64 0)] st (app (I1 k))) ∧ ∀ k1 v5,∀ st,app (I1 k1) [v5] st →
 @stp P (.len .sl (.c a0)) st ⟨fun v13 st =>
 @stp P (.bin .lss (.c v5) (.c v13)) st ⟨fun v14 st =>
 @cnd v14 ⟨
 @stpD P (.idx 9 (.c a0) (.c v5)) st ⟨fun v19 st =>
 @stpD P (.ld (some 9) (.c v19)) st ⟨fun v20 st =>
 @stpD P (.idx 9 (.c a1) (.c v5)) st ⟨fun v23 st =>
 @stpD P (.ld (some 9) (.c v23)) st ⟨fun v24 st =>
 @stpD P (.call (.c (.fn (.func n_gazetteerref05_Same) [] [])) [(.c v20),(.c v24)]) st ⟨fun v25 st =>
 @stpD P (.un .not (.c v25)) st ⟨fun v26 st =>
 @cnd v26 ⟨
 GhostV [(.bool false)] st fun vs st => K (mkres vs) st⟩
 ⟨
 @stp P (.bin .add (.c v5) (.c (.int .i64 1))) st ⟨fun v16 st =>
 ∃ j,j < k1 ∧ GhostV [v16] st (app (I1 j))⟩⟩⟩⟩⟩⟩⟩⟩⟩
 ⟨
 GhostV [(.bool true)] st fun vs st => K (mkres vs) st⟩⟩⟩⟩⟩⟩⟩⟩
theorem q_gazetteerref05_SameRow {P : Program} {a0 a1 : V} {st : St} {K : V → St → Prop} : F_gazetteerref05_SameRow P a0 a1 st K = hwp P c_gazetteerref05_SameRow (hretQ [.tmp 4] K) (enterFr [a0, a1]) st := by kernel_rfl
abbrev R_gazetteerref05_SameRow (P : Program) : Prop := resFnH P n_gazetteerref05_SameRow = some (27, c_gazetteerref05_SameRow.er, [.tmp 4])
theorem A_gazetteerref05_SameRow {P : Program} (h : R_gazetteerref05_SameRow P) {a0 a1 : V} {st : St} {K : V → St → Prop} (hF : F_gazetteerref05_SameRow P a0 a1 st K) : ACalls P n_gazetteerref05_SameRow [a0, a1] st K :=
  ACalls_h h rfl (by simp) (q_gazetteerref05_SameRow ▸ hF)

def c_gazetteerlaw12_spoil : ACode := (.seq (.seq (.reg [(oo 12 (.mov (.s 0))),(oo 13 (.len .sl (.s 12))),(oo 14 (.mov (.c (.int .i64 0))))]) (.block 0 (.loop [14] [5,7,8,14,15,16,17,18,19,20,21,22,23,24,25,26,27,28,29,30,31,32,33,34,35,36] (.seq (.reg [(oo 15 (.bin .lss (.s 14) (.s 13)))]) (.seq (.cond (.s 15) .skip (.exit 0)) (.seq (.block 1 (.seq (.reg [(oo 16 (.idx 6 (.s 12) (.s 14))),(oo 17 (.ld (some 6) (.s 16))),(oo 5 (.alloc zrP)),⟨none,none,(.st 6 (.s 5) (.s 17))⟩]) (.seq (.reg [(oo 18 (.fld 2 (.s 5))),(oo 19 (.ld (some 4) (.s 18))),(oo 20 (.mov (.c (.int .i64 0))))]) (.block 2 (.loop [20] [7,8,20,21,22,23,24,25,26,27,28,29,30,31,32,33,34,35] (.seq (.reg [(oo 21 (.bin .lss (.s 20) (.c (.int .i64 4))))]) (.seq (.cond (.s 21) .skip (.exit 2)) (.seq (.block 3 (.seq (.reg [(oo 22 (.idxV 4 1 false (.s 19) (.s 20))),(oo 7 (.mov (.s 22)))]) (.seq (.reg [(oo 23 (.mov (.s 7))),(oo 24 (.len .sl (.s 23))),(oo 25 (.mov (.c (.int .i64 0))))]) (.block 4 (.loop [25] [8,25,26,27,28,29,30,31,32,33,34] (.seq (.reg [(oo 26 (.bin .lss (.s 25) (.s 24)))]) (.seq (.cond (.s 26) .skip (.exit 4)) (.seq (.block 5 (.seq (.reg [(oo 27 (.mov (.s 25))),(oo 8 (.mov (.s 27)))]) (.reg [(oo 28 (.mov (.s 7))),(oo 29 (.mov (.s 8))),(oo 30 (.idx 1 (.s 28) (.s 29))),(oo 31 (.ld none (.s 30))),(oo 32 (.bin .xor (.s 31) (.c (.int .u8 238)))),(oo 33 (.idx 1 (.s 28) (.s 29))),⟨none,none,(.st 1 (.s 33) (.s 32))⟩]))) (.reg [(oo 34 (.bin .add (.s 25) (.c (.int .i64 1)))),(oo 25 (.mov (.s 34)))]))))))))) (.reg [(oo 35 (.bin .add (.s 20) (.c (.int .i64 1)))),(oo 20 (.mov (.s 35)))]))))))))) (.reg [(oo 36 (.bin .add (.s 14) (.c (.int .i64 1)))),(oo 14 (.mov (.s 36)))]))))))) (.seq (.reg [(oo 37 (.mov (.s 1))),(oo 38 (.len .sl (.s 37))),(oo 39 (.mov (.c (.int .i64 0))))]) (.block 6 (.loop [39] [10,11,39,40,41,42,43,44,45,46,47,48,49,50,51,52,53,54,55,56,57] (.seq (.reg [(oo 40 (.bin .lss (.s 39) (.s 38)))]) (.seq (.cond (.s 40) .skip (.exit 6)) (.seq (.block 7 (.seq (.reg [(oo 41 (.idx 9 (.s 37) (.s 39))),(oo 42 (.ld (some 9) (.s 41))),(oo 10 (.alloc zrR)),⟨none,none,(.st 9 (.s 10) (.s 42))⟩]) (.seq (.reg [(oo 43 (.fld 7 (.s 10))),(oo 44 (.ld none (.s 43))),(oo 45 (.len .sl (.s 44))),(oo 46 (.mov (.c (.int .i64 0))))]) (.block 8 (.loop [46] [11,46,47,48,49,50,51,52,53,54,55,56] (.seq (.reg [(oo 47 (.bin .lss (.s 46) (.s 45)))]) (.seq (.cond (.s 47) .skip (.exit 8)) (.seq (.block 9 (.seq (.reg [(oo 48 (.mov (.s 46))),(oo 11 (.mov (.s 48)))]) (.reg [(oo 49 (.fld 7 (.s 10))),(oo 50 (.ld none (.s 49))),(oo 51 (.mov (.s 11))),(oo 52 (.idx 1 (.s 50) (.s 51))),(oo 53 (.ld none (.s 52))),(oo 54 (.bin .xor (.s 53) (.c (.int .u8 238)))),(oo 55 (.idx 1 (.s 50) (.s 51))),⟨none,none,(.st 1 (.s 55) (.s 54))⟩]))) (.reg [(oo 56 (.bin .add (.s 46) (.c (.int .i64 1)))),(oo 46 (.mov (.s 56)))]))))))))) (.reg [(oo 57 (.bin .add (.s 39) (.c (.int .i64 1)))),(oo 39 (.mov (.s 57)))]))))))))
def F_gazetteerlaw12_spoil (P : Program) (a0 a1 : V) (st : St) (K : V → St → Prop) : Prop :=
 @stp P (.len .sl (.c a0)) st ⟨fun v13 st =>
 @Hold ⟨∃ I1 : Nat → Rel 1,(∃ k,GhostV [(.int .i64 0)] st (app (I1 k))) ∧ ∀ k1 v14,∀ st,app (I1 k1) [v14] st →
 @stp P (.bin .lss (.c v14) (.c v13)) st ⟨fun v15 st =>
 @cnd v15 ⟨
 @stp P (.idx 6 (.c a0) (.c v14)) st ⟨fun v16 st =>
 @stp P (.ld (some 6) (.c v16)) st ⟨fun v17 st =>
 @stp P (.alloc [(.int .i64 0),(.int .u64 0),(.sl .nil 0 [] []),(.sl .nil 0 [] []),(.sl .nil 0 [] []),(.sl .nil 0 [] [])]) st ⟨fun v5 st =>
 @stp P (.st 6 (.c v5) (.c v17)) st ⟨fun _v st =>
 @stp P (.fld 2 (.c v5)) st ⟨fun v18 st =>
 @stp P (.ld (some 4) (.c v18)) st ⟨fun v19 st =>
 @Hold ⟨∃ I2 : Nat → Rel 1,(∃ k,GhostV [(.int .i64 0)] st (app (I2 k))) ∧ ∀ k2 v20,∀ st,app (I2 k2) [v20] st →
 @stp P (.bin .lss (.c v20) (.c (.int .i64 4))) st ⟨fun v21 st =>
 @cnd v21 ⟨
 @stp P (.idxV 4 1 false (.c v19) (.c v20)) st ⟨fun v22 st =>
 @stp P (.len .sl (.c v22)) st ⟨fun v24 st =>
 @Hold ⟨∃ I3 : Nat → Rel 1,(∃ k,GhostV [(.int .i64 0)] st (app (I3 k))) ∧ ∀ k3 v25,∀ st,app (I3 k3) [v25] st →
 @stp P (.bin .lss (.c v25) (.c v24)) st ⟨fun v26 st =>
 @cnd v26 ⟨
 @stp P (.idx 1 (.c v22) (.c v25)) st ⟨fun v30 st =>
 @stp P (.ld none (.c v30)) st ⟨fun v31 st =>
 @stp P (.bin .xor (.c v31) (.c (.int .u8 238))) st ⟨fun v32 st =>
 @stp P (.idx 1 (.c v22) (.c v25)) st ⟨fun v33 st =>
 @stp P (.st 1 (.c v33) (.c v32)) st ⟨fun _v st =>
 @stp P (.bin .add (.c v25) (.c (.int .i64 1))) st ⟨fun v34 st =>
 ∃ j,j < k3 ∧ GhostV [v34] st (app (I3 j))⟩⟩⟩⟩⟩⟩⟩
 ⟨
 @stp P (.bin .add (.c v20) (.c (.int .i64 1))) st ⟨fun v35 st =>
 ∃ j,j < k2 ∧ GhostV [v35] st (app (I2 j))⟩⟩⟩⟩⟩⟩⟩
 ⟨
 @stp P (.bin .add (.c v14) (.c (.int .i64 1))) st ⟨fun v36 st =>
 ∃ j,j < k1 ∧ GhostV [v36] st (app (I1 j))⟩⟩⟩⟩⟩⟩⟩⟩⟩⟩⟩
 ⟨
 @stp P (.len .sl (.c a1)) st ⟨fun v38 st =>
 @Hold ⟨∃ I4 : Nat → Rel 1,(∃ k,GhostV [(.int .i64 0)] st (app (I4 k))) ∧ ∀ k4 v39,∀ st,app (I4 k4) [v39] st →
 @stp P (.bin .lss (.c v39) (.c v38)) st ⟨fun v40 st =>
 @cnd v40 ⟨
 @stp P (.idx 9 (.c a1) (.c v39)) st ⟨fun v41 st =>
 @stp P (.ld (some 9) (.c v41)) st ⟨fun v42 st =>
 @stp P (.alloc [(.int .u64 0),(.int .i64 0),(.int .u64 0),(.int .u64 0),(.int .i64 0),(.int .i64 0),(.sl .nil 0 [] []),(.sl .nil 0 [] []),(.int .u64 0)]) st ⟨fun v10 st =>
 @stp P (.st 9 (.c v10) (.c v42)) st ⟨fun _v st =>
 @stp P (.fld 7 (.c v10)) st ⟨fun v43 st =>
 @stp P (.ld none (.c v43)) st ⟨fun v44 st =>
 @stp P (.len .sl (.c v44)) st ⟨fun v45 st =>
 @Hold ⟨∃ I5 : Nat → Rel 1,(∃ k,GhostV [(.int .i64 0)] st (app (I5 k))) ∧ ∀ k5 v46,∀ st,app (I5 k5) [v46] st →
 @stp P (.bin .lss (.c v46) (.c v45)) st ⟨fun v47 st =>
 @cnd v47 ⟨
 @stp P (.fld 7 (.c v10)) st ⟨fun v49 st =>
 @stp P (.ld none (.c v49)) st ⟨fun v50 st =>
 @stp P (.idx 1 (.c v50) (.c v46)) st ⟨fun v52 st =>
 @stp P (.ld none (.c v52)) st ⟨fun v53 st =>
 @stp P (.bin .xor (.c v53) (.c (.int .u8 238))) st ⟨fun v54 st =>
 @stp P (.idx 1 (.c v50) (.c v46)) st ⟨fun v55 st =>
 @stp P (.st 1 (.c v55) (.c v54)) st ⟨fun _v st =>
 @stp P (.bin .add (.c v46) (.c (.int .i64 1))) st ⟨fun v56 st =>
 ∃ j,j < k5 ∧ GhostV [v56] st (app (I5 j))⟩⟩⟩⟩⟩⟩⟩⟩⟩
 ⟨
 @stp P (.bin .add (.c v39) (.c (.int .i64 1))) st ⟨fun v57 st =>
 ∃ j,j < k4 ∧ GhostV [v57] st (app (I4 j))⟩⟩⟩⟩⟩⟩⟩⟩⟩⟩⟩⟩
 ⟨
 GhostV [] st fun vs st => K (mkres vs) st⟩⟩⟩⟩⟩⟩⟩⟩
theorem q_gazetteerlaw12_spoil {P : Program} {a0 a1 : V} {st : St} {K : V → St → Prop} : F_gazetteerlaw12_spoil P a0 a1 st K = hwp P c_gazetteerlaw12_spoil (hretQ [] K) (enterFr [a0, a1]) st := by kernel_rfl
abbrev R_gazetteerlaw12_spoil (P : Program) : Prop := resFnH P n_gazetteerlaw12_spoil = some (58, c_gazetteerlaw12_spoil.er, [])
theorem A_gazetteerlaw12_spoil {P : Program} (h : R_gazetteerlaw12_spoil P) {a0 a1 : V} {st : St} {K : V → St → Prop} (hF : F_gazetteerlaw12_spoil P a0 a1 st K) : ACalls P n_gazetteerlaw12_spoil [a0, a1] st K :=
  ACalls_h h rfl (by simp) (q_gazetteerlaw12_spoil ▸ hF)

def c_redo_Redo : ACode := (.seq (.reg [(oo 4 (.mov nx0)),(oo 5 (.mov (.c (.int .i64 0))))]) (.seq (.seq (.reg [(oo 7 (.mov (.s 0))),(oo 8 (.mov (.s 1))),(oo 9 (.call (fx n_redo_Check) [(.s 7),(.s 8)])),(oo 6 (.mov (.s 9)))]) (.seq (.reg [(oo 10 (.mov (.s 6))),(oo 11 (.bin .neq (.s 10) (.c (.int .i64 0))))]) (.cond (.s 11) (.seq (.reg [(oo 12 (.mov (.s 6))),(oo 4 (.mov nx0)),(oo 5 (.mov (.s 12)))]) .ret) .skip))) (.seq (.reg [(oo 13 (.mov (.s 0))),(oo 14 (.mov (.s 1))),(oo 15 (.call (fx n_redo_again) [(.s 13),(.s 14)])),(oo 4 (.mov (.s 15))),(oo 5 (.mov (.c (.int .i64 0))))]) .ret)))
def F_redo_Redo (P : Program) (a0 a1 : V) (st : St) (K : V → St → Prop) : Prop :=
 @stp P (.call (.c (.fn (.func n_redo_Check) [] [])) [(.c a0),(.c a1)]) st ⟨fun v9 st =>
 @stp P (.bin .neq (.c v9) (.c (.int .i64 0))) st ⟨fun v11 st =>
 @cnd v11 ⟨
 GhostV [(.sl .nil 0 [] []),v9] st fun vs st => K (mkres vs) st⟩
 ⟨
 @stp P (.call (.c (.fn (.func n_redo_again) [] [])) [(.c a0),(.c a1)]) st ⟨fun v15 st =>
 GhostV [v15,(.int .i64 0)] st fun vs st => K (mkres vs) st⟩⟩⟩⟩
theorem q_redo_Redo {P : Program} {a0 a1 : V} {st : St} {K : V → St → Prop} : F_redo_Redo P a0 a1 st K = hwp P c_redo_Redo (hretQ [.tmp 4, .tmp 5] K) (enterFr [a0, a1]) st := by kernel_rfl
abbrev R_redo_Redo (P : Program) : Prop := resFnH P n_redo_Redo = some (16, c_redo_Redo.er, [.tmp 4, .tmp 5])
theorem A_redo_Redo {P : Program} (h : R_redo_Redo P) {a0 a1 : V} {st : St} {K : V → St → Prop} (hF : F_redo_Redo P a0 a1 st K) : ACalls P n_redo_Redo [a0, a1] st K :=
  ACalls_h h rfl (by simp) (q_redo_Redo ▸ hF)

def c_redo_Check : ACode := (.seq (.reg [(oo 4 (.mov (.c (.int .i64 0))))]) (.seq (.seq (.reg [(oo 12 (.mov (.s 1))),(oo 13 (.call (fx n_record_CheckRow) [(.s 12)])),(oo 5 (.mov (.s 13)))]) (.seq (.reg [(oo 14 (.mov (.s 5))),(oo 15 (.bin .neq (.s 14) (.c (.int .i64 0))))]) (.cond (.s 15) (.seq (.reg [(oo 16 (.mov (.s 5))),(oo 4 (.mov (.s 16)))]) .ret) .skip))) (.seq (.reg [(oo 17 .mkmap),(oo 6 (.mov (.s 17)))]) (.seq (.seq (.reg [(oo 18 (.mov (.s 1))),(oo 19 (.len .sl (.s 18))),(oo 20 (.mov (.c (.int .i64 0))))]) (.block 0 (.loop [20] [8,20,21,22,23,24,25,26,27,28,29] (.seq (.reg [(oo 21 (.bin .lss (.s 20) (.s 19)))]) (.seq (.cond (.s 21) .skip (.exit 0)) (.seq (.block 1 (.seq (.reg [(oo 22 (.idx 9 (.s 18) (.s 20))),(oo 23 (.ld (some 9) (.s 22))),(oo 8 (.alloc zrR)),⟨none,none,(.st 9 (.s 8) (.s 23))⟩]) (.seq (.reg [(oo 24 (.ld (some 9) (.s 8))),(oo 25 (.call (fx n_redo_changes) [(.s 24)]))]) (.cond (.s 25) (.reg [(oo 26 (.mov (.s 6))),(oo 27 (.fld 4 (.s 8))),(oo 28 (.ld none (.s 27))),⟨none,none,(.mupd (.one .int) (.s 26) (.s 28) (.c (.bool true)))⟩]) .skip)))) (.reg [(oo 29 (.bin .add (.s 20) (.c (.int .i64 1)))),(oo 20 (.mov (.s 29)))]))))))) (.seq (.reg [(oo 30 (.mov (.s 0))),(oo 31 (.len .sl (.s 30))),(oo 32 (.bin .leq (.s 31) (.c (.int .i64 32)))),(oo 9 (.mov (.s 32)))]) (.seq (.seq (.reg [(oo 33 (.mov (.s 0))),(oo 34 (.len .sl (.s 33))),(oo 35 (.mov (.c (.int .i64 0))))]) (.block 2 (.loop [9,35] [9,10,11,35,36,37,38,39,40,41,42,43,44,45,46,47,48,49,50,51,52,53,54,55,56,57,58,59,60,61,62,63,64,65,66,67,68,69,70,71,72,73,74,75,76,77,78,79] (.seq (.reg [(oo 36 (.bin .lss (.s 35) (.s 34)))]) (.seq (.cond (.s 36) .skip (.exit 2)) (.seq (.block 3 (.seq (.reg [(oo 37 (.mov (.s 35))),(oo 38 (.idx 6 (.s 33) (.s 35))),(oo 39 (.ld (some 6) (.s 38))),(oo 11 (.alloc zrP)),(oo 10 (.mov (.s 37))),⟨none,none,(.st 6 (.s 11) (.s 39))⟩]) (.seq (.regD [(oo 40 (.mov (.s 9))),(oo 41 (.mov (.s 40))),⟨(some 42),(some (41,true)),(.ld (some 6) (.s 11))⟩,⟨(some 43),(some (41,true)),(.call (fx n_page_Check) [(.s 42)])⟩,⟨(some 44),(some (41,true)),(.bin .eql (.s 43) (.c (.int .i64 0)))⟩,(oo 45 (.pick (.s 41) (.s 44) (.c (.bool false)))),(oo 46 (.mov (.s 45))),⟨(some 47),(some (46,true)),(.mov (.s 10))⟩,⟨(some 48),(some (46,true)),(.bin .eql (.s 47) (.c (.int .i64 0)))⟩,⟨(some 49),(some (46,true)),(.mov (.s 48))⟩,⟨(some 50),(some (49,false)),(.mov (.s 0))⟩,⟨(some 51),(some (49,false)),(.mov (.s 10))⟩,⟨(some 52),(some (49,false)),(.bin .sub (.s 51) (.c (.int .i64 1)))⟩,⟨(some 53),(some (49,false)),(.idx 6 (.s 50) (.s 52))⟩,⟨(some 54),(some (49,false)),(.fld 0 (.s 53))⟩,⟨(some 55),(some (49,false)),(.ld none (.s 54))⟩,⟨(some 56),(some (49,false)),(.fld 0 (.s 11))⟩,⟨(some 57),(some (49,false)),(.ld none (.s 56))⟩,⟨(some 58),(some (49,false)),(.bin .lss (.s 55) (.s 57))⟩,⟨(some 59),(some (46,true)),(.pick (.s 49) (.c (.bool true)) (.s 58))⟩,(oo 60 (.pick (.s 46) (.s 59) (.c (.bool false)))),(oo 9 (.mov (.s 60)))] [(0,(false,[])),(1,(false,[])),(2,(false,[])),(3,(true,[])),(4,(false,[])),(5,(false,[])),(6,(false,[])),(7,(false,[])),(8,(false,[])),(9,(false,[])),(10,(false,[])),(11,(false,[])),(12,(false,[])),(13,(false,[])),(14,(false,[])),(15,(false,[])),(16,(false,[])),(17,(false,[])),(18,(false,[])),(19,(false,[])),(20,(false,[])),(21,(true,[]))]) (.seq (.regD [(oo 61 (.mov (.s 9))),(oo 62 (.mov (.s 61))),⟨(some 63),(some (62,true)),(.mov (.s 6))⟩,⟨(some 64),(some (62,true)),(.fld 0 (.s 11))⟩,⟨(some 65),(some (62,true)),(.ld none (.s 64))⟩,⟨(some 66),(some (62,true)),(.lookup (.one .int) (.bool false) false (.s 63) (.s 65))⟩,⟨(some 67),(some (62,true)),(.mov (.s 66))⟩,⟨(some 68),(some (67,true)),(.fld 1 (.s 11))⟩,⟨(some 69),(some (67,true)),(.ld none (.s 68))⟩,⟨(some 70),(some (67,true)),(.mov (.s 1))⟩,⟨(some 71),(some (67,true)),(.call (fx n_redo_end) [(.s 70)])⟩,⟨(some 72),(some (67,true)),(.bin .gtr (.s 69) (.s 71))⟩,⟨(some 73),(some (62,true)),(.pick (.s 67) (.s 72) (.c (.bool false)))⟩,⟨(some 74),(some (62,true)),(.un .not (.s 73))⟩,(oo 75 (.pick (.s 62) (.s 74) (.c (.bool false)))),(oo 9 (.mov (.s 75)))] [(0,(false,[])),(1,(false,[])),(2,(false,[])),(3,(false,[])),(4,(false,[])),(5,(false,[])),(6,(false,[])),(7,(false,[])),(8,(false,[])),(9,(false,[])),(10,(true,[8,7])),(11,(false,[])),(12,(false,[])),(13,(false,[])),(14,(false,[])),(15,(true,[]))]) (.reg [(oo 76 (.mov (.s 6))),(oo 77 (.fld 0 (.s 11))),(oo 78 (.ld none (.s 77))),⟨none,none,(.mdel (.one .int) (.s 76) (.s 78))⟩]))))) (.reg [(oo 79 (.bin .add (.s 35) (.c (.int .i64 1)))),(oo 35 (.mov (.s 79)))]))))))) (.seq (.seq (.reg [(oo 80 (.mov (.s 9))),(oo 81 (.un .not (.s 80))),(oo 82 (.mov (.s 81))),⟨(some 83),(some (82,false)),(.mov (.s 6))⟩,⟨(some 84),(some (82,false)),(.len .map (.s 83))⟩,⟨(some 85),(some (82,false)),(.bin .gtr (.s 84) (.c (.int .i64 0)))⟩,(oo 86 (.pick (.s 82) (.c (.bool true)) (.s 85)))]) (.cond (.s 86) (.seq (.reg [(oo 4 (.mov (.c (.int .i64 220))))]) .ret) .skip)) (.seq (.reg [(oo 4 (.mov (.c (.int .i64 0))))]) .ret))))))))
def F_redo_Check (P : Program) (a0 a1 : V) (st : St) (K : V → St → Prop) : Prop :=
 @stp P (.call (.c (.fn (.func n_record_CheckRow) [] [])) [(.c a1)]) st ⟨fun v13 st =>
 @stp P (.bin .neq (.c v13) (.c (.int .i64 0))) st ⟨fun v15 st =>
 @cnd v15 ⟨
 GhostV [v13] st fun vs st => K (mkres vs) st⟩
 ⟨
 @stp P .mkmap st ⟨fun v17 st =>
 @stp P (.len .sl (.c a1)) st ⟨fun v19 st =>
 @Hold ⟨∃ I1 : Nat → Rel 1,(∃ k,GhostV [(.int .i64 0)] st (app (I1 k))) ∧ ∀ k1 v20,∀ st,app (I1 k1) [v20] st →
 @stp P (.bin .lss (.c v20) (.c v19)) st ⟨fun v21 st =>
 @cnd v21 ⟨
 @stp P (.idx 9 (.c a1) (.c v20)) st ⟨fun v22 st =>
 @stp P (.ld (some 9) (.c v22)) st ⟨fun v23 st =>
 @stp P (.alloc [(.int .u64 0),(.int .i64 0),(.int .u64 0),(.int .u64 0),(.int .i64 0),(.int .i64 0),(.sl .nil 0 [] []),(.sl .nil 0 [] []),(.int .u64 0)]) st ⟨fun v8 st =>
 @stp P (.st 9 (.c v8) (.c v23)) st ⟨fun _v st =>
 @stp P (.ld (some 9) (.c v8)) st ⟨fun v24 st =>
 @stp P (.call (.c (.fn (.func n_redo_changes) [] [])) [(.c v24)]) st ⟨fun v25 st =>
 @cnd v25 ⟨
 @stp P (.fld 4 (.c v8)) st ⟨fun v27 st =>
 @stp P (.ld none (.c v27)) st ⟨fun v28 st =>
 @stp P (.mupd (.one .int) (.c v17) (.c v28) (.c (.bool true))) st ⟨fun _v st =>
 @stp P (.bin .add (.c v20) (.c (.int .i64 1))) st ⟨fun v29 st =>
 ∃ j,j < k1 ∧ GhostV [v29] st (app (I1 j))⟩⟩⟩⟩⟩
 ⟨
 @stp P (.bin .add (.c v20) (.c (.int .i64 1))) st ⟨fun v29 st =>
 ∃ j,j < k1 ∧ GhostV [v29] st (app (I1 j))⟩⟩⟩⟩⟩⟩⟩⟩⟩
 ⟨
 @stp P (.len .sl (.c a0)) st ⟨fun v31 st =>
 @stp P (.bin .leq (.c v31) (.c (.int .i64 32))) st ⟨fun v32 st =>
 @stp P (.len .sl (.c a0)) st ⟨fun v34 st =>
 @Hold ⟨∃ I2 : Nat → Rel 2,(∃ k,GhostV [v32,(.int .i64 0)] st (app (I2 k))) ∧ ∀ k2 v9 v35,∀ st,app (I2 k2) [v9,v35] st →
 @stp P (.bin .lss (.c v35) (.c v34)) st ⟨fun v36 st =>
 @cnd v36 ⟨
 @stp P (.idx 6 (.c a0) (.c v35)) st ⟨fun v38 st =>
 @stp P (.ld (some 6) (.c v38)) st ⟨fun v39 st =>
 @stp P (.alloc [(.int .i64 0),(.int .u64 0),(.sl .nil 0 [] []),(.sl .nil 0 [] []),(.sl .nil 0 [] []),(.sl .nil 0 [] [])]) st ⟨fun v11 st =>
 @stp P (.st 6 (.c v11) (.c v39)) st ⟨fun _v st =>
 @gstD P v9 true (.ld (some 6) (.c v11)) st ⟨fun v42 st =>
 @gstD P v9 true (.call (.c (.fn (.func n_page_Check) [] [])) [(.c v42)]) st ⟨fun v43 st =>
 @gstD P v9 true (.bin .eql (.c v43) (.c (.int .i64 0))) st ⟨fun v44 st =>
 @stpD P (.pick (.c v9) (.c v44) (.c (.bool false))) st ⟨fun v45 st =>
 @gstD P v45 true (.mov (.c v35)) st ⟨fun v47 st =>
 @gstD P v45 true (.bin .eql (.c v47) (.c (.int .i64 0))) st ⟨fun v48 st =>
 @gstD P v45 true (.mov (.c v48)) st ⟨fun v49 st =>
 @gstD P v49 false (.mov (.c a0)) st ⟨fun v50 st =>
 @gstD P v49 false (.mov (.c v35)) st ⟨fun v51 st =>
 @gstD P v49 false (.bin .sub (.c v51) (.c (.int .i64 1))) st ⟨fun v52 st =>
 @gstD P v49 false (.idx 6 (.c v50) (.c v52)) st ⟨fun v53 st =>
 @gstD P v49 false (.fld 0 (.c v53)) st ⟨fun v54 st =>
 @gstD P v49 false (.ld none (.c v54)) st ⟨fun v55 st =>
 @gstD P v49 false (.fld 0 (.c v11)) st ⟨fun v56 st =>
 @gstD P v49 false (.ld none (.c v56)) st ⟨fun v57 st =>
 @gstD P v49 false (.bin .lss (.c v55) (.c v57)) st ⟨fun v58 st =>
 @gstD P v45 true (.pick (.c v49) (.c (.bool true)) (.c v58)) st ⟨fun v59 st =>
 @stpD P (.pick (.c v45) (.c v59) (.c (.bool false))) st ⟨fun v60 st =>
 @gstD P v60 true (.mov (.c v17)) st ⟨fun v63 st =>
 @gstD P v60 true (.fld 0 (.c v11)) st ⟨fun v64 st =>
 @gstD P v60 true (.ld none (.c v64)) st ⟨fun v65 st =>
 @gstD P v60 true (.lookup (.one .int) (.bool false) false (.c v63) (.c v65)) st ⟨fun v66 st =>
 @gstD P v60 true (.mov (.c v66)) st ⟨fun v67 st =>
 @gstD P v67 true (.fld 1 (.c v11)) st ⟨fun v68 st =>
 @gstD P v67 true (.ld none (.c v68)) st ⟨fun v69 st =>
 @gstD P v67 true (.mov (.c a1)) st ⟨fun v70 st =>
 @gstD P v67 true (.call (.c (.fn (.func n_redo_end) [] [])) [(.c v70)]) st ⟨fun v71 st =>
 hwat P (some (v67,true)) (.ld none (.c v68)) st v69 ∧ (
 hwat P (some (v67,true)) (.fld 1 (.c v11)) st v68 ∧ (
 @gstD P v67 true (.bin .gtr (.c v69) (.c v71)) st ⟨fun v72 st =>
 @gstD P v60 true (.pick (.c v67) (.c v72) (.c (.bool false))) st ⟨fun v73 st =>
 @gstD P v60 true (.un .not (.c v73)) st ⟨fun v74 st =>
 @stpD P (.pick (.c v60) (.c v74) (.c (.bool false))) st ⟨fun v75 st =>
 @stp P (.fld 0 (.c v11)) st ⟨fun v77 st =>
 @stp P (.ld none (.c v77)) st ⟨fun v78 st =>
 @stp P (.mdel (.one .int) (.c v17) (.c v78)) st ⟨fun _v st =>
 @stp P (.bin .add (.c v35) (.c (.int .i64 1))) st ⟨fun v79 st =>
 ∃ j,j < k2 ∧ GhostV [v75,v79] st (app (I2 j))⟩⟩⟩⟩⟩⟩⟩⟩))⟩⟩⟩⟩⟩⟩⟩⟩⟩⟩⟩⟩⟩⟩⟩⟩⟩⟩⟩⟩⟩⟩⟩⟩⟩⟩⟩⟩⟩⟩⟩⟩
 ⟨
 @stp P (.un .not (.c v9)) st ⟨fun v81 st =>
 @gst P v81 false (.mov (.c v17)) st ⟨fun v83 st =>
 @gst P v81 false (.len .map (.c v83)) st ⟨fun v84 st =>
 @gst P v81 false (.bin .gtr (.c v84) (.c (.int .i64 0))) st ⟨fun v85 st =>
 @stp P (.pick (.c v81) (.c (.bool true)) (.c v85)) st ⟨fun v86 st =>
 @cnd v86 ⟨
 GhostV [(.int .i64 220)] st fun vs st => K (mkres vs) st⟩
 ⟨
 GhostV [(.int .i64 0)] st fun vs st => K (mkres vs) st⟩⟩⟩⟩⟩⟩⟩⟩⟩⟩⟩⟩⟩⟩⟩⟩⟩⟩⟩⟩
theorem q_redo_Check {P : Program} {a0 a1 : V} {st : St} {K : V → St → Prop} : F_redo_Check P a0 a1 st K = hwp P c_redo_Check (hretQ [.tmp 4] K) (enterFr [a0, a1]) st := by kernel_rfl
abbrev R_redo_Check (P : Program) : Prop := resFnH P n_redo_Check = some (87, c_redo_Check.er, [.tmp 4])
theorem A_redo_Check {P : Program} (h : R_redo_Check P) {a0 a1 : V} {st : St} {K : V → St → Prop} (hF : F_redo_Check P a0 a1 st K) : ACalls P n_redo_Check [a0, a1] st K :=
  ACalls_h h rfl (by simp) (q_redo_Check ▸ hF)

def c_gazetteerref12_Together : ACode := (.seq (.reg [(oo 4 (.mov (.c (.bool false))))]) (.seq (.seq (.reg [(oo 15 (.mov (.s 0))),(oo 16 (.len .sl (.s 15))),(oo 17 (.bin .gtr (.s 16) (.c (.int .i64 32))))]) (.cond (.s 17) (.seq (.reg [(oo 4 (.mov (.c (.bool false))))]) .ret) .skip)) (.seq (.seq (.reg [(oo 18 (.mov (.s 0))),(oo 19 (.len .sl (.s 18))),(oo 20 (.mov (.c (.int .i64 0))))]) (.block 0 (.loop [20] [4,5,6,7,9,20,21,22,23,24,25,26,27,28,29,30,31,32,33,34,35,36,37,38,39,40,41,42,43,44,45,46,47,48,49,50,51,52,53,54,55,56,57,58,59,60,61,62,63,64,65,66,67,68,69,70] (.seq (.reg [(oo 21 (.bin .lss (.s 20) (.s 19)))]) (.seq (.cond (.s 21) .skip (.exit 0)) (.seq (.block 1 (.seq (.reg [(oo 22 (.mov (.s 20))),(oo 23 (.idx 6 (.s 18) (.s 20))),(oo 24 (.ld (some 6) (.s 23))),(oo 6 (.alloc zrP)),(oo 5 (.mov (.s 22))),⟨none,none,(.st 6 (.s 6) (.s 24))⟩]) (.seq (.seq (.regD [(oo 25 (.ld (some 6) (.s 6))),(oo 26 (.call (fx n_gazetteerref06_Right) [(.s 25)])),(oo 27 (.un .not (.s 26))),(oo 28 (.mov (.s 27))),⟨(some 29),(some (28,false)),(.mov (.s 5))⟩,⟨(some 30),(some (28,false)),(.bin .gtr (.s 29) (.c (.int .i64 0)))⟩,⟨(some 31),(some (28,false)),(.mov (.s 30))⟩,⟨(some 32),(some (31,true)),(.mov (.s 0))⟩,⟨(some 33),(some (31,true)),(.mov (.s 5))⟩,⟨(some 34),(some (31,true)),(.bin .sub (.s 33) (.c (.int .i64 1)))⟩,⟨(some 35),(some (31,true)),(.idx 6 (.s 32) (.s 34))⟩,⟨(some 36),(some (31,true)),(.fld 0 (.s 35))⟩,⟨(some 37),(some (31,true)),(.ld none (.s 36))⟩,⟨(some 38),(some (31,true)),(.fld 0 (.s 6))⟩,⟨(some 39),(some (31,true)),(.ld none (.s 38))⟩,⟨(some 40),(some (31,true)),(.bin .geq (.s 37) (.s 39))⟩,⟨(some 41),(some (28,false)),(.pick (.s 31) (.s 40) (.c (.bool false)))⟩,(oo 42 (.pick (.s 28) (.c (.bool true)) (.s 41)))] [(0,(false,[])),(1,(true,[])),(2,(false,[])),(3,(false,[])),(4,(false,[])),(5,(false,[])),(6,(false,[])),(7,(false,[])),(8,(false,[])),(9,(false,[])),(10,(false,[])),(11,(false,[])),(12,(false,[])),(13,(false,[])),(14,(false,[])),(15,(false,[])),(16,(false,[])),(17,(false,[]))]) (.cond (.s 42) (.seq (.reg [(oo 4 (.mov (.c (.bool false))))]) .ret) .skip)) (.seq (.reg [(oo 7 (.mov (.c (.bool false))))]) (.seq (.seq (.reg [(oo 43 (.mov (.s 1))),(oo 44 (.len .sl (.s 43))),(oo 45 (.mov (.c (.int .i64 0))))]) (.block 2 (.loop [7,45] [7,9,45,46,47,48,49,50,51,52,53,54,55,56,57,58,59,60,61] (.seq (.reg [(oo 46 (.bin .lss (.s 45) (.s 44)))]) (.seq (.cond (.s 46) .skip (.exit 2)) (.seq (.block 3 (.seq (.reg [(oo 47 (.idx 9 (.s 43) (.s 45))),(oo 48 (.ld (some 9) (.s 47))),(oo 9 (.alloc zrR)),⟨none,none,(.st 9 (.s 9) (.s 48))⟩]) (.reg [(oo 49 (.mov (.s 7))),(oo 50 (.mov (.s 49))),⟨(some 51),(some (50,false)),(.ld (some 9) (.s 9))⟩,⟨(some 52),(some (50,false)),(.call (fx n_gazetteerref12_changes) [(.s 51)])⟩,⟨(some 53),(some (50,false)),(.mov (.s 52))⟩,⟨(some 54),(some (53,true)),(.fld 4 (.s 9))⟩,⟨(some 55),(some (53,true)),(.ld none (.s 54))⟩,⟨(some 56),(some (53,true)),(.fld 0 (.s 6))⟩,⟨(some 57),(some (53,true)),(.ld none (.s 56))⟩,⟨(some 58),(some (53,true)),(.bin .eql (.s 55) (.s 57))⟩,⟨(some 59),(some (50,false)),(.pick (.s 53) (.s 58) (.c (.bool false)))⟩,(oo 60 (.pick (.s 50) (.c (.bool true)) (.s 59))),(oo 7 (.mov (.s 60)))]))) (.reg [(oo 61 (.bin .add (.s 45) (.c (.int .i64 1)))),(oo 45 (.mov (.s 61)))]))))))) (.seq (.regD [(oo 62 (.mov (.s 7))),(oo 63 (.mov (.s 62))),⟨(some 64),(some (63,true)),(.fld 1 (.s 6))⟩,⟨(some 65),(some (63,true)),(.ld none (.s 64))⟩,⟨(some 66),(some (63,true)),(.mov (.s 1))⟩,⟨(some 67),(some (63,true)),(.call (fx n_gazetteerref12_last) [(.s 66)])⟩,⟨(some 68),(some (63,true)),(.bin .gtr (.s 65) (.s 67))⟩,(oo 69 (.pick (.s 63) (.s 68) (.c (.bool false))))] [(0,(false,[])),(1,(false,[])),(2,(false,[])),(3,(false,[])),(4,(false,[])),(5,(true,[3,2])),(6,(false,[])),(7,(false,[]))]) (.cond (.s 69) (.seq (.reg [(oo 4 (.mov (.c (.bool false))))]) .ret) .skip))))))) (.reg [(oo 70 (.bin .add (.s 20) (.c (.int .i64 1)))),(oo 20 (.mov (.s 70)))]))))))) (.seq (.seq (.reg [(oo 71 (.mov (.s 1))),(oo 72 (.len .sl (.s 71))),(oo 73 (.mov (.c (.int .i64 0))))]) (.block 4 (.loop [73] [4,11,12,14,73,74,75,76,77,78,79,80,81,82,83,84,85,86,87,88,89,90,91,92,93,94,95,96,97] (.seq (.reg [(oo 74 (.bin .lss (.s 73) (.s 72)))]) (.seq (.cond (.s 74) .skip (.exit 4)) (.seq (.block 5 (.seq (.reg [(oo 75 (.idx 9 (.s 71) (.s 73))),(oo 76 (.ld (some 9) (.s 75))),(oo 11 (.alloc zrR)),⟨none,none,(.st 9 (.s 11) (.s 76))⟩]) (.seq (.reg [(oo 77 (.ld (some 9) (.s 11))),(oo 78 (.call (fx n_gazetteerref12_changes) [(.s 77)])),(oo 79 (.un .not (.s 78))),(oo 12 (.mov (.s 79)))]) (.seq (.seq (.reg [(oo 80 (.mov (.s 0))),(oo 81 (.len .sl (.s 80))),(oo 82 (.mov (.c (.int .i64 0))))]) (.block 6 (.loop [12,82] [12,14,82,83,84,85,86,87,88,89,90,91,92,93,94] (.seq (.reg [(oo 83 (.bin .lss (.s 82) (.s 81)))]) (.seq (.cond (.s 83) .skip (.exit 6)) (.seq (.block 7 (.seq (.reg [(oo 84 (.idx 6 (.s 80) (.s 82))),(oo 85 (.ld (some 6) (.s 84))),(oo 14 (.alloc zrP)),⟨none,none,(.st 6 (.s 14) (.s 85))⟩]) (.reg [(oo 86 (.mov (.s 12))),(oo 87 (.mov (.s 86))),⟨(some 88),(some (87,false)),(.fld 0 (.s 14))⟩,⟨(some 89),(some (87,false)),(.ld none (.s 88))⟩,⟨(some 90),(some (87,false)),(.fld 4 (.s 11))⟩,⟨(some 91),(some (87,false)),(.ld none (.s 90))⟩,⟨(some 92),(some (87,false)),(.bin .eql (.s 89) (.s 91))⟩,(oo 93 (.pick (.s 87) (.c (.bool true)) (.s 92))),(oo 12 (.mov (.s 93)))]))) (.reg [(oo 94 (.bin .add (.s 82) (.c (.int .i64 1)))),(oo 82 (.mov (.s 94)))]))))))) (.seq (.reg [(oo 95 (.mov (.s 12))),(oo 96 (.un .not (.s 95)))]) (.cond (.s 96) (.seq (.reg [(oo 4 (.mov (.c (.bool false))))]) .ret) .skip)))))) (.reg [(oo 97 (.bin .add (.s 73) (.c (.int .i64 1)))),(oo 73 (.mov (.s 97)))]))))))) (.seq (.reg [(oo 4 (.mov (.c (.bool true))))]) .ret)))))
def F_gazetteerref12_Together (P : Program) (a0 a1 : V) (st : St) (K : V → St → Prop) : Prop :=
 @stp P (.len .sl (.c a0)) st ⟨fun v16 st =>
 @stp P (.bin .gtr (.c v16) (.c (.int .i64 32))) st ⟨fun v17 st =>
 @cnd v17 ⟨
 GhostV [(.bool false)] st fun vs st => K (mkres vs) st⟩
 ⟨
 @stp P (.len .sl (.c a0)) st ⟨fun v19 st =>
 @Hold ⟨∃ I1 : Nat → Rel 1,(∃ k,GhostV [(.int .i64 0)] st (app (I1 k))) ∧ ∀ k1 v20,∀ st,app (I1 k1) [v20] st →
 @stp P (.bin .lss (.c v20) (.c v19)) st ⟨fun v21 st =>
 @cnd v21 ⟨
 @stp P (.idx 6 (.c a0) (.c v20)) st ⟨fun v23 st =>
 @stp P (.ld (some 6) (.c v23)) st ⟨fun v24 st =>
 @stp P (.alloc [(.int .i64 0),(.int .u64 0),(.sl .nil 0 [] []),(.sl .nil 0 [] []),(.sl .nil 0 [] []),(.sl .nil 0 [] [])]) st ⟨fun v6 st =>
 @stp P (.st 6 (.c v6) (.c v24)) st ⟨fun _v st =>
 @stpD P (.ld (some 6) (.c v6)) st ⟨fun v25 st =>
 @stpD P (.call (.c (.fn (.func n_gazetteerref06_Right) [] [])) [(.c v25)]) st ⟨fun v26 st =>
 @stpD P (.un .not (.c v26)) st ⟨fun v27 st =>
 @gstD P v27 false (.mov (.c v20)) st ⟨fun v29 st =>
 @gstD P v27 false (.bin .gtr (.c v29) (.c (.int .i64 0))) st ⟨fun v30 st =>
 @gstD P v27 false (.mov (.c v30)) st ⟨fun v31 st =>
 @gstD P v31 true (.mov (.c a0)) st ⟨fun v32 st =>
 @gstD P v31 true (.mov (.c v20)) st ⟨fun v33 st =>
 @gstD P v31 true (.bin .sub (.c v33) (.c (.int .i64 1))) st ⟨fun v34 st =>
 @gstD P v31 true (.idx 6 (.c v32) (.c v34)) st ⟨fun v35 st =>
 @gstD P v31 true (.fld 0 (.c v35)) st ⟨fun v36 st =>
 @gstD P v31 true (.ld none (.c v36)) st ⟨fun v37 st =>
 @gstD P v31 true (.fld 0 (.c v6)) st ⟨fun v38 st =>
 @gstD P v31 true (.ld none (.c v38)) st ⟨fun v39 st =>
 @gstD P v31 true (.bin .geq (.c v37) (.c v39)) st ⟨fun v40 st =>
 @gstD P v27 false (.pick (.c v31) (.c v40) (.c (.bool false))) st ⟨fun v41 st =>
 @stpD P (.pick (.c v27) (.c (.bool true)) (.c v41)) st ⟨fun v42 st =>
 @cnd v42 ⟨
 GhostV [(.bool false)] st fun vs st => K (mkres vs) st⟩
 ⟨
 @stp P (.len .sl (.c a1)) st ⟨fun v44 st =>
 @Hold ⟨∃ I2 : Nat → Rel 2,(∃ k,GhostV [(.bool false),(.int .i64 0)] st (app (I2 k))) ∧ ∀ k2 v7 v45,∀ st,app (I2 k2) [v7,v45] st →
 @stp P (.bin .lss (.c v45) (.c v44)) st ⟨fun v46 st =>
 @cnd v46 ⟨
 @stp P (.idx 9 (.c a1) (.c v45)) st ⟨fun v47 st =>
 @stp P (.ld (some 9) (.c v47)) st ⟨fun v48 st =>
 @stp P (.alloc [(.int .u64 0),(.int .i64 0),(.int .u64 0),(.int .u64 0),(.int .i64 0),(.int .i64 0),(.sl .nil 0 [] []),(.sl .nil 0 [] []),(.int .u64 0)]) st ⟨fun v9 st =>
 @stp P (.st 9 (.c v9) (.c v48)) st ⟨fun _v st =>
 @gst P v7 false (.ld (some 9) (.c v9)) st ⟨fun v51 st =>
 @gst P v7 false (.call (.c (.fn (.func n_gazetteerref12_changes) [] [])) [(.c v51)]) st ⟨fun v52 st =>
 @gst P v7 false (.mov (.c v52)) st ⟨fun v53 st =>
 @gst P v53 true (.fld 4 (.c v9)) st ⟨fun v54 st =>
 @gst P v53 true (.ld none (.c v54)) st ⟨fun v55 st =>
 @gst P v53 true (.fld 0 (.c v6)) st ⟨fun v56 st =>
 @gst P v53 true (.ld none (.c v56)) st ⟨fun v57 st =>
 @gst P v53 true (.bin .eql (.c v55) (.c v57)) st ⟨fun v58 st =>
 @gst P v7 false (.pick (.c v53) (.c v58) (.c (.bool false))) st ⟨fun v59 st =>
 @stp P (.pick (.c v7) (.c (.bool true)) (.c v59)) st ⟨fun v60 st =>
 @stp P (.bin .add (.c v45) (.c (.int .i64 1))) st ⟨fun v61 st =>
 ∃ j,j < k2 ∧ GhostV [v60,v61] st (app (I2 j))⟩⟩⟩⟩⟩⟩⟩⟩⟩⟩⟩⟩⟩⟩⟩⟩
 ⟨
 @gstD P v7 true (.fld 1 (.c v6)) st ⟨fun v64 st =>
 @gstD P v7 true (.ld none (.c v64)) st ⟨fun v65 st =>
 @gstD P v7 true (.mov (.c a1)) st ⟨fun v66 st =>
 @gstD P v7 true (.call (.c (.fn (.func n_gazetteerref12_last) [] [])) [(.c v66)]) st ⟨fun v67 st =>
 hwat P (some (v7,true)) (.ld none (.c v64)) st v65 ∧ (
 hwat P (some (v7,true)) (.fld 1 (.c v6)) st v64 ∧ (
 @gstD P v7 true (.bin .gtr (.c v65) (.c v67)) st ⟨fun v68 st =>
 @stpD P (.pick (.c v7) (.c v68) (.c (.bool false))) st ⟨fun v69 st =>
 @cnd v69 ⟨
 GhostV [(.bool false)] st fun vs st => K (mkres vs) st⟩
 ⟨
 @stp P (.bin .add (.c v20) (.c (.int .i64 1))) st ⟨fun v70 st =>
 ∃ j,j < k1 ∧ GhostV [v70] st (app (I1 j))⟩⟩⟩⟩))⟩⟩⟩⟩⟩⟩⟩⟩⟩⟩⟩⟩⟩⟩⟩⟩⟩⟩⟩⟩⟩⟩⟩⟩⟩⟩⟩⟩⟩⟩⟩
 ⟨
 @stp P (.len .sl (.c a1)) st ⟨fun v72 st =>
 @Hold ⟨∃ I3 : Nat → Rel 1,(∃ k,GhostV [(.int .i64 0)] st (app (I3 k))) ∧ ∀ k3 v73,∀ st,app (I3 k3) [v73] st →
 @stp P (.bin .lss (.c v73) (.c v72)) st ⟨fun v74 st =>
 @cnd v74 ⟨
 @stp P (.idx 9 (.c a1) (.c v73)) st ⟨fun v75 st =>
 @stp P (.ld (some 9) (.c v75)) st ⟨fun v76 st =>
 @stp P (.alloc [(.int .u64 0),(.int .i64 0),(.int .u64 0),(.int .u64 0),(.int .i64 0),(.int .i64 0),(.sl .nil 0 [] []),(.sl .nil 0 [] []),(.int .u64 0)]) st ⟨fun v11 st =>
 @stp P (.st 9 (.c v11) (.c v76)) st ⟨fun _v st =>
 @stp P (.ld (some 9) (.c v11)) st ⟨fun v77 st =>
 @stp P (.call (.c (.fn (.func n_gazetteerref12_changes) [] [])) [(.c v77)]) st ⟨fun v78 st =>
 @stp P (.un .not (.c v78)) st ⟨fun v79 st =>
 @stp P (.len .sl (.c a0)) st ⟨fun v81 st =>
 @Hold ⟨∃ I4 : Nat → Rel 2,(∃ k,GhostV [v79,(.int .i64 0)] st (app (I4 k))) ∧ ∀ k4 v12 v82,∀ st,app (I4 k4) [v12,v82] st →
 @stp P (.bin .lss (.c v82) (.c v81)) st ⟨fun v83 st =>
 @cnd v83 ⟨
 @stp P (.idx 6 (.c a0) (.c v82)) st ⟨fun v84 st =>
 @stp P (.ld (some 6) (.c v84)) st ⟨fun v85 st =>
 @stp P (.alloc [(.int .i64 0),(.int .u64 0),(.sl .nil 0 [] []),(.sl .nil 0 [] []),(.sl .nil 0 [] []),(.sl .nil 0 [] [])]) st ⟨fun v14 st =>
 @stp P (.st 6 (.c v14) (.c v85)) st ⟨fun _v st =>
 @gst P v12 false (.fld 0 (.c v14)) st ⟨fun v88 st =>
 @gst P v12 false (.ld none (.c v88)) st ⟨fun v89 st =>
 @gst P v12 false (.fld 4 (.c v11)) st ⟨fun v90 st =>
 @gst P v12 false (.ld none (.c v90)) st ⟨fun v91 st =>
 @gst P v12 false (.bin .eql (.c v89) (.c v91)) st ⟨fun v92 st =>
 @stp P (.pick (.c v12) (.c (.bool true)) (.c v92)) st ⟨fun v93 st =>
 @stp P (.bin .add (.c v82) (.c (.int .i64 1))) st ⟨fun v94 st =>
 ∃ j,j < k4 ∧ GhostV [v93,v94] st (app (I4 j))⟩⟩⟩⟩⟩⟩⟩⟩⟩⟩⟩⟩
 ⟨
 @stp P (.un .not (.c v12)) st ⟨fun v96 st =>
 @cnd v96 ⟨
 GhostV [(.bool false)] st fun vs st => K (mkres vs) st⟩
 ⟨
 @stp P (.bin .add (.c v73) (.c (.int .i64 1))) st ⟨fun v97 st =>
 ∃ j,j < k3 ∧ GhostV [v97] st (app (I3 j))⟩⟩⟩⟩⟩⟩⟩⟩⟩⟩⟩⟩⟩⟩⟩
 ⟨
 GhostV [(.bool true)] st fun vs st => K (mkres vs) st⟩⟩⟩⟩⟩⟩⟩⟩⟩⟩⟩
theorem q_gazetteerref12_Together {P : Program} {a0 a1 : V} {st : St} {K : V → St → Prop} : F_gazetteerref12_Together P a0 a1 st K = hwp P c_gazetteerref12_Together (hretQ [.tmp 4] K) (enterFr [a0, a1]) st := by kernel_rfl
abbrev R_gazetteerref12_Together (P : Program) : Prop := resFnH P n_gazetteerref12_Together = some (98, c_gazetteerref12_Together.er, [.tmp 4])
theorem A_gazetteerref12_Together {P : Program} (h : R_gazetteerref12_Together P) {a0 a1 : V} {st : St} {K : V → St → Prop} (hF : F_gazetteerref12_Together P a0 a1 st K) : ACalls P n_gazetteerref12_Together [a0, a1] st K :=
  ACalls_h h rfl (by simp) (q_gazetteerref12_Together ▸ hF)

def c_gazetteerref12_Redo : ACode := (.seq (.reg [(oo 4 (.mov nx0))]) (.seq (.reg [(oo 5 (.mov nx0))]) (.seq (.seq (.reg [(oo 10 (.mov (.s 0))),(oo 11 (.len .sl (.s 10))),(oo 12 (.mov (.c (.int .i64 0))))]) (.block 0 (.loop [5,12] [5,7,9,12,13,14,15,16,17,18,19,20,21,22,23,24,25,26,27,28,29,30,31,32,33,34,35,36,37,38,39,40,41,42,43,44,45,46,47,48,49,50,51,52,53,54,55,56] (.seq (.reg [(oo 13 (.bin .lss (.s 12) (.s 11)))]) (.seq (.cond (.s 13) .skip (.exit 0)) (.seq (.block 1 (.seq (.reg [(oo 14 (.idx 6 (.s 10) (.s 12))),(oo 15 (.ld (some 6) (.s 14))),(oo 7 (.alloc zrP)),⟨none,none,(.st 6 (.s 7) (.s 15))⟩]) (.seq (.reg [(oo 16 (.ld (some 6) (.s 7))),(oo 17 (.call (fx n_gazetteerref06_Copy) [(.s 16)])),⟨none,none,(.st 6 (.s 7) (.s 17))⟩]) (.seq (.seq (.reg [(oo 18 (.mov (.s 1))),(oo 19 (.len .sl (.s 18))),(oo 20 (.mov (.c (.int .i64 0))))]) (.block 2 (.loop [20] [9,20,21,22,23,24,25,26,27,28,29,30,31,32,33,34,35,36,37,38,39,40,41,42,43,44,45,46,47,48,49,50,51] (.seq (.reg [(oo 21 (.bin .lss (.s 20) (.s 19)))]) (.seq (.cond (.s 21) .skip (.exit 2)) (.seq (.block 3 (.seq (.reg [(oo 22 (.idx 9 (.s 18) (.s 20))),(oo 23 (.ld (some 9) (.s 22))),(oo 9 (.alloc zrR)),⟨none,none,(.st 9 (.s 9) (.s 23))⟩]) (.seq (.reg [(oo 24 (.ld (some 9) (.s 9))),(oo 25 (.call (fx n_gazetteerref12_changes) [(.s 24)])),(oo 26 (.mov (.s 25))),⟨(some 27),(some (26,true)),(.fld 4 (.s 9))⟩,⟨(some 28),(some (26,true)),(.ld none (.s 27))⟩,⟨(some 29),(some (26,true)),(.fld 0 (.s 7))⟩,⟨(some 30),(some (26,true)),(.ld none (.s 29))⟩,⟨(some 31),(some (26,true)),(.bin .eql (.s 28) (.s 30))⟩,(oo 32 (.pick (.s 26) (.s 31) (.c (.bool false)))),(oo 33 (.mov (.s 32))),⟨(some 34),(some (33,true)),(.fld 1 (.s 7))⟩,⟨(some 35),(some (33,true)),(.ld none (.s 34))⟩,⟨(some 36),(some (33,true)),(.fld 0 (.s 9))⟩,⟨(some 37),(some (33,true)),(.ld none (.s 36))⟩,⟨(some 38),(some (33,true)),(.bin .lss (.s 35) (.s 37))⟩,(oo 39 (.pick (.s 33) (.s 38) (.c (.bool false))))]) (.cond (.s 39) (.seq (.regD [(oo 40 (.fld 5 (.s 9))),(oo 41 (.ld none (.s 40))),(oo 42 (.mkSl 1 0 [(.int .u8 0)] [])),(oo 43 (.fld 7 (.s 9))),(oo 44 (.ld none (.s 43))),(oo 45 (.append 1 1 (.s 42) (.s 44))),(oo 46 (.fld 2 (.s 7))),(oo 47 (.idxA 4 1 (.s 46) (.s 41))),⟨none,none,(.st 1 (.s 47) (.s 45))⟩] [(0,(false,[])),(1,(false,[])),(3,(false,[])),(4,(false,[])),(6,(false,[])),(2,(true,[6,4,3,1,0])),(5,(true,[6,1,0])),(7,(false,[])),(8,(true,[]))]) (.reg [(oo 48 (.fld 0 (.s 9))),(oo 49 (.ld none (.s 48))),(oo 50 (.fld 1 (.s 7))),⟨none,none,(.st 1 (.s 50) (.s 49))⟩])) .skip)))) (.reg [(oo 51 (.bin .add (.s 20) (.c (.int .i64 1)))),(oo 20 (.mov (.s 51)))]))))))) (.reg [(oo 52 (.mov (.s 5))),(oo 53 (.ld (some 6) (.s 7))),(oo 54 (.mkSl 6 1 zrP [(0,(.s 53))])),(oo 55 (.append 6 112 (.s 52) (.s 54))),(oo 5 (.mov (.s 55)))]))))) (.reg [(oo 56 (.bin .add (.s 12) (.c (.int .i64 1)))),(oo 12 (.mov (.s 56)))]))))))) (.seq (.reg [(oo 57 (.mov (.s 5))),(oo 4 (.mov (.s 57)))]) .ret))))
def F_gazetteerref12_Redo (P : Program) (a0 a1 : V) (st : St) (K : V → St → Prop) : Prop :=
 @stp P (.len .sl (.c a0)) st ⟨fun v11 st =>
 @Hold ⟨∃ I1 : Nat → Rel 2,(∃ k,GhostV [(.sl .nil 0 [] []),(.int .i64 0)] st (app (I1 k))) ∧ ∀ k1 v5 v12,∀ st,app (I1 k1) [v5,v12] st →
 @stp P (.bin .lss (.c v12) (.c v11)) st ⟨fun v13 st =>
 @cnd v13 ⟨
 @stp P (.idx 6 (.c a0) (.c v12)) st ⟨fun v14 st =>
 @stp P (.ld (some 6) (.c v14)) st ⟨fun v15 st =>
 @stp P (.alloc [(.int .i64 0),(.int .u64 0),(.sl .nil 0 [] []),(.sl .nil 0 [] []),(.sl .nil 0 [] []),(.sl .nil 0 [] [])]) st ⟨fun v7 st =>
 @stp P (.st 6 (.c v7) (.c v15)) st ⟨fun _v st =>
 @stp P (.ld (some 6) (.c v7)) st ⟨fun v16 st =>
 @stp P (.call (.c (.fn (.func n_gazetteerref06_Copy) [] [])) [(.c v16)]) st ⟨fun v17 st =>
 @stp P (.st 6 (.c v7) (.c v17)) st ⟨fun _v st =>
 @stp P (.len .sl (.c a1)) st ⟨fun v19 st =>
 @Hold ⟨∃ I2 : Nat → Rel 1,(∃ k,GhostV [(.int .i64 0)] st (app (I2 k))) ∧ ∀ k2 v20,∀ st,app (I2 k2) [v20] st →
 @stp P (.bin .lss (.c v20) (.c v19)) st ⟨fun v21 st =>
 @cnd v21 ⟨
 @stp P (.idx 9 (.c a1) (.c v20)) st ⟨fun v22 st =>
 @stp P (.ld (some 9) (.c v22)) st ⟨fun v23 st =>
 @stp P (.alloc [(.int .u64 0),(.int .i64 0),(.int .u64 0),(.int .u64 0),(.int .i64 0),(.int .i64 0),(.sl .nil 0 [] []),(.sl .nil 0 [] []),(.int .u64 0)]) st ⟨fun v9 st =>
 @stp P (.st 9 (.c v9) (.c v23)) st ⟨fun _v st =>
 @stp P (.ld (some 9) (.c v9)) st ⟨fun v24 st =>
 @stp P (.call (.c (.fn (.func n_gazetteerref12_changes) [] [])) [(.c v24)]) st ⟨fun v25 st =>
 @gst P v25 true (.fld 4 (.c v9)) st ⟨fun v27 st =>
 @gst P v25 true (.ld none (.c v27)) st ⟨fun v28 st =>
 @gst P v25 true (.fld 0 (.c v7)) st ⟨fun v29 st =>
 @gst P v25 true (.ld none (.c v29)) st ⟨fun v30 st =>
 @gst P v25 true (.bin .eql (.c v28) (.c v30)) st ⟨fun v31 st =>
 @stp P (.pick (.c v25) (.c v31) (.c (.bool false))) st ⟨fun v32 st =>
 @gst P v32 true (.fld 1 (.c v7)) st ⟨fun v34 st =>
 @gst P v32 true (.ld none (.c v34)) st ⟨fun v35 st =>
 @gst P v32 true (.fld 0 (.c v9)) st ⟨fun v36 st =>
 @gst P v32 true (.ld none (.c v36)) st ⟨fun v37 st =>
 @gst P v32 true (.bin .lss (.c v35) (.c v37)) st ⟨fun v38 st =>
 @stp P (.pick (.c v32) (.c v38) (.c (.bool false))) st ⟨fun v39 st =>
 @cnd v39 ⟨
 @stpD P (.fld 5 (.c v9)) st ⟨fun v40 st =>
 @stpD P (.ld none (.c v40)) st ⟨fun v41 st =>
 @stpD P (.fld 7 (.c v9)) st ⟨fun v43 st =>
 @stpD P (.ld none (.c v43)) st ⟨fun v44 st =>
 @stpD P (.fld 2 (.c v7)) st ⟨fun v46 st =>
 @stpD P (.mkSl 1 0 [(.int .u8 0)] []) st ⟨fun v42 st =>
 hwat P none (.fld 2 (.c v7)) st v46 ∧ (
 hwat P none (.ld none (.c v43)) st v44 ∧ (
 hwat P none (.fld 7 (.c v9)) st v43 ∧ (
 hwat P none (.ld none (.c v40)) st v41 ∧ (
 hwat P none (.fld 5 (.c v9)) st v40 ∧ (
 @stpD P (.append 1 1 (.c v42) (.c v44)) st ⟨fun v45 st =>
 hwat P none (.fld 2 (.c v7)) st v46 ∧ (
 hwat P none (.ld none (.c v40)) st v41 ∧ (
 hwat P none (.fld 5 (.c v9)) st v40 ∧ (
 @stpD P (.idxA 4 1 (.c v46) (.c v41)) st ⟨fun v47 st =>
 @stpD P (.st 1 (.c v47) (.c v45)) st ⟨fun _v st =>
 @stp P (.fld 0 (.c v9)) st ⟨fun v48 st =>
 @stp P (.ld none (.c v48)) st ⟨fun v49 st =>
 @stp P (.fld 1 (.c v7)) st ⟨fun v50 st =>
 @stp P (.st 1 (.c v50) (.c v49)) st ⟨fun _v st =>
 @stp P (.bin .add (.c v20) (.c (.int .i64 1))) st ⟨fun v51 st =>
 ∃ j,j < k2 ∧ GhostV [v51] st (app (I2 j))⟩⟩⟩⟩⟩⟩⟩)))⟩)))))⟩⟩⟩⟩⟩⟩⟩
 ⟨
 @stp P (.bin .add (.c v20) (.c (.int .i64 1))) st ⟨fun v51 st =>
 ∃ j,j < k2 ∧ GhostV [v51] st (app (I2 j))⟩⟩⟩⟩⟩⟩⟩⟩⟩⟩⟩⟩⟩⟩⟩⟩⟩⟩⟩⟩⟩
 ⟨
 @stp P (.ld (some 6) (.c v7)) st ⟨fun v53 st =>
 @stp P (.mkSl 6 1 [(.int .i64 0),(.int .u64 0),(.sl .nil 0 [] []),(.sl .nil 0 [] []),(.sl .nil 0 [] []),(.sl .nil 0 [] [])] [(0,(.c v53))]) st ⟨fun v54 st =>
 @stp P (.append 6 112 (.c v5) (.c v54)) st ⟨fun v55 st =>
 @stp P (.bin .add (.c v12) (.c (.int .i64 1))) st ⟨fun v56 st =>
 ∃ j,j < k1 ∧ GhostV [v55,v56] st (app (I1 j))⟩⟩⟩⟩⟩⟩⟩⟩⟩⟩⟩⟩⟩⟩⟩⟩
 ⟨
 GhostV [v5] st fun vs st => K (mkres vs) st⟩⟩⟩⟩
theorem q_gazetteerref12_Redo {P : Program} {a0 a1 : V} {st : St} {K : V → St → Prop} : F_gazetteerref12_Redo P a0 a1 st K = hwp P c_gazetteerref12_Redo (hretQ [.tmp 4] K) (enterFr [a0, a1]) st := by kernel_rfl
abbrev R_gazetteerref12_Redo (P : Program) : Prop := resFnH P n_gazetteerref12_Redo = some (58, c_gazetteerref12_Redo.er, [.tmp 4])
theorem A_gazetteerref12_Redo {P : Program} (h : R_gazetteerref12_Redo P) {a0 a1 : V} {st : St} {K : V → St → Prop} (hF : F_gazetteerref12_Redo P a0 a1 st K) : ACalls P n_gazetteerref12_Redo [a0, a1] st K :=
  ACalls_h h rfl (by simp) (q_gazetteerref12_Redo ▸ hF)

def c_redo_Open : ACode := (.seq (.reg [(oo 2 (.mov nx0)),(oo 3 (.mov (.c (.int .i64 0))))]) (.seq (.seq (.reg [(oo 13 (.mov (.s 0))),(oo 14 (.call (fx n_record_CheckRow) [(.s 13)])),(oo 4 (.mov (.s 14)))]) (.seq (.reg [(oo 15 (.mov (.s 4))),(oo 16 (.bin .neq (.s 15) (.c (.int .i64 0))))]) (.cond (.s 16) (.seq (.reg [(oo 17 (.mov (.s 4))),(oo 2 (.mov nx0)),(oo 3 (.mov (.s 17)))]) .ret) .skip))) (.seq (.reg [(oo 18 .mkmap),(oo 19 .mkmap),(oo 5 (.mov (.s 18))),(oo 6 (.mov (.s 19)))]) (.seq (.seq (.reg [(oo 20 (.mov (.s 0))),(oo 21 (.len .sl (.s 20))),(oo 22 (.mov (.c (.int .i64 0))))]) (.block 0 (.loop [22] [8,9,22,23,24,25,26,27,28,29,30,31,32,33,34,35,36,37,38,39,40,41,42,43,44,45,46,47,48,49,50] (.seq (.reg [(oo 23 (.bin .lss (.s 22) (.s 21)))]) (.seq (.cond (.s 23) .skip (.exit 0)) (.seq (.block 1 (.seq (.reg [(oo 24 (.idx 9 (.s 20) (.s 22))),(oo 25 (.ld (some 9) (.s 24))),(oo 8 (.alloc zrR)),⟨none,none,(.st 9 (.s 8) (.s 25))⟩]) (.seq (.reg [(oo 26 (.fld 2 (.s 8))),(oo 27 (.ld none (.s 26))),(oo 28 (.fld 0 (.s 8))),(oo 29 (.ld none (.s 28))),(oo 30 (.fld 0 (.s 8))),(oo 31 (.ld none (.s 30))),(oo 32 (.build [(.int .u64 0),(.int .u64 0),(.int .u64 0)] [(0,(1,(.s 27))),(1,(1,(.s 29))),(2,(1,(.s 31)))])),(oo 9 (.alloc [(.int .u64 0),(.int .u64 0),(.int .u64 0)])),⟨none,none,(.st 3 (.s 9) (.s 32))⟩]) (.join [] [33,34,35,36,37,38,39,40,41,42,43,44,45] (.seq (.reg [(oo 33 (.fld 1 (.s 8))),(oo 34 (.ld none (.s 33)))]) (.block 2 (.seq (.reg [(oo 36 (.bin .eql (.s 34) (.c (.int .i64 2)))),(oo 35 (.mov (.s 36)))]) (.cond (.s 35) (.reg [(oo 37 (.fld 8 (.s 8))),(oo 38 (.ld none (.s 37))),(oo 39 (.fld 2 (.s 9))),⟨none,none,(.st 1 (.s 39) (.s 38))⟩]) (.seq (.seq (.reg [(oo 41 (.bin .eql (.s 34) (.c (.int .i64 3)))),(oo 40 (.mov (.s 41)))]) (.cond (.s 40) .skip (.reg [(oo 42 (.bin .eql (.s 34) (.c (.int .i64 4)))),(oo 40 (.mov (.s 42)))]))) (.cond (.s 40) (.reg [(oo 43 (.mov (.s 6))),(oo 44 (.fld 2 (.s 8))),(oo 45 (.ld none (.s 44))),⟨none,none,(.mupd (.one .int) (.s 43) (.s 45) (.c (.bool true)))⟩]) .skip)))))) (.reg [(oo 46 (.mov (.s 5))),(oo 47 (.fld 2 (.s 8))),(oo 48 (.ld none (.s 47))),(oo 49 (.ld (some 3) (.s 9))),⟨none,none,(.mupd (.one .int) (.s 46) (.s 48) (.s 49))⟩]))))) (.reg [(oo 50 (.bin .add (.s 22) (.c (.int .i64 1)))),(oo 22 (.mov (.s 50)))]))))))) (.seq (.reg [(oo 10 (.mov nx0))]) (.seq (.seq (.reg [(oo 51 (.mov (.s 5))),(oo 52 (.call (fx n_redo_rising_uint64_Open) [(.s 51)])),(oo 53 (.len .sl (.s 52))),(oo 54 (.mov (.c (.int .i64 0))))]) (.block 3 (.loop [10,54] [10,12,54,55,56,57,58,59,60,61,62,63,64,65,66,67,68] (.seq (.reg [(oo 55 (.bin .lss (.s 54) (.s 53)))]) (.seq (.cond (.s 55) .skip (.exit 3)) (.seq (.block 4 (.seq (.reg [(oo 56 (.idx 1 (.s 52) (.s 54))),(oo 57 (.ld none (.s 56))),(oo 12 (.mov (.s 57)))]) (.seq (.reg [(oo 58 (.mov (.s 6))),(oo 59 (.mov (.s 12))),(oo 60 (.lookup (.one .int) (.bool false) false (.s 58) (.s 59))),(oo 61 (.un .not (.s 60)))]) (.cond (.s 61) (.reg [(oo 62 (.mov (.s 10))),(oo 63 (.mov (.s 5))),(oo 64 (.mov (.s 12))),(oo 65 (.lookup (.one .int) (.agg [(.int .u64 0),(.int .u64 0),(.int .u64 0)]) false (.s 63) (.s 64))),(oo 66 (.mkSl 3 1 [(.int .u64 0),(.int .u64 0),(.int .u64 0)] [(0,(.s 65))])),(oo 67 (.append 3 24 (.s 62) (.s 66))),(oo 10 (.mov (.s 67)))]) .skip)))) (.reg [(oo 68 (.bin .add (.s 54) (.c (.int .i64 1)))),(oo 54 (.mov (.s 68)))]))))))) (.seq (.reg [(oo 69 (.mov (.s 10))),(oo 2 (.mov (.s 69))),(oo 3 (.mov (.c (.int .i64 0))))]) .ret)))))))
def F_redo_Open (P : Program) (a0 : V) (st : St) (K : V → St → Prop) : Prop :=
 @stp P (.call (.c (.fn (.func n_record_CheckRow) [] [])) [(.c a0)]) st ⟨fun v14 st =>
 @stp P (.bin .neq (.c v14) (.c (.int .i64 0))) st ⟨fun v16 st =>
 @cnd v16 ⟨
 GhostV [(.sl .nil 0 [] []),v14] st fun vs st => K (mkres vs) st⟩
 ⟨
 @stp P .mkmap st ⟨fun v18 st =>
 @stp P .mkmap st ⟨fun v19 st =>
 @stp P (.len .sl (.c a0)) st ⟨fun v21 st =>
 @Hold ⟨∃ I1 : Nat → Rel 1,(∃ k,GhostV [(.int .i64 0)] st (app (I1 k))) ∧ ∀ k1 v22,∀ st,app (I1 k1) [v22] st →
 @stp P (.bin .lss (.c v22) (.c v21)) st ⟨fun v23 st =>
 @cnd v23 ⟨
 @stp P (.idx 9 (.c a0) (.c v22)) st ⟨fun v24 st =>
 @stp P (.ld (some 9) (.c v24)) st ⟨fun v25 st =>
 @stp P (.alloc [(.int .u64 0),(.int .i64 0),(.int .u64 0),(.int .u64 0),(.int .i64 0),(.int .i64 0),(.sl .nil 0 [] []),(.sl .nil 0 [] []),(.int .u64 0)]) st ⟨fun v8 st =>
 @stp P (.st 9 (.c v8) (.c v25)) st ⟨fun _v st =>
 @stp P (.fld 2 (.c v8)) st ⟨fun v26 st =>
 @stp P (.ld none (.c v26)) st ⟨fun v27 st =>
 @stp P (.fld 0 (.c v8)) st ⟨fun v28 st =>
 @stp P (.ld none (.c v28)) st ⟨fun v29 st =>
 @stp P (.fld 0 (.c v8)) st ⟨fun v30 st =>
 @stp P (.ld none (.c v30)) st ⟨fun v31 st =>
 @stp P (.build [(.int .u64 0),(.int .u64 0),(.int .u64 0)] [(0,1,(.c v27)),(1,1,(.c v29)),(2,1,(.c v31))]) st ⟨fun v32 st =>
 @stp P (.alloc [(.int .u64 0),(.int .u64 0),(.int .u64 0)]) st ⟨fun v9 st =>
 @stp P (.st 3 (.c v9) (.c v32)) st ⟨fun _v st =>
 @Hold ⟨∃ J2 : Rel 0,(
 @stp P (.fld 1 (.c v8)) st ⟨fun v33 st =>
 @stp P (.ld none (.c v33)) st ⟨fun v34 st =>
 @stp P (.bin .eql (.c v34) (.c (.int .i64 2))) st ⟨fun v36 st =>
 @cnd v36 ⟨
 @stp P (.fld 8 (.c v8)) st ⟨fun v37 st =>
 @stp P (.ld none (.c v37)) st ⟨fun v38 st =>
 @stp P (.fld 2 (.c v9)) st ⟨fun v39 st =>
 @stp P (.st 1 (.c v39) (.c v38)) st ⟨fun _v st =>
 GhostV [] st (app J2)⟩⟩⟩⟩⟩
 ⟨
 @stp P (.bin .eql (.c v34) (.c (.int .i64 3))) st ⟨fun v41 st =>
 @cnd v41 ⟨
 @cnd v41 ⟨
 @stp P (.fld 2 (.c v8)) st ⟨fun v44 st =>
 @stp P (.ld none (.c v44)) st ⟨fun v45 st =>
 @stp P (.mupd (.one .int) (.c v19) (.c v45) (.c (.bool true))) st ⟨fun _v st =>
 GhostV [] st (app J2)⟩⟩⟩⟩
 ⟨
 GhostV [] st (app J2)⟩⟩
 ⟨
 @stp P (.bin .eql (.c v34) (.c (.int .i64 4))) st ⟨fun v42 st =>
 @cnd v42 ⟨
 @stp P (.fld 2 (.c v8)) st ⟨fun v44 st =>
 @stp P (.ld none (.c v44)) st ⟨fun v45 st =>
 @stp P (.mupd (.one .int) (.c v19) (.c v45) (.c (.bool true))) st ⟨fun _v st =>
 GhostV [] st (app J2)⟩⟩⟩⟩
 ⟨
 GhostV [] st (app J2)⟩⟩⟩⟩⟩⟩⟩⟩) ∧
 ∀ st,app J2 [] st →
 @stp P (.fld 2 (.c v8)) st ⟨fun v47 st =>
 @stp P (.ld none (.c v47)) st ⟨fun v48 st =>
 @stp P (.ld (some 3) (.c v9)) st ⟨fun v49 st =>
 @stp P (.mupd (.one .int) (.c v18) (.c v48) (.c v49)) st ⟨fun _v st =>
 @stp P (.bin .add (.c v22) (.c (.int .i64 1))) st ⟨fun v50 st =>
 ∃ j,j < k1 ∧ GhostV [v50] st (app (I1 j))⟩⟩⟩⟩⟩⟩⟩⟩⟩⟩⟩⟩⟩⟩⟩⟩⟩⟩⟩⟩
 ⟨
 @stp P (.call (.c (.fn (.func n_redo_rising_uint64_Open) [] [])) [(.c v18)]) st ⟨fun v52 st =>
 @stp P (.len .sl (.c v52)) st ⟨fun v53 st =>
 @Hold ⟨∃ I3 : Nat → Rel 2,(∃ k,GhostV [(.sl .nil 0 [] []),(.int .i64 0)] st (app (I3 k))) ∧ ∀ k3 v10 v54,∀ st,app (I3 k3) [v10,v54] st →
 @stp P (.bin .lss (.c v54) (.c v53)) st ⟨fun v55 st =>
 @cnd v55 ⟨
 @stp P (.idx 1 (.c v52) (.c v54)) st ⟨fun v56 st =>
 @stp P (.ld none (.c v56)) st ⟨fun v57 st =>
 @stp P (.lookup (.one .int) (.bool false) false (.c v19) (.c v57)) st ⟨fun v60 st =>
 @stp P (.un .not (.c v60)) st ⟨fun v61 st =>
 @cnd v61 ⟨
 @stp P (.lookup (.one .int) (.agg [(.int .u64 0),(.int .u64 0),(.int .u64 0)]) false (.c v18) (.c v57)) st ⟨fun v65 st =>
 @stp P (.mkSl 3 1 [(.int .u64 0),(.int .u64 0),(.int .u64 0)] [(0,(.c v65))]) st ⟨fun v66 st =>
 @stp P (.append 3 24 (.c v10) (.c v66)) st ⟨fun v67 st =>
 @stp P (.bin .add (.c v54) (.c (.int .i64 1))) st ⟨fun v68 st =>
 ∃ j,j < k3 ∧ GhostV [v67,v68] st (app (I3 j))⟩⟩⟩⟩⟩
 ⟨
 @stp P (.bin .add (.c v54) (.c (.int .i64 1))) st ⟨fun v68 st =>
 ∃ j,j < k3 ∧ GhostV [v10,v68] st (app (I3 j))⟩⟩⟩⟩⟩⟩⟩
 ⟨
 GhostV [v10,(.int .i64 0)] st fun vs st => K (mkres vs) st⟩⟩⟩⟩⟩⟩⟩⟩⟩⟩⟩⟩⟩⟩
theorem q_redo_Open {P : Program} {a0 : V} {st : St} {K : V → St → Prop} : F_redo_Open P a0 st K = hwp P c_redo_Open (hretQ [.tmp 2, .tmp 3] K) (enterFr [a0]) st := by kernel_rfl
abbrev R_redo_Open (P : Program) : Prop := resFnH P n_redo_Open = some (70, c_redo_Open.er, [.tmp 2, .tmp 3])
theorem A_redo_Open {P : Program} (h : R_redo_Open P) {a0 : V} {st : St} {K : V → St → Prop} (hF : F_redo_Open P a0 st K) : ACalls P n_redo_Open [a0] st K :=
  ACalls_h h rfl (by simp) (q_redo_Open ▸ hF)

def c_record_CheckRow : ACode := (.seq (.reg [(oo 2 (.mov (.c (.int .i64 0))))]) (.seq (.seq (.reg [(oo 7 (.mov (.s 0))),(oo 8 (.len .sl (.s 7))),(oo 9 (.bin .gtr (.s 8) (.c (.int .i64 64))))]) (.cond (.s 9) (.seq (.reg [(oo 2 (.mov (.c (.int .i64 3))))]) .ret) .skip)) (.seq (.seq (.reg [(oo 10 (.mov (.s 0))),(oo 11 (.len .sl (.s 10))),(oo 12 (.mov (.c (.int .i64 0))))]) (.block 0 (.loop [2,12] [2,3,4,5,12,13,14,15,16,17,18,19,20,21,22,23,24,25,26,27,28,29,30,31,32,33,34,35,36,37,38,39,40,41,42,43,44,45,46,47,54,55,56] (.seq (.reg [(oo 13 (.bin .lss (.s 12) (.s 11)))]) (.seq (.cond (.s 13) .skip (.exit 0)) (.seq (.block 1 (.seq (.reg [(oo 14 (.mov (.s 12))),(oo 15 (.idx 9 (.s 10) (.s 12))),(oo 16 (.ld (some 9) (.s 15))),(oo 4 (.alloc zrR)),(oo 3 (.mov (.s 14))),⟨none,none,(.st 9 (.s 4) (.s 16))⟩]) (.seq (.seq (.regD [(oo 17 (.ld (some 9) (.s 4))),(oo 18 (.call (fx n_record_Check) [(.s 17)])),(oo 19 (.bin .neq (.s 18) (.c (.int .i64 0)))),(oo 20 (.mov (.s 19))),⟨(some 21),(some (20,false)),(.mov (.s 3))⟩,⟨(some 22),(some (20,false)),(.bin .gtr (.s 21) (.c (.int .i64 0)))⟩,⟨(some 23),(some (20,false)),(.mov (.s 22))⟩,⟨(some 24),(some (23,true)),(.fld 0 (.s 4))⟩,⟨(some 25),(some (23,true)),(.ld none (.s 24))⟩,⟨(some 26),(some (23,true)),(.mov (.s 0))⟩,⟨(some 27),(some (23,true)),(.mov (.s 3))⟩,⟨(some 28),(some (23,true)),(.bin .sub (.s 27) (.c (.int .i64 1)))⟩,⟨(some 29),(some (23,true)),(.idx 9 (.s 26) (.s 28))⟩,⟨(some 30),(some (23,true)),(.fld 0 (.s 29))⟩,⟨(some 31),(some (23,true)),(.ld none (.s 30))⟩,⟨(some 32),(some (23,true)),(.bin .add (.s 31) (.c (.int .u64 1)))⟩,⟨(some 33),(some (23,true)),(.bin .neq (.s 25) (.s 32))⟩,⟨(some 34),(some (20,false)),(.pick (.s 23) (.s 33) (.c (.bool false)))⟩,(oo 35 (.pick (.s 20) (.c (.bool true)) (.s 34)))] [(0,(false,[])),(1,(true,[])),(2,(false,[])),(3,(false,[])),(4,(false,[])),(5,(false,[])),(6,(false,[])),(7,(false,[])),(8,(false,[])),(9,(false,[])),(10,(false,[])),(11,(false,[])),(12,(false,[])),(13,(false,[])),(14,(false,[])),(15,(false,[])),(16,(false,[])),(17,(false,[])),(18,(false,[]))]) (.cond (.s 35) (.seq (.reg [(oo 2 (.mov (.c (.int .i64 150))))]) .ret) .skip)) (.seq (.seq (.regD [(oo 36 (.fld 3 (.s 4))),(oo 37 (.ld none (.s 36))),(oo 38 (.mov (.s 0))),(oo 39 (.idx 9 (.s 38) (.c (.int .i64 0)))),(oo 40 (.fld 0 (.s 39))),(oo 41 (.ld none (.s 40))),(oo 42 (.bin .lss (.s 37) (.s 41)))] [(0,(false,[])),(1,(false,[])),(2,(false,[])),(3,(false,[])),(4,(false,[])),(5,(false,[])),(6,(false,[]))]) (.cond (.s 42) (.exit 1) .skip)) (.seq (.reg [(oo 5 (.alloc [(.bool false)])),⟨none,none,(.st 1 (.s 5) (.c (.bool false)))⟩]) (.seq (.seq (.reg [(oo 43 (.mov (.s 0))),(oo 44 (.mov (.s 3))),(oo 45 (.fld 2 (.s 4))),(oo 46 (.ld none (.s 45))),(oo 47 (.call (fx n_record_ahead) [(.s 43),(.s 44),(.s 46)]))]) (.block 2 (.rfunc (.s 47) [48] (.reg [(oo 6 (.alloc zrR)),⟨none,none,(.st 9 (.s 6) (.s 48))⟩]) (.block 3 (.seq (.reg [(oo 49 (.fld 0 (.s 6))),(oo 50 (.ld none (.s 49))),(oo 51 (.fld 3 (.s 4))),(oo 52 (.ld none (.s 51))),(oo 53 (.bin .eql (.s 50) (.s 52))),⟨none,none,(.st 1 (.s 5) (.s 53))⟩]) (.exit 2)))))) (.seq (.reg [(oo 54 (.ld none (.s 5))),(oo 55 (.un .not (.s 54)))]) (.cond (.s 55) (.seq (.reg [(oo 2 (.mov (.c (.int .i64 150))))]) .ret) .skip)))))))) (.reg [(oo 56 (.bin .add (.s 12) (.c (.int .i64 1)))),(oo 12 (.mov (.s 56)))]))))))) (.seq (.reg [(oo 2 (.mov (.c (.int .i64 0))))]) .ret))))
def F_record_CheckRow (P : Program) (a0 : V) (st : St) (K : V → St → Prop) : Prop :=
 @stp P (.len .sl (.c a0)) st ⟨fun v8 st =>
 @stp P (.bin .gtr (.c v8) (.c (.int .i64 64))) st ⟨fun v9 st =>
 @cnd v9 ⟨
 GhostV [(.int .i64 3)] st fun vs st => K (mkres vs) st⟩
 ⟨
 @stp P (.len .sl (.c a0)) st ⟨fun v11 st =>
 @Hold ⟨∃ I1 : Nat → Rel 2,(∃ k,GhostV [(.int .i64 0),(.int .i64 0)] st (app (I1 k))) ∧ ∀ k1 v2 v12,∀ st,app (I1 k1) [v2,v12] st →
 @stp P (.bin .lss (.c v12) (.c v11)) st ⟨fun v13 st =>
 @cnd v13 ⟨
 @stp P (.idx 9 (.c a0) (.c v12)) st ⟨fun v15 st =>
 @stp P (.ld (some 9) (.c v15)) st ⟨fun v16 st =>
 @stp P (.alloc [(.int .u64 0),(.int .i64 0),(.int .u64 0),(.int .u64 0),(.int .i64 0),(.int .i64 0),(.sl .nil 0 [] []),(.sl .nil 0 [] []),(.int .u64 0)]) st ⟨fun v4 st =>
 @stp P (.st 9 (.c v4) (.c v16)) st ⟨fun _v st =>
 @stpD P (.ld (some 9) (.c v4)) st ⟨fun v17 st =>
 @stpD P (.call (.c (.fn (.func n_record_Check) [] [])) [(.c v17)]) st ⟨fun v18 st =>
 @stpD P (.bin .neq (.c v18) (.c (.int .i64 0))) st ⟨fun v19 st =>
 @gstD P v19 false (.mov (.c v12)) st ⟨fun v21 st =>
 @gstD P v19 false (.bin .gtr (.c v21) (.c (.int .i64 0))) st ⟨fun v22 st =>
 @gstD P v19 false (.mov (.c v22)) st ⟨fun v23 st =>
 @gstD P v23 true (.fld 0 (.c v4)) st ⟨fun v24 st =>
 @gstD P v23 true (.ld none (.c v24)) st ⟨fun v25 st =>
 @gstD P v23 true (.mov (.c a0)) st ⟨fun v26 st =>
 @gstD P v23 true (.mov (.c v12)) st ⟨fun v27 st =>
 @gstD P v23 true (.bin .sub (.c v27) (.c (.int .i64 1))) st ⟨fun v28 st =>
 @gstD P v23 true (.idx 9 (.c v26) (.c v28)) st ⟨fun v29 st =>
 @gstD P v23 true (.fld 0 (.c v29)) st ⟨fun v30 st =>
 @gstD P v23 true (.ld none (.c v30)) st ⟨fun v31 st =>
 @gstD P v23 true (.bin .add (.c v31) (.c (.int .u64 1))) st ⟨fun v32 st =>
 @gstD P v23 true (.bin .neq (.c v25) (.c v32)) st ⟨fun v33 st =>
 @gstD P v19 false (.pick (.c v23) (.c v33) (.c (.bool false))) st ⟨fun v34 st =>
 @stpD P (.pick (.c v19) (.c (.bool true)) (.c v34)) st ⟨fun v35 st =>
 @cnd v35 ⟨
 GhostV [(.int .i64 150)] st fun vs st => K (mkres vs) st⟩
 ⟨
 @stpD P (.fld 3 (.c v4)) st ⟨fun v36 st =>
 @stpD P (.ld none (.c v36)) st ⟨fun v37 st =>
 @stpD P (.idx 9 (.c a0) (.c (.int .i64 0))) st ⟨fun v39 st =>
 @stpD P (.fld 0 (.c v39)) st ⟨fun v40 st =>
 @stpD P (.ld none (.c v40)) st ⟨fun v41 st =>
 @stpD P (.bin .lss (.c v37) (.c v41)) st ⟨fun v42 st =>
 @cnd v42 ⟨
 @stp P (.bin .add (.c v12) (.c (.int .i64 1))) st ⟨fun v56 st =>
 ∃ j,j < k1 ∧ GhostV [v2,v56] st (app (I1 j))⟩⟩
 ⟨
 @stp P (.alloc [(.bool false)]) st ⟨fun v5 st =>
 @stp P (.st 1 (.c v5) (.c (.bool false))) st ⟨fun _v st =>
 @stp P (.fld 2 (.c v4)) st ⟨fun v45 st =>
 @stp P (.ld none (.c v45)) st ⟨fun v46 st =>
 @stp P (.call (.c (.fn (.func n_record_ahead) [] [])) [(.c a0),(.c v12),(.c v46)]) st ⟨fun v47 st =>
 @Hold ⟨(fun s2 : St => ∀ LP2 : LSt → Obj,
 (∀ (st : St) (K : V → St → Prop) (v48 : V),st.get s2.objs.length s2.nv = some (LP2 .ready) → (
 @stp P (.alloc [(.int .u64 0),(.int .i64 0),(.int .u64 0),(.int .u64 0),(.int .i64 0),(.int .i64 0),(.sl .nil 0 [] []),(.sl .nil 0 [] []),(.int .u64 0)]) st ⟨fun v6 st =>
 @stp P (.st 9 (.c v6) (.c v48)) st ⟨fun _v st =>
 st.get s2.objs.length s2.nv = some (LP2 .ready) ∧ (fun st : St =>
 @stp P (.fld 0 (.c v6)) st ⟨fun v49 st =>
 @stp P (.ld none (.c v49)) st ⟨fun v50 st =>
 @stp P (.fld 3 (.c v4)) st ⟨fun v51 st =>
 @stp P (.ld none (.c v51)) st ⟨fun v52 st =>
 @stp P (.bin .eql (.c v50) (.c v52)) st ⟨fun v53 st =>
 @stp P (.st 1 (.c v5) (.c v53)) st ⟨fun _v st =>
 st.get s2.objs.length s2.nv = some (LP2 .busy) ∧ K (.bool false) (st.setO s2.objs.length s2.nv (LP2 (.done (.exit 2))))⟩⟩⟩⟩⟩⟩) (st.setO s2.objs.length s2.nv (LP2 .busy))⟩⟩) →
 AInv P (.yld s2.objs.length s2.nv) [v48] st K) →
 AInvE P v47 [.yld s2.objs.length s2.nv] (s2.push (LP2 .ready)) fun _ st => ∃ s,st.get s2.objs.length s2.nv = some (LP2 s) ∧ (fun st : St => hend s (
 @stp P (.ld none (.c v5)) st ⟨fun v54 st =>
 @stp P (.un .not (.c v54)) st ⟨fun v55 st =>
 @cnd v55 ⟨
 GhostV [(.int .i64 150)] st fun vs st => K (mkres vs) st⟩
 ⟨
 @stp P (.bin .add (.c v12) (.c (.int .i64 1))) st ⟨fun v56 st =>
 ∃ j,j < k1 ∧ GhostV [v2,v56] st (app (I1 j))⟩⟩⟩⟩)
 (
 GhostV [v2] st fun vs st => K (mkres vs) st)
 (fun id : Nat =>                 (if id = 2 then
 @stp P (.ld none (.c v5)) st ⟨fun v54 st =>
 @stp P (.un .not (.c v54)) st ⟨fun v55 st =>
 @cnd v55 ⟨
 GhostV [(.int .i64 150)] st fun vs st => K (mkres vs) st⟩
 ⟨
 @stp P (.bin .add (.c v12) (.c (.int .i64 1))) st ⟨fun v56 st =>
 ∃ j,j < k1 ∧ GhostV [v2,v56] st (app (I1 j))⟩⟩⟩⟩
 else
 (if id = 1 then
 @stp P (.bin .add (.c v12) (.c (.int .i64 1))) st ⟨fun v56 st =>
 ∃ j,j < k1 ∧ GhostV [v2,v56] st (app (I1 j))⟩
 else
 (if id = 0 then
 GhostV [(.int .i64 0)] st fun vs st => K (mkres vs) st
 else
 False))))) (st.gone s2.objs.length)) st⟩⟩⟩⟩⟩⟩⟩⟩⟩⟩⟩⟩⟩⟩⟩⟩⟩⟩⟩⟩⟩⟩⟩⟩⟩⟩⟩⟩⟩⟩⟩⟩⟩⟩⟩⟩⟩
 ⟨
 GhostV [(.int .i64 0)] st fun vs st => K (mkres vs) st⟩⟩⟩⟩⟩⟩⟩
theorem q_record_CheckRow {P : Program} {a0 : V} {st : St} {K : V → St → Prop} : F_record_CheckRow P a0 st K = hwp P c_record_CheckRow (hretQ [.tmp 2] K) (enterFr [a0]) st := by kernel_rfl
abbrev R_record_CheckRow (P : Program) : Prop := resFnH P n_record_CheckRow = some (57, c_record_CheckRow.er, [.tmp 2])
theorem A_record_CheckRow {P : Program} (h : R_record_CheckRow P) {a0 : V} {st : St} {K : V → St → Prop} (hF : F_record_CheckRow P a0 st K) : ACalls P n_record_CheckRow [a0] st K :=
  ACalls_h h rfl (by simp) (q_record_CheckRow ▸ hF)

def c_page_Set : ACode := (.seq (.reg [(oo 4 (.box (.s 0))),(oo 8 (.alloc zrP)),(oo 9 (.mov (.c (.int .i64 0))))]) (.seq (.reg [(oo 13 (.ld (some 6) (.s 4))),(oo 14 (.mov (.s 1))),(oo 15 (.call (fx n_page_at) [(.s 13),(.s 14)])),(oo 12 (.mov (.s 15))),(oo 16 (.ext 0 (.s 12))),(oo 17 (.ext 1 (.s 12))),(oo 10 (.alloc zrP)),⟨none,none,(.st 6 (.s 10) (.s 16))⟩,(oo 11 (.mov (.s 17)))]) (.seq (.block 0 (.seq (.reg [(oo 19 (.mov (.s 11))),(oo 20 (.bin .neq (.s 19) (.c (.int .i64 0)))),(oo 18 (.mov (.s 20)))]) (.cond (.s 18) (.seq (.reg [(oo 21 (.ld (some 6) (.s 10))),(oo 22 (.mov (.s 11))),⟨none,none,(.st 6 (.s 8) (.s 21))⟩,(oo 9 (.mov (.s 22)))]) .ret) (.seq (.reg [(oo 24 (.mov (.s 2))),(oo 25 (.len .sl (.s 24))),(oo 26 (.bin .gtr (.s 25) (.c (.int .i64 52)))),(oo 23 (.mov (.s 26)))]) (.cond (.s 23) (.seq (.reg [(oo 27 (.build zrP [])),⟨none,none,(.st 6 (.s 8) (.s 27))⟩,(oo 9 (.mov (.c (.int .i64 3))))]) .ret) .skip))))) (.seq (.reg [(oo 28 (.mov (.s 1))),(oo 29 (.mov (.s 2))),(oo 30 (.call (fx n_bytes_Clone) [(.s 29)])),(oo 31 (.mov (.s 3))),(oo 32 (.fld 2 (.s 10))),(oo 33 (.idxA 4 1 (.s 32) (.s 28))),⟨none,none,(.st 1 (.s 33) (.s 30))⟩,(oo 34 (.fld 1 (.s 10))),⟨none,none,(.st 1 (.s 34) (.s 31))⟩]) (.seq (.reg [(oo 35 (.ld (some 6) (.s 10))),⟨none,none,(.st 6 (.s 8) (.s 35))⟩,(oo 9 (.mov (.c (.int .i64 0))))]) .ret)))))
def F_page_Set (P : Program) (a0 a1 a2 a3 : V) (st : St) (K : V → St → Prop) : Prop :=
 @stp P (.box (.c a0)) st ⟨fun v4 st =>
 @stp P (.alloc [(.int .i64 0),(.int .u64 0),(.sl .nil 0 [] []),(.sl .nil 0 [] []),(.sl .nil 0 [] []),(.sl .nil 0 [] [])]) st ⟨fun v8 st =>
 @stp P (.ld (some 6) (.c v4)) st ⟨fun v13 st =>
 @stp P (.call (.c (.fn (.func n_page_at) [] [])) [(.c v13),(.c a1)]) st ⟨fun v15 st =>
 @stp P (.ext 0 (.c v15)) st ⟨fun v16 st =>
 @stp P (.ext 1 (.c v15)) st ⟨fun v17 st =>
 @stp P (.alloc [(.int .i64 0),(.int .u64 0),(.sl .nil 0 [] []),(.sl .nil 0 [] []),(.sl .nil 0 [] []),(.sl .nil 0 [] [])]) st ⟨fun v10 st =>
 @stp P (.st 6 (.c v10) (.c v16)) st ⟨fun _v st =>
 @stp P (.bin .neq (.c v17) (.c (.int .i64 0))) st ⟨fun v20 st =>
 @cnd v20 ⟨
 @stp P (.ld (some 6) (.c v10)) st ⟨fun v21 st =>
 @stp P (.st 6 (.c v8) (.c v21)) st ⟨fun _v st =>
 @ldr (some 6) v8 st ⟨fun r1 =>
 GhostV [r1,v17] st fun vs st => K (mkres vs) st⟩⟩⟩⟩
 ⟨
 @stp P (.len .sl (.c a2)) st ⟨fun v25 st =>
 @stp P (.bin .gtr (.c v25) (.c (.int .i64 52))) st ⟨fun v26 st =>
 @cnd v26 ⟨
 @stp P (.build [(.int .i64 0),(.int .u64 0),(.sl .nil 0 [] []),(.sl .nil 0 [] []),(.sl .nil 0 [] []),(.sl .nil 0 [] [])] []) st ⟨fun v27 st =>
 @stp P (.st 6 (.c v8) (.c v27)) st ⟨fun _v st =>
 @ldr (some 6) v8 st ⟨fun r1 =>
 GhostV [r1,(.int .i64 3)] st fun vs st => K (mkres vs) st⟩⟩⟩⟩
 ⟨
 @stp P (.call (.c (.fn (.func n_bytes_Clone) [] [])) [(.c a2)]) st ⟨fun v30 st =>
 @stp P (.fld 2 (.c v10)) st ⟨fun v32 st =>
 @stp P (.idxA 4 1 (.c v32) (.c a1)) st ⟨fun v33 st =>
 @stp P (.st 1 (.c v33) (.c v30)) st ⟨fun _v st =>
 @stp P (.fld 1 (.c v10)) st ⟨fun v34 st =>
 @stp P (.st 1 (.c v34) (.c a3)) st ⟨fun _v st =>
 @stp P (.ld (some 6) (.c v10)) st ⟨fun v35 st =>
 @stp P (.st 6 (.c v8) (.c v35)) st ⟨fun _v st =>
 @ldr (some 6) v8 st ⟨fun r1 =>
 GhostV [r1,(.int .i64 0)] st fun vs st => K (mkres vs) st⟩⟩⟩⟩⟩⟩⟩⟩⟩⟩⟩⟩⟩⟩⟩⟩⟩⟩⟩⟩⟩⟩
theorem q_page_Set {P : Program} {a0 a1 a2 a3 : V} {st : St} {K : V → St → Prop} : F_page_Set P a0 a1 a2 a3 st K = hwp P c_page_Set (hretQ [.cell 8 (some 6), .tmp 9] K) (enterFr [a0, a1, a2, a3]) st := by kernel_rfl
abbrev R_page_Set (P : Program) : Prop := resFnH P n_page_Set = some (36, c_page_Set.er, [.cell 8 (some 6), .tmp 9])
theorem A_page_Set {P : Program} (h : R_page_Set P) {a0 a1 a2 a3 : V} {st : St} {K : V → St → Prop} (hF : F_page_Set P a0 a1 a2 a3 st K) : ACalls P n_page_Set [a0, a1, a2, a3] st K :=
  ACalls_h h rfl (by simp) (q_page_Set ▸ hF)

def c_gazetteerlaw12_first : ACode := (.seq (.reg [(oo 0 (.mov nx0))]) (.seq (.reg [(oo 1 (.mkSl 1 1 [(.int .u8 0)] [(0,(.c (.int .u8 7)))])),(oo 2 (.build zrR [(0,(1,(.c (.int .u64 1)))),(1,(1,(.c (.int .i64 1)))),(2,(1,(.c (.int .u64 1)))),(7,(1,(.s 1)))])),(oo 3 (.mkSl 1 1 [(.int .u8 0)] [(0,(.c (.int .u8 8)))])),(oo 4 (.build zrR [(0,(1,(.c (.int .u64 2)))),(1,(1,(.c (.int .i64 1)))),(2,(1,(.c (.int .u64 2)))),(5,(1,(.c (.int .i64 1)))),(7,(1,(.s 3)))])),(oo 5 (.build zrR [(0,(1,(.c (.int .u64 3)))),(1,(1,(.c (.int .i64 3)))),(2,(1,(.c (.int .u64 1)))),(3,(1,(.c (.int .u64 1))))])),(oo 6 (.mkSl 9 3 zrR [(0,(.s 2)),(1,(.s 4)),(2,(.s 5))])),(oo 0 (.mov (.s 6)))]) .ret))
def F_gazetteerlaw12_first (P : Program) (st : St) (K : V → St → Prop) : Prop :=
 @stp P (.mkSl 1 1 [(.int .u8 0)] [(0,(.c (.int .u8 7)))]) st ⟨fun v1 st =>
 @stp P (.build [(.int .u64 0),(.int .i64 0),(.int .u64 0),(.int .u64 0),(.int .i64 0),(.int .i64 0),(.sl .nil 0 [] []),(.sl .nil 0 [] []),(.int .u64 0)] [(0,1,(.c (.int .u64 1))),(1,1,(.c (.int .i64 1))),(2,1,(.c (.int .u64 1))),(7,1,(.c v1))]) st ⟨fun v2 st =>
 @stp P (.mkSl 1 1 [(.int .u8 0)] [(0,(.c (.int .u8 8)))]) st ⟨fun v3 st =>
 @stp P (.build [(.int .u64 0),(.int .i64 0),(.int .u64 0),(.int .u64 0),(.int .i64 0),(.int .i64 0),(.sl .nil 0 [] []),(.sl .nil 0 [] []),(.int .u64 0)] [(0,1,(.c (.int .u64 2))),(1,1,(.c (.int .i64 1))),(2,1,(.c (.int .u64 2))),(5,1,(.c (.int .i64 1))),(7,1,(.c v3))]) st ⟨fun v4 st =>
 @stp P (.build [(.int .u64 0),(.int .i64 0),(.int .u64 0),(.int .u64 0),(.int .i64 0),(.int .i64 0),(.sl .nil 0 [] []),(.sl .nil 0 [] []),(.int .u64 0)] [(0,1,(.c (.int .u64 3))),(1,1,(.c (.int .i64 3))),(2,1,(.c (.int .u64 1))),(3,1,(.c (.int .u64 1)))]) st ⟨fun v5 st =>
 @stp P (.mkSl 9 3 [(.int .u64 0),(.int .i64 0),(.int .u64 0),(.int .u64 0),(.int .i64 0),(.int .i64 0),(.sl .nil 0 [] []),(.sl .nil 0 [] []),(.int .u64 0)] [(0,(.c v2)),(1,(.c v4)),(2,(.c v5))]) st ⟨fun v6 st =>
 GhostV [v6] st fun vs st => K (mkres vs) st⟩⟩⟩⟩⟩⟩
theorem q_gazetteerlaw12_first {P : Program} {st : St} {K : V → St → Prop} : F_gazetteerlaw12_first P  st K = hwp P c_gazetteerlaw12_first (hretQ [.tmp 0] K) (enterFr []) st := by kernel_rfl
abbrev R_gazetteerlaw12_first (P : Program) : Prop := resFnH P n_gazetteerlaw12_first = some (7, c_gazetteerlaw12_first.er, [.tmp 0])
theorem A_gazetteerlaw12_first {P : Program} (h : R_gazetteerlaw12_first P) {st : St} {K : V → St → Prop} (hF : F_gazetteerlaw12_first P  st K) : ACalls P n_gazetteerlaw12_first [] st K :=
  ACalls_h h rfl (by simp) (q_gazetteerlaw12_first ▸ hF)

def c_gazetteerref06_Copy : ACode := (.seq (.reg [(oo 1 (.box (.s 0))),(oo 2 (.alloc zrP))]) (.seq (.seq (.reg [(oo 5 (.fld 2 (.s 1))),(oo 6 (.ld (some 4) (.s 5))),(oo 7 (.mov (.c (.int .i64 0))))]) (.block 0 (.loop [7] [3,4,7,8,9,10,11,12,13,14,15,16,17] (.seq (.reg [(oo 8 (.bin .lss (.s 7) (.c (.int .i64 4))))]) (.seq (.cond (.s 8) .skip (.exit 0)) (.seq (.block 1 (.seq (.reg [(oo 9 (.mov (.s 7))),(oo 10 (.idxV 4 1 false (.s 6) (.s 7))),(oo 3 (.mov (.s 9))),(oo 4 (.mov (.s 10)))]) (.reg [(oo 11 (.mov (.s 3))),(oo 12 (.mkSl 1 0 [(.int .u8 0)] [])),(oo 13 (.mov (.s 4))),(oo 14 (.append 1 1 (.s 12) (.s 13))),(oo 15 (.fld 2 (.s 1))),(oo 16 (.idxA 4 1 (.s 15) (.s 11))),⟨none,none,(.st 1 (.s 16) (.s 14))⟩]))) (.reg [(oo 17 (.bin .add (.s 7) (.c (.int .i64 1)))),(oo 7 (.mov (.s 17)))]))))))) (.seq (.reg [(oo 18 (.ld (some 6) (.s 1))),⟨none,none,(.st 6 (.s 2) (.s 18))⟩]) .ret)))
def F_gazetteerref06_Copy (P : Program) (a0 : V) (st : St) (K : V → St → Prop) : Prop :=
 @stp P (.box (.c a0)) st ⟨fun v1 st =>
 @stp P (.alloc [(.int .i64 0),(.int .u64 0),(.sl .nil 0 [] []),(.sl .nil 0 [] []),(.sl .nil 0 [] []),(.sl .nil 0 [] [])]) st ⟨fun v2 st =>
 @stp P (.fld 2 (.c v1)) st ⟨fun v5 st =>
 @stp P (.ld (some 4) (.c v5)) st ⟨fun v6 st =>
 @Hold ⟨∃ I1 : Nat → Rel 1,(∃ k,GhostV [(.int .i64 0)] st (app (I1 k))) ∧ ∀ k1 v7,∀ st,app (I1 k1) [v7] st →
 @stp P (.bin .lss (.c v7) (.c (.int .i64 4))) st ⟨fun v8 st =>
 @cnd v8 ⟨
 @stp P (.idxV 4 1 false (.c v6) (.c v7)) st ⟨fun v10 st =>
 @stp P (.mkSl 1 0 [(.int .u8 0)] []) st ⟨fun v12 st =>
 @stp P (.append 1 1 (.c v12) (.c v10)) st ⟨fun v14 st =>
 @stp P (.fld 2 (.c v1)) st ⟨fun v15 st =>
 @stp P (.idxA 4 1 (.c v15) (.c v7)) st ⟨fun v16 st =>
 @stp P (.st 1 (.c v16) (.c v14)) st ⟨fun _v st =>
 @stp P (.bin .add (.c v7) (.c (.int .i64 1))) st ⟨fun v17 st =>
 ∃ j,j < k1 ∧ GhostV [v17] st (app (I1 j))⟩⟩⟩⟩⟩⟩⟩⟩
 ⟨
 @stp P (.ld (some 6) (.c v1)) st ⟨fun v18 st =>
 @stp P (.st 6 (.c v2) (.c v18)) st ⟨fun _v st =>
 @ldr (some 6) v2 st ⟨fun r1 =>
 GhostV [r1] st fun vs st => K (mkres vs) st⟩⟩⟩⟩⟩⟩⟩⟩⟩⟩
theorem q_gazetteerref06_Copy {P : Program} {a0 : V} {st : St} {K : V → St → Prop} : F_gazetteerref06_Copy P a0 st K = hwp P c_gazetteerref06_Copy (hretQ [.cell 2 (some 6)] K) (enterFr [a0]) st := by kernel_rfl
abbrev R_gazetteerref06_Copy (P : Program) : Prop := resFnH P n_gazetteerref06_Copy = some (19, c_gazetteerref06_Copy.er, [.cell 2 (some 6)])
theorem A_gazetteerref06_Copy {P : Program} (h : R_gazetteerref06_Copy P) {a0 : V} {st : St} {K : V → St → Prop} (hF : F_gazetteerref06_Copy P a0 st K) : ACalls P n_gazetteerref06_Copy [a0] st K :=
  ACalls_h h rfl (by simp) (q_gazetteerref06_Copy ▸ hF)

def c_redo_Undo : ACode := (.seq (.reg [(oo 6 (.mov nx0)),(oo 7 (.mov (.c (.int .i64 0))))]) (.cond (.c (.bool true)) (.seq (.seq (.reg [(oo 23 (.mov (.s 0))),(oo 24 (.call (fx n_record_CheckRow) [(.s 23)])),(oo 8 (.mov (.s 24)))]) (.seq (.reg [(oo 25 (.mov (.s 8))),(oo 26 (.bin .neq (.s 25) (.c (.int .i64 0))))]) (.cond (.s 26) (.seq (.reg [(oo 27 (.mov (.s 8))),(oo 6 (.mov nx0)),(oo 7 (.mov (.s 27)))]) .ret) .skip))) (.seq (.seq (.reg [(oo 28 (.mov (.s 2))),(oo 29 (.bin .eql (.s 28) (.c (.int .u64 0)))),(oo 30 (.mov (.s 29))),⟨(some 31),(some (30,false)),(.mov (.s 2))⟩,⟨(some 32),(some (30,false)),(.mov (.s 0))⟩,⟨(some 33),(some (30,false)),(.call (fx n_redo_end) [(.s 32)])⟩,⟨(some 34),(some (30,false)),(.bin .leq (.s 31) (.s 33))⟩,(oo 35 (.pick (.s 30) (.c (.bool true)) (.s 34)))]) (.cond (.s 35) (.seq (.reg [(oo 6 (.mov nx0)),(oo 7 (.mov (.c (.int .i64 2))))]) .ret) .skip)) (.seq (.reg [(oo 36 .mkmap),(oo 9 (.mov (.s 36)))]) (.seq (.seq (.reg [(oo 37 (.mov (.s 0))),(oo 38 (.len .sl (.s 37))),(oo 39 (.mov (.c (.int .i64 0))))]) (.block 0 (.loop [39] [11,39,40,41,42,43,44,45,46,47] (.seq (.reg [(oo 40 (.bin .lss (.s 39) (.s 38)))]) (.seq (.cond (.s 40) .skip (.exit 0)) (.seq (.block 1 (.seq (.reg [(oo 41 (.idx 9 (.s 37) (.s 39))),(oo 42 (.ld (some 9) (.s 41))),(oo 11 (.alloc zrR)),⟨none,none,(.st 9 (.s 11) (.s 42))⟩]) (.reg [(oo 43 (.mov (.s 9))),(oo 44 (.fld 0 (.s 11))),(oo 45 (.ld none (.s 44))),(oo 46 (.ld (some 9) (.s 11))),⟨none,none,(.mupd (.one .int) (.s 43) (.s 45) (.s 46))⟩]))) (.reg [(oo 47 (.bin .add (.s 39) (.c (.int .i64 1)))),(oo 39 (.mov (.s 47)))]))))))) (.seq (.seq (.reg [(oo 48 (.mov (.s 1))),(oo 49 (.len .sl (.s 48))),(oo 50 (.mov (.c (.int .i64 0))))]) (.block 2 (.loop [50] [6,7,12,13,14,15,50,51,52,53,54,55,56,57,58,59,60,61,62,63,64,65,66,67,68,69,70,71,72,73,74,75,76,77,78,79,80,81,82,83,84,85,86,87,88,89,90,91,92,93] (.seq (.reg [(oo 51 (.bin .lss (.s 50) (.s 49)))]) (.seq (.cond (.s 51) .skip (.exit 2)) (.seq (.block 3 (.seq (.reg [(oo 52 (.mov (.s 50))),(oo 53 (.idx 3 (.s 48) (.s 50))),(oo 54 (.ld (some 3) (.s 53))),(oo 13 (.alloc [(.int .u64 0),(.int .u64 0),(.int .u64 0)])),(oo 12 (.mov (.s 52))),⟨none,none,(.st 3 (.s 13) (.s 54))⟩]) (.seq (.reg [(oo 56 (.mov (.s 9))),(oo 57 (.fld 1 (.s 13))),(oo 58 (.ld none (.s 57))),(oo 59 (.lookup (.one .int) (.agg zrR) true (.s 56) (.s 58))),(oo 55 (.mov (.s 59))),(oo 60 (.ext 0 (.s 55))),(oo 61 (.ext 1 (.s 55))),(oo 14 (.alloc zrR)),⟨none,none,(.st 9 (.s 14) (.s 60))⟩,(oo 15 (.mov (.s 61)))]) (.seq (.regD [(oo 62 (.mov (.s 15))),(oo 63 (.un .not (.s 62))),(oo 64 (.mov (.s 63))),⟨(some 65),(some (64,false)),(.fld 2 (.s 14))⟩,⟨(some 66),(some (64,false)),(.ld none (.s 65))⟩,⟨(some 67),(some (64,false)),(.fld 0 (.s 13))⟩,⟨(some 68),(some (64,false)),(.ld none (.s 67))⟩,⟨(some 69),(some (64,false)),(.bin .neq (.s 66) (.s 68))⟩,(oo 70 (.pick (.s 64) (.c (.bool true)) (.s 69))),(oo 71 (.mov (.s 70))),⟨(some 72),(some (71,false)),(.fld 2 (.s 13))⟩,⟨(some 73),(some (71,false)),(.ld none (.s 72))⟩,⟨(some 74),(some (71,false)),(.fld 1 (.s 13))⟩,⟨(some 75),(some (71,false)),(.ld none (.s 74))⟩,⟨(some 76),(some (71,false)),(.bin .gtr (.s 73) (.s 75))⟩,(oo 77 (.pick (.s 71) (.c (.bool true)) (.s 76))),(oo 78 (.mov (.s 77))),⟨(some 79),(some (78,false)),(.mov (.s 12))⟩,⟨(some 80),(some (78,false)),(.bin .gtr (.s 79) (.c (.int .i64 0)))⟩,⟨(some 81),(some (78,false)),(.mov (.s 80))⟩,⟨(some 82),(some (81,true)),(.mov (.s 1))⟩,⟨(some 83),(some (81,true)),(.mov (.s 12))⟩,⟨(some 84),(some (81,true)),(.bin .sub (.s 83) (.c (.int .i64 1)))⟩,⟨(some 85),(some (81,true)),(.idx 3 (.s 82) (.s 84))⟩,⟨(some 86),(some (81,true)),(.fld 0 (.s 85))⟩,⟨(some 87),(some (81,true)),(.ld none (.s 86))⟩,⟨(some 88),(some (81,true)),(.fld 0 (.s 13))⟩,⟨(some 89),(some (81,true)),(.ld none (.s 88))⟩,⟨(some 90),(some (81,true)),(.bin .geq (.s 87) (.s 89))⟩,⟨(some 91),(some (78,false)),(.pick (.s 81) (.s 90) (.c (.bool false)))⟩,(oo 92 (.pick (.s 78) (.c (.bool true)) (.s 91)))] [(0,(false,[])),(1,(false,[])),(2,(false,[])),(3,(false,[])),(4,(false,[])),(5,(false,[])),(6,(false,[])),(7,(false,[])),(8,(false,[])),(9,(false,[])),(10,(false,[])),(11,(false,[])),(12,(false,[])),(13,(false,[])),(14,(false,[])),(15,(false,[])),(16,(false,[])),(17,(false,[])),(18,(false,[])),(19,(false,[])),(20,(false,[])),(21,(false,[])),(22,(false,[])),(23,(false,[])),(24,(false,[])),(25,(false,[])),(26,(false,[])),(27,(false,[])),(28,(false,[])),(29,(false,[])),(30,(false,[]))]) (.cond (.s 92) (.seq (.reg [(oo 6 (.mov nx0)),(oo 7 (.mov (.c (.int .i64 220))))]) .ret) .skip))))) (.reg [(oo 93 (.bin .add (.s 50) (.c (.int .i64 1)))),(oo 50 (.mov (.s 93)))]))))))) (.seq (.reg [(oo 94 (.mov (.s 1))),(oo 95 (.call (fx n_slices_Clone_Open_Open) [(.s 94)])),(oo 16 (.mov (.s 95)))]) (.seq (.reg [(oo 17 (.mov nx0))]) (.seq .skip (.seq (.block 4 (.loop [2,16,17] [2,6,7,16,17,18,19,20,21,22,96,97,98,99,100,101,102,103,104,105,106,107,108,109,110,111,112,113,114,115,116,117,118,119,120,121,122,123,124,125,126,127,128,129,130,131,132,133,134,135,136,137,138,139,140,141,142,143,144,145,146,147,148,149,150,151,152,153,154,155,156,157,158,159,160,161,162,163,164,165,166,167,168,169,170,171,172,173,174,175,176,177,178,179,180,181,182,183,184,185,186,187,188] (.seq (.seq (.reg [(oo 96 (.mov (.s 16))),(oo 97 (.len .sl (.s 96))),(oo 98 (.bin .gtr (.s 97) (.c (.int .i64 0))))]) (.cond (.s 98) .skip (.exit 4))) (.block 5 (.seq (.reg [(oo 99 (.mov (.s 16))),(oo 100 (.call (fx n_slices_MinFunc_Open_Open) [(.s 99),(fx n_redo_before)])),(oo 18 (.alloc [(.int .u64 0),(.int .u64 0),(.int .u64 0)])),⟨none,none,(.st 3 (.s 18) (.s 100))⟩]) (.seq (.reg [(oo 101 (.mov (.s 16))),(oo 102 (.ld (some 3) (.s 18))),(oo 103 (.call (fx n_slices_Index_Open_Open) [(.s 101),(.s 102)])),(oo 19 (.mov (.s 103)))]) (.seq (.reg [(oo 105 (.mov (.s 9))),(oo 106 (.fld 2 (.s 18))),(oo 107 (.ld none (.s 106))),(oo 108 (.lookup (.one .int) (.agg zrR) true (.s 105) (.s 107))),(oo 104 (.mov (.s 108))),(oo 109 (.ext 0 (.s 104))),(oo 110 (.ext 1 (.s 104))),(oo 20 (.alloc zrR)),⟨none,none,(.st 9 (.s 20) (.s 109))⟩,(oo 21 (.mov (.s 110)))]) (.seq (.reg [(oo 111 (.mov (.s 2))),(oo 112 (.fld 0 (.s 18))),(oo 113 (.ld none (.s 112))),(oo 114 (.fld 1 (.s 18))),(oo 115 (.ld none (.s 114))),(oo 116 (.build zrR [(0,(1,(.s 111))),(1,(1,(.c (.int .i64 4)))),(2,(1,(.s 113))),(3,(1,(.s 115)))])),(oo 22 (.alloc zrR)),⟨none,none,(.st 9 (.s 22) (.s 116))⟩]) (.join [16] [6,7,16,117,118,119,120,121,122,123,124,125,126,127,128,129,130,131,132,133,134,135,136,137,138,139,140,141,142,143,144,145,146,147,148,149,150,151,152,153,154,155,156,157,158,159,160,161,162,163,164,165,166,167,168,169,170,171,172,173,174,175] (.block 6 (.seq (.reg [(oo 143 (.fld 2 (.s 18))),(oo 144 (.ld none (.s 143))),(oo 145 (.bin .eql (.s 144) (.c (.int .u64 0)))),(oo 142 (.mov (.s 145)))]) (.cond (.s 142) (.reg [(oo 146 (.mov (.s 16))),(oo 147 (.mov (.s 19))),(oo 148 (.mov (.s 19))),(oo 149 (.bin .add (.s 148) (.c (.int .i64 1)))),(oo 150 (.call (fx n_slices_Delete_Open_Open) [(.s 146),(.s 147),(.s 149)])),(oo 16 (.mov (.s 150)))]) (.seq (.reg [(oo 152 (.mov (.s 21))),(oo 153 (.un .not (.s 152))),(oo 154 (.mov (.s 153))),⟨(some 155),(some (154,false)),(.fld 2 (.s 20))⟩,⟨(some 156),(some (154,false)),(.ld none (.s 155))⟩,⟨(some 157),(some (154,false)),(.fld 0 (.s 18))⟩,⟨(some 158),(some (154,false)),(.ld none (.s 157))⟩,⟨(some 159),(some (154,false)),(.bin .neq (.s 156) (.s 158))⟩,(oo 160 (.pick (.s 154) (.c (.bool true)) (.s 159))),(oo 161 (.mov (.s 160))),⟨(some 162),(some (161,false)),(.ld (some 9) (.s 20))⟩,⟨(some 163),(some (161,false)),(.call (fx n_redo_changes) [(.s 162)])⟩,⟨(some 164),(some (161,false)),(.un .not (.s 163))⟩,(oo 165 (.pick (.s 161) (.c (.bool true)) (.s 164))),(oo 151 (.mov (.s 165)))]) (.cond (.s 151) (.seq (.reg [(oo 6 (.mov nx0)),(oo 7 (.mov (.c (.int .i64 220))))]) .ret) (.seq (.reg [(oo 167 (.fld 1 (.s 20))),(oo 168 (.ld none (.s 167))),(oo 169 (.bin .eql (.s 168) (.c (.int .i64 2)))),(oo 166 (.mov (.s 169)))]) (.cond (.s 166) (.seq (.reg [(oo 170 (.mov (.s 16))),(oo 171 (.mov (.s 19))),(oo 172 (.fld 8 (.s 20))),(oo 173 (.ld none (.s 172))),(oo 174 (.idx 3 (.s 170) (.s 171))),(oo 175 (.fld 2 (.s 174))),⟨none,none,(.st 1 (.s 175) (.s 173))⟩]) (.exit 5)) (.seq (.regD [(oo 117 (.fld 4 (.s 20))),(oo 118 (.ld none (.s 117))),(oo 119 (.fld 5 (.s 20))),(oo 120 (.ld none (.s 119))),(oo 121 (.fld 6 (.s 20))),(oo 122 (.ld none (.s 121))),(oo 123 (.call (fx n_slices_Clone_byte_byte) [(.s 122)])),(oo 124 (.fld 3 (.s 20))),(oo 125 (.ld none (.s 124))),(oo 126 (.fld 1 (.s 22))),⟨none,none,(.st 1 (.s 126) (.c (.int .i64 2)))⟩,(oo 127 (.fld 4 (.s 22))),⟨none,none,(.st 1 (.s 127) (.s 118))⟩,(oo 128 (.fld 5 (.s 22))),⟨none,none,(.st 1 (.s 128) (.s 120))⟩,(oo 129 (.fld 7 (.s 22))),⟨none,none,(.st 1 (.s 129) (.s 123))⟩,(oo 130 (.fld 8 (.s 22))),⟨none,none,(.st 1 (.s 130) (.s 125))⟩] [(0,(false,[])),(1,(false,[])),(2,(false,[])),(3,(false,[])),(4,(false,[])),(5,(false,[])),(7,(false,[])),(8,(false,[])),(9,(false,[])),(6,(true,[9,8,7,3,2,1,0])),(10,(true,[8,7,3,2,1,0])),(11,(false,[])),(12,(true,[8,7,3,2])),(13,(false,[])),(14,(true,[8,7])),(15,(false,[])),(16,(true,[8,7])),(17,(false,[])),(18,(true,[]))]) (.regD [(oo 131 (.mov (.s 16))),(oo 132 (.mov (.s 19))),(oo 133 (.mov (.s 16))),(oo 134 (.mov (.s 19))),(oo 135 (.mov (.s 2))),(oo 136 (.fld 3 (.s 20))),(oo 137 (.ld none (.s 136))),(oo 138 (.idx 3 (.s 131) (.s 132))),(oo 139 (.fld 1 (.s 138))),⟨none,none,(.st 1 (.s 139) (.s 135))⟩,(oo 140 (.idx 3 (.s 133) (.s 134))),(oo 141 (.fld 2 (.s 140))),⟨none,none,(.st 1 (.s 141) (.s 137))⟩] [(0,(false,[])),(1,(false,[])),(2,(false,[])),(3,(false,[])),(4,(false,[])),(5,(false,[])),(6,(false,[])),(7,(false,[])),(8,(false,[])),(9,(true,[6,5,3,2])),(10,(false,[])),(11,(false,[])),(12,(true,[]))]))))))))) (.seq (.seq (.reg [(oo 176 (.mov (.s 17))),(oo 177 (.len .sl (.s 176))),(oo 178 (.bin .eql (.s 177) (.c (.int .i64 64)))),(oo 179 (.mov (.s 178))),⟨(some 180),(some (179,false)),(.mov (.s 2))⟩,⟨(some 181),(some (179,false)),(.bin .eql (.s 180) (.c (.int .u64 0)))⟩,(oo 182 (.pick (.s 179) (.c (.bool true)) (.s 181)))]) (.cond (.s 182) (.seq (.reg [(oo 6 (.mov nx0)),(oo 7 (.mov (.c (.int .i64 3))))]) .ret) .skip)) (.seq (.reg [(oo 183 (.mov (.s 17))),(oo 184 (.ld (some 9) (.s 22))),(oo 185 (.mkSl 9 1 zrR [(0,(.s 184))])),(oo 186 (.append 9 104 (.s 183) (.s 185))),(oo 17 (.mov (.s 186)))]) (.reg [(oo 187 (.mov (.s 2))),(oo 188 (.bin .add (.s 187) (.c (.int .u64 1)))),(oo 2 (.mov (.s 188)))])))))))))))) (.seq (.reg [(oo 189 (.mov (.s 17))),(oo 6 (.mov (.s 189))),(oo 7 (.mov (.c (.int .i64 0))))]) .ret)))))))))) .skip))
def F_redo_Undo (P : Program) (a0 a1 a2 : V) (st : St) (K : V → St → Prop) : Prop :=
 @cnd (.bool true) ⟨
 @stp P (.call (.c (.fn (.func n_record_CheckRow) [] [])) [(.c a0)]) st ⟨fun v24 st =>
 @stp P (.bin .neq (.c v24) (.c (.int .i64 0))) st ⟨fun v26 st =>
 @cnd v26 ⟨
 GhostV [(.sl .nil 0 [] []),v24] st fun vs st => K (mkres vs) st⟩
 ⟨
 @stp P (.bin .eql (.c a2) (.c (.int .u64 0))) st ⟨fun v29 st =>
 @gst P v29 false (.mov (.c a2)) st ⟨fun v31 st =>
 @gst P v29 false (.mov (.c a0)) st ⟨fun v32 st =>
 @gst P v29 false (.call (.c (.fn (.func n_redo_end) [] [])) [(.c v32)]) st ⟨fun v33 st =>
 @gst P v29 false (.bin .leq (.c v31) (.c v33)) st ⟨fun v34 st =>
 @stp P (.pick (.c v29) (.c (.bool true)) (.c v34)) st ⟨fun v35 st =>
 @cnd v35 ⟨
 GhostV [(.sl .nil 0 [] []),(.int .i64 2)] st fun vs st => K (mkres vs) st⟩
 ⟨
 @stp P .mkmap st ⟨fun v36 st =>
 @stp P (.len .sl (.c a0)) st ⟨fun v38 st =>
 @Hold ⟨∃ I1 : Nat → Rel 1,(∃ k,GhostV [(.int .i64 0)] st (app (I1 k))) ∧ ∀ k1 v39,∀ st,app (I1 k1) [v39] st →
 @stp P (.bin .lss (.c v39) (.c v38)) st ⟨fun v40 st =>
 @cnd v40 ⟨
 @stp P (.idx 9 (.c a0) (.c v39)) st ⟨fun v41 st =>
 @stp P (.ld (some 9) (.c v41)) st ⟨fun v42 st =>
 @stp P (.alloc [(.int .u64 0),(.int .i64 0),(.int .u64 0),(.int .u64 0),(.int .i64 0),(.int .i64 0),(.sl .nil 0 [] []),(.sl .nil 0 [] []),(.int .u64 0)]) st ⟨fun v11 st =>
 @stp P (.st 9 (.c v11) (.c v42)) st ⟨fun _v st =>
 @stp P (.fld 0 (.c v11)) st ⟨fun v44 st =>
 @stp P (.ld none (.c v44)) st ⟨fun v45 st =>
 @stp P (.ld (some 9) (.c v11)) st ⟨fun v46 st =>
 @stp P (.mupd (.one .int) (.c v36) (.c v45) (.c v46)) st ⟨fun _v st =>
 @stp P (.bin .add (.c v39) (.c (.int .i64 1))) st ⟨fun v47 st =>
 ∃ j,j < k1 ∧ GhostV [v47] st (app (I1 j))⟩⟩⟩⟩⟩⟩⟩⟩⟩⟩
 ⟨
 @stp P (.len .sl (.c a1)) st ⟨fun v49 st =>
 @Hold ⟨∃ I2 : Nat → Rel 1,(∃ k,GhostV [(.int .i64 0)] st (app (I2 k))) ∧ ∀ k2 v50,∀ st,app (I2 k2) [v50] st →
 @stp P (.bin .lss (.c v50) (.c v49)) st ⟨fun v51 st =>
 @cnd v51 ⟨
 @stp P (.idx 3 (.c a1) (.c v50)) st ⟨fun v53 st =>
 @stp P (.ld (some 3) (.c v53)) st ⟨fun v54 st =>
 @stp P (.alloc [(.int .u64 0),(.int .u64 0),(.int .u64 0)]) st ⟨fun v13 st =>
 @stp P (.st 3 (.c v13) (.c v54)) st ⟨fun _v st =>
 @stp P (.fld 1 (.c v13)) st ⟨fun v57 st =>
 @stp P (.ld none (.c v57)) st ⟨fun v58 st =>
 @stp P (.lookup (.one .int) (.agg [(.int .u64 0),(.int .i64 0),(.int .u64 0),(.int .u64 0),(.int .i64 0),(.int .i64 0),(.sl .nil 0 [] []),(.sl .nil 0 [] []),(.int .u64 0)]) true (.c v36) (.c v58)) st ⟨fun v59 st =>
 @stp P (.ext 0 (.c v59)) st ⟨fun v60 st =>
 @stp P (.ext 1 (.c v59)) st ⟨fun v61 st =>
 @stp P (.alloc [(.int .u64 0),(.int .i64 0),(.int .u64 0),(.int .u64 0),(.int .i64 0),(.int .i64 0),(.sl .nil 0 [] []),(.sl .nil 0 [] []),(.int .u64 0)]) st ⟨fun v14 st =>
 @stp P (.st 9 (.c v14) (.c v60)) st ⟨fun _v st =>
 @stpD P (.un .not (.c v61)) st ⟨fun v63 st =>
 @gstD P v63 false (.fld 2 (.c v14)) st ⟨fun v65 st =>
 @gstD P v63 false (.ld none (.c v65)) st ⟨fun v66 st =>
 @gstD P v63 false (.fld 0 (.c v13)) st ⟨fun v67 st =>
 @gstD P v63 false (.ld none (.c v67)) st ⟨fun v68 st =>
 @gstD P v63 false (.bin .neq (.c v66) (.c v68)) st ⟨fun v69 st =>
 @stpD P (.pick (.c v63) (.c (.bool true)) (.c v69)) st ⟨fun v70 st =>
 @gstD P v70 false (.fld 2 (.c v13)) st ⟨fun v72 st =>
 @gstD P v70 false (.ld none (.c v72)) st ⟨fun v73 st =>
 @gstD P v70 false (.fld 1 (.c v13)) st ⟨fun v74 st =>
 @gstD P v70 false (.ld none (.c v74)) st ⟨fun v75 st =>
 @gstD P v70 false (.bin .gtr (.c v73) (.c v75)) st ⟨fun v76 st =>
 @stpD P (.pick (.c v70) (.c (.bool true)) (.c v76)) st ⟨fun v77 st =>
 @gstD P v77 false (.mov (.c v50)) st ⟨fun v79 st =>
 @gstD P v77 false (.bin .gtr (.c v79) (.c (.int .i64 0))) st ⟨fun v80 st =>
 @gstD P v77 false (.mov (.c v80)) st ⟨fun v81 st =>
 @gstD P v81 true (.mov (.c a1)) st ⟨fun v82 st =>
 @gstD P v81 true (.mov (.c v50)) st ⟨fun v83 st =>
 @gstD P v81 true (.bin .sub (.c v83) (.c (.int .i64 1))) st ⟨fun v84 st =>
 @gstD P v81 true (.idx 3 (.c v82) (.c v84)) st ⟨fun v85 st =>
 @gstD P v81 true (.fld 0 (.c v85)) st ⟨fun v86 st =>
 @gstD P v81 true (.ld none (.c v86)) st ⟨fun v87 st =>
 @gstD P v81 true (.fld 0 (.c v13)) st ⟨fun v88 st =>
 @gstD P v81 true (.ld none (.c v88)) st ⟨fun v89 st =>
 @gstD P v81 true (.bin .geq (.c v87) (.c v89)) st ⟨fun v90 st =>
 @gstD P v77 false (.pick (.c v81) (.c v90) (.c (.bool false))) st ⟨fun v91 st =>
 @stpD P (.pick (.c v77) (.c (.bool true)) (.c v91)) st ⟨fun v92 st =>
 @cnd v92 ⟨
 GhostV [(.sl .nil 0 [] []),(.int .i64 220)] st fun vs st => K (mkres vs) st⟩
 ⟨
 @stp P (.bin .add (.c v50) (.c (.int .i64 1))) st ⟨fun v93 st =>
 ∃ j,j < k2 ∧ GhostV [v93] st (app (I2 j))⟩⟩⟩⟩⟩⟩⟩⟩⟩⟩⟩⟩⟩⟩⟩⟩⟩⟩⟩⟩⟩⟩⟩⟩⟩⟩⟩⟩⟩⟩⟩⟩⟩⟩⟩⟩⟩⟩⟩⟩⟩
 ⟨
 @stp P (.call (.c (.fn (.func n_slices_Clone_Open_Open) [] [])) [(.c a1)]) st ⟨fun v95 st =>
 @Hold ⟨∃ I3 : Nat → Rel 3,(∃ k,GhostV [a2,v95,(.sl .nil 0 [] [])] st (app (I3 k))) ∧ ∀ k3 v2 v16 v17,∀ st,app (I3 k3) [v2,v16,v17] st →
 @stp P (.len .sl (.c v16)) st ⟨fun v97 st =>
 @stp P (.bin .gtr (.c v97) (.c (.int .i64 0))) st ⟨fun v98 st =>
 @cnd v98 ⟨
 @stp P (.call (.c (.fn (.func n_slices_MinFunc_Open_Open) [] [])) [(.c v16),(.c (.fn (.func n_redo_before) [] []))]) st ⟨fun v100 st =>
 @stp P (.alloc [(.int .u64 0),(.int .u64 0),(.int .u64 0)]) st ⟨fun v18 st =>
 @stp P (.st 3 (.c v18) (.c v100)) st ⟨fun _v st =>
 @stp P (.ld (some 3) (.c v18)) st ⟨fun v102 st =>
 @stp P (.call (.c (.fn (.func n_slices_Index_Open_Open) [] [])) [(.c v16),(.c v102)]) st ⟨fun v103 st =>
 @stp P (.fld 2 (.c v18)) st ⟨fun v106 st =>
 @stp P (.ld none (.c v106)) st ⟨fun v107 st =>
 @stp P (.lookup (.one .int) (.agg [(.int .u64 0),(.int .i64 0),(.int .u64 0),(.int .u64 0),(.int .i64 0),(.int .i64 0),(.sl .nil 0 [] []),(.sl .nil 0 [] []),(.int .u64 0)]) true (.c v36) (.c v107)) st ⟨fun v108 st =>
 @stp P (.ext 0 (.c v108)) st ⟨fun v109 st =>
 @stp P (.ext 1 (.c v108)) st ⟨fun v110 st =>
 @stp P (.alloc [(.int .u64 0),(.int .i64 0),(.int .u64 0),(.int .u64 0),(.int .i64 0),(.int .i64 0),(.sl .nil 0 [] []),(.sl .nil 0 [] []),(.int .u64 0)]) st ⟨fun v20 st =>
 @stp P (.st 9 (.c v20) (.c v109)) st ⟨fun _v st =>
 @stp P (.fld 0 (.c v18)) st ⟨fun v112 st =>
 @stp P (.ld none (.c v112)) st ⟨fun v113 st =>
 @stp P (.fld 1 (.c v18)) st ⟨fun v114 st =>
 @stp P (.ld none (.c v114)) st ⟨fun v115 st =>
 @stp P (.build [(.int .u64 0),(.int .i64 0),(.int .u64 0),(.int .u64 0),(.int .i64 0),(.int .i64 0),(.sl .nil 0 [] []),(.sl .nil 0 [] []),(.int .u64 0)] [(0,1,(.c v2)),(1,1,(.c (.int .i64 4))),(2,1,(.c v113)),(3,1,(.c v115))]) st ⟨fun v116 st =>
 @stp P (.alloc [(.int .u64 0),(.int .i64 0),(.int .u64 0),(.int .u64 0),(.int .i64 0),(.int .i64 0),(.sl .nil 0 [] []),(.sl .nil 0 [] []),(.int .u64 0)]) st ⟨fun v22 st =>
 @stp P (.st 9 (.c v22) (.c v116)) st ⟨fun _v st =>
 @Hold ⟨∃ J4 : Rel 1,(
 @stp P (.fld 2 (.c v18)) st ⟨fun v143 st =>
 @stp P (.ld none (.c v143)) st ⟨fun v144 st =>
 @stp P (.bin .eql (.c v144) (.c (.int .u64 0))) st ⟨fun v145 st =>
 @cnd v145 ⟨
 @stp P (.bin .add (.c v103) (.c (.int .i64 1))) st ⟨fun v149 st =>
 @stp P (.call (.c (.fn (.func n_slices_Delete_Open_Open) [] [])) [(.c v16),(.c v103),(.c v149)]) st ⟨fun v150 st =>
 GhostV [v150] st (app J4)⟩⟩⟩
 ⟨
 @stp P (.un .not (.c v110)) st ⟨fun v153 st =>
 @gst P v153 false (.fld 2 (.c v20)) st ⟨fun v155 st =>
 @gst P v153 false (.ld none (.c v155)) st ⟨fun v156 st =>
 @gst P v153 false (.fld 0 (.c v18)) st ⟨fun v157 st =>
 @gst P v153 false (.ld none (.c v157)) st ⟨fun v158 st =>
 @gst P v153 false (.bin .neq (.c v156) (.c v158)) st ⟨fun v159 st =>
 @stp P (.pick (.c v153) (.c (.bool true)) (.c v159)) st ⟨fun v160 st =>
 @gst P v160 false (.ld (some 9) (.c v20)) st ⟨fun v162 st =>
 @gst P v160 false (.call (.c (.fn (.func n_redo_changes) [] [])) [(.c v162)]) st ⟨fun v163 st =>
 @gst P v160 false (.un .not (.c v163)) st ⟨fun v164 st =>
 @stp P (.pick (.c v160) (.c (.bool true)) (.c v164)) st ⟨fun v165 st =>
 @cnd v165 ⟨
 GhostV [(.sl .nil 0 [] []),(.int .i64 220)] st fun vs st => K (mkres vs) st⟩
 ⟨
 @stp P (.fld 1 (.c v20)) st ⟨fun v167 st =>
 @stp P (.ld none (.c v167)) st ⟨fun v168 st =>
 @stp P (.bin .eql (.c v168) (.c (.int .i64 2))) st ⟨fun v169 st =>
 @cnd v169 ⟨
 @stp P (.fld 8 (.c v20)) st ⟨fun v172 st =>
 @stp P (.ld none (.c v172)) st ⟨fun v173 st =>
 @stp P (.idx 3 (.c v16) (.c v103)) st ⟨fun v174 st =>
 @stp P (.fld 2 (.c v174)) st ⟨fun v175 st =>
 @stp P (.st 1 (.c v175) (.c v173)) st ⟨fun _v st =>
 ∃ j,j < k3 ∧ GhostV [v2,v16,v17] st (app (I3 j))⟩⟩⟩⟩⟩⟩
 ⟨
 @stpD P (.fld 4 (.c v20)) st ⟨fun v117 st =>
 @stpD P (.ld none (.c v117)) st ⟨fun v118 st =>
 @stpD P (.fld 5 (.c v20)) st ⟨fun v119 st =>
 @stpD P (.ld none (.c v119)) st ⟨fun v120 st =>
 @stpD P (.fld 6 (.c v20)) st ⟨fun v121 st =>
 @stpD P (.ld none (.c v121)) st ⟨fun v122 st =>
 @stpD P (.fld 3 (.c v20)) st ⟨fun v124 st =>
 @stpD P (.ld none (.c v124)) st ⟨fun v125 st =>
 @stpD P (.fld 1 (.c v22)) st ⟨fun v126 st =>
 @stpD P (.call (.c (.fn (.func n_slices_Clone_byte_byte) [] [])) [(.c v122)]) st ⟨fun v123 st =>
 hwat P none (.fld 1 (.c v22)) st v126 ∧ (
 hwat P none (.ld none (.c v124)) st v125 ∧ (
 hwat P none (.fld 3 (.c v20)) st v124 ∧ (
 hwat P none (.ld none (.c v119)) st v120 ∧ (
 hwat P none (.fld 5 (.c v20)) st v119 ∧ (
 hwat P none (.ld none (.c v117)) st v118 ∧ (
 hwat P none (.fld 4 (.c v20)) st v117 ∧ (
 @stpD P (.st 1 (.c v126) (.c (.int .i64 2))) st ⟨fun _v st =>
 hwat P none (.ld none (.c v124)) st v125 ∧ (
 hwat P none (.fld 3 (.c v20)) st v124 ∧ (
 hwat P none (.ld none (.c v119)) st v120 ∧ (
 hwat P none (.fld 5 (.c v20)) st v119 ∧ (
 hwat P none (.ld none (.c v117)) st v118 ∧ (
 hwat P none (.fld 4 (.c v20)) st v117 ∧ (
 @stpD P (.fld 4 (.c v22)) st ⟨fun v127 st =>
 @stpD P (.st 1 (.c v127) (.c v118)) st ⟨fun _v st =>
 hwat P none (.ld none (.c v124)) st v125 ∧ (
 hwat P none (.fld 3 (.c v20)) st v124 ∧ (
 hwat P none (.ld none (.c v119)) st v120 ∧ (
 hwat P none (.fld 5 (.c v20)) st v119 ∧ (
 @stpD P (.fld 5 (.c v22)) st ⟨fun v128 st =>
 @stpD P (.st 1 (.c v128) (.c v120)) st ⟨fun _v st =>
 hwat P none (.ld none (.c v124)) st v125 ∧ (
 hwat P none (.fld 3 (.c v20)) st v124 ∧ (
 @stpD P (.fld 7 (.c v22)) st ⟨fun v129 st =>
 @stpD P (.st 1 (.c v129) (.c v123)) st ⟨fun _v st =>
 hwat P none (.ld none (.c v124)) st v125 ∧ (
 hwat P none (.fld 3 (.c v20)) st v124 ∧ (
 @stpD P (.fld 8 (.c v22)) st ⟨fun v130 st =>
 @stpD P (.st 1 (.c v130) (.c v125)) st ⟨fun _v st =>
 @stpD P (.fld 3 (.c v20)) st ⟨fun v136 st =>
 @stpD P (.ld none (.c v136)) st ⟨fun v137 st =>
 @stpD P (.idx 3 (.c v16) (.c v103)) st ⟨fun v138 st =>
 @stpD P (.fld 1 (.c v138)) st ⟨fun v139 st =>
 @stpD P (.st 1 (.c v139) (.c v2)) st ⟨fun _v st =>
 hwat P none (.ld none (.c v136)) st v137 ∧ (
 hwat P none (.fld 3 (.c v20)) st v136 ∧ (
 hwat P none (.mov (.c v103)) st v103 ∧ (
 hwat P none (.mov (.c v16)) st v16 ∧ (
 @stpD P (.idx 3 (.c v16) (.c v103)) st ⟨fun v140 st =>
 @stpD P (.fld 2 (.c v140)) st ⟨fun v141 st =>
 @stpD P (.st 1 (.c v141) (.c v137)) st ⟨fun _v st =>
 GhostV [v16] st (app J4)⟩⟩⟩))))⟩⟩⟩⟩⟩⟩⟩))⟩⟩))⟩⟩))))⟩⟩))))))⟩)))))))⟩⟩⟩⟩⟩⟩⟩⟩⟩⟩⟩⟩⟩⟩⟩⟩⟩⟩⟩⟩⟩⟩⟩⟩⟩⟩⟩⟩⟩⟩) ∧
 ∀ v16_1 st,app J4 [v16_1] st →
 @stp P (.len .sl (.c v17)) st ⟨fun v177 st =>
 @stp P (.bin .eql (.c v177) (.c (.int .i64 64))) st ⟨fun v178 st =>
 @gst P v178 false (.mov (.c v2)) st ⟨fun v180 st =>
 @gst P v178 false (.bin .eql (.c v180) (.c (.int .u64 0))) st ⟨fun v181 st =>
 @stp P (.pick (.c v178) (.c (.bool true)) (.c v181)) st ⟨fun v182 st =>
 @cnd v182 ⟨
 GhostV [(.sl .nil 0 [] []),(.int .i64 3)] st fun vs st => K (mkres vs) st⟩
 ⟨
 @stp P (.ld (some 9) (.c v22)) st ⟨fun v184 st =>
 @stp P (.mkSl 9 1 [(.int .u64 0),(.int .i64 0),(.int .u64 0),(.int .u64 0),(.int .i64 0),(.int .i64 0),(.sl .nil 0 [] []),(.sl .nil 0 [] []),(.int .u64 0)] [(0,(.c v184))]) st ⟨fun v185 st =>
 @stp P (.append 9 104 (.c v17) (.c v185)) st ⟨fun v186 st =>
 @stp P (.bin .add (.c v2) (.c (.int .u64 1))) st ⟨fun v188 st =>
 ∃ j,j < k3 ∧ GhostV [v188,v16_1,v186] st (app (I3 j))⟩⟩⟩⟩⟩⟩⟩⟩⟩⟩⟩⟩⟩⟩⟩⟩⟩⟩⟩⟩⟩⟩⟩⟩⟩⟩⟩⟩⟩⟩⟩
 ⟨
 GhostV [v17,(.int .i64 0)] st fun vs st => K (mkres vs) st⟩⟩⟩⟩⟩⟩⟩⟩⟩⟩⟩⟩⟩⟩⟩⟩⟩⟩⟩⟩⟩⟩⟩⟩⟩
 ⟨
 GhostV [(.sl .nil 0 [] []),(.int .i64 0)] st fun vs st => K (mkres vs) st⟩
theorem q_redo_Undo {P : Program} {a0 a1 a2 : V} {st : St} {K : V → St → Prop} : F_redo_Undo P a0 a1 a2 st K = hwp P c_redo_Undo (hretQ [.tmp 6, .tmp 7] K) (enterFr [a0, a1, a2]) st := by kernel_rfl
abbrev R_redo_Undo (P : Program) : Prop := resFnH P n_redo_Undo = some (190, c_redo_Undo.er, [.tmp 6, .tmp 7])
theorem A_redo_Undo {P : Program} (h : R_redo_Undo P) {a0 a1 a2 : V} {st : St} {K : V → St → Prop} (hF : F_redo_Undo P a0 a1 a2 st K) : ACalls P n_redo_Undo [a0, a1, a2] st K :=
  ACalls_h h rfl (by simp) (q_redo_Undo ▸ hF)

def c_redo_again : ACode := (.seq (.reg [(oo 4 (.mov nx0))]) (.seq (.reg [(oo 14 (.mov (.s 0))),(oo 15 (.call (fx n_slices_Clone_Page_Page) [(.s 14)])),(oo 5 (.mov (.s 15)))]) (.seq (.seq (.reg [(oo 16 (.mov (.s 5))),(oo 17 (.len .sl (.s 16))),(oo 18 (.mov (.c (.int .i64 0))))]) (.block 0 (.loop [18] [6,7,8,9,18,19,20,21,22,23,24,25,26,27,28,29,30,31,32,33,34,35,36,37,38] (.seq (.reg [(oo 19 (.bin .lss (.s 18) (.s 17)))]) (.seq (.cond (.s 19) .skip (.exit 0)) (.seq (.block 1 (.seq (.reg [(oo 20 (.mov (.s 18))),(oo 21 (.idx 6 (.s 16) (.s 18))),(oo 22 (.ld (some 6) (.s 21))),(oo 7 (.alloc zrP)),(oo 6 (.mov (.s 20))),⟨none,none,(.st 6 (.s 7) (.s 22))⟩]) (.seq (.reg [(oo 23 (.fld 2 (.s 7))),(oo 24 (.ld (some 4) (.s 23))),(oo 25 (.mov (.c (.int .i64 0))))]) (.block 2 (.loop [25] [8,9,25,26,27,28,29,30,31,32,33,34,35,36,37] (.seq (.reg [(oo 26 (.bin .lss (.s 25) (.c (.int .i64 4))))]) (.seq (.cond (.s 26) .skip (.exit 2)) (.seq (.block 3 (.seq (.reg [(oo 27 (.mov (.s 25))),(oo 28 (.idxV 4 1 false (.s 24) (.s 25))),(oo 8 (.mov (.s 27))),(oo 9 (.mov (.s 28)))]) (.regD [(oo 29 (.mov (.s 5))),(oo 30 (.mov (.s 6))),(oo 31 (.mov (.s 8))),(oo 32 (.mov (.s 9))),(oo 33 (.call (fx n_slices_Clone_byte_byte) [(.s 32)])),(oo 34 (.idx 6 (.s 29) (.s 30))),(oo 35 (.fld 2 (.s 34))),(oo 36 (.idxA 4 1 (.s 35) (.s 31))),⟨none,none,(.st 1 (.s 36) (.s 33))⟩] [(0,(false,[])),(1,(false,[])),(2,(false,[])),(3,(false,[])),(5,(false,[])),(6,(false,[])),(4,(true,[6,5,2,1,0])),(7,(false,[])),(8,(true,[]))]))) (.reg [(oo 37 (.bin .add (.s 25) (.c (.int .i64 1)))),(oo 25 (.mov (.s 37)))]))))))))) (.reg [(oo 38 (.bin .add (.s 18) (.c (.int .i64 1)))),(oo 18 (.mov (.s 38)))]))))))) (.seq (.seq (.reg [(oo 39 (.mov (.s 1))),(oo 40 (.len .sl (.s 39))),(oo 41 (.mov (.c (.int .i64 0))))]) (.block 4 (.loop [41] [11,12,13,41,42,43,44,45,46,47,48,49,50,51,52,53,54,55,56,57,58,59,60,61,62,63,64,65,66,67,68,69,70,71,72,73,74,75,76,77,78,79,80,81,82,83,84] (.seq (.reg [(oo 42 (.bin .lss (.s 41) (.s 40)))]) (.seq (.cond (.s 42) .skip (.exit 4)) (.seq (.block 5 (.seq (.reg [(oo 43 (.idx 9 (.s 39) (.s 41))),(oo 44 (.ld (some 9) (.s 43))),(oo 11 (.alloc zrR)),⟨none,none,(.st 9 (.s 11) (.s 44))⟩]) (.seq (.reg [(oo 46 (.mov (.s 5))),(oo 47 (.fld 4 (.s 11))),(oo 48 (.ld none (.s 47))),(oo 49 (.call (fx n_slices_BinarySearchFunc_Page_Page_int) [(.s 46),(.s 48),(fx n_redo_again_1)])),(oo 45 (.mov (.s 49))),(oo 50 (.ext 0 (.s 45))),(oo 51 (.ext 1 (.s 45))),(oo 12 (.mov (.s 50))),(oo 13 (.mov (.s 51)))]) (.seq (.regD [(oo 52 (.mov (.s 13))),(oo 53 (.mov (.s 52))),⟨(some 54),(some (53,true)),(.ld (some 9) (.s 11))⟩,⟨(some 55),(some (53,true)),(.call (fx n_redo_changes) [(.s 54)])⟩,(oo 56 (.pick (.s 53) (.s 55) (.c (.bool false)))),(oo 57 (.mov (.s 56))),⟨(some 58),(some (57,true)),(.mov (.s 5))⟩,⟨(some 59),(some (57,true)),(.mov (.s 12))⟩,⟨(some 60),(some (57,true)),(.idx 6 (.s 58) (.s 59))⟩,⟨(some 61),(some (57,true)),(.fld 1 (.s 60))⟩,⟨(some 62),(some (57,true)),(.ld none (.s 61))⟩,⟨(some 63),(some (57,true)),(.fld 0 (.s 11))⟩,⟨(some 64),(some (57,true)),(.ld none (.s 63))⟩,⟨(some 65),(some (57,true)),(.bin .lss (.s 62) (.s 64))⟩,(oo 66 (.pick (.s 57) (.s 65) (.c (.bool false))))] [(0,(false,[])),(1,(false,[])),(2,(false,[])),(3,(true,[])),(4,(false,[])),(5,(false,[])),(6,(false,[])),(7,(false,[])),(8,(false,[])),(9,(false,[])),(10,(false,[])),(11,(false,[])),(12,(false,[])),(13,(false,[])),(14,(false,[]))]) (.cond (.s 66) (.regD [(oo 68 (.mov (.s 5))),(oo 69 (.mov (.s 12))),(oo 70 (.mov (.s 5))),(oo 71 (.mov (.s 12))),(oo 72 (.idx 6 (.s 70) (.s 71))),(oo 73 (.ld (some 6) (.s 72))),(oo 74 (.fld 5 (.s 11))),(oo 75 (.ld none (.s 74))),(oo 76 (.fld 7 (.s 11))),(oo 77 (.ld none (.s 76))),(oo 78 (.fld 0 (.s 11))),(oo 79 (.ld none (.s 78))),(oo 80 (.call (fx n_page_Set) [(.s 73),(.s 75),(.s 77),(.s 79)])),(oo 67 (.mov (.s 80))),(oo 81 (.ext 0 (.s 67))),(oo 82 (.ext 1 (.s 67))),(oo 83 (.idx 6 (.s 68) (.s 69))),⟨none,none,(.st 6 (.s 83) (.s 81))⟩] [(0,(false,[])),(1,(false,[])),(2,(false,[])),(3,(false,[])),(4,(false,[])),(5,(false,[])),(6,(false,[])),(7,(false,[])),(8,(false,[])),(9,(false,[])),(10,(false,[])),(11,(false,[])),(12,(true,[1,0])),(13,(false,[])),(14,(false,[])),(15,(false,[])),(16,(false,[])),(17,(true,[15]))]) .skip))))) (.reg [(oo 84 (.bin .add (.s 41) (.c (.int .i64 1)))),(oo 41 (.mov (.s 84)))]))))))) (.seq (.reg [(oo 85 (.mov (.s 5))),(oo 4 (.mov (.s 85)))]) .ret)))))
def F_redo_again (P : Program) (a0 a1 : V) (st : St) (K : V → St → Prop) : Prop :=
 @stp P (.call (.c (.fn (.func n_slices_Clone_Page_Page) [] [])) [(.c a0)]) st ⟨fun v15 st =>
 @stp P (.len .sl (.c v15)) st ⟨fun v17 st =>
 @Hold ⟨∃ I1 : Nat → Rel 1,(∃ k,GhostV [(.int .i64 0)] st (app (I1 k))) ∧ ∀ k1 v18,∀ st,app (I1 k1) [v18] st →
 @stp P (.bin .lss (.c v18) (.c v17)) st ⟨fun v19 st =>
 @cnd v19 ⟨
 @stp P (.idx 6 (.c v15) (.c v18)) st ⟨fun v21 st =>
 @stp P (.ld (some 6) (.c v21)) st ⟨fun v22 st =>
 @stp P (.alloc [(.int .i64 0),(.int .u64 0),(.sl .nil 0 [] []),(.sl .nil 0 [] []),(.sl .nil 0 [] []),(.sl .nil 0 [] [])]) st ⟨fun v7 st =>
 @stp P (.st 6 (.c v7) (.c v22)) st ⟨fun _v st =>
 @stp P (.fld 2 (.c v7)) st ⟨fun v23 st =>
 @stp P (.ld (some 4) (.c v23)) st ⟨fun v24 st =>
 @Hold ⟨∃ I2 : Nat → Rel 1,(∃ k,GhostV [(.int .i64 0)] st (app (I2 k))) ∧ ∀ k2 v25,∀ st,app (I2 k2) [v25] st →
 @stp P (.bin .lss (.c v25) (.c (.int .i64 4))) st ⟨fun v26 st =>
 @cnd v26 ⟨
 @stp P (.idxV 4 1 false (.c v24) (.c v25)) st ⟨fun v28 st =>
 @stpD P (.idx 6 (.c v15) (.c v18)) st ⟨fun v34 st =>
 @stpD P (.fld 2 (.c v34)) st ⟨fun v35 st =>
 @stpD P (.call (.c (.fn (.func n_slices_Clone_byte_byte) [] [])) [(.c v28)]) st ⟨fun v33 st =>
 hwat P none (.fld 2 (.c v34)) st v35 ∧ (
 hwat P none (.idx 6 (.c v15) (.c v18)) st v34 ∧ (
 hwat P none (.mov (.c v25)) st v25 ∧ (
 hwat P none (.mov (.c v18)) st v18 ∧ (
 hwat P none (.mov (.c v15)) st v15 ∧ (
 @stpD P (.idxA 4 1 (.c v35) (.c v25)) st ⟨fun v36 st =>
 @stpD P (.st 1 (.c v36) (.c v33)) st ⟨fun _v st =>
 @stp P (.bin .add (.c v25) (.c (.int .i64 1))) st ⟨fun v37 st =>
 ∃ j,j < k2 ∧ GhostV [v37] st (app (I2 j))⟩⟩⟩)))))⟩⟩⟩⟩⟩
 ⟨
 @stp P (.bin .add (.c v18) (.c (.int .i64 1))) st ⟨fun v38 st =>
 ∃ j,j < k1 ∧ GhostV [v38] st (app (I1 j))⟩⟩⟩⟩⟩⟩⟩⟩⟩⟩⟩
 ⟨
 @stp P (.len .sl (.c a1)) st ⟨fun v40 st =>
 @Hold ⟨∃ I3 : Nat → Rel 1,(∃ k,GhostV [(.int .i64 0)] st (app (I3 k))) ∧ ∀ k3 v41,∀ st,app (I3 k3) [v41] st →
 @stp P (.bin .lss (.c v41) (.c v40)) st ⟨fun v42 st =>
 @cnd v42 ⟨
 @stp P (.idx 9 (.c a1) (.c v41)) st ⟨fun v43 st =>
 @stp P (.ld (some 9) (.c v43)) st ⟨fun v44 st =>
 @stp P (.alloc [(.int .u64 0),(.int .i64 0),(.int .u64 0),(.int .u64 0),(.int .i64 0),(.int .i64 0),(.sl .nil 0 [] []),(.sl .nil 0 [] []),(.int .u64 0)]) st ⟨fun v11 st =>
 @stp P (.st 9 (.c v11) (.c v44)) st ⟨fun _v st =>
 @stp P (.fld 4 (.c v11)) st ⟨fun v47 st =>
 @stp P (.ld none (.c v47)) st ⟨fun v48 st =>
 @stp P (.call (.c (.fn (.func n_slices_BinarySearchFunc_Page_Page_int) [] [])) [(.c v15),(.c v48),(.c (.fn (.func n_redo_again_1) [] []))]) st ⟨fun v49 st =>
 @stp P (.ext 0 (.c v49)) st ⟨fun v50 st =>
 @stp P (.ext 1 (.c v49)) st ⟨fun v51 st =>
 @gstD P v51 true (.ld (some 9) (.c v11)) st ⟨fun v54 st =>
 @gstD P v51 true (.call (.c (.fn (.func n_redo_changes) [] [])) [(.c v54)]) st ⟨fun v55 st =>
 @stpD P (.pick (.c v51) (.c v55) (.c (.bool false))) st ⟨fun v56 st =>
 @gstD P v56 true (.mov (.c v15)) st ⟨fun v58 st =>
 @gstD P v56 true (.mov (.c v50)) st ⟨fun v59 st =>
 @gstD P v56 true (.idx 6 (.c v58) (.c v59)) st ⟨fun v60 st =>
 @gstD P v56 true (.fld 1 (.c v60)) st ⟨fun v61 st =>
 @gstD P v56 true (.ld none (.c v61)) st ⟨fun v62 st =>
 @gstD P v56 true (.fld 0 (.c v11)) st ⟨fun v63 st =>
 @gstD P v56 true (.ld none (.c v63)) st ⟨fun v64 st =>
 @gstD P v56 true (.bin .lss (.c v62) (.c v64)) st ⟨fun v65 st =>
 @stpD P (.pick (.c v56) (.c v65) (.c (.bool false))) st ⟨fun v66 st =>
 @cnd v66 ⟨
 @stpD P (.idx 6 (.c v15) (.c v50)) st ⟨fun v72 st =>
 @stpD P (.ld (some 6) (.c v72)) st ⟨fun v73 st =>
 @stpD P (.fld 5 (.c v11)) st ⟨fun v74 st =>
 @stpD P (.ld none (.c v74)) st ⟨fun v75 st =>
 @stpD P (.fld 7 (.c v11)) st ⟨fun v76 st =>
 @stpD P (.ld none (.c v76)) st ⟨fun v77 st =>
 @stpD P (.fld 0 (.c v11)) st ⟨fun v78 st =>
 @stpD P (.ld none (.c v78)) st ⟨fun v79 st =>
 @stpD P (.call (.c (.fn (.func n_page_Set) [] [])) [(.c v73),(.c v75),(.c v77),(.c v79)]) st ⟨fun v80 st =>
 hwat P none (.mov (.c v50)) st v50 ∧ (
 hwat P none (.mov (.c v15)) st v15 ∧ (
 @stpD P (.ext 0 (.c v80)) st ⟨fun v81 st =>
 @stpD P (.ext 1 (.c v80)) st ⟨fun v82 st =>
 @stpD P (.idx 6 (.c v15) (.c v50)) st ⟨fun v83 st =>
 @stpD P (.st 6 (.c v83) (.c v81)) st ⟨fun _v st =>
 hwat P none (.ext 1 (.c v80)) st v82 ∧ (
 @stp P (.bin .add (.c v41) (.c (.int .i64 1))) st ⟨fun v84 st =>
 ∃ j,j < k3 ∧ GhostV [v84] st (app (I3 j))⟩)⟩⟩⟩⟩))⟩⟩⟩⟩⟩⟩⟩⟩⟩⟩
 ⟨
 @stp P (.bin .add (.c v41) (.c (.int .i64 1))) st ⟨fun v84 st =>
 ∃ j,j < k3 ∧ GhostV [v84] st (app (I3 j))⟩⟩⟩⟩⟩⟩⟩⟩⟩⟩⟩⟩⟩⟩⟩⟩⟩⟩⟩⟩⟩⟩⟩⟩
 ⟨
 GhostV [v15] st fun vs st => K (mkres vs) st⟩⟩⟩⟩⟩⟩⟩⟩⟩
theorem q_redo_again {P : Program} {a0 a1 : V} {st : St} {K : V → St → Prop} : F_redo_again P a0 a1 st K = hwp P c_redo_again (hretQ [.tmp 4] K) (enterFr [a0, a1]) st := by kernel_rfl
abbrev R_redo_again (P : Program) : Prop := resFnH P n_redo_again = some (86, c_redo_again.er, [.tmp 4])
theorem A_redo_again {P : Program} (h : R_redo_again P) {a0 a1 : V} {st : St} {K : V → St → Prop} (hF : F_redo_again P a0 a1 st K) : ACalls P n_redo_again [a0, a1] st K :=
  ACalls_h h rfl (by simp) (q_redo_again ▸ hF)

def c_gazetteerref05_RightRow : ACode := (.seq (.reg [(oo 2 (.mov (.c (.bool false))))]) (.seq (.seq (.reg [(oo 3 (.mov (.c (.int .i64 0))))]) (.block 0 (.loop [3] [2,3,4,5,6,7,8,9,10,11,12,13,14,15,16,17,18,19,20,21,22,23,24,25,26,27,28,29,30,31,32,33,34,35,36,37,38,39,40,41,42,43,44,45,46,47,48,49,50,51,52,53,54,55,56,57,58,59,60,61,62,63,64,65,66,67,68,69,70,71] (.seq (.seq (.reg [(oo 7 (.mov (.s 3))),(oo 8 (.mov (.s 0))),(oo 9 (.len .sl (.s 8))),(oo 10 (.bin .lss (.s 7) (.s 9)))]) (.cond (.s 10) .skip (.exit 0))) (.seq (.block 1 (.seq (.reg [(oo 13 (.mov (.s 0))),(oo 14 (.mov (.s 3))),(oo 15 (.idx 9 (.s 13) (.s 14))),(oo 16 (.ld (some 9) (.s 15))),(oo 4 (.alloc zrR)),⟨none,none,(.st 9 (.s 4) (.s 16))⟩]) (.seq (.seq (.regD [(oo 17 (.ld (some 9) (.s 4))),(oo 18 (.call (fx n_gazetteerref05_Right) [(.s 17)])),(oo 19 (.un .not (.s 18))),(oo 20 (.mov (.s 19))),⟨(some 21),(some (20,false)),(.mov (.s 3))⟩,⟨(some 22),(some (20,false)),(.bin .gtr (.s 21) (.c (.int .i64 0)))⟩,⟨(some 23),(some (20,false)),(.mov (.s 22))⟩,⟨(some 24),(some (23,true)),(.fld 0 (.s 4))⟩,⟨(some 25),(some (23,true)),(.ld none (.s 24))⟩,⟨(some 26),(some (23,true)),(.bin .eql (.s 25) (.c (.int .u64 0)))⟩,⟨(some 27),(some (23,true)),(.mov (.s 26))⟩,⟨(some 28),(some (27,false)),(.fld 0 (.s 4))⟩,⟨(some 29),(some (27,false)),(.ld none (.s 28))⟩,⟨(some 30),(some (27,false)),(.bin .sub (.s 29) (.c (.int .u64 1)))⟩,⟨(some 31),(some (27,false)),(.mov (.s 0))⟩,⟨(some 32),(some (27,false)),(.mov (.s 3))⟩,⟨(some 33),(some (27,false)),(.bin .sub (.s 32) (.c (.int .i64 1)))⟩,⟨(some 34),(some (27,false)),(.idx 9 (.s 31) (.s 33))⟩,⟨(some 35),(some (27,false)),(.fld 0 (.s 34))⟩,⟨(some 36),(some (27,false)),(.ld none (.s 35))⟩,⟨(some 37),(some (27,false)),(.bin .neq (.s 30) (.s 36))⟩,⟨(some 38),(some (23,true)),(.pick (.s 27) (.c (.bool true)) (.s 37))⟩,⟨(some 39),(some (20,false)),(.pick (.s 23) (.s 38) (.c (.bool false)))⟩,(oo 40 (.pick (.s 20) (.c (.bool true)) (.s 39)))] [(0,(false,[])),(1,(true,[])),(2,(false,[])),(3,(false,[])),(4,(false,[])),(5,(false,[])),(6,(false,[])),(7,(false,[])),(8,(false,[])),(9,(false,[])),(10,(false,[])),(11,(false,[])),(12,(false,[])),(13,(false,[])),(14,(false,[])),(15,(false,[])),(16,(false,[])),(17,(false,[])),(18,(false,[])),(19,(false,[])),(20,(false,[])),(21,(false,[])),(22,(false,[])),(23,(false,[]))]) (.cond (.s 40) (.seq (.reg [(oo 2 (.mov (.c (.bool false))))]) .ret) .skip)) (.seq (.reg [(oo 5 (.mov (.c (.int .u64 0))))]) (.seq (.seq (.reg [(oo 6 (.mov (.c (.int .i64 0))))]) (.block 2 (.loop [5,6] [5,6,41,42,43,44,45,46,47,48,49,50,51,52,53,54,55,56,57,58] (.seq (.seq (.reg [(oo 41 (.mov (.s 6))),(oo 42 (.mov (.s 3))),(oo 43 (.bin .lss (.s 41) (.s 42)))]) (.cond (.s 43) .skip (.exit 2))) (.seq (.block 3 (.seq (.regD [(oo 46 (.mov (.s 0))),(oo 47 (.mov (.s 6))),(oo 48 (.idx 9 (.s 46) (.s 47))),(oo 49 (.fld 2 (.s 48))),(oo 50 (.ld none (.s 49))),(oo 51 (.fld 2 (.s 4))),(oo 52 (.ld none (.s 51))),(oo 53 (.bin .eql (.s 50) (.s 52)))] [(0,(false,[])),(1,(false,[])),(2,(false,[])),(3,(false,[])),(4,(false,[])),(5,(false,[])),(6,(false,[])),(7,(false,[]))]) (.cond (.s 53) (.reg [(oo 54 (.mov (.s 0))),(oo 55 (.mov (.s 6))),(oo 56 (.idx 9 (.s 54) (.s 55))),(oo 57 (.fld 0 (.s 56))),(oo 58 (.ld none (.s 57))),(oo 5 (.mov (.s 58)))]) .skip))) (.reg [(oo 44 (.mov (.s 6))),(oo 45 (.bin .add (.s 44) (.c (.int .i64 1)))),(oo 6 (.mov (.s 45)))])))))) (.seq (.regD [(oo 59 (.fld 3 (.s 4))),(oo 60 (.ld none (.s 59))),(oo 61 (.mov (.s 0))),(oo 62 (.idx 9 (.s 61) (.c (.int .i64 0)))),(oo 63 (.fld 0 (.s 62))),(oo 64 (.ld none (.s 63))),(oo 65 (.bin .geq (.s 60) (.s 64))),(oo 66 (.mov (.s 65))),⟨(some 67),(some (66,true)),(.fld 3 (.s 4))⟩,⟨(some 68),(some (66,true)),(.ld none (.s 67))⟩,⟨(some 69),(some (66,true)),(.mov (.s 5))⟩,⟨(some 70),(some (66,true)),(.bin .neq (.s 68) (.s 69))⟩,(oo 71 (.pick (.s 66) (.s 70) (.c (.bool false))))] [(0,(false,[])),(1,(false,[])),(2,(false,[])),(3,(false,[])),(4,(false,[])),(5,(false,[])),(6,(false,[])),(7,(false,[])),(8,(false,[])),(9,(false,[])),(10,(false,[])),(11,(false,[])),(12,(false,[]))]) (.cond (.s 71) (.seq (.reg [(oo 2 (.mov (.c (.bool false))))]) .ret) .skip))))))) (.reg [(oo 11 (.mov (.s 3))),(oo 12 (.bin .add (.s 11) (.c (.int .i64 1)))),(oo 3 (.mov (.s 12)))])))))) (.seq (.reg [(oo 2 (.mov (.c (.bool true))))]) .ret)))
def F_gazetteerref05_RightRow (P : Program) (a0 : V) (st : St) (K : V → St → Prop) : Prop :=
 @Hold ⟨∃ I1 : Nat → Rel 1,(∃ k,GhostV [(.int .i64 0)] st (app (I1 k))) ∧ ∀ k1 v3,∀ st,app (I1 k1) [v3] st →
 @stp P (.len .sl (.c a0)) st ⟨fun v9 st =>
 @stp P (.bin .lss (.c v3) (.c v9)) st ⟨fun v10 st =>
 @cnd v10 ⟨
 @stp P (.idx 9 (.c a0) (.c v3)) st ⟨fun v15 st =>
 @stp P (.ld (some 9) (.c v15)) st ⟨fun v16 st =>
 @stp P (.alloc [(.int .u64 0),(.int .i64 0),(.int .u64 0),(.int .u64 0),(.int .i64 0),(.int .i64 0),(.sl .nil 0 [] []),(.sl .nil 0 [] []),(.int .u64 0)]) st ⟨fun v4 st =>
 @stp P (.st 9 (.c v4) (.c v16)) st ⟨fun _v st =>
 @stpD P (.ld (some 9) (.c v4)) st ⟨fun v17 st =>
 @stpD P (.call (.c (.fn (.func n_gazetteerref05_Right) [] [])) [(.c v17)]) st ⟨fun v18 st =>
 @stpD P (.un .not (.c v18)) st ⟨fun v19 st =>
 @gstD P v19 false (.mov (.c v3)) st ⟨fun v21 st =>
 @gstD P v19 false (.bin .gtr (.c v21) (.c (.int .i64 0))) st ⟨fun v22 st =>
 @gstD P v19 false (.mov (.c v22)) st ⟨fun v23 st =>
 @gstD P v23 true (.fld 0 (.c v4)) st ⟨fun v24 st =>
 @gstD P v23 true (.ld none (.c v24)) st ⟨fun v25 st =>
 @gstD P v23 true (.bin .eql (.c v25) (.c (.int .u64 0))) st ⟨fun v26 st =>
 @gstD P v23 true (.mov (.c v26)) st ⟨fun v27 st =>
 @gstD P v27 false (.fld 0 (.c v4)) st ⟨fun v28 st =>
 @gstD P v27 false (.ld none (.c v28)) st ⟨fun v29 st =>
 @gstD P v27 false (.bin .sub (.c v29) (.c (.int .u64 1))) st ⟨fun v30 st =>
 @gstD P v27 false (.mov (.c a0)) st ⟨fun v31 st =>
 @gstD P v27 false (.mov (.c v3)) st ⟨fun v32 st =>
 @gstD P v27 false (.bin .sub (.c v32) (.c (.int .i64 1))) st ⟨fun v33 st =>
 @gstD P v27 false (.idx 9 (.c v31) (.c v33)) st ⟨fun v34 st =>
 @gstD P v27 false (.fld 0 (.c v34)) st ⟨fun v35 st =>
 @gstD P v27 false (.ld none (.c v35)) st ⟨fun v36 st =>
 @gstD P v27 false (.bin .neq (.c v30) (.c v36)) st ⟨fun v37 st =>
 @gstD P v23 true (.pick (.c v27) (.c (.bool true)) (.c v37)) st ⟨fun v38 st =>
 @gstD P v19 false (.pick (.c v23) (.c v38) (.c (.bool false))) st ⟨fun v39 st =>
 @stpD P (.pick (.c v19) (.c (.bool true)) (.c v39)) st ⟨fun v40 st =>
 @cnd v40 ⟨
 GhostV [(.bool false)] st fun vs st => K (mkres vs) st⟩
 ⟨
 @Hold ⟨∃ I2 : Nat → Rel 2,(∃ k,GhostV [(.int .u64 0),(.int .i64 0)] st (app (I2 k))) ∧ ∀ k2 v5 v6,∀ st,app (I2 k2) [v5,v6] st →
 @stp P (.bin .lss (.c v6) (.c v3)) st ⟨fun v43 st =>
 @cnd v43 ⟨
 @stpD P (.idx 9 (.c a0) (.c v6)) st ⟨fun v48 st =>
 @stpD P (.fld 2 (.c v48)) st ⟨fun v49 st =>
 @stpD P (.ld none (.c v49)) st ⟨fun v50 st =>
 @stpD P (.fld 2 (.c v4)) st ⟨fun v51 st =>
 @stpD P (.ld none (.c v51)) st ⟨fun v52 st =>
 @stpD P (.bin .eql (.c v50) (.c v52)) st ⟨fun v53 st =>
 @cnd v53 ⟨
 @stp P (.idx 9 (.c a0) (.c v6)) st ⟨fun v56 st =>
 @stp P (.fld 0 (.c v56)) st ⟨fun v57 st =>
 @stp P (.ld none (.c v57)) st ⟨fun v58 st =>
 @stp P (.bin .add (.c v6) (.c (.int .i64 1))) st ⟨fun v45 st =>
 ∃ j,j < k2 ∧ GhostV [v58,v45] st (app (I2 j))⟩⟩⟩⟩⟩
 ⟨
 @stp P (.bin .add (.c v6) (.c (.int .i64 1))) st ⟨fun v45 st =>
 ∃ j,j < k2 ∧ GhostV [v5,v45] st (app (I2 j))⟩⟩⟩⟩⟩⟩⟩⟩⟩
 ⟨
 @stpD P (.fld 3 (.c v4)) st ⟨fun v59 st =>
 @stpD P (.ld none (.c v59)) st ⟨fun v60 st =>
 @stpD P (.idx 9 (.c a0) (.c (.int .i64 0))) st ⟨fun v62 st =>
 @stpD P (.fld 0 (.c v62)) st ⟨fun v63 st =>
 @stpD P (.ld none (.c v63)) st ⟨fun v64 st =>
 @stpD P (.bin .geq (.c v60) (.c v64)) st ⟨fun v65 st =>
 @gstD P v65 true (.fld 3 (.c v4)) st ⟨fun v67 st =>
 @gstD P v65 true (.ld none (.c v67)) st ⟨fun v68 st =>
 @gstD P v65 true (.mov (.c v5)) st ⟨fun v69 st =>
 @gstD P v65 true (.bin .neq (.c v68) (.c v69)) st ⟨fun v70 st =>
 @stpD P (.pick (.c v65) (.c v70) (.c (.bool false))) st ⟨fun v71 st =>
 @cnd v71 ⟨
 GhostV [(.bool false)] st fun vs st => K (mkres vs) st⟩
 ⟨
 @stp P (.bin .add (.c v3) (.c (.int .i64 1))) st ⟨fun v12 st =>
 ∃ j,j < k1 ∧ GhostV [v12] st (app (I1 j))⟩⟩⟩⟩⟩⟩⟩⟩⟩⟩⟩⟩⟩⟩⟩⟩⟩⟩⟩⟩⟩⟩⟩⟩⟩⟩⟩⟩⟩⟩⟩⟩⟩⟩⟩⟩⟩⟩⟩⟩⟩⟩⟩⟩⟩
 ⟨
 GhostV [(.bool true)] st fun vs st => K (mkres vs) st⟩⟩⟩⟩
theorem q_gazetteerref05_RightRow {P : Program} {a0 : V} {st : St} {K : V → St → Prop} : F_gazetteerref05_RightRow P a0 st K = hwp P c_gazetteerref05_RightRow (hretQ [.tmp 2] K) (enterFr [a0]) st := by kernel_rfl
abbrev R_gazetteerref05_RightRow (P : Program) : Prop := resFnH P n_gazetteerref05_RightRow = some (72, c_gazetteerref05_RightRow.er, [.tmp 2])
theorem A_gazetteerref05_RightRow {P : Program} (h : R_gazetteerref05_RightRow P) {a0 : V} {st : St} {K : V → St → Prop} (hF : F_gazetteerref05_RightRow P a0 st K) : ACalls P n_gazetteerref05_RightRow [a0] st K :=
  ACalls_h h rfl (by simp) (q_gazetteerref05_RightRow ▸ hF)

def c_gazetteerref06_Same : ACode := (.seq (.reg [(oo 2 (.box (.s 0))),(oo 3 (.box (.s 1))),(oo 4 (.mov (.c (.bool false))))]) (.seq (.seq (.reg [(oo 6 (.mov (.c (.int .i64 0))))]) (.block 0 (.loop [6] [4,5,6,7,8,9,10,11,12,13,14,15,16,17,18,19,20] (.seq (.reg [(oo 7 (.bin .lss (.s 6) (.c (.int .i64 4))))]) (.seq (.cond (.s 7) .skip (.exit 0)) (.seq (.block 1 (.seq (.reg [(oo 8 (.mov (.s 6))),(oo 5 (.mov (.s 8)))]) (.seq (.regD [(oo 9 (.mov (.s 5))),(oo 10 (.fld 2 (.s 2))),(oo 11 (.idxA 4 1 (.s 10) (.s 9))),(oo 12 (.ld none (.s 11))),(oo 13 (.strOf (.s 12))),(oo 14 (.mov (.s 5))),(oo 15 (.fld 2 (.s 3))),(oo 16 (.idxA 4 1 (.s 15) (.s 14))),(oo 17 (.ld none (.s 16))),(oo 18 (.strOf (.s 17))),(oo 19 (.bin .neq (.s 13) (.s 18)))] [(0,(false,[])),(1,(false,[])),(2,(false,[])),(3,(false,[])),(4,(false,[])),(5,(false,[])),(6,(false,[])),(7,(false,[])),(8,(false,[])),(9,(false,[])),(10,(false,[]))]) (.cond (.s 19) (.seq (.reg [(oo 4 (.mov (.c (.bool false))))]) .ret) .skip)))) (.reg [(oo 20 (.bin .add (.s 6) (.c (.int .i64 1)))),(oo 6 (.mov (.s 20)))]))))))) (.seq (.reg [(oo 21 (.fld 0 (.s 2))),(oo 22 (.ld none (.s 21))),(oo 23 (.fld 0 (.s 3))),(oo 24 (.ld none (.s 23))),(oo 25 (.bin .eql (.s 22) (.s 24))),(oo 26 (.mov (.s 25))),⟨(some 27),(some (26,true)),(.fld 1 (.s 2))⟩,⟨(some 28),(some (26,true)),(.ld none (.s 27))⟩,⟨(some 29),(some (26,true)),(.fld 1 (.s 3))⟩,⟨(some 30),(some (26,true)),(.ld none (.s 29))⟩,⟨(some 31),(some (26,true)),(.bin .eql (.s 28) (.s 30))⟩,(oo 32 (.pick (.s 26) (.s 31) (.c (.bool false)))),(oo 4 (.mov (.s 32)))]) .ret)))
def F_gazetteerref06_Same (P : Program) (a0 a1 : V) (st : St) (K : V → St → Prop) : Prop :=
 @stp P (.box (.c a0)) st ⟨fun v2 st =>
 @stp P (.box (.c a1)) st ⟨fun v3 st =>
 @Hold ⟨∃ I1 : Nat → Rel 1,(∃ k,GhostV [(.int .i64 0)] st (app (I1 k))) ∧ ∀ k1 v6,∀ st,app (I1 k1) [v6] st →
 @stp P (.bin .lss (.c v6) (.c (.int .i64 4))) st ⟨fun v7 st =>
 @cnd v7 ⟨
 @stpD P (.fld 2 (.c v2)) st ⟨fun v10 st =>
 @stpD P (.idxA 4 1 (.c v10) (.c v6)) st ⟨fun v11 st =>
 @stpD P (.ld none (.c v11)) st ⟨fun v12 st =>
 @stpD P (.strOf (.c v12)) st ⟨fun v13 st =>
 @stpD P (.fld 2 (.c v3)) st ⟨fun v15 st =>
 @stpD P (.idxA 4 1 (.c v15) (.c v6)) st ⟨fun v16 st =>
 @stpD P (.ld none (.c v16)) st ⟨fun v17 st =>
 @stpD P (.strOf (.c v17)) st ⟨fun v18 st =>
 @stpD P (.bin .neq (.c v13) (.c v18)) st ⟨fun v19 st =>
 @cnd v19 ⟨
 GhostV [(.bool false)] st fun vs st => K (mkres vs) st⟩
 ⟨
 @stp P (.bin .add (.c v6) (.c (.int .i64 1))) st ⟨fun v20 st =>
 ∃ j,j < k1 ∧ GhostV [v20] st (app (I1 j))⟩⟩⟩⟩⟩⟩⟩⟩⟩⟩⟩⟩
 ⟨
 @stp P (.fld 0 (.c v2)) st ⟨fun v21 st =>
 @stp P (.ld none (.c v21)) st ⟨fun v22 st =>
 @stp P (.fld 0 (.c v3)) st ⟨fun v23 st =>
 @stp P (.ld none (.c v23)) st ⟨fun v24 st =>
 @stp P (.bin .eql (.c v22) (.c v24)) st ⟨fun v25 st =>
 @gst P v25 true (.fld 1 (.c v2)) st ⟨fun v27 st =>
 @gst P v25 true (.ld none (.c v27)) st ⟨fun v28 st =>
 @gst P v25 true (.fld 1 (.c v3)) st ⟨fun v29 st =>
 @gst P v25 true (.ld none (.c v29)) st ⟨fun v30 st =>
 @gst P v25 true (.bin .eql (.c v28) (.c v30)) st ⟨fun v31 st =>
 @stp P (.pick (.c v25) (.c v31) (.c (.bool false))) st ⟨fun v32 st =>
 GhostV [v32] st fun vs st => K (mkres vs) st⟩⟩⟩⟩⟩⟩⟩⟩⟩⟩⟩⟩⟩⟩⟩⟩
theorem q_gazetteerref06_Same {P : Program} {a0 a1 : V} {st : St} {K : V → St → Prop} : F_gazetteerref06_Same P a0 a1 st K = hwp P c_gazetteerref06_Same (hretQ [.tmp 4] K) (enterFr [a0, a1]) st := by kernel_rfl
abbrev R_gazetteerref06_Same (P : Program) : Prop := resFnH P n_gazetteerref06_Same = some (33, c_gazetteerref06_Same.er, [.tmp 4])
theorem A_gazetteerref06_Same {P : Program} (h : R_gazetteerref06_Same P) {a0 a1 : V} {st : St} {K : V → St → Prop} (hF : F_gazetteerref06_Same P a0 a1 st K) : ACalls P n_gazetteerref06_Same [a0, a1] st K :=
  ACalls_h h rfl (by simp) (q_gazetteerref06_Same ▸ hF)

def c_gazetteerref05_Same : ACode := (.seq (.reg [(oo 2 (.box (.s 0))),(oo 3 (.box (.s 1))),(oo 4 (.mov (.c (.bool false))))]) (.seq (.reg [(oo 5 (.fld 0 (.s 2))),(oo 6 (.ld none (.s 5))),(oo 7 (.fld 0 (.s 3))),(oo 8 (.ld none (.s 7))),(oo 9 (.bin .eql (.s 6) (.s 8))),(oo 10 (.mov (.s 9))),⟨(some 11),(some (10,true)),(.fld 1 (.s 2))⟩,⟨(some 12),(some (10,true)),(.ld none (.s 11))⟩,⟨(some 13),(some (10,true)),(.fld 1 (.s 3))⟩,⟨(some 14),(some (10,true)),(.ld none (.s 13))⟩,⟨(some 15),(some (10,true)),(.bin .eql (.s 12) (.s 14))⟩,(oo 16 (.pick (.s 10) (.s 15) (.c (.bool false)))),(oo 17 (.mov (.s 16))),⟨(some 18),(some (17,true)),(.fld 2 (.s 2))⟩,⟨(some 19),(some (17,true)),(.ld none (.s 18))⟩,⟨(some 20),(some (17,true)),(.fld 2 (.s 3))⟩,⟨(some 21),(some (17,true)),(.ld none (.s 20))⟩,⟨(some 22),(some (17,true)),(.bin .eql (.s 19) (.s 21))⟩,(oo 23 (.pick (.s 17) (.s 22) (.c (.bool false)))),(oo 24 (.mov (.s 23))),⟨(some 25),(some (24,true)),(.fld 3 (.s 2))⟩,⟨(some 26),(some (24,true)),(.ld none (.s 25))⟩,⟨(some 27),(some (24,true)),(.fld 3 (.s 3))⟩,⟨(some 28),(some (24,true)),(.ld none (.s 27))⟩,⟨(some 29),(some (24,true)),(.bin .eql (.s 26) (.s 28))⟩,(oo 30 (.pick (.s 24) (.s 29) (.c (.bool false)))),(oo 31 (.mov (.s 30))),⟨(some 32),(some (31,true)),(.fld 4 (.s 2))⟩,⟨(some 33),(some (31,true)),(.ld none (.s 32))⟩,⟨(some 34),(some (31,true)),(.fld 4 (.s 3))⟩,⟨(some 35),(some (31,true)),(.ld none (.s 34))⟩,⟨(some 36),(some (31,true)),(.bin .eql (.s 33) (.s 35))⟩,(oo 37 (.pick (.s 31) (.s 36) (.c (.bool false)))),(oo 38 (.mov (.s 37))),⟨(some 39),(some (38,true)),(.fld 5 (.s 2))⟩,⟨(some 40),(some (38,true)),(.ld none (.s 39))⟩,⟨(some 41),(some (38,true)),(.fld 5 (.s 3))⟩,⟨(some 42),(some (38,true)),(.ld none (.s 41))⟩,⟨(some 43),(some (38,true)),(.bin .eql (.s 40) (.s 42))⟩,(oo 44 (.pick (.s 38) (.s 43) (.c (.bool false)))),(oo 45 (.mov (.s 44))),⟨(some 46),(some (45,true)),(.fld 8 (.s 2))⟩,⟨(some 47),(some (45,true)),(.ld none (.s 46))⟩,⟨(some 48),(some (45,true)),(.fld 8 (.s 3))⟩,⟨(some 49),(some (45,true)),(.ld none (.s 48))⟩,⟨(some 50),(some (45,true)),(.bin .eql (.s 47) (.s 49))⟩,(oo 51 (.pick (.s 45) (.s 50) (.c (.bool false)))),(oo 52 (.mov (.s 51))),⟨(some 53),(some (52,true)),(.fld 6 (.s 2))⟩,⟨(some 54),(some (52,true)),(.ld none (.s 53))⟩,⟨(some 55),(some (52,true)),(.fld 6 (.s 3))⟩,⟨(some 56),(some (52,true)),(.ld none (.s 55))⟩,⟨(some 57),(some (52,true)),(.call (fx n_gazetteerref01_Same) [(.s 54),(.s 56)])⟩,(oo 58 (.pick (.s 52) (.s 57) (.c (.bool false)))),(oo 59 (.mov (.s 58))),⟨(some 60),(some (59,true)),(.fld 7 (.s 2))⟩,⟨(some 61),(some (59,true)),(.ld none (.s 60))⟩,⟨(some 62),(some (59,true)),(.fld 7 (.s 3))⟩,⟨(some 63),(some (59,true)),(.ld none (.s 62))⟩,⟨(some 64),(some (59,true)),(.call (fx n_gazetteerref01_Same) [(.s 61),(.s 63)])⟩,(oo 65 (.pick (.s 59) (.s 64) (.c (.bool false)))),(oo 4 (.mov (.s 65)))]) .ret))
def F_gazetteerref05_Same (P : Program) (a0 a1 : V) (st : St) (K : V → St → Prop) : Prop :=
 @stp P (.box (.c a0)) st ⟨fun v2 st =>
 @stp P (.box (.c a1)) st ⟨fun v3 st =>
 @stp P (.fld 0 (.c v2)) st ⟨fun v5 st =>
 @stp P (.ld none (.c v5)) st ⟨fun v6 st =>
 @stp P (.fld 0 (.c v3)) st ⟨fun v7 st =>
 @stp P (.ld none (.c v7)) st ⟨fun v8 st =>
 @stp P (.bin .eql (.c v6) (.c v8)) st ⟨fun v9 st =>
 @gst P v9 true (.fld 1 (.c v2)) st ⟨fun v11 st =>
 @gst P v9 true (.ld none (.c v11)) st ⟨fun v12 st =>
 @gst P v9 true (.fld 1 (.c v3)) st ⟨fun v13 st =>
 @gst P v9 true (.ld none (.c v13)) st ⟨fun v14 st =>
 @gst P v9 true (.bin .eql (.c v12) (.c v14)) st ⟨fun v15 st =>
 @stp P (.pick (.c v9) (.c v15) (.c (.bool false))) st ⟨fun v16 st =>
 @gst P v16 true (.fld 2 (.c v2)) st ⟨fun v18 st =>
 @gst P v16 true (.ld none (.c v18)) st ⟨fun v19 st =>
 @gst P v16 true (.fld 2 (.c v3)) st ⟨fun v20 st =>
 @gst P v16 true (.ld none (.c v20)) st ⟨fun v21 st =>
 @gst P v16 true (.bin .eql (.c v19) (.c v21)) st ⟨fun v22 st =>
 @stp P (.pick (.c v16) (.c v22) (.c (.bool false))) st ⟨fun v23 st =>
 @gst P v23 true (.fld 3 (.c v2)) st ⟨fun v25 st =>
 @gst P v23 true (.ld none (.c v25)) st ⟨fun v26 st =>
 @gst P v23 true (.fld 3 (.c v3)) st ⟨fun v27 st =>
 @gst P v23 true (.ld none (.c v27)) st ⟨fun v28 st =>
 @gst P v23 true (.bin .eql (.c v26) (.c v28)) st ⟨fun v29 st =>
 @stp P (.pick (.c v23) (.c v29) (.c (.bool false))) st ⟨fun v30 st =>
 @gst P v30 true (.fld 4 (.c v2)) st ⟨fun v32 st =>
 @gst P v30 true (.ld none (.c v32)) st ⟨fun v33 st =>
 @gst P v30 true (.fld 4 (.c v3)) st ⟨fun v34 st =>
 @gst P v30 true (.ld none (.c v34)) st ⟨fun v35 st =>
 @gst P v30 true (.bin .eql (.c v33) (.c v35)) st ⟨fun v36 st =>
 @stp P (.pick (.c v30) (.c v36) (.c (.bool false))) st ⟨fun v37 st =>
 @gst P v37 true (.fld 5 (.c v2)) st ⟨fun v39 st =>
 @gst P v37 true (.ld none (.c v39)) st ⟨fun v40 st =>
 @gst P v37 true (.fld 5 (.c v3)) st ⟨fun v41 st =>
 @gst P v37 true (.ld none (.c v41)) st ⟨fun v42 st =>
 @gst P v37 true (.bin .eql (.c v40) (.c v42)) st ⟨fun v43 st =>
 @stp P (.pick (.c v37) (.c v43) (.c (.bool false))) st ⟨fun v44 st =>
 @gst P v44 true (.fld 8 (.c v2)) st ⟨fun v46 st =>
 @gst P v44 true (.ld none (.c v46)) st ⟨fun v47 st =>
 @gst P v44 true (.fld 8 (.c v3)) st ⟨fun v48 st =>
 @gst P v44 true (.ld none (.c v48)) st ⟨fun v49 st =>
 @gst P v44 true (.bin .eql (.c v47) (.c v49)) st ⟨fun v50 st =>
 @stp P (.pick (.c v44) (.c v50) (.c (.bool false))) st ⟨fun v51 st =>
 @gst P v51 true (.fld 6 (.c v2)) st ⟨fun v53 st =>
 @gst P v51 true (.ld none (.c v53)) st ⟨fun v54 st =>
 @gst P v51 true (.fld 6 (.c v3)) st ⟨fun v55 st =>
 @gst P v51 true (.ld none (.c v55)) st ⟨fun v56 st =>
 @gst P v51 true (.call (.c (.fn (.func n_gazetteerref01_Same) [] [])) [(.c v54),(.c v56)]) st ⟨fun v57 st =>
 @stp P (.pick (.c v51) (.c v57) (.c (.bool false))) st ⟨fun v58 st =>
 @gst P v58 true (.fld 7 (.c v2)) st ⟨fun v60 st =>
 @gst P v58 true (.ld none (.c v60)) st ⟨fun v61 st =>
 @gst P v58 true (.fld 7 (.c v3)) st ⟨fun v62 st =>
 @gst P v58 true (.ld none (.c v62)) st ⟨fun v63 st =>
 @gst P v58 true (.call (.c (.fn (.func n_gazetteerref01_Same) [] [])) [(.c v61),(.c v63)]) st ⟨fun v64 st =>
 @stp P (.pick (.c v58) (.c v64) (.c (.bool false))) st ⟨fun v65 st =>
 GhostV [v65] st fun vs st => K (mkres vs) st⟩⟩⟩⟩⟩⟩⟩⟩⟩⟩⟩⟩⟩⟩⟩⟩⟩⟩⟩⟩⟩⟩⟩⟩⟩⟩⟩⟩⟩⟩⟩⟩⟩⟩⟩⟩⟩⟩⟩⟩⟩⟩⟩⟩⟩⟩⟩⟩⟩⟩⟩⟩⟩⟩⟩
theorem q_gazetteerref05_Same {P : Program} {a0 a1 : V} {st : St} {K : V → St → Prop} : F_gazetteerref05_Same P a0 a1 st K = hwp P c_gazetteerref05_Same (hretQ [.tmp 4] K) (enterFr [a0, a1]) st := by kernel_rfl
abbrev R_gazetteerref05_Same (P : Program) : Prop := resFnH P n_gazetteerref05_Same = some (66, c_gazetteerref05_Same.er, [.tmp 4])
theorem A_gazetteerref05_Same {P : Program} (h : R_gazetteerref05_Same P) {a0 a1 : V} {st : St} {K : V → St → Prop} (hF : F_gazetteerref05_Same P a0 a1 st K) : ACalls P n_gazetteerref05_Same [a0, a1] st K :=
  ACalls_h h rfl (by simp) (q_gazetteerref05_Same ▸ hF)

def c_redo_changes : ACode := (.seq (.reg [(oo 1 (.box (.s 0))),(oo 2 (.mov (.c (.bool false))))]) (.seq (.seq (.reg [(oo 3 (.fld 1 (.s 1))),(oo 4 (.ld none (.s 3)))]) (.block 0 (.seq (.seq (.reg [(oo 6 (.bin .eql (.s 4) (.c (.int .i64 1)))),(oo 5 (.mov (.s 6)))]) (.cond (.s 5) .skip (.reg [(oo 7 (.bin .eql (.s 4) (.c (.int .i64 2)))),(oo 5 (.mov (.s 7)))]))) (.cond (.s 5) (.seq (.reg [(oo 2 (.mov (.c (.bool true))))]) .ret) .skip)))) (.seq (.reg [(oo 2 (.mov (.c (.bool false))))]) .ret)))
def F_redo_changes (P : Program) (a0 : V) (st : St) (K : V → St → Prop) : Prop :=
 @stp P (.box (.c a0)) st ⟨fun v1 st =>
 @stp P (.fld 1 (.c v1)) st ⟨fun v3 st =>
 @stp P (.ld none (.c v3)) st ⟨fun v4 st =>
 @stp P (.bin .eql (.c v4) (.c (.int .i64 1))) st ⟨fun v6 st =>
 @cnd v6 ⟨
 @cnd v6 ⟨
 GhostV [(.bool true)] st fun vs st => K (mkres vs) st⟩
 ⟨
 GhostV [(.bool false)] st fun vs st => K (mkres vs) st⟩⟩
 ⟨
 @stp P (.bin .eql (.c v4) (.c (.int .i64 2))) st ⟨fun v7 st =>
 @cnd v7 ⟨
 GhostV [(.bool true)] st fun vs st => K (mkres vs) st⟩
 ⟨
 GhostV [(.bool false)] st fun vs st => K (mkres vs) st⟩⟩⟩⟩⟩⟩⟩
theorem q_redo_changes {P : Program} {a0 : V} {st : St} {K : V → St → Prop} : F_redo_changes P a0 st K = hwp P c_redo_changes (hretQ [.tmp 2] K) (enterFr [a0]) st := by kernel_rfl
abbrev R_redo_changes (P : Program) : Prop := resFnH P n_redo_changes = some (8, c_redo_changes.er, [.tmp 2])
theorem A_redo_changes {P : Program} (h : R_redo_changes P) {a0 : V} {st : St} {K : V → St → Prop} (hF : F_redo_changes P a0 st K) : ACalls P n_redo_changes [a0] st K :=
  ACalls_h h rfl (by simp) (q_redo_changes ▸ hF)

def c_page_Check : ACode := (.seq (.reg [(oo 1 (.box (.s 0))),(oo 2 (.mov (.c (.int .i64 0))))]) (.seq (.reg [(oo 3 (.mov (fx n_page_Check_1)))]) (.seq (.seq (.reg [(oo 4 (.fld 0 (.s 1))),(oo 5 (.ld none (.s 4))),(oo 6 (.call (fx n_page_numbered) [(.s 5)])),(oo 7 (.un .not (.s 6))),(oo 8 (.mov (.s 7))),⟨(some 9),(some (8,false)),(.fld 2 (.s 1))⟩,⟨(some 10),(some (8,false)),(.sliceA 4 1 (.s 9))⟩,⟨(some 11),(some (8,false)),(.mov (.s 3))⟩,⟨(some 12),(some (8,false)),(.call (fx n_slices_ContainsFunc_Lbyte_Lbyte) [(.s 10),(.s 11)])⟩,(oo 13 (.pick (.s 8) (.c (.bool true)) (.s 12)))]) (.cond (.s 13) (.seq (.reg [(oo 2 (.mov (.c (.int .i64 160))))]) .ret) .skip)) (.seq (.reg [(oo 2 (.mov (.c (.int .i64 0))))]) .ret))))
def F_page_Check (P : Program) (a0 : V) (st : St) (K : V → St → Prop) : Prop :=
 @stp P (.box (.c a0)) st ⟨fun v1 st =>
 @stp P (.fld 0 (.c v1)) st ⟨fun v4 st =>
 @stp P (.ld none (.c v4)) st ⟨fun v5 st =>
 @stp P (.call (.c (.fn (.func n_page_numbered) [] [])) [(.c v5)]) st ⟨fun v6 st =>
 @stp P (.un .not (.c v6)) st ⟨fun v7 st =>
 @gst P v7 false (.fld 2 (.c v1)) st ⟨fun v9 st =>
 @gst P v7 false (.sliceA 4 1 (.c v9)) st ⟨fun v10 st =>
 @gst P v7 false (.mov (.c (.fn (.func n_page_Check_1) [] []))) st ⟨fun v11 st =>
 @gst P v7 false (.call (.c (.fn (.func n_slices_ContainsFunc_Lbyte_Lbyte) [] [])) [(.c v10),(.c v11)]) st ⟨fun v12 st =>
 @stp P (.pick (.c v7) (.c (.bool true)) (.c v12)) st ⟨fun v13 st =>
 @cnd v13 ⟨
 GhostV [(.int .i64 160)] st fun vs st => K (mkres vs) st⟩
 ⟨
 GhostV [(.int .i64 0)] st fun vs st => K (mkres vs) st⟩⟩⟩⟩⟩⟩⟩⟩⟩⟩⟩
theorem q_page_Check {P : Program} {a0 : V} {st : St} {K : V → St → Prop} : F_page_Check P a0 st K = hwp P c_page_Check (hretQ [.tmp 2] K) (enterFr [a0]) st := by kernel_rfl
abbrev R_page_Check (P : Program) : Prop := resFnH P n_page_Check = some (14, c_page_Check.er, [.tmp 2])
theorem A_page_Check {P : Program} (h : R_page_Check P) {a0 : V} {st : St} {K : V → St → Prop} (hF : F_page_Check P a0 st K) : ACalls P n_page_Check [a0] st K :=
  ACalls_h h rfl (by simp) (q_page_Check ▸ hF)

def c_redo_end : ACode := (.seq (.reg [(oo 2 (.mov (.c (.int .u64 0))))]) (.seq (.seq (.reg [(oo 3 (.mov (.s 0))),(oo 4 (.len .sl (.s 3))),(oo 5 (.bin .eql (.s 4) (.c (.int .i64 0))))]) (.cond (.s 5) (.seq (.reg [(oo 2 (.mov (.c (.int .u64 0))))]) .ret) .skip)) (.seq (.reg [(oo 6 (.mov (.s 0))),(oo 7 (.mov (.s 0))),(oo 8 (.len .sl (.s 7))),(oo 9 (.bin .sub (.s 8) (.c (.int .i64 1)))),(oo 10 (.idx 9 (.s 6) (.s 9))),(oo 11 (.fld 0 (.s 10))),(oo 12 (.ld none (.s 11))),(oo 2 (.mov (.s 12)))]) .ret)))
def F_redo_end (P : Program) (a0 : V) (st : St) (K : V → St → Prop) : Prop :=
 @stp P (.len .sl (.c a0)) st ⟨fun v4 st =>
 @stp P (.bin .eql (.c v4) (.c (.int .i64 0))) st ⟨fun v5 st =>
 @cnd v5 ⟨
 GhostV [(.int .u64 0)] st fun vs st => K (mkres vs) st⟩
 ⟨
 @stp P (.len .sl (.c a0)) st ⟨fun v8 st =>
 @stp P (.bin .sub (.c v8) (.c (.int .i64 1))) st ⟨fun v9 st =>
 @stp P (.idx 9 (.c a0) (.c v9)) st ⟨fun v10 st =>
 @stp P (.fld 0 (.c v10)) st ⟨fun v11 st =>
 @stp P (.ld none (.c v11)) st ⟨fun v12 st =>
 GhostV [v12] st fun vs st => K (mkres vs) st⟩⟩⟩⟩⟩⟩⟩⟩
theorem q_redo_end {P : Program} {a0 : V} {st : St} {K : V → St → Prop} : F_redo_end P a0 st K = hwp P c_redo_end (hretQ [.tmp 2] K) (enterFr [a0]) st := by kernel_rfl
abbrev R_redo_end (P : Program) : Prop := resFnH P n_redo_end = some (13, c_redo_end.er, [.tmp 2])
theorem A_redo_end {P : Program} (h : R_redo_end P) {a0 : V} {st : St} {K : V → St → Prop} (hF : F_redo_end P a0 st K) : ACalls P n_redo_end [a0] st K :=
  ACalls_h h rfl (by simp) (q_redo_end ▸ hF)

def c_gazetteerref06_Right : ACode := (.seq (.reg [(oo 1 (.box (.s 0))),(oo 2 (.mov (.c (.bool false))))]) (.seq (.seq (.reg [(oo 5 (.fld 2 (.s 1))),(oo 6 (.ld (some 4) (.s 5))),(oo 7 (.mov (.c (.int .i64 0))))]) (.block 0 (.loop [7] [2,4,7,8,9,10,11,12,13] (.seq (.reg [(oo 8 (.bin .lss (.s 7) (.c (.int .i64 4))))]) (.seq (.cond (.s 8) .skip (.exit 0)) (.seq (.block 1 (.seq (.reg [(oo 9 (.idxV 4 1 false (.s 6) (.s 7))),(oo 4 (.mov (.s 9)))]) (.seq (.reg [(oo 10 (.mov (.s 4))),(oo 11 (.len .sl (.s 10))),(oo 12 (.bin .gtr (.s 11) (.c (.int .i64 52))))]) (.cond (.s 12) (.seq (.reg [(oo 2 (.mov (.c (.bool false))))]) .ret) .skip)))) (.reg [(oo 13 (.bin .add (.s 7) (.c (.int .i64 1)))),(oo 7 (.mov (.s 13)))]))))))) (.seq (.reg [(oo 14 (.fld 0 (.s 1))),(oo 15 (.ld none (.s 14))),(oo 16 (.bin .geq (.s 15) (.c (.int .i64 0)))),(oo 17 (.mov (.s 16))),⟨(some 18),(some (17,true)),(.fld 0 (.s 1))⟩,⟨(some 19),(some (17,true)),(.ld none (.s 18))⟩,⟨(some 20),(some (17,true)),(.bin .lss (.s 19) (.c (.int .i64 32)))⟩,(oo 21 (.pick (.s 17) (.s 20) (.c (.bool false)))),(oo 2 (.mov (.s 21)))]) .ret)))
def F_gazetteerref06_Right (P : Program) (a0 : V) (st : St) (K : V → St → Prop) : Prop :=
 @stp P (.box (.c a0)) st ⟨fun v1 st =>
 @stp P (.fld 2 (.c v1)) st ⟨fun v5 st =>
 @stp P (.ld (some 4) (.c v5)) st ⟨fun v6 st =>
 @Hold ⟨∃ I1 : Nat → Rel 1,(∃ k,GhostV [(.int .i64 0)] st (app (I1 k))) ∧ ∀ k1 v7,∀ st,app (I1 k1) [v7] st →
 @stp P (.bin .lss (.c v7) (.c (.int .i64 4))) st ⟨fun v8 st =>
 @cnd v8 ⟨
 @stp P (.idxV 4 1 false (.c v6) (.c v7)) st ⟨fun v9 st =>
 @stp P (.len .sl (.c v9)) st ⟨fun v11 st =>
 @stp P (.bin .gtr (.c v11) (.c (.int .i64 52))) st ⟨fun v12 st =>
 @cnd v12 ⟨
 GhostV [(.bool false)] st fun vs st => K (mkres vs) st⟩
 ⟨
 @stp P (.bin .add (.c v7) (.c (.int .i64 1))) st ⟨fun v13 st =>
 ∃ j,j < k1 ∧ GhostV [v13] st (app (I1 j))⟩⟩⟩⟩⟩⟩
 ⟨
 @stp P (.fld 0 (.c v1)) st ⟨fun v14 st =>
 @stp P (.ld none (.c v14)) st ⟨fun v15 st =>
 @stp P (.bin .geq (.c v15) (.c (.int .i64 0))) st ⟨fun v16 st =>
 @gst P v16 true (.fld 0 (.c v1)) st ⟨fun v18 st =>
 @gst P v16 true (.ld none (.c v18)) st ⟨fun v19 st =>
 @gst P v16 true (.bin .lss (.c v19) (.c (.int .i64 32))) st ⟨fun v20 st =>
 @stp P (.pick (.c v16) (.c v20) (.c (.bool false))) st ⟨fun v21 st =>
 GhostV [v21] st fun vs st => K (mkres vs) st⟩⟩⟩⟩⟩⟩⟩⟩⟩⟩⟩⟩⟩
theorem q_gazetteerref06_Right {P : Program} {a0 : V} {st : St} {K : V → St → Prop} : F_gazetteerref06_Right P a0 st K = hwp P c_gazetteerref06_Right (hretQ [.tmp 2] K) (enterFr [a0]) st := by kernel_rfl
abbrev R_gazetteerref06_Right (P : Program) : Prop := resFnH P n_gazetteerref06_Right = some (22, c_gazetteerref06_Right.er, [.tmp 2])
theorem A_gazetteerref06_Right {P : Program} (h : R_gazetteerref06_Right P) {a0 : V} {st : St} {K : V → St → Prop} (hF : F_gazetteerref06_Right P a0 st K) : ACalls P n_gazetteerref06_Right [a0] st K :=
  ACalls_h h rfl (by simp) (q_gazetteerref06_Right ▸ hF)

def c_gazetteerref12_changes : ACode := (.seq (.reg [(oo 1 (.box (.s 0))),(oo 2 (.mov (.c (.bool false))))]) (.seq (.reg [(oo 3 (.fld 1 (.s 1))),(oo 4 (.ld none (.s 3))),(oo 5 (.bin .eql (.s 4) (.c (.int .i64 1)))),(oo 6 (.mov (.s 5))),⟨(some 7),(some (6,false)),(.fld 1 (.s 1))⟩,⟨(some 8),(some (6,false)),(.ld none (.s 7))⟩,⟨(some 9),(some (6,false)),(.bin .eql (.s 8) (.c (.int .i64 2)))⟩,(oo 10 (.pick (.s 6) (.c (.bool true)) (.s 9))),(oo 2 (.mov (.s 10)))]) .ret))
def F_gazetteerref12_changes (P : Program) (a0 : V) (st : St) (K : V → St → Prop) : Prop :=
 @stp P (.box (.c a0)) st ⟨fun v1 st =>
 @stp P (.fld 1 (.c v1)) st ⟨fun v3 st =>
 @stp P (.ld none (.c v3)) st ⟨fun v4 st =>
 @stp P (.bin .eql (.c v4) (.c (.int .i64 1))) st ⟨fun v5 st =>
 @gst P v5 false (.fld 1 (.c v1)) st ⟨fun v7 st =>
 @gst P v5 false (.ld none (.c v7)) st ⟨fun v8 st =>
 @gst P v5 false (.bin .eql (.c v8) (.c (.int .i64 2))) st ⟨fun v9 st =>
 @stp P (.pick (.c v5) (.c (.bool true)) (.c v9)) st ⟨fun v10 st =>
 GhostV [v10] st fun vs st => K (mkres vs) st⟩⟩⟩⟩⟩⟩⟩⟩
theorem q_gazetteerref12_changes {P : Program} {a0 : V} {st : St} {K : V → St → Prop} : F_gazetteerref12_changes P a0 st K = hwp P c_gazetteerref12_changes (hretQ [.tmp 2] K) (enterFr [a0]) st := by kernel_rfl
abbrev R_gazetteerref12_changes (P : Program) : Prop := resFnH P n_gazetteerref12_changes = some (11, c_gazetteerref12_changes.er, [.tmp 2])
theorem A_gazetteerref12_changes {P : Program} (h : R_gazetteerref12_changes P) {a0 : V} {st : St} {K : V → St → Prop} (hF : F_gazetteerref12_changes P a0 st K) : ACalls P n_gazetteerref12_changes [a0] st K :=
  ACalls_h h rfl (by simp) (q_gazetteerref12_changes ▸ hF)

def c_gazetteerref12_last : ACode := (.seq (.reg [(oo 2 (.mov (.c (.int .u64 0))))]) (.seq (.seq (.reg [(oo 3 (.mov (.s 0))),(oo 4 (.len .sl (.s 3))),(oo 5 (.bin .eql (.s 4) (.c (.int .i64 0))))]) (.cond (.s 5) (.seq (.reg [(oo 2 (.mov (.c (.int .u64 0))))]) .ret) .skip)) (.seq (.reg [(oo 6 (.mov (.s 0))),(oo 7 (.mov (.s 0))),(oo 8 (.len .sl (.s 7))),(oo 9 (.bin .sub (.s 8) (.c (.int .i64 1)))),(oo 10 (.idx 9 (.s 6) (.s 9))),(oo 11 (.fld 0 (.s 10))),(oo 12 (.ld none (.s 11))),(oo 2 (.mov (.s 12)))]) .ret)))
def F_gazetteerref12_last (P : Program) (a0 : V) (st : St) (K : V → St → Prop) : Prop :=
 @stp P (.len .sl (.c a0)) st ⟨fun v4 st =>
 @stp P (.bin .eql (.c v4) (.c (.int .i64 0))) st ⟨fun v5 st =>
 @cnd v5 ⟨
 GhostV [(.int .u64 0)] st fun vs st => K (mkres vs) st⟩
 ⟨
 @stp P (.len .sl (.c a0)) st ⟨fun v8 st =>
 @stp P (.bin .sub (.c v8) (.c (.int .i64 1))) st ⟨fun v9 st =>
 @stp P (.idx 9 (.c a0) (.c v9)) st ⟨fun v10 st =>
 @stp P (.fld 0 (.c v10)) st ⟨fun v11 st =>
 @stp P (.ld none (.c v11)) st ⟨fun v12 st =>
 GhostV [v12] st fun vs st => K (mkres vs) st⟩⟩⟩⟩⟩⟩⟩⟩
theorem q_gazetteerref12_last {P : Program} {a0 : V} {st : St} {K : V → St → Prop} : F_gazetteerref12_last P a0 st K = hwp P c_gazetteerref12_last (hretQ [.tmp 2] K) (enterFr [a0]) st := by kernel_rfl
abbrev R_gazetteerref12_last (P : Program) : Prop := resFnH P n_gazetteerref12_last = some (13, c_gazetteerref12_last.er, [.tmp 2])
theorem A_gazetteerref12_last {P : Program} (h : R_gazetteerref12_last P) {a0 : V} {st : St} {K : V → St → Prop} (hF : F_gazetteerref12_last P a0 st K) : ACalls P n_gazetteerref12_last [a0] st K :=
  ACalls_h h rfl (by simp) (q_gazetteerref12_last ▸ hF)

def c_redo_rising_uint64_Open : ACode := (.seq (.reg [(oo 2 (.mov nx0))]) (.seq (.reg [(oo 3 (.mov (.s 0))),(oo 4 (.call (fx n_maps_Keys_map_uint64_Open_uint64_Open) [(.s 3)])),(oo 5 (.call (fx n_slices_Sorted_uint64) [(.s 4)])),(oo 2 (.mov (.s 5)))]) .ret))
def F_redo_rising_uint64_Open (P : Program) (a0 : V) (st : St) (K : V → St → Prop) : Prop :=
 @stp P (.call (.c (.fn (.func n_maps_Keys_map_uint64_Open_uint64_Open) [] [])) [(.c a0)]) st ⟨fun v4 st =>
 @stp P (.call (.c (.fn (.func n_slices_Sorted_uint64) [] [])) [(.c v4)]) st ⟨fun v5 st =>
 GhostV [v5] st fun vs st => K (mkres vs) st⟩⟩
theorem q_redo_rising_uint64_Open {P : Program} {a0 : V} {st : St} {K : V → St → Prop} : F_redo_rising_uint64_Open P a0 st K = hwp P c_redo_rising_uint64_Open (hretQ [.tmp 2] K) (enterFr [a0]) st := by kernel_rfl
abbrev R_redo_rising_uint64_Open (P : Program) : Prop := resFnH P n_redo_rising_uint64_Open = some (6, c_redo_rising_uint64_Open.er, [.tmp 2])
theorem A_redo_rising_uint64_Open {P : Program} (h : R_redo_rising_uint64_Open P) {a0 : V} {st : St} {K : V → St → Prop} (hF : F_redo_rising_uint64_Open P a0 st K) : ACalls P n_redo_rising_uint64_Open [a0] st K :=
  ACalls_h h rfl (by simp) (q_redo_rising_uint64_Open ▸ hF)

def c_record_Check : ACode := (.seq (.reg [(oo 1 (.box (.s 0))),(oo 2 (.mov (.c (.int .i64 0))))]) (.seq (.reg [(oo 6 (.fld 1 (.s 1))),(oo 7 (.ld none (.s 6))),(oo 8 (.call (fx n_record_fields) [(.s 7)])),(oo 5 (.mov (.s 8))),(oo 9 (.ext 0 (.s 5))),(oo 10 (.ext 1 (.s 5))),(oo 3 (.mov (.s 9))),(oo 4 (.mov (.s 10)))]) (.seq (.reg [(oo 11 (.mov (.s 4))),(oo 12 (.mov (.s 11))),⟨(some 13),(some (12,true)),(.fld 0 (.s 1))⟩,⟨(some 14),(some (12,true)),(.ld none (.s 13))⟩,⟨(some 15),(some (12,true)),(.bin .gtr (.s 14) (.c (.int .u64 0)))⟩,(oo 16 (.pick (.s 12) (.s 15) (.c (.bool false)))),(oo 17 (.mov (.s 16))),⟨(some 18),(some (17,true)),(.fld 2 (.s 1))⟩,⟨(some 19),(some (17,true)),(.ld none (.s 18))⟩,⟨(some 20),(some (17,true)),(.bin .gtr (.s 19) (.c (.int .u64 0)))⟩,(oo 21 (.pick (.s 17) (.s 20) (.c (.bool false)))),(oo 22 (.mov (.s 21))),⟨(some 23),(some (22,true)),(.fld 3 (.s 1))⟩,⟨(some 24),(some (22,true)),(.ld none (.s 23))⟩,⟨(some 25),(some (22,true)),(.fld 0 (.s 1))⟩,⟨(some 26),(some (22,true)),(.ld none (.s 25))⟩,⟨(some 27),(some (22,true)),(.bin .lss (.s 24) (.s 26))⟩,(oo 28 (.pick (.s 22) (.s 27) (.c (.bool false)))),(oo 4 (.mov (.s 28)))]) (.seq (.reg [(oo 29 (.mov (.s 4))),(oo 30 (.mov (.s 29))),⟨(some 31),(some (30,true)),(.fld 4 (.s 1))⟩,⟨(some 32),(some (30,true)),(.ld none (.s 31))⟩,⟨(some 33),(some (30,true)),(.bin .geq (.s 32) (.c (.int .i64 0)))⟩,(oo 34 (.pick (.s 30) (.s 33) (.c (.bool false)))),(oo 35 (.mov (.s 34))),⟨(some 36),(some (35,true)),(.fld 4 (.s 1))⟩,⟨(some 37),(some (35,true)),(.ld none (.s 36))⟩,⟨(some 38),(some (35,true)),(.bin .lss (.s 37) (.c (.int .i64 32)))⟩,(oo 39 (.pick (.s 35) (.s 38) (.c (.bool false)))),(oo 40 (.mov (.s 39))),⟨(some 41),(some (40,true)),(.fld 5 (.s 1))⟩,⟨(some 42),(some (40,true)),(.ld none (.s 41))⟩,⟨(some 43),(some (40,true)),(.bin .geq (.s 42) (.c (.int .i64 0)))⟩,(oo 44 (.pick (.s 40) (.s 43) (.c (.bool false)))),(oo 45 (.mov (.s 44))),⟨(some 46),(some (45,true)),(.fld 5 (.s 1))⟩,⟨(some 47),(some (45,true)),(.ld none (.s 46))⟩,⟨(some 48),(some (45,true)),(.bin .lss (.s 47) (.c (.int .i64 4)))⟩,(oo 49 (.pick (.s 45) (.s 48) (.c (.bool false)))),(oo 50 (.mov (.s 49))),⟨(some 51),(some (50,true)),(.fld 6 (.s 1))⟩,⟨(some 52),(some (50,true)),(.ld none (.s 51))⟩,⟨(some 53),(some (50,true)),(.len .sl (.s 52))⟩,⟨(some 54),(some (50,true)),(.bin .leq (.s 53) (.c (.int .i64 52)))⟩,(oo 55 (.pick (.s 50) (.s 54) (.c (.bool false)))),(oo 56 (.mov (.s 55))),⟨(some 57),(some (56,true)),(.fld 7 (.s 1))⟩,⟨(some 58),(some (56,true)),(.ld none (.s 57))⟩,⟨(some 59),(some (56,true)),(.len .sl (.s 58))⟩,⟨(some 60),(some (56,true)),(.bin .leq (.s 59) (.c (.int .i64 52)))⟩,(oo 61 (.pick (.s 56) (.s 60) (.c (.bool false)))),(oo 4 (.mov (.s 61)))]) (.seq (.reg [(oo 62 (.mov (.s 4))),(oo 63 (.mov (.s 62))),⟨(some 64),(some (63,true)),(.mov (.s 3))⟩,⟨(some 65),(some (63,true)),(.call (fx n_record_field_has) [(.s 64),(.c (.int .i64 1))])⟩,⟨(some 66),(some (63,true)),(.mov (.s 65))⟩,⟨(some 67),(some (66,false)),(.fld 4 (.s 1))⟩,⟨(some 68),(some (66,false)),(.ld none (.s 67))⟩,⟨(some 69),(some (66,false)),(.bin .eql (.s 68) (.c (.int .i64 0)))⟩,⟨(some 70),(some (66,false)),(.mov (.s 69))⟩,⟨(some 71),(some (70,true)),(.fld 5 (.s 1))⟩,⟨(some 72),(some (70,true)),(.ld none (.s 71))⟩,⟨(some 73),(some (70,true)),(.bin .eql (.s 72) (.c (.int .i64 0)))⟩,⟨(some 74),(some (66,false)),(.pick (.s 70) (.s 73) (.c (.bool false)))⟩,⟨(some 75),(some (63,true)),(.pick (.s 66) (.c (.bool true)) (.s 74))⟩,(oo 76 (.pick (.s 63) (.s 75) (.c (.bool false)))),(oo 77 (.mov (.s 76))),⟨(some 78),(some (77,true)),(.mov (.s 3))⟩,⟨(some 79),(some (77,true)),(.call (fx n_record_field_has) [(.s 78),(.c (.int .i64 2))])⟩,⟨(some 80),(some (77,true)),(.mov (.s 79))⟩,⟨(some 81),(some (80,false)),(.fld 6 (.s 1))⟩,⟨(some 82),(some (80,false)),(.ld none (.s 81))⟩,⟨(some 83),(some (80,false)),(.len .sl (.s 82))⟩,⟨(some 84),(some (80,false)),(.bin .eql (.s 83) (.c (.int .i64 0)))⟩,⟨(some 85),(some (77,true)),(.pick (.s 80) (.c (.bool true)) (.s 84))⟩,(oo 86 (.pick (.s 77) (.s 85) (.c (.bool false)))),(oo 87 (.mov (.s 86))),⟨(some 88),(some (87,true)),(.mov (.s 3))⟩,⟨(some 89),(some (87,true)),(.call (fx n_record_field_has) [(.s 88),(.c (.int .i64 4))])⟩,⟨(some 90),(some (87,true)),(.mov (.s 89))⟩,⟨(some 91),(some (90,false)),(.fld 7 (.s 1))⟩,⟨(some 92),(some (90,false)),(.ld none (.s 91))⟩,⟨(some 93),(some (90,false)),(.len .sl (.s 92))⟩,⟨(some 94),(some (90,false)),(.bin .eql (.s 93) (.c (.int .i64 0)))⟩,⟨(some 95),(some (87,true)),(.pick (.s 90) (.c (.bool true)) (.s 94))⟩,(oo 96 (.pick (.s 87) (.s 95) (.c (.bool false)))),(oo 4 (.mov (.s 96)))]) (.seq (.reg [(oo 97 (.mov (.s 4))),(oo 98 (.mov (.s 97))),⟨(some 99),(some (98,true)),(.mov (.s 3))⟩,⟨(some 100),(some (98,true)),(.call (fx n_record_field_has) [(.s 99),(.c (.int .i64 8))])⟩,⟨(some 101),(some (98,true)),(.mov (.s 100))⟩,⟨(some 102),(some (101,false)),(.fld 8 (.s 1))⟩,⟨(some 103),(some (101,false)),(.ld none (.s 102))⟩,⟨(some 104),(some (101,false)),(.bin .eql (.s 103) (.c (.int .u64 0)))⟩,⟨(some 105),(some (98,true)),(.pick (.s 101) (.c (.bool true)) (.s 104))⟩,(oo 106 (.pick (.s 98) (.s 105) (.c (.bool false)))),(oo 107 (.mov (.s 106))),⟨(some 108),(some (107,true)),(.fld 8 (.s 1))⟩,⟨(some 109),(some (107,true)),(.ld none (.s 108))⟩,⟨(some 110),(some (107,true)),(.fld 3 (.s 1))⟩,⟨(some 111),(some (107,true)),(.ld none (.s 110))⟩,⟨(some 112),(some (107,true)),(.bin .leq (.s 109) (.s 111))⟩,(oo 113 (.pick (.s 107) (.s 112) (.c (.bool false)))),(oo 4 (.mov (.s 113)))]) (.seq (.reg [(oo 114 (.mov (.s 4))),(oo 115 (.mov (.s 114))),⟨(some 116),(some (115,true)),(.fld 1 (.s 1))⟩,⟨(some 117),(some (115,true)),(.ld none (.s 116))⟩,⟨(some 118),(some (115,true)),(.bin .neq (.s 117) (.c (.int .i64 1)))⟩,⟨(some 119),(some (115,true)),(.mov (.s 118))⟩,⟨(some 120),(some (119,false)),(.fld 6 (.s 1))⟩,⟨(some 121),(some (119,false)),(.ld none (.s 120))⟩,⟨(some 122),(some (119,false)),(.fld 7 (.s 1))⟩,⟨(some 123),(some (119,false)),(.ld none (.s 122))⟩,⟨(some 124),(some (119,false)),(.call (fx n_octet_Equal) [(.s 121),(.s 123)])⟩,⟨(some 125),(some (119,false)),(.un .not (.s 124))⟩,⟨(some 126),(some (115,true)),(.pick (.s 119) (.c (.bool true)) (.s 125))⟩,(oo 127 (.pick (.s 115) (.s 126) (.c (.bool false)))),(oo 4 (.mov (.s 127)))]) (.seq (.seq (.reg [(oo 128 (.mov (.s 4))),(oo 129 (.un .not (.s 128)))]) (.cond (.s 129) (.seq (.reg [(oo 2 (.mov (.c (.int .i64 150))))]) .ret) .skip)) (.seq (.reg [(oo 2 (.mov (.c (.int .i64 0))))]) .ret)))))))))
def F_record_Check (P : Program) (a0 : V) (st : St) (K : V → St → Prop) : Prop :=
 @stp P (.box (.c a0)) st ⟨fun v1 st =>
 @stp P (.fld 1 (.c v1)) st ⟨fun v6 st =>
 @stp P (.ld none (.c v6)) st ⟨fun v7 st =>
 @stp P (.call (.c (.fn (.func n_record_fields) [] [])) [(.c v7)]) st ⟨fun v8 st =>
 @stp P (.ext 0 (.c v8)) st ⟨fun v9 st =>
 @stp P (.ext 1 (.c v8)) st ⟨fun v10 st =>
 @gst P v10 true (.fld 0 (.c v1)) st ⟨fun v13 st =>
 @gst P v10 true (.ld none (.c v13)) st ⟨fun v14 st =>
 @gst P v10 true (.bin .gtr (.c v14) (.c (.int .u64 0))) st ⟨fun v15 st =>
 @stp P (.pick (.c v10) (.c v15) (.c (.bool false))) st ⟨fun v16 st =>
 @gst P v16 true (.fld 2 (.c v1)) st ⟨fun v18 st =>
 @gst P v16 true (.ld none (.c v18)) st ⟨fun v19 st =>
 @gst P v16 true (.bin .gtr (.c v19) (.c (.int .u64 0))) st ⟨fun v20 st =>
 @stp P (.pick (.c v16) (.c v20) (.c (.bool false))) st ⟨fun v21 st =>
 @gst P v21 true (.fld 3 (.c v1)) st ⟨fun v23 st =>
 @gst P v21 true (.ld none (.c v23)) st ⟨fun v24 st =>
 @gst P v21 true (.fld 0 (.c v1)) st ⟨fun v25 st =>
 @gst P v21 true (.ld none (.c v25)) st ⟨fun v26 st =>
 @gst P v21 true (.bin .lss (.c v24) (.c v26)) st ⟨fun v27 st =>
 @stp P (.pick (.c v21) (.c v27) (.c (.bool false))) st ⟨fun v28 st =>
 @gst P v28 true (.fld 4 (.c v1)) st ⟨fun v31 st =>
 @gst P v28 true (.ld none (.c v31)) st ⟨fun v32 st =>
 @gst P v28 true (.bin .geq (.c v32) (.c (.int .i64 0))) st ⟨fun v33 st =>
 @stp P (.pick (.c v28) (.c v33) (.c (.bool false))) st ⟨fun v34 st =>
 @gst P v34 true (.fld 4 (.c v1)) st ⟨fun v36 st =>
 @gst P v34 true (.ld none (.c v36)) st ⟨fun v37 st =>
 @gst P v34 true (.bin .lss (.c v37) (.c (.int .i64 32))) st ⟨fun v38 st =>
 @stp P (.pick (.c v34) (.c v38) (.c (.bool false))) st ⟨fun v39 st =>
 @gst P v39 true (.fld 5 (.c v1)) st ⟨fun v41 st =>
 @gst P v39 true (.ld none (.c v41)) st ⟨fun v42 st =>
 @gst P v39 true (.bin .geq (.c v42) (.c (.int .i64 0))) st ⟨fun v43 st =>
 @stp P (.pick (.c v39) (.c v43) (.c (.bool false))) st ⟨fun v44 st =>
 @gst P v44 true (.fld 5 (.c v1)) st ⟨fun v46 st =>
 @gst P v44 true (.ld none (.c v46)) st ⟨fun v47 st =>
 @gst P v44 true (.bin .lss (.c v47) (.c (.int .i64 4))) st ⟨fun v48 st =>
 @stp P (.pick (.c v44) (.c v48) (.c (.bool false))) st ⟨fun v49 st =>
 @gst P v49 true (.fld 6 (.c v1)) st ⟨fun v51 st =>
 @gst P v49 true (.ld none (.c v51)) st ⟨fun v52 st =>
 @gst P v49 true (.len .sl (.c v52)) st ⟨fun v53 st =>
 @gst P v49 true (.bin .leq (.c v53) (.c (.int .i64 52))) st ⟨fun v54 st =>
 @stp P (.pick (.c v49) (.c v54) (.c (.bool false))) st ⟨fun v55 st =>
 @gst P v55 true (.fld 7 (.c v1)) st ⟨fun v57 st =>
 @gst P v55 true (.ld none (.c v57)) st ⟨fun v58 st =>
 @gst P v55 true (.len .sl (.c v58)) st ⟨fun v59 st =>
 @gst P v55 true (.bin .leq (.c v59) (.c (.int .i64 52))) st ⟨fun v60 st =>
 @stp P (.pick (.c v55) (.c v60) (.c (.bool false))) st ⟨fun v61 st =>
 @gst P v61 true (.mov (.c v9)) st ⟨fun v64 st =>
 @gst P v61 true (.call (.c (.fn (.func n_record_field_has) [] [])) [(.c v64),(.c (.int .i64 1))]) st ⟨fun v65 st =>
 @gst P v61 true (.mov (.c v65)) st ⟨fun v66 st =>
 @gst P v66 false (.fld 4 (.c v1)) st ⟨fun v67 st =>
 @gst P v66 false (.ld none (.c v67)) st ⟨fun v68 st =>
 @gst P v66 false (.bin .eql (.c v68) (.c (.int .i64 0))) st ⟨fun v69 st =>
 @gst P v66 false (.mov (.c v69)) st ⟨fun v70 st =>
 @gst P v70 true (.fld 5 (.c v1)) st ⟨fun v71 st =>
 @gst P v70 true (.ld none (.c v71)) st ⟨fun v72 st =>
 @gst P v70 true (.bin .eql (.c v72) (.c (.int .i64 0))) st ⟨fun v73 st =>
 @gst P v66 false (.pick (.c v70) (.c v73) (.c (.bool false))) st ⟨fun v74 st =>
 @gst P v61 true (.pick (.c v66) (.c (.bool true)) (.c v74)) st ⟨fun v75 st =>
 @stp P (.pick (.c v61) (.c v75) (.c (.bool false))) st ⟨fun v76 st =>
 @gst P v76 true (.mov (.c v9)) st ⟨fun v78 st =>
 @gst P v76 true (.call (.c (.fn (.func n_record_field_has) [] [])) [(.c v78),(.c (.int .i64 2))]) st ⟨fun v79 st =>
 @gst P v76 true (.mov (.c v79)) st ⟨fun v80 st =>
 @gst P v80 false (.fld 6 (.c v1)) st ⟨fun v81 st =>
 @gst P v80 false (.ld none (.c v81)) st ⟨fun v82 st =>
 @gst P v80 false (.len .sl (.c v82)) st ⟨fun v83 st =>
 @gst P v80 false (.bin .eql (.c v83) (.c (.int .i64 0))) st ⟨fun v84 st =>
 @gst P v76 true (.pick (.c v80) (.c (.bool true)) (.c v84)) st ⟨fun v85 st =>
 @stp P (.pick (.c v76) (.c v85) (.c (.bool false))) st ⟨fun v86 st =>
 @gst P v86 true (.mov (.c v9)) st ⟨fun v88 st =>
 @gst P v86 true (.call (.c (.fn (.func n_record_field_has) [] [])) [(.c v88),(.c (.int .i64 4))]) st ⟨fun v89 st =>
 @gst P v86 true (.mov (.c v89)) st ⟨fun v90 st =>
 @gst P v90 false (.fld 7 (.c v1)) st ⟨fun v91 st =>
 @gst P v90 false (.ld none (.c v91)) st ⟨fun v92 st =>
 @gst P v90 false (.len .sl (.c v92)) st ⟨fun v93 st =>
 @gst P v90 false (.bin .eql (.c v93) (.c (.int .i64 0))) st ⟨fun v94 st =>
 @gst P v86 true (.pick (.c v90) (.c (.bool true)) (.c v94)) st ⟨fun v95 st =>
 @stp P (.pick (.c v86) (.c v95) (.c (.bool false))) st ⟨fun v96 st =>
 @gst P v96 true (.mov (.c v9)) st ⟨fun v99 st =>
 @gst P v96 true (.call (.c (.fn (.func n_record_field_has) [] [])) [(.c v99),(.c (.int .i64 8))]) st ⟨fun v100 st =>
 @gst P v96 true (.mov (.c v100)) st ⟨fun v101 st =>
 @gst P v101 false (.fld 8 (.c v1)) st ⟨fun v102 st =>
 @gst P v101 false (.ld none (.c v102)) st ⟨fun v103 st =>
 @gst P v101 false (.bin .eql (.c v103) (.c (.int .u64 0))) st ⟨fun v104 st =>
 @gst P v96 true (.pick (.c v101) (.c (.bool true)) (.c v104)) st ⟨fun v105 st =>
 @stp P (.pick (.c v96) (.c v105) (.c (.bool false))) st ⟨fun v106 st =>
 @gst P v106 true (.fld 8 (.c v1)) st ⟨fun v108 st =>
 @gst P v106 true (.ld none (.c v108)) st ⟨fun v109 st =>
 @gst P v106 true (.fld 3 (.c v1)) st ⟨fun v110 st =>
 @gst P v106 true (.ld none (.c v110)) st ⟨fun v111 st =>
 @gst P v106 true (.bin .leq (.c v109) (.c v111)) st ⟨fun v112 st =>
 @stp P (.pick (.c v106) (.c v112) (.c (.bool false))) st ⟨fun v113 st =>
 @gst P v113 true (.fld 1 (.c v1)) st ⟨fun v116 st =>
 @gst P v113 true (.ld none (.c v116)) st ⟨fun v117 st =>
 @gst P v113 true (.bin .neq (.c v117) (.c (.int .i64 1))) st ⟨fun v118 st =>
 @gst P v113 true (.mov (.c v118)) st ⟨fun v119 st =>
 @gst P v119 false (.fld 6 (.c v1)) st ⟨fun v120 st =>
 @gst P v119 false (.ld none (.c v120)) st ⟨fun v121 st =>
 @gst P v119 false (.fld 7 (.c v1)) st ⟨fun v122 st =>
 @gst P v119 false (.ld none (.c v122)) st ⟨fun v123 st =>
 @gst P v119 false (.call (.c (.fn (.func n_octet_Equal) [] [])) [(.c v121),(.c v123)]) st ⟨fun v124 st =>
 @gst P v119 false (.un .not (.c v124)) st ⟨fun v125 st =>
 @gst P v113 true (.pick (.c v119) (.c (.bool true)) (.c v125)) st ⟨fun v126 st =>
 @stp P (.pick (.c v113) (.c v126) (.c (.bool false))) st ⟨fun v127 st =>
 @stp P (.un .not (.c v127)) st ⟨fun v129 st =>
 @cnd v129 ⟨
 GhostV [(.int .i64 150)] st fun vs st => K (mkres vs) st⟩
 ⟨
 GhostV [(.int .i64 0)] st fun vs st => K (mkres vs) st⟩⟩⟩⟩⟩⟩⟩⟩⟩⟩⟩⟩⟩⟩⟩⟩⟩⟩⟩⟩⟩⟩⟩⟩⟩⟩⟩⟩⟩⟩⟩⟩⟩⟩⟩⟩⟩⟩⟩⟩⟩⟩⟩⟩⟩⟩⟩⟩⟩⟩⟩⟩⟩⟩⟩⟩⟩⟩⟩⟩⟩⟩⟩⟩⟩⟩⟩⟩⟩⟩⟩⟩⟩⟩⟩⟩⟩⟩⟩⟩⟩⟩⟩⟩⟩⟩⟩⟩⟩⟩⟩⟩⟩⟩⟩⟩⟩⟩⟩⟩⟩⟩⟩⟩⟩
theorem q_record_Check {P : Program} {a0 : V} {st : St} {K : V → St → Prop} : F_record_Check P a0 st K = hwp P c_record_Check (hretQ [.tmp 2] K) (enterFr [a0]) st := by kernel_rfl
abbrev R_record_Check (P : Program) : Prop := resFnH P n_record_Check = some (130, c_record_Check.er, [.tmp 2])
theorem A_record_Check {P : Program} (h : R_record_Check P) {a0 : V} {st : St} {K : V → St → Prop} (hF : F_record_Check P a0 st K) : ACalls P n_record_Check [a0] st K :=
  ACalls_h h rfl (by simp) (q_record_Check ▸ hF)

def c_record_ahead : ACode := (.seq (.reg [(oo 3 (.box (.s 0))),(oo 4 (.box (.s 1))),(oo 5 (.box (.s 2))),(oo 6 (.mov (.c .nilf)))]) (.seq (.reg [(oo 7 (.mkfn (.func n_record_ahead_1) [] [(.s 4),(.s 3),(.s 5)])),(oo 6 (.mov (.s 7)))]) .ret))
def F_record_ahead (P : Program) (a0 a1 a2 : V) (st : St) (K : V → St → Prop) : Prop :=
 @stp P (.box (.c a0)) st ⟨fun v3 st =>
 @stp P (.box (.c a1)) st ⟨fun v4 st =>
 @stp P (.box (.c a2)) st ⟨fun v5 st =>
 @stp P (.mkfn (.func n_record_ahead_1) [] [(.c v4),(.c v3),(.c v5)]) st ⟨fun v7 st =>
 GhostV [v7] st fun vs st => K (mkres vs) st⟩⟩⟩⟩
theorem q_record_ahead {P : Program} {a0 a1 a2 : V} {st : St} {K : V → St → Prop} : F_record_ahead P a0 a1 a2 st K = hwp P c_record_ahead (hretQ [.tmp 6] K) (enterFr [a0, a1, a2]) st := by kernel_rfl
abbrev R_record_ahead (P : Program) : Prop := resFnH P n_record_ahead = some (8, c_record_ahead.er, [.tmp 6])
theorem A_record_ahead {P : Program} (h : R_record_ahead P) {a0 a1 a2 : V} {st : St} {K : V → St → Prop} (hF : F_record_ahead P a0 a1 a2 st K) : ACalls P n_record_ahead [a0, a1, a2] st K :=
  ACalls_h h rfl (by simp) (q_record_ahead ▸ hF)

def c_octet_Equal : ACode := (.seq (.reg [(oo 4 (.mov (.c (.bool false))))]) (.seq (.reg [(oo 5 (.mov (.s 0))),(oo 6 (.mov (.s 1))),(oo 7 (.call (fx n_slices_Equal_byte_byte) [(.s 5),(.s 6)])),(oo 4 (.mov (.s 7)))]) .ret))
def F_octet_Equal (P : Program) (a0 a1 : V) (st : St) (K : V → St → Prop) : Prop :=
 @stp P (.call (.c (.fn (.func n_slices_Equal_byte_byte) [] [])) [(.c a0),(.c a1)]) st ⟨fun v7 st =>
 GhostV [v7] st fun vs st => K (mkres vs) st⟩
theorem q_octet_Equal {P : Program} {a0 a1 : V} {st : St} {K : V → St → Prop} : F_octet_Equal P a0 a1 st K = hwp P c_octet_Equal (hretQ [.tmp 4] K) (enterFr [a0, a1]) st := by kernel_rfl
abbrev R_octet_Equal (P : Program) : Prop := resFnH P n_octet_Equal = some (8, c_octet_Equal.er, [.tmp 4])
theorem A_octet_Equal {P : Program} (h : R_octet_Equal P) {a0 a1 : V} {st : St} {K : V → St → Prop} (hF : F_octet_Equal P a0 a1 st K) : ACalls P n_octet_Equal [a0, a1] st K :=
  ACalls_h h rfl (by simp) (q_octet_Equal ▸ hF)

def c_page_at : ACode := (.seq (.reg [(oo 2 (.box (.s 0))),(oo 4 (.alloc zrP)),(oo 5 (.mov (.c (.int .i64 0))))]) (.seq (.block 0 (.seq (.reg [(oo 9 (.ld (some 6) (.s 2))),(oo 10 (.call (fx n_page_Check) [(.s 9)])),(oo 11 (.bin .neq (.s 10) (.c (.int .i64 0)))),(oo 8 (.mov (.s 11)))]) (.cond (.s 8) (.seq (.reg [(oo 12 (.build zrP [])),⟨none,none,(.st 6 (.s 4) (.s 12))⟩,(oo 5 (.mov (.c (.int .i64 160))))]) .ret) (.seq (.reg [(oo 14 (.mov (.s 1))),(oo 15 (.bin .lss (.s 14) (.c (.int .i64 0)))),(oo 16 (.mov (.s 15))),⟨(some 17),(some (16,false)),(.mov (.s 1))⟩,⟨(some 18),(some (16,false)),(.bin .geq (.s 17) (.c (.int .i64 4)))⟩,(oo 19 (.pick (.s 16) (.c (.bool true)) (.s 18))),(oo 13 (.mov (.s 19)))]) (.cond (.s 13) (.seq (.reg [(oo 20 (.build zrP [])),⟨none,none,(.st 6 (.s 4) (.s 20))⟩,(oo 5 (.mov (.c (.int .i64 2))))]) .ret) .skip))))) (.seq (.seq (.reg [(oo 21 (.fld 2 (.s 2))),(oo 22 (.ld (some 4) (.s 21))),(oo 23 (.mov (.c (.int .i64 0))))]) (.block 1 (.loop [23] [6,7,23,24,25,26,27,28,29,30,31,32] (.seq (.reg [(oo 24 (.bin .lss (.s 23) (.c (.int .i64 4))))]) (.seq (.cond (.s 24) .skip (.exit 1)) (.seq (.block 2 (.seq (.reg [(oo 25 (.mov (.s 23))),(oo 26 (.idxV 4 1 false (.s 22) (.s 23))),(oo 6 (.mov (.s 25))),(oo 7 (.mov (.s 26)))]) (.reg [(oo 27 (.mov (.s 6))),(oo 28 (.mov (.s 7))),(oo 29 (.call (fx n_bytes_Clone) [(.s 28)])),(oo 30 (.fld 2 (.s 2))),(oo 31 (.idxA 4 1 (.s 30) (.s 27))),⟨none,none,(.st 1 (.s 31) (.s 29))⟩]))) (.reg [(oo 32 (.bin .add (.s 23) (.c (.int .i64 1)))),(oo 23 (.mov (.s 32)))]))))))) (.seq (.reg [(oo 33 (.ld (some 6) (.s 2))),⟨none,none,(.st 6 (.s 4) (.s 33))⟩,(oo 5 (.mov (.c (.int .i64 0))))]) .ret))))
def F_page_at (P : Program) (a0 a1 : V) (st : St) (K : V → St → Prop) : Prop :=
 @stp P (.box (.c a0)) st ⟨fun v2 st =>
 @stp P (.alloc [(.int .i64 0),(.int .u64 0),(.sl .nil 0 [] []),(.sl .nil 0 [] []),(.sl .nil 0 [] []),(.sl .nil 0 [] [])]) st ⟨fun v4 st =>
 @stp P (.ld (some 6) (.c v2)) st ⟨fun v9 st =>
 @stp P (.call (.c (.fn (.func n_page_Check) [] [])) [(.c v9)]) st ⟨fun v10 st =>
 @stp P (.bin .neq (.c v10) (.c (.int .i64 0))) st ⟨fun v11 st =>
 @cnd v11 ⟨
 @stp P (.build [(.int .i64 0),(.int .u64 0),(.sl .nil 0 [] []),(.sl .nil 0 [] []),(.sl .nil 0 [] []),(.sl .nil 0 [] [])] []) st ⟨fun v12 st =>
 @stp P (.st 6 (.c v4) (.c v12)) st ⟨fun _v st =>
 @ldr (some 6) v4 st ⟨fun r1 =>
 GhostV [r1,(.int .i64 160)] st fun vs st => K (mkres vs) st⟩⟩⟩⟩
 ⟨
 @stp P (.bin .lss (.c a1) (.c (.int .i64 0))) st ⟨fun v15 st =>
 @gst P v15 false (.mov (.c a1)) st ⟨fun v17 st =>
 @gst P v15 false (.bin .geq (.c v17) (.c (.int .i64 4))) st ⟨fun v18 st =>
 @stp P (.pick (.c v15) (.c (.bool true)) (.c v18)) st ⟨fun v19 st =>
 @cnd v19 ⟨
 @stp P (.build [(.int .i64 0),(.int .u64 0),(.sl .nil 0 [] []),(.sl .nil 0 [] []),(.sl .nil 0 [] []),(.sl .nil 0 [] [])] []) st ⟨fun v20 st =>
 @stp P (.st 6 (.c v4) (.c v20)) st ⟨fun _v st =>
 @ldr (some 6) v4 st ⟨fun r1 =>
 GhostV [r1,(.int .i64 2)] st fun vs st => K (mkres vs) st⟩⟩⟩⟩
 ⟨
 @stp P (.fld 2 (.c v2)) st ⟨fun v21 st =>
 @stp P (.ld (some 4) (.c v21)) st ⟨fun v22 st =>
 @Hold ⟨∃ I1 : Nat → Rel 1,(∃ k,GhostV [(.int .i64 0)] st (app (I1 k))) ∧ ∀ k1 v23,∀ st,app (I1 k1) [v23] st →
 @stp P (.bin .lss (.c v23) (.c (.int .i64 4))) st ⟨fun v24 st =>
 @cnd v24 ⟨
 @stp P (.idxV 4 1 false (.c v22) (.c v23)) st ⟨fun v26 st =>
 @stp P (.call (.c (.fn (.func n_bytes_Clone) [] [])) [(.c v26)]) st ⟨fun v29 st =>
 @stp P (.fld 2 (.c v2)) st ⟨fun v30 st =>
 @stp P (.idxA 4 1 (.c v30) (.c v23)) st ⟨fun v31 st =>
 @stp P (.st 1 (.c v31) (.c v29)) st ⟨fun _v st =>
 @stp P (.bin .add (.c v23) (.c (.int .i64 1))) st ⟨fun v32 st =>
 ∃ j,j < k1 ∧ GhostV [v32] st (app (I1 j))⟩⟩⟩⟩⟩⟩⟩
 ⟨
 @stp P (.ld (some 6) (.c v2)) st ⟨fun v33 st =>
 @stp P (.st 6 (.c v4) (.c v33)) st ⟨fun _v st =>
 @ldr (some 6) v4 st ⟨fun r1 =>
 GhostV [r1,(.int .i64 0)] st fun vs st => K (mkres vs) st⟩⟩⟩⟩⟩⟩⟩⟩⟩⟩⟩⟩⟩⟩⟩⟩⟩⟩⟩
theorem q_page_at {P : Program} {a0 a1 : V} {st : St} {K : V → St → Prop} : F_page_at P a0 a1 st K = hwp P c_page_at (hretQ [.cell 4 (some 6), .tmp 5] K) (enterFr [a0, a1]) st := by kernel_rfl
abbrev R_page_at (P : Program) : Prop := resFnH P n_page_at = some (34, c_page_at.er, [.cell 4 (some 6), .tmp 5])
theorem A_page_at {P : Program} (h : R_page_at P) {a0 a1 : V} {st : St} {K : V → St → Prop} (hF : F_page_at P a0 a1 st K) : ACalls P n_page_at [a0, a1] st K :=
  ACalls_h h rfl (by simp) (q_page_at ▸ hF)

end Go.Proofs.Ytmbhgjekjpkigaa.AM
