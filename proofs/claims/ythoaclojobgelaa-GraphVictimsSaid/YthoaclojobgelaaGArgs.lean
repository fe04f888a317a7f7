/- The arguments of the statements of layer 16. -/
import Derived.Test.YthoaclojobgelaaRows
import Derived.WalkKit
import Derived.ProofKit
import Derived.OpenShut
import Derived.ShutString
import Derived.ChangeOld
import Derived.Below
import Derived.SizedLaws
import Derived.Lib.SmallJoins
import Derived.Test.YthoaclojobgelaaGFacts
import Derived.Test.YthoaclojobgelaaVGlue
namespace Go.Proofs.Ythoaclojobgelaa.graphLaw
open Go.ChangeShapes Go.WideShapes Go.ChangeAt Go.RowKit Go.Joins Go.Proofs.Ythoaclojobgelaa.AM
set_option linter.unusedVariables false
theorem own : ownKnob Try.prog.godebug = none := by kernel_rfl
theorem laidOut : laidOutB Try.prog = true := by kernel_rfl
theorem spot_of_slice {P : Program} {w : World} {r : Reach} {b : Nat} {t e : TypeId} {v : Value} (ht : P.underlying t = some (.slice e)) (h : Value.okWide P w r b t v) : ∀ a l c, v = .slice (some a) l c → a.spot = none := by
  rintro a l c rfl
  simp only [Value.okWide, ht, Cell.okWide, Cell.ok, World.has] at h
  exact h.2.2.2.1
theorem spot_of_field {P : Program} {w : World} {r : Reach} {b : Nat} {t u e : TypeId} {fs : Array Field} {cs : Array Value} {ts : List TypeId} {i : Nat} {v : Value} (ht : P.underlying t = some (.struct fs)) (hts : P.cellTypes P.depth t = some ts)
    (h : Value.okWide P w r b t (.agg cs)) (hi : cs[i]? = some v) (hu : ts[i % ts.length]? = some u) (he : P.underlying u = some (.slice e)) : ∀ a l c, v = .slice (some a) l c → a.spot = none := by
  rintro a l c rfl
  simp only [Value.okWide, ht] at h
  obtain ⟨cs', hc, _, ts', h1, _, h2⟩ := h
  cases hc
  cases hts.symm.trans h1
  obtain ⟨u', h3, h4⟩ := h2 i _ hi
  cases hu.symm.trans h3
  simp only [Cell.okWide, he, Cell.ok, World.has] at h4
  exact h4.2.2.2.1

theorem nat_of_u64 {n : Int} (h : (Lit.int .u64 n).wf = true) : ∃ j : Nat, n = j ∧ j < 2 ^ 64 := by
  have a : IntKind.u64.min = 0 := by decide
  have b : IntKind.u64.max = 18446744073709551615 := by decide
  simp only [Lit.wf, a, b] at h
  simp at h
  exact ⟨n.toNat, by omega, by omega⟩
theorem okCs_cons {k : AK} {ks : List AK} {cs : List Value} (h : okCs (k :: ks) cs) : ∃ c cs', cs = c :: cs' ∧ k.ok c ∧ okCs ks cs' := by
  cases cs with
  | nil => exact h.elim
  | cons c cs => exact ⟨c, cs, rfl, h.1, h.2⟩
theorem okCs_nil {cs : List Value} (h : okCs [] cs) : cs = [] := by
  cases cs with
  | nil => rfl
  | cons c cs => exact h.elim
theorem edge_row : ∀ cs, okCs [.int .u64, .int .u64] cs → ∃ x : EdgeT, cs.map toV = cEd x ∧ True := by
  intro cs h
  match cs, h with
  | [c0, c1], ⟨⟨a, h0, w0⟩, ⟨b, h1, w1⟩, _⟩ =>
    obtain ⟨a, rfl, _⟩ := nat_of_u64 w0
    obtain ⟨b, rfl, _⟩ := nat_of_u64 w1
    subst h0 h1
    exact ⟨⟨a, b⟩, rfl, trivial⟩
theorem num_row : ∀ cs, okCs [.int .u64] cs → ∃ x : Nat, cs.map toV = cN x ∧ True := by
  intro cs h
  match cs, h with
  | [c0], ⟨⟨a, h0, w0⟩, _⟩ =>
    obtain ⟨a, rfl, _⟩ := nat_of_u64 w0
    subst h0
    exact ⟨a, rfl, trivial⟩
section
variable {H : Type} {enc : TypeId × Value → H} {W : World} {b0 : Nat} {r : Reach}
set_option maxRecDepth 100000 in
theorem edgesArg {v : Value} {d : DataW H} {p : List MemPlace} (hv : Value.okWide Try.prog W r b0 22 v) (h : DataW.Trod enc Try.prog W 0 (fun _ => true) true 22 v d p) : ∃ l : List EdgeT, VRel (G.all W) (.sl .unk 2 (l.map cEd) []) v := by
  obtain ⟨fuel, hf⟩ := h
  obtain ⟨a, len, cap, rfl⟩ := okWide_slice Try.underlying22 hv
  obtain ⟨rows, h1, h2, _⟩ := slice_rel (d := 3) (ks := [.int .u64, .int .u64]) Try.underlying22 (by kernel_rfl) (by kernel_rfl) (by decide) (by simpa [Value.cells] using hf) (spot_of_slice Try.underlying22 hv)
  obtain ⟨l, rfl, _⟩ := rows_map edge_row h2
  exact ⟨l, h1⟩
set_option maxRecDepth 100000 in
theorem numsArg {v : Value} {d : DataW H} {p : List MemPlace} (hv : Value.okWide Try.prog W r b0 23 v) (h : DataW.Trod enc Try.prog W 0 (fun _ => true) true 23 v d p) : ∃ l : List Nat, VRel (G.all W) (.sl .unk 1 (l.map cN) []) v := by
  obtain ⟨fuel, hf⟩ := h
  obtain ⟨a, len, cap, rfl⟩ := okWide_slice Try.underlying23 hv
  obtain ⟨rows, h1, h2, _⟩ := slice_rel (d := 2) (ks := [.int .u64]) Try.underlying23 (by kernel_rfl) (by kernel_rfl) (by decide) (by simpa [Value.cells] using hf) (spot_of_slice Try.underlying23 hv)
  obtain ⟨l, rfl, _⟩ := rows_map num_row h2
  exact ⟨l, h1⟩
end
theorem lawR : LawR Try.prog :=
  { nan := r_cmp_isNaN_uint64,
    less := r_cmp_Less_uint64,
    len := r_math_bits_Len,
    len64 := r_math_bits_Len64,
    ord := r_slices_order2Ordered_uint64,
    med := r_slices_medianOrdered_uint64,
    adj := r_slices_medianAdjacentOrdered_uint64,
    cho := r_slices_choosePivotOrdered_uint64,
    ins := r_slices_insertionSortOrdered_uint64,
    sift := r_slices_siftDownOrdered_uint64,
    heap := r_slices_heapSortOrdered_uint64,
    xor := r_slices_xorshift_Next,
    pow := r_slices_nextPowerOfTwo,
    brk := r_slices_breakPatternsOrdered_uint64,
    rev := r_slices_reverseRangeOrdered_uint64,
    part := r_slices_partitionOrdered_uint64,
    eq := r_slices_partitionEqualOrdered_uint64,
    few := r_slices_partialInsertionSortOrdered_uint64,
    pdq := r_slices_pdqsortOrdered_uint64,
    sort := r_slices_Sort_uint64_uint64,
    val := r_slices_Values_uint64_uint64,
    val1 := r_slices_Values_uint64_uint64_1,
    app := r_slices_AppendSeq_uint64_uint64,
    coll := r_slices_Collect_uint64,
    sorted := r_slices_Sorted_uint64,
    keysFbool := r_maps_Keys_map_uint64_bool_uint64_bool,
    keys1Fbool := r_maps_Keys_map_uint64_bool_uint64_bool_1,
    risingFbool := r_graph_rising_uint64_bool,
    keysFint := r_maps_Keys_map_uint64_int_uint64_int,
    keys1Fint := r_maps_Keys_map_uint64_int_uint64_int_1,
    risingFint := r_graph_rising_uint64_int,
    has := r_gazetteerref16_Has,
    wrong := r_gazetteerref16_Wrong,
    same := r_gazetteerref16_Same,
    sameE := r_gazetteerref16_SameEdges,
    wo := r_gazetteerref16_Without,
    wi := r_gazetteerref16_With,
    reach := r_gazetteerref16_Reach,
    on := r_gazetteerref16_On,
    far := r_gazetteerref16_Far,
    circ := r_gazetteerref16_Circle,
    vic := r_gazetteerref16_Victim,
    check := r_graph_Check,
    check1 := r_graph_Check_1,
    conf := r_slices_ContainsFunc_Edge_Edge,
    idxf := r_slices_IndexFunc_Edge_Edge,
    nexts := r_graph_nexts,
    gfar := r_graph_far,
    rings := r_graph_rings,
    gon := r_graph_On,
    greach := r_graph_Reach,
    gwo := r_graph_Without,
    gwo1 := r_graph_Without_1,
    del := r_slices_DeleteFunc_Edge_Edge,
    clone := r_slices_Clone_Edge_Edge,
    back := r_slices_Backward_uint64_uint64,
    back1 := r_slices_Backward_uint64_uint64_1,
    gvic := r_graph_Victim,
    gcirc := r_graph_Circle,
    wfirst := r_gazetteerlaw16_first,
    wfew := r_gazetteerlaw16_few,
    wwhole := r_gazetteerlaw16_whole,
    wwakes := r_gazetteerlaw16_wakes }
end Go.Proofs.Ythoaclojobgelaa.graphLaw
