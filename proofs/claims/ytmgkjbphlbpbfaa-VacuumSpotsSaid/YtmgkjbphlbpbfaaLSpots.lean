/- The law VacuumSpots of gazetteerlaw18 returns true at every input, and the input reads as it did. Conditions: none beyond the row's own. -/
import Derived.Test.YtmgkjbphlbpbfaaRows
import Derived.WalkKit
import Derived.ProofKit
import Derived.OpenShut
import Derived.ShutString
import Derived.ChangeOld
import Derived.Below
import Derived.SizedLaws
import Derived.Lib.SmallJoins
import Derived.Test.YtmgkjbphlbpbfaaVFactsM
import Derived.Test.YtmgkjbphlbpbfaaVGlue
namespace Go.Proofs.Ytmgkjbphlbpbfaa.vacuumSpotsLaw
open Go.ChangeShapes Go.WideShapes Go.ChangeAt Go.RowKit Go.Joins Go.Proofs.Ytmgkjbphlbpbfaa.AM
set_option linter.unusedVariables false
theorem own : ownKnob Try.prog.godebug = none := by kernel_rfl
theorem laidOut : laidOutB Try.prog = true := by kernel_rfl
theorem u32_wf {n : Int} (h : (Lit.int .u32 n).wf = true) : 0 ≤ n ∧ n < 4294967296 := by
  have a : IntKind.u32.min = 0 := by decide
  have b : IntKind.u32.max = 4294967295 := by decide
  simp only [Lit.wf, a, b] at h
  simp at h
  omega
theorem spot_of_slice {P : Program} {w : World} {r : Reach} {b : Nat} {t e : TypeId} {v : Value} (ht : P.underlying t = some (.slice e)) (h : Value.okWide P w r b t v) : ∀ a l c, v = .slice (some a) l c → a.spot = none := by
  rintro a l c rfl
  simp only [Value.okWide, ht, Cell.okWide, Cell.ok, World.has] at h
  exact h.2.2.2.1
theorem spot_of_field {P : Program} {w : World} {r : Reach} {b : Nat} {t u e : TypeId} {fs : Array Field} {cs : Array Value} {ts : List TypeId} {i : Nat} {v : Value} (ht : P.underlying t = some (.struct fs)) (hts : P.cellTypes P.depth t = some ts)
    (h : Value.okWide P w r b t (.agg cs)) (hi : cs[i]? = some v) (hu : ts[i % ts.length]? = some u) (he : P.underlying u = some (.slice e)) : ∀ a l c, v = .slice (some a) l c → a.spot = none := by
  rintro a l c rfl
  simp only [Value.okWide, ht] at h
  obtain ⟨cs', hc, _, ts', h1, _, h2⟩ := h
  cases hc
  cases hts.symm.trans h1
  obtain ⟨u', h3, h4⟩ := h2 i _ hi
  cases hu.symm.trans h3
  simp only [Cell.okWide, he, Cell.ok, World.has] at h4
  exact h4.2.2.2.1

theorem nat_of_u64 {n : Int} (h : (Lit.int .u64 n).wf = true) : ∃ j : Nat, n = j ∧ j < 2 ^ 64 := by
  have a : IntKind.u64.min = 0 := by decide
  have b : IntKind.u64.max = 18446744073709551615 := by decide
  simp only [Lit.wf, a, b] at h
  simp at h
  exact ⟨n.toNat, by omega, by omega⟩
theorem okCs_cons {k : AK} {ks : List AK} {cs : List Value} (h : okCs (k :: ks) cs) : ∃ c cs', cs = c :: cs' ∧ k.ok c ∧ okCs ks cs' := by
  cases cs with
  | nil => exact h.elim
  | cons c cs => exact ⟨c, cs, rfl, h.1, h.2⟩
theorem okCs_nil {cs : List Value} (h : okCs [] cs) : cs = [] := by
  cases cs with
  | nil => rfl
  | cons c cs => exact h.elim
theorem spot_row : ∀ cs, okCs [.int .i64, .int .i64] cs → ∃ x : SpotT, cs.map toV = cSpot x ∧ True := by
  intro cs h
  obtain ⟨_, _, rfl, ⟨a0, rfl, _⟩, h1⟩ := okCs_cons h
  obtain ⟨_, _, rfl, ⟨a1, rfl, _⟩, h2⟩ := okCs_cons h1
  obtain rfl := okCs_nil h2
  exact ⟨⟨a0, a1⟩, rfl, trivial⟩
theorem n32_row : ∀ cs, okCs [.int .u32] cs → ∃ x : Nat, cs.map toV = c32 x ∧ True := by
  intro cs h
  match cs, h with
  | [c0], ⟨⟨a, h0, w0⟩, _⟩ =>
    obtain ⟨a, rfl⟩ : ∃ j : Nat, a = j := ⟨a.toNat, by have := u32_wf w0; omega⟩
    subst h0
    exact ⟨a, rfl, trivial⟩
set_option maxRecDepth 100000 in
theorem i64_wf {n : Int} (h : (Lit.int .i64 n).wf = true) : -9223372036854775808 ≤ n ∧ n < 9223372036854775808 := by
  have a : IntKind.i64.min = -9223372036854775808 := by decide
  have b : IntKind.i64.max = 9223372036854775807 := by decide
  simp only [Lit.wf, a, b, Bool.and_eq_true, decide_eq_true_eq] at h
  omega
section
variable {H : Type} {enc : TypeId × Value → H} {W : World} {b0 : Nat} {r : Reach}
set_option maxRecDepth 100000 in
theorem spotsArg {v : Value} {d : DataW H} {p : List MemPlace} (hv : Value.okWide Try.prog W r b0 30 v) (h : DataW.Trod enc Try.prog W 0 (fun _ => true) true 30 v d p) : ∃ l : List SpotT, VRel (G.all W) (.sl .unk 2 (l.map cSpot) []) v := by
  obtain ⟨fuel, hf⟩ := h
  obtain ⟨a, len, cap, rfl⟩ := okWide_slice Try.underlying30 hv
  obtain ⟨rows, h1, h2, _⟩ := slice_rel (d := 3) (ks := [.int .i64, .int .i64]) Try.underlying30 (by kernel_rfl) (by kernel_rfl) (by decide) (by simpa [Value.cells] using hf) (spot_of_slice Try.underlying30 hv)
  obtain ⟨l, rfl, _⟩ := rows_map spot_row h2
  exact ⟨l, h1⟩
set_option maxRecDepth 100000 in
theorem n32Arg {v : Value} {d : DataW H} {p : List MemPlace} (hv : Value.okWide Try.prog W r b0 55 v) (h : DataW.Trod enc Try.prog W 0 (fun _ => true) true 55 v d p) : ∃ l : List Nat, VRel (G.all W) (.sl .unk 1 (l.map c32) []) v := by
  obtain ⟨fuel, hf⟩ := h
  obtain ⟨a, len, cap, rfl⟩ := okWide_slice Try.underlying55 hv
  obtain ⟨rows, h1, h2, _⟩ := slice_rel (d := 2) (ks := [.int .u32]) Try.underlying55 (by kernel_rfl) (by kernel_rfl) (by decide) (by simpa [Value.cells] using hf) (spot_of_slice Try.underlying55 hv)
  obtain ⟨l, rfl, _⟩ := rows_map n32_row h2
  exact ⟨l, h1⟩
end
theorem lawR : SpotsLawR Try.prog :=
  { nan := r_cmp_isNaN_uint64,
    cmp := r_cmp_Compare_uint64,
    fate1 := r_vision_fate_1,
    bs := r_slices_BinarySearchFunc_Fate_Fate_uint64,
    fate := r_vision_fate,
    counts := r_vision_look_counts,
    sees := r_vision_look_sees,
    box := r_key_box,
    key := r_key_Check,
    heap := r_heap_Check,
    check := r_vision_Check,
    Sees := r_vision_Sees,
    Dead := r_vision_Dead,
    idx := r_slices_Index_Spot_Spot,
    con := r_slices_Contains_Spot_Spot,
    fn := r_vacuum_Left_1,
    idxf := r_slices_IndexFunc_Stored_Stored,
    del := r_slices_DeleteFunc_Stored_Stored,
    clone := r_slices_Clone_Stored_Stored,
    left := r_vacuum_Left,
    dead1 := r_vacuum_dead_1,
    dead := r_vacuum_dead,
    vdead := r_vacuum_Dead,
    first := r_gazetteerlaw18_first,
    entry := r_vacuum_Entry,
    wakes := r_gazetteerlaw18_wakes,
    spots := r_gazetteerlaw18_spots,
    rspot := r_gazetteerref18_Spot,
    rentry := r_gazetteerref18_Entry,
    cloneS := r_slices_Clone_Spot_Spot,
    batches := r_vacuum_Batches,
    law := r_gazetteerlaw18_VacuumSpots,
    spot := r_vacuum_Spot,
    same := r_gazetteerlaw18_same }
set_option maxRecDepth 100000 in
theorem lifted (os : Os) (started : os.Started) (H : Type) (enc : TypeId × Value → H) :
    ReturnsInHanded {} Try.checked os 5 .any (Rows.vacuumSpotsSpec.pre6 enc Try.prog Try.f5 Rows.vacuumSpotsRow.domain false) (Rows.vacuumSpotsSpec.post enc Try.prog Try.f5 false true false false) := by
  refine returnsInHanded_of_change_sized (C := Try.checked) own started (by kernel_rfl) Try.func5
    (ChangeSpec.witness6 (enc := enc) (C := Try.checked) false ⟨#[], #[.slice none 0 0, .int .i64 0, .slice none 0 0], []⟩ 8 (by kernel_rfl) (by kernel_rfl) (by kernel_rfl) (by kernel_rfl)) ?_
  intro W base args ds gs before hval0 hW hcnd hsz0 _
  have hval : ∀ (j : Nat) t v, Try.f5.params[j]? = some t → args[j]? = some v → Value.okWide Try.prog W .any base t v := hval0
  have hW' := hW
  obtain ⟨p, q, hA0, hV, rfl, hfz, hnd⟩ := hW
  have hA : DataW.TrodAll enc Try.prog W 0 (fun _ => true) true Try.f5.params.toList args.toList ds p := hA0
  rw [Try.params5] at hA hval
  obtain ⟨v0, vs0, d0, ds0, p0, q0, hargs, rfl, rfl, h0, r0⟩ := trodAll_cons hA
  obtain ⟨v1, vs1, d1, ds1, p1, q1, rfl, rfl, rfl, h1, r1⟩ := trodAll_cons r0
  obtain ⟨v2, vs2, d2, ds2, p2, q2, rfl, rfl, rfl, h2, r2⟩ := trodAll_cons r1
  obtain ⟨rfl, rfl, rfl⟩ := trodAll_nil r2
  obtain rfl : args = #[v0, v1, v2] := by cases args; simp_all
  obtain ⟨rfl, rfl⟩ := trodVars_none hV
  have lt0 : ∀ x ∈ p0, x.block < W.heap.size := by obtain ⟨m, hm⟩ := h0; exact DataW.trod_lt m _ _ _ hm
  have lt2 : ∀ x ∈ p2, x.block < W.heap.size := by obtain ⟨m, hm⟩ := h2; exact DataW.trod_lt m _ _ _ hm
  obtain ⟨a0, ha0⟩ := spotsArg (hval 0 30 v0 rfl rfl) h0
  obtain ⟨a2, ha2⟩ := n32Arg (hval 2 55 v2 rfl rfl) h2
  obtain ⟨a1, rfl, rfl, rfl, wa1⟩ := open_int Try.underlying3 (hval 1 3 v1 rfl rfl) h1
  clear hA0 hval0 hsz0
  refine (law_calls (vacuumSpots lawR a0 a1 a2 (i64_wf wa1)) (VRels.three ha0 (.int _ _) ha2)).mono fun e' W' ⟨he, bel⟩ => ?_
  subst he
  exact ⟨_, rfl, _, _, _, [], _, [], hW', trodAll_mk1 (shut_bool Try.underlying4 _), (trodAll_cons_mk (Below.trod laidOut (by kernel_rfl) (of_decide_eq_true (by kernel_rfl)) h0 bel lt0) (trodAll_cons_mk (shut_int Try.underlying3 wa1) (trodAll_cons_mk (Below.trod laidOut (by kernel_rfl) (of_decide_eq_true (by kernel_rfl)) h2 bel lt2) trodAll_mk0))), rfl, bel.frame _, fun h => by cases h⟩
theorem over : Rows.vacuumSpotsRow.holds Try.pinned (OpenSpec.ofChange Rows.vacuumSpotsSpec) :=
  OpenClaim.holds_of_wide 5 Try.f5 rfl rfl rfl rfl rfl rfl rfl ⟨rfl, rfl, rfl, rfl, rfl⟩ rfl rfl rfl rfl rfl (by kernel_rfl) Try.func5 (by kernel_rfl)
    (of_decide_eq_true (by kernel_rfl)) (by unfold Func.isWrapper; first | (rw [if_pos (by decide +kernel)]; kernel_rfl) | (rw [if_neg (by decide +kernel)]; exact ⟨rfl, rfl⟩))
    (fun os started H enc _ => lifted os started H enc)
theorem proved : Rows.VacuumSpotsSaid := over
#print axioms proved
end Go.Proofs.Ytmgkjbphlbpbfaa.vacuumSpotsLaw
namespace Go.Proofs.Ytmgkjbphlbpbfaa
/-- The row, under a short name, for the claim. -/
theorem vacuumSpots_holds : Rows.VacuumSpotsSaid := vacuumSpotsLaw.proved
end Go.Proofs.Ytmgkjbphlbpbfaa
