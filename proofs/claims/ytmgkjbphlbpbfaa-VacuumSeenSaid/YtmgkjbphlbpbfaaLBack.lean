/- The law VacuumBack of gazetteerlaw18 returns true at every input, and the input reads as it did. Conditions: none beyond the row's own. -/
import Derived.Test.YtmgkjbphlbpbfaaRows
import Derived.Test.YtmgkjbphlbpbfaaVFacts
import Derived.Test.YtmgkjbphlbpbfaaVLaw
import Derived.WalkKit
import Derived.ProofKit
import Derived.OpenShut
import Derived.ShutString
import Derived.ChangeOld
import Derived.Below
import Derived.SizedLaws
import Derived.Lib.SmallJoins
namespace Go.Proofs.Ytmgkjbphlbpbfaa.vacuumBackLaw
open Go.ChangeShapes Go.WideShapes Go.ChangeAt Go.RowKit Go.Joins Go.Proofs.Ytmgkjbphlbpbfaa.AM
set_option linter.unusedVariables false
theorem own : ownKnob Try.prog.godebug = none := by kernel_rfl
theorem laidOut : laidOutB Try.prog = true := by kernel_rfl
theorem u32_wf {n : Int} (h : (Lit.int .u32 n).wf = true) : 0 ≤ n ∧ n < 4294967296 := by
  have a : IntKind.u32.min = 0 := by decide
  have b : IntKind.u32.max = 4294967295 := by decide
  simp only [Lit.wf, a, b] at h
  simp at h
  omega
theorem spotRel (g : G) (a b : Int) : VRel g (.agg (cSpot ⟨a, b⟩)) (.agg #[.int .i64 a, .int .i64 b]) :=
  .agg _ _ rfl (fun i hi => by match i, hi with
    | 0, _ => exact .int _ _
    | 1, _ => exact .int _ _) (fun i hi => by match i, hi with
    | 0, _ => rfl
    | 1, _ => rfl)
theorem fateR : FateR Try.prog := ⟨r_cmp_isNaN_uint64, r_cmp_Compare_uint64, r_vision_fate_1, r_slices_BinarySearchFunc_Fate_Fate_uint64, r_vision_fate⟩
theorem visR : VisR Try.prog := ⟨fateR, r_vision_look_counts, r_vision_look_sees, r_key_box, r_key_Check, r_heap_Check, r_vision_Check, r_vision_Sees, r_vision_Dead⟩
theorem leftR : LeftR Try.prog := ⟨r_slices_Index_Spot_Spot, r_slices_Contains_Spot_Spot, r_vacuum_Left_1, r_slices_IndexFunc_Stored_Stored, r_slices_DeleteFunc_Stored_Stored, r_slices_Clone_Stored_Stored, r_vacuum_Left⟩
theorem vacR : VacR Try.prog := ⟨visR, r_vacuum_dead_1, r_vacuum_dead, r_vacuum_Dead⟩
theorem wakeR : WakeR Try.prog := ⟨vacR, leftR, r_gazetteerlaw18_first, r_vacuum_Entry, r_gazetteerlaw18_wakes⟩
theorem backR : BackR Try.prog := ⟨wakeR, r_vacuum_Spot, r_gazetteerlaw18_VacuumBack⟩
set_option maxRecDepth 100000 in
theorem lifted (os : Os) (started : os.Started) (H : Type) (enc : TypeId × Value → H) :
    ReturnsInHanded {} Try.checked os 4 .any (Rows.vacuumBackSpec.pre6 enc Try.prog Try.f4 Rows.vacuumBackRow.domain false) (Rows.vacuumBackSpec.post enc Try.prog Try.f4 false true false false) := by
  refine returnsInHanded_of_change_sized (C := Try.checked) own started (by kernel_rfl) Try.func4
    (ChangeSpec.witness6 (enc := enc) (C := Try.checked) false ⟨#[], #[.agg #[.int .i64 0, .int .i64 0], .int .u32 0], []⟩ 8 (by kernel_rfl) (by kernel_rfl) (by kernel_rfl) (by kernel_rfl)) ?_
  intro W base args ds gs before hval0 hW hcnd hsz0 _
  have hval : ∀ (j : Nat) t v, Try.f4.params[j]? = some t → args[j]? = some v → Value.okWide Try.prog W .any base t v := hval0
  have hW' := hW
  obtain ⟨p, q, hA0, hV, rfl, hfz, hnd⟩ := hW
  have hA : DataW.TrodAll enc Try.prog W 0 (fun _ => true) true Try.f4.params.toList args.toList ds p := hA0
  rw [Try.params4] at hA hval
  obtain ⟨v0, vs0, d0, ds0, p0, q0, hargs, rfl, rfl, h0, r0⟩ := trodAll_cons hA
  obtain ⟨v1, vs1, d1, ds1, p1, q1, rfl, rfl, rfl, h1, r1⟩ := trodAll_cons r0
  obtain ⟨rfl, rfl, rfl⟩ := trodAll_nil r1
  obtain rfl : args = #[v0, v1] := by cases args; simp_all
  obtain ⟨rfl, rfl⟩ := trodVars_none hV
  have k0 := h0
  have lt0 : ∀ x ∈ p0, x.block < W.heap.size := by obtain ⟨m, hm⟩ := k0; exact DataW.trod_lt m _ _ _ hm
  obtain ⟨c0, c1, y0, y1, m, rfl, rfl, rfl, hy0, hy1⟩ := open_agg2 Try.underlying41 (by kernel_rfl) (by kernel_rfl) (hval 0 41 v0 rfl rfl) h0
  obtain ⟨a, e0, rfl, wa⟩ := DataW.trod_int Try.underlying3 hy0
  obtain ⟨b, e1, rfl, wb⟩ := DataW.trod_int Try.underlying3 hy1
  simp at e0 e1
  subst e0 e1
  obtain ⟨n, rfl, rfl, rfl, wn⟩ := open_int Try.underlying42 (hval 1 42 v1 rfl rfl) h1
  have hb : 0 ≤ n ∧ n < 4294967296 := u32_wf wn
  obtain ⟨j, rfl⟩ : ∃ j : Nat, n = j := ⟨n.toNat, by omega⟩
  have hj : j < 2 ^ 32 := by omega
  clear hA0 hval0 hsz0
  refine (law_calls (vacuumBack backR ⟨a, b⟩ j hj) (VRels.two (spotRel _ a b) (.int _ _))).mono fun e W' ⟨he, bel⟩ => ?_
  subst he
  exact ⟨_, rfl, _, _, _, [], _, [], hW', trodAll_mk1 (shut_bool Try.underlying4 _), (trodAll_cons_mk (Below.trod laidOut (by kernel_rfl) (of_decide_eq_true (by kernel_rfl)) k0 bel lt0) (trodAll_cons_mk (shut_int Try.underlying42 wn) trodAll_mk0)), rfl, bel.frame _, fun h => by cases h⟩
theorem over : Rows.vacuumBackRow.holds Try.pinned (OpenSpec.ofChange Rows.vacuumBackSpec) :=
  OpenClaim.holds_of_wide 4 Try.f4 rfl rfl rfl rfl rfl rfl rfl ⟨rfl, rfl, rfl, rfl, rfl⟩ rfl rfl rfl rfl rfl (by kernel_rfl) Try.func4 (by kernel_rfl)
    (of_decide_eq_true (by kernel_rfl)) (by unfold Func.isWrapper; first | (rw [if_pos (by decide +kernel)]; kernel_rfl) | (rw [if_neg (by decide +kernel)]; exact ⟨rfl, rfl⟩))
    (fun os started H enc _ => lifted os started H enc)
theorem proved : Rows.VacuumBackSaid := over
#print axioms proved
end Go.Proofs.Ytmgkjbphlbpbfaa.vacuumBackLaw
namespace Go.Proofs.Ytmgkjbphlbpbfaa
/-- The row, under a short name, for the claim. -/
theorem vacuumBack_holds : Rows.VacuumBackSaid := vacuumBackLaw.proved
end Go.Proofs.Ytmgkjbphlbpbfaa
