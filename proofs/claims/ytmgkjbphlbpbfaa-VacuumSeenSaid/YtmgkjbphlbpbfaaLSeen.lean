/- The law VacuumSeen of gazetteerlaw18 returns true at every input, and the input reads as it did. Conditions: none beyond the row's own. -/
import Derived.Test.YtmgkjbphlbpbfaaLDead
import Derived.Test.YtmgkjbphlbpbfaaVFacts3
import Derived.Test.YtmgkjbphlbpbfaaVS
namespace Go.Proofs.Ytmgkjbphlbpbfaa.vacuumSeenLaw
open Go.ChangeShapes Go.WideShapes Go.ChangeAt Go.RowKit Go.Joins Go.Proofs.Ytmgkjbphlbpbfaa.AM Go.Proofs.Ytmgkjbphlbpbfaa.vacuumBackLaw Go.Proofs.Ytmgkjbphlbpbfaa.vacuumDeadLaw
set_option linter.unusedVariables false
theorem readyR : ReadyR Try.prog := ⟨visR, r_slices_IndexFunc_Stored_Stored, r_slices_ContainsFunc_Stored_Stored, r_vision_ready_1, r_vision_ready⟩
theorem seesR : SeesR Try.prog := ⟨readyR, r_vision_look_seen, r_vision_look_seen_1, r_slices_AppendSeq_Stored_Stored, r_slices_Collect_Stored, r_vision_Seen⟩
theorem lawSR : SeenLawR Try.prog := { wakeR, seesR with items := r_gazetteerlaw18_items, fates18 := r_gazetteerlaw18_fates, equal := r_slices_Equal_Stored_Stored, law := r_gazetteerlaw18_VacuumSeen }
set_option maxRecDepth 100000 in
theorem eyeArg {H : Type} {enc : TypeId × Value → H} {W : World} {b0 : Nat} {r : Reach} {v : Value} {d : DataW H} {p : List MemPlace} (hv : Value.okWide Try.prog W r b0 64 v) (h : DataW.Trod enc Try.prog W 0 (fun _ => true) true 64 v d p) : ∃ e : EyeT, VRel (G.all W) (.agg (cEye e)) v := by
  obtain ⟨c0, c1, c2, y0, y1, y2, m, rfl, rfl, rfl, hy0, hy1, hy2⟩ := open_agg3 Try.underlying64 (by kernel_rfl) (by kernel_rfl) hv h
  obtain ⟨a, e0, rfl, wa⟩ := DataW.trod_int Try.underlying22 hy0
  obtain ⟨b, e1, rfl⟩ := DataW.trod_bool Try.underlying4 hy1
  obtain ⟨c, e2, rfl, wc⟩ := DataW.trod_int Try.underlying22 hy2
  simp at e0 e1 e2; subst e0 e1 e2
  obtain ⟨a, rfl, _⟩ := nat_of_u64 wa
  obtain ⟨c, rfl, _⟩ := nat_of_u64 wc
  exact ⟨⟨a, b, c⟩, .agg _ _ rfl (fun i hi => by match i, hi with
    | 0, _ => exact .int _ _
    | 1, _ => exact .bool _
    | 2, _ => exact .int _ _) (fun i hi => by match i, hi with
    | 0, _ => rfl
    | 1, _ => rfl
    | 2, _ => rfl)⟩
set_option maxRecDepth 100000 in
theorem lifted (os : Os) (started : os.Started) (H : Type) (enc : TypeId × Value → H) :
    ReturnsInHanded {} Try.checked os 6 .any (Rows.vacuumSeenSpec.pre6 enc Try.prog Try.f6 Rows.vacuumSeenRow.domain false) (Rows.vacuumSeenSpec.post enc Try.prog Try.f6 false true false false) := by
  refine returnsInHanded_of_change_sized (C := Try.checked) own started (by kernel_rfl) Try.func6
    (ChangeSpec.witness6 (enc := enc) (C := Try.checked) false ⟨#[], #[.agg #[.int .u64 0, .slice none 0 0], .slice none 0 0, .agg #[.int .u64 0, .bool false, .int .u64 0]], []⟩ 8 (by kernel_rfl) (by kernel_rfl) (by kernel_rfl) (by kernel_rfl)) ?_
  intro W base args ds gs before hval0 hW hcnd hsz0 _
  have hval : ∀ (j : Nat) t v, Try.f6.params[j]? = some t → args[j]? = some v → Value.okWide Try.prog W .any base t v := hval0
  have hW' := hW
  obtain ⟨p, q, hA0, hV, rfl, hfz, hnd⟩ := hW
  have hA : DataW.TrodAll enc Try.prog W 0 (fun _ => true) true Try.f6.params.toList args.toList ds p := hA0
  rw [Try.params6] at hA hval
  obtain ⟨v0, vs0, d0, ds0, p0, q0, hargs, rfl, rfl, h0, r0⟩ := trodAll_cons hA
  obtain ⟨v1, vs1, d1, ds1, p1, q1, rfl, rfl, rfl, h1, r1⟩ := trodAll_cons r0
  obtain ⟨v2, vs2, d2, ds2, p2, q2, rfl, rfl, rfl, h2, r2⟩ := trodAll_cons r1
  obtain ⟨rfl, rfl, rfl⟩ := trodAll_nil r2
  obtain rfl : args = #[v0, v1, v2] := by cases args; simp_all
  obtain ⟨rfl, rfl⟩ := trodVars_none hV
  have lt0 : ∀ x ∈ p0, x.block < W.heap.size := by obtain ⟨m, hm⟩ := h0; exact DataW.trod_lt m _ _ _ hm
  have lt1 : ∀ x ∈ p1, x.block < W.heap.size := by obtain ⟨m, hm⟩ := h1; exact DataW.trod_lt m _ _ _ hm
  have lt2 : ∀ x ∈ p2, x.block < W.heap.size := by obtain ⟨m, hm⟩ := h2; exact DataW.trod_lt m _ _ _ hm
  obtain ⟨f, hf⟩ := fatesArg (hval 0 25 v0 rfl rfl) h0
  obtain ⟨l, hl⟩ := storedArg (hval 1 26 v1 rfl rfl) h1
  obtain ⟨e, he⟩ := eyeArg (hval 2 64 v2 rfl rfl) h2
  clear hA0 hval0 hsz0
  refine (law_calls (vacuumSeen lawSR f l e) (VRels.three hf hl he)).mono fun e' W' ⟨he, bel⟩ => ?_
  subst he
  exact ⟨_, rfl, _, _, _, [], _, [], hW', trodAll_mk1 (shut_bool Try.underlying4 _), (trodAll_cons_mk (Below.trod laidOut (by kernel_rfl) (of_decide_eq_true (by kernel_rfl)) h0 bel lt0) (trodAll_cons_mk (Below.trod laidOut (by kernel_rfl) (of_decide_eq_true (by kernel_rfl)) h1 bel lt1) (trodAll_cons_mk (Below.trod laidOut (by kernel_rfl) (of_decide_eq_true (by kernel_rfl)) h2 bel lt2) trodAll_mk0))), rfl, bel.frame _, fun h => by cases h⟩
theorem over : Rows.vacuumSeenRow.holds Try.pinned (OpenSpec.ofChange Rows.vacuumSeenSpec) :=
  OpenClaim.holds_of_wide 6 Try.f6 rfl rfl rfl rfl rfl rfl rfl ⟨rfl, rfl, rfl, rfl, rfl⟩ rfl rfl rfl rfl rfl (by kernel_rfl) Try.func6 (by kernel_rfl)
    (of_decide_eq_true (by kernel_rfl)) (by unfold Func.isWrapper; first | (rw [if_pos (by decide +kernel)]; kernel_rfl) | (rw [if_neg (by decide +kernel)]; exact ⟨rfl, rfl⟩))
    (fun os started H enc _ => lifted os started H enc)
theorem proved : Rows.VacuumSeenSaid := over
#print axioms proved
end Go.Proofs.Ytmgkjbphlbpbfaa.vacuumSeenLaw
namespace Go.Proofs.Ytmgkjbphlbpbfaa
/-- The row, under a short name, for the claim. -/
theorem vacuumSeen_holds : Rows.VacuumSeenSaid := vacuumSeenLaw.proved
end Go.Proofs.Ytmgkjbphlbpbfaa
