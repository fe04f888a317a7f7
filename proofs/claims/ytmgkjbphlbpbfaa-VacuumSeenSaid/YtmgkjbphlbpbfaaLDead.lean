/- The law VacuumDead of gazetteerlaw18 returns true at every input, and the input reads as it did. Conditions: none beyond the row's own. -/
import Derived.Test.YtmgkjbphlbpbfaaLBack
import Derived.Test.YtmgkjbphlbpbfaaVFacts2
import Derived.Test.YtmgkjbphlbpbfaaVGlue
import Derived.Test.YtmgkjbphlbpbfaaV11
namespace Go.Proofs.Ytmgkjbphlbpbfaa.vacuumDeadLaw
open Go.ChangeShapes Go.WideShapes Go.ChangeAt Go.RowKit Go.Joins Go.Proofs.Ytmgkjbphlbpbfaa.AM Go.Proofs.Ytmgkjbphlbpbfaa.vacuumBackLaw
set_option linter.unusedVariables false

theorem lawR : DeadLawR Try.prog := ⟨wakeR, r_gazetteerlaw18_items, r_gazetteerlaw18_fates, r_gazetteerlaw18_same, r_gazetteerref17_Same, r_gazetteerref17_Right, r_gazetteerref17_All, r_gazetteerref17_Fate, r_gazetteerref17_Dead,
  r_gazetteerref10_Right, r_gazetteerref09_Box, r_gazetteerref18_Dead, r_gazetteerref18_Has, r_gazetteerref18_Left, r_gazetteerlaw18_VacuumDead⟩

theorem spot_of_slice {P : Program} {w : World} {r : Reach} {b : Nat} {t e : TypeId} {v : Value} (ht : P.underlying t = some (.slice e)) (h : Value.okWide P w r b t v) : ∀ a l c, v = .slice (some a) l c → a.spot = none := by
  rintro a l c rfl
  simp only [Value.okWide, ht, Cell.okWide, Cell.ok, World.has] at h
  exact h.2.2.2.1
theorem spot_of_field {P : Program} {w : World} {r : Reach} {b : Nat} {t u e : TypeId} {fs : Array Field} {cs : Array Value} {ts : List TypeId} {i : Nat} {v : Value} (ht : P.underlying t = some (.struct fs)) (hts : P.cellTypes P.depth t = some ts)
    (h : Value.okWide P w r b t (.agg cs)) (hi : cs[i]? = some v) (hu : ts[i % ts.length]? = some u) (he : P.underlying u = some (.slice e)) : ∀ a l c, v = .slice (some a) l c → a.spot = none := by
  rintro a l c rfl
  simp only [Value.okWide, ht] at h
  obtain ⟨cs', hc, _, ts', h1, _, h2⟩ := h
  cases hc
  cases hts.symm.trans h1
  obtain ⟨u', h3, h4⟩ := h2 i _ hi
  cases hu.symm.trans h3
  simp only [Cell.okWide, he, Cell.ok, World.has] at h4
  exact h4.2.2.2.1

theorem nat_of_u64 {n : Int} (h : (Lit.int .u64 n).wf = true) : ∃ j : Nat, n = j ∧ j < 2 ^ 64 := by
  have a : IntKind.u64.min = 0 := by decide
  have b : IntKind.u64.max = 18446744073709551615 := by decide
  simp only [Lit.wf, a, b] at h
  simp at h
  exact ⟨n.toNat, by omega, by omega⟩
theorem fate_row : ∀ cs, okCs [.int .u64, .int .u64] cs → ∃ x : FateT, cs.map toV = cFate x ∧ True := by
  intro cs h
  match cs, h with
  | [c0, c1], ⟨⟨a, h0, w0⟩, ⟨b, h1, w1⟩, _⟩ =>
    obtain ⟨a, rfl, _⟩ := nat_of_u64 w0
    obtain ⟨b, rfl, _⟩ := nat_of_u64 w1
    subst h0 h1
    exact ⟨⟨a, b⟩, rfl, trivial⟩
theorem okCs_cons {k : AK} {ks : List AK} {cs : List Value} (h : okCs (k :: ks) cs) : ∃ c cs', cs = c :: cs' ∧ k.ok c ∧ okCs ks cs' := by
  cases cs with
  | nil => exact h.elim
  | cons c cs => exact ⟨c, cs, rfl, h.1, h.2⟩
theorem okCs_nil {cs : List Value} (h : okCs [] cs) : cs = [] := by
  cases cs with
  | nil => rfl
  | cons c cs => exact h.elim
theorem stored_row : ∀ cs, okCs [.int .i64, .int .i64, .int .u32, .int .u64, .int .u64, .int .i64, .int .i64, .int .i64, .int .i64, .int .i64] cs → ∃ x : StoredT, cs.map toV = cStored x ∧ True := by
  intro cs h
  obtain ⟨_, _, rfl, ⟨a0, rfl, _⟩, h1⟩ := okCs_cons h
  obtain ⟨_, _, rfl, ⟨a1, rfl, _⟩, h2⟩ := okCs_cons h1
  obtain ⟨_, _, rfl, ⟨a2, rfl, w2⟩, h3⟩ := okCs_cons h2
  obtain ⟨_, _, rfl, ⟨a3, rfl, w3⟩, h4⟩ := okCs_cons h3
  obtain ⟨_, _, rfl, ⟨a4, rfl, w4⟩, h5⟩ := okCs_cons h4
  obtain ⟨_, _, rfl, ⟨a5, rfl, _⟩, h6⟩ := okCs_cons h5
  obtain ⟨_, _, rfl, ⟨a6, rfl, _⟩, h7⟩ := okCs_cons h6
  obtain ⟨_, _, rfl, ⟨a7, rfl, _⟩, h8⟩ := okCs_cons h7
  obtain ⟨_, _, rfl, ⟨a8, rfl, _⟩, h9⟩ := okCs_cons h8
  obtain ⟨_, _, rfl, ⟨a9, rfl, _⟩, h10⟩ := okCs_cons h9
  obtain rfl := okCs_nil h10
  obtain ⟨a3, rfl, _⟩ := nat_of_u64 w3
  obtain ⟨a4, rfl, _⟩ := nat_of_u64 w4
  obtain ⟨a2, rfl⟩ : ∃ j : Nat, a2 = j := ⟨a2.toNat, by have := u32_wf w2; omega⟩
  exact ⟨⟨⟨a0, a1⟩, ⟨a2, a3, a4, ⟨a5, a6, a7, a8⟩, a9⟩⟩, rfl, trivial⟩

theorem agg2Rel {g : G} {v0 v1 : V} {c0 c1 : Value} (h0 : VRel g v0 c0) (h1 : VRel g v1 c1) (o0 : c0.oneCell' = true) (o1 : c1.oneCell' = true) : VRel g (.agg [v0, v1]) (.agg #[c0, c1]) :=
  .agg _ _ rfl (fun i hi => by match i, hi with
    | 0, _ => exact h0
    | 1, _ => exact h1) (fun i hi => by match i, hi with
    | 0, _ => exact o0
    | 1, _ => exact o1)
theorem slice_one {g : G} {k : SK} {sz : Nat} {es sp : List (List V)} {v : Value} (h : VRel g (.sl k sz es sp) v) : v.oneCell' = true := by
  cases h <;> rfl

section
variable {H : Type} {enc : TypeId × Value → H} {W : World} {b0 : Nat} {r : Reach}
set_option maxRecDepth 100000 in
theorem fatesArg {v : Value} {d : DataW H} {p : List MemPlace} (hv : Value.okWide Try.prog W r b0 25 v) (h : DataW.Trod enc Try.prog W 0 (fun _ => true) true 25 v d p) : ∃ f : FatesT, VRel (G.all W) (vFates f) v := by
  obtain ⟨c0, c1, y0, y1, m, rfl, rfl, rfl, hy0, hy1⟩ := open_agg2 Try.underlying25 (by kernel_rfl) (by kernel_rfl) hv h
  obtain ⟨a, e0, rfl, wa⟩ := DataW.trod_int Try.underlying22 hy0
  simp at e0; subst e0
  obtain ⟨a, rfl, _⟩ := nat_of_u64 wa
  obtain ⟨rows, h1, h2, _⟩ := slice_rel (d := 3) (ks := [.int .u64, .int .u64]) Try.underlying23 (by kernel_rfl) (by kernel_rfl) (by decide) hy1
    (spot_of_field (i := 1) (u := 23) Try.underlying25 (ts := [22, 23]) (by kernel_rfl) hv rfl rfl Try.underlying23)
  obtain ⟨l, rfl, _⟩ := rows_map fate_row h2
  exact ⟨⟨a, l⟩, agg2Rel (.int _ _) h1 rfl (slice_one h1)⟩
set_option maxRecDepth 100000 in
theorem storedArg {v : Value} {d : DataW H} {p : List MemPlace} (hv : Value.okWide Try.prog W r b0 26 v) (h : DataW.Trod enc Try.prog W 0 (fun _ => true) true 26 v d p) : ∃ l : List StoredT, VRel (G.all W) (.sl .unk 10 (l.map cStored) []) v := by
  obtain ⟨fuel, hf⟩ := h
  obtain ⟨a, len, cap, rfl⟩ := okWide_slice Try.underlying26 hv
  obtain ⟨rows, h1, h2, _⟩ := slice_rel (d := 4) (ks := [.int .i64, .int .i64, .int .u32, .int .u64, .int .u64, .int .i64, .int .i64, .int .i64, .int .i64, .int .i64]) Try.underlying26 (by kernel_rfl) (by kernel_rfl) (by decide) (by simpa [Value.cells] using hf) (spot_of_slice Try.underlying26 hv)
  obtain ⟨l, rfl, _⟩ := rows_map stored_row h2
  exact ⟨l, h1⟩
end

set_option maxRecDepth 100000 in
theorem lifted (os : Os) (started : os.Started) (H : Type) (enc : TypeId × Value → H) :
    ReturnsInHanded {} Try.checked os 3 .any (Rows.vacuumDeadSpec.pre6 enc Try.prog Try.f3 Rows.vacuumDeadRow.domain false) (Rows.vacuumDeadSpec.post enc Try.prog Try.f3 false true false false) := by
  refine returnsInHanded_of_change_sized (C := Try.checked) own started (by kernel_rfl) Try.func3
    (ChangeSpec.witness6 (enc := enc) (C := Try.checked) false ⟨#[], #[.agg #[.int .u64 0, .slice none 0 0], .int .u64 0, .slice none 0 0], []⟩ 8 (by kernel_rfl) (by kernel_rfl) (by kernel_rfl) (by kernel_rfl)) ?_
  intro W base args ds gs before hval0 hW hcnd hsz0 _
  have hval : ∀ (j : Nat) t v, Try.f3.params[j]? = some t → args[j]? = some v → Value.okWide Try.prog W .any base t v := hval0
  have hW' := hW
  obtain ⟨p, q, hA0, hV, rfl, hfz, hnd⟩ := hW
  have hA : DataW.TrodAll enc Try.prog W 0 (fun _ => true) true Try.f3.params.toList args.toList ds p := hA0
  rw [Try.params3] at hA hval
  obtain ⟨v0, vs0, d0, ds0, p0, q0, hargs, rfl, rfl, h0, r0⟩ := trodAll_cons hA
  obtain ⟨v1, vs1, d1, ds1, p1, q1, rfl, rfl, rfl, h1, r1⟩ := trodAll_cons r0
  obtain ⟨v2, vs2, d2, ds2, p2, q2, rfl, rfl, rfl, h2, r2⟩ := trodAll_cons r1
  obtain ⟨rfl, rfl, rfl⟩ := trodAll_nil r2
  obtain rfl : args = #[v0, v1, v2] := by cases args; simp_all
  obtain ⟨rfl, rfl⟩ := trodVars_none hV
  have lt0 : ∀ x ∈ p0, x.block < W.heap.size := by obtain ⟨m, hm⟩ := h0; exact DataW.trod_lt m _ _ _ hm
  have lt2 : ∀ x ∈ p2, x.block < W.heap.size := by obtain ⟨m, hm⟩ := h2; exact DataW.trod_lt m _ _ _ hm
  obtain ⟨f, hf⟩ := fatesArg (hval 0 25 v0 rfl rfl) h0
  obtain ⟨l, hl⟩ := storedArg (hval 2 26 v2 rfl rfl) h2
  obtain ⟨n, rfl, rfl, rfl, wn⟩ := open_int Try.underlying22 (hval 1 22 v1 rfl rfl) h1
  obtain ⟨j, rfl, _⟩ := nat_of_u64 wn
  clear hA0 hval0 hsz0
  refine (law_calls (vacuumDead lawR (fun f hf => Right17 r_gazetteerref17_Right f hf) f j l) (VRels.three hf (.int _ _) hl)).mono fun e W' ⟨he, bel⟩ => ?_
  subst he
  exact ⟨_, rfl, _, _, _, [], _, [], hW', trodAll_mk1 (shut_bool Try.underlying4 _), (trodAll_cons_mk (Below.trod laidOut (by kernel_rfl) (of_decide_eq_true (by kernel_rfl)) h0 bel lt0) (trodAll_cons_mk (shut_int Try.underlying22 wn) (trodAll_cons_mk (Below.trod laidOut (by kernel_rfl) (of_decide_eq_true (by kernel_rfl)) h2 bel lt2) trodAll_mk0))), rfl, bel.frame _, fun h => by cases h⟩
theorem over : Rows.vacuumDeadRow.holds Try.pinned (OpenSpec.ofChange Rows.vacuumDeadSpec) :=
  OpenClaim.holds_of_wide 3 Try.f3 rfl rfl rfl rfl rfl rfl rfl ⟨rfl, rfl, rfl, rfl, rfl⟩ rfl rfl rfl rfl rfl (by kernel_rfl) Try.func3 (by kernel_rfl)
    (of_decide_eq_true (by kernel_rfl)) (by unfold Func.isWrapper; first | (rw [if_pos (by decide +kernel)]; kernel_rfl) | (rw [if_neg (by decide +kernel)]; exact ⟨rfl, rfl⟩))
    (fun os started H enc _ => lifted os started H enc)
theorem proved : Rows.VacuumDeadSaid := over
#print axioms proved
end Go.Proofs.Ytmgkjbphlbpbfaa.vacuumDeadLaw
namespace Go.Proofs.Ytmgkjbphlbpbfaa
/-- The row, under a short name, for the claim. -/
theorem vacuumDead_holds : Rows.VacuumDeadSaid := vacuumDeadLaw.proved
end Go.Proofs.Ytmgkjbphlbpbfaa
