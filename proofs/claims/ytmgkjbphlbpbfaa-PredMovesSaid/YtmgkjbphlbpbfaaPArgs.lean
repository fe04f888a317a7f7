/- The arguments of the statements of layer 15. -/
import Derived.Test.YtmgkjbphlbpbfaaRows
import Derived.WalkKit
import Derived.ProofKit
import Derived.OpenShut
import Derived.ShutString
import Derived.ChangeOld
import Derived.Below
import Derived.SizedLaws
import Derived.Lib.SmallJoins
import Derived.Test.YtmgkjbphlbpbfaaPFacts
import Derived.Test.YtmgkjbphlbpbfaaVGlue
namespace Go.Proofs.Ytmgkjbphlbpbfaa.predLaw
open Go.ChangeShapes Go.WideShapes Go.ChangeAt Go.RowKit Go.Joins Go.Proofs.Ytmgkjbphlbpbfaa.AM
set_option linter.unusedVariables false
theorem own : ownKnob Try.prog.godebug = none := by kernel_rfl
theorem laidOut : laidOutB Try.prog = true := by kernel_rfl
theorem u32_wf {n : Int} (h : (Lit.int .u32 n).wf = true) : 0 ≤ n ∧ n < 4294967296 := by
  have a : IntKind.u32.min = 0 := by decide
  have b : IntKind.u32.max = 4294967295 := by decide
  simp only [Lit.wf, a, b] at h
  simp at h
  omega
theorem nat_of_u64 {n : Int} (h : (Lit.int .u64 n).wf = true) : ∃ j : Nat, n = j ∧ j < 2 ^ 64 := by
  have a : IntKind.u64.min = 0 := by decide
  have b : IntKind.u64.max = 18446744073709551615 := by decide
  simp only [Lit.wf, a, b] at h
  simp at h
  exact ⟨n.toNat, by omega, by omega⟩
theorem nat_of_u32 {n : Int} (h : (Lit.int .u32 n).wf = true) : ∃ j : Nat, n = j := ⟨n.toNat, by have := u32_wf h; omega⟩
theorem spot_of_slice {P : Program} {w : World} {r : Reach} {b : Nat} {t e : TypeId} {v : Value} (ht : P.underlying t = some (.slice e)) (h : Value.okWide P w r b t v) : ∀ a l c, v = .slice (some a) l c → a.spot = none := by
  rintro a l c rfl
  simp only [Value.okWide, ht, Cell.okWide, Cell.ok, World.has] at h
  exact h.2.2.2.1
theorem spot_of_field {P : Program} {w : World} {r : Reach} {b : Nat} {t u e : TypeId} {fs : Array Field} {cs : Array Value} {ts : List TypeId} {i : Nat} {v : Value} (ht : P.underlying t = some (.struct fs)) (hts : P.cellTypes P.depth t = some ts)
    (h : Value.okWide P w r b t (.agg cs)) (hi : cs[i]? = some v) (hu : ts[i % ts.length]? = some u) (he : P.underlying u = some (.slice e)) : ∀ a l c, v = .slice (some a) l c → a.spot = none := by
  rintro a l c rfl
  simp only [Value.okWide, ht] at h
  obtain ⟨cs', hc, _, ts', h1, _, h2⟩ := h
  cases hc
  cases hts.symm.trans h1
  obtain ⟨u', h3, h4⟩ := h2 i _ hi
  cases hu.symm.trans h3
  simp only [Cell.okWide, he, Cell.ok, World.has] at h4
  exact h4.2.2.2.1
theorem okCs_cons {k : AK} {ks : List AK} {cs : List Value} (h : okCs (k :: ks) cs) : ∃ c cs', cs = c :: cs' ∧ k.ok c ∧ okCs ks cs' := by
  cases cs with
  | nil => exact h.elim
  | cons c cs => exact ⟨c, cs, rfl, h.1, h.2⟩
theorem okCs_nil {cs : List Value} (h : okCs [] cs) : cs = [] := by
  cases cs with
  | nil => rfl
  | cons c cs => exact h.elim
theorem key_row : ∀ cs, okCs [.int .i64, .int .i64, .int .i64, .int .i64] cs → ∃ x : KeyT, cs.map toV = cKey x ∧ True := by
  intro cs h
  obtain ⟨_, _, rfl, ⟨a0, rfl, _⟩, h1⟩ := okCs_cons h
  obtain ⟨_, _, rfl, ⟨a1, rfl, _⟩, h2⟩ := okCs_cons h1
  obtain ⟨_, _, rfl, ⟨a2, rfl, _⟩, h3⟩ := okCs_cons h2
  obtain ⟨_, _, rfl, ⟨a3, rfl, _⟩, h4⟩ := okCs_cons h3
  obtain rfl := okCs_nil h4
  exact ⟨⟨a0, a1, a2, a3⟩, rfl, trivial⟩
theorem pred_row : ∀ cs, okCs [.int .u32, .int .u64, .int .i64, .int .i64, .int .i64, .int .i64] cs → ∃ x : PredT, cs.map toV = cPred x ∧ True := by
  intro cs h
  obtain ⟨_, _, rfl, ⟨a0, rfl, w0⟩, h1⟩ := okCs_cons h
  obtain ⟨_, _, rfl, ⟨a1, rfl, w1⟩, h2⟩ := okCs_cons h1
  obtain ⟨⟨a2, a3, a4, a5⟩, hk, _⟩ := key_row _ h2
  obtain ⟨a0, rfl⟩ := nat_of_u32 w0
  obtain ⟨a1, rfl, _⟩ := nat_of_u64 w1
  exact ⟨⟨a0, a1, ⟨a2, a3, a4, a5⟩⟩, by rw [List.map_cons, List.map_cons, hk]; rfl, trivial⟩
theorem at_row : ∀ cs, okCs [.int .u32, .int .u64] cs → ∃ x : Nat × Nat, cs.map toV = [.int .u32 x.1, .int .u64 x.2] ∧ True := by
  intro cs h
  obtain ⟨_, _, rfl, ⟨a0, rfl, w0⟩, h1⟩ := okCs_cons h
  obtain ⟨_, _, rfl, ⟨a1, rfl, w1⟩, h2⟩ := okCs_cons h1
  obtain rfl := okCs_nil h2
  obtain ⟨a0, rfl⟩ := nat_of_u32 w0
  obtain ⟨a1, rfl, _⟩ := nat_of_u64 w1
  exact ⟨⟨a0, a1⟩, rfl, trivial⟩
theorem spl_row : ∀ cs, okCs [.int .u32, .int .u32, .bool] cs → ∃ x : SplT, cs.map toV = cSpl x ∧ True := by
  intro cs h
  obtain ⟨_, _, rfl, ⟨a0, rfl, w0⟩, h1⟩ := okCs_cons h
  obtain ⟨_, _, rfl, ⟨a1, rfl, w1⟩, h2⟩ := okCs_cons h1
  obtain ⟨_, _, rfl, ⟨b, rfl⟩, h3⟩ := okCs_cons h2
  obtain rfl := okCs_nil h3
  obtain ⟨a0, rfl⟩ := nat_of_u32 w0
  obtain ⟨a1, rfl⟩ := nat_of_u32 w1
  exact ⟨⟨a0, a1, b⟩, rfl, trivial⟩
theorem n32_row : ∀ cs, okCs [.int .u32] cs → ∃ x : Nat, cs.map toV = c32 x ∧ True := by
  intro cs h
  obtain ⟨_, _, rfl, ⟨a0, rfl, w0⟩, h1⟩ := okCs_cons h
  obtain rfl := okCs_nil h1
  obtain ⟨a0, rfl⟩ := nat_of_u32 w0
  exact ⟨a0, rfl, trivial⟩
theorem slice_one {g : G} {k : SK} {sz : Nat} {es sp : List (List V)} {v : Value} (h : VRel g (.sl k sz es sp) v) : v.oneCell' = true := by
  cases h <;> rfl
section
variable {H : Type} {enc : TypeId × Value → H} {W : World} {b0 : Nat} {r : Reach}
set_option maxRecDepth 100000 in
theorem flat_rel {t : TypeId} {fs : Array Field} {ks : List AK} {dd : Nat} {v : Value} {d : DataW H} {p : List MemPlace} (ht : Try.prog.underlying t = some (.struct fs)) (hk : kindsOf Try.prog dd t = some ks) (hv : Value.okWide Try.prog W r b0 t v) (h : DataW.Trod enc Try.prog W 0 (fun _ => true) true t v d p) :
    ∃ cs : List Value, okCs ks cs ∧ VRel (G.all W) (.agg (cs.map toV)) v := by
  obtain ⟨cs, rfl, hsz⟩ := okWide_struct ht hv
  obtain ⟨fuel, hf⟩ := h
  have hok := kinds_ok dd fuel t _ _ ks hk hf
  simp only [Value.cells] at hok
  refine ⟨cs.toList, hok, .agg _ _ (by simp) (fun i hi => ?_) (fun i hi => ?_)⟩
  · have := (hok.rel (g := G.all W) i (by simpa using hi)).1
    simpa [Array.getD_eq_getD_getElem?, List.getD] using this
  · have := (hok.rel (g := G.all W) i (by simpa using hi)).2
    simpa [Array.getD_eq_getD_getElem?, List.getD] using this
set_option maxRecDepth 100000 in
theorem keyArg {v : Value} {d : DataW H} {p : List MemPlace} (hv : Value.okWide Try.prog W r b0 44 v) (h : DataW.Trod enc Try.prog W 0 (fun _ => true) true 44 v d p) : ∃ k : KeyT, VRel (G.all W) (.agg (cKey k)) v := by
  obtain ⟨cs, h1, h2⟩ := flat_rel (dd := 2) (ks := [.int .i64, .int .i64, .int .i64, .int .i64]) Try.underlying44 (by kernel_rfl) hv h
  obtain ⟨k, hk, _⟩ := key_row cs h1
  exact ⟨k, hk ▸ h2⟩
set_option maxRecDepth 100000 in
theorem predArg {v : Value} {d : DataW H} {p : List MemPlace} (hv : Value.okWide Try.prog W r b0 84 v) (h : DataW.Trod enc Try.prog W 0 (fun _ => true) true 84 v d p) : ∃ k : PredT, VRel (G.all W) (.agg (cPred k)) v := by
  obtain ⟨cs, h1, h2⟩ := flat_rel (dd := 3) (ks := [.int .u32, .int .u64, .int .i64, .int .i64, .int .i64, .int .i64]) Try.underlying84 (by kernel_rfl) hv h
  obtain ⟨k, hk, _⟩ := pred_row cs h1
  exact ⟨k, hk ▸ h2⟩
set_option maxRecDepth 100000 in
theorem atArg {v : Value} {d : DataW H} {p : List MemPlace} (hv : Value.okWide Try.prog W r b0 74 v) (h : DataW.Trod enc Try.prog W 0 (fun _ => true) true 74 v d p) : ∃ x : Nat × Nat, VRel (G.all W) (.agg [.int .u32 x.1, .int .u64 x.2]) v := by
  obtain ⟨cs, h1, h2⟩ := flat_rel (dd := 2) (ks := [.int .u32, .int .u64]) Try.underlying74 (by kernel_rfl) hv h
  obtain ⟨k, hk, _⟩ := at_row cs h1
  exact ⟨k, hk ▸ h2⟩
set_option maxRecDepth 100000 in
theorem predsArg {v : Value} {d : DataW H} {p : List MemPlace} (hv : Value.okWide Try.prog W r b0 72 v) (h : DataW.Trod enc Try.prog W 0 (fun _ => true) true 72 v d p) : ∃ l : List PredT, VRel (G.all W) (vP l) v := by
  obtain ⟨cs, rfl, hsz⟩ := okWide_struct Try.underlying72 hv
  have hC : Try.prog.cellsOf 72 = 1 := by kernel_rfl
  obtain ⟨c0, rfl⟩ : ∃ c0, cs = #[c0] := by
    obtain ⟨l⟩ := cs
    match l, hsz.trans hC with
    | [c0], _ => exact ⟨c0, rfl⟩
  obtain ⟨fuel, hf⟩ := h
  obtain ⟨xs, m, _, _, hl, hlen, hd⟩ := DataW.trod_struct Try.underlying72 hf
  have h0 := hd 0 _ rfl
  match xs, hlen with
  | [y0], _ =>
    have hC2 : Try.prog.cellsOf 70 = 1 := by kernel_rfl
    simp [Value.cells, hC2] at h0
    obtain ⟨rows, h1, h2, _⟩ := slice_rel (d := 4) (ks := [.int .u32, .int .u64, .int .i64, .int .i64, .int .i64, .int .i64]) Try.underlying70 (by kernel_rfl) (by kernel_rfl) (by decide) h0
      (spot_of_field (i := 0) (u := 70) Try.underlying72 (ts := [70]) (by kernel_rfl) hv rfl rfl Try.underlying70)
    obtain ⟨l, rfl, _⟩ := rows_map pred_row h2
    exact ⟨l, .agg _ _ rfl (fun i hi => by
      obtain rfl : i = 0 := by simpa using hi
      exact h1) (fun i hi => by
      obtain rfl : i = 0 := by simpa using hi
      exact slice_one h1)⟩
set_option maxRecDepth 100000 in
theorem wayArg {v : Value} {d : DataW H} {p : List MemPlace} (hv : Value.okWide Try.prog W r b0 55 v) (h : DataW.Trod enc Try.prog W 0 (fun _ => true) true 55 v d p) : ∃ l : List Nat, VRel (G.all W) (.sl .unk 1 (l.map c32) []) v := by
  obtain ⟨fuel, hf⟩ := h
  obtain ⟨a, len, cap, rfl⟩ := okWide_slice Try.underlying55 hv
  obtain ⟨rows, h1, h2, _⟩ := slice_rel (d := 2) (ks := [.int .u32]) Try.underlying55 (by kernel_rfl) (by kernel_rfl) (by decide) (by simpa [Value.cells] using hf) (spot_of_slice Try.underlying55 hv)
  obtain ⟨l, rfl, _⟩ := rows_map n32_row h2
  exact ⟨l, h1⟩
structure ChgT where
  sp : List SplT
  gone : List Nat
  (old root : Nat)
def vC (c : ChgT) : V := .agg [.sl .unk 3 (c.sp.map cSpl) [], .sl .unk 1 (c.gone.map c32) [], .int .u32 c.old, .int .u32 c.root]
set_option maxRecDepth 100000 in
theorem changeArg {v : Value} {d : DataW H} {p : List MemPlace} (hv : Value.okWide Try.prog W r b0 87 v) (h : DataW.Trod enc Try.prog W 0 (fun _ => true) true 87 v d p) : ∃ c : ChgT, VRel (G.all W) (vC c) v := by
  obtain ⟨c0, c1, c2, c3, y0, y1, y2, y3, m, rfl, rfl, rfl, hy0, hy1, hy2, hy3⟩ := open_agg4 Try.underlying87 (by kernel_rfl) (by kernel_rfl) hv h
  obtain ⟨a, e0, rfl, wa⟩ := DataW.trod_int Try.underlying42 hy2
  obtain ⟨b, e1, rfl, wb⟩ := DataW.trod_int Try.underlying42 hy3
  simp at e0 e1; subst e0 e1
  obtain ⟨a, rfl⟩ := nat_of_u32 wa
  obtain ⟨b, rfl⟩ := nat_of_u32 wb
  obtain ⟨rows, h1, h2, _⟩ := slice_rel (d := 3) (ks := [.int .u32, .int .u32, .bool]) Try.underlying85 (by kernel_rfl) (by kernel_rfl) (by decide) hy0
    (spot_of_field (i := 0) (u := 85) Try.underlying87 (ts := [85, 55, 42, 42]) (by kernel_rfl) hv rfl rfl Try.underlying85)
  obtain ⟨sp, rfl, _⟩ := rows_map spl_row h2
  obtain ⟨rows, h3, h4, _⟩ := slice_rel (d := 2) (ks := [.int .u32]) Try.underlying55 (by kernel_rfl) (by kernel_rfl) (by decide) hy1
    (spot_of_field (i := 1) (u := 55) Try.underlying87 (ts := [85, 55, 42, 42]) (by kernel_rfl) hv rfl rfl Try.underlying55)
  obtain ⟨gone, rfl, _⟩ := rows_map n32_row h4
  exact ⟨⟨sp, gone, a, b⟩, .agg _ _ rfl (fun i hi => by match i, hi with
    | 0, _ => exact h1
    | 1, _ => exact h3
    | 2, _ => exact .int _ _
    | 3, _ => exact .int _ _) (fun i hi => by match i, hi with
    | 0, _ => exact slice_one h1
    | 1, _ => exact slice_one h3
    | 2, _ => rfl
    | 3, _ => rfl)⟩
end
end Go.Proofs.Ytmgkjbphlbpbfaa.predLaw
