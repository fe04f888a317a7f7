/- The arguments of the statements of layer 13. -/
import Derived.Test.YtmjnpfackanhlaaRows
import Derived.WalkKit
import Derived.ProofKit
import Derived.OpenShut
import Derived.ShutString
import Derived.ChangeOld
import Derived.Below
import Derived.SizedLaws
import Derived.Lib.SmallJoins
import Derived.Test.YtmjnpfackanhlaaTRec
import Derived.Test.YtmjnpfackanhlaaVGlue
namespace Go.Proofs.Ytmjnpfackanhlaa.treeLaw
open Go.ChangeShapes Go.WideShapes Go.ChangeAt Go.RowKit Go.Joins Go.Proofs.Ytmjnpfackanhlaa.AM
set_option linter.unusedVariables false
theorem own : ownKnob Try.prog.godebug = none := by kernel_rfl
theorem laidOut : laidOutB Try.prog = true := by kernel_rfl
theorem u32_wf {n : Int} (h : (Lit.int .u32 n).wf = true) : 0 ≤ n ∧ n < 4294967296 := by
 have a : IntKind.u32.min = 0 := by decide
 have b : IntKind.u32.max = 4294967295 := by decide
 simp only [Lit.wf, a, b] at h
 simp at h
 omega
theorem nat_of_u64 {n : Int} (h : (Lit.int .u64 n).wf = true) : ∃ j : Nat, n = j ∧ j < 2 ^ 64 := by
 have a : IntKind.u64.min = 0 := by decide
 have b : IntKind.u64.max = 18446744073709551615 := by decide
 simp only [Lit.wf, a, b] at h
 simp at h
 exact ⟨n.toNat, by omega, by omega⟩
theorem nat_of_u32 {n : Int} (h : (Lit.int .u32 n).wf = true) : ∃ j : Nat, n = j := ⟨n.toNat, by have := u32_wf h; omega⟩
theorem spot_of_slice {P : Program} {w : World} {r : Reach} {b : Nat} {t e : TypeId} {v : Value} (ht : P.underlying t = some (.slice e)) (h : Value.okWide P w r b t v) : ∀ a l c, v = .slice (some a) l c → a.spot = none := by
 rintro a l c rfl
 simp only [Value.okWide, ht, Cell.okWide, Cell.ok, World.has] at h
 exact h.2.2.2.1
theorem spot_of_field {P : Program} {w : World} {r : Reach} {b : Nat} {t u e : TypeId} {fs : Array Field} {cs : Array Value} {ts : List TypeId} {i : Nat} {v : Value} (ht : P.underlying t = some (.struct fs)) (hts : P.cellTypes P.depth t = some ts)
  (h : Value.okWide P w r b t (.agg cs)) (hi : cs[i]? = some v) (hu : ts[i % ts.length]? = some u) (he : P.underlying u = some (.slice e)) : ∀ a l c, v = .slice (some a) l c → a.spot = none := by
 rintro a l c rfl
 simp only [Value.okWide, ht] at h
 obtain ⟨cs', hc, _, ts', h1, _, h2⟩ := h
 cases hc
 cases hts.symm.trans h1
 obtain ⟨u', h3, h4⟩ := h2 i _ hi
 cases hu.symm.trans h3
 simp only [Cell.okWide, he, Cell.ok, World.has] at h4
 exact h4.2.2.2.1
theorem okCs_cons {k : AK} {ks : List AK} {cs : List Value} (h : okCs (k :: ks) cs) : ∃ c cs', cs = c :: cs' ∧ k.ok c ∧ okCs ks cs' := by
 cases cs with
 | nil => exact h.elim
 | cons c cs => exact ⟨c, cs, rfl, h.1, h.2⟩
theorem okCs_nil {cs : List Value} (h : okCs [] cs) : cs = [] := by
 cases cs with
 | nil => rfl
 | cons c cs => exact h.elim
theorem key_row : ∀ cs, okCs [.int .i64, .int .i64, .int .i64, .int .i64] cs → ∃ x : KeyT, cs.map toV = cKey x ∧ True := by
 intro cs h
 obtain ⟨_, _, rfl, ⟨a0, rfl, _⟩, h1⟩ := okCs_cons h
 obtain ⟨_, _, rfl, ⟨a1, rfl, _⟩, h2⟩ := okCs_cons h1
 obtain ⟨_, _, rfl, ⟨a2, rfl, _⟩, h3⟩ := okCs_cons h2
 obtain ⟨_, _, rfl, ⟨a3, rfl, _⟩, h4⟩ := okCs_cons h3
 obtain rfl := okCs_nil h4
 exact ⟨⟨a0, a1, a2, a3⟩, rfl, trivial⟩
theorem move_row : ∀ cs, okCs [.int .u32, .int .i64, .int .i64, .int .i64, .int .i64, .bool] cs → ∃ x : MoveT, cs.map toV = cMove x ∧ (0 ≤ x.row ∧ x.row < 4294967296) := by
 intro cs h
 obtain ⟨_, _, rfl, ⟨a0, rfl, w0⟩, h1⟩ := okCs_cons h
 obtain ⟨_, _, rfl, ⟨a1, rfl, _⟩, h2⟩ := okCs_cons h1
 obtain ⟨_, _, rfl, ⟨a2, rfl, _⟩, h3⟩ := okCs_cons h2
 obtain ⟨_, _, rfl, ⟨a3, rfl, _⟩, h4⟩ := okCs_cons h3
 obtain ⟨_, _, rfl, ⟨a4, rfl, _⟩, h5⟩ := okCs_cons h4
 obtain ⟨_, _, rfl, ⟨b, rfl⟩, h6⟩ := okCs_cons h5
 obtain rfl := okCs_nil h6
 exact ⟨⟨a0, ⟨a1, a2, a3, a4⟩, b⟩, rfl, u32_wf w0⟩
theorem seen_row : ∀ cs, okCs [.int .u32, .int .u64] cs → ∃ x : SeenT, cs.map toV = cSeen x ∧ True := by
 intro cs h
 obtain ⟨_, _, rfl, ⟨a0, rfl, _⟩, h1⟩ := okCs_cons h
 obtain ⟨_, _, rfl, ⟨a1, rfl, _⟩, h2⟩ := okCs_cons h1
 obtain rfl := okCs_nil h2
 exact ⟨⟨a0, a1⟩, rfl, trivial⟩
theorem n32_row : ∀ cs, okCs [.int .u32] cs → ∃ x : Int, cs.map toV = cI x ∧ 0 ≤ x := by
 intro cs h
 obtain ⟨_, _, rfl, ⟨a0, rfl, w0⟩, h1⟩ := okCs_cons h
 obtain rfl := okCs_nil h1
 exact ⟨a0, rfl, (u32_wf w0).1⟩
theorem slice_one {g : G} {k : SK} {sz : Nat} {es sp : List (List V)} {v : Value} (h : VRel g (.sl k sz es sp) v) : v.oneCell' = true := by
 cases h <;> rfl
section
variable {H : Type} {enc : TypeId × Value → H} {W : World} {b0 : Nat} {r : Reach}
set_option maxRecDepth 100000 in
theorem flat_rel {t : TypeId} {fs : Array Field} {ks : List AK} {dd : Nat} {v : Value} {d : DataW H} {p : List MemPlace} (ht : Try.prog.underlying t = some (.struct fs)) (hk : kindsOf Try.prog dd t = some ks) (hv : Value.okWide Try.prog W r b0 t v) (h : DataW.Trod enc Try.prog W 0 (fun _ => true) true t v d p) :
    ∃ cs : List Value, okCs ks cs ∧ VRel (G.all W) (.agg (cs.map toV)) v := by
  obtain ⟨cs, rfl, hsz⟩ := okWide_struct ht hv
  obtain ⟨fuel, hf⟩ := h
  have hok := kinds_ok dd fuel t _ _ ks hk hf
  simp only [Value.cells] at hok
  refine ⟨cs.toList, hok, .agg _ _ (by simp) (fun i hi => ?_) (fun i hi => ?_)⟩
  · have := (hok.rel (g := G.all W) i (by simpa using hi)).1
    simpa [Array.getD_eq_getD_getElem?, List.getD] using this
  · have := (hok.rel (g := G.all W) i (by simpa using hi)).2
    simpa [Array.getD_eq_getD_getElem?, List.getD] using this
set_option maxRecDepth 100000 in
theorem keyArg {v : Value} {d : DataW H} {p : List MemPlace} (hv : Value.okWide Try.prog W r b0 24 v) (h : DataW.Trod enc Try.prog W 0 (fun _ => true) true 24 v d p) : ∃ k : KeyT, VRel (G.all W) (.agg (cKey k)) v := by
 obtain ⟨cs, h1, h2⟩ := flat_rel (dd := 2) (ks := [.int .i64, .int .i64, .int .i64, .int .i64]) Try.underlying24 (by kernel_rfl) hv h
 obtain ⟨k, hk, _⟩ := key_row cs h1
 exact ⟨k, hk ▸ h2⟩
set_option maxRecDepth 100000 in
theorem movesArg {v : Value} {d : DataW H} {p : List MemPlace} (hv : Value.okWide Try.prog W r b0 22 v) (h : DataW.Trod enc Try.prog W 0 (fun _ => true) true 22 v d p) : ∃ l : List MoveT, VRel (G.all W) (vMs l) v ∧ ∀ m ∈ l, 0 ≤ m.row ∧ m.row < 4294967296 := by
 obtain ⟨fuel, hf⟩ := h
 obtain ⟨a, len, cap, rfl⟩ := okWide_slice Try.underlying22 hv
 obtain ⟨rows, h1, h2, _⟩ := slice_rel (d := 4) (ks := [.int .u32, .int .i64, .int .i64, .int .i64, .int .i64, .bool]) Try.underlying22 (by kernel_rfl) (by kernel_rfl) (by decide) (by simpa [Value.cells] using hf) (spot_of_slice Try.underlying22 hv)
 obtain ⟨l, rfl, hq⟩ := rows_map move_row h2
 exact ⟨l, h1, hq⟩
set_option maxRecDepth 100000 in
theorem numsArg {v : Value} {d : DataW H} {p : List MemPlace} (hv : Value.okWide Try.prog W r b0 26 v) (h : DataW.Trod enc Try.prog W 0 (fun _ => true) true 26 v d p) : ∃ l : List Int, VRel (G.all W) (vIs l) v ∧ ∀ x ∈ l, 0 ≤ x := by
 obtain ⟨fuel, hf⟩ := h
 obtain ⟨a, len, cap, rfl⟩ := okWide_slice Try.underlying26 hv
 obtain ⟨rows, h1, h2, _⟩ := slice_rel (d := 2) (ks := [.int .u32]) Try.underlying26 (by kernel_rfl) (by kernel_rfl) (by decide) (by simpa [Value.cells] using hf) (spot_of_slice Try.underlying26 hv)
 obtain ⟨l, rfl, hq⟩ := rows_map n32_row h2
 exact ⟨l, h1, hq⟩
theorem six {cs : List Value} (h : cs.length = 6) : ∃ c0 c1 c2 c3 c4 c5, cs = [c0, c1, c2, c3, c4, c5] := by
 match cs, h with
 | [c0, c1, c2, c3, c4, c5], _ => exact ⟨c0, c1, c2, c3, c4, c5, rfl⟩
set_option maxRecDepth 100000 in
theorem curArg {v : Value} {d : DataW H} {p : List MemPlace} (hv : Value.okWide Try.prog W r b0 28 v) (h : DataW.Trod enc Try.prog W 0 (fun _ => true) true 28 v d p) : ∃ c : CurT, VRel (G.all W) (.agg (cCur c)) v ∧ ∀ x ∈ c.rows, 0 ≤ x := by
  obtain ⟨cs, rfl, hsz⟩ := okWide_struct Try.underlying28 hv
  have hC : Try.prog.cellsOf 28 = 6 := by kernel_rfl
  obtain ⟨cs⟩ := cs
  obtain ⟨c0, c1, c2, c3, c4, c5, rfl⟩ := six (hsz.trans hC)
  obtain ⟨fuel, hf⟩ := h
  obtain ⟨xs, m, _, _, hl, hlen, hd⟩ := DataW.trod_struct Try.underlying28 hf
  have k24 : Try.prog.cellsOf 24 = 4 := by kernel_rfl
  have k25 : Try.prog.cellsOf 25 = 1 := by kernel_rfl
  have k26 : Try.prog.cellsOf 26 = 1 := by kernel_rfl
  match xs, hlen with
  | [y0, y1, y2], _ =>
    have h0 := hd 0 _ rfl
    have h1 := hd 1 _ rfl
    have h2 := hd 2 _ rfl
    simp [Value.cells, k24, k25, k26] at h0 h1 h2
    have q0 := kinds_ok 2 _ 24 _ _ [.int .i64, .int .i64, .int .i64, .int .i64] (by kernel_rfl) h0
    obtain ⟨_, _, e0, ⟨a0, rfl, _⟩, q1⟩ := okCs_cons q0
    obtain ⟨rfl, rfl⟩ := List.cons.inj e0
    obtain ⟨_, _, e1, ⟨a1, rfl, _⟩, q2⟩ := okCs_cons q1
    obtain ⟨rfl, rfl⟩ := List.cons.inj e1
    obtain ⟨_, _, e2, ⟨a2, rfl, _⟩, q3⟩ := okCs_cons q2
    obtain ⟨rfl, rfl⟩ := List.cons.inj e2
    obtain ⟨_, _, e3, ⟨a3, rfl, _⟩, q4⟩ := okCs_cons q3
    obtain ⟨rfl, rfl⟩ := List.cons.inj e3
    obtain ⟨rows, r1, r2, _⟩ := slice_rel (d := 3) (ks := [.int .u32, .int .u64]) Try.underlying25 (by kernel_rfl) (by kernel_rfl) (by decide) h1
      (spot_of_field (i := 4) (u := 25) Try.underlying28 (ts := [2, 2, 2, 2, 25, 26]) (by kernel_rfl) hv rfl rfl Try.underlying25)
    obtain ⟨opn, rfl, _⟩ := rows_map seen_row r2
    obtain ⟨rows, r3, r4, _⟩ := slice_rel (d := 2) (ks := [.int .u32]) Try.underlying26 (by kernel_rfl) (by kernel_rfl) (by decide) h2
      (spot_of_field (i := 5) (u := 26) Try.underlying28 (ts := [2, 2, 2, 2, 25, 26]) (by kernel_rfl) hv rfl rfl Try.underlying26)
    obtain ⟨rows, rfl, hq⟩ := rows_map n32_row r4
    exact ⟨⟨⟨a0, a1, a2, a3⟩, opn, rows⟩, .agg _ _ rfl (fun i hi => by match i, hi with
      | 0, _ => exact .int _ _
      | 1, _ => exact .int _ _
      | 2, _ => exact .int _ _
      | 3, _ => exact .int _ _
      | 4, _ => exact r1
      | 5, _ => exact r3) (fun i hi => by match i, hi with
      | 0, _ => rfl
      | 1, _ => rfl
      | 2, _ => rfl
      | 3, _ => rfl
      | 4, _ => exact slice_one r1
      | 5, _ => exact slice_one r3), hq⟩
end
end Go.Proofs.Ytmjnpfackanhlaa.treeLaw
