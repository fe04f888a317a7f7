/- The arguments of the statements of layer 18 that are about trees. -/
import Derived.Test.YtmjnpfackanhlaaRows
import Derived.WalkKit
import Derived.ProofKit
import Derived.OpenShut
import Derived.ShutString
import Derived.ChangeOld
import Derived.Below
import Derived.SizedLaws
import Derived.Lib.SmallJoins
import Derived.Test.YtmjnpfackanhlaaTRec
import Derived.Test.YtmjnpfackanhlaaRowArg
namespace Go.Proofs.Ytmjnpfackanhlaa.treeLaw
open Go.ChangeShapes Go.WideShapes Go.ChangeAt Go.RowKit Go.Joins Go.Proofs.Ytmjnpfackanhlaa.AM
set_option linter.unusedVariables false
theorem own : ownKnob Try.prog.godebug = none := by kernel_rfl
theorem laidOut : laidOutB Try.prog = true := by kernel_rfl
theorem u32_wf {n : Int} (h : (Lit.int .u32 n).wf = true) : 0 ≤ n ∧ n < 4294967296 := by
 have a : IntKind.u32.min = 0 := by decide
 have b : IntKind.u32.max = 4294967295 := by decide
 simp only [Lit.wf, a, b] at h
 simp at h
 omega
theorem nat_of_u64 {n : Int} (h : (Lit.int .u64 n).wf = true) : ∃ j : Nat, n = j ∧ j < 2 ^ 64 := by
 have a : IntKind.u64.min = 0 := by decide
 have b : IntKind.u64.max = 18446744073709551615 := by decide
 simp only [Lit.wf, a, b] at h
 simp at h
 exact ⟨n.toNat, by omega, by omega⟩
theorem fate_row : ∀ cs, okCs [.int .u64, .int .u64] cs → ∃ x : FateT, cs.map toV = cFate x ∧ True := by
 intro cs h
 obtain ⟨_, _, rfl, ⟨a0, rfl, w0⟩, h1⟩ := okCs_cons h
 obtain ⟨_, _, rfl, ⟨a1, rfl, w1⟩, h2⟩ := okCs_cons h1
 obtain rfl := okCs_nil h2
 obtain ⟨a0, rfl, _⟩ := nat_of_u64 w0
 obtain ⟨a1, rfl, _⟩ := nat_of_u64 w1
 exact ⟨⟨a0, a1⟩, rfl, trivial⟩
theorem stored_row : ∀ cs, okCs [.int .i64, .int .i64, .int .u32, .int .u64, .int .u64, .int .i64, .int .i64, .int .i64, .int .i64, .int .i64] cs → ∃ x : StoredT, cs.map toV = cStored x ∧ True := by
 intro cs h
 obtain ⟨_, _, rfl, ⟨a0, rfl, _⟩, h1⟩ := okCs_cons h
 obtain ⟨_, _, rfl, ⟨a1, rfl, _⟩, h2⟩ := okCs_cons h1
 obtain ⟨_, _, rfl, ⟨a2, rfl, w2⟩, h3⟩ := okCs_cons h2
 obtain ⟨_, _, rfl, ⟨a3, rfl, w3⟩, h4⟩ := okCs_cons h3
 obtain ⟨_, _, rfl, ⟨a4, rfl, w4⟩, h5⟩ := okCs_cons h4
 obtain ⟨_, _, rfl, ⟨a5, rfl, _⟩, h6⟩ := okCs_cons h5
 obtain ⟨_, _, rfl, ⟨a6, rfl, _⟩, h7⟩ := okCs_cons h6
 obtain ⟨_, _, rfl, ⟨a7, rfl, _⟩, h8⟩ := okCs_cons h7
 obtain ⟨_, _, rfl, ⟨a8, rfl, _⟩, h9⟩ := okCs_cons h8
 obtain ⟨_, _, rfl, ⟨a9, rfl, _⟩, h10⟩ := okCs_cons h9
 obtain rfl := okCs_nil h10
 obtain ⟨a3, rfl, _⟩ := nat_of_u64 w3
 obtain ⟨a4, rfl, _⟩ := nat_of_u64 w4
 obtain ⟨a2, rfl⟩ : ∃ j : Nat, a2 = j := ⟨a2.toNat, by have := u32_wf w2; omega⟩
 exact ⟨⟨⟨a0, a1⟩, ⟨a2, a3, a4, ⟨a5, a6, a7, a8⟩, a9⟩⟩, rfl, trivial⟩
theorem key_row : ∀ cs, okCs [.int .i64, .int .i64, .int .i64, .int .i64] cs → ∃ x : KeyT, cs.map toV = cKey x ∧ True := by
 intro cs h
 obtain ⟨_, _, rfl, ⟨a0, rfl, _⟩, h1⟩ := okCs_cons h
 obtain ⟨_, _, rfl, ⟨a1, rfl, _⟩, h2⟩ := okCs_cons h1
 obtain ⟨_, _, rfl, ⟨a2, rfl, _⟩, h3⟩ := okCs_cons h2
 obtain ⟨_, _, rfl, ⟨a3, rfl, _⟩, h4⟩ := okCs_cons h3
 obtain rfl := okCs_nil h4
 exact ⟨⟨a0, a1, a2, a3⟩, rfl, trivial⟩
theorem int_row : ∀ cs, okCs [.int .i64] cs → ∃ x : Int, cs.map toV = [V.int .i64 x] ∧ True := by
 intro cs h
 obtain ⟨_, _, rfl, ⟨a0, rfl, _⟩, h1⟩ := okCs_cons h
 obtain rfl := okCs_nil h1
 exact ⟨a0, rfl, trivial⟩
theorem link_row : ∀ cs, okCs [.int .i64, .int .i64, .int .i64, .int .i64, .int .u32] cs → ∃ x : LinkT, cs.map toV = cLink x ∧ (0 ≤ x.child ∧ x.child < 4294967296) := by
 intro cs h
 obtain ⟨_, _, rfl, ⟨a0, rfl, _⟩, h1⟩ := okCs_cons h
 obtain ⟨_, _, rfl, ⟨a1, rfl, _⟩, h2⟩ := okCs_cons h1
 obtain ⟨_, _, rfl, ⟨a2, rfl, _⟩, h3⟩ := okCs_cons h2
 obtain ⟨_, _, rfl, ⟨a3, rfl, _⟩, h4⟩ := okCs_cons h3
 obtain ⟨_, _, rfl, ⟨a4, rfl, w4⟩, h5⟩ := okCs_cons h4
 obtain rfl := okCs_nil h5
 exact ⟨⟨⟨a0, a1, a2, a3⟩, a4⟩, rfl, u32_wf w4⟩
theorem sl_len {g : G} {k : SK} {sz : Nat} {rows : List (List V)} {a : Option Addr} {len cap : Nat} (h : VRel g (.sl k sz rows []) (.slice a len cap)) : rows.length = len := by
 cases h <;> simp_all
section
variable {H : Type} {enc : TypeId × Value → H} {W : World} {b0 : Nat} {r : Reach}
theorem u64Cell {fuel : Nat} {c : Value} {y : DataW H × List MemPlace} {t : TypeId} (ht : Try.prog.underlying t = some (.int .u64)) (hy : DataW.trod enc Try.prog W 0 (fun _ => true) true fuel t [c] = some y) : ∃ a : Nat, c = .int .u64 a ∧ a < 2 ^ 64 := by
 obtain ⟨a, e, _, wa⟩ := DataW.trod_int ht hy
 obtain ⟨j, rfl, hj⟩ := nat_of_u64 wa
 exact ⟨j, by simpa using e, hj⟩
theorem u32Cell {fuel : Nat} {c : Value} {y : DataW H × List MemPlace} {t : TypeId} (ht : Try.prog.underlying t = some (.int .u32)) (hy : DataW.trod enc Try.prog W 0 (fun _ => true) true fuel t [c] = some y) : ∃ a : Int, c = .int .u32 a ∧ 0 ≤ a ∧ a < 4294967296 := by
 obtain ⟨a, e, _, wa⟩ := DataW.trod_int ht hy
 exact ⟨a, by simpa using e, u32_wf wa⟩
theorem boolCell {fuel : Nat} {c : Value} {y : DataW H × List MemPlace} (hy : DataW.trod enc Try.prog W 0 (fun _ => true) true fuel 4 [c] = some y) : ∃ b : Bool, c = .bool b := by
 have h := kinds_ok 1 _ 4 _ _ [.bool] (by kernel_rfl) hy
 obtain ⟨_, _, e, ⟨b, rfl⟩, _⟩ := okCs_cons h
 obtain ⟨rfl, _⟩ := List.cons.inj e
 exact ⟨b, rfl⟩
theorem five {cs : List Value} (h : cs.length = 5) : ∃ c0 c1 c2 c3 c4, cs = [c0, c1, c2, c3, c4] := by
 match cs, h with
 | [c0, c1, c2, c3, c4], _ => exact ⟨c0, c1, c2, c3, c4, rfl⟩
theorem six {cs : List Value} (h : cs.length = 6) : ∃ c0 c1 c2 c3 c4 c5, cs = [c0, c1, c2, c3, c4, c5] := by
 match cs, h with
 | [c0, c1, c2, c3, c4, c5], _ => exact ⟨c0, c1, c2, c3, c4, c5, rfl⟩
def nodeQ (x : NodeT) : Prop := (0 ≤ x.id ∧ x.id < 4294967296 ∧ 0 ≤ x.mark) ∧ ∀ e ∈ x.es, 0 ≤ e.child ∧ e.child < 4294967296
set_option maxRecDepth 100000 in
theorem nodeCells {n : Nat} {cs : List Value} {y : DataW H × List MemPlace} (hl : cs.length = 5) (hy : DataW.trod enc Try.prog W 0 (fun _ => true) true n 82 cs = some y) :
  ∃ x : NodeT, nodeQ x ∧ ∀ j, j < 5 → VRel (G.all W) ((cNode x).getD j .junk) (cs.getD j undef) ∧ (cs.getD j undef).oneCell' = true := by
 obtain ⟨c0, c1, c2, c3, c4, rfl⟩ := five hl
 obtain ⟨xs, m, _, _, _, hlen, hd⟩ := DataW.trod_struct Try.underlying82 hy
 have k32 : Try.prog.cellsOf 32 = 1 := by kernel_rfl
 have k33 : Try.prog.cellsOf 33 = 1 := by kernel_rfl
 have k4 : Try.prog.cellsOf 4 = 1 := by kernel_rfl
 have k80 : Try.prog.cellsOf 80 = 1 := by kernel_rfl
 match xs, hlen with
 | [y0, y1, y2, y3, y4], _ =>
  have h0 := hd 0 _ rfl
  have h1 := hd 1 _ rfl
  have h2 := hd 2 _ rfl
  have h3 := hd 3 _ rfl
  have h4 := hd 4 _ rfl
  simp [k32, k33, k4, k80] at h0 h1 h2 h3 h4
  obtain ⟨a0, rfl, w0⟩ := u32Cell Try.underlying32 h0
  obtain ⟨a1, rfl⟩ := boolCell h1
  obtain ⟨rows, r2, q2⟩ := slice_rel0 (d := 4) (ks := [.int .i64, .int .i64, .int .i64, .int .i64, .int .u32]) Try.underlying80 (by kernel_rfl) (by kernel_rfl) (by decide) h2
  obtain ⟨es, rfl, w2⟩ := rows_map link_row q2
  obtain ⟨a3, rfl, w3⟩ := u64Cell Try.underlying33 h3
  obtain ⟨a4, rfl, w4⟩ := u32Cell Try.underlying32 h4
  refine ⟨⟨a0, a1, es, a3, a4⟩, ⟨⟨w0.1, w0.2, by simp⟩, w2⟩, fun j hj => ?_⟩
  match j, hj with
  | 0, _ => exact ⟨.int _ _, rfl⟩
  | 1, _ => exact ⟨.bool _, rfl⟩
  | 2, _ => exact ⟨r2, slice_one r2⟩
  | 3, _ => exact ⟨.int _ _, rfl⟩
  | 4, _ => exact ⟨.int _ _, rfl⟩
set_option maxRecDepth 100000 in
theorem madeArg {v : Value} {d : DataW H} {p : List MemPlace} (hv : Value.okWide Try.prog W r b0 52 v) (h : DataW.Trod enc Try.prog W 0 (fun _ => true) true 52 v d p) : ∃ m : MadeT, VRel (G.all W) (.agg (cMade m)) v ∧ TyT m.tree ∧ m.take.length < 2 ^ 63 := by
  obtain ⟨cs, rfl, hsz⟩ := okWide_struct Try.underlying52 hv
  have hC : Try.prog.cellsOf 52 = 6 := by kernel_rfl
  obtain ⟨cs⟩ := cs
  obtain ⟨c0, c1, c2, c3, c4, c5, rfl⟩ := six (hsz.trans hC)
  obtain ⟨fuel, hf⟩ := h
  obtain ⟨xs, m, _, _, hl, hlen, hd⟩ := DataW.trod_struct Try.underlying52 hf
  have k49 : Try.prog.cellsOf 49 = 1 := by kernel_rfl
  have k50 : Try.prog.cellsOf 50 = 1 := by kernel_rfl
  have k4 : Try.prog.cellsOf 4 = 1 := by kernel_rfl
  have k35 : Try.prog.cellsOf 35 = 3 := by kernel_rfl
  have k31 : Try.prog.cellsOf 31 = 1 := by kernel_rfl
  have k32 : Try.prog.cellsOf 32 = 1 := by kernel_rfl
  have k33 : Try.prog.cellsOf 33 = 1 := by kernel_rfl
  match xs, hlen with
  | [y0, y1, y2, y3], _ =>
    have h0 := hd 0 _ rfl
    have h1 := hd 1 _ rfl
    have h2 := hd 2 _ rfl
    have h3 := hd 3 _ rfl
    simp [Value.cells, k49, k50, k4, k35] at h0 h1 h2 h3
    obtain ⟨rows, r0, q0⟩ := slice_rel0 (d := 3) (ks := [.int .i64, .int .i64, .int .i64, .int .i64]) Try.underlying49 (by kernel_rfl) (by kernel_rfl) (by decide) h0
    obtain ⟨keys, rfl, _⟩ := rows_map key_row q0
    obtain ⟨rows, r1, q1⟩ := slice_rel0 (d := 2) (ks := [.int .i64]) Try.underlying50 (by kernel_rfl) (by kernel_rfl) (by decide) h1
    obtain ⟨take, rfl, _⟩ := rows_map int_row q1
    have hlt : take.length < 2 ^ 63 := by
      rcases DataW.trod_slice Try.underlying50 h1 with ⟨e, _⟩ | ⟨a, len, cap, elems, rest, n, _, e, _, _, hlc, hm, _⟩
      · simp only [List.cons.injEq, and_true] at e; subst e
        have := sl_len r1
        simp at this
        simp [this]
      · simp only [List.cons.injEq, and_true] at e; subst e
        have := sl_len r1
        simp at this
        have : maxLen = 2 ^ 63 - 1 := rfl
        omega
    obtain ⟨raw, rfl⟩ := boolCell h2
    obtain ⟨zs, m2, _, _, _, hlen2, hd2⟩ := DataW.trod_struct Try.underlying35 h3
    match zs, hlen2 with
    | [z0, z1, z2], _ =>
      have g0 := hd2 0 _ rfl
      have g1 := hd2 1 _ rfl
      have g2 := hd2 2 _ rfl
      simp [k31, k32, k33] at g0 g1 g2
      obtain ⟨ns, r3, q3⟩ := slice_relK (en := cNode) (Q := nodeQ) Try.underlying31 (by kernel_rfl) (by decide) (fun _ => rfl) (fun n cs y hl hy => nodeCells hl hy) g0
      obtain ⟨root, rfl, _⟩ := u32Cell Try.underlying32 g1
      obtain ⟨cnt, rfl, wc⟩ := u64Cell Try.underlying33 g2
      refine ⟨⟨keys, take, raw, ⟨ns, root, cnt⟩⟩, .agg _ _ rfl (fun i hi => by match i, hi with
        | 0, _ => exact r0
        | 1, _ => exact r1
        | 2, _ => exact .bool _
        | 3, _ => exact r3
        | 4, _ => exact .int _ _
        | 5, _ => exact .int _ _) (fun i hi => by match i, hi with
        | 0, _ => exact slice_one r0
        | 1, _ => exact slice_one r1
        | 2, _ => rfl
        | 3, _ => exact slice_one r3
        | 4, _ => rfl
        | 5, _ => rfl), ⟨by dsimp only; omega, fun x hx => (q3 x hx).1, fun x hx => (q3 x hx).2⟩, hlt⟩
theorem agg2Rel {g : G} {v0 v1 : V} {c0 c1 : Value} (h0 : VRel g v0 c0) (h1 : VRel g v1 c1) (o0 : c0.oneCell' = true) (o1 : c1.oneCell' = true) : VRel g (.agg [v0, v1]) (.agg #[c0, c1]) :=
  .agg _ _ rfl (fun i hi => by match i, hi with
    | 0, _ => exact h0
    | 1, _ => exact h1) (fun i hi => by match i, hi with
    | 0, _ => exact o0
    | 1, _ => exact o1)
set_option maxRecDepth 100000 in
theorem fatesArg {v : Value} {d : DataW H} {p : List MemPlace} (hv : Value.okWide Try.prog W r b0 47 v) (h : DataW.Trod enc Try.prog W 0 (fun _ => true) true 47 v d p) : ∃ f : FatesT, VRel (G.all W) (vFates f) v := by
 obtain ⟨c0, c1, y0, y1, m, rfl, rfl, rfl, hy0, hy1⟩ := open_agg2 Try.underlying47 (by kernel_rfl) (by kernel_rfl) hv h
 obtain ⟨a, e0, rfl, wa⟩ := DataW.trod_int Try.underlying33 hy0
 simp at e0; subst e0
 obtain ⟨a, rfl, _⟩ := nat_of_u64 wa
 obtain ⟨rows, h1, h2⟩ := slice_rel0 (d := 3) (ks := [.int .u64, .int .u64]) Try.underlying45 (by kernel_rfl) (by kernel_rfl) (by decide) hy1
 obtain ⟨l, rfl, _⟩ := rows_map fate_row h2
 exact ⟨⟨a, l⟩, agg2Rel (.int _ _) h1 rfl (slice_one h1)⟩
set_option maxRecDepth 100000 in
theorem storedArg {v : Value} {d : DataW H} {p : List MemPlace} (hv : Value.okWide Try.prog W r b0 48 v) (h : DataW.Trod enc Try.prog W 0 (fun _ => true) true 48 v d p) : ∃ l : List StoredT, VRel (G.all W) (.sl .unk 10 (l.map cStored) []) v := by
 obtain ⟨fuel, hf⟩ := h
 obtain ⟨a, len, cap, rfl⟩ := okWide_slice Try.underlying48 hv
 obtain ⟨rows, h1, h2⟩ := slice_rel0 (d := 4) (ks := [.int .i64, .int .i64, .int .u32, .int .u64, .int .u64, .int .i64, .int .i64, .int .i64, .int .i64, .int .i64]) Try.underlying48 (by kernel_rfl) (by kernel_rfl) (by decide) (by simpa [Value.cells] using hf)
 obtain ⟨l, rfl, _⟩ := rows_map stored_row h2
 exact ⟨l, h1⟩
end
end Go.Proofs.Ytmjnpfackanhlaa.treeLaw
