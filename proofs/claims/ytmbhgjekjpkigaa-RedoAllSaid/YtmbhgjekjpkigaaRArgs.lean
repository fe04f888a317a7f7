/- The arguments of the statements of layer 12. -/
import Derived.Test.YtmbhgjekjpkigaaRows
import Derived.WalkKit
import Derived.ProofKit
import Derived.OpenShut
import Derived.ShutString
import Derived.ChangeOld
import Derived.Below
import Derived.SizedLaws
import Derived.Lib.SmallJoins
import Derived.Test.YtmbhgjekjpkigaaRRec
import Derived.Test.YtmbhgjekjpkigaaRowArg
namespace Go.Proofs.Ytmbhgjekjpkigaa.redoLaw
open Go.ChangeShapes Go.WideShapes Go.ChangeAt Go.RowKit Go.Joins Go.Proofs.Ytmbhgjekjpkigaa.AM
set_option linter.unusedVariables false
theorem own : ownKnob Try.prog.godebug = none := by kernel_rfl
theorem laidOut : laidOutB Try.prog = true := by kernel_rfl
theorem nat_of_u64 {n : Int} (h : (Lit.int .u64 n).wf = true) : ∃ j : Nat, n = j ∧ j < 2 ^ 64 := by
  have a : IntKind.u64.min = 0 := by decide
  have b : IntKind.u64.max = 18446744073709551615 := by decide
  simp only [Lit.wf, a, b] at h
  simp at h
  exact ⟨n.toNat, by omega, by omega⟩
theorem u8_row : ∀ cs, okCs [.int .u8] cs → ∃ x : UInt8, cs.map toV = c8 x ∧ True := by
  intro cs h
  obtain ⟨_, _, rfl, ⟨a0, rfl, w0⟩, h1⟩ := okCs_cons h
  obtain rfl := okCs_nil h1
  have a : IntKind.u8.min = 0 := by decide
  have b : IntKind.u8.max = 255 := by decide
  simp only [Lit.wf, a, b] at w0
  simp at w0
  refine ⟨UInt8.ofNat a0.toNat, ?_, trivial⟩
  simp [toV]
  omega
section
variable {H : Type} {enc : TypeId × Value → H} {W : World} {b0 : Nat} {r : Reach}
theorem bytesCell {fuel : Nat} {c : Value} {y : DataW H × List MemPlace} (hy : DataW.trod enc Try.prog W 0 (fun _ => true) true fuel 51 [c] = some y) :
    ∃ l : List UInt8, VRel (G.all W) (vB l) c ∧ c.oneCell' = true := by
  obtain ⟨rows, h1, h2⟩ := slice_rel0 (d := 2) (ks := [.int .u8]) Try.underlying51 (by kernel_rfl) (by kernel_rfl) (by decide) hy
  obtain ⟨l, rfl, _⟩ := rows_map u8_row h2
  exact ⟨l, h1, slice_one h1⟩
theorem u64Cell {fuel : Nat} {c : Value} {y : DataW H × List MemPlace} {t : TypeId} (ht : Try.prog.underlying t = some (.int .u64)) (hy : DataW.trod enc Try.prog W 0 (fun _ => true) true fuel t [c] = some y) : ∃ a : Nat, c = .int .u64 a ∧ a < 2 ^ 64 := by
  obtain ⟨a, e, _, wa⟩ := DataW.trod_int ht hy
  obtain ⟨j, rfl, hj⟩ := nat_of_u64 wa
  exact ⟨j, by simpa using e, hj⟩
theorem i64Cell {fuel : Nat} {c : Value} {y : DataW H × List MemPlace} {t : TypeId} (ht : Try.prog.underlying t = some (.int .i64)) (hy : DataW.trod enc Try.prog W 0 (fun _ => true) true fuel t [c] = some y) : ∃ a : Int, c = .int .i64 a := by
  obtain ⟨a, e, _, wa⟩ := DataW.trod_int ht hy
  exact ⟨a, by simpa using e⟩
theorem nine {cs : List Value} (h : cs.length = 9) : ∃ c0 c1 c2 c3 c4 c5 c6 c7 c8, cs = [c0, c1, c2, c3, c4, c5, c6, c7, c8] := by
  match cs, h with
  | [c0, c1, c2, c3, c4, c5, c6, c7, c8], _ => exact ⟨c0, c1, c2, c3, c4, c5, c6, c7, c8, rfl⟩
set_option maxRecDepth 100000 in
theorem recCells {n : Nat} {cs : List Value} {y : DataW H × List MemPlace} (hl : cs.length = 9) (hy : DataW.trod enc Try.prog W 0 (fun _ => true) true n 53 cs = some y) :
    ∃ x : RecT, recN x ∧ ∀ j, j < 9 → VRel (G.all W) ((cRec x).getD j .junk) (cs.getD j undef) ∧ (cs.getD j undef).oneCell' = true := by
  obtain ⟨c0, c1, c2, c3, c4, c5, c6, c7, c8, rfl⟩ := nine hl
  obtain ⟨xs, m, _, _, _, hlen, hd⟩ := DataW.trod_struct Try.underlying53 hy
  have k24 : Try.prog.cellsOf 24 = 1 := by kernel_rfl
  have k3 : Try.prog.cellsOf 3 = 1 := by kernel_rfl
  have k51 : Try.prog.cellsOf 51 = 1 := by kernel_rfl
  match xs, hlen with
  | [y0, y1, y2, y3, y4, y5, y6, y7, y8], _ =>
    have h0 := hd 0 _ rfl
    have h1 := hd 1 _ rfl
    have h2 := hd 2 _ rfl
    have h3 := hd 3 _ rfl
    have h4 := hd 4 _ rfl
    have h5 := hd 5 _ rfl
    have h6 := hd 6 _ rfl
    have h7 := hd 7 _ rfl
    have h8 := hd 8 _ rfl
    simp [k24, k3, k51] at h0 h1 h2 h3 h4 h5 h6 h7 h8
    obtain ⟨a0, rfl, w0⟩ := u64Cell Try.underlying24 h0
    obtain ⟨a1, rfl⟩ := i64Cell Try.underlying3 h1
    obtain ⟨a2, rfl, w2⟩ := u64Cell Try.underlying24 h2
    obtain ⟨a3, rfl, w3⟩ := u64Cell Try.underlying24 h3
    obtain ⟨a4, rfl⟩ := i64Cell Try.underlying3 h4
    obtain ⟨a5, rfl⟩ := i64Cell Try.underlying3 h5
    obtain ⟨a6, r6, o6⟩ := bytesCell h6
    obtain ⟨a7, r7, o7⟩ := bytesCell h7
    obtain ⟨a8, rfl, w8⟩ := u64Cell Try.underlying24 h8
    refine ⟨⟨a0, a1, a2, a3, a4, a5, a6, a7, a8⟩, ⟨w0, w2, w3, w8⟩, fun j hj => ?_⟩
    match j, hj with
    | 0, _ => exact ⟨.int _ _, rfl⟩
    | 1, _ => exact ⟨.int _ _, rfl⟩
    | 2, _ => exact ⟨.int _ _, rfl⟩
    | 3, _ => exact ⟨.int _ _, rfl⟩
    | 4, _ => exact ⟨.int _ _, rfl⟩
    | 5, _ => exact ⟨.int _ _, rfl⟩
    | 6, _ => exact ⟨r6, o6⟩
    | 7, _ => exact ⟨r7, o7⟩
    | 8, _ => exact ⟨.int _ _, rfl⟩
set_option maxRecDepth 100000 in
theorem recsArg {v : Value} {d : DataW H} {p : List MemPlace} (hv : Value.okWide Try.prog W r b0 23 v) (h : DataW.Trod enc Try.prog W 0 (fun _ => true) true 23 v d p) : ∃ l : List RecT, VRel (G.all W) (.sl .unk 9 (l.map cRec) []) v ∧ ∀ x ∈ l, recN x := by
  obtain ⟨fuel, hf⟩ := h
  obtain ⟨a, len, cap, rfl⟩ := okWide_slice Try.underlying23 hv
  exact slice_relK (en := cRec) (Q := recN) Try.underlying23 (by kernel_rfl) (by decide) (fun _ => rfl) (fun n cs y hl hy => recCells hl hy) (by simpa [Value.cells] using hf)
theorem six {cs : List Value} (h : cs.length = 6) : ∃ c0 c1 c2 c3 c4 c5, cs = [c0, c1, c2, c3, c4, c5] := by
  match cs, h with
  | [c0, c1, c2, c3, c4, c5], _ => exact ⟨c0, c1, c2, c3, c4, c5, rfl⟩
set_option maxRecDepth 100000 in
theorem pageCells {n : Nat} {cs : List Value} {y : DataW H × List MemPlace} (hl : cs.length = 6) (hy : DataW.trod enc Try.prog W 0 (fun _ => true) true n 56 cs = some y) :
    ∃ x : PageT, x.lsn < 2 ^ 64 ∧ ∀ j, j < 6 → VRel (G.all W) ((cPage x).getD j .junk) (cs.getD j undef) ∧ (cs.getD j undef).oneCell' = true := by
  obtain ⟨c0, c1, c2, c3, c4, c5, rfl⟩ := six hl
  obtain ⟨xs, m, _, _, _, hlen, hd⟩ := DataW.trod_struct Try.underlying56 hy
  have k24 : Try.prog.cellsOf 24 = 1 := by kernel_rfl
  have k3 : Try.prog.cellsOf 3 = 1 := by kernel_rfl
  have k54 : Try.prog.cellsOf 54 = 4 := by kernel_rfl
  have k51 : Try.prog.cellsOf 51 = 1 := by kernel_rfl
  match xs, hlen with
  | [y0, y1, y2], _ =>
    have h0 := hd 0 _ rfl
    have h1 := hd 1 _ rfl
    have h2 := hd 2 _ rfl
    simp [k24, k3, k54] at h0 h1 h2
    obtain ⟨a0, rfl⟩ := i64Cell Try.underlying3 h0
    obtain ⟨a1, rfl, w1⟩ := u64Cell Try.underlying24 h1
    obtain ⟨ys, m2, _, _, _, hlen2, hd2⟩ := DataW.trod_array Try.underlying54 h2
    match ys, hlen2 with
    | [z0, z1, z2, z3], _ =>
      have g0 := hd2 0 (by decide)
      have g1 := hd2 1 (by decide)
      have g2 := hd2 2 (by decide)
      have g3 := hd2 3 (by decide)
      simp [k51] at g0 g1 g2 g3
      obtain ⟨b0, r0, o0⟩ := bytesCell g0
      obtain ⟨b1, r1, o1⟩ := bytesCell g1
      obtain ⟨b2, r2, o2⟩ := bytesCell g2
      obtain ⟨b3, r3, o3⟩ := bytesCell g3
      refine ⟨⟨a0, a1, b0, b1, b2, b3⟩, w1, fun j hj => ?_⟩
      match j, hj with
      | 0, _ => exact ⟨.int _ _, rfl⟩
      | 1, _ => exact ⟨.int _ _, rfl⟩
      | 2, _ => exact ⟨r0, o0⟩
      | 3, _ => exact ⟨r1, o1⟩
      | 4, _ => exact ⟨r2, o2⟩
      | 5, _ => exact ⟨r3, o3⟩
set_option maxRecDepth 100000 in
theorem pagesArg {v : Value} {d : DataW H} {p : List MemPlace} (hv : Value.okWide Try.prog W r b0 22 v) (h : DataW.Trod enc Try.prog W 0 (fun _ => true) true 22 v d p) : ∃ l : List PageT, VRel (G.all W) (.sl .unk 6 (l.map cPage) []) v ∧ ∀ x ∈ l, x.lsn < 2 ^ 64 := by
  obtain ⟨fuel, hf⟩ := h
  obtain ⟨a, len, cap, rfl⟩ := okWide_slice Try.underlying22 hv
  exact slice_relK (en := cPage) (Q := fun x => x.lsn < 2 ^ 64) Try.underlying22 (by kernel_rfl) (by decide) (fun _ => rfl) (fun n cs y hl hy => pageCells hl hy) (by simpa [Value.cells] using hf)
end
end Go.Proofs.Ytmbhgjekjpkigaa.redoLaw
