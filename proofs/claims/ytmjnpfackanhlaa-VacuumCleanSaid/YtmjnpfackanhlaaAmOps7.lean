/- The abstract layer: append. -/
import Derived.Test.YtmjnpfackanhlaaAmOps6
namespace Go.Proofs.Ytmjnpfackanhlaa.AM
open Go Go.RowKit
set_option linter.unusedSimpArgs false
set_option linter.unusedVariables false
variable {P : Program} {g : G} {st : St} {w : World}

theorem growBy_le (n : Nat) : ∀ (k c : Nat), 256 ≤ c → c ≤ 2 * n → Builtin.growBy n k c ≤ 2 * n
 | 0, c, _, h => h
 | k + 1, c, h1, h2 => by
  unfold Builtin.growBy
  split
  ·exact h2
  ·exact growBy_le n k _ (by omega) (by omega)

theorem nextslicecap_le {n c : Nat} (h : c < n) : Builtin.nextslicecap n c ≤ 2 * n := by
 unfold Builtin.nextslicecap
 split
 ·omega
 ·split
  ·omega
  ·exact growBy_le n 4 c (by omega) (by omega)

theorem Reads.drew (h : Reads P g st w) (k : Nat) : Reads P g st { w with drawn := k } :=
 ⟨h.imm, fun id ver o L ho hL => (h.obj id ver o L ho hL).mono (.refl g) (fun _ _ => rfl)⟩

theorem size_zero (z : Array Value) (n : Nat) : (Builtin.zeroCells z n).size = n * z.size := by simp [Builtin.zeroCells]

theorem append_grow (hs : Reads P g st w) {sT xT ty e sz bytes : Nat} {i : TypeInfo} (hu : P.underlying sT = some (.slice e)) (hx : (∃ e', P.underlying xT = some (.slice e')) ∨ P.underlying xT = some .string) (hi : P.info? e = some i) (hisz : i.size = sz) (hib : i.bytes = bytes) (hb0 : bytes ≠ 0)
    {z : List V} (hz : zeroT P e = some z) (hzl : z.length = sz) (h0 : 0 < sz) {base : Option Addr} {sLen sCap : Nat} {y : Value} {os ys : List (List V)} {ovs nvs : Array Value}
    (hold : (Builtin.firstCells sz sLen (.slice base sLen sCap)).run P w.drew = .ok ovs w.drew) (hovs : ovs.size = sLen * sz ∧ RowRel g sz os ovs 0 ∧ os.length = sLen)
    (hlen : (Builtin.lenOf y).run P w = .ok ys.length w) (hnew : (Builtin.firstCells sz ys.length y).run P w.drew = .ok nvs w.drew) (hnvs : nvs.size = ys.length * sz ∧ RowRel g sz ys nvs 0)
    (hneed : ¬ sLen + ys.length ≤ sCap) (hroom : (sLen + ys.length) * bytes ≤ 2 ^ 47) :
    ∃ (c : Nat) (vs : Array Value), (Builtin.append_ #[sT, xT] ty #[.slice base sLen sCap, y]).run P w = .ok (.slice (some ⟨w.heap.size, 0, none⟩) (sLen + ys.length) c) (w.drew.alloc (.cells vs e)) ∧
      sLen + ys.length ≤ c ∧ c * sz ≤ vs.size ∧ RowRel g sz (os ++ ys) vs 0 := by
  obtain ⟨zz, hzr, hzc⟩ := zeroT_ok (P := P) (w := w.drew) (g := g) hz
  obtain ⟨q, hq⟩ : ∃ q, q = w.tape w.drawn (.appendCap (sLen + ys.length) sCap e) := ⟨_, rfl⟩
  obtain ⟨r, hr⟩ : ∃ r, q % (2 ^ 63 - (sLen + ys.length)) = r := ⟨_, rfl⟩
  have hcut : (Question.appendCap (sLen + ys.length) sCap e).cut q = sLen + ys.length + r := by rw [← hr]; rfl
  refine ⟨sLen + ys.length + r, ovs ++ nvs ++ Builtin.zeroCells zz.cells r, ?_, by omega, ?_, ?_⟩
  · have hcap := nextslicecap_le (n := sLen + ys.length) (c := sCap) (by omega)
    have hbig : ¬ Builtin.nextslicecap (sLen + ys.length) sCap * i.bytes > 2 ^ 48 := by
      rw [hib]
      have := Nat.mul_le_mul_right bytes hcap
      rw [Nat.mul_assoc] at this
      omega
    have hsize : (sizeOf e).run P w = .ok sz w := by simp [sizeOf, run_ti hi, hisz]
    have hn1 : ¬ ((sLen + ys.length : Nat) : Int) > IntKind.i64.max ∨ i.bytes ≠ 0 := .inr (by rw [hib]; exact hb0)
    have hz1 : (zeroValue e).run P w.drew = .ok zz w.drew := hzr
    have hforced : (Question.appendCap (sLen + ys.length) sCap e).forced = false := rfl
    have hb1 : ¬ (9223372036854775807 < (sLen : Int) + ys.length ∧ i.bytes = 0) := fun h => by rw [hib] at h; exact hb0 h.2
    have hb2 : ¬ 281474976710656 < Builtin.nextslicecap (sLen + ys.length) sCap * i.bytes := by
      have : (2 : Nat) ^ 48 = 281474976710656 := by decide
      omega
    rcases hx with ⟨e', hd⟩ | hd
    all_goals
      simp [Builtin.append_, run_underlying hu, run_underlying hd, hsize, hlen, hneed, run_ti hi]
      rw [if_neg hb1, if_neg hb2]
      simp only [hforced, Bool.false_eq_true, if_false, hold, Result.andThen_ok, hnew, hz1, newRow, Sem.run_bind, run_newObj, Sem.run_pure, ← hq, hcut, Array.append_assoc, Nat.add_sub_cancel_left]
      rfl
  · have e1 := size_zero zz.cells r
    simp only [Array.size_append, hovs.1, hnvs.1, e1]
    rw [← hzc.1, hzl, Nat.add_mul, Nat.add_mul]; omega
  · generalize Builtin.zeroCells zz.cells _ = rest
    refine ⟨by simp [hovs.1, hnvs.1, hovs.2.2, Nat.add_mul], fun k hk => ?_, fun k j hk hj => ?_⟩
    · simp at hk
      by_cases h : k < os.length
      · have e1 : (os ++ ys).getD k [] = os.getD k [] := by simp [List.getD, List.getElem?_append_left h]
        rw [e1]; exact hovs.2.1.2.1 k h
      · have e1 : (os ++ ys).getD k [] = ys.getD (k - os.length) [] := by simp [List.getD, List.getElem?_append_right (Nat.le_of_not_lt h)]
        rw [e1]; exact hnvs.2.2.1 _ (by omega)
    · simp at hk
      by_cases h : k < os.length
      · have e1 : (os ++ ys).getD k [] = os.getD k [] := by simp [List.getD, List.getElem?_append_left h]
        have hlt : k * sz + j < ovs.size := by rw [hovs.1]; exact idx_lt (by omega) hj
        have e2 : (ovs ++ nvs ++ rest).getD (0 + k * sz + j) undef = ovs.getD (0 + k * sz + j) undef := by
          simp only [Array.getD_eq_getD_getElem?, Nat.zero_add]
          rw [Array.append_assoc, Array.getElem?_append_left hlt]
        rw [e1, e2]; exact hovs.2.1.2.2 k j h hj
      · have e1 : (os ++ ys).getD k [] = ys.getD (k - os.length) [] := by simp [List.getD, List.getElem?_append_right (Nat.le_of_not_lt h)]
        have hk2 : k - os.length < ys.length := by omega
        have hlt : (k - os.length) * sz + j < nvs.size := by rw [hnvs.1]; exact idx_lt hk2 hj
        have e2 : (ovs ++ nvs ++ rest).getD (0 + k * sz + j) undef = nvs.getD (0 + (k - os.length) * sz + j) undef := by
          have e3 : k * sz + j = ovs.size + ((k - os.length) * sz + j) := by
            rw [hovs.1, ← hovs.2.2, ← Nat.add_assoc, ← Nat.add_mul]; congr 2; omega
          simp only [Array.getD_eq_getD_getElem?, Nat.zero_add]
          rw [Array.append_assoc, e3, Array.getElem?_append_right (by omega), Nat.add_sub_cancel_left, Array.getElem?_append_left hlt]
        rw [e1, e2]; exact hnvs.2.2.2 _ j hk2 hj

theorem append_in {sT xT ty e sz : Nat} {i : TypeInfo} (hu : P.underlying sT = some (.slice e)) (hx : (∃ e', P.underlying xT = some (.slice e')) ∨ P.underlying xT = some .string) (hi : P.info? e = some i) (hisz : i.size = sz)
  {a : Addr} {sLen sCap n : Nat} {y : Value} {nvs : Array Value} (hlen : (Builtin.lenOf y).run P w = .ok n w) (hnew : (Builtin.firstCells sz n y).run P w = .ok nvs w) (hneed : sLen + n ≤ sCap) {w' : World}
  (hst : (storeCells (a.add (sLen * sz)) nvs.toList).run P w = .ok () w') :
  (Builtin.append_ #[sT, xT] ty #[.slice (some a) sLen sCap, y]).run P w = .ok (.slice (some a) (sLen + n) sCap) w' := by
 have hsize : (sizeOf e).run P w = .ok sz w := by simp [sizeOf, run_ti hi, hisz]
 rcases hx with ⟨e', hd⟩ | hd
 all_goals simp [Builtin.append_, run_underlying hu, run_underlying hd, hsize, hlen, hneed, hnew, hst]

theorem append_nil0 {sT xT ty e sz : Nat} {i : TypeInfo} (hu : P.underlying sT = some (.slice e)) (hx : (∃ e', P.underlying xT = some (.slice e')) ∨ P.underlying xT = some .string) (hi : P.info? e = some i) (hisz : i.size = sz)
  {y : Value} {nvs : Array Value} (hlen : (Builtin.lenOf y).run P w = .ok 0 w) (hnew : (Builtin.firstCells sz 0 y).run P w = .ok nvs w) :
  (Builtin.append_ #[sT, xT] ty #[.slice none 0 0, y]).run P w = .ok (.slice none 0 0) w := by
 have hsize : (sizeOf e).run P w = .ok sz w := by simp [sizeOf, run_ti hi, hisz]
 rcases hx with ⟨e', hd⟩ | hd
 all_goals simp [Builtin.append_, run_underlying hu, run_underlying hd, hsize, hlen, hnew]

theorem row_append_in {sz : Nat} {os ys : List (List V)} {c c' : Array Value} {o : Nat} (hlen : ∀ i, i < os.length → (os.getD i []).length = sz)
    (hr : ∀ i j, i < os.length → j < sz → VRel g ((os.getD i []).getD j .junk) (c.getD (o + i * sz + j) undef) ∧ (c.getD (o + i * sz + j) undef).oneCell' = true)
    {nvs : Array Value} (hn : nvs.size = ys.length * sz ∧ RowRel g sz ys nvs 0)
    (hc : ∀ k, c'.getD k undef = if o + os.length * sz ≤ k ∧ k < o + os.length * sz + nvs.size then nvs.getD (k - (o + os.length * sz)) undef else c.getD k undef) :
    (∀ i, i < (os ++ ys).length → ((os ++ ys).getD i []).length = sz) ∧
    ∀ i j, i < (os ++ ys).length → j < sz → VRel g (((os ++ ys).getD i []).getD j .junk) (c'.getD (o + i * sz + j) undef) ∧ (c'.getD (o + i * sz + j) undef).oneCell' = true := by
  refine ⟨fun k hk => ?_, fun k j hk hj => ?_⟩
  · simp at hk
    by_cases h : k < os.length
    · have e1 : (os ++ ys).getD k [] = os.getD k [] := by simp [List.getD, List.getElem?_append_left h]
      rw [e1]; exact hlen k h
    · have e1 : (os ++ ys).getD k [] = ys.getD (k - os.length) [] := by simp [List.getD, List.getElem?_append_right (Nat.le_of_not_lt h)]
      rw [e1]; exact hn.2.2.1 _ (by omega)
  · simp at hk
    rw [hc]
    by_cases h : k < os.length
    · have e1 : (os ++ ys).getD k [] = os.getD k [] := by simp [List.getD, List.getElem?_append_left h]
      have := idx_lt (sz := sz) h hj
      rw [e1, if_neg (by omega)]; exact hr k j h hj
    · have e1 : (os ++ ys).getD k [] = ys.getD (k - os.length) [] := by simp [List.getD, List.getElem?_append_right (Nat.le_of_not_lt h)]
      have hk2 : k - os.length < ys.length := by omega
      have hlt : (k - os.length) * sz + j < ys.length * sz := idx_lt hk2 hj
      have e3 : k * sz = os.length * sz + (k - os.length) * sz := by rw [← Nat.add_mul]; congr 1; omega
      rw [e1, if_pos (by rw [hn.1]; omega), show o + k * sz + j - (o + os.length * sz) = 0 + (k - os.length) * sz + j by omega]
      exact hn.2.2.2 _ j hk2 hj

end Go.Proofs.Ytmjnpfackanhlaa.AM
