/- The abstract layer: rows that are made and that nobody writes. -/
import Derived.Test.YtmjnpfackanhlaaAmFrz
namespace Go.Proofs.Ytmjnpfackanhlaa.AM
open Go Go.RowKit
set_option linter.unusedSimpArgs false
set_option linter.unusedVariables false
variable {P : Program} {g : G} {st : St} {w : World}

def ResF (P : Program) (op : Op) (r : RO) : Prop := resOp P op = some r ∨ ∃ r0, resOp P op = some r0 ∧ r = frzR r0

theorem ResF.ex {op : Op} {r : RO} (h : ResF P op r) : ∃ r0, resOp P op = some r0 := by
 rcases h with h | ⟨r0, h, _⟩
 ·exact ⟨_, h⟩
 ·exact ⟨_, h⟩
theorem ResF.of {op : Op} {r : RO} (h : ResF P op r) (h1 : ∀ c, r ≠ .mov (.c c)) (h2 : ∀ a b x y, r ≠ .appf a b x y) : resOp P op = some r := by
 rcases h with h | ⟨r0, h, rfl⟩
 ·exact h
 ·unfold frzR at h1 h2 ⊢
  split at h1
  ·exact absurd rfl (h1 _)
  ·exact absurd rfl (h2 _ _ _ _)
  ·exact h

theorem resOp_mkSl {op : Op} {sz len : Nat} {z : List V} {l : List (Nat × X)} (h1 : resOp P op = some (.mkSl sz len z l)) : ∃ t ps e, op = .buildSlice t len ps ∧ P.underlying t = some (.slice e) ∧ sizeT P e = some sz ∧ zeroT P e = some z ∧ resElems ps.toList = some l ∧ sz ≠ 0 ∧ z.length = sz := by
  cases op with
  | buildSlice t len' ps =>
    simp only [resOp] at h1
    split at h1
    · rename_i e hu
      split at h1
      · rename_i k z' l' hk hz hl
        split at h1
        · rename_i hc
          simp only [Option.some.injEq, RO.mkSl.injEq] at h1
          obtain ⟨rfl, rfl, rfl, rfl⟩ := h1
          exact ⟨t, ps, e, rfl, hu, hk, hz, hl, hc.2.1, hc.2.2⟩
        · simp at h1
      · simp at h1
    · simp at h1
  | call c =>
    exfalso
    obtain ⟨callee, as, ts⟩ := c
    cases callee with
    | value c =>
      simp only [resOp] at h1
      split at h1 <;> simp at h1
    | invoke r m => simp [resOp] at h1
    | builtin b =>
      simp only [resOp, Option.bind_eq_some_iff] at h1
      obtain ⟨xs, hx, h1⟩ := h1
      unfold resBuiltin resBuiltin2 at h1
      (repeat' split at h1) <;> first | (simp at h1; done) | (simp only [Option.map_eq_some_iff] at h1; obtain ⟨_, _, h1⟩ := h1; cases h1)
  | makeMap t r => cases r <;> simp [resOp] at h1
  | next it s => cases s <;> simp [resOp] at h1
  | _ =>
    exfalso
    first
      | (simp [resOp] at h1; done)
      | (simp only [resOp] at h1
         (repeat' split at h1) <;> first | (simp at h1; done) | (simp [Option.map_eq_some_iff] at h1; done))

theorem op_okF (hs : Sim P g st w) {n : Nat} {fr : Fr} {a : Act} (hf : FrRel g n fr a.tmps) {o : Oper} {ro : RO} (hr : ResF P o.op ro) {v : V} {st' : St} (ha : aop ro fr st = some (v, st')) :
    ODone P o a w g st' v := by
  rcases hr with hr | ⟨r0, hr, rfl⟩
  · exact op_ok hs hf hr ha
  · unfold frzR at ha
    split at ha
    · -- an empty row
      rename_i sz z
      simp only [aop, X.ev, Option.some.injEq, Prod.mk.injEq] at ha
      obtain ⟨rfl, rfl⟩ := ha
      obtain ⟨t, ps, e, hop, hu, hsz, hz, hl, h0, hzl⟩ := resOp_mkSl hr
      have hps : ps = #[] := by
        cases hp : ps.toList with
        | nil => exact Array.toList_eq_nil_iff.1 hp
        | cons q r =>
          exfalso
          rw [hp] at hl
          obtain ⟨i, x⟩ := q
          simp only [resElems] at hl
          split at hl <;> simp at hl
      subst hps
      obtain ⟨e1, e2, e3⟩ := push_mem (hs.alone) (t := e) (T := 0) (sz := sz) (es := []) (vs := #[]) (by omega) (by simp) (by simp) ⟨by simp, fun i hi => by simp at hi, fun i j hi _ => by simp at hi⟩
      obtain ⟨q1, q2⟩ := hs.back e1 e3
      refine ⟨.value (.slice (some ⟨w.heap.size, 0, none⟩) 0 0), _, _, _, ?_, .inl rfl, q1, rfl, q2, .semp .cap0 sz _ 0 (by simp) (fun _ => rfl)⟩
      simp [execOp, hop, Instr.buildSlice, run_underlying hu, run_sizeT hsz, newRow, Instr.fill]
      have : (Array.map (fun _ => (default : Value)) (Array.range 0)) = #[] := by simp
      rw [this]
    · -- a row behind an empty one
      rename_i sz bytes x y
      simp only [aop] at ha
      split at ha
      · rename_i k s es sp k' sz' ys sp' hx hy
        split at ha
        · rename_i hc
          obtain ⟨hk, he, hp, hsz, hpu2, hb⟩ := hc
          have hpu : pureLL ys = true := by simp only [Bool.and_eq_true] at hpu2; exact hpu2.1
          have hps : pureLL sp' = true := by simp only [Bool.and_eq_true] at hpu2; exact hpu2.2
          simp only [Option.some.injEq, Prod.mk.injEq] at ha
          obtain ⟨rfl, rfl⟩ := ha
          obtain rfl : es = [] := by simpa using he
          obtain rfl : sp = [] := by simpa using hp
          let fr1 : Fr := fun s => if (fr s).pure then fr s else .junk
          have hf1 : FrRel (g.alone w) n fr1 a.tmps := ⟨hf.1, fun s => by
            by_cases hq : (fr s).pure = true
            · simp only [fr1, hq, if_true]; exact VRel.pure (g := g) (g' := g.alone w) (fun _ _ _ h => h) (hf.2 s) hq
            · simp only [fr1, hq]; exact .junk _⟩
          have ev1 : ∀ q : X, (q.ev fr).pure = true → q.ev fr1 = q.ev fr := by
            intro q hq
            cases q with
            | s d => simp only [X.ev] at hq ⊢; simp only [fr1, hq, if_true]
            | c v => rfl
          have hx1 : x.ev fr1 = .sl k s [] [] := by rw [ev1 x (by rw [hx]; rfl), hx]
          have hy1 : y.ev fr1 = .sl k' sz' ys sp' := by rw [ev1 y (by rw [hy]; simp [V.pure, hpu, hps]), hy]
          have hview : St.view st0 sz (.sl k' sz' ys sp') = some ys := by simp only [St.view]; rw [if_pos hsz]
          cases hys : ys.isEmpty
          · have hap : aop (.append sz bytes x y) fr1 st0 = some (.msl 0 0 0 ys.length, ⟨[some (0, .mem sz ys)], 1⟩) := by
              simp only [aop, hx1, hy1, hview, appendV]
              rw [if_pos hk]
              simp [hys, hb, st0, St.push]
            obtain ⟨nx, w', g1, x', e1, e2, e3, e4, e5, e6⟩ := op_ok hs.alone hf1 hr hap
            obtain ⟨g2, f1, f2, f3, f4⟩ := freeze_core (st := ⟨[some (0, .mem sz ys)], 1⟩) (st' := ⟨[], 1⟩) (id := 0) (ver := 0) (sz := sz) (es := ys) rfl rfl (fun id1 ver1 o1 h => by simp at h) P g1 w' e5
            have hv := f4 _ _ _ (.msl 0 0 ys.length (by simp)) e6
            rw [List.drop_zero, List.take_length, List.drop_length] at hv
            obtain ⟨q1, q2⟩ := hs.back (e3.trans f1) f3
            exact ⟨nx, w', _, x', e1, e2, q1, rfl, q2, VRel.pure (g := g2) (g' := { g with imm := g2.imm }) (fun _ _ _ h => h) hv (by simp [V.pure, hpu, pureLL])⟩
          · obtain rfl : ys = [] := by simpa using hys
            have hap : aop (.append sz bytes x y) fr1 st0 = some (.sl k s [] [], st0) := by
              simp only [aop, hx1, hy1, hview, appendV]
              rw [if_pos hk]
              simp
            obtain ⟨nx, w', g1, x', e1, e2, e3, e4, e5, e6⟩ := op_ok hs.alone hf1 hr hap
            obtain ⟨q1, q2⟩ := hs.back e3 e5
            have hv : VRel g1 (.sl .unk sz [] []) x' := by
              generalize hA : V.sl k s [] [] = A at e6
              cases e6 with
              | snil => exact .snil _ _ (.inr rfl)
              | semp k'' sz'' a'' cap'' => exact .semp _ _ a'' cap'' (by simp) (by simp)
              | sl k'' sz'' es'' sp'' b'' o'' cap'' =>
                cases hA
                exact .semp .unk sz ⟨b'', o'', none⟩ cap'' (by simp) (by simp)
              | _ => cases hA
            exact ⟨nx, w', _, x', e1, e2, q1, rfl, q2, VRel.pure (g := g1) (g' := { g with imm := g1.imm }) (fun _ _ _ h => h) hv (by simp [V.pure, pureLL])⟩
        · simp at ha
      · simp at ha
    · exact op_ok hs hf hr ha
end Go.Proofs.Ytmjnpfackanhlaa.AM
