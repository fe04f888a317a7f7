/- The abstract layer: soundness. -/
import Derived.Test.YtmjnpfackanhlaaAmNd
namespace Go.Proofs.Ytmjnpfackanhlaa.AM
open Go Go.RowKit
set_option linter.unusedSimpArgs false
set_option linter.unusedVariables false

/-! ### soundness -/
variable {P : Program}

structure Cfg (P : Program) (n : Nat) (D0 : List (Nat × Go.Obj)) (g : G) (a : Act) (w : World) (fr : Fr) (st : St) : Prop where
 sim : Sim P g st w
 fr : FrRel g n fr a.tmps
 dfr : ∃ l : List Nat, g.dfr = l.map dmk ++ D0 ∧ a.defers = l.map mark

def Lift (P : Program) (n : Nat) (D0 : List (Nat × Go.Obj)) (g : G) (Q : APost) : Exit → Act → World → Prop := fun e a w =>
 ∃ ae g' fr st, e = AEx.ex ae ∧ g.le g' ∧ Cfg P n D0 g' a w fr st ∧ Q ae fr st

theorem Lift.le {n : Nat} {D0 : List (Nat × Go.Obj)} {g g' : G} {Q : APost} (h : g.le g') {e : Exit} {a : Act} {w : World} (hl : Lift P n D0 g' Q e a w) : Lift P n D0 g Q e a w := by
 obtain ⟨ae, g2, fr, st, h1, h2, h3, h4⟩ := hl
 exact ⟨ae, g2, fr, st, h1, h.trans h2, h3, h4⟩

def AWp (P : Program) (n : Nat) (ro : Option Nat) (c : Code) (Q : APost) (fr : Fr) (st : St) : Prop :=
 ∀ D0 g a w, Cfg P n D0 g a w fr st → c.wpIn (FF ro) 0 P (Lift P n D0 g Q) a w

theorem put_rel {g : G} {n : Nat} {fr : Fr} {a : Act} (hf : FrRel g n fr a.tmps) {d : Option Nat} (hd : d.all (fun d => d < n) = true) {v : V} {x : Value} (hv : VRel g v x) :
  FrRel g n (updo fr d v) (a.put d x).tmps := by
 cases d with
 | none => exact hf
 | some d => exact hf.upd d (by simpa using hd) hv

theorem put_defers (a : Act) (d : Option Nat) (x : Value) : (a.put d x).defers = a.defers := by cases d <;> rfl

theorem callsIn_FF {ro : Option Nat} {f : FuncId} {args : Array Value} {w : World} {R : Ending → World → Prop} (h : Calls P f args w R) : CallsIn (FF ro) 0 P f args w R := by
 cases ro with
 | none => exact callsIn_wide.2 h
 | some l => exact callsIn_wide.2 h

theorem roundIn_FF {ro : Option Nat} {l : Nat} {f : FuncId} {t : Array Value} {a b : Code} {w : World} {R : Ending → World → Prop} (h : RoundIn Fence.wide 0 P l f t a b w R) : RoundIn (FF ro) 0 P l f t a b w R := by
 cases ro with
 | none => exact h
 | some l => exact h

theorem wanted_rel {g : G} {n : Nat} {fr : Fr} {a : Act} (hf : FrRel g n fr a.tmps) {ops : Array Oper} {o : Oper} {gd : Option (Nat × Bool)} (hg : resGuard ops.toList o.guard = some gd) (hn : gd.all (fun p => p.1 < n) = true) {K : Bool → Prop} (h : guardP gd fr K) :
  K (Region.wanted o (yielded ops a.tmps)) := by
 unfold Region.wanted
 cases hgo : o.guard with
 | none =>
  rw [hgo] at hg
  simp [resGuard] at hg; subst hg; exact h
 | some p =>
  obtain ⟨j, want⟩ := p
  rw [hgo] at hg
  simp only [resGuard, Option.map_eq_some_iff, Option.bind_eq_some_iff] at hg
  obtain ⟨d, ⟨oj, hoj, hd⟩, rfl⟩ := hg
  have hlt : d < a.tmps.size := by rw [hf.1]; simpa using hn
  have hr := hf.2 d
  have hoj' : ops[j]? = some oj := by simpa using hoj
  have hx : a.tmps[d]? = some (a.tmps.getD d undef) := by simp [Array.getD, hlt]
  have hy : ∀ x, a.tmps[d]? = some x → yielded ops a.tmps j = (match x with | .bool b => some b | _ => none) := by
   intro x hx
   unfold yielded
   simp only [hoj', Option.bind_some, hd, hx]
   cases x <;> rfl
  simp only [guardP] at h
  simp only [hy _ hx]
  generalize a.tmps.getD d undef = x at hr
  split at h
  ·rename_i b hb
   rw [hb] at hr; cases hr
   simpa using h
  ·rename_i hb
   rw [hb] at hr
   cases hr
   exact h
  ·exact h.elim

theorem no_defer {o : Oper} {ro : RO} (h : resOp P o.op = some ro) : ∀ c, o.op ≠ .defer c := by
 intro c e; rw [e] at h; simp [resOp] at h

theorem resOp_call {op : Op} {f : X} {args : List X} (h1 : resOp P op = some (.call f args)) : ∃ (c : Operand) (as : Array Operand) (ts : Array TypeId), op = .call { callee := .value c, args := as, argTypes := ts } ∧ resX c = some f ∧ resXs as.toList = some args := by
  cases op with
  | call c =>
    obtain ⟨callee, as, ts⟩ := c
    cases callee with
    | value c =>
      simp only [resOp] at h1
      split at h1
      · rename_i f' l' q1 q2
        simp only [Option.some.injEq, RO.call.injEq] at h1
        obtain ⟨rfl, rfl⟩ := h1
        exact ⟨c, as, ts, rfl, q1, q2⟩
      · simp at h1
    | invoke r m => simp [resOp] at h1
    | builtin b =>
      simp only [resOp, Option.bind_eq_some_iff] at h1
      obtain ⟨xs, _, h1⟩ := h1
      unfold resBuiltin resBuiltin2 at h1
      (repeat' split at h1) <;> first | (simp at h1; done) | (simp only [Option.map_eq_some_iff] at h1; obtain ⟨_, _, h1⟩ := h1; cases h1)
  | makeMap t r => cases r <;> simp [resOp] at h1
  | next it s => cases s <;> simp [resOp] at h1
  | _ =>
    first
      | (simp [resOp] at h1; done)
      | (simp only [resOp] at h1
         (repeat' split at h1) <;> first | (simp at h1; done) | (simp [Option.map_eq_some_iff] at h1; done))

theorem regs_ok {n : Nat} {ro : Option Nat} {D0 : List (Nat × Go.Obj)} {Q : Fr → St → Prop} {g0 : G} {ops : Array Oper} {Qx : APost} (hQ : ∀ fr st, Q fr st → Qx .normal fr st) : ∀ (l : List Oper) (k : Nat), (∀ j, l[j]? = ops[k + j]?) → ∀ (rl : List ROp), resOps P n ops.toList l = some rl →
  ∀ (g : G) (fr : Fr) (st : St) (a : Act) (w : World), g0.le g → Cfg P n D0 g a w fr st → areg P rl Q fr st → wpOpsIn (FF ro) 0 P ops (Lift P n D0 g0 Qx) (List.range' k l.length) a w
 | [], k, _, rl, hr, g, fr, st, a, w, hg, hc, h => by
  simp [resOps] at hr; subst hr
  simp only [List.length_nil, List.range'_zero, wpOpsIn]
  exact ⟨.normal, g, fr, st, rfl, hg, hc, hQ _ _ h⟩
 | o :: l, k, hl, rl, hr, g, fr, st, a, w, hg, hc, h => by
  have ho : ops[k]? = some o := by simpa using (hl 0).symm
  simp only [resOps] at hr
  split at hr
  ·rename_i ro' gd rl' h1 h2 h3
   split at hr
   ·rename_i hb
    simp only [Option.some.injEq] at hr; subst hr
    simp only [Bool.and_eq_true] at hb
    simp only [areg] at h
    have hw := wanted_rel hc.fr h2 hb.2 h
    have htail : ∀ j, l[j]? = ops[k + 1 + j]? := fun j => by have := hl (j + 1); simpa [Nat.add_assoc, Nat.add_comm 1 j] using this
    simp only [List.length_cons, List.range'_succ, wpOpsIn, ho]
    have habout : ∀ f, o.about P w a.eval = some f → (FF ro).fn f := fun f _ => FF_fn ro f
    cases hwant : Region.wanted o (yielded ops a.tmps) with
    | false =>
     rw [hwant] at hw
     simp only [Bool.false_eq_true, if_false] at hw ⊢
     refine ⟨habout, ?_⟩
     refine regs_ok hQ l (k + 1) htail _ h3 g _ st _ w hg ⟨hc.sim, put_rel hc.fr hb.1 (.tup [] #[] rfl (fun i hi => by simp at hi)), ?_⟩ hw
     obtain ⟨ld, e1, e2⟩ := hc.dfr
     exact ⟨ld, e1, by rw [put_defers]; exact e2⟩
    | true =>
     rw [hwant] at hw
     simp only [if_true] at hw ⊢
     refine ⟨habout, ?_⟩
     rw [Oper.semAt_eq _ _ _ (no_defer h1)]
     -- what comes of a value
     have next : ∀ (g' : G) (v : V) (x : Value) (st' : St) (w' : World), g.le g' → g'.dfr = g.dfr → Sim P g' st' w' → VRel g' v x → areg P rl' Q (updo fr o.dst v) st' →
       wpOpsIn (FF ro) 0 P ops (Lift P n D0 g0 Qx) (List.range' (k + 1) l.length) (a.put o.dst x) w' := by
      intro g' v x st' w' e1 e2 e3 e4 e5
      refine regs_ok hQ l (k + 1) htail _ h3 g' _ st' _ w' (hg.trans e1) ⟨e3, put_rel (hc.fr.mono e1) hb.1 e4, ?_⟩ e5
      obtain ⟨ld, q1, q2⟩ := hc.dfr
      exact ⟨ld, by rw [e2]; exact q1, by rw [put_defers]; exact q2⟩
     rcases hw with hw | hw
     rotate_left
     ·obtain ⟨v, st', hrest, nx, w', g', x, e1, e2, e3, e4, e5, e6⟩ := nd_ok hc.sim hc.fr h1 hw
      rw [e1]
      rcases e2 with rfl | ⟨rfl, rfl⟩
      ·rw [Oper.uponIn_value]; exact next g' v x st' w' e3 e4 e5 e6 hrest
      ·rw [Oper.uponIn_skip]; exact next g' v undef st' w' e3 e4 e5 e6 hrest
     rcases aexec_op hw with ⟨f, args, rfl, hw⟩ | ⟨v, st', hv, hrest⟩
     ·have hop := resOp_call h1
      obtain ⟨c, as, ts, hop, q1, q2⟩ := hop
      obtain ⟨d, hd, hcr⟩ := hw g w (a.eval c) (as.map a.eval) hc.sim (resX_rel hc.fr q1) (resXs_rels hc.fr q2)
      have hrun : ∀ nx, (invoke d.target d.args).run P w = .ok nx w → (execOp a.eval o).run P w = .ok nx w := by
       intro nx hi
       simp only [execOp, hop, resolve, Sem.run_bind, hd, Result.andThen_ok]
       exact hi
      rcases hcr with ⟨f', as', h4, h5⟩ | ⟨l', f', t', a', b', h4, h5⟩
      ·rw [hrun _ h4, Oper.uponIn_enter]
       refine ⟨by rw [FF_depth]; simp, callsIn_FF (h5.mono ?_)⟩
       rintro e w' ⟨r, x, g', st', rfl, e1, e2, e3, e4, e5⟩
       exact next g' r x st' w' e1 e2 e3 e4 e5
      ·rw [hrun _ h4, Oper.uponIn_round]
       refine ⟨by rw [FF_depth]; simp, roundIn_FF (h5.mono ?_)⟩
       rintro e w' ⟨r, x, g', st', rfl, e1, e2, e3, e4, e5⟩
       exact next g' r x st' w' e1 e2 e3 e4 e5
     ·obtain ⟨nx, w', g', x, e1, e2, e3, e4, e5, e6⟩ := op_ok hc.sim hc.fr h1 hv
      rw [e1]
      rcases e2 with rfl | ⟨rfl, rfl⟩
      ·rw [Oper.uponIn_value]; exact next g' v x st' w' e3 e4 e5 e6 hrest
      ·rw [Oper.uponIn_skip]; exact next g' v undef st' w' e3 e4 e5 e6 hrest
   ·simp at hr
  ·simp at hr

end Go.Proofs.Ytmjnpfackanhlaa.AM
