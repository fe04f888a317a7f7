/- The abstract layer, without frames: functions. -/
import Derived.Test.YtmjnpfackanhlaaAmH3
namespace Go.Proofs.Ytmjnpfackanhlaa.AM
open Go Go.RowKit
set_option linter.unusedSimpArgs false
set_option linter.unusedVariables false
variable {P : Program}

inductive RV where
 | tmp (t : Nat)
 | cell (t : Nat) (n : Option Nat)

def resRVs (P : Program) : List ResultVar → Option (List RV)
 | [] => some []
 | .tmp t :: l => (resRVs P l).map (.tmp t :: ·)
 | .cell a t :: l => match szT P t, resRVs P l with | some n, some r => some (.cell a n :: r) | _, _ => none

def resFnH (P : Program) (f : FuncId) : Option (Nat × RCode × List RV) :=
 match P.funcs[f]? with
 | some fn =>
  if fn.name == "runtime.NumGoroutine" then none
  else match fn.body with
   | some c =>
    match resCode P fn.ntmps c, resRVs P fn.results.toList with
    | some rc, some rs => some (fn.ntmps, rc, rs)
    | _, _ => none
   | none => none
 | none => none

def hld (n : Option Nat) (a : V) (st : St) (K : V → Prop) : Prop := opP (aop (.ld n (.c a)) fr0 st) fun v _ => K v

abbrev hresL (rs : List RV) (fr : Fr) (st : St) : (List V → Prop) → Prop :=
 List.rec (motive := fun _ => (List V → Prop) → Prop) (fun K => K []) (fun r _ ih K => match r with
  | .tmp t => ih fun l => K (fr t :: l)
  | .cell t n => hld n (fr t) st fun v => ih fun l => K (v :: l)) rs

def mkres : List V → V
 | [v] => v
 | vs => .tup vs

abbrev hretQ (rs : List RV) (K : V → St → Prop) : APost
 | .normal, fr, st => hresL rs fr st fun vs => GhostV vs st fun vs' st' => K (mkres vs') st'
 | .ret, fr, st => hresL rs fr st fun vs => GhostV vs st fun vs' st' => K (mkres vs') st'
 | .exit _, _, _ => False

def resF (t : Array Value) : ResultVar → Sem Value
 | .tmp s => pure (t.getD s undef)
 | .cell a s => do loadVar s (← asAddr (t.getD a undef))

theorem results_eq (fn : Func) (t : Array Value) : results fn t = (do
  let vs ← fn.results.mapM (resF t)
  pure (if h : vs.size = 1 then vs[0] else .tuple vs)) := by
 unfold results
 congr 1

theorem hresL_run {g : G} {st : St} {w : World} (hs : Sim P g st w) {n : Nat} {fr : Fr} {t : Array Value} (hf : FrRel g n fr t) : ∀ (l : List ResultVar) (rs : List RV), resRVs P l = some rs → ∀ {K : List V → Prop}, hresL rs fr st K →
  ∃ vs xs, K vs ∧ vs.length = xs.length ∧ (∀ i, i < vs.length → VRel g (vs.getD i .junk) (xs.getD i undef)) ∧
   (l.mapM (resF t)).run P w = .ok xs w
 | [], rs, hr, K, h => by
  simp only [resRVs, Option.some.injEq] at hr; subst hr
  exact ⟨[], [], h, rfl, fun i hi => by simp at hi, by simp⟩
 | .tmp s :: l, rs, hr, K, h => by
  simp only [resRVs, Option.map_eq_some_iff] at hr
  obtain ⟨r, h1, rfl⟩ := hr
  obtain ⟨vs, xs, k1, k2, k3, k4⟩ := hresL_run hs hf l r h1 h
  refine ⟨fr s :: vs, t.getD s undef :: xs, k1, by simp [k2], fun i hi => ?_, ?_⟩
  ·cases i with
   | zero => exact hf.2 s
   | succ i => have := k3 i (by simpa using hi); simpa using this
  ·simp only [List.mapM_cons, resF, pure_bind, Sem.run_bind, k4, Result.andThen_ok, Sem.run_pure]
 | .cell a ty :: l, rs, hr, K, h => by
  simp only [resRVs] at hr
  split at hr
  ·rename_i n r h1 h2
   simp only [Option.some.injEq] at hr; subst hr
   obtain ⟨v, st', hv, h⟩ := opP_some h
   simp only [aop, X.ev] at hv
   split at hv
   ·rename_i cs off hc
    simp only [Option.map_eq_some_iff, Prod.mk.injEq] at hv
    obtain ⟨v', hv, rfl, rfl⟩ := hv
    obtain ⟨vs, xs, k1, k2, k3, k4⟩ := hresL_run hs hf l r h2 h
    obtain ⟨b, o, hx, hp⟩ := cellsAt_rel hs.reads (hf.2 a) hc
    obtain ⟨y, q1, q2⟩ := part_load h1 hp hv
    refine ⟨v' :: vs, y :: xs, k1, by simp [k2], fun i hi => ?_, ?_⟩
    ·cases i with
     | zero => exact q2
     | succ i => have := k3 i (by simpa using hi); simpa using this
    ·simp only [List.mapM_cons, resF, Sem.run_bind, hx, asAddr, Sem.run_pure, Result.andThen_ok, q1, k4]
   ·simp at hv
  ·simp at hr

theorem ACalls_sem {f : FuncId} {n : Nat} {rc : RCode} {rs : List RV} (hf : resFnH P f = some (n, rc, rs)) {args : List V} (hn : args.length ≤ n) {st : St} {R : V → St → Prop}
    (h : ∀ c, resCode P n c = some rc → AWp P n none c (hretQ rs R) (enterFr args) st) : ACalls P f args st R := by
  unfold resFnH at hf
  split at hf
  · rename_i fn hfn
    split at hf
    · simp at hf
    · rename_i hname
      split at hf
      · rename_i c hc
        split at hf
        · rename_i rc' rs' h1 h2
          simp only [Option.some.injEq, Prod.mk.injEq] at hf
          obtain ⟨rfl, rfl, rfl⟩ := hf
          have hname' : ¬ fn.name = "runtime.NumGoroutine" := by simpa using hname
          refine ⟨fun as w => by simp [callFunc, program, Sem.run_bind, Sem.run, hfn, hname', hc], fun g w Args hs hA => ?_⟩
          refine callsIn_wide (n := 0) |>.1 ?_
          refine callsIn_of_wp_marks hfn hc trivial (wpIn_mono (h c h1 g.dfr g _ w ⟨hs, enter_fr hA hn, [], rfl, rfl⟩) ?_)
          have fin : ∀ (g1 : G) (a1 : Act) (w1 : World) (fr1 : Fr) (st1 : St), g.le g1 → Cfg P fn.ntmps g.dfr g1 a1 w1 fr1 st1 → (hresL rs' fr1 st1 fun vs => GhostV vs st1 fun vs' st' => R (mkres vs') st') →
              LeavesInM Fence.wide 0 P fn a1.tmps (CPost P g R) a1.defers .returning w1 := by
            intro g1 a1 w1 fr1 st1 hg1 hc1 hq
            obtain ⟨l, hl1, hl2⟩ := hc1.dfr
            rw [hl2]
            refine marks_out l g1 w1 hc1.sim hl1 (fun g2 w2 q1 q2 q3 => ?_)
            obtain ⟨vs, xs, k1, k2, k3, k4⟩ := hresL_run q3 (hc1.fr.mono q1) _ _ h2 hq
            obtain ⟨vs', st2, hlen, hgh, hR⟩ := k1
            obtain ⟨g3, e1, e2, e3, e4⟩ := hgh P g2 w2 q3
            have hv3 : ∀ i, i < vs'.length → VRel g3 (vs'.getD i .junk) (xs.getD i undef) := fun i hi => e4 i _ (k3 i (by omega))
            refine ⟨if h : xs.toArray.size = 1 then xs.toArray[0] else .tuple xs.toArray, ?_, _, _, g3, st2, rfl, (hg1.trans q1).trans e1, e2.trans q2, e3, ?_, hR⟩
            · rw [results_eq, ← Array.toArray_toList (xs := fn.results), List.mapM_toArray]
              simp only [map_eq_pure_bind, bind_assoc, pure_bind, Sem.run_bind, k4, Result.andThen_ok, Sem.run_pure]
            · have hl : vs'.length = xs.length := by omega
              rcases vs' with _ | ⟨v, _ | ⟨v2, vs'⟩⟩
              · obtain rfl := List.eq_nil_of_length_eq_zero hl.symm
                exact .tup [] #[] rfl (fun i hi => by simp at hi)
              · rcases xs with _ | ⟨x, _ | ⟨x2, xs⟩⟩
                · simp at hl
                · exact hv3 0 (by simp)
                · simp at hl
              · rcases xs with _ | ⟨x, _ | ⟨x2, xs⟩⟩
                · simp at hl
                · simp at hl
                · refine VRel.tup _ _ (by simpa using hl) (fun i hi => ?_)
                  have := hv3 i hi
                  simpa [Array.getD_eq_getD_getElem?, List.getD] using this
          rintro e a1 w1 ⟨ae, g1, fr1, st1, rfl, hg1, hc1, hq1⟩
          cases ae with
          | normal => exact fin g1 a1 w1 fr1 st1 hg1 hc1 hq1
          | ret => exact fin g1 a1 w1 fr1 st1 hg1 hc1 hq1
          | exit k => exact hq1.elim
        · simp at hf
      · simp at hf
  · simp at hf

theorem ACalls_h {f : FuncId} {n : Nat} {ac : ACode} {rs : List RV} (hf : resFnH P f = some (n, ac.er, rs)) (hok : (ac.ok && ac.er.psOk n) = true) {args : List V} (hn : args.length ≤ n) {st : St} {R : V → St → Prop}
  (h : hwp P ac (hretQ rs R) (enterFr args) st) : ACalls P f args st R := by
 simp only [Bool.and_eq_true] at hok
 exact ACalls_sem hf hn fun c hc => (hwp_sound ac c hc hok.1 hok.2 (.inl rfl) h).mono fun _ _ _ h => h.1

end Go.Proofs.Ytmjnpfackanhlaa.AM
