/- The abstract layer: regions that draw their order: soundness. -/
import Derived.Test.YtmgkjbphlbpbfaaAmReg
namespace Go.Proofs.Ytmgkjbphlbpbfaa.AM
open Go Go.RowKit
set_option linter.unusedSimpArgs false
set_option linter.unusedVariables false
variable {P : Program} {n : Nat} {ro : Option Nat} {D0 : List Nat} {Q : Fr → St → Prop} {g0 : G} {Qx : APost} {ops : Array Oper} {N : Nat} {rops : List ROp} {dirs pre : List (List Nat)} {acts : List Nat}

structure RInv (P : Program) (n : Nat) (D0 : List Nat) (Q : Fr → St → Prop) (g0 : G) (N : Nat) (rops : List ROp) (dirs pre : List (List Nat)) (acts : List Nat)
    (listed : Array Bool) (done : List Nat) (sch : Sch) (fr : Fr) (st : St) (a : Act) (w : World) (g : G) : Prop where
  gle : g0.le g
  sim : Sim P g st w
  frr : FrRel g n (lag rops listed done fr) a.tmps
  dfr : ∃ l, g.dfr = l ++ D0 ∧ a.defers = l.map mark
  size : listed.size = N
  sub : ∀ i, listed.getD i false = true → i ∈ done
  lt : ∀ i ∈ done, i < N
  pend : ∀ i ∈ done, listed.getD i false = false → i ∉ acts ∧ reP (rops.getD i default) fr st
  rd : ∀ i ∈ done, readsOk N rops pre acts i
  down : ∀ i, listed.getD i false = true → ∀ e ∈ dirs.getD i [], listed.getD e false = true
  ord : OrdDone dirs done
  run : aregD P rops sch Q fr st
  chk : schOk N dirs pre rops acts done sch = true

theorem FrRel.weak {g : G} {fr fr' : Fr} {t : Array Value} (h : FrRel g n fr t) (hw : ∀ s, fr' s = .junk ∨ fr' s = fr s) : FrRel g n fr' t :=
  ⟨h.1, fun s => by rcases hw s with e | e <;> rw [e]; exact .junk _; exact h.2 s⟩

theorem updo_ne {fr : Fr} {d : Option Nat} {v : V} {s : Nat} (h : d ≠ some s) : updo fr d v s = fr s := by
  cases d with
  | none => rfl
  | some d => exact upd_ne _ _ (fun e => h (by rw [e]))
theorem updo_eq {fr : Fr} {d : Option Nat} {v : V} {s : Nat} (h : d = some s) : updo fr d v s = v := by
  subst h; exact upd_eq _ _ _

theorem dstIs_updo (fr : Fr) (d : Option Nat) (v : V) : dstIs (updo fr d v) d v := by
  cases d with
  | none => trivial
  | some d => exact upd_eq _ _ _

theorem RInv.peel {listed : Array Bool} {st : St} {a : Act} {w : World} {g : G} : ∀ {sch : Sch} {done : List Nat} {fr : Fr}, RInv P n D0 Q g0 N rops dirs pre acts listed done sch fr st a w g →
    ∃ done' sch' fr', RInv P n D0 Q g0 N rops dirs pre acts listed done' sch' fr' st a w g ∧ (sch' = [] ∨ ∃ j ws r, sch' = (j, true, ws) :: r)
  | [], done, fr, h => ⟨_, _, _, h, .inl rfl⟩
  | (j, true, ws) :: r, done, fr, h => ⟨_, _, _, h, .inr ⟨_, _, _, rfl⟩⟩
  | (j, false, ws) :: r, done, fr, h => by
    obtain ⟨c1, c2, c3, c4, c5, _, c7, c8⟩ := schOk_cons h.chk
    obtain ⟨c10, rfl, c9⟩ := c7 rfl
    have hrun := h.run
    simp only [aregD] at hrun
    obtain ⟨b, hb⟩ := guardP_elim hrun
    have hun : listed.getD j false = false := by
      cases hl : listed.getD j false with
      | false => rfl
      | true => exact absurd (h.sub j hl) c2
    -- the value
    have key : ∃ v, (b = true → aop (rops.getD j default).rhs fr st = some (v, st)) ∧ (b = false → v = .tup []) ∧ aregD P rops r Q (updo fr (rops.getD j default).dst v) st := by
      have := (hb _).1 hrun
      cases b with
      | true =>
        obtain ⟨v, h1, h2⟩ := aexec_quiet c10 this
        exact ⟨v, fun _ => h1, (by simp), h2.2⟩
      | false => exact ⟨.tup [], (by simp), fun _ => rfl, this.2⟩
    obtain ⟨v, k1, k2, k3⟩ := key
    let fr' := updo fr (rops.getD j default).dst v
    have same : ∀ s, (rops.getD j default).dst ≠ some s → fr s = fr' s := fun s hs => (updo_ne hs).symm
    have keep : ∀ i ∈ done, reP (rops.getD i default) fr st → reP (rops.getD i default) fr' st := by
      intro i hi hr
      refine reP_congr (fun s hs => same s (fun e => (c9 s e).1 i (by simp [hi]) hs)) (fun d hd => same d (fun e => (c9 d e).2 i hi hd)) hr
    have own : reP (rops.getD j default) fr' st := by
      have hsame : ∀ s ∈ (rops.getD j default).reads, fr s = fr' s := fun s hs => same s (fun e => (c9 s e).1 j (by simp) hs)
      unfold reP
      rw [← guardP_congr hsame, hb]
      cases b with
      | true =>
        simp only [if_true]
        rw [← aop_congr (reads_ev hsame), k1 rfl]
        exact ⟨rfl, dstIs_updo _ _ _⟩
      | false => rw [← k2 rfl]; exact dstIs_updo _ _ _
    have inv : RInv P n D0 Q g0 N rops dirs pre acts listed (j :: done) r fr' st a w g := by
      refine ⟨h.gle, h.sim, h.frr.weak (fun s => ?_), h.dfr, h.size, fun i hi => List.mem_cons_of_mem _ (h.sub i hi), ?_, ?_, ?_, h.down, ⟨c1, h.ord⟩, k3, c8⟩
      · rcases lag_or rops listed (j :: done) fr' s with e | ⟨e, hne⟩
        · exact .inl e
        · right
          rw [e, lag_eq (fun i hi hl => hne i (List.mem_cons_of_mem _ hi) hl)]
          exact updo_ne (hne j (by simp) hun)
      · intro i hi
        rcases List.mem_cons.1 hi with rfl | hi
        · exact c3
        · exact h.lt i hi
      · intro i hi hl
        rcases List.mem_cons.1 hi with rfl | hi
        · exact ⟨(fun e => Bool.noConfusion (c4.2 e)), own⟩
        · exact ⟨(h.pend i hi hl).1, keep i hi (h.pend i hi hl).2⟩
      · intro i hi
        rcases List.mem_cons.1 hi with rfl | hi
        · exact c5
        · exact h.rd i hi
    exact RInv.peel inv

/-- One operation, made by the machine. -/
theorem op_step {i : Nat} {o : Oper} {r : ROp} (hi : ops[i]? = some o) (h1 : resOp P o.op = some r.rhs) (h2 : resGuard ops.toList o.guard = some r.guard) (hd : o.dst = r.dst) (hb : o.dst.all (fun d => d < n) = true) (hgn : r.guard.all (fun p => p.1 < n) = true)
    {g : G} {fr : Fr} {st : St} {a : Act} {w : World} (hs : Sim P g st w) (hf : FrRel g n fr a.tmps) {K1 : V → St → Prop} {next : Act → World → Prop} {Qr : Exit → Act → World → Prop}
    (hw : guardP r.guard fr fun want => if want then aexec P r.rhs fr st K1 else K1 (.tup []) st)
    (hn : ∀ g' v x st' w', g.le g' → g'.dfr = g.dfr → Sim P g' st' w' → VRel g' v x → K1 v st' → next (a.put o.dst x) w') : wpOpIn (FF ro) 0 P ops Qr i next a w := by
  unfold wpOpIn
  simp only [hi]
  have hw := wanted_rel hf h2 hgn hw
  have habout : ∀ f, o.about P w a.eval = some f → (FF ro).fn f := fun f _ => FF_fn ro f
  cases hwant : Region.wanted o (yielded ops a.tmps) with
  | false =>
    rw [hwant] at hw
    simp only [Bool.false_eq_true, if_false] at hw ⊢
    exact ⟨habout, hn g _ undef st w (.refl g) rfl hs (.tup [] #[] rfl (fun i hi => by simp at hi)) hw⟩
  | true =>
    rw [hwant] at hw
    simp only [if_true] at hw ⊢
    refine ⟨habout, ?_⟩
    rw [Oper.semAt_eq _ _ _ (no_defer h1)]
    rcases aexec_op hw with ⟨f, args, hrhs, hw⟩ | ⟨v, st', hv, hrest⟩
    · rw [hrhs] at h1
      obtain ⟨c, as, ts, hop, q1, q2⟩ := resOp_call h1
      obtain ⟨d, hd', hcr⟩ := hw g w (a.eval c) (as.map a.eval) hs (resX_rel hf q1) (resXs_rels hf q2)
      have hrun : ∀ nx, (invoke d.target d.args).run P w = .ok nx w → (execOp a.eval o).run P w = .ok nx w := by
        intro nx hi
        simp only [execOp, hop, resolve, Sem.run_bind, hd', Result.andThen_ok]
        exact hi
      rcases hcr with ⟨f', as', h4, h5⟩ | ⟨l', f', t', a', b', h4, h5⟩
      · rw [hrun _ h4, Oper.uponIn_enter]
        refine ⟨by rw [FF_depth]; simp, callsIn_FF (h5.mono ?_)⟩
        rintro e w' ⟨r, x, g', st', rfl, e1, e2, e3, e4, e5⟩
        exact hn g' r x st' w' e1 e2 e3 e4 e5
      · rw [hrun _ h4, Oper.uponIn_round]
        refine ⟨by rw [FF_depth]; simp, roundIn_FF (h5.mono ?_)⟩
        rintro e w' ⟨r, x, g', st', rfl, e1, e2, e3, e4, e5⟩
        exact hn g' r x st' w' e1 e2 e3 e4 e5
    · obtain ⟨nx, w', g', x, e1, e2, e3, e4, e5, e6⟩ := op_ok hs hf h1 hv
      rw [e1]
      rcases e2 with rfl | ⟨rfl, rfl⟩
      · rw [Oper.uponIn_value]; exact hn g' v x st' w' e3 e4 e5 e6 hrest
      · rw [Oper.uponIn_skip]; exact hn g' v undef st' w' e3 e4 e5 e6 hrest

theorem aexec_of_op {r : RO} {fr : Fr} {st : St} {K : V → St → Prop} (h : opP (aop r fr st) K) : aexec P r fr st K := by
  by_cases hc : ∃ f args, r = .call f args
  · obtain ⟨f, args, rfl⟩ := hc; simp [aop, opP] at h
  · rw [aexec_eq hc]; exact h

theorem watchP_mem {ws : List Nat} {fr : Fr} {st : St} (h : watchP rops ws fr st) : ∀ i ∈ ws, reP (rops.getD i default) fr st := by
  induction ws with
  | nil => intro i hi; cases hi
  | cons x ws ih =>
    intro i hi
    rcases List.mem_cons.1 hi with rfl | hi
    · exact h.1
    · exact ih h.2 i hi

def cnt : List Bool → Nat
  | [] => 0
  | true :: l => cnt l
  | false :: l => cnt l + 1

theorem cnt_set : ∀ {l : List Bool} {i : Nat}, l[i]? = some false → cnt (l.set i true) + 1 = cnt l
  | [], i, h => by simp at h
  | b :: l, 0, h => by simp at h; subst h; simp [cnt]
  | b :: l, i + 1, h => by
    have := cnt_set (l := l) (i := i) (by simpa using h)
    cases b <;> simp [cnt] <;> omega

theorem cnt_pos : ∀ {l : List Bool} {i : Nat}, l[i]? = some false → 0 < cnt l
  | [], i, h => by simp at h
  | b :: l, 0, h => by simp at h; subst h; simp [cnt]
  | b :: l, i + 1, h => by
    have := cnt_pos (l := l) (i := i) (by simpa using h)
    cases b <;> simp [cnt] <;> omega

theorem getD_unl {l : Array Bool} {i : Nat} (h : l.getD i true = false) : i < l.size ∧ l.getD i false = false ∧ l.toList[i]? = some false := by
  by_cases hi : i < l.size
  · simp [Array.getD, hi] at h; simp [Array.getD, hi, h]
  · simp [Array.getD, hi] at h

theorem getD_unl' {l : Array Bool} {i : Nat} (hi : i < l.size) (h : l.getD i false = false) : l.getD i true = false := by
  simp [Array.getD, hi] at h ⊢; exact h

theorem getD_set {l : Array Bool} {i j : Nat} (hi : i < l.size) : (l.setIfInBounds i true).getD j false = true ↔ j = i ∨ l.getD j false = true := by
  by_cases h : j = i
  · subst h; simp [Array.getD, hi]
  · simp only [h, false_or, Array.getD_eq_getD_getElem?]
    rw [Array.getElem?_setIfInBounds_ne (fun e => h e.symm)]

theorem dirs_get {j : Nat} {o : Oper} (h : ops[j]? = some o) : (dirsOf ops.toList).getD j [] = (o.after.toList.filter fun e => Region.binds .any e).map (·.on) := by
  have : ops.toList[j]? = some o := by simpa using h
  simp [dirsOf, List.getD, this]

theorem ready_iff {j : Nat} {listed : Array Bool} : j ∈ Region.ready .any ops listed ↔ listed.getD j true = false ∧ j < ops.size ∧ ∀ e ∈ (dirsOf ops.toList).getD j [], listed.getD e false = true := by
  rw [mem_ready]
  constructor
  · rintro ⟨h1, o, ho, h2⟩
    refine ⟨h1, (Array.getElem?_eq_some_iff.1 ho).1, ?_⟩
    rw [dirs_get ho]
    intro e he
    obtain ⟨x, hx, rfl⟩ := List.mem_map.1 he
    obtain ⟨hx, hb⟩ := List.mem_filter.1 hx
    exact h2 x (by simpa using hx) hb
  · rintro ⟨h1, h2, h3⟩
    refine ⟨h1, ops[j], by simp [h2], fun e he hb => ?_⟩
    rw [dirs_get (o := ops[j]) (by simp [h2])] at h3
    exact h3 _ (List.mem_map.2 ⟨e, List.mem_filter.2 ⟨by simpa using he, hb⟩, rfl⟩)

theorem RInv.finish {listed : Array Bool} {done : List Nat} {sch : Sch} {fr : Fr} {st : St} {a : Act} {w : World} {g : G} (h : RInv P n D0 Q g0 N rops (dirsOf ops.toList) pre acts listed done sch fr st a w g) (hN : N = ops.size) (hr : Region.ready .any ops listed = [])
    (hh : sch = [] ∨ ∃ j ws r, sch = (j, true, ws) :: r) : Q fr st ∧ FrRel g n fr a.tmps := by
  have stuck : ∀ i, i < N → ¬ listed.getD i false = true → ∃ e ∈ (dirsOf ops.toList).getD i [], ¬ listed.getD e false = true := by
    intro i hi hl
    by_cases hc : ∀ e ∈ (dirsOf ops.toList).getD i [], listed.getD e false = true
    · have : i ∈ Region.ready .any ops listed := ready_iff.2 ⟨getD_unl' (by rw [h.size]; exact hi) (by simpa using hl), by omega, hc⟩
      rw [hr] at this; cases this
    · simp only [Classical.not_forall] at hc
      obtain ⟨e, he, hc⟩ := hc
      exact ⟨e, he, hc⟩
  have all : ∀ d : List Nat, OrdDone (dirsOf ops.toList) d → (∀ i ∈ d, i < N) → ∀ i ∈ d, listed.getD i false = true := by
    intro d
    induction d with
    | nil => intro _ _ i hi; cases hi
    | cons x d ih =>
      intro ho hlt i hi
      have ihd := ih ho.2 (fun i hi => hlt i (by simp [hi]))
      rcases List.mem_cons.1 hi with rfl | hi
      · refine Classical.byContradiction fun hc => ?_
        obtain ⟨e, he, hc⟩ := stuck i (hlt i (by simp)) hc
        exact hc (ihd e (ho.1 e he))
      · exact ihd i hi
  have hall := all done h.ord h.lt
  have hnil : sch = [] := by
    rcases hh with hh | ⟨j, ws, r, rfl⟩
    · exact hh
    · obtain ⟨c1, c2, c3, _⟩ := schOk_cons h.chk
      obtain ⟨e, he, hc⟩ := stuck j c3 (fun hl => c2 (h.sub j hl))
      exact absurd (hall e (c1 e he)) hc
  subst hnil
  refine ⟨h.run, h.frr.weak (fun s => .inr ?_)⟩
  exact (lag_eq (fun i hi hl => by rw [hall i hi] at hl; cases hl)).symm

theorem any_ok (hQ : ∀ fr st, Q fr st → Qx .normal fr st) (hN : N = ops.size)
    (hspec : ∀ i o, ops[i]? = some o → resOp P o.op = some (rops.getD i default).rhs ∧ resGuard ops.toList o.guard = some (rops.getD i default).guard ∧ o.dst = (rops.getD i default).dst ∧ o.dst.all (fun d => d < n) = true ∧ (rops.getD i default).guard.all (fun p => p.1 < n) = true)
    (hpre : ∀ j, ∀ i ∈ pre.getD j [], ∀ L : Nat → Prop, (∀ k, L k → ∀ e ∈ (dirsOf ops.toList).getD k [], L e) → (∀ e ∈ (dirsOf ops.toList).getD j [], L e) → L i) :
    ∀ (fuel : Nat) (listed : Array Bool) (done : List Nat) (sch : Sch) (fr : Fr) (st : St) (a : Act) (w : World) (g : G), RInv P n D0 Q g0 N rops (dirsOf ops.toList) pre acts listed done sch fr st a w g →
      (sch = [] ∨ ∃ j ws r, sch = (j, true, ws) :: r) → cnt listed.toList ≤ fuel → wpAnyIn (FF ro) 0 P .any ops (Lift P n D0 g0 Qx) fuel listed a w := by
  have fin : ∀ (listed : Array Bool) (done : List Nat) (sch : Sch) (fr : Fr) (st : St) (a : Act) (w : World) (g : G), RInv P n D0 Q g0 N rops (dirsOf ops.toList) pre acts listed done sch fr st a w g →
      (sch = [] ∨ ∃ j ws r, sch = (j, true, ws) :: r) → Region.ready .any ops listed = [] → Lift P n D0 g0 Qx .normal a w := by
    intro listed done sch fr st a w g h hh hr
    obtain ⟨h1, h2⟩ := h.finish hN hr hh
    exact ⟨.normal, g, fr, st, rfl, h.gle, ⟨h.sim, h2, h.dfr⟩, hQ _ _ h1⟩
  intro fuel
  induction fuel with
  | zero =>
    intro listed done sch fr st a w g h hh hc
    have hr : Region.ready .any ops listed = [] := by
      cases hr : Region.ready .any ops listed with
      | nil => rfl
      | cons j l =>
        have : j ∈ Region.ready .any ops listed := by rw [hr]; simp
        have := cnt_pos (getD_unl (ready_iff.1 this).1).2.2
        omega
    exact ⟨hr, fin _ _ _ _ _ _ _ _ h hh hr⟩
  | succ fuel ih =>
    intro listed done sch fr st a w g h hh hc
    refine ⟨fin _ _ _ _ _ _ _ _ h hh, fun j hj => ?_⟩
    obtain ⟨hj1, hj2, hj3⟩ := ready_iff.1 hj
    obtain ⟨hj4, hj5, hj6⟩ := getD_unl hj1
    have hjN : j < N := by omega
    have hset : ∀ i, (listed.setIfInBounds j true).getD i false = true ↔ i = j ∨ listed.getD i false = true := fun i => getD_set hj4
    have hcnt : cnt (listed.setIfInBounds j true).toList ≤ fuel := by
      have := cnt_set hj6
      simp only [Array.toList_setIfInBounds]; omega
    have hdown : ∀ i, (listed.setIfInBounds j true).getD i false = true → ∀ e ∈ (dirsOf ops.toList).getD i [], (listed.setIfInBounds j true).getD e false = true := by
      intro i hi e he
      rcases (hset i).1 hi with rfl | hi
      · exact (hset e).2 (.inr (hj3 e he))
      · exact (hset e).2 (.inr (h.down i hi e he))
    have hpj : ∀ i ∈ pre.getD j [], listed.getD i false = true := fun i hi => hpre j i hi (fun k => listed.getD k false = true) h.down hj3
    have free : readsOk N rops pre acts j → ∀ s ∈ (rops.getD j default).reads, lag rops listed done fr s = fr s := by
      intro hrd s hs
      refine lag_eq (fun i hi hl hd => ?_)
      rcases hrd i (h.lt i hi) s hd hs with ha | hp
      · exact (h.pend i hi hl).1 ha
      · rw [hpj i hp] at hl; cases hl
    obtain ⟨p1, p2, p3, p4, p5⟩ := hspec j ops[j] (by simp [hj2])
    have unl : ∀ i, (listed.setIfInBounds j true).getD i false = false → i ≠ j ∧ listed.getD i false = false := by
      intro i hi
      constructor
      · intro e; rw [(hset i).2 (.inl e)] at hi; cases hi
      · cases hl : listed.getD i false with
        | false => rfl
        | true => rw [(hset i).2 (.inr hl)] at hi; cases hi
    have lnu : ∀ i, i ≠ j → listed.getD i false = false → (listed.setIfInBounds j true).getD i false = false := by
      intro i hne hl
      cases hl' : (listed.setIfInBounds j true).getD i false with
      | false => rfl
      | true =>
        rcases (hset i).1 hl' with e | e
        · exact absurd e hne
        · rw [hl] at e; cases e
    by_cases hd : j ∈ done
    · -- it has been seen ahead
      obtain ⟨hna, hre⟩ := h.pend j hd hj5
      have hfree := free (h.rd j hd)
      refine op_step (K1 := fun v st' => st' = st ∧ dstIs fr (rops.getD j default).dst v) (by simp [hj2]) p1 p2 p3 p4 p5 h.sim h.frr ?_ ?_
      · unfold reP at hre
        rw [← guardP_congr hfree] at hre
        refine guardP_mono (fun b hb => ?_) hre
        cases b
        · exact ⟨rfl, hb⟩
        · simp only [if_true] at hb ⊢
          rw [← aop_congr (reads_ev hfree)] at hb
          exact aexec_of_op hb
      · rintro g' v x st' w' q1 q2 q3 q4 ⟨rfl, q5⟩
        refine ih _ done sch fr st' _ w' g' ⟨h.gle.trans q1, q3, ?_, ?_, by simp [h.size], ?_, h.lt, fun i hi hl => h.pend i hi (unl i hl).2, h.rd, hdown, h.ord, h.run, h.chk⟩ hh hcnt
        · have hp := put_rel (h.frr.mono q1) p4 q4
          refine hp.weak (fun s => ?_)
          rcases lag_or rops (listed.setIfInBounds j true) done fr s with e | ⟨e, hne⟩
          · exact .inl e
          · right
            rw [e, p3]
            by_cases hs : (rops.getD j default).dst = some s
            · rw [updo_eq hs]; rw [hs] at q5; exact q5
            · rw [updo_ne hs]
              refine (lag_eq (fun i hi hl hds => ?_)).symm
              by_cases hij : i = j
              · subst hij; exact hs hds
              · exact hne i hi (lnu i hij hl) hds
        · obtain ⟨l, e1, e2⟩ := h.dfr
          exact ⟨l, by rw [q2]; exact e1, by rw [put_defers]; exact e2⟩
        · intro i hi
          rcases (hset i).1 hi with rfl | hi
          · exact hd
          · exact h.sub i hi
    · -- the next active one
      rcases hh with rfl | ⟨k, ws, r, rfl⟩
      · have := h.chk
        simp only [schOk, List.all_eq_true, List.contains_eq_mem, decide_eq_true_eq] at this
        exact absurd (this j (List.mem_range.2 hjN)) hd
      · obtain ⟨c1, c2, c3, c4, c5, c6, _, c8⟩ := schOk_cons h.chk
        obtain ⟨c6, c7⟩ := c6 rfl
        have hkj : k = j := by
          refine Classical.byContradiction fun hne => ?_
          obtain ⟨e, he, hnd⟩ := c6 j hjN (fun e => hne e.symm) hd
          exact hnd (h.sub e (hj3 e he))
        subst hkj
        have hfree := free c5
        have hrun := h.run
        simp only [aregD] at hrun
        refine op_step (K1 := fun v st' => watchP rops ws (updo fr (rops.getD k default).dst v) st' ∧ aregD P rops r Q (updo fr (rops.getD k default).dst v) st') (by simp [hj2]) p1 p2 p3 p4 p5 h.sim h.frr ?_ ?_
        · rw [guardP_congr hfree]
          refine guardP_mono (fun b hb => ?_) hrun
          cases b
          · exact hb
          · simp only [if_true] at hb ⊢
            exact (aexec_congr (reads_ev hfree) _ _).2 hb
        · rintro g' v x st' w' q1 q2 q3 q4 ⟨q5, q6⟩
          have inv : RInv P n D0 Q g0 N rops (dirsOf ops.toList) pre acts (listed.setIfInBounds k true) (k :: done) r (updo fr (rops.getD k default).dst v) st' (a.put ops[k].dst x) w' g' := by
            refine ⟨h.gle.trans q1, q3, ?_, ?_, by simp [h.size], ?_, ?_, ?_, ?_, hdown, ⟨c1, h.ord⟩, q6, c8⟩
            · have hp := put_rel (h.frr.mono q1) p4 q4
              refine hp.weak (fun s => ?_)
              rcases lag_or rops (listed.setIfInBounds k true) (k :: done) (updo fr (rops.getD k default).dst v) s with e | ⟨e, hne⟩
              · exact .inl e
              · right
                rw [e, p3]
                by_cases hs : (rops.getD k default).dst = some s
                · rw [updo_eq hs, updo_eq hs]
                · rw [updo_ne hs, updo_ne hs]
                  refine (lag_eq (fun i hi hl hds => ?_)).symm
                  exact hne i (List.mem_cons_of_mem _ hi) (lnu i (fun e => hd (e ▸ hi)) hl) hds
            · obtain ⟨l, e1, e2⟩ := h.dfr
              exact ⟨l, by rw [q2]; exact e1, by rw [put_defers]; exact e2⟩
            · intro i hi
              rcases (hset i).1 hi with rfl | hi
              · exact List.mem_cons_self ..
              · exact List.mem_cons_of_mem _ (h.sub i hi)
            · intro i hi
              rcases List.mem_cons.1 hi with rfl | hi
              · exact c3
              · exact h.lt i hi
            · intro i hi hl
              obtain ⟨hne, hl⟩ := unl i hl
              rcases List.mem_cons.1 hi with e | hi
              · exact absurd e hne
              · refine ⟨(h.pend i hi hl).1, ?_⟩
                rcases c7 i hi with ha | hp | hw
                · exact absurd ha (h.pend i hi hl).1
                · rw [hpj i hp] at hl; cases hl
                · exact watchP_mem q5 i hw
            · intro i hi
              rcases List.mem_cons.1 hi with rfl | hi
              · exact c5
              · exact h.rd i hi
          obtain ⟨done', sch', fr', inv', hh'⟩ := inv.peel
          exact ih _ done' sch' fr' st' _ w' g' inv' hh' hcnt

end Go.Proofs.Ytmgkjbphlbpbfaa.AM
