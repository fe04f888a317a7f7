/- The abstract layer: regions that draw their order: soundness. -/
import Derived.Test.YtmjnpfackanhlaaAmReg
namespace Go.Proofs.Ytmjnpfackanhlaa.AM
open Go Go.RowKit
set_option linter.unusedSimpArgs false
set_option linter.unusedVariables false
variable {P : Program} {n : Nat} {ro : Option Nat} {D0 : List (Nat × Go.Obj)} {Q : Fr → St → Prop} {g0 : G} {Qx : APost} {ops : Array Oper} {N : Nat} {rops : List ROp} {dirs pre : List (List Nat)} {acts : List Nat} {mks : List (Nat × Option Nat)}

def Early (g : G) (rops : List ROp) (listed : Array Bool) (fr : Fr) (t : Array Value) (mks : List (Nat × Option Nat)) (e : Nat × Nat × Go.Obj) : Prop :=
 ∃ m ∈ mks, m.1 = e.1 ∧ listed.getD m.1 false = true ∧ ∃ d z c ty cs, rops.getD m.1 default = ⟨some d, none, .alloc z⟩ ∧ t.getD d undef = .pointer (some ⟨e.2.1, 0, none⟩) ∧ e.2.2 = .cells c ty (0, 0) ∧ CellsRel g cs c ∧ cs.length = z.length ∧
  (m.2 = none → cs = z) ∧ ∀ k, m.2 = some k → (listed.getD k false = true → ∀ x, rops.getD k default = ⟨none, none, .st z.length (.s d) x⟩ → (x.ev fr).cells = some cs) ∧ (listed.getD k false = false → cs = z)

structure EarlyOk (g : G) (rops : List ROp) (listed : Array Bool) (fr : Fr) (t : Array Value) (mks : List (Nat × Option Nat)) (el : List (Nat × Nat × Go.Obj)) : Prop where
 all : ∀ m ∈ mks, listed.getD m.1 false = true → ∃ b o, (m.1, b, o) ∈ el
 each : ∀ e ∈ el, Early g rops listed fr t mks e
 nd : (el.map (·.1)).Nodup

structure RInv (P : Program) (n : Nat) (D0 : List (Nat × Go.Obj)) (Q : Fr → St → Prop) (g0 : G) (N : Nat) (rops : List ROp) (dirs pre : List (List Nat)) (acts : List Nat) (mks : List (Nat × Option Nat))
  (listed : Array Bool) (done : List Nat) (sch : Sch) (fr : Fr) (st : St) (a : Act) (w : World) (g : G) : Prop where
 gle : g0.le g
 sim : Sim P g st w
 frr : FrRel g n (lag rops (mkIds mks) listed done fr) a.tmps
 dfr : ∃ (el : List (Nat × Nat × Go.Obj)) (l : List Nat), g.dfr = el.map (·.2) ++ (l.map dmk ++ D0) ∧ a.defers = l.map mark ∧ EarlyOk g rops listed fr a.tmps mks el
 size : listed.size = N
 sub : ∀ i, listed.getD i false = true → i ∈ done ∨ i ∈ mkIds mks
 dm : ∀ i ∈ done, i ∉ mkIds mks
 lt : ∀ i ∈ done, i < N
 pend : ∀ i ∈ done, listed.getD i false = false → i ∉ acts ∧ reP (rops.getD i default) fr st
 rd : ∀ i ∈ done, readsOk N rops pre acts i
 down : ∀ i, listed.getD i false = true → ∀ e ∈ dirs.getD i [], listed.getD e false = true
 prel : ∀ k, listed.getD k false = true → ∀ i ∈ pre.getD k [], listed.getD i false = true
 run : aregD P rops (sch ++ tailOf mks) Q fr st
 chk : schOk N dirs pre rops (mkIds mks) acts done sch = true

theorem FrRel.weak {g : G} {fr fr' : Fr} {t : Array Value} (h : FrRel g n fr t) (hw : ∀ s, fr' s = .junk ∨ fr' s = fr s) : FrRel g n fr' t :=
 ⟨h.1, fun s => by rcases hw s with e | e <;> rw [e]; exact .junk _; exact h.2 s⟩

theorem updo_ne {fr : Fr} {d : Option Nat} {v : V} {s : Nat} (h : d ≠ some s) : updo fr d v s = fr s := by
 cases d with
 | none => rfl
 | some d => exact upd_ne _ _ (fun e => h (by rw [e]))
theorem updo_eq {fr : Fr} {d : Option Nat} {v : V} {s : Nat} (h : d = some s) : updo fr d v s = v := by
 subst h; exact upd_eq _ _ _

theorem dstIs_updo (fr : Fr) (d : Option Nat) (v : V) : dstIs (updo fr d v) d v := by
 cases d with
 | none => trivial
 | some d => exact upd_eq _ _ _


theorem mem_mkIds {j : Nat} : j ∈ mkIds mks ↔ ∃ m ∈ mks, m.1 = j ∨ m.2 = some j := by
 simp only [mkIds, List.mem_flatMap, List.mem_cons, Option.mem_toList]
 constructor
 ·rintro ⟨m, hm, rfl | h⟩
  ·exact ⟨m, hm, .inl rfl⟩
  ·exact ⟨m, hm, .inr h⟩
 ·rintro ⟨m, hm, rfl | h⟩
  ·exact ⟨m, hm, .inl rfl⟩
  ·exact ⟨m, hm, .inr h⟩

theorem mdst_iff (hM : MOk N pre rops acts mks) {s : Nat} : mdst rops (mkIds mks) s = true ↔ ∃ m ∈ mks, (rops.getD m.1 default).dst = some s := by
 simp only [mdst, List.any_eq_true, beq_iff_eq]
 constructor
 ·rintro ⟨i, hi, hd⟩
  obtain ⟨m, hm, rfl | h⟩ := mem_mkIds.1 hi
  ·exact ⟨m, hm, hd⟩
  ·obtain ⟨_, _, d, z, _, _, _, _, h6⟩ := hM.alloc m hm
   obtain ⟨_, _, _, _, x, hx, _⟩ := h6 i h
   rw [hx] at hd; cases hd
 ·rintro ⟨m, hm, hd⟩
  exact ⟨m.1, mem_mkIds.2 ⟨m, hm, .inl rfl⟩, hd⟩

theorem mdst_main (hM : MOk N pre rops acts mks) {j s : Nat} (hj : j ∉ mkIds mks) (hN : j < N) (hd : (rops.getD j default).dst = some s) : mdst rops (mkIds mks) s = false := by
 cases h : mdst rops (mkIds mks) s with
 | false => rfl
 | true =>
  obtain ⟨m, hm, hd'⟩ := (mdst_iff hM).1 h
  obtain ⟨_, _, d, z, hop, _, h4, _⟩ := hM.alloc m hm
  rw [hop] at hd'; cases hd'
  exact absurd (mem_mkIds.2 ⟨m, hm, .inl (h4 j hN hd).symm⟩) hj

theorem mdst_reads (hM : MOk N pre rops acts mks) {j s : Nat} (hj : j ∉ mkIds mks) (hN : j < N) (hd : s ∈ (rops.getD j default).reads) : mdst rops (mkIds mks) s = false := by
 cases h : mdst rops (mkIds mks) s with
 | false => rfl
 | true =>
  obtain ⟨m, hm, hd'⟩ := (mdst_iff hM).1 h
  obtain ⟨_, _, d, z, hop, _, _, h5, _⟩ := hM.alloc m hm
  rw [hop] at hd'; cases hd'
  exact absurd (mem_mkIds.2 ⟨m, hm, .inr (h5 j hN hd)⟩) hj

theorem mdst_slot (hM : MOk N pre rops acts mks) {m : Nat × Option Nat} (hm : m ∈ mks) {k d nn s : Nat} {x : X} (hk : m.2 = some k) (hx : rops.getD k default = ⟨none, none, .st nn (.s d) x⟩) (hs : s ∈ x.slot) : mdst rops (mkIds mks) s = false := by
 cases h : mdst rops (mkIds mks) s with
 | false => rfl
 | true =>
  obtain ⟨m', hm', hd'⟩ := (mdst_iff hM).1 h
  obtain ⟨_, _, d', z', hop', _, _, h5', h6'⟩ := hM.alloc m' hm'
  rw [hop'] at hd'; cases hd'
  obtain ⟨_, _, d0, z0, hop, _, _, h5, h6⟩ := hM.alloc m hm
  obtain ⟨q1, _, _, _, x', hx', hnx, _⟩ := h6 k hk
  rw [hx] at hx'; cases hx'
  have hr : s ∈ (rops.getD k default).reads := by
   rw [hx]; unfold ROp.reads; simp only [RO.xs, List.flatMap_cons, List.flatMap_nil, List.append_nil]
   exact List.mem_append_right _ hs
  have e := hM.u2 m hm m' hm' k hk (h5' k q1 hr)
  rw [e, hop'] at hop; cases hop
  exact absurd hs hnx

theorem slot_stays (hM : MOk N pre rops acts mks) {listed : Array Bool} {done : List Nat} (hsub : ∀ i, listed.getD i false = true → i ∈ done ∨ i ∈ mkIds mks) (hprel : ∀ k, listed.getD k false = true → ∀ i ∈ pre.getD k [], listed.getD i false = true)
  {j : Nat} (hj : j ∉ done) (hjm : j ∉ mkIds mks) (hjN : j < N) {m : Nat × Option Nat} (hm : m ∈ mks) {k d nn : Nat} {x : X} (hk : m.2 = some k) (hl : listed.getD k false = true) (hx : rops.getD k default = ⟨none, none, .st nn (.s d) x⟩)
  {fr : Fr} {v : V} : x.ev (updo fr (rops.getD j default).dst v) = x.ev fr := by
 cases x with
 | c u => rfl
 | s s =>
  refine updo_ne (fun hd => ?_)
  obtain ⟨_, _, d0, z0, hop, _, _, _, h6⟩ := hM.alloc m hm
  obtain ⟨_, _, _, _, x', hx', _, h7⟩ := h6 k hk
  rw [hx] at hx'; cases hx'
  rcases hsub j (hprel k hl j (h7 j hjN s (by simp [X.slot]) hd)) with h | h
  ·exact hj h
  ·exact hjm h

theorem CellsRel.le {g g' : G} (hg : g.le g') {cs : List V} {vs : Array Value} (h : CellsRel g cs vs) : CellsRel g' cs vs := ⟨h.1, fun i hi => ⟨(h.2 i hi).1.mono hg, (h.2 i hi).2⟩⟩

theorem Early.step {g g' : G} {listed listed' : Array Bool} {fr fr' : Fr} {t t' : Array Value} {e : Nat × Nat × Go.Obj} (h : Early g rops listed fr t mks e) (hg : g.le g') (hl : ∀ i, listed.getD i false = true → listed'.getD i false = true)
  (hs : ∀ m ∈ mks, m.1 = e.1 → ∀ k, m.2 = some k → listed'.getD k false = listed.getD k false)
  (ht : ∀ m ∈ mks, listed.getD m.1 false = true → ∀ d, (rops.getD m.1 default).dst = some d → t'.getD d undef = t.getD d undef)
  (hf : ∀ m ∈ mks, ∀ k, m.2 = some k → listed.getD k false = true → ∀ nn d x, rops.getD k default = ⟨none, none, .st nn (.s d) x⟩ → x.ev fr' = x.ev fr) : Early g' rops listed' fr' t' mks e := by
 obtain ⟨m, hm, h1, h2, d, z, c, ty, cs, h3, h4, h5, h6, h7, h8, h9⟩ := h
 refine ⟨m, hm, h1, hl _ h2, d, z, c, ty, cs, h3, by rw [ht m hm h2 d (by rw [h3])]; exact h4, h5, h6.le hg, h7, h8, fun k hk => ⟨fun q x hx => ?_, fun q => ?_⟩⟩
 ·rw [hs m hm h1 k hk] at q
  rw [hf m hm k hk q _ _ _ hx]; exact (h9 k hk).1 q x hx
 ·rw [hs m hm h1 k hk] at q
  exact (h9 k hk).2 q

theorem EarlyOk.step {g g' : G} {listed listed' : Array Bool} {fr fr' : Fr} {t t' : Array Value} {el : List (Nat × Nat × Go.Obj)} (h : EarlyOk g rops listed fr t mks el) (hg : g.le g') (hl : ∀ i, listed.getD i false = true → listed'.getD i false = true)
  (hl2 : ∀ i ∈ mkIds mks, listed'.getD i false = listed.getD i false)
  (ht : ∀ m ∈ mks, listed.getD m.1 false = true → ∀ d, (rops.getD m.1 default).dst = some d → t'.getD d undef = t.getD d undef)
  (hf : ∀ m ∈ mks, ∀ k, m.2 = some k → listed.getD k false = true → ∀ nn d x, rops.getD k default = ⟨none, none, .st nn (.s d) x⟩ → x.ev fr' = x.ev fr) : EarlyOk g' rops listed' fr' t' mks el :=
 ⟨fun m hm hq => h.all m hm (by rw [← hl2 _ (mem_mkIds.2 ⟨m, hm, .inl rfl⟩)]; exact hq), fun e he => (h.each e he).step hg hl (fun m hm _ k hk => hl2 _ (mem_mkIds.2 ⟨m, hm, .inr hk⟩)) ht hf, h.nd⟩

theorem RInv.peel (hM : MOk N pre rops acts mks) {listed : Array Bool} {st : St} {a : Act} {w : World} {g : G} : ∀ {sch : Sch} {done : List Nat} {fr : Fr}, RInv P n D0 Q g0 N rops dirs pre acts mks listed done sch fr st a w g →
  ∃ done' sch' fr', RInv P n D0 Q g0 N rops dirs pre acts mks listed done' sch' fr' st a w g ∧ (sch' = [] ∨ ∃ j ws r, sch' = (j, true, ws) :: r)
 | [], done, fr, h => ⟨_, _, _, h, .inl rfl⟩
 | (j, true, ws) :: r, done, fr, h => ⟨_, _, _, h, .inr ⟨_, _, _, rfl⟩⟩
 | (j, false, ws) :: r, done, fr, h => by
  obtain ⟨c1, c2, c2', c3, c4, c5, _, c7, c8⟩ := schOk_cons h.chk
  obtain ⟨c10, rfl, c9⟩ := c7 rfl
  have hrun := h.run
  simp only [List.cons_append, aregD] at hrun
  obtain ⟨b, hb⟩ := guardP_elim hrun
  have hun : listed.getD j false = false := by
   cases hl : listed.getD j false with
   | false => rfl
   | true => rcases h.sub j hl with q | q; exact absurd q c2; exact absurd q c2'
  -- the value
  have key : ∃ v, (b = true → aop (rops.getD j default).rhs fr st = some (v, st)) ∧ (b = false → v = .tup []) ∧ aregD P rops (r ++ tailOf mks) Q (updo fr (rops.getD j default).dst v) st := by
   have := (hb _).1 hrun
   cases b with
   | true =>
    obtain ⟨v, h1, h2⟩ := aexec_quiet c10 this
    exact ⟨v, fun _ => h1, (by simp), h2.2⟩
   | false => exact ⟨.tup [], (by simp), fun _ => rfl, this.2⟩
  obtain ⟨v, k1, k2, k3⟩ := key
  let fr' := updo fr (rops.getD j default).dst v
  have same : ∀ s, (rops.getD j default).dst ≠ some s → fr s = fr' s := fun s hs => (updo_ne hs).symm
  have keep : ∀ i ∈ done, reP (rops.getD i default) fr st → reP (rops.getD i default) fr' st := by
   intro i hi hr
   refine reP_congr (fun s hs => same s (fun e => (c9 s e).1 i (by simp [hi]) hs)) (fun d hd => same d (fun e => (c9 d e).2 i hi hd)) hr
  have own : reP (rops.getD j default) fr' st := by
   have hsame : ∀ s ∈ (rops.getD j default).reads, fr s = fr' s := fun s hs => same s (fun e => (c9 s e).1 j (by simp) hs)
   unfold reP
   rw [← guardP_congr hsame, hb]
   cases b with
   | true =>
    simp only [if_true]
    rw [← aop_congr (reads_ev hsame), k1 rfl]
    exact ⟨rfl, dstIs_updo _ _ _⟩
   | false => rw [← k2 rfl]; exact dstIs_updo _ _ _
  have inv : RInv P n D0 Q g0 N rops dirs pre acts mks listed (j :: done) r fr' st a w g := by
   refine ⟨h.gle, h.sim, h.frr.weak (fun s => ?_), ?_, h.size, fun i hi => (h.sub i hi).imp (List.mem_cons_of_mem _) id, ?_, ?_, ?_, ?_, h.down, h.prel, k3, c8⟩
   ·rcases lag_or rops (mkIds mks) listed (j :: done) fr' s with e | ⟨e, hm, hne⟩
    ·exact .inl e
    ·right
     rw [e, lag_eq hm (fun i hi hl => hne i (List.mem_cons_of_mem _ hi) hl)]
     exact updo_ne (hne j (by simp) hun)
   ·obtain ⟨el, l, e1, e2, e3⟩ := h.dfr
    exact ⟨el, l, e1, e2, e3.step (.refl g) (fun _ h => h) (fun _ _ => rfl) (fun _ _ _ _ _ => rfl) (fun m hm k hk hl nn d x hx => slot_stays hM h.sub h.prel c2 c2' c3 hm hk hl hx)⟩
   ·intro i hi
    rcases List.mem_cons.1 hi with rfl | hi
    ·exact c2'
    ·exact h.dm i hi
   ·intro i hi
    rcases List.mem_cons.1 hi with rfl | hi
    ·exact c3
    ·exact h.lt i hi
   ·intro i hi hl
    rcases List.mem_cons.1 hi with rfl | hi
    ·exact ⟨(fun e => Bool.noConfusion (c4.2 e)), own⟩
    ·exact ⟨(h.pend i hi hl).1, keep i hi (h.pend i hi hl).2⟩
   ·intro i hi
    rcases List.mem_cons.1 hi with rfl | hi
    ·exact c5
    ·exact h.rd i hi
  exact RInv.peel hM inv

theorem op_step {i : Nat} {o : Oper} {r : ROp} (hi : ops[i]? = some o) (h1 : ResF P o.op r.rhs) (h2 : resGuard ops.toList o.guard = some r.guard) (hd : o.dst = r.dst) (hb : o.dst.all (fun d => d < n) = true) (hgn : r.guard.all (fun p => p.1 < n) = true)
  {g : G} {fr : Fr} {st : St} {a : Act} {w : World} (hs : Sim P g st w) (hf : FrRel g n fr a.tmps) {K1 : V → St → Prop} {next : Act → World → Prop} {Qr : Exit → Act → World → Prop}
  (hw : guardP r.guard fr fun want => if want then aexec P r.rhs fr st K1 else K1 (.tup []) st)
  (hn : ∀ g' v x st' w', g.le g' → g'.dfr = g.dfr → Sim P g' st' w' → VRel g' v x → K1 v st' → next (a.put o.dst x) w') : wpOpIn (FF ro) 0 P ops Qr i next a w := by
 unfold wpOpIn
 simp only [hi]
 have hw := wanted_rel hf h2 hgn hw
 have habout : ∀ f, o.about P w a.eval = some f → (FF ro).fn f := fun f _ => FF_fn ro f
 cases hwant : Region.wanted o (yielded ops a.tmps) with
 | false =>
  rw [hwant] at hw
  simp only [Bool.false_eq_true, if_false] at hw ⊢
  exact ⟨habout, hn g _ undef st w (.refl g) rfl hs (.tup [] #[] rfl (fun i hi => by simp at hi)) hw⟩
 | true =>
  rw [hwant] at hw
  simp only [if_true] at hw ⊢
  refine ⟨habout, ?_⟩
  rw [Oper.semAt_eq _ _ _ (no_defer h1.ex.choose_spec)]
  rcases aexec_op hw with ⟨f, args, hrhs, hw⟩ | ⟨v, st', hv, hrest⟩
  ·rw [hrhs] at h1
   have h1 := h1.of (fun c e => by cases e) (fun _ _ _ _ e => by cases e)
   obtain ⟨c, as, ts, hop, q1, q2⟩ := resOp_call h1
   obtain ⟨d, hd', hcr⟩ := hw g w (a.eval c) (as.map a.eval) hs (resX_rel hf q1) (resXs_rels hf q2)
   have hrun : ∀ nx, (invoke d.target d.args).run P w = .ok nx w → (execOp a.eval o).run P w = .ok nx w := by
    intro nx hi
    simp only [execOp, hop, resolve, Sem.run_bind, hd', Result.andThen_ok]
    exact hi
   rcases hcr with ⟨f', as', h4, h5⟩ | ⟨l', f', t', a', b', h4, h5⟩
   ·rw [hrun _ h4, Oper.uponIn_enter]
    refine ⟨by rw [FF_depth]; simp, callsIn_FF (h5.mono ?_)⟩
    rintro e w' ⟨r, x, g', st', rfl, e1, e2, e3, e4, e5⟩
    exact hn g' r x st' w' e1 e2 e3 e4 e5
   ·rw [hrun _ h4, Oper.uponIn_round]
    refine ⟨by rw [FF_depth]; simp, roundIn_FF (h5.mono ?_)⟩
    rintro e w' ⟨r, x, g', st', rfl, e1, e2, e3, e4, e5⟩
    exact hn g' r x st' w' e1 e2 e3 e4 e5
  ·obtain ⟨nx, w', g', x, e1, e2, e3, e4, e5, e6⟩ := op_okF hs hf h1 hv
   rw [e1]
   rcases e2 with rfl | ⟨rfl, rfl⟩
   ·rw [Oper.uponIn_value]; exact hn g' v x st' w' e3 e4 e5 e6 hrest
   ·rw [Oper.uponIn_skip]; exact hn g' v undef st' w' e3 e4 e5 e6 hrest


theorem op_made {i : Nat} {o : Oper} (hi : ops[i]? = some o) (hg : o.guard = none) {rhs : RO} (h1 : resOp P o.op = some rhs) {a : Act} {w w' : World} {nx : Next} {x : Value} (hx : nx = .value x ∨ nx = .skip ∧ x = undef)
  (hrun : (execOp a.eval o).run P w = .ok nx w') {next : Act → World → Prop} {Qr : Exit → Act → World → Prop} (hn : next (a.put o.dst x) w') : wpOpIn (FF ro) 0 P ops Qr i next a w := by
 unfold wpOpIn
 simp only [hi]
 have hwant : Region.wanted o (yielded ops a.tmps) = true := by unfold Region.wanted; rw [hg]
 simp only [hwant, if_true]
 refine ⟨fun f _ => FF_fn ro f, ?_⟩
 rw [Oper.semAt_eq _ _ _ (no_defer h1), hrun]
 rcases hx with rfl | ⟨rfl, rfl⟩
 ·rw [Oper.uponIn_value]; exact hn
 ·rw [Oper.uponIn_skip]; exact hn

theorem aexec_of_op {r : RO} {fr : Fr} {st : St} {K : V → St → Prop} (h : opP (aop r fr st) K) : aexec P r fr st K := by
 by_cases hc : ∃ f args, r = .call f args
 ·obtain ⟨f, args, rfl⟩ := hc; simp [aop, opP] at h
 ·rw [aexec_eq hc]; exact h

theorem watchP_mem {ws : List Nat} {fr : Fr} {st : St} (h : watchP rops ws fr st) : ∀ i ∈ ws, reP (rops.getD i default) fr st := by
 induction ws with
 | nil => intro i hi; cases hi
 | cons x ws ih =>
  intro i hi
  rcases List.mem_cons.1 hi with rfl | hi
  ·exact h.1
  ·exact ih h.2 i hi

def cnt : List Bool → Nat
 | [] => 0
 | true :: l => cnt l
 | false :: l => cnt l + 1

theorem cnt_set : ∀ {l : List Bool} {i : Nat}, l[i]? = some false → cnt (l.set i true) + 1 = cnt l
 | [], i, h => by simp at h
 | b :: l, 0, h => by simp at h; subst h; simp [cnt]
 | b :: l, i + 1, h => by
  have := cnt_set (l := l) (i := i) (by simpa using h)
  cases b <;> simp [cnt] <;> omega

theorem cnt_pos : ∀ {l : List Bool} {i : Nat}, l[i]? = some false → 0 < cnt l
 | [], i, h => by simp at h
 | b :: l, 0, h => by simp at h; subst h; simp [cnt]
 | b :: l, i + 1, h => by
  have := cnt_pos (l := l) (i := i) (by simpa using h)
  cases b <;> simp [cnt] <;> omega

theorem getD_unl {l : Array Bool} {i : Nat} (h : l.getD i true = false) : i < l.size ∧ l.getD i false = false ∧ l.toList[i]? = some false := by
 by_cases hi : i < l.size
 ·simp [Array.getD, hi] at h; simp [Array.getD, hi, h]
 ·simp [Array.getD, hi] at h

theorem getD_unl' {l : Array Bool} {i : Nat} (hi : i < l.size) (h : l.getD i false = false) : l.getD i true = false := by
 simp [Array.getD, hi] at h ⊢; exact h

theorem getD_set {l : Array Bool} {i j : Nat} (hi : i < l.size) : (l.setIfInBounds i true).getD j false = true ↔ j = i ∨ l.getD j false = true := by
 by_cases h : j = i
 ·subst h; simp [Array.getD, hi]
 ·simp only [h, false_or, Array.getD_eq_getD_getElem?]
  rw [Array.getElem?_setIfInBounds_ne (fun e => h e.symm)]

theorem dirs_get {j : Nat} {o : Oper} (h : ops[j]? = some o) : (dirsOf ops.toList).getD j [] = (o.after.toList.filter fun e => Region.binds .any e).map (·.on) := by
 have : ops.toList[j]? = some o := by simpa using h
 simp [dirsOf, List.getD, this]

theorem ready_iff {j : Nat} {listed : Array Bool} : j ∈ Region.ready .any ops listed ↔ listed.getD j true = false ∧ j < ops.size ∧ ∀ e ∈ (dirsOf ops.toList).getD j [], listed.getD e false = true := by
 rw [mem_ready]
 constructor
 ·rintro ⟨h1, o, ho, h2⟩
  refine ⟨h1, (Array.getElem?_eq_some_iff.1 ho).1, ?_⟩
  rw [dirs_get ho]
  intro e he
  obtain ⟨x, hx, rfl⟩ := List.mem_map.1 he
  obtain ⟨hx, hb⟩ := List.mem_filter.1 hx
  exact h2 x (by simpa using hx) hb
 ·rintro ⟨h1, h2, h3⟩
  refine ⟨h1, ops[j], by simp [h2], fun e he hb => ?_⟩
  rw [dirs_get (o := ops[j]) (by simp [h2])] at h3
  exact h3 _ (List.mem_map.2 ⟨e, List.mem_filter.2 ⟨by simpa using he, hb⟩, rfl⟩)


/-! ### blocks that are made ahead -/
def G.redfr (g : G) (l : List (Nat × Go.Obj)) : G := { g with dfr := l }
theorem G.redfr_le (g : G) (l : List (Nat × Go.Obj)) : g.le (g.redfr l) := ⟨rfl, rfl, Nat.le_refl _, fun _ _ h => h, fun _ _ => rfl, fun _ _ => rfl, fun _ _ _ h => h, fun _ _ _ _ h => h⟩
theorem Sim.redfr {g : G} {st : St} {w : World} (h : Sim P g st w) {l : List (Nat × Go.Obj)} (hsub : ∀ D ∈ l, D ∈ g.dfr) (hnd : (l.map (·.1)).Nodup) : Sim P (g.redfr l) st w :=
 ⟨h.nv, h.B, h.below, h.imm, h.fresh, fun id ver o ho => let ⟨L, hL, h2⟩ := h.obj _ _ _ ho; ⟨L, hL, h2.mono (g.redfr_le l) (fun _ _ => rfl)⟩,
  fun id ver o L b ho hL hb => let q := h.own _ _ _ _ _ ho hL hb; ⟨q.1, q.2.1, q.2.2.1, fun hm => q.2.2.2 (by obtain ⟨D, hD, e⟩ := List.mem_map.1 hm; exact List.mem_map.2 ⟨D, hsub _ hD, e⟩)⟩, h.dis,
  fun D hD => h.dfr D (hsub _ hD), hnd⟩

theorem Sim.early {g : G} {st : St} {w : World} (h : Sim P g st w) (o : Go.Obj) : Sim P (g.redfr ((w.heap.size, o) :: g.dfr)) st { w with heap := w.heap.push o } := by
 have hsame : ∀ k, k < w.heap.size → (w.heap.push o)[k]? = w.heap[k]? := fun k hk => by simp only [Array.getElem?_push]; rw [if_neg (by omega)]
 have hsz : (w.heap.push o).size = w.heap.size + 1 := by simp
 refine ⟨h.nv, by rw [hsz]; exact Nat.le_succ_of_le h.B, ⟨h.below.os, h.below.tape, h.below.output, by rw [hsz]; exact Nat.le_succ_of_le h.below.size, fun k hk => (hsame k (Nat.lt_of_lt_of_le hk h.B)).trans (h.below.block k hk)⟩, ?_, h.fresh, ?_, ?_, h.dis, ?_, ?_⟩
 ·intro b off x hx
  have hc := h.imm b off x hx
  exact ⟨(cell_same (hsame b (lt_of_cell hc.1))).trans hc.1, hc.2⟩
 ·intro id ver o ho
  obtain ⟨L, hL, h2⟩ := h.obj _ _ _ ho
  exact ⟨L, hL, h2.mono (g.redfr_le _) (fun b hb => hsame b (h.own _ _ _ _ _ ho hL hb).2.1)⟩
 ·intro id ver o L b ho hL hb
  have := h.own _ _ _ _ _ ho hL hb
  refine ⟨this.1, by rw [hsz]; omega, this.2.2.1, fun hm => ?_⟩
  simp only [G.redfr, List.map_cons, List.mem_cons] at hm
  rcases hm with e | hm
  ·omega
  ·exact this.2.2.2 hm
 ·intro D hD
  simp only [G.redfr, List.mem_cons] at hD
  rcases hD with e | hD
  ·subst e
   refine ⟨h.B, by simp, fun off => ?_⟩
   show g.imm w.heap.size off = none
   cases hx : g.imm w.heap.size off with
   | none => rfl
   | some x => have := lt_of_cell (h.imm _ off x hx).1; omega
  ·have := h.dfr D hD
   exact ⟨this.1, (hsame D.1 (Array.getElem?_eq_some_iff.1 this.2.1).1).trans this.2.1, this.2.2⟩
 ·refine List.nodup_cons.2 ⟨fun hm => ?_, h.dnd⟩
  obtain ⟨D, hD, e⟩ := List.mem_map.1 hm
  have e : D.1 = w.heap.size := e
  have := (Array.getElem?_eq_some_iff.1 (h.dfr D hD).2.1).1; omega

theorem Sim.rewatch {g : G} {st : St} {w : World} (h : Sim P g st w) {l1 l2 : List (Nat × Go.Obj)} {b : Nat} {o o' : Go.Obj} (hd : g.dfr = l1 ++ (b, o) :: l2) {c : Array Value} (ho : ∀ (w' : World), w'.heap = w.heap.setIfInBounds b o' → True)
  {w' : World} (hos : w'.os = w.os) (htape : w'.tape = w.tape) (hout : w'.output = w.output) (hsz : w'.heap.size = w.heap.size) (hb : w'.heap[b]? = some o') (hsame : ∀ k, k ≠ b → w'.heap[k]? = w.heap[k]?) : Sim P (g.redfr (l1 ++ (b, o') :: l2)) st w' := by
 have hmem : (b, o) ∈ g.dfr := by rw [hd]; simp
 have hD := h.dfr _ hmem
 have hbin : b ∈ g.dfr.map (·.1) := List.mem_map_of_mem (f := (·.1)) hmem
 refine ⟨h.nv, by rw [hsz]; exact h.B, ⟨hos.trans h.below.os, htape.trans h.below.tape, hout.trans h.below.output, by rw [hsz]; exact h.below.size, fun k hk => (hsame k (fun e => ?_)).trans (h.below.block k hk)⟩, ?_, h.fresh, ?_, ?_, h.dis, ?_, ?_⟩
 ·have := hD.1; have : (g.redfr (l1 ++ (b, o') :: l2)).B = g.B := rfl; simp only at *; omega
 ·intro b' off x hx
  have hc := h.imm b' off x hx
  refine ⟨(cell_same (hsame b' (fun e => ?_))).trans hc.1, hc.2⟩
  have hx' : g.imm b' off = some x := hx
  rw [e, hD.2.2 off] at hx'; cases hx'
 ·intro id ver o1 ho1
  obtain ⟨L, hL, h2⟩ := h.obj _ _ _ ho1
  exact ⟨L, hL, h2.mono (g.redfr_le _) (fun b' hb' => hsame b' (fun e => (h.own _ _ _ _ _ ho1 hL hb').2.2.2 (e ▸ hbin)))⟩
 ·intro id ver o1 L b' ho1 hL hb'
  have := h.own _ _ _ _ _ ho1 hL hb'
  refine ⟨this.1, by rw [hsz]; exact this.2.1, this.2.2.1, fun hm => this.2.2.2 ?_⟩
  rw [hd]; simpa [G.redfr] using hm
 ·intro D hDm
  simp only [G.redfr, List.mem_append, List.mem_cons] at hDm
  have hnd := h.dnd
  rw [hd, List.map_append, List.map_cons] at hnd
  have hnd1 := List.nodup_append.1 hnd
  have hne : D ∈ l1 ∨ D ∈ l2 → D.1 ≠ b := by
   rintro (q | q) e
   ·exact hnd1.2.2 D.1 (List.mem_map_of_mem (f := (·.1)) q) b (by simp) e
   ·exact (List.nodup_cons.1 hnd1.2.1).1 (e ▸ List.mem_map_of_mem (f := (·.1)) q)
  have old : D ∈ l1 ∨ D ∈ l2 → g.B ≤ D.1 ∧ w'.heap[D.1]? = some D.2 ∧ ∀ off, g.imm D.1 off = none := by
   intro q
   have := h.dfr D (by rw [hd]; rcases q with q | q <;> simp [q])
   exact ⟨this.1, (hsame D.1 (hne q)).trans this.2.1, this.2.2⟩
  rcases hDm with q | rfl | q
  ·exact old (.inl q)
  ·exact ⟨hD.1, hb, hD.2.2⟩
  ·exact old (.inr q)
 ·have := h.dnd
  rw [hd] at this
  simpa [G.redfr] using this

theorem Sim.adopt {g : G} {st : St} {w : World} (h : Sim P g st w) {l1 l2 : List (Nat × Go.Obj)} {b : Nat} {c : Array Value} {ty : TypeId} (hd : g.dfr = l1 ++ (b, .cells c ty (0, 0)) :: l2) {cs : List V} (hc : CellsRel g cs c) (h0 : 0 < cs.length) :
    let L : Loc := ⟨some b, 0, cs.length, 1⟩
    let g' := (g.redfr (l1 ++ l2)).add L
    g.le g' ∧ g'.dfr = l1 ++ l2 ∧ g'.loc st.nv = some L ∧ Sim P g' (st.push (.mem cs.length [cs])) w := by
  intro L g'
  have hmem : (b, (.cells c ty (0, 0) : Go.Obj)) ∈ g.dfr := by rw [hd]; simp
  have hD := h.dfr _ hmem
  have hbin : b ∈ g.dfr.map (·.1) := List.mem_map_of_mem (f := (·.1)) hmem
  have hnd := h.dnd
  rw [hd, List.map_append, List.map_cons] at hnd
  have hnd1 := List.nodup_append.1 hnd
  have hnd2 : ((l1 ++ l2).map (·.1)).Nodup := by
    rw [List.map_append]
    exact List.nodup_append.2 ⟨hnd1.1, (List.nodup_cons.1 hnd1.2.1).2, fun x hx y hy => hnd1.2.2 x hx y (by simp only [List.mem_cons]; exact .inr hy)⟩
  have hb2 : b ∉ (l1 ++ l2).map (·.1) := by
    rw [List.map_append, List.mem_append]
    rintro (q | q)
    · exact hnd1.2.2 b q b (by simp) rfl
    · exact (List.nodup_cons.1 hnd1.2.1).1 q
  have h1 : Sim P (g.redfr (l1 ++ l2)) st w := h.redfr (fun D hDm => by rw [hd]; simp only [List.mem_append, List.mem_cons] at hDm ⊢; rcases hDm with q | q; exact .inl q; exact .inr (.inr q)) hnd2
  have hle1 := g.redfr_le (l1 ++ l2)
  have hle2 := G.add_le (g := g.redfr (l1 ++ l2)) L (h1.fresh _ (Nat.le_refl _))
  have hnv : st.nv = g.nv := h.nv
  have hlocn : g'.loc st.nv = some L := by rw [hnv]; exact G.add_loc (g := g.redfr (l1 ++ l2)) L
  refine ⟨hle1.trans hle2, rfl, hlocn, ?_⟩
  have nb : ∀ (id ver : Nat) (o : Obj) (L1 : Loc), st.objs[id]? = some (some (ver, o)) → g.loc ver = some L1 → L1.blk ≠ some b := fun id ver o L1 ho hL e => (h.own _ _ _ _ _ ho hL e).2.2.2 hbin
  have get : ∀ (id1 : Nat) (x : Option (Nat × Obj)), (st.objs ++ [some (st.nv, .mem cs.length [cs])])[id1]? = some x → (id1 = st.objs.length ∧ x = some (st.nv, .mem cs.length [cs])) ∨ (id1 < st.objs.length ∧ st.objs[id1]? = some x) := by
    intro id1 x hx
    by_cases e : id1 < st.objs.length
    · rw [List.getElem?_append_left e] at hx; exact .inr ⟨e, hx⟩
    · rw [List.getElem?_append_right (by omega)] at hx
      have h0 : id1 - st.objs.length = 0 := by
        have := (List.getElem?_eq_some_iff.1 hx).1; simp at this; omega
      rw [h0] at hx; simp at hx
      exact .inl ⟨by omega, hx.symm⟩
  have hloc : ∀ v L1, v ≠ st.nv → g'.loc v = some L1 → g.loc v = some L1 := by
    intro v L1 hv hq
    have : g'.loc v = if v = g.nv then some L else g.loc v := rfl
    rw [this, if_neg (by rw [← hnv]; exact hv)] at hq; exact hq
  have hver : ∀ (id ver : Nat) (o : Obj), st.objs[id]? = some (some (ver, o)) → ver ≠ st.nv := by
    intro id ver o ho e
    obtain ⟨L1, hL1, _⟩ := h.obj _ _ _ ho
    rw [e, hnv, h.fresh _ (Nat.le_refl _)] at hL1; cases hL1
  refine ⟨by show st.nv + 1 = g.nv + 1; rw [hnv], h1.B, h1.below, h1.imm, G.add_fresh L h1.fresh, ?_, ?_, ?_, h1.dfr, hnd2⟩
  · intro id1 ver1 o1 ho1
    rcases get _ _ ho1 with ⟨_, e⟩ | ⟨_, ho1⟩
    · cases e
      refine ⟨L, hlocn, rfl, h0, fun i hi => ?_, by simp [L], ?_⟩
      · simp at hi; subst hi; rfl
      · refine ⟨c, ty, hD.2.1, by simp [L]; exact Nat.le_of_eq hc.1, fun i j hi hj => ?_⟩
        simp at hi; subst hi
        have := hc.2 j hj
        simp only [L, Nat.zero_mul, Nat.zero_add]
        exact ⟨by simpa using this.1.mono (hle1.trans hle2), this.2⟩
    · obtain ⟨L1, hL1, h2⟩ := h1.obj _ _ _ ho1
      exact ⟨L1, hle2.loc _ _ hL1, h2.mono hle2 (fun _ _ => rfl)⟩
  · intro id1 ver1 o1 L1 b1 ho1 hL1 hb1
    rcases get _ _ ho1 with ⟨_, e⟩ | ⟨_, ho1⟩
    · cases e
      obtain rfl := Option.some.inj (hlocn.symm.trans hL1)
      simp only [L, Option.some.injEq] at hb1; subst hb1
      exact ⟨hD.1, (Array.getElem?_eq_some_iff.1 hD.2.1).1, hD.2.2, hb2⟩
    · exact h1.own _ _ _ _ _ ho1 (hloc _ _ (hver _ _ _ ho1) hL1) hb1
  · intro id1 id2 ver1 ver2 o1 o2 L1 L2 b1 ho1 ho2 hne hL1 hL2 hb1
    rcases get _ _ ho1 with ⟨e1, e⟩ | ⟨_, ho1⟩
    · cases e
      obtain rfl := Option.some.inj (hlocn.symm.trans hL1)
      simp only [L, Option.some.injEq] at hb1; subst hb1
      rcases get _ _ ho2 with ⟨e2, e⟩ | ⟨_, ho2⟩
      · exact absurd (e1.trans e2.symm) hne
      · exact nb _ _ _ _ ho2 (hloc _ _ (hver _ _ _ ho2) hL2)
    · rcases get _ _ ho2 with ⟨e2, e⟩ | ⟨_, ho2⟩
      · cases e
        obtain rfl := Option.some.inj (hlocn.symm.trans hL2)
        intro e; simp only [L, Option.some.injEq] at e; subst e
        exact nb _ _ _ _ ho1 (hloc _ _ (hver _ _ _ ho1) hL1) hb1
      · exact h1.dis _ _ _ _ _ _ _ _ _ ho1 ho2 hne (hloc _ _ (hver _ _ _ ho1) hL1) (hloc _ _ (hver _ _ _ ho2) hL2) hb1


theorem resOp_alloc {op : Op} {z : List V} (h1 : resOp P op = some (.alloc z)) : ∃ t, op = .alloc t ∧ zeroT P t = some z := by
  cases op with
  | alloc t => simp only [resOp, Option.map_eq_some_iff, RO.alloc.injEq] at h1; obtain ⟨y, hy, rfl⟩ := h1; exact ⟨t, rfl, hy⟩
  | call c =>
    exfalso
    obtain ⟨callee, as, ts⟩ := c
    cases callee with
    | value c =>
      simp only [resOp] at h1
      split at h1 <;> simp at h1
    | invoke r m => simp [resOp] at h1
    | builtin b =>
      simp only [resOp, Option.bind_eq_some_iff] at h1
      obtain ⟨xs, hx, h1⟩ := h1
      unfold resBuiltin resBuiltin2 at h1
      (repeat' split at h1) <;> first | (simp at h1; done) | (simp only [Option.map_eq_some_iff] at h1; obtain ⟨_, _, h1⟩ := h1; cases h1)
  | makeMap t r => cases r <;> simp [resOp] at h1
  | next it s => cases s <;> simp [resOp] at h1
  | _ =>
    exfalso
    first
      | (simp [resOp] at h1; done)
      | (simp only [resOp] at h1
         (repeat' split at h1) <;> first | (simp at h1; done) | (simp [Option.map_eq_some_iff] at h1; done))

theorem resOp_st {op : Op} {nn : Nat} {y x : X} (h1 : resOp P op = some (.st nn y x)) : ∃ t oy ox, op = .store t oy ox ∧ sizeT P t = some nn ∧ resX oy = some y ∧ resX ox = some x := by
  cases op with
  | store t oy ox =>
    simp only [resOp] at h1
    split at h1
    · rename_i k a b q1 q2 q3
      simp only [Option.some.injEq, RO.st.injEq] at h1
      obtain ⟨rfl, rfl, rfl⟩ := h1
      exact ⟨t, oy, ox, rfl, q1, q2, q3⟩
    · simp at h1
  | call c =>
    exfalso
    obtain ⟨callee, as, ts⟩ := c
    cases callee with
    | value c =>
      simp only [resOp] at h1
      split at h1 <;> simp at h1
    | invoke r m => simp [resOp] at h1
    | builtin b =>
      simp only [resOp, Option.bind_eq_some_iff] at h1
      obtain ⟨xs, hx, h1⟩ := h1
      unfold resBuiltin resBuiltin2 at h1
      (repeat' split at h1) <;> first | (simp at h1; done) | (simp only [Option.map_eq_some_iff] at h1; obtain ⟨_, _, h1⟩ := h1; cases h1)
  | makeMap t r => cases r <;> simp [resOp] at h1
  | next it s => cases s <;> simp [resOp] at h1
  | _ =>
    exfalso
    first
      | (simp [resOp] at h1; done)
      | (simp only [resOp] at h1
         (repeat' split at h1) <;> first | (simp at h1; done) | (simp [Option.map_eq_some_iff] at h1; done))

def Fin1 (g : G) (rops : List ROp) (mks : List (Nat × Option Nat)) (fr0 : Fr) (t : Array Value) (m : Nat × Option Nat) (e : Nat × Nat × Go.Obj) : Prop :=
 m.1 = e.1 ∧ ∃ d z c ty cs, rops.getD m.1 default = ⟨some d, none, .alloc z⟩ ∧ t.getD d undef = .pointer (some ⟨e.2.1, 0, none⟩) ∧ e.2.2 = .cells c ty (0, 0) ∧ CellsRel g cs c ∧ cs.length = z.length ∧ z.isEmpty = false ∧
  (m.2 = none → cs = z) ∧ ∀ k, m.2 = some k → ∃ x, rops.getD k default = ⟨none, none, .st z.length (.s d) x⟩ ∧ (∀ s ∈ x.slot, mdst rops (mkIds mks) s = false) ∧ (x.ev fr0).cells = some cs

theorem ev_of_slot {x : X} {fr fr' : Fr} (h : ∀ s ∈ x.slot, fr s = fr' s) : x.ev fr = x.ev fr' := by
 cases x with
 | s s => exact h s (by simp [X.slot])
 | c v => rfl

theorem tail_ok (hM : MOk N pre rops acts mks) {fr0 : Fr} {R : List (Nat × Go.Obj)} {t : Array Value} {w : World} : ∀ (ml : List (Nat × Option Nat)), (∀ m ∈ ml, m ∈ mks) → (ml.map (·.1)).Nodup → ∀ (el : List (Nat × Nat × Go.Obj)) (g : G) (fr : Fr) (st : St),
    Sim P g st w → g.dfr = el.map (·.2) ++ R → (∀ m ∈ ml, ∃ e ∈ el, Fin1 g rops mks fr0 t m e) → (∀ s, mdst rops (mkIds mks) s = false → fr s = fr0 s) →
    FrRel g n (fun s => if mdst rops (mkIds ml) s then .junk else fr s) t → aregD P rops (tailOf ml) Q fr st →
    ∃ g' fr' st', g.le g' ∧ g'.dfr = R ∧ Sim P g' st' w ∧ FrRel g' n fr' t ∧ Q fr' st'
  | [], _, _, el, g, fr, st, hs, hd, _, _, hf, hr => by
    refine ⟨g.redfr R, fr, st, g.redfr_le R, rfl, hs.redfr (fun D hD => by rw [hd]; exact List.mem_append_right _ hD) (by have := hs.dnd; rw [hd, List.map_append] at this; exact (List.nodup_append.1 this).2.1), ?_, hr⟩
    have := hf.mono (g.redfr_le R)
    simpa [mkIds, mdst] using this
  | m :: ml, hsub, hnd, el, g, fr, st, hs, hd, hfin, hfr, hf, hr => by
    have hm := hsub m (by simp)
    simp only [List.map_cons, List.nodup_cons] at hnd
    obtain ⟨e, he, he1, d, z, c, ty, cs, h3, h4, h5, h6, h7, h8, h9, h10⟩ := hfin m (by simp)
    obtain ⟨j, b, o⟩ := e
    simp only at he1 h4 h5
    subst he1 h5
    obtain ⟨el1, el2, rfl⟩ := List.append_of_mem he
    have h0 : 0 < cs.length := by rw [h7]; cases z <;> simp at h8 ⊢
    obtain ⟨a1, a2, a3, a4⟩ := hs.adopt (l1 := el1.map (·.2)) (l2 := el2.map (·.2) ++ R) (b := b) (c := c) (ty := ty) (by rw [hd]; simp) h6 h0
    generalize hg' : ((g.redfr (el1.map (·.2) ++ (el2.map (·.2) ++ R))).add ⟨some b, 0, cs.length, 1⟩) = g' at a1 a2 a3 a4
    have hmd : mdst rops (mkIds mks) d = true := (mdst_iff hM).2 ⟨m, hm, by rw [h3]⟩
    -- the rest
    have go : ∀ st', st' = st.push (.mem cs.length [cs]) → aregD P rops (tailOf ml) Q (upd fr d (.ptr st.objs.length st.nv 0 0)) st' → ∃ g2 fr' st', g.le g2 ∧ g2.dfr = R ∧ Sim P g2 st' w ∧ FrRel g2 n fr' t ∧ Q fr' st' := by
      rintro _ rfl hr
      obtain ⟨g2, fr2, st2, b1, b2⟩ := tail_ok hM ml (fun m hm => hsub m (by simp [hm])) hnd.2 (el1 ++ el2) g' _ _ a4 (show g'.dfr = (el1 ++ el2).map (·.2) ++ R by rw [a2]; simp) (fun m' hm' => by
          obtain ⟨e', he', q1, q⟩ := hfin m' (by simp [hm'])
          have hne : e' ≠ (m.1, b, .cells c ty (0, 0)) := by
            intro h
            subst h
            exact hnd.1 (List.mem_map.2 ⟨m', hm', q1⟩)
          refine ⟨e', by simp only [List.mem_append, List.mem_cons] at he' ⊢; rcases he' with h | h | h; exact .inl h; exact absurd h hne; exact .inr h, q1, ?_⟩
          obtain ⟨d', z', c', ty', cs', q3, q4, q5, q6, q7⟩ := q
          exact ⟨d', z', c', ty', cs', q3, q4, q5, q6.le a1, q7⟩) (fun s hs => by
          rw [upd_ne _ _ (fun h => by rw [h, hmd] at hs; cases hs)]; exact hfr s hs) ⟨hf.1, fun s => by
          show VRel g' (if mdst rops (mkIds ml) s = true then V.junk else upd fr d (.ptr st.objs.length st.nv 0 0) s) (t.getD s undef)
          by_cases hsd : s = d
          · subst hsd
            split
            · exact .junk _
            · rw [upd_eq, h4]
              exact ptr_new (w' := w) a3
          · split
            · exact .junk _
            · rename_i hn
              rw [upd_ne _ _ hsd]
              have this : VRel g' (if mdst rops (mkIds (m :: ml)) s = true then V.junk else fr s) (t.getD s undef) := (hf.2 s).mono a1
              rw [if_neg] at this
              · exact this
              · intro hq
                apply hn
                simp only [mdst, List.any_eq_true, beq_iff_eq] at hq ⊢
                obtain ⟨i, hi, hdi⟩ := hq
                obtain ⟨m', hm', hmi⟩ := mem_mkIds.1 hi
                rcases List.mem_cons.1 hm' with rfl | hm'
                · rcases hmi with rfl | hmi
                  · rw [h3] at hdi; cases hdi; exact absurd rfl hsd
                  · obtain ⟨x, hx, _⟩ := h10 i hmi
                    rw [hx] at hdi; cases hdi
                · exact ⟨i, mem_mkIds.2 ⟨m', hm', hmi⟩, hdi⟩⟩ hr
      exact ⟨g2, fr2, st2, a1.trans b1, b2⟩
    have hr' : aregD P rops ((m.1, false, []) :: ((m.2.toList.map fun k => (k, false, [])) ++ tailOf ml)) Q fr st := hr
    simp only [aregD, h3, guardP, if_true] at hr'
    simp only [aexec, aop, h8, Bool.false_eq_true, if_false, opP, watchP, true_and] at hr'
    cases hk : m.2 with
    | none =>
      obtain rfl := h9 hk
      rw [hk] at hr'
      exact go _ rfl hr'
    | some k =>
      obtain ⟨x, hx, hxs, hxc⟩ := h10 k hk
      rw [hk] at hr'
      simp only [Option.toList_some, List.map_cons, List.map_nil, List.cons_append, List.nil_append, aregD, hx, guardP, if_true] at hr'
      have hxe : x.ev (upd fr d (.ptr st.objs.length st.nv 0 0)) = x.ev fr0 := ev_of_slot (fun s hs => by
        rw [upd_ne _ _ (fun h => by have := hxs s hs; rw [h, hmd] at this; cases this)]; exact hfr s (hxs s hs))
      have hge : (st.push (.mem z.length [z])).get st.objs.length st.nv = some (.mem z.length [z]) := by simp [St.push, St.get]
      simp only [aexec, aop, updo, hxe, hxc, h7, if_true] at hr'
      simp only [X.ev, upd_eq, St.store, hge, List.getElem?_cons_zero, h7, Nat.zero_add, Nat.le_refl, if_true, Option.map_some, opP, watchP, true_and] at hr'
      refine go _ ?_ hr'
      simp [St.push, St.set, splice, h7]

theorem tail_cells (hM : MOk N pre rops acts mks) : ∀ (ml : List (Nat × Option Nat)), (∀ m ∈ ml, m ∈ mks) → ∀ (fr : Fr) (st : St), aregD P rops (tailOf ml) Q fr st →
  ∀ m ∈ ml, ∀ k, m.2 = some k → ∀ nn d x, rops.getD k default = ⟨none, none, .st nn (.s d) x⟩ → ∃ cs, (x.ev fr).cells = some cs ∧ cs.length = nn
 | [], _, fr, st, _, m, hm => by cases hm
 | m0 :: ml, hsub, fr, st, hr, m, hm => by
  intro k hk nn d x hx
  have hm0 := hsub m0 (by simp)
  obtain ⟨_, _, d0, z0, hop, hz, _, _, h6⟩ := hM.alloc m0 hm0
  have hmd : mdst rops (mkIds mks) d0 = true := (mdst_iff hM).2 ⟨m0, hm0, by rw [hop]⟩
  have hr' : aregD P rops ((m0.1, false, []) :: ((m0.2.toList.map fun k => (k, false, [])) ++ tailOf ml)) Q fr st := hr
  simp only [aregD, hop, guardP, if_true] at hr'
  simp only [aexec, aop, hz, Bool.false_eq_true, if_false, opP, watchP, true_and] at hr'
  have hxe : ∀ v, x.ev (upd fr d0 v) = x.ev fr := fun v => ev_of_slot (fun s hs => upd_ne _ _ (fun h => by
   have := mdst_slot hM (hsub m hm) hk hx hs
   rw [h, hmd] at this; cases this))
  rcases List.mem_cons.1 hm with rfl | hm
  ·rw [hk] at hr'
   simp only [Option.toList_some, List.map_cons, List.map_nil, List.cons_append, List.nil_append, aregD, hx, guardP, if_true] at hr'
   simp only [aexec, aop, updo, hxe] at hr'
   obtain ⟨v, st', hv, _⟩ := opP_some hr'
   split at hv
   ·rename_i cs hc
    split at hv
    ·rename_i hl; exact ⟨cs, hc, hl⟩
    ·simp at hv
   ·simp at hv
  ·have rest : ∃ fr' st', aregD P rops (tailOf ml) Q fr' st' ∧ x.ev fr' = x.ev fr := by
    cases hk0 : m0.2 with
    | none => rw [hk0] at hr'; exact ⟨_, _, hr', hxe _⟩
    | some k0 =>
     rw [hk0] at hr'
     obtain ⟨_, _, _, _, x0, hx0, _⟩ := h6 k0 hk0
     simp only [Option.toList_some, List.map_cons, List.map_nil, List.cons_append, List.nil_append, aregD, hx0, guardP, if_true] at hr'
     rcases aexec_op hr' with ⟨f, args, h, _⟩ | ⟨v, st', _, _, h2⟩
     ·cases h
     ·exact ⟨_, _, h2, hxe _⟩
   obtain ⟨fr', st', h1, h2⟩ := rest
   obtain ⟨cs, q1, q2⟩ := tail_cells hM ml (fun m hm => hsub m (by simp [hm])) fr' st' h1 m hm k hk nn d x hx
   exact ⟨cs, by rw [← h2]; exact q1, q2⟩

theorem RInv.finish (hM : MOk N pre rops acts mks) (htop : ∀ i, i < N → ∀ e ∈ (dirsOf ops.toList).getD i [], e < i) {listed : Array Bool} {done : List Nat} {sch : Sch} {fr : Fr} {st : St} {a : Act} {w : World} {g : G}
  (h : RInv P n D0 Q g0 N rops (dirsOf ops.toList) pre acts mks listed done sch fr st a w g) (hN : N = ops.size) (hr : Region.ready .any ops listed = [])
  (hh : sch = [] ∨ ∃ j ws r, sch = (j, true, ws) :: r) : ∃ g' fr' st' l, g.le g' ∧ Sim P g' st' w ∧ FrRel g' n fr' a.tmps ∧ g'.dfr = List.map dmk l ++ D0 ∧ a.defers = l.map mark ∧ Q fr' st' := by
 have hall : ∀ i, i < N → listed.getD i false = true := by
  intro i
  induction i using Nat.strongRecOn with
  | ind i ih =>
   intro hi
   refine Classical.byContradiction fun hl => ?_
   have : i ∈ Region.ready .any ops listed := ready_iff.2 ⟨getD_unl' (by rw [h.size]; exact hi) (by simpa using hl), by omega, fun e he => ih e (htop i hi e he) (by have := htop i hi e he; omega)⟩
   rw [hr] at this; cases this
 have hnil : sch = [] := by
  rcases hh with hh | ⟨j, ws, r, rfl⟩
  ·exact hh
  ·obtain ⟨c1, c2, c2', c3, _⟩ := schOk_cons h.chk
   rcases h.sub j (hall j c3) with q | q
   ·exact absurd q c2
   ·exact absurd q c2'
 subst hnil
 obtain ⟨el, l, e1, e2, e3⟩ := h.dfr
 obtain ⟨g', fr', st', q1, q2, q3, q4, q5⟩ := tail_ok (n := n) hM (fr0 := fr) (t := a.tmps) mks (fun _ h => h) hM.nd el g fr st h.sim e1 (fun m hm => by
   obtain ⟨k1, _, d, z, k2, k3, _, _, k6⟩ := hM.alloc m hm
   obtain ⟨b, o, hin⟩ := e3.all m hm (hall _ k1)
   obtain ⟨m', hm', q1, q2, d', z', c, ty, cs, r1, r2, r3, r4, r5, r6, r7⟩ := e3.each _ hin
   have hmm : m' = m := Prod.ext q1 (hM.u1 m' hm' m hm q1)
   subst hmm
   rw [k2] at r1; cases r1
   refine ⟨_, hin, rfl, d, z, c, ty, cs, k2, r2, r3, r4, r5, k3, r6, fun k hk => ?_⟩
   obtain ⟨s1, _, _, _, x, hx, _⟩ := k6 k hk
   exact ⟨x, hx, fun s hs => mdst_slot hM hm hk hx hs, (r7 k hk).1 (hall k s1) x hx⟩) (fun _ _ => rfl) (h.frr.weak (fun s => by
   by_cases hm : mdst rops (mkIds mks) s = true
   ·exact .inl (by simp [hm])
   ·simp only [Bool.not_eq_true] at hm
    refine .inr ?_
    simp only [hm, Bool.false_eq_true, if_false]
    exact (lag_eq hm (fun i hi hl => by rw [hall i (h.lt i hi)] at hl; cases hl)).symm)) (by simpa using h.run)
 exact ⟨g', fr', st', l, q1, q3, q4, q2, e2, q5⟩

theorem any_ok (hM : MOk N pre rops acts mks) (htop : ∀ i, i < N → ∀ e ∈ (dirsOf ops.toList).getD i [], e < i) (hQ : ∀ fr st, Q fr st → Qx .normal fr st) (hN : N = ops.size)
    (hspec : ∀ i o, ops[i]? = some o → ResF P o.op (rops.getD i default).rhs ∧ resGuard ops.toList o.guard = some (rops.getD i default).guard ∧ o.dst = (rops.getD i default).dst ∧ o.dst.all (fun d => d < n) = true ∧ (rops.getD i default).guard.all (fun p => p.1 < n) = true)
    (hpre : ∀ j, ∀ i ∈ pre.getD j [], ∀ L : Nat → Prop, (∀ k, L k → ∀ e ∈ (dirsOf ops.toList).getD k [], L e) → (∀ e ∈ (dirsOf ops.toList).getD j [], L e) → L i) :
    ∀ (fuel : Nat) (listed : Array Bool) (done : List Nat) (sch : Sch) (fr : Fr) (st : St) (a : Act) (w : World) (g : G), RInv P n D0 Q g0 N rops (dirsOf ops.toList) pre acts mks listed done sch fr st a w g →
      (sch = [] ∨ ∃ j ws r, sch = (j, true, ws) :: r) → cnt listed.toList ≤ fuel → wpAnyIn (FF ro) 0 P .any ops (Lift P n D0 g0 Qx) fuel listed a w := by
  have fin : ∀ (listed : Array Bool) (done : List Nat) (sch : Sch) (fr : Fr) (st : St) (a : Act) (w : World) (g : G), RInv P n D0 Q g0 N rops (dirsOf ops.toList) pre acts mks listed done sch fr st a w g →
      (sch = [] ∨ ∃ j ws r, sch = (j, true, ws) :: r) → Region.ready .any ops listed = [] → Lift P n D0 g0 Qx .normal a w := by
    intro listed done sch fr st a w g h hh hr
    obtain ⟨g', fr', st', l, h1, h2, h3, h4, h5, h6⟩ := h.finish hM htop hN hr hh
    exact ⟨.normal, g', fr', st', rfl, h.gle.trans h1, ⟨h2, h3, l, h4, h5⟩, hQ _ _ h6⟩
  intro fuel
  induction fuel with
  | zero =>
    intro listed done sch fr st a w g h hh hc
    have hr : Region.ready .any ops listed = [] := by
      cases hr : Region.ready .any ops listed with
      | nil => rfl
      | cons j l =>
        have : j ∈ Region.ready .any ops listed := by rw [hr]; simp
        have := cnt_pos (getD_unl (ready_iff.1 this).1).2.2
        omega
    exact ⟨hr, fin _ _ _ _ _ _ _ _ h hh hr⟩
  | succ fuel ih =>
    intro listed done sch fr st a w g h hh hc
    refine ⟨fin _ _ _ _ _ _ _ _ h hh, fun j hj => ?_⟩
    obtain ⟨hj1, hj2, hj3⟩ := ready_iff.1 hj
    obtain ⟨hj4, hj5, hj6⟩ := getD_unl hj1
    have hjN : j < N := by omega
    have hset : ∀ i, (listed.setIfInBounds j true).getD i false = true ↔ i = j ∨ listed.getD i false = true := fun i => getD_set hj4
    have hcnt : cnt (listed.setIfInBounds j true).toList ≤ fuel := by
      have := cnt_set hj6
      simp only [Array.toList_setIfInBounds]; omega
    have hdown : ∀ i, (listed.setIfInBounds j true).getD i false = true → ∀ e ∈ (dirsOf ops.toList).getD i [], (listed.setIfInBounds j true).getD e false = true := by
      intro i hi e he
      rcases (hset i).1 hi with rfl | hi
      · exact (hset e).2 (.inr (hj3 e he))
      · exact (hset e).2 (.inr (h.down i hi e he))
    have hpj : ∀ i ∈ pre.getD j [], listed.getD i false = true := fun i hi => hpre j i hi (fun k => listed.getD k false = true) h.down hj3
    have hprel' : ∀ k, (listed.setIfInBounds j true).getD k false = true → ∀ i ∈ pre.getD k [], (listed.setIfInBounds j true).getD i false = true := by
      intro k hk i hi
      rcases (hset k).1 hk with rfl | hk
      · exact (hset i).2 (.inr (hpj i hi))
      · exact (hset i).2 (.inr (h.prel k hk i hi))
    have free : readsOk N rops pre acts j → j ∉ mkIds mks → ∀ s ∈ (rops.getD j default).reads, lag rops (mkIds mks) listed done fr s = fr s := by
      intro hrd hjm s hs
      refine lag_eq (mdst_reads hM hjm hjN hs) (fun i hi hl hd => ?_)
      rcases hrd i (h.lt i hi) s hd hs with ha | hp
      · exact (h.pend i hi hl).1 ha
      · rw [hpj i hp] at hl; cases hl
    obtain ⟨p1, p2, p3, p4, p5⟩ := hspec j ops[j] (by simp [hj2])
    have unl : ∀ i, (listed.setIfInBounds j true).getD i false = false → i ≠ j ∧ listed.getD i false = false := by
      intro i hi
      constructor
      · intro e; rw [(hset i).2 (.inl e)] at hi; cases hi
      · cases hl : listed.getD i false with
        | false => rfl
        | true => rw [(hset i).2 (.inr hl)] at hi; cases hi
    have lnu : ∀ i, i ≠ j → listed.getD i false = false → (listed.setIfInBounds j true).getD i false = false := by
      intro i hne hl
      cases hl' : (listed.setIfInBounds j true).getD i false with
      | false => rfl
      | true =>
        rcases (hset i).1 hl' with e | e
        · exact absurd e hne
        · rw [hl] at e; cases e
    have mono : ∀ i, listed.getD i false = true → (listed.setIfInBounds j true).getD i false = true := fun i hi => (hset i).2 (.inr hi)
    have lagsame : ∀ s, j ∈ mkIds mks → lag rops (mkIds mks) (listed.setIfInBounds j true) done fr s = .junk ∨ (mdst rops (mkIds mks) s = false ∧ lag rops (mkIds mks) (listed.setIfInBounds j true) done fr s = lag rops (mkIds mks) listed done fr s) := by
      intro s hjm
      rcases lag_or rops (mkIds mks) (listed.setIfInBounds j true) done fr s with e | ⟨e, hm, hne⟩
      · exact .inl e
      · refine .inr ⟨hm, ?_⟩
        rw [e]
        exact (lag_eq hm (fun i hi hl hds => hne i hi (lnu i (fun e => h.dm i hi (e ▸ hjm)) hl) hds)).symm
    by_cases hjm : j ∈ mkIds mks
    · obtain ⟨m, hm, hmj⟩ := mem_mkIds.1 hjm
      obtain ⟨k1, k2, d, z, k3, k4, k5, k6, k7⟩ := hM.alloc m hm
      have keepI : ∀ i ∈ done, (listed.setIfInBounds j true).getD i false = false → i ∉ acts ∧ reP (rops.getD i default) fr st := fun i hi hl => h.pend i hi (unl i hl).2
      have subI : ∀ i, (listed.setIfInBounds j true).getD i false = true → i ∈ done ∨ i ∈ mkIds mks := by
        intro i hi
        rcases (hset i).1 hi with rfl | hi
        · exact .inr hjm
        · exact h.sub i hi
      rcases hmj with rfl | hk
      · -- an allocation
        rw [k3] at p1 p2 p3
        simp only at p1 p2 p3
        have p1 := p1.of (fun c e => by cases e) (fun _ _ _ _ e => by cases e)
        obtain ⟨t, hop, hz⟩ := resOp_alloc p1
        have hg : (ops[m.1]).guard = none := by
          cases hgo : (ops[m.1]).guard with
          | none => rfl
          | some q => rw [hgo] at p2; obtain ⟨j', b'⟩ := q; simp only [resGuard, Option.map_eq_some_iff] at p2; obtain ⟨_, _, h'⟩ := p2; cases h'
        obtain ⟨zz, hz1, hz2⟩ := zeroT_ok (P := P) (w := w) (g := g) hz
        have hrun : (execOp a.eval ops[m.1]).run P w = .ok (.value (.pointer (some ⟨w.heap.size, 0, none⟩))) { w with heap := w.heap.push (.cells zz.cells t) } := by
          simp [execOp, hop, Instr.alloc, hz1, newVar, newRow]
        refine op_made (i := m.1) (by simp [hj2]) hg p1 (.inl rfl) hrun ?_
        have hle : g.le (g.redfr ((w.heap.size, .cells zz.cells t) :: g.dfr)) := g.redfr_le _
        obtain ⟨el, l, e1, e2, e3⟩ := h.dfr
        have hdn : d < n := by rw [p3] at p4; simpa using p4
        have hnotin : m.1 ∉ el.map (·.1) := by
          intro hin
          obtain ⟨e, he, q⟩ := List.mem_map.1 hin
          obtain ⟨m', hm', q1, q2, _⟩ := e3.each e he
          rw [q1, q, hj5] at q2; cases q2
        refine ih _ done sch fr st _ _ (g.redfr ((w.heap.size, .cells zz.cells t) :: g.dfr)) ⟨h.gle.trans hle, h.sim.early _, ?_, ?_, by simp [h.size], subI, h.dm, h.lt, keepI, h.rd, hdown, hprel', h.run, h.chk⟩ hh hcnt
        · have hp := put_rel (h.frr.mono hle) p4 (VRel.junk (g := g.redfr ((w.heap.size, .cells zz.cells t) :: g.dfr)) (.pointer (some ⟨w.heap.size, 0, none⟩)))
          refine hp.weak (fun s => ?_)
          rcases lagsame s hjm with e | ⟨hms, e⟩
          · exact .inl e
          · refine .inr ?_
            rw [e, p3]
            refine (updo_ne (fun hq => ?_)).symm
            rw [(mdst_iff hM).2 ⟨m, hm, by rw [k3]; exact hq⟩] at hms; cases hms
        · refine ⟨(m.1, w.heap.size, .cells zz.cells t) :: el, l, by simp [G.redfr, e1], by rw [put_defers]; exact e2, ?_, ?_, ?_⟩
          · intro m' hm' hq
            by_cases hmm : m'.1 = m.1
            · exact ⟨_, _, by rw [hmm]; exact List.mem_cons_self ..⟩
            · rcases (hset m'.1).1 hq with q | q
              · exact absurd q hmm
              · obtain ⟨b, o, hbo⟩ := e3.all m' hm' q; exact ⟨b, o, List.mem_cons_of_mem _ hbo⟩
          · intro e he
            rcases List.mem_cons.1 he with rfl | he
            · refine ⟨m, hm, rfl, (hset _).2 (.inl rfl), d, z, zz.cells, t, z, k3, ?_, rfl, hz2.le hle, rfl, fun _ => rfl, fun k hk => ⟨fun q => ?_, fun _ => rfl⟩⟩
              · rw [p3]
                show (a.tmps.setIfInBounds d _).getD d undef = _
                simp [Array.getD, h.frr.1, hdn]
              · exfalso
                obtain ⟨_, _, _, s4, _⟩ := k7 k hk
                rcases (hset k).1 q with rfl | q
                · exact hM.u3 m hm m hm hk
                · have := h.prel k q m.1 s4; rw [hj5] at this; cases this
            · refine (e3.each e he).step hle mono (fun m' hm' q k hk => ?_) (fun m' hm' q d' hd' => ?_) (fun _ _ _ _ _ _ _ _ _ => rfl)
              · have hne : k ≠ m.1 := fun e => hM.u3 m' hm' m hm (by rw [hk, e])
                cases hl : listed.getD k false with
                | true => exact mono k hl
                | false => exact lnu k hne hl
              · rw [p3]
                show (a.tmps.setIfInBounds d _).getD d' undef = _
                have hne : d ≠ d' := by
                  intro e; subst e
                  have := k5 m'.1 (hM.alloc m' hm').1 hd'
                  rw [this, hj5] at q; cases q
                simp only [Array.getD_eq_getD_getElem?]; rw [Array.getElem?_setIfInBounds_ne hne]
          · simp only [List.map_cons, List.nodup_cons]; exact ⟨hnotin, e3.nd⟩
      · -- a store that fills one
        obtain ⟨_, s2, s3, s4, x, hx, s5, s6⟩ := k7 j hk
        rw [hx] at p1 p2 p3
        simp only at p1 p2 p3
        have p1 := p1.of (fun c e => by cases e) (fun _ _ _ _ e => by cases e)
        obtain ⟨ty', oy, ox, hop, hsz, hoy, hox⟩ := resOp_st p1
        have hg : (ops[j]).guard = none := by
          cases hgo : (ops[j]).guard with
          | none => rfl
          | some q => rw [hgo] at p2; obtain ⟨j', b'⟩ := q; simp only [resGuard, Option.map_eq_some_iff] at p2; obtain ⟨_, _, h'⟩ := p2; cases h'
        -- nothing active is left
        have hnil : sch = [] := by
          rcases hh with hh | ⟨j', ws, r, rfl⟩
          · exact hh
          · obtain ⟨c1, c2, c2', c3, c4, _⟩ := schOk_cons h.chk
            rcases h.sub j' (hpj j' (s3 j' (c4.1 rfl))) with q | q
            · exact absurd q c2
            · exact absurd q c2'
        subst hnil
        obtain ⟨cs, hc, hcl⟩ := tail_cells hM mks (fun _ h => h) fr st (by simpa using h.run) m hm j hk _ _ _ hx
        -- the value
        have hlag : x.ev (lag rops (mkIds mks) listed done fr) = x.ev fr := ev_of_slot (fun s hs => lag_eq (mdst_slot hM hm hk hx hs) (fun i hi hl hd => by
          rw [hpj i (s6 i (h.lt i hi) s hs hd)] at hl; cases hl))
        have hX := resX_rel h.frr hox
        rw [hlag] at hX
        have hcr := cells_rel hX hc
        obtain ⟨el, l, e1, e2, e3⟩ := h.dfr
        obtain ⟨b, o, hbo⟩ := e3.all m hm (hpj m.1 s4)
        obtain ⟨m', hm', q1, q2, d', z', c, ty, cs0, r1, r2, r3, r4, r5, r6, r7⟩ := e3.each _ hbo
        have hmm : m' = m := Prod.ext q1 (hM.u1 m' hm' m hm q1)
        subst hmm
        rw [k3] at r1; cases r1
        simp only at r2 r3
        subst r3
        obtain ⟨el1, el2, rfl⟩ := List.append_of_mem hbo
        have hdfr : g.dfr = el1.map (·.2) ++ (b, .cells c ty (0, 0)) :: (el2.map (·.2) ++ (l.map dmk ++ D0)) := by rw [e1]; simp
        have hcell := (h.sim.dfr (b, .cells c ty (0, 0)) (by rw [hdfr]; simp)).2.1
        simp only at hcell
        have hay : a.eval oy = .pointer (some ⟨b, 0, none⟩) := by
          cases oy with
          | tmp t0 => simp only [resX, Option.some.injEq, X.s.injEq] at hoy; subst hoy; exact r2
          | const v => simp only [resX, Option.map_eq_some_iff] at hoy; obtain ⟨_, _, hoy⟩ := hoy; cases hoy
          | func f => simp [resX] at hoy
          | global f => simp [resX] at hoy
        have hsize : (a.eval ox).cells.size = c.size := by rw [← hcr.1, hcl, ← r5, r4.1]
        have hst := run_storeCells_at (P := P) b 0 ty (a.eval ox).cells.toList 0 c w hcell (by simp [hsize]) (fun v hv => by
          obtain ⟨i, hi, rfl⟩ := List.getElem_of_mem hv
          have := (hcr.2 i (by rw [hcr.1]; simpa using hi)).2
          simpa [Array.getD, show i < (a.eval ox).cells.size by simpa using hi] using this)
        have harr : (c.toList.take (0 + 0) ++ (a.eval ox).cells.toList ++ c.toList.drop (0 + 0 + (a.eval ox).cells.toList.length)).toArray = (a.eval ox).cells := by
          have : c.toList.drop (0 + 0 + (a.eval ox).cells.toList.length) = [] := List.drop_eq_nil_of_le (by simp [hsize])
          rw [this]; simp
        rw [harr] at hst
        have hrun : (execOp a.eval ops[j]).run P w = .ok .skip (w.setRow b (a.eval ox).cells) := by
          simp only [execOp, hop, Sem.run_bind, Instr.storeAt, Instr.sureAddr, storeVar, hay, Sem.run_pure, Result.andThen_ok, run_sizeT hsz]
          rw [if_neg (by rw [← hcr.1, hcl]; omega), hst]
          rfl
        refine op_made (by simp [hj2]) hg p1 (.inr ⟨rfl, rfl⟩) hrun ?_
        rw [p3]
        have hhb := setRow_heap w b c (a.eval ox).cells ty (0, 0) hcell
        have hle : g.le (g.redfr (el1.map (·.2) ++ (b, .cells (a.eval ox).cells ty (0, 0)) :: (el2.map (·.2) ++ (l.map dmk ++ D0)))) := g.redfr_le _
        refine ih _ done [] fr st a _ _ ⟨h.gle.trans hle, h.sim.rewatch (o' := .cells (a.eval ox).cells ty (0, 0)) hdfr (c := c) (fun _ _ => trivial) (w' := w.setRow b (a.eval ox).cells) rfl rfl rfl (by simp) hhb (fun k hk => setRow_other w b k _ hk), ?_, ?_, by simp [h.size], subI, h.dm, h.lt, keepI, h.rd, hdown, hprel', h.run, h.chk⟩ (.inl rfl) hcnt
        · refine (h.frr.mono hle).weak (fun s => ?_)
          rcases lagsame s hjm with e | ⟨_, e⟩
          · exact .inl e
          · exact .inr e
        · have hnd := e3.nd
          rw [List.map_append, List.map_cons] at hnd
          have hnd1 := List.nodup_append.1 hnd
          refine ⟨el1 ++ (m'.1, b, .cells (a.eval ox).cells ty (0, 0)) :: el2, l, by simp [G.redfr], e2, ?_, ?_, ?_⟩
          · intro m2 hm2 hq
            by_cases hmm : m2.1 = m'.1
            · exact ⟨b, .cells (a.eval ox).cells ty (0, 0), by rw [hmm]; simp⟩
            · have hl2 : listed.getD m2.1 false = true := by
                rcases (hset m2.1).1 hq with q | q
                · exact absurd (by rw [hk, q]) (hM.u3 m' hm m2 hm2)
                · exact q
              obtain ⟨b2, o2, hb2⟩ := e3.all m2 hm2 hl2
              refine ⟨b2, o2, ?_⟩
              simp only [List.mem_append, List.mem_cons] at hb2 ⊢
              rcases hb2 with q | q | q
              · exact .inl q
              · exact absurd (by injection q) hmm
              · exact .inr (.inr q)
          · intro e he
            have other : e ∈ el1 ∨ e ∈ el2 → Early (g.redfr (el1.map (·.2) ++ (b, .cells (a.eval ox).cells ty (0, 0)) :: (el2.map (·.2) ++ (l.map dmk ++ D0)))) rops (listed.setIfInBounds j true) fr a.tmps mks e := by
              intro q
              have hne : e.1 ≠ m'.1 := by
                rcases q with q | q
                · intro h'; exact hnd1.2.2 e.1 (List.mem_map_of_mem (f := (·.1)) q) m'.1 (by simp) h'
                · intro h'; exact (List.nodup_cons.1 hnd1.2.1).1 (h' ▸ List.mem_map_of_mem (f := (·.1)) q)
              refine (e3.each e (by simp only [List.mem_append, List.mem_cons]; rcases q with q | q; exact .inl q; exact .inr (.inr q))).step hle mono (fun m2 hm2 q2 k hk2 => ?_) (fun _ _ _ _ _ => rfl) (fun _ _ _ _ _ _ _ _ _ => rfl)
              have hkj : k ≠ j := fun h' => hne (by rw [← q2]; exact hM.u2 m2 hm2 m' hm j (by rw [hk2, h']) hk)
              cases hl : listed.getD k false with
              | true => exact mono k hl
              | false => exact lnu k hkj hl
            simp only [List.mem_append, List.mem_cons] at he
            rcases he with q | rfl | q
            · exact other (.inl q)
            · refine ⟨m', hm, rfl, mono _ q2, d, z, (a.eval ox).cells, ty, cs, k3, r2, rfl, hcr.le hle, hcl, fun h' => (by rw [hk] at h'; cases h'), fun k hk' => ?_⟩
              rw [hk] at hk'; cases hk'
              refine ⟨fun _ x' hx' => ?_, fun h' => ?_⟩
              · rw [hx] at hx'; cases hx'; exact hc
              · rw [(hset j).2 (.inl rfl)] at h'; cases h'
            · exact other (.inr q)
          · rw [List.map_append, List.map_cons]; exact hnd
    by_cases hd : j ∈ done
    · -- it has been seen ahead
      obtain ⟨hna, hre⟩ := h.pend j hd hj5
      have hfree := free (h.rd j hd) hjm
      refine op_step (K1 := fun v st' => st' = st ∧ dstIs fr (rops.getD j default).dst v) (by simp [hj2]) p1 p2 p3 p4 p5 h.sim h.frr ?_ ?_
      · unfold reP at hre
        rw [← guardP_congr hfree] at hre
        refine guardP_mono (fun b hb => ?_) hre
        cases b
        · exact ⟨rfl, hb⟩
        · simp only [if_true] at hb ⊢
          rw [← aop_congr (reads_ev hfree)] at hb
          exact aexec_of_op hb
      · rintro g' v x st' w' q1 q2 q3 q4 ⟨rfl, q5⟩
        refine ih _ done sch fr st' _ w' g' ⟨h.gle.trans q1, q3, ?_, ?_, by simp [h.size], ?_, h.dm, h.lt, fun i hi hl => h.pend i hi (unl i hl).2, h.rd, hdown, hprel', h.run, h.chk⟩ hh hcnt
        · have hp := put_rel (h.frr.mono q1) p4 q4
          refine hp.weak (fun s => ?_)
          rcases lag_or rops (mkIds mks) (listed.setIfInBounds j true) done fr s with e | ⟨e, hms, hne⟩
          · exact .inl e
          · right
            rw [e, p3]
            by_cases hs : (rops.getD j default).dst = some s
            · rw [updo_eq hs]; rw [hs] at q5; exact q5
            · rw [updo_ne hs]
              refine (lag_eq hms (fun i hi hl hds => ?_)).symm
              by_cases hij : i = j
              · subst hij; exact hs hds
              · exact hne i hi (lnu i hij hl) hds
        · obtain ⟨el, l, e1, e2, e3⟩ := h.dfr
          refine ⟨el, l, by rw [q2]; exact e1, by rw [put_defers]; exact e2, e3.step q1 mono (fun i hi => ?_) (fun m hm q d' hd' => ?_) (fun _ _ _ _ _ _ _ _ _ => rfl)⟩
          · have hne : i ≠ j := fun e => hjm (e ▸ hi)
            cases hl : listed.getD i false with
            | true => exact mono i hl
            | false => exact lnu i hne hl
          · rw [p3]
            cases hds : (rops.getD j default).dst with
            | none => rfl
            | some dd =>
              have hne : dd ≠ d' := by
                intro e; subst e
                have := mdst_main hM hjm hjN hds
                rw [(mdst_iff hM).2 ⟨m, hm, hd'⟩] at this; cases this
              show (a.tmps.setIfInBounds dd _).getD d' undef = _
              simp only [Array.getD_eq_getD_getElem?]; rw [Array.getElem?_setIfInBounds_ne hne]
        · intro i hi
          rcases (hset i).1 hi with rfl | hi
          · exact .inl hd
          · exact h.sub i hi
    · -- the next active one
      rcases hh with rfl | ⟨k, ws, r, rfl⟩
      · have := h.chk
        simp only [schOk, List.all_eq_true, Bool.or_eq_true, List.contains_eq_mem, decide_eq_true_eq] at this
        rcases this j (List.mem_range.2 hjN) with q | q
        · exact absurd q hd
        · exact absurd q hjm
      · obtain ⟨c1, c2, c2', c3, c4, c5, c6, _, c8⟩ := schOk_cons h.chk
        obtain ⟨c6, c7⟩ := c6 rfl
        have hkj : k = j := by
          refine Classical.byContradiction fun hne => ?_
          obtain ⟨e, he, hnd, hnm⟩ := c6 j hjN (fun e => hne e.symm) hjm hd
          rcases h.sub e (hj3 e he) with q | q
          · exact hnd q
          · exact hnm q
        subst hkj
        have hfree := free c5 hjm
        have hrun := h.run
        simp only [List.cons_append, aregD] at hrun
        refine op_step (K1 := fun v st' => watchP rops ws (updo fr (rops.getD k default).dst v) st' ∧ aregD P rops (r ++ tailOf mks) Q (updo fr (rops.getD k default).dst v) st') (by simp [hj2]) p1 p2 p3 p4 p5 h.sim h.frr ?_ ?_
        · rw [guardP_congr hfree]
          refine guardP_mono (fun b hb => ?_) hrun
          cases b
          · exact hb
          · simp only [if_true] at hb ⊢
            exact (aexec_congr (reads_ev hfree) _ _).2 hb
        · rintro g' v x st' w' q1 q2 q3 q4 ⟨q5, q6⟩
          have inv : RInv P n D0 Q g0 N rops (dirsOf ops.toList) pre acts mks (listed.setIfInBounds k true) (k :: done) r (updo fr (rops.getD k default).dst v) st' (a.put ops[k].dst x) w' g' := by
            refine ⟨h.gle.trans q1, q3, ?_, ?_, by simp [h.size], ?_, ?_, ?_, ?_, ?_, hdown, hprel', q6, c8⟩
            · have hp := put_rel (h.frr.mono q1) p4 q4
              refine hp.weak (fun s => ?_)
              rcases lag_or rops (mkIds mks) (listed.setIfInBounds k true) (k :: done) (updo fr (rops.getD k default).dst v) s with e | ⟨e, hms, hne⟩
              · exact .inl e
              · right
                rw [e, p3]
                by_cases hs : (rops.getD k default).dst = some s
                · rw [updo_eq hs, updo_eq hs]
                · rw [updo_ne hs, updo_ne hs]
                  refine (lag_eq hms (fun i hi hl hds => ?_)).symm
                  exact hne i (List.mem_cons_of_mem _ hi) (lnu i (fun e => hd (e ▸ hi)) hl) hds
            · obtain ⟨el, l, e1, e2, e3⟩ := h.dfr
              refine ⟨el, l, by rw [q2]; exact e1, by rw [put_defers]; exact e2, e3.step q1 mono (fun i hi => ?_) (fun m hm q d' hd' => ?_) (fun m hm k' hk' hl' nn d x hx => slot_stays hM h.sub h.prel hd hjm hjN hm hk' hl' hx)⟩
              · have hne : i ≠ k := fun e => hjm (e ▸ hi)
                cases hl : listed.getD i false with
                | true => exact mono i hl
                | false => exact lnu i hne hl
              · rw [p3]
                cases hds : (rops.getD k default).dst with
                | none => rfl
                | some dd =>
                  have hne : dd ≠ d' := by
                    intro e; subst e
                    have := mdst_main hM hjm hjN hds
                    rw [(mdst_iff hM).2 ⟨m, hm, hd'⟩] at this; cases this
                  show (a.tmps.setIfInBounds dd _).getD d' undef = _
                  simp only [Array.getD_eq_getD_getElem?]; rw [Array.getElem?_setIfInBounds_ne hne]
            · intro i hi
              rcases (hset i).1 hi with rfl | hi
              · exact .inl (List.mem_cons_self ..)
              · exact (h.sub i hi).imp (List.mem_cons_of_mem _) id
            · intro i hi
              rcases List.mem_cons.1 hi with rfl | hi
              · exact c2'
              · exact h.dm i hi
            · intro i hi
              rcases List.mem_cons.1 hi with rfl | hi
              · exact c3
              · exact h.lt i hi
            · intro i hi hl
              obtain ⟨hne, hl⟩ := unl i hl
              rcases List.mem_cons.1 hi with e | hi
              · exact absurd e hne
              · refine ⟨(h.pend i hi hl).1, ?_⟩
                rcases c7 i hi with ha | hp | hw
                · exact absurd ha (h.pend i hi hl).1
                · rw [hpj i hp] at hl; cases hl
                · exact watchP_mem q5 i hw
            · intro i hi
              rcases List.mem_cons.1 hi with rfl | hi
              · exact c5
              · exact h.rd i hi
          obtain ⟨done', sch', fr', inv', hh'⟩ := inv.peel hM
          exact ih _ done' sch' fr' st' _ w' g' inv' hh' hcnt

end Go.Proofs.Ytmjnpfackanhlaa.AM
