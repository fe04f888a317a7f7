/- The abstract layer: rounds, functions. -/
import Derived.Test.YtmjnpfackanhlaaAmWp3
import Derived.RangeFuncRecord
namespace Go.Proofs.Ytmjnpfackanhlaa.AM
open Go Go.RowKit
set_option linter.unusedSimpArgs false
set_option linter.unusedVariables false
variable {P : Program}

def St.setO (st : St) (id ver : Nat) (o : Obj) : St := ⟨st.objs.set id (some (ver, o)), st.nv⟩

/-- A loop's record turns. -/
theorem Sim.reloop {g : G} {st : St} {w : World} (h : Sim P g st w) {id ver : Nat} {fr : Fr} {n : Nat} {ps : List Nat} {assign body : RCode} {s : LSt}
    (ho : st.get id ver = some (.loop fr n ps assign body s)) : ∃ b lp L, g.loc ver = some L ∧ L.blk = some b ∧ w.heap[b]? = some (.loop lp) ∧ s.rel lp.state lp.pending ∧ FrRel g n fr lp.tmps ∧ lp.params.toList = ps ∧ (∀ p ∈ ps, p < n) ∧
      resCode P n lp.assign = some assign ∧ resCode P n lp.body = some body ∧
      ∀ (s' : LSt) (ls : LoopState) (pe : Option Code), s'.rel ls pe → Sim P g (st.setO id ver (.loop fr n ps assign body s')) (w.putObj b (.loop { lp with state := ls, pending := pe })) := by
  have ho := get_objs ho
  obtain ⟨L, hL, b, lp, hb, hw, hf, hp, hpn, ha, hbd, hs⟩ := h.obj _ _ _ ho
  refine ⟨b, lp, L, hL, hb, hw, hs, hf, hp, hpn, ha, hbd, fun s' ls pe hr => ?_⟩
  have hlt := (Array.getElem?_eq_some_iff.1 hw).1
  have := h.turn (g' := g) (ver' := ver) (o' := .loop fr n ps assign body s') (L' := L) (w' := w.putObj b (.loop { lp with state := ls, pending := pe })) ho hL (.refl g) rfl rfl rfl rfl h.fresh
    ⟨rfl, rfl, rfl, by simp, fun k hk hne => World.putObj_heap_other (fun e => hne (by rw [hb, e]))⟩ hL (fun b' hb' => .inl hb')
    ⟨b, { lp with state := ls, pending := pe }, hb, World.putObj_heap_same hlt, hf, hp, hpn, ha, hbd, hr⟩
  unfold St.setO; rw [h.nv]; exact this

def updl (fr : Fr) : List Nat → List V → Fr
  | p :: ps, v :: vs => updl (upd fr p v) ps vs
  | _, _ => fr

theorem FrRel.updl {g : G} {n : Nat} : ∀ (ps : List Nat) (vs : List V) (xs : List Value) {fr : Fr} {t : Array Value}, FrRel g n fr t → (∀ p ∈ ps, p < n) → vs.length = xs.length → (∀ i, i < vs.length → VRel g (vs.getD i .junk) (xs.getD i undef)) →
    FrRel g n (updl fr ps vs) ((ps.zip xs).foldl (fun t p => t.setIfInBounds p.1 p.2) t)
  | [], vs, xs, fr, t, h, hp, hl, hv => by simpa [AM.updl] using h
  | p :: ps, [], xs, fr, t, h, hp, hl, hv => by
    have : xs = [] := by cases xs with | nil => rfl | cons x xs => simp at hl
    subst this; simpa [AM.updl] using h
  | p :: ps, v :: vs, [], fr, t, h, hp, hl, hv => by simp at hl
  | p :: ps, v :: vs, x :: xs, fr, t, h, hp, hl, hv => by
    simp only [AM.updl, List.zip_cons_cons, List.foldl_cons]
    refine FrRel.updl ps vs xs (h.upd p (hp p (by simp)) ?_) (fun q hq => hp q (by simp [hq])) (by simpa using hl) (fun i hi => ?_)
    · have := hv 0 (by simp); simpa using this
    · have := hv (i + 1) (by simpa using hi); simpa using this

def yldQ (id ver : Nat) (fr0 : Fr) (n : Nat) (ps : List Nat) (assign body : RCode) (K : V → St → Prop) : APost
  | .normal, _, st => st.get id ver = some (.loop fr0 n ps assign body .busy) ∧ K (.bool true) (st.setO id ver (.loop fr0 n ps assign body .ready))
  | .ret, _, st => st.get id ver = some (.loop fr0 n ps assign body .busy) ∧ K (.bool false) (st.setO id ver (.loop fr0 n ps assign body (.done .ret)))
  | .exit k, _, st => st.get id ver = some (.loop fr0 n ps assign body .busy) ∧ K (.bool false) (st.setO id ver (.loop fr0 n ps assign body (.done (.exit k))))

def noQ : APost := fun _ _ _ => False

def yldP (P : Program) (id ver : Nat) (fr : Fr) (n : Nat) (ps : List Nat) (assign body : RCode) (args : List V) (st : St) (K : V → St → Prop) : Prop :=
  awp P n assign (thenQ (fun fr1 st1 => st1.get id ver = some (.loop fr n ps assign body .ready) ∧ awp P n body (yldQ id ver fr n ps assign body K) fr1 (st1.setO id ver (.loop fr n ps assign body .busy))) noQ) (updl fr ps args) st

/-- The marks forgotten. -/
def G.undfr (g : G) (l : List (Nat × Go.Obj)) : G := { g with dfr := l }
theorem Sim.undfr {g : G} {st : St} {w : World} (h : Sim P g st w) {l D0 : List (Nat × Go.Obj)} (hd : g.dfr = l ++ D0) : g.le (g.undfr D0) ∧ Sim P (g.undfr D0) st w := by
  have hle : g.le (g.undfr D0) := ⟨rfl, rfl, Nat.le_refl _, fun _ _ h => h, fun _ _ => rfl, fun _ _ => rfl, fun _ _ _ h => h, fun _ _ _ _ h => h⟩
  have hsub : ∀ D ∈ D0, D ∈ g.dfr := fun D hD => by rw [hd]; exact List.mem_append_right _ hD
  exact ⟨hle, h.nv, h.B, h.below, h.imm, h.fresh, fun id ver o ho => let ⟨L, hL, h2⟩ := h.obj _ _ _ ho; ⟨L, hL, h2.mono hle (fun _ _ => rfl)⟩,
    fun id ver o L b ho hL hb => let q := h.own _ _ _ _ _ ho hL hb; ⟨q.1, q.2.1, q.2.2.1, fun hm => q.2.2.2 (by obtain ⟨D, hD, e⟩ := List.mem_map.1 hm; exact List.mem_map.2 ⟨D, hsub _ hD, e⟩)⟩, h.dis,
    fun D hD => h.dfr D (hsub _ hD), by have := h.dnd; rw [hd, List.map_append] at this; exact (List.nodup_append.1 this).2.1⟩

theorem AInv_yld {id ver : Nat} {fr : Fr} {n : Nat} {ps : List Nat} {assign body : RCode} {args : List V} {st : St} {K : V → St → Prop}
    (ho : st.get id ver = some (.loop fr n ps assign body .ready)) (hl : ps.length = args.length) (hna : assign.norf = true) (hnb : body.norf = true) (h : yldP P id ver fr n ps assign body args st K) :
    AInv P (.yld id ver) args st K := by
  intro g w Fv Args hs hY hA
  cases hY with
  | yld _ _ b L hL hb =>
    obtain ⟨b', lp, L', hL', hb', hw, hsr, hf, hp, hpn, ha, hbd, hput⟩ := hs.reloop ho
    obtain rfl := Option.some.inj (hL.symm.trans hL')
    obtain rfl := Option.some.inj (hb.symm.trans hb')
    have hsz : Args.size = lp.params.size := by rw [← hA.1, ← hl, ← hp]; simp
    refine ⟨{ target := .fn (.yield b) #[], args := Args }, by simp [Deferred.ofValue], .inr ⟨b, lp.fn, _, lp.assign, lp.body, by simp only [invoke]; exact run_yield hw hsz, ?_⟩⟩
    let t := ((lp.params.zip Args).foldl (fun tmps (t, a) => tmps.setIfInBounds t a) lp.tmps)
    have hft : FrRel g n (updl fr ps args) t := by
      have := FrRel.updl ps args Args.toList hf hpn (by simpa using hA.1) (fun i hi => by have := hA.2 i hi; simpa [Array.getD_eq_getD_getElem?, List.getD] using this)
      rw [← hp] at this ⊢
      rw [← Array.toList_zip] at this
      rw [Array.foldl_toList] at this
      exact this
    refine roundIn_of_wpIn trivial ?_
    have hcfg : Cfg P n g.dfr g { tmps := t, defers := [] } w (updl fr ps args) st := ⟨hs, hft, [], rfl, rfl⟩
    refine wpIn_mono (awp_sound lp.assign assign ha (ro := some b) (.inr hna) h g.dfr g _ w hcfg) ?_
    rintro e a1 w1 ⟨ae, g1, fr1, st1, rfl, hg1, hc1, hq1⟩
    cases ae with
    | exit k => exact hq1.elim
    | ret => exact hq1.elim
    | normal =>
      obtain ⟨ho1, hq1⟩ := hq1
      obtain ⟨b1, lp1, L1, hL1, hb1, hw1, hsr1, hf1, hp1, hpn1, ha1, hbd1, hput1⟩ := hc1.sim.reloop ho1
      obtain rfl := Option.some.inj ((hg1.loc _ _ hL).symm.trans hL1)
      obtain rfl := Option.some.inj (hb.symm.trans hb1)
      refine ⟨_, run_beginRound hw1 hsr1.1, ?_⟩
      have hs2 := hput1 .busy .busy none ⟨rfl, rfl⟩
      have he : ({ lp1 with state := .busy } : Loop) = { lp1 with state := .busy, pending := none } := by rw [← hsr1.2]
      rw [he]
      have hcfg2 : Cfg P n g.dfr g1 a1 _ fr1 (st1.setO id ver (.loop fr n ps assign body .busy)) := ⟨hs2, hc1.fr, hc1.dfr⟩
      refine wpIn_mono (awp_sound lp.body body hbd (ro := some b) (.inr hnb) hq1 g.dfr g1 _ _ hcfg2) ?_
      have fin : ∀ (g2 : G) (a2 : Act) (w2 : World) (fr2 : Fr) (st2 : St) (j : Option Code) (s' : LSt) (hrel : s'.rel (if j.isNone then .ready else .done) j), g1.le g2 → Cfg P n g.dfr g2 a2 w2 fr2 st2 → st2.get id ver = some (.loop fr n ps assign body .busy) →
          K (.bool j.isNone) (st2.setO id ver (.loop fr n ps assign body s')) → ∃ v w', (Instr.endRound b j).run P w2 = .ok v w' ∧ CPost P g K (.returned v) w' := by
        intro g2 a2 w2 fr2 st2 j s' hrel hg2 hc2 ho2 hk
        obtain ⟨b2, lp2, L2, hL2, hb2, hw2, hsr2, hf2, hp2, hpn2, ha2, hbd2, hput2⟩ := hc2.sim.reloop ho2
        obtain rfl := Option.some.inj ((hg2.loc _ _ (hg1.loc _ _ hL)).symm.trans hL2)
        obtain rfl := Option.some.inj (hb.symm.trans hb2)
        refine ⟨_, _, run_endRound j hw2, ?_⟩
        have hs3 := hput2 s' _ j hrel
        obtain ⟨l, hl1, _⟩ := hc2.dfr
        obtain ⟨hle3, hs4⟩ := hs3.undfr hl1
        exact ⟨_, _, _, _, rfl, (hg1.trans hg2).trans hle3, rfl, hs4, .bool _, hk⟩
      rintro e a2 w2 ⟨ae, g2, fr2, st2, rfl, hg2, hc2, hq2⟩
      cases ae with
      | normal => exact fin g2 a2 w2 fr2 st2 none .ready ⟨rfl, rfl⟩ hg2 hc2 hq2.1 hq2.2
      | ret => exact fin g2 a2 w2 fr2 st2 (some .ret) (.done .ret) ⟨rfl, rfl⟩ hg2 hc2 hq2.1 hq2.2
      | exit k => exact fin g2 a2 w2 fr2 st2 (some (.exit k)) (.done (.exit k)) ⟨rfl, rfl⟩ hg2 hc2 hq2.1 hq2.2

/-! ### functions -/
/-- A function, resolved: its temporaries, its code, its results' temporaries. -/
def resTmps : List ResultVar → Option (List Nat)
  | [] => some []
  | .tmp t :: l => (resTmps l).map (t :: ·)
  | .cell .. :: _ => none

def resFn (P : Program) (f : FuncId) : Option (Nat × RCode × List Nat) :=
  match P.funcs[f]? with
  | some fn =>
    if fn.name == "runtime.NumGoroutine" then none
    else match fn.body with
      | some c =>
        match resCode P fn.ntmps c, resTmps fn.results.toList with
        | some rc, some rs => some (fn.ntmps, rc, rs)
        | _, _ => none
      | none => none
  | none => none

def resOf (rs : List Nat) (fr : Fr) : V :=
  match rs with
  | [t] => fr t
  | rs => .tup (rs.map fr)

def enterFr (args : List V) : Fr := fun i => args.getD i .junk

/-- A body has run: what is asked. -/
def retQ (n : Nat) (rs : List Nat) (R : V → St → Prop) : APost
  | .normal, fr, st => GhostTo n fr st fun fr st => R (resOf rs fr) st
  | .ret, fr, st => GhostTo n fr st fun fr st => R (resOf rs fr) st
  | .exit _, _, _ => False

theorem enter_fr {g : G} {n : Nat} {args : List V} {Args : Array Value} (h : VRels g args Args) (hn : args.length ≤ n) : FrRel g n (enterFr args) (Args ++ Array.replicate (n - Args.size) undef) := by
  have := h.1
  refine ⟨by simp; omega, fun s => ?_⟩
  by_cases hs : s < args.length
  · have q2 : (Args ++ Array.replicate (n - Args.size) undef).getD s undef = Args.getD s undef := by simp only [Array.getD_eq_getD_getElem?]; rw [Array.getElem?_append_left (by omega)]
    rw [q2]; exact h.2 s hs
  · have : enterFr args s = .junk := by simp [enterFr, List.getD, List.getElem?_eq_none (Nat.le_of_not_lt hs)]
    rw [this]; exact .junk _

def resVal (rs : List Nat) (t : Array Value) : Value :=
  match rs with
  | [s] => t.getD s undef
  | rs => .tuple (rs.map fun s => t.getD s undef).toArray

theorem res_run (fn : Func) {rs : List Nat} (h : resTmps fn.results.toList = some rs) (t : Array Value) (w : World) :
    (results fn t).run P w = .ok (resVal rs t) w := by
  have key : ∀ (l : List ResultVar) (rs : List Nat), resTmps l = some rs → l = rs.map .tmp := by
    intro l
    induction l with
    | nil => intro rs h; simp [resTmps] at h; subst h; rfl
    | cons x l ih =>
      intro rs h
      cases x with
      | tmp t => simp only [resTmps, Option.map_eq_some_iff] at h; obtain ⟨r, h1, rfl⟩ := h; rw [ih r h1]; rfl
      | cell a b => simp [resTmps] at h
  have hl : fn.results = (rs.map ResultVar.tmp).toArray := by rw [← key _ _ h]
  have run : ∀ (rs : List Nat) (F : ResultVar → Sem Value), (∀ s, F (.tmp s) = pure (t.getD s undef)) → (rs.map ResultVar.tmp).mapM F = (pure (rs.map fun s => t.getD s undef) : Sem (List Value)) := by
    intro rs F hF
    induction rs with
    | nil => rfl
    | cons s rs ih => simp [List.mapM_cons, hF, ih]
  unfold results resVal
  rw [hl, List.mapM_toArray, run rs _ (fun s => rfl)]
  simp only [map_pure, pure_bind, Sem.run_pure]
  congr 1
  rcases rs with _ | ⟨a, _ | ⟨b, rs⟩⟩ <;> simp

theorem Sim.took {g : G} {st : St} {w : World} (h : Sim P g st w) {D : Nat} {l : List (Nat × Go.Obj)} (hd : g.dfr = dmk D :: l) : w.heap[D]? = some (.deferred (some [])) ∧ g.le (g.undfr l) ∧ Sim P (g.undfr l) st (w.putObj D (.deferred none)) := by
  have hD := h.dfr (dmk D) (by rw [hd]; simp)
  simp only [dmk] at hD
  obtain ⟨hle, hs⟩ := h.undfr (l := [dmk D]) (D0 := l) hd
  have hnd : D ∉ l.map (·.1) := by have := h.dnd; rw [hd] at this; exact (List.nodup_cons.1 this).1
  have hsame : ∀ k, k ≠ D → (w.putObj D (.deferred none)).heap[k]? = w.heap[k]? := fun k hk => World.putObj_heap_other hk
  refine ⟨hD.2.1, hle, hs.nv, by rw [World.putObj_size]; exact hs.B, ⟨hs.below.os, hs.below.tape, hs.below.output, by rw [World.putObj_size]; exact hs.below.size, fun k hk => (hsame k (fun e => ?_)).trans (hs.below.block k hk)⟩, ?_, hs.fresh, ?_, ?_, hs.dis, ?_, hs.dnd⟩
  · have := hD.1; have : (g.undfr l).B = g.B := rfl; omega
  · intro b off x hx
    have hc := hs.imm b off x hx
    refine ⟨(cell_same (hsame b (fun e => ?_))).trans hc.1, hc.2⟩
    have := hc.1; subst e
    simp [World.cell?, hD.2.1] at this
  · intro id ver o ho
    obtain ⟨L, hL, h2⟩ := hs.obj _ _ _ ho
    refine ⟨L, hL, h2.mono (.refl _) (fun b hb => hsame b (fun e => ?_))⟩
    have := (h.own _ _ _ _ _ ho hL hb).2.2.2
    rw [hd, e] at this; simp [dmk] at this
  · intro id ver o L b ho hL hb
    have := hs.own _ _ _ _ _ ho hL hb
    exact ⟨this.1, by rw [World.putObj_size]; exact this.2.1, this.2.2⟩
  · intro D' hD'
    have := hs.dfr D' hD'
    exact ⟨this.1, (hsame D'.1 (fun e => hnd (e ▸ List.mem_map_of_mem hD'))).trans this.2.1, this.2.2⟩

theorem marks_out {fn : Func} {t : Array Value} {R : Ending → World → Prop} {D0 : List (Nat × Go.Obj)} {st : St} : ∀ (l : List Nat) (g : G) (w : World), Sim P g st w → g.dfr = l.map dmk ++ D0 →
    (∀ g' w', g.le g' → g'.dfr = D0 → Sim P g' st w' → ∃ v, (results fn t).run P w' = .ok v w' ∧ R (.returned v) w') → LeavesInM Fence.wide 0 P fn t R (l.map mark) .returning w
  | [], g, w, hs, hd, h => by
    obtain ⟨v, h1, h2⟩ := h g w (.refl g) (by simpa using hd) hs
    exact ⟨v, h1, h2⟩
  | D :: l, g, w, hs, hd, h => by
    obtain ⟨h1, hle, hs'⟩ := hs.took (l := l.map dmk ++ D0) (by rw [hd]; rfl)
    refine ⟨by simp, .inl ⟨D, _, rfl, run_takeDeferred h1, ?_⟩⟩
    exact marks_out l _ _ hs' rfl (fun g' w' q1 q2 q3 => h g' w' (hle.trans q1) q2 q3)

theorem ACalls_intro {f : FuncId} {n : Nat} {rc : RCode} {rs : List Nat} (hf : resFn P f = some (n, rc, rs)) {args : List V} (hn : args.length ≤ n) {st : St} {R : V → St → Prop} (h : awp P n rc (retQ n rs R) (enterFr args) st) :
    ACalls P f args st R := by
  unfold resFn at hf
  split at hf
  · rename_i fn hfn
    split at hf
    · simp at hf
    · rename_i hname
      split at hf
      · rename_i c hc
        split at hf
        · rename_i rc' rs' h1 h2
          simp only [Option.some.injEq, Prod.mk.injEq] at hf
          obtain ⟨rfl, rfl, rfl⟩ := hf
          have hname' : ¬ fn.name = "runtime.NumGoroutine" := by simpa using hname
          refine ⟨fun as w => by simp [callFunc, program, Sem.run_bind, Sem.run, hfn, hname', hc], fun g w Args hs hA => ?_⟩
          refine callsIn_wide (n := 0) |>.1 ?_
          refine callsIn_of_wp_marks hfn hc trivial (wpIn_mono (awp_sound (P := P) c rc' h1 (ro := none) (.inl rfl) h g.dfr g _ w ⟨hs, enter_fr hA hn, [], rfl, rfl⟩) ?_)
          have fin : ∀ (g1 : G) (a1 : Act) (w1 : World) (fr1 : Fr) (st1 : St), g.le g1 → Cfg P fn.ntmps g.dfr g1 a1 w1 fr1 st1 → GhostTo fn.ntmps fr1 st1 (fun fr st => R (resOf rs' fr) st) →
              LeavesInM Fence.wide 0 P fn a1.tmps (CPost P g R) a1.defers .returning w1 := by
            intro g1 a1 w1 fr1 st1 hg1 hc1 hq
            obtain ⟨l, hl1, hl2⟩ := hc1.dfr
            obtain ⟨fr2, st2, hgh, hR⟩ := hq
            rw [hl2]
            refine marks_out l g1 w1 hc1.sim hl1 (fun g2 w2 q1 q2 q3 => ?_)
            obtain ⟨g3, e1, e2, e3, e4⟩ := hgh P g2 w2 a1.tmps q3 (hc1.fr.mono q1)
            refine ⟨_, res_run fn h2 _ _, _, _, g3, st2, rfl, (hg1.trans q1).trans e1, e2.trans q2, e3, ?_, hR⟩
            have tupR : VRel g3 (.tup (rs'.map fr2)) (.tuple (rs'.map fun s => a1.tmps.getD s undef).toArray) := by
              refine .tup _ _ (by simp) (fun i hi => ?_)
              have hi' : i < rs'.length := by simpa using hi
              have q1 : (rs'.map fr2).getD i .junk = fr2 (rs'.getD i 0) := by simp [List.getD, hi']
              have q2 : ((rs'.map fun s => a1.tmps.getD s undef).toArray).getD i undef = a1.tmps.getD (rs'.getD i 0) undef := by simp [Array.getD_eq_getD_getElem?, List.getD, hi']
              rw [q1, q2]; exact e4.2 _
            rcases rs' with _ | ⟨s, _ | ⟨s', rs'⟩⟩
            · exact tupR
            · exact e4.2 _
            · exact tupR
          rintro e a1 w1 ⟨ae, g1, fr1, st1, rfl, hg1, hc1, hq1⟩
          cases ae with
          | normal => exact fin g1 a1 w1 fr1 st1 hg1 hc1 hq1
          | ret => exact fin g1 a1 w1 fr1 st1 hg1 hc1 hq1
          | exit k => exact hq1.elim
        · simp at hf
      · simp at hf
  · simp at hf

end Go.Proofs.Ytmjnpfackanhlaa.AM
