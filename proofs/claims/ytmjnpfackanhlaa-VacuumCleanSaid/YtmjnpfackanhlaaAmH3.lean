/- The abstract layer, without frames: soundness. -/
import Derived.Test.YtmjnpfackanhlaaAmH2
namespace Go.Proofs.Ytmjnpfackanhlaa.AM
open Go Go.RowKit
set_option linter.unusedSimpArgs false
set_option linter.unusedVariables false
variable {P : Program}

theorem FrRel.mkFr {g g' : G} {n : Nat} {fr fr' : Fr} {t : Array Value} (hg : g.le g') (hf : FrRel g n fr' t) {ls ds : List Nat} {vs : List V} (hd : ∀ s, ds.contains s = false → fr' s = fr s)
  (hlen : vs.length = ls.length) (hv : ∀ i x, VRel g ((ls.map fr').getD i .junk) x → VRel g' (vs.getD i .junk) x) : FrRel g' n (mkFr fr ls ds vs) t := by
 refine ⟨hf.1, fun s => ?_⟩
 unfold AM.mkFr
 have base : ∀ s, VRel g' (junkd fr ds s) (t.getD s undef) := by
  intro s
  unfold junkd
  split
  ·exact .junk _
  ·rename_i h
   rw [← hd s (by simpa using h)]; exact (hf.2 s).mono hg
 have key : ∀ (ls : List Nat) (vs : List V), vs.length = ls.length → (∀ i x, VRel g ((ls.map fr').getD i .junk) x → VRel g' (vs.getD i .junk) x) → ∀ (fr2 : Fr), (∀ s, VRel g' (fr2 s) (t.getD s undef)) → ∀ s, VRel g' (AM.updl fr2 ls vs s) (t.getD s undef) := by
  intro ls
  induction ls with
  | nil => intro vs hl hv fr2 h2 s; simpa [AM.updl] using h2 s
  | cons l ls ih =>
   intro vs hl hv fr2 h2 s
   cases vs with
   | nil => simp at hl
   | cons v vs =>
    simp only [AM.updl]
    refine ih vs (by simpa using hl) (fun i x hx => ?_) _ (fun s => ?_) s
    ·have := hv (i + 1) x (by simpa using hx); simpa using this
    ·by_cases e : s = l
     ·subst e; rw [upd_eq]
      have := hv 0 (t.getD s undef) (by simpa using hf.2 s); simpa using this
     ·rw [upd_ne _ _ e]; exact h2 s
 exact key ls vs hlen hv _ base s

def frameQ (ds : List Nat) (fr0 : Fr) (Q : APost) : APost := fun e fr st => Q e fr st ∧ ∀ s, ds.contains s = false → fr s = fr0 s

theorem AWp.mono {n : Nat} {ro : Option Nat} {c : Code} {Q Q' : APost} {fr : Fr} {st : St} (hq : ∀ e fr st, Q e fr st → Q' e fr st) (h : AWp P n ro c Q fr st) : AWp P n ro c Q' fr st := by
 intro D0 g a w hc
 refine wpIn_mono (h D0 g a w hc) ?_
 rintro e a' w' ⟨ae, g', fr', st', h1, h2, h3, h4⟩
 exact ⟨ae, g', fr', st', h1, h2, h3, hq _ _ _ h4⟩

theorem sub_contains {a b : List Nat} (h : a.all (b.contains ·) = true) {s : Nat} (hs : b.contains s = false) : a.contains s = false := by
 simp only [List.all_eq_true] at h
 cases e : a.contains s with
 | false => rfl
 | true => have := h s (by simpa using e); rw [hs] at this; cases this

theorem app_contains {a b : List Nat} {s : Nat} : (a ++ b).contains s = false ↔ a.contains s = false ∧ b.contains s = false := by
 simp [List.contains_eq_mem]

theorem AInv_yldS {id ver : Nat} {fr : Fr} {n : Nat} {ps : List Nat} {assign body : RCode} {args : List V} {st : St} {K : V → St → Prop}
  (ho : st.get id ver = some (.loop fr n ps assign body .ready)) (hl : ps.length = args.length)
  (h : ∀ (b : Nat) (ca cb : Code), resCode P n ca = some assign → resCode P n cb = some body →
   AWp P n (some b) ca (thenQ (fun fr1 st1 => st1.get id ver = some (.loop fr n ps assign body .ready) ∧ AWp P n (some b) cb (yldQ id ver fr n ps assign body K) fr1 (st1.setO id ver (.loop fr n ps assign body .busy))) noQ) (updl fr ps args) st) :
  AInv P (.yld id ver) args st K := by
 intro g w Fv Args hs hY hA
 cases hY with
 | yld _ _ b L hL hb =>
  obtain ⟨b', lp, L', hL', hb', hw, hsr, hf, hp, hpn, ha, hbd, hput⟩ := hs.reloop ho
  obtain rfl := Option.some.inj (hL.symm.trans hL')
  obtain rfl := Option.some.inj (hb.symm.trans hb')
  have hsz : Args.size = lp.params.size := by rw [← hA.1, ← hl, ← hp]; simp
  refine ⟨{ target := .fn (.yield b) #[], args := Args }, by simp [Deferred.ofValue], .inr ⟨b, lp.fn, _, lp.assign, lp.body, by simp only [invoke]; exact run_yield hw hsz, ?_⟩⟩
  let t := ((lp.params.zip Args).foldl (fun tmps (t, a) => tmps.setIfInBounds t a) lp.tmps)
  have hft : FrRel g n (updl fr ps args) t := by
   have := FrRel.updl ps args Args.toList hf hpn (by simpa using hA.1) (fun i hi => by have := hA.2 i hi; simpa [Array.getD_eq_getD_getElem?, List.getD] using this)
   rw [← hp] at this ⊢
   rw [← Array.toList_zip] at this
   rw [Array.foldl_toList] at this
   exact this
  refine roundIn_of_wpIn trivial ?_
  have hcfg : Cfg P n g.dfr g { tmps := t, defers := [] } w (updl fr ps args) st := ⟨hs, hft, [], rfl, rfl⟩
  refine wpIn_mono (h b lp.assign lp.body ha hbd g.dfr g _ w hcfg) ?_
  rintro e a1 w1 ⟨ae, g1, fr1, st1, rfl, hg1, hc1, hq1⟩
  cases ae with
  | exit k => exact hq1.elim
  | ret => exact hq1.elim
  | normal =>
   obtain ⟨ho1, hq1⟩ := hq1
   obtain ⟨b1, lp1, L1, hL1, hb1, hw1, hsr1, hf1, hp1, hpn1, ha1, hbd1, hput1⟩ := hc1.sim.reloop ho1
   obtain rfl := Option.some.inj ((hg1.loc _ _ hL).symm.trans hL1)
   obtain rfl := Option.some.inj (hb.symm.trans hb1)
   refine ⟨_, run_beginRound hw1 hsr1.1, ?_⟩
   have hs2 := hput1 .busy .busy none ⟨rfl, rfl⟩
   have he : ({ lp1 with state := .busy } : Loop) = { lp1 with state := .busy, pending := none } := by rw [← hsr1.2]
   rw [he]
   have hcfg2 : Cfg P n g.dfr g1 a1 _ fr1 (st1.setO id ver (.loop fr n ps assign body .busy)) := ⟨hs2, hc1.fr, hc1.dfr⟩
   refine wpIn_mono (hq1 g.dfr g1 _ _ hcfg2) ?_
   have fin : ∀ (g2 : G) (a2 : Act) (w2 : World) (fr2 : Fr) (st2 : St) (j : Option Code) (s' : LSt) (hrel : s'.rel (if j.isNone then .ready else .done) j), g1.le g2 → Cfg P n g.dfr g2 a2 w2 fr2 st2 → st2.get id ver = some (.loop fr n ps assign body .busy) →
     K (.bool j.isNone) (st2.setO id ver (.loop fr n ps assign body s')) → ∃ v w', (Instr.endRound b j).run P w2 = .ok v w' ∧ CPost P g K (.returned v) w' := by
    intro g2 a2 w2 fr2 st2 j s' hrel hg2 hc2 ho2 hk
    obtain ⟨b2, lp2, L2, hL2, hb2, hw2, hsr2, hf2, hp2, hpn2, ha2, hbd2, hput2⟩ := hc2.sim.reloop ho2
    obtain rfl := Option.some.inj ((hg2.loc _ _ (hg1.loc _ _ hL)).symm.trans hL2)
    obtain rfl := Option.some.inj (hb.symm.trans hb2)
    refine ⟨_, _, run_endRound j hw2, ?_⟩
    have hs3 := hput2 s' _ j hrel
    obtain ⟨l, hl1, _⟩ := hc2.dfr
    obtain ⟨hle3, hs4⟩ := hs3.undfr hl1
    exact ⟨_, _, _, _, rfl, (hg1.trans hg2).trans hle3, rfl, hs4, .bool _, hk⟩
   rintro e a2 w2 ⟨ae, g2, fr2, st2, rfl, hg2, hc2, hq2⟩
   cases ae with
   | normal => exact fin g2 a2 w2 fr2 st2 none .ready ⟨rfl, rfl⟩ hg2 hc2 hq2.1 hq2.2
   | ret => exact fin g2 a2 w2 fr2 st2 (some .ret) (.done .ret) ⟨rfl, rfl⟩ hg2 hc2 hq2.1 hq2.2
   | exit k => exact fin g2 a2 w2 fr2 st2 (some (.exit k)) (.done (.exit k)) ⟨rfl, rfl⟩ hg2 hc2 hq2.1 hq2.2

theorem mkFr_out {fr : Fr} {ls ds : List Nat} {vs : List V} {s : Nat} (hl : ls.all (ds.contains ·) = true) (hs : ds.contains s = false) : AM.mkFr fr ls ds vs s = fr s := by
 unfold AM.mkFr
 have key : ∀ (ls : List Nat) (vs : List V) (fr2 : Fr), ls.contains s = false → AM.updl fr2 ls vs s = fr2 s := by
  intro ls
  induction ls with
  | nil => intro vs fr2 _; simp [AM.updl]
  | cons l ls ih =>
   intro vs fr2 h
   cases vs with
   | nil => simp [AM.updl]
   | cons v vs =>
    simp only [AM.updl]
    have h1 : s ≠ l ∧ ls.contains s = false := by simpa [List.contains_eq_mem] using h
    rw [ih vs _ h1.2, upd_ne _ _ h1.1]
 rw [key ls vs _ (sub_contains hl hs)]
 unfold junkd; rw [hs]; rfl

theorem resCode_seq {n : Nat} {c : Code} {a b : RCode} (h : resCode P n c = some (.seq a b)) : ∃ x y, c = .seq x y ∧ resCode P n x = some a ∧ resCode P n y = some b := by
 cases c with
 | region id ops d =>
  simp only [resCode] at h
  split at h
  ·split at h
   ·obtain ⟨_, _, h⟩ := resDrawn_regD h; cases h
   ·simp at h
  ·simp at h
 | seq x y =>
  simp only [resCode] at h
  split at h
  ·rename_i a' b' h1 h2; simp only [Option.some.injEq, RCode.seq.injEq] at h; obtain ⟨rfl, rfl⟩ := h; exact ⟨x, y, rfl, h1, h2⟩
  ·simp at h
 | cond x y z => simp only [resCode] at h; split at h <;> simp at h
 | block i x => simp only [resCode, Option.map_eq_some_iff] at h; obtain ⟨_, _, h⟩ := h; cases h
 | loop x => simp only [resCode, Option.map_eq_some_iff] at h; obtain ⟨_, _, h⟩ := h; cases h
 | rangeFunc f ps x y => simp only [resCode] at h; split at h <;> simp at h
 | scope x => simp only [resCode, Option.map_eq_some_iff] at h; obtain ⟨_, h1, h⟩ := h; cases h
 | _ => simp [resCode] at h

theorem resCode_cond {n : Nat} {c : Code} {r : X} {a b : RCode} (h : resCode P n c = some (.cond r a b)) : (∃ o x y, c = .cond o x y ∧ resX o = some r ∧ resCode P n x = some a ∧ resCode P n y = some b) ∨ ∃ x, c = .scope x ∧ r = .c (.bool true) ∧ resCode P n x = some a := by
 cases c with
 | region id ops d =>
  simp only [resCode] at h
  split at h
  ·split at h
   ·obtain ⟨_, _, h⟩ := resDrawn_regD h; cases h
   ·simp at h
  ·simp at h
 | seq x y => simp only [resCode] at h; split at h <;> simp at h
 | cond o x y =>
  simp only [resCode] at h
  split at h
  ·rename_i r' a' b' h1 h2 h3; simp only [Option.some.injEq, RCode.cond.injEq] at h; obtain ⟨rfl, rfl, rfl⟩ := h; exact .inl ⟨o, x, y, rfl, h1, h2, h3⟩
  ·simp at h
 | block i x => simp only [resCode, Option.map_eq_some_iff] at h; obtain ⟨_, _, h⟩ := h; cases h
 | loop x => simp only [resCode, Option.map_eq_some_iff] at h; obtain ⟨_, _, h⟩ := h; cases h
 | rangeFunc f ps x y => simp only [resCode] at h; split at h <;> simp at h
 | scope x => simp only [resCode, Option.map_eq_some_iff] at h; obtain ⟨_, h1, h⟩ := h; cases h; exact .inr ⟨x, rfl, rfl, h1⟩
 | _ => simp [resCode] at h

theorem resCode_block {n : Nat} {c : Code} {id : Nat} {a : RCode} (h : resCode P n c = some (.block id a)) : ∃ x, c = .block id x ∧ resCode P n x = some a := by
 cases c with
 | region id ops d =>
  simp only [resCode] at h
  split at h
  ·split at h
   ·obtain ⟨_, _, h⟩ := resDrawn_regD h; cases h
   ·simp at h
  ·simp at h
 | seq x y => simp only [resCode] at h; split at h <;> simp at h
 | cond o x y => simp only [resCode] at h; split at h <;> simp at h
 | block i x => simp only [resCode, Option.map_eq_some_iff] at h; obtain ⟨_, h1, h⟩ := h; cases h; exact ⟨x, rfl, h1⟩
 | loop x => simp only [resCode, Option.map_eq_some_iff] at h; obtain ⟨_, _, h⟩ := h; cases h
 | rangeFunc f ps x y => simp only [resCode] at h; split at h <;> simp at h
 | scope x => simp only [resCode, Option.map_eq_some_iff] at h; obtain ⟨_, h1, h⟩ := h; cases h
 | _ => simp [resCode] at h

theorem resCode_loop {n : Nat} {c : Code} {a : RCode} (h : resCode P n c = some (.loop a)) : ∃ x, c = .loop x ∧ resCode P n x = some a := by
 cases c with
 | region id ops d =>
  simp only [resCode] at h
  split at h
  ·split at h
   ·obtain ⟨_, _, h⟩ := resDrawn_regD h; cases h
   ·simp at h
  ·simp at h
 | seq x y => simp only [resCode] at h; split at h <;> simp at h
 | cond o x y => simp only [resCode] at h; split at h <;> simp at h
 | block i x => simp only [resCode, Option.map_eq_some_iff] at h; obtain ⟨_, h1, h⟩ := h; cases h
 | loop x => simp only [resCode, Option.map_eq_some_iff] at h; obtain ⟨_, h1, h⟩ := h; cases h; exact ⟨x, rfl, h1⟩
 | rangeFunc f ps x y => simp only [resCode] at h; split at h <;> simp at h
 | scope x => simp only [resCode, Option.map_eq_some_iff] at h; obtain ⟨_, h1, h⟩ := h; cases h
 | _ => simp [resCode] at h

theorem rfunc_sound {n : Nat} {c : Code} {f : X} {ps : List Nat} {asg body : RCode} (hr : resCode P n c = some (.rfunc f ps asg body)) {Q : APost} {fr : Fr} {st : St} (hps : ∀ p ∈ ps, p < n)
  (h : AInvE P (f.ev fr) [.yld st.objs.length st.nv] (st.push (.loop fr n ps asg body .ready)) fun _ st' =>
    ∃ s, st'.get st.objs.length st.nv = some (.loop fr n ps asg body s) ∧ rfuncEnd Q fr (st'.gone st.objs.length) s) : AWp P n none c Q fr st :=
 awp_sound c _ hr (.inl rfl) ⟨hps, h⟩

theorem hwp_sound {n : Nat} : ∀ (ac : ACode) (c : Code), resCode P n c = some ac.er → ac.ok = true → ac.er.psOk n = true → ∀ {ro : Option Nat} (hro : ro = none ∨ ac.er.norf = true) {Q : APost} {fr : Fr} {st : St}, hwp P ac Q fr st → AWp P n ro c (frameQ ac.asg fr Q) fr st := by
 intro ac
 induction ac with
 | skip =>
  intro c hr hok hps ro hro Q fr st h
  exact awp_sound c _ hr hro (Q := frameQ _ fr Q) ⟨h, fun _ _ => rfl⟩
 | reg ops =>
  intro c hr hok hps ro hro Q fr st h
  refine awp_sound c _ hr hro (Q := frameQ _ fr Q) ?_
  have h : hreg P ops (Q .normal) fr st := h
  rw [hreg_areg] at h
  have := areg_frame ops (fr1 := fr) (fun s => (dsts ops).contains s = true) (fun o ho d hd => by
   simp only [List.contains_eq_mem, decide_eq_true_eq]; exact List.mem_filterMap.2 ⟨o, ho, hd⟩) (fun _ _ => rfl) h
  exact areg_mono ops (fun fr' st' h => ⟨h.1, fun s hs => h.2 s (by simp only [ACode.asg] at hs; rw [hs]; simp)⟩) this
 | regD ops sch =>
  intro c hr hok hps ro hro Q fr st h
  refine awp_sound c _ hr hro (Q := frameQ _ fr Q) ?_
  have := aregD_frame sch (fr1 := fr) (fun s => (dsts (sch.map fun s => ops.getD s.1 default)).contains s = true) (fun o ho d hd => by
   simp only [List.contains_eq_mem, decide_eq_true_eq]; exact List.mem_filterMap.2 ⟨_, List.mem_map.2 ⟨o, ho, rfl⟩, hd⟩) (fun _ _ => rfl) (hregD_aregD sch h)
  exact aregD_mono sch (fun fr' st' h => ⟨h.1, fun s hs => h.2 s (by simp only [ACode.asg] at hs; rw [hs]; simp)⟩) this
 | seq a b iha ihb =>
  intro c hr hok hps ro hro Q fr st h D0 g act w hc
  simp only [ACode.ok, Bool.and_eq_true] at hok
  simp only [ACode.er, RCode.psOk, Bool.and_eq_true] at hps
  have hro1 : ro = none ∨ a.er.norf = true := hro.imp id (fun h => by simp only [ACode.er, RCode.norf, Bool.and_eq_true] at h; exact h.1)
  have hro2 : ro = none ∨ b.er.norf = true := hro.imp id (fun h => by simp only [ACode.er, RCode.norf, Bool.and_eq_true] at h; exact h.2)
  obtain ⟨x, y, rfl, h1, h2⟩ := resCode_seq hr
  refine wpIn_seq (wpIn_mono (iha x h1 hok.1 hps.1 hro1 h D0 g act w hc) ?_)
  rintro e a' w' ⟨ae, g', fr', st', rfl, hg, hc', hq, hfr⟩
  have hfra : ∀ s, (ACode.seq a b).asg.contains s = false → fr' s = fr s := fun s hs => hfr s (app_contains.1 hs).1
  cases ae with
  | normal =>
   refine wpIn_mono (ihb y h2 hok.2 hps.2 hro2 hq D0 g' a' w' hc') ?_
   rintro e a2 w2 ⟨ae, g2, fr2, st2, rfl, hg2, hc2, hq2, hfr2⟩
   exact ⟨ae, g2, fr2, st2, rfl, hg.trans hg2, hc2, hq2, fun s hs => (hfr2 s (app_contains.1 hs).2).trans (hfra s hs)⟩
  | exit id => exact ⟨.exit id, g', fr', st', rfl, hg, hc', hq, hfra⟩
  | ret => exact ⟨.ret, g', fr', st', rfl, hg, hc', hq, hfra⟩
 | join ls ds a b iha ihb =>
  intro c hr hok hps ro hro Q fr st h D0 g act w hc
  simp only [ACode.ok, Bool.and_eq_true] at hok
  simp only [ACode.er, RCode.psOk, Bool.and_eq_true] at hps
  have hro1 : ro = none ∨ a.er.norf = true := hro.imp id (fun h => by simp only [ACode.er, RCode.norf, Bool.and_eq_true] at h; exact h.1)
  have hro2 : ro = none ∨ b.er.norf = true := hro.imp id (fun h => by simp only [ACode.er, RCode.norf, Bool.and_eq_true] at h; exact h.2)
  obtain ⟨x, y, rfl, h1, h2⟩ := resCode_seq hr
  obtain ⟨J, hJ1, hJ2⟩ := h
  refine wpIn_seq (wpIn_mono (iha x h1 hok.1.1.1.1 hps.1 hro1 hJ1 D0 g act w hc) ?_)
  rintro e a' w' ⟨ae, g', fr', st', rfl, hg, hc', hq, hfr⟩
  have hfra : ∀ s, (ACode.join ls ds a b).asg.contains s = false → fr' s = fr s := fun s hs => hfr s (app_contains.1 hs).1
  cases ae with
  | normal =>
   obtain ⟨vs', st1, hlen, hgh, hJ⟩ := hq
   obtain ⟨g1, e1, e2, e3, e4⟩ := hgh P g' w' hc'.sim
   have hcf : Cfg P n D0 g1 a' w' (mkFr fr ls ds vs') st1 := by
    refine ⟨e3, FrRel.mkFr e1 hc'.fr (fun s hs => hfr s (sub_contains hok.1.1.2 hs)) (by simpa using hlen) e4, ?_⟩
    obtain ⟨l, q1, q2⟩ := hc'.dfr; exact ⟨l, by rw [e2]; exact q1, q2⟩
   refine wpIn_mono (ihb y h2 hok.1.1.1.2 hps.2 hro2 ((allR_iff _).1 hJ2 vs' st1 (by simpa using hlen) hJ) D0 g1 a' w' hcf) ?_
   rintro e a2 w2 ⟨ae, g2, fr2, st2, rfl, hg2, hc2, hq2, hfr2⟩
   refine ⟨ae, g2, fr2, st2, rfl, (hg.trans e1).trans hg2, ?_, hq2, fun s hs => ?_⟩
   ·obtain ⟨l, q1, q2⟩ := hc2.dfr; exact ⟨hc2.sim, hc2.fr, l, q1, q2⟩
   ·rw [hfr2 s (app_contains.1 hs).2]
    exact mkFr_out hok.2 (sub_contains hok.1.2 (app_contains.1 hs).1)
  | exit id => exact ⟨.exit id, g', fr', st', rfl, hg, hc', hq, hfra⟩
  | ret => exact ⟨.ret, g', fr', st', rfl, hg, hc', hq, hfra⟩
 | cond x a b iha ihb =>
  intro c hr hok hps ro hro Q fr st h D0 g act w hc
  simp only [ACode.ok, Bool.and_eq_true] at hok
  simp only [ACode.er, RCode.psOk, Bool.and_eq_true] at hps
  have hro1 : ro = none ∨ a.er.norf = true := hro.imp id (fun h => by simp only [ACode.er, RCode.norf, Bool.and_eq_true] at h; exact h.1)
  have hro2 : ro = none ∨ b.er.norf = true := hro.imp id (fun h => by simp only [ACode.er, RCode.norf, Bool.and_eq_true] at h; exact h.2)
  have hm : ∀ (A : ACode) (hA : ∀ s, (ACode.cond x a b).asg.contains s = false → A.asg.contains s = false) e a' w', Lift P n D0 g (frameQ A.asg fr Q) e a' w' → Lift P n D0 g (frameQ (ACode.cond x a b).asg fr Q) e a' w' := by
   rintro A hA e a' w' ⟨ae, g', fr', st', rfl, hg, hc', hq, hfr⟩
   exact ⟨ae, g', fr', st', rfl, hg, hc', hq, fun s hs => hfr s (hA s hs)⟩
  rcases resCode_cond hr with ⟨o, cx, cy, rfl, h1, h2, h3⟩ | ⟨cx, rfl, rfl, h2⟩
  rotate_left
  ·have h' : hwp P a Q fr st := h.1 rfl
   exact wpIn_scope (wpIn_mono (iha cx h2 hok.1 hps.1 hro1 h' D0 g act w hc) (fun _ _ _ h => lift_noGoto (hm a (fun s hs => (app_contains.1 hs).1) _ _ _ h)))
  have hx := resX_rel hc.fr h1
  have h : hcond (x.ev fr) (hwp P a Q fr st) (hwp P b Q fr st) := h
  unfold hcond at h
  split at h
  ·rename_i t ht
   rw [ht] at hx
   have hev : act.eval o = .bool t := by generalize act.eval o = z at hx; cases hx; rfl
   refine wpIn_cond hev ?_
   cases t with
   | true => exact wpIn_mono (iha cx h2 hok.1 hps.1 hro1 (h.1 rfl) D0 g act w hc) (hm a (fun s hs => (app_contains.1 hs).1))
   | false => exact wpIn_mono (ihb cy h3 hok.2 hps.2 hro2 (h.2 rfl) D0 g act w hc) (hm b (fun s hs => (app_contains.1 hs).2))
  ·exact h.elim
 | block id a iha =>
  intro c hr hok hps ro hro Q fr st h D0 g act w hc
  obtain ⟨x, rfl, h1⟩ := resCode_block hr
  refine wpIn_block (wpIn_mono (iha x h1 hok hps hro h D0 g act w hc) ?_)
  rintro e a' w' ⟨ae, g', fr', st', rfl, hg, hc', hq, hfr⟩
  cases ae with
  | normal => exact ⟨.normal, g', fr', st', rfl, hg, hc', hq, hfr⟩
  | exit id' =>
   simp only [AEx.ex, Exit.inBlock]
   by_cases e : id' = id
   ·have hq : (if id' = id then Q .normal fr' st' else Q (.exit id') fr' st') := hq
    rw [if_pos e] at hq; rw [if_pos e]; exact ⟨.normal, g', fr', st', rfl, hg, hc', hq, hfr⟩
   ·have hq : (if id' = id then Q .normal fr' st' else Q (.exit id') fr' st') := hq
    rw [if_neg e] at hq; rw [if_neg e]; exact ⟨.exit id', g', fr', st', rfl, hg, hc', hq, hfr⟩
  | ret => exact ⟨.ret, g', fr', st', rfl, hg, hc', hq, hfr⟩
 | loop ls ds a iha =>
  intro c hr hok hps ro hro Q fr st h D0 g act w hc
  simp only [ACode.ok, Bool.and_eq_true] at hok
  obtain ⟨x, rfl, h1⟩ := resCode_loop hr
  obtain ⟨I, ⟨k0, h0⟩, hround⟩ := h
  let J : Act → World → Nat → Prop := fun a w k => ∃ g' vs st, g.le g' ∧ Cfg P n D0 g' a w (mkFr fr ls ds vs) st ∧ vs.length = ls.length ∧ app (I k) vs st
  have ghost : ∀ {g' : G} {a : Act} {w : World} {fr' : Fr} {st : St} {k : Nat}, g.le g' → Cfg P n D0 g' a w fr' st → (∀ s, ds.contains s = false → fr' s = fr s) → GhostV (ls.map fr') st (app (I k)) → J a w k := by
   intro g' a w fr' st k hg hc hfr hgt
   obtain ⟨vs', st1, hlen, hgh, hi⟩ := hgt
   obtain ⟨g1, e1, e2, e3, e4⟩ := hgh P g' w hc.sim
   refine ⟨g1, vs', st1, hg.trans e1, ⟨e3, FrRel.mkFr e1 hc.fr hfr (by simpa using hlen) e4, ?_⟩, by simpa using hlen, hi⟩
   obtain ⟨l, q1, q2⟩ := hc.dfr; exact ⟨l, by rw [e2]; exact q1, q2⟩
  refine wpIn_loop (I := fun a w => ∃ k, J a w k) (μ := fun a w => leastOf (J a w)) ⟨k0, ghost (.refl g) hc (fun _ _ => rfl) h0⟩ ?_
  intro act w hI
  obtain ⟨⟨g', vs, st, hg, hc', hlen, hi⟩, _⟩ := leastOf_spec hI
  refine wpIn_mono (iha x h1 hok.1.1.1 hps hro ((allR_iff _).1 (hround _) vs st hlen hi) D0 g' act w hc') ?_
  have hout : ∀ (fr2 : Fr), (∀ s, a.asg.contains s = false → fr2 s = mkFr fr ls ds vs s) → ∀ s, ds.contains s = false → fr2 s = fr s := by
   intro fr2 h2 s hs
   rw [h2 s (sub_contains hok.1.1.2 hs)]; exact mkFr_out hok.2 hs
  rintro e a' w' ⟨ae, g2, fr2, st2, rfl, hg2, hc2, hq, hfr⟩
  cases ae with
  | normal =>
   obtain ⟨j, hj, hgt⟩ := hq
   have hJ := ghost (hg.trans hg2) hc2 (hout fr2 hfr) hgt
   exact ⟨⟨j, hJ⟩, Nat.lt_of_le_of_lt ((leastOf_spec ⟨j, hJ⟩).2 j hJ) hj⟩
  | exit id => exact ⟨.exit id, g2, fr2, st2, rfl, hg.trans hg2, hc2, hq, fun s hs => hout fr2 hfr s (sub_contains hok.1.2 hs)⟩
  | ret => exact ⟨.ret, g2, fr2, st2, rfl, hg.trans hg2, hc2, hq, fun s hs => hout fr2 hfr s (sub_contains hok.1.2 hs)⟩
 | rfunc f ps asg body iha ihb =>
  intro c hr hok hps ro hro Q fr st h
  simp only [ACode.ok, Bool.and_eq_true] at hok
  obtain ⟨⟨⟨hok1, hok2⟩, hn1⟩, hn2⟩ := hok
  simp only [ACode.er, RCode.psOk, Bool.and_eq_true, List.all_eq_true, decide_eq_true_eq] at hps
  obtain ⟨⟨hp0, hp1⟩, hp2⟩ := hps
  have hro : ro = none := by rcases hro with h | h; exact h; simp [ACode.er, RCode.norf] at h
  subst hro
  refine rfunc_sound hr hp0 ?_
  refine AInvE.mono (fun v st' hs => ?_) (h (fun s => .loop fr n ps asg.er body.er s) ?_)
  ·obtain ⟨s, a1, a2⟩ := hs
   refine ⟨s, a1, ?_⟩
   cases s with
   | ready => exact ⟨a2, fun _ _ => rfl⟩
   | busy => exact a2
   | done j => cases j <;> exact ⟨a2, fun _ _ => rfl⟩
  ·intro st1 K
   refine (allV_iff _).2 (fun args hl ho hh => ?_)
   refine AInv_yldS ho hl.symm (fun b ca cb r1 r2 => ?_)
   refine AWp.mono ?_ (iha ca r1 hok1 hp1 (.inr hn1) hh)
   rintro e fr2 st2 ⟨hq, _⟩
   cases e with
   | normal =>
    refine ⟨hq.1, AWp.mono ?_ (ihb cb r2 hok2 hp2 (.inr hn2) hq.2)⟩
    rintro e fr3 st3 ⟨hq, _⟩
    cases e <;> exact hq
   | exit id => exact hq
   | ret => exact hq
 | exit id =>
  intro c hr hok hps ro hro Q fr st h
  exact awp_sound c _ hr hro (Q := frameQ _ fr Q) ⟨h, fun _ _ => rfl⟩
 | ret =>
  intro c hr hok hps ro hro Q fr st h
  exact awp_sound c _ hr hro (Q := frameQ _ fr Q) ⟨h, fun _ _ => rfl⟩

end Go.Proofs.Ytmjnpfackanhlaa.AM
