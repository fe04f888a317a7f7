/- The abstract layer: soundness of code. -/
import Derived.Test.YtmjnpfackanhlaaAmReg2
import Derived.Scope
namespace Go.Proofs.Ytmjnpfackanhlaa.AM
open Go Go.RowKit
set_option linter.unusedSimpArgs false
set_option linter.unusedVariables false
variable {P : Program}

theorem least {p : Nat → Prop} (h : ∃ k, p k) : ∃ k, p k ∧ ∀ j, p j → k ≤ j := by
 obtain ⟨k, hk⟩ := h
 induction k using Nat.strongRecOn with
 | _ k ih =>
  by_cases hm : ∃ j, j < k ∧ p j
  ·obtain ⟨j, hj, hp⟩ := hm; exact ih j hj hp
  ·exact ⟨k, hk, fun j hj => by
    rcases Nat.lt_or_ge j k with h | h
    ·exact absurd ⟨j, h, hj⟩ hm
    ·exact h⟩

open Classical in
noncomputable def leastOf (p : Nat → Prop) : Nat := if h : ∃ k, p k then Classical.choose (least h) else 0
theorem leastOf_spec {p : Nat → Prop} (h : ∃ k, p k) : p (leastOf p) ∧ ∀ j, p j → leastOf p ≤ j := by
 unfold leastOf; rw [dif_pos h]; exact Classical.choose_spec (least h)

theorem AInvE_fn {k : FuncId} {first cap args : List V} {st : St} {K : V → St → Prop} (h : ACalls P k (first ++ args ++ cap) st K) : AInvE P (.fn (.func k) first cap) args st K := by
  intro g w Fv Args h1 h2 h3
  cases h2 with
  | fn _ _ _ fs cs hf hc e1 e2 =>
    have happ : ∀ {as bs : List V} {xs ys : Array Value}, VRels g as xs → VRels g bs ys → VRels g (as ++ bs) (xs ++ ys) := by
      intro as bs xs ys ha hb
      refine ⟨by simp [ha.1, hb.1], fun i hi => ?_⟩
      simp at hi
      by_cases hlt : i < as.length
      · have q1 : (as ++ bs).getD i .junk = as.getD i .junk := by simp [List.getD, List.getElem?_append_left hlt]
        have q2 : (xs ++ ys).getD i undef = xs.getD i undef := by simp only [Array.getD_eq_getD_getElem?]; rw [Array.getElem?_append_left (by have := ha.1; omega)]
        rw [q1, q2]; exact ha.2 i hlt
      · have q1 : (as ++ bs).getD i .junk = bs.getD (i - as.length) .junk := by simp [List.getD, List.getElem?_append_right (Nat.le_of_not_lt hlt)]
        have q2 : (xs ++ ys).getD i undef = ys.getD (i - as.length) undef := by simp only [Array.getD_eq_getD_getElem?]; rw [Array.getElem?_append_right (by have := ha.1; omega), ha.1]
        rw [q1, q2]; exact hb.2 _ (by omega)
    refine ⟨{ target := .fn (.func k) cs, args := fs ++ Args }, by simp [Deferred.ofValue], k, fs ++ Args ++ cs, ?_, h.2 g w _ h1 (happ (happ ⟨hf, e1⟩ h3) ⟨hc, e2⟩)⟩
    simp only [invoke]
    exact h.1 _ _

theorem rel_one {g : G} {v : V} {x : Value} (h : VRel g v x) : VRels g [v] #[x] := ⟨rfl, fun i hi => by simp at hi; subst hi; exact h⟩

theorem endLoop_run {w : World} {b : Nat} {l : Loop} (h : w.heap[b]? = some (.loop l)) (hs : l.state ≠ .busy) :
  (Instr.endLoop b).run P w = .ok l.pending { w with heap := w.heap.setIfInBounds b (.loop { l with state := .exhausted }) } := by
 have hg : (getObj b).run P w = .ok (.loop l) w := by simp [getObj, Sem.run, h]
 have hset : ∀ o, (setObj b o).run P w = .ok () { w with heap := w.heap.setIfInBounds b o } := by intro o; simp [setObj, Sem.run, h]
 have hbs : (l.state == LoopState.busy) = false := by cases hl : l.state <;> simp_all <;> rfl
 simp [Instr.endLoop, Instr.getLoop, hg, hset, hbs]
 intro e; exact absurd e hs

theorem jump_code_wp {n : Nat} {ro : Option Nat} {D0 : List (Nat × Go.Obj)} {Q : APost} {fr : Fr} {st : St} {g0 g : G} {a : Act} {w : World} (hg : g0.le g) (hc : Cfg P n D0 g a w fr st) : ∀ (j : Jump), rfuncEnd Q fr st (.done j) → j.code.wpIn (FF ro) 0 P (Lift P n D0 g0 Q) a w
 | .ret, h => wpIn_ret ⟨.ret, g, fr, st, rfl, hg, hc, h⟩
 | .exit id, h => wpIn_exit ⟨.exit id, g, fr, st, rfl, hg, hc, h⟩

theorem alloc_self (w : World) (o : Go.Obj) : (w.alloc o).heap[w.heap.size]? = some o := by show (w.heap.push o)[w.heap.size]? = _; simp

theorem Sim.gone {g : G} {st : St} {w w' : World} (h : Sim P g st w) {id ver : Nat} {o : Obj} {L : Loc} (ho : st.objs[id]? = some (some (ver, o))) (hL : g.loc ver = some L) (ht : Turn g L w w') : Sim P g (st.gone id) w' := by
 have get : ∀ (id1 : Nat) (x : Nat × Obj), (st.gone id).objs[id1]? = some (some x) → id1 ≠ id ∧ st.objs[id1]? = some (some x) := by
  intro id1 x hx
  have hx : (st.objs.set id none)[id1]? = some (some x) := hx
  rw [List.getElem?_set] at hx
  by_cases e : id = id1
  ·subst e; rw [if_pos rfl] at hx; split at hx <;> cases hx
  ·rw [if_neg e] at hx; exact ⟨fun k => e k.symm, hx⟩
 have other : ∀ (id1 ver1 : Nat) (o1 : Obj) (L1 : Loc), id1 ≠ id → st.objs[id1]? = some (some (ver1, o1)) → g.loc ver1 = some L1 → ∀ b, L1.blk = some b → w'.heap[b]? = w.heap[b]? := by
  intro id1 ver1 o1 L1 hne h1 hL1 b hb
  have := h.own _ _ _ _ _ h1 hL1 hb
  exact ht.same b this.2.1 (fun e => h.dis id id1 ver ver1 o o1 L L1 b ho h1 (Ne.symm hne) hL hL1 e hb)
 refine ⟨h.nv, Nat.le_trans h.B ht.size, ⟨ht.os.trans h.below.os, ht.tape.trans h.below.tape, ht.output.trans h.below.output, Nat.le_trans h.below.size ht.size, fun k hk => ?_⟩, ?_, h.fresh, ?_, ?_, ?_, ?_, h.dnd⟩
 ·refine (ht.same k (Nat.lt_of_lt_of_le hk h.B) (fun e => ?_)).trans (h.below.block k hk)
  have := (h.own _ _ _ _ _ ho hL e).1; omega
 ·intro b off x hx
  have hc := h.imm b off x hx
  refine ⟨(cell_same (ht.same b (lt_of_cell hc.1) (fun e => ?_))).trans hc.1, hc.2⟩
  have := (h.own _ _ _ _ _ ho hL e).2.2.1 off; rw [this] at hx; cases hx
 ·intro id1 ver1 o1 h1
  obtain ⟨hne, h1⟩ := get _ _ h1
  obtain ⟨L1, hL1, h2⟩ := h.obj _ _ _ h1
  exact ⟨L1, hL1, h2.mono (.refl g) (other _ _ _ _ hne h1 hL1)⟩
 ·intro id1 ver1 o1 L1 b h1 hL1 hb
  obtain ⟨hne, h1⟩ := get _ _ h1
  have := h.own _ _ _ _ _ h1 hL1 hb
  exact ⟨this.1, Nat.lt_of_lt_of_le this.2.1 ht.size, this.2.2⟩
 ·intro id1 id2 ver1 ver2 o1 o2 L1 L2 b h1 h2 hne hL1 hL2 hb
  exact h.dis _ _ _ _ _ _ _ _ _ (get _ _ h1).2 (get _ _ h2).2 hne hL1 hL2 hb
 ·intro D hD
  have := h.dfr D hD
  refine ⟨this.1, (ht.same D.1 (Array.getElem?_eq_some_iff.1 this.2.1).1 (fun e => ?_)).trans this.2.1, this.2.2⟩
  exact (h.own _ _ _ _ _ ho hL e).2.2.2 (List.mem_map_of_mem hD)

def G.mark (g : G) (D : Nat) : G := { g with dfr := dmk D :: g.dfr }
theorem G.mark_le (g : G) (D : Nat) : g.le (g.mark D) := ⟨rfl, rfl, Nat.le_refl _, fun _ _ h => h, fun _ _ => rfl, fun _ _ => rfl, fun _ _ _ h => h, fun _ _ _ _ h => h⟩

theorem Sim.marked {g : G} {st : St} {w : World} (h : Sim P g st w) : Sim P (g.mark w.heap.size) st (w.alloc (.deferred (some []))) := by
 have hsame : ∀ k, k < w.heap.size → (w.alloc (.deferred (some []))).heap[k]? = w.heap[k]? := fun k hk => Below.heap_alloc _ _ k hk
 have hsz : (w.alloc (.deferred (some []))).heap.size = w.heap.size + 1 := World.size_alloc ..
 refine ⟨h.nv, by rw [hsz]; exact Nat.le_succ_of_le h.B, ⟨h.below.os, h.below.tape, h.below.output, by rw [hsz]; exact Nat.le_succ_of_le h.below.size, fun k hk => (hsame k (Nat.lt_of_lt_of_le hk h.B)).trans (h.below.block k hk)⟩, ?_, h.fresh, ?_, ?_, h.dis, ?_, ?_⟩
 ·intro b off x hx
  have hc := h.imm b off x hx
  exact ⟨(cell_same (hsame b (lt_of_cell hc.1))).trans hc.1, hc.2⟩
 ·intro id ver o ho
  obtain ⟨L, hL, h2⟩ := h.obj _ _ _ ho
  exact ⟨L, hL, h2.mono (g.mark_le _) (fun b hb => hsame b (h.own _ _ _ _ _ ho hL hb).2.1)⟩
 ·intro id ver o L b ho hL hb
  have := h.own _ _ _ _ _ ho hL hb
  refine ⟨this.1, by rw [hsz]; omega, this.2.2.1, fun hm => ?_⟩
  simp only [G.mark, List.map_cons, dmk, List.mem_cons] at hm
  rcases hm with e | hm
  ·omega
  ·exact this.2.2.2 hm
 ·intro D hD
  rcases List.mem_cons.1 hD with e | hD
  ·subst e; exact ⟨h.B, alloc_self _ _, fun off => by
    show g.imm w.heap.size off = none
    cases hx : g.imm w.heap.size off with
    | none => rfl
    | some x => have := lt_of_cell (h.imm _ off x hx).1; omega⟩
  ·have := h.dfr D hD
   exact ⟨this.1, (hsame D.1 (Array.getElem?_eq_some_iff.1 this.2.1).1).trans this.2.1, this.2.2⟩
 ·refine List.nodup_cons.2 ⟨fun hm => ?_, h.dnd⟩
  obtain ⟨D, hD, e⟩ := List.mem_map.1 hm
  have := (Array.getElem?_eq_some_iff.1 (h.dfr D hD).2.1).1; simp only [dmk] at e; omega

theorem Sim.looped {g : G} {st : St} {w : World} (h : Sim P g st w) {l : Loop} {fr : Fr} {n : Nat} {ps : List Nat} {assign body : RCode} (hf : FrRel g n fr l.tmps) (hps : l.params.toList = ps) (hpn : ∀ p ∈ ps, p < n)
    (ha : resCode P n l.assign = some assign) (hb : resCode P n l.body = some body) (hst : l.state = .ready) (hpe : l.pending = none) :
    let L : Loc := ⟨some w.heap.size, 0, 0, 0⟩
    g.le (g.add L) ∧ Sim P (g.add L) (st.push (.loop fr n ps assign body .ready)) (w.alloc (.loop l)) := by
  intro L
  have hle := G.add_le (g := g) L (h.fresh _ (Nat.le_refl _))
  refine ⟨hle, ?_⟩
  have hsz : (w.alloc (.loop l)).heap.size = w.heap.size + 1 := World.size_alloc ..
  have := h.pushed (ver' := g.nv) (o' := .loop fr n ps assign body .ready) (L' := L) (w' := w.alloc (.loop l)) hle rfl rfl rfl rfl (G.add_fresh L h.fresh) rfl rfl rfl (by rw [hsz]; exact Nat.le_succ _) (fun k hk => Below.heap_alloc _ _ k hk)
    (G.add_loc L) (fun b hb => by simp [L] at hb; subst hb; rw [hsz]; exact ⟨Nat.le_refl _, Nat.lt_succ_self _⟩) ⟨w.heap.size, l, rfl, alloc_self _ _, hf.mono hle, hps, hpn, ha, hb, hst, hpe⟩
  have e : st.nv = g.nv := h.nv
  simp only [St.push, e]
  exact this

def RCode.norf : RCode → Bool
 | .seq a b => a.norf && b.norf
 | .cond _ a b => a.norf && b.norf
 | .block _ c => c.norf
 | .loop c => c.norf
 | .rfunc .. => false
 | _ => true

theorem stepR_scope {P : Program} {b : Frame} {a : Act} {k : List Item} {cs : List Frame} {w : World} {c : Code} : step P (lone (b.atR a (.code (.scope c) :: k)) cs w) = .next (lone (b.atR a (.code c :: .inScope c :: k)) cs w) :=
 step_lone_go (by simp [stepG, stepG.exec, Frame.atR])
theorem stepR_inScope {P : Program} {b : Frame} {a : Act} {k : List Item} {cs : List Frame} {w : World} {c : Code} : step P (lone (b.atR a (.inScope c :: k)) cs w) = .next (lone (b.atR a k) cs w) :=
 step_lone_go (by simp [stepG, stepG.exec, Frame.atR])

theorem wpIn_scope {F : Fence} {n : Nat} {P : Program} {Q : Exit → Act → World → Prop} {a : Act} {w : World} {c : Code} (h : c.wpIn F n P (Exit.noGoto Q) a w) : (Code.scope c).wpIn F n P Q a w := by
  intro b k cs hro hb hr
  have h0 : (lone (b.atR a (.code (.scope c) :: k)) cs w).fenced P F := fenced_calm hb hr rfl
  obtain ⟨e, a₁, w₁, hq, harr⟩ := h b (.inScope c :: k) cs hro hb hr
  cases e with
  | normal => exact ⟨.normal, a₁, w₁, hq, .head h0 stepR_scope (StepsIn.trans harr (.one (fenced_calm hb hr rfl) stepR_inScope))⟩
  | exit id' =>
    have hx : exitTo id' (.inScope c :: k) = exitTo id' k := by simp [exitTo]
    exact ⟨.exit id', a₁, w₁, hq, fun k' hk => .head h0 stepR_scope (harr.1 k' (by rw [hx]; exact hk)),
      fun hr' hk => let ⟨k₁, h1, h2⟩ := harr.2 hr' (by rw [hx]; exact hk); ⟨k₁, h1, .head h0 stepR_scope h2⟩⟩
  | goto l => exact hq.elim
  | ret => exact ⟨_, a₁, w₁, hq, .of_steps (.one h0 stepR_scope) harr⟩
  | panic ch => exact ⟨_, a₁, w₁, hq, .of_steps (.one h0 stepR_scope) harr⟩
  | outgrown => exact ⟨_, a₁, w₁, hq, .of_steps (.one h0 stepR_scope) harr⟩

theorem lift_noGoto {n : Nat} {D0 : List (Nat × Go.Obj)} {g : G} {Q : APost} {e : Exit} {a : Act} {w : World} (h : Lift P n D0 g Q e a w) : Exit.noGoto (Lift P n D0 g Q) e a w := by
 obtain ⟨ae, g', fr, st, rfl, h1, h2, h3⟩ := h
 cases ae <;> exact ⟨_, g', fr, st, rfl, h1, h2, h3⟩

theorem awp_sound {n : Nat} : ∀ (c : Code) (rc : RCode), resCode P n c = some rc → ∀ {ro : Option Nat} (hro : ro = none ∨ rc.norf = true) {Q : APost} {fr : Fr} {st : St}, awp P n rc Q fr st → AWp P n ro c Q fr st := by
 intro c
 induction c with
 | skip =>
  intro rc hr ro hro Q fr st h D0 g a w hc
  simp only [resCode, Option.some.injEq] at hr; subst hr
  exact wpIn_skip ⟨.normal, g, fr, st, rfl, .refl g, hc, h⟩
 | region id ops d =>
  intro rc hr ro hro Q fr st h D0 g a w hc
  simp only [resCode] at hr
  split at hr
  ·rename_i l hl
   split at hr
   ·rename_i hd
    subst hd
    obtain ⟨l', mks, hl', hr⟩ := resDrawn_cases hr
    obtain ⟨hlen, hspec⟩ := resOps_specF hl hl'
    clear hl hl'
    unfold resDrawn1 at hr
    simp only at hr
    split at hr
    ·rename_i hk
     simp only [Option.some.injEq] at hr; subst hr
     simp only [Bool.and_eq_true] at hk
     simp only [awp] at h
     obtain ⟨hm, htop, hmk, hk⟩ := hk
     have hM := mksOk_spec hmk
     refine wpIn_region_any hm ?_
     have hlen : l'.length = ops.size := by simpa using hlen
     have hun : ∀ i, (Array.replicate ops.size false).getD i false = false := by
      intro i; simp only [Array.getD_eq_getD_getElem?, Array.getElem?_replicate]; split <;> rfl
     have htop : ∀ i, i < l'.length → ∀ e ∈ (dirsOf ops.toList).getD i [], e < i := by
      intro i hi e he
      have := List.all_eq_true.1 (List.all_eq_true.1 htop i (List.mem_range.2 hi)) e he
      simpa using this
     have inv : RInv P n D0 (Q .normal) g l'.length l' (dirsOf ops.toList) (pres (dirsOf ops.toList) []) _ mks (Array.replicate ops.size false) [] _ fr st a { w with drawn := w.drawn + 1 } g :=
      ⟨.refl g, hc.sim.drew _, hc.fr.weak (fun s => by
       cases hms : mdst l' (mkIds mks) s with
       | true => exact .inl (lag_mdst hms)
       | false => exact .inr (lag_eq hms (fun i hi => by cases hi))), (by
       obtain ⟨ld, q1, q2⟩ := hc.dfr
       exact ⟨[], ld, by simpa using q1, q2, ⟨fun m _ hq => (by rw [hun] at hq; cases hq), fun e he => (by cases he), by simp⟩⟩), by simp [hlen], fun i hi => (by rw [hun] at hi; cases hi), fun i hi => (by cases hi), fun i hi => (by cases hi), fun i hi => (by cases hi), fun i hi => (by cases hi), fun i hi => (by rw [hun] at hi; cases hi), fun i hi => (by rw [hun] at hi; cases hi), h, hk⟩
     obtain ⟨done', sch', fr', inv', hh'⟩ := inv.peel hM
     have hcnt : ∀ k, cnt (List.replicate k false) ≤ k := by
      intro k; induction k with
      | zero => simp [cnt]
      | succ k ih => simp [List.replicate_succ, cnt]; exact ih
     refine any_ok (Qx := Q) hM htop (fun _ _ h => h) hlen (fun i o ho => hspec i o (by simpa using ho)) ?_ ops.size _ done' sch' fr' st a _ g inv' hh' (by simpa using hcnt ops.size)
     have := pres_spec (dirsOf ops.toList) [] [] rfl (by simp [List.getD])
     simpa using this
    ·simp at hr
   ·rename_i hd
    simp only [Option.some.injEq] at hr; subst hr
    have hd : d = false := by simpa using hd
    subst hd
    refine wpIn_region ?_
    have := regs_ok (ro := ro) (D0 := D0) (g0 := g) (ops := ops) (Q := Q .normal) (Qx := Q) (fun _ _ h => h) ops.toList 0 (by simp) l hl g fr st a w (.refl g) hc h
    rw [List.range_eq_range']; simpa using this
  ·simp at hr
 | seq x y ihx ihy =>
  intro rc hr ro hro Q fr st h D0 g a w hc
  simp only [resCode] at hr
  split at hr
  ·rename_i rx ry h1 h2
   simp only [Option.some.injEq] at hr; subst hr
   refine wpIn_seq (wpIn_mono (ihx rx h1 (hro.imp id (fun h => (Bool.and_eq_true _ _ ▸ h).1)) h D0 g a w hc) ?_)
   rintro e a' w' ⟨ae, g', fr', st', rfl, hg, hc', hq⟩
   cases ae with
   | normal => exact wpIn_mono (ihy ry h2 (hro.imp id (fun h => (Bool.and_eq_true _ _ ▸ h).2)) hq D0 g' a' w' hc') (fun e a w hl => Lift.le hg hl)
   | exit id => exact ⟨.exit id, g', fr', st', rfl, hg, hc', hq⟩
   | ret => exact ⟨.ret, g', fr', st', rfl, hg, hc', hq⟩
  ·simp at hr
 | cond x A B ihA ihB =>
  intro rc hr ro hro Q fr st h D0 g a w hc
  simp only [resCode] at hr
  split at hr
  ·rename_i rx ra rb h1 h2 h3
   simp only [Option.some.injEq] at hr; subst hr
   simp only [awp] at h
   have hx := resX_rel hc.fr h1
   unfold condP at h
   split at h
   ·rename_i t ht
    rw [ht] at hx
    have hev : a.eval x = .bool t := by generalize a.eval x = z at hx; cases hx; rfl
    refine wpIn_cond hev ?_
    cases t with
    | true => exact ihA ra h2 (hro.imp id (fun h => (Bool.and_eq_true _ _ ▸ h).1)) (h.1 rfl) D0 g a w hc
    | false => exact ihB rb h3 (hro.imp id (fun h => (Bool.and_eq_true _ _ ▸ h).2)) (h.2 rfl) D0 g a w hc
   ·exact h.elim
  ·simp at hr
 | block id c ih =>
  intro rc hr ro hro Q fr st h D0 g a w hc
  simp only [resCode, Option.map_eq_some_iff] at hr
  obtain ⟨r, hr, rfl⟩ := hr
  refine wpIn_block (wpIn_mono (ih r hr hro h D0 g a w hc) ?_)
  rintro e a' w' ⟨ae, g', fr', st', rfl, hg, hc', hq⟩
  cases ae with
  | normal => exact ⟨.normal, g', fr', st', rfl, hg, hc', hq⟩
  | exit id' =>
   simp only [AEx.ex, Exit.inBlock]
   by_cases e : id' = id
   ·simp only [blockQ, e, if_true] at hq ⊢; exact ⟨.normal, g', fr', st', rfl, hg, hc', hq⟩
   ·simp only [blockQ, e, if_false] at hq ⊢; exact ⟨.exit id', g', fr', st', rfl, hg, hc', hq⟩
  | ret => exact ⟨.ret, g', fr', st', rfl, hg, hc', hq⟩
 | loop c ih =>
  intro rc hr ro hro Q fr st h D0 g a w hc
  simp only [resCode, Option.map_eq_some_iff] at hr
  obtain ⟨r, hr, rfl⟩ := hr
  obtain ⟨I, ⟨k0, h0⟩, hround⟩ := h
  let J : Act → World → Nat → Prop := fun a w k => ∃ g' fr st, g.le g' ∧ Cfg P n D0 g' a w fr st ∧ I k fr st
  have ghost : ∀ {g' : G} {a : Act} {w : World} {fr : Fr} {st : St} {k : Nat}, g.le g' → Cfg P n D0 g' a w fr st → GhostTo n fr st (I k) → J a w k := by
   intro g' a w fr st k hg hc hgt
   obtain ⟨fr', st', hgh, hi⟩ := hgt
   obtain ⟨g2, e1, e2, e3, e4⟩ := hgh P g' w a.tmps hc.sim hc.fr
   obtain ⟨l, q1, q2⟩ := hc.dfr
   exact ⟨g2, fr', st', hg.trans e1, ⟨e3, e4, l, by rw [e2]; exact q1, q2⟩, hi⟩
  refine wpIn_loop (I := fun a w => ∃ k, J a w k) (μ := fun a w => leastOf (J a w)) ⟨k0, ghost (.refl g) hc h0⟩ ?_
  intro a w hI
  obtain ⟨⟨g', fr, st, hg, hc', hi⟩, _⟩ := leastOf_spec hI
  refine wpIn_mono (ih r hr hro (hround _ fr st hi) D0 g' a w hc') ?_
  rintro e a' w' ⟨ae, g2, fr', st', rfl, hg2, hc2, hq⟩
  cases ae with
  | normal =>
   obtain ⟨j, hj, hgt⟩ := hq
   have hJ := ghost (hg.trans hg2) hc2 hgt
   exact ⟨⟨j, hJ⟩, Nat.lt_of_le_of_lt ((leastOf_spec ⟨j, hJ⟩).2 j hJ) hj⟩
  | exit id => exact ⟨.exit id, g2, fr', st', rfl, hg.trans hg2, hc2, hq⟩
  | ret => exact ⟨.ret, g2, fr', st', rfl, hg.trans hg2, hc2, hq⟩
 | rangeFunc f ps asg body iha ihb =>
  intro rc hr ro hro Q fr st h D0 g a w hc
  simp only [resCode] at hr
  split at hr
  ·rename_i rf ra rb h1 h2 h3
   simp only [Option.some.injEq] at hr; subst hr
   obtain ⟨hps, hinv⟩ := h
   have hro : ro = none := by rcases hro with h | h; exact h; simp [RCode.norf] at h
   subst hro
   refine wpIn_rangeFunc (fun fn _ => ?_)
   let D := w.heap.size
   let l := w.heap.size + 1
   let wD := w.alloc (.deferred (some []))
   let rec0 : Loop := { state := .ready, pending := none, fn := fn, tmps := a.tmps, params := ps, assign := asg, body := body, defers := D }
   let w1 := wD.alloc (.loop rec0)
   have hwD : wD.heap.size = l := World.size_alloc ..
   have henter : (Instr.enterLoop fn a.tmps ps asg body none).run P w = .ok (l, [mark D]) w1 := by
    simp only [Instr.enterLoop, Sem.run_bind, Sem.run_pure, Result.andThen_ok, run_newObj, ← hwD]; rfl
   have hs1 := hc.sim.marked
   have hf1 : FrRel (g.mark D) n fr a.tmps := hc.fr.mono (g.mark_le D)
   obtain ⟨hle2, hs2⟩ := hs1.looped (l := rec0) (ps := ps.toList) hf1 rfl hps h2 h3 rfl rfl
   let L : Loc := ⟨some l, 0, 0, 0⟩
   have hLe : (⟨some wD.heap.size, 0, 0, 0⟩ : Loc) = L := by rw [hwD]
   rw [hLe] at hle2 hs2
   let g2 := (g.mark D).add L
   have hle : g.le g2 := (g.mark_le D).trans hle2
   have hY : VRels g2 [.yld st.objs.length st.nv] #[.func (.yield l) #[] #[]] := rel_one (.yld _ _ l L (by rw [hc.sim.nv]; exact G.add_loc L) rfl)
   obtain ⟨d, hd, f', as', hi, hcall⟩ := hinv g2 w1 (a.eval f) _ hs2 (resX_rel (hc.fr.mono hle) h1) hY
   refine ⟨l, [mark D], w1, d, w1, f', as', w1, henter, ?_, fun _ _ => FF_fn _ _, hi, by rw [FF_depth]; simp, callsIn_FF (hcall.mono ?_)⟩
   ·simp only [resolve, Sem.run_bind]
    have he : Array.map a.eval #[Operand.const (.func (.yield l) #[] #[])] = #[.func (.yield l) #[] #[]] := by simp [Act.eval]
    show Sem.run P (Deferred.ofValue (a.eval f) (Array.map a.eval #[Operand.const (.func (.yield l) #[] #[])])) w1 = _
    rw [he]; exact hd
   ·rintro e w3 ⟨r, x, g3, st3, rfl, e1, e2, e3, e4, s, e5, e6⟩
    have ho := get_objs e5
    obtain ⟨L3, hL3, hlr⟩ := e3.obj _ _ _ ho
    have hLL : L3 = L := by
     have q := e1.loc st.nv L (by rw [hc.sim.nv]; exact G.add_loc L)
     exact Option.some.inj (hL3.symm.trans q)
    subst hLL
    obtain ⟨b, lp, hb, hw, hfl, hpl, hpn, hal, hbl, hsr⟩ := hlr
    have hbl' : b = l := by simpa [L] using hb.symm
    rw [hbl'] at hw hb
    have hnb : lp.state ≠ .busy := by
     cases s with
     | ready => rw [hsr.1]; simp
     | busy => exact e6.elim
     | done j => rw [hsr.1]; simp
    have hlt := (Array.getElem?_eq_some_iff.1 hw).1
    have hgone : Sim P g3 (st3.gone st.objs.length) { w3 with heap := w3.heap.setIfInBounds l (.loop { lp with state := .exhausted }) } := by
     refine e3.gone ho hL3 ⟨rfl, rfl, rfl, by simp, fun k hk hne => ?_⟩
     simp only
     rw [Array.getElem?_setIfInBounds_ne (fun e => hne (by rw [hb, e]))]
    have hcfg : Cfg P n D0 g3 { a with defers := [mark D] ++ a.defers } { w3 with heap := w3.heap.setIfInBounds l (.loop { lp with state := .exhausted }) } fr (st3.gone st.objs.length) := by
     refine ⟨hgone, (hc.fr.mono hle).mono e1, ?_⟩
     obtain ⟨ld, q1, q2⟩ := hc.dfr
     refine ⟨D :: ld, ?_, by simp [q2]⟩
     rw [e2]; show dmk D :: g.dfr = _; rw [q1]; rfl
    refine ⟨_, _, endLoop_run hw hnb, ?_⟩
    cases s with
    | ready =>
     have hp := hsr.2
     revert hcfg; rw [hp]; intro hcfg
     exact ⟨.normal, g3, fr, _, rfl, hle.trans e1, hcfg, e6⟩
    | busy => exact e6.elim
    | done j =>
     have hp := hsr.2
     revert hcfg; rw [hp]; intro hcfg
     exact jump_code_wp (hle.trans e1) hcfg j e6
  ·simp at hr
 | scope c ih =>
  intro rc hr ro hro Q fr st h D0 g a w hc
  simp only [resCode, Option.map_eq_some_iff] at hr
  obtain ⟨r, hr, rfl⟩ := hr
  have h' : awp P n r Q fr st := h.1 rfl
  exact wpIn_scope (wpIn_mono (ih r hr (hro.imp id (fun h => (Bool.and_eq_true _ _ ▸ h).1)) h' D0 g a w hc) (fun _ _ _ h => lift_noGoto h))
 | label l =>
  intro rc hr ro hro Q fr st h D0 g a w hc
  simp only [resCode, Option.some.injEq] at hr; subst hr
  exact wpIn_label ⟨.normal, g, fr, st, rfl, .refl g, hc, h⟩
 | exit id =>
  intro rc hr ro hro Q fr st h D0 g a w hc
  simp only [resCode, Option.some.injEq] at hr; subst hr
  exact wpIn_exit ⟨.exit id, g, fr, st, rfl, .refl g, hc, h⟩
 | ret =>
  intro rc hr ro hro Q fr st h D0 g a w hc
  simp only [resCode, Option.some.injEq] at hr; subst hr
  exact wpIn_ret ⟨.ret, g, fr, st, rfl, .refl g, hc, h⟩
 | goto l => intro rc hr; simp [resCode] at hr
 | refuse w => intro rc hr; simp [resCode] at hr

end Go.Proofs.Ytmjnpfackanhlaa.AM
