/- The abstract layer: what code does. -/
import Derived.Test.YtmjnpfackanhlaaAmOps10
namespace Go.Proofs.Ytmjnpfackanhlaa.AM
open Go Go.RowKit
set_option linter.unusedSimpArgs false
set_option linter.unusedVariables false

inductive AEx where
 | normal
 | exit (id : Nat)
 | ret
 deriving DecidableEq

def AEx.ex : AEx → Exit
 | .normal => .normal
 | .exit id => .exit id
 | .ret => .ret

def mark (D : Nat) : Deferred := { target := .collected D, args := #[] }
def dmk (D : Nat) : Nat × Go.Obj := (D, .deferred (some []))

def FF : Option Nat → Fence
 | none => Fence.wide
 | some l => Fence.wide.inRound l

theorem FF_fn (ro : Option Nat) (f : FuncId) : (FF ro).fn f := by cases ro <;> trivial
theorem FF_depth (ro : Option Nat) : (FF ro).depth = none := by cases ro <;> rfl
def CPost (P : Program) (g : G) (R : V → St → Prop) : Ending → World → Prop := fun e w' =>
 ∃ r x g' st', e = .returned x ∧ g.le g' ∧ g'.dfr = g.dfr ∧ Sim P g' st' w' ∧ VRel g' r x ∧ R r st'

def Enters (P : Program) (f : FuncId) : Prop := ∀ args w, (callFunc f args).run P w = .ok (.enter f args) w

def ACalls (P : Program) (f : FuncId) (args : List V) (st : St) (R : V → St → Prop) : Prop :=
 Enters P f ∧ ∀ g w Args, Sim P g st w → VRels g args Args → Calls P f Args w (CPost P g R)

def AInvE (P : Program) (Y : V) (args : List V) (st : St) (K : V → St → Prop) : Prop :=
 ∀ g w Fv Args, Sim P g st w → VRel g Y Fv → VRels g args Args → ∃ d, (Deferred.ofValue Fv Args).run P w = .ok d w ∧
  ∃ f as, (invoke d.target d.args).run P w = .ok (.enter f as) w ∧ Calls P f as w (CPost P g K)

def AInv (P : Program) (Y : V) (args : List V) (st : St) (K : V → St → Prop) : Prop :=
  ∀ g w Fv Args, Sim P g st w → VRel g Y Fv → VRels g args Args → ∃ d, (Deferred.ofValue Fv Args).run P w = .ok d w ∧
    ((∃ f as, (invoke d.target d.args).run P w = .ok (.enter f as) w ∧ Calls P f as w (CPost P g K)) ∨
     (∃ l f tmps assign body, (invoke d.target d.args).run P w = .ok (.round l f tmps assign body) w ∧ RoundIn Fence.wide 0 P l f tmps assign body w (CPost P g K)))

def guardP (gd : Option (Nat × Bool)) (fr : Fr) (K : Bool → Prop) : Prop :=
 match gd with
 | none => K true
 | some (d, want) =>
  match fr d with
  | .bool b => K (b == want)
  | .tup [] => K false
  | _ => False

def updo (fr : Fr) (d : Option Nat) (v : V) : Fr :=
 match d with
 | some d => upd fr d v
 | none => fr

def opP (r : Option (V × St)) (K : V → St → Prop) : Prop :=
 match r with
 | some (v, st') => K v st'
 | none => False

theorem opP_mono {r : Option (V × St)} {K K' : V → St → Prop} (hk : ∀ v s, K v s → K' v s) (h : opP r K) : opP r K' := by
 cases r with
 | none => exact h
 | some p => exact hk _ _ h

theorem opP_some {r : Option (V × St)} {K : V → St → Prop} (h : opP r K) : ∃ v st', r = some (v, st') ∧ K v st' := by
 cases r with
 | none => exact h.elim
 | some p => exact ⟨p.1, p.2, rfl, h⟩

def aexec (P : Program) (ro : RO) (fr : Fr) (st : St) (K : V → St → Prop) : Prop :=
 match ro with
 | .call f args => AInv P (f.ev fr) (args.map (·.ev fr)) st K
 | ro => opP (aop ro fr st) K

def ndP (ro : RO) (fr : Fr) (st : St) (K : V → St → Prop) : Prop :=
 match ro with
 | .eqs neg .sl x y =>
  match x.ev fr, y.ev fr with
  | .sl .unk _ [] _, .sl .nil _ [] [] => ∀ b, K (.bool b) st
  | .msl _ _ _ 0, .sl .nil _ [] [] => ∀ b, K (.bool b) st
  | _, _ => False
 | .cap x =>
  match x.ev fr with
  | .sl _ _ es sp => ∀ c : Nat, es.length + sp.length ≤ c → K (.int .i64 c) st
  | .msl id ver off n =>
   match st.get id ver with
   | some (.mem _ es) => ∀ c : Nat, n ≤ c → es.length - off ≤ c → K (.int .i64 c) st
   | _ => False
  | _ => False
 | .next it =>
  match it.ev fr with
  | .it id ver =>
   match st.get id ver with
   | some (.iter mid mver ep seen) =>
    match st.get mid mver with
    | some (.map ep' es) => ep' = ep ∧ ((∀ i, i < es.length → i ∈ seen) → K (.tup [.bool false]) st) ∧
      ∀ i, i < es.length → i ∉ seen → K (.tup [.bool true, (es.getD i (.junk, .junk)).1, (es.getD i (.junk, .junk)).2]) (st.set id ver (.iter mid mver ep (i :: seen)))
    | _ => False
   | _ => False
  | _ => False
 | _ => False

def aexecN (P : Program) (ro : RO) (fr : Fr) (st : St) (K : V → St → Prop) : Prop := aexec P ro fr st K ∨ ndP ro fr st K

theorem ndP_mono {ro : RO} {fr : Fr} {st : St} {K K' : V → St → Prop} (hk : ∀ v s, K v s → K' v s) (h : ndP ro fr st K) : ndP ro fr st K' := by
 unfold ndP at h ⊢
 split at h
 ·split at h
  ·exact fun b => hk _ _ (h b)
  ·exact fun b => hk _ _ (h b)
  ·exact h.elim
 ·split at h
  ·exact fun c hc => hk _ _ (h c hc)
  ·split at h
   ·exact fun c h1 h2 => hk _ _ (h c h1 h2)
   ·exact h.elim
  ·exact h.elim
 ·split at h
  ·split at h
   ·split at h
    ·exact ⟨h.1, fun q => hk _ _ (h.2.1 q), fun i h1 h2 => hk _ _ (h.2.2 i h1 h2)⟩
    ·exact h.elim
   ·exact h.elim
  ·exact h.elim
 ·exact h.elim

def areg (P : Program) : List ROp → (Fr → St → Prop) → Fr → St → Prop
 | [], Q, fr, st => Q fr st
 | o :: r, Q, fr, st => guardP o.guard fr fun want =>
   if want then aexecN P o.rhs fr st fun v st' => areg P r Q (updo fr o.dst v) st'
   else areg P r Q (updo fr o.dst (.tup [])) st

def dstIs (fr : Fr) (d : Option Nat) (v : V) : Prop :=
 match d with
 | some d => fr d = v
 | none => True

def reP (o : ROp) (fr : Fr) (st : St) : Prop := guardP o.guard fr fun want =>
 if want then opP (aop o.rhs fr st) fun v st' => st' = st ∧ dstIs fr o.dst v else dstIs fr o.dst (.tup [])

def watchP (ops : List ROp) : List Nat → Fr → St → Prop
 | [], _, _ => True
 | i :: l, fr, st => reP (ops.getD i default) fr st ∧ watchP ops l fr st

def aregD (P : Program) (ops : List ROp) : Sch → (Fr → St → Prop) → Fr → St → Prop
 | [], Q, fr, st => Q fr st
 | (i, _, ws) :: r, Q, fr, st => guardP (ops.getD i default).guard fr fun want =>
   if want then aexec P (ops.getD i default).rhs fr st fun v st' => watchP ops ws (updo fr (ops.getD i default).dst v) st' ∧ aregD P ops r Q (updo fr (ops.getD i default).dst v) st'
   else watchP ops ws (updo fr (ops.getD i default).dst (.tup [])) st ∧ aregD P ops r Q (updo fr (ops.getD i default).dst (.tup [])) st

def Ghost (n : Nat) (fr : Fr) (st : St) (fr' : Fr) (st' : St) : Prop :=
 ∀ (P : Program) (g : G) (w : World) (t : Array Value), Sim P g st w → FrRel g n fr t → ∃ g', g.le g' ∧ g'.dfr = g.dfr ∧ Sim P g' st' w ∧ FrRel g' n fr' t

theorem Ghost.refl (n : Nat) (fr : Fr) (st : St) : Ghost n fr st fr st := fun _ g _ _ h1 h2 => ⟨g, .refl g, rfl, h1, h2⟩
theorem Ghost.trans {n : Nat} {fr1 fr2 fr3 : Fr} {st1 st2 st3 : St} (h : Ghost n fr1 st1 fr2 st2) (k : Ghost n fr2 st2 fr3 st3) : Ghost n fr1 st1 fr3 st3 := by
 intro P g w t h1 h2
 obtain ⟨g1, a1, a2, a3, a4⟩ := h P g w t h1 h2
 obtain ⟨g2, b1, b2, b3, b4⟩ := k P g1 w t a3 a4
 exact ⟨g2, a1.trans b1, b2.trans a2, b3, b4⟩

def GhostTo (n : Nat) (fr : Fr) (st : St) (J : Fr → St → Prop) : Prop := ∃ fr' st', Ghost n fr st fr' st' ∧ J fr' st'

abbrev APost := AEx → Fr → St → Prop

def thenQ (K : Fr → St → Prop) (Q : APost) : APost
 | .normal, fr, st => K fr st
 | e, fr, st => Q e fr st

def blockQ (id : Nat) (Q : APost) : APost
 | .exit id', fr, st => if id' = id then Q .normal fr st else Q (.exit id') fr st
 | e, fr, st => Q e fr st

def condP (v : V) (A B : Prop) : Prop :=
 match v with
 | .bool t => (t = true → A) ∧ (t = false → B)
 | _ => False

def St.gone (st : St) (id : Nat) : St := ⟨st.objs.set id none, st.nv⟩

def rfuncEnd (Q : APost) (fr : Fr) (st : St) : LSt → Prop
 | .ready => Q .normal fr st
 | .done .ret => Q .ret fr st
 | .done (.exit id) => Q (.exit id) fr st
 | .busy => False

def awp (P : Program) (n : Nat) : RCode → APost → Fr → St → Prop
 | .skip, Q, fr, st => Q .normal fr st
 | .reg ops, Q, fr, st => areg P ops (Q .normal) fr st
 | .regD ops sch, Q, fr, st => aregD P ops sch (Q .normal) fr st
 | .seq a b, Q, fr, st => awp P n a (thenQ (awp P n b Q) Q) fr st
 | .cond c a b, Q, fr, st => condP (c.ev fr) (awp P n a Q fr st) (awp P n b Q fr st)
 | .block id c, Q, fr, st => awp P n c (blockQ id Q) fr st
 | .loop c, Q, fr, st => ∃ I : Nat → Fr → St → Prop, (∃ k, GhostTo n fr st (I k)) ∧
   ∀ k fr st, I k fr st → awp P n c (thenQ (fun fr' st' => ∃ j, j < k ∧ GhostTo n fr' st' (I j)) Q) fr st
 | .rfunc f ps assign body, Q, fr, st => (∀ p ∈ ps, p < n) ∧
   AInvE P (f.ev fr) [.yld st.objs.length st.nv] (st.push (.loop fr n ps assign body .ready)) fun _ st' =>
    ∃ s, st'.get st.objs.length st.nv = some (.loop fr n ps assign body s) ∧ rfuncEnd Q fr (st'.gone st.objs.length) s
 | .exit id, Q, fr, st => Q (.exit id) fr st
 | .ret, Q, fr, st => Q .ret fr st

theorem CPost.mono {P : Program} {g : G} {K K' : V → St → Prop} (hk : ∀ v s, K v s → K' v s) : ∀ e w, CPost P g K e w → CPost P g K' e w := by
 rintro e w' ⟨r, x, g', st', a1, a2, a3, a4, a5, a6⟩
 exact ⟨r, x, g', st', a1, a2, a3, a4, a5, hk _ _ a6⟩

theorem AInv.mono {P : Program} {Y : V} {args : List V} {st : St} {K K' : V → St → Prop} (hk : ∀ v s, K v s → K' v s) (hi : AInv P Y args st K) : AInv P Y args st K' := by
 intro g w Fv Args h1 h2 h3
 obtain ⟨d, hd, hc | hr⟩ := hi g w Fv Args h1 h2 h3
 ·obtain ⟨f, as, h4, h5⟩ := hc; exact ⟨d, hd, .inl ⟨f, as, h4, h5.mono (CPost.mono hk)⟩⟩
 ·obtain ⟨l, f, t, a, b, h4, h5⟩ := hr; exact ⟨d, hd, .inr ⟨l, f, t, a, b, h4, h5.mono (CPost.mono hk)⟩⟩

theorem AInvE.mono {P : Program} {Y : V} {args : List V} {st : St} {K K' : V → St → Prop} (hk : ∀ v s, K v s → K' v s) (hi : AInvE P Y args st K) : AInvE P Y args st K' := by
 intro g w Fv Args h1 h2 h3
 obtain ⟨d, hd, f, as, h4, h5⟩ := hi g w Fv Args h1 h2 h3
 exact ⟨d, hd, f, as, h4, h5.mono (CPost.mono hk)⟩

theorem AInvE.inv {P : Program} {Y : V} {args : List V} {st : St} {K : V → St → Prop} (hi : AInvE P Y args st K) : AInv P Y args st K := by
 intro g w Fv Args h1 h2 h3
 obtain ⟨d, hd, f, as, h4, h5⟩ := hi g w Fv Args h1 h2 h3
 exact ⟨d, hd, .inl ⟨f, as, h4, h5⟩⟩

theorem ACalls.mono {P : Program} {f : FuncId} {args : List V} {st : St} {K K' : V → St → Prop} (hk : ∀ v s, K v s → K' v s) (hi : ACalls P f args st K) : ACalls P f args st K' :=
 ⟨hi.1, fun g w Args h1 h2 => (hi.2 g w Args h1 h2).mono (CPost.mono hk)⟩

theorem guardP_mono {gd : Option (Nat × Bool)} {fr : Fr} {K K' : Bool → Prop} (hk : ∀ b, K b → K' b) (h : guardP gd fr K) : guardP gd fr K' := by
 cases gd with
 | none => exact hk _ h
 | some p =>
  obtain ⟨d, want⟩ := p
  simp only [guardP] at h ⊢
  split at h
  ·exact hk _ h
  ·exact hk _ h
  ·exact h.elim

theorem aexec_eq {P : Program} {ro : RO} {fr : Fr} {st : St} {K : V → St → Prop} (h : ¬ ∃ f args, ro = .call f args) : aexec P ro fr st K = opP (aop ro fr st) K := by
 cases ro <;> first | rfl | exact absurd ⟨_, _, rfl⟩ h

theorem aexec_op {P : Program} {ro : RO} {fr : Fr} {st : St} {K : V → St → Prop} (h : aexec P ro fr st K) : (∃ f args, ro = .call f args ∧ AInv P (f.ev fr) (args.map (·.ev fr)) st K) ∨ ∃ v st', aop ro fr st = some (v, st') ∧ K v st' := by
 by_cases hc : ∃ f args, ro = .call f args
 ·obtain ⟨f, args, rfl⟩ := hc; exact .inl ⟨f, args, rfl, h⟩
 ·rw [aexec_eq hc] at h; exact .inr (opP_some h)

theorem aexec_mono {P : Program} {ro : RO} {fr : Fr} {st : St} {K K' : V → St → Prop} (hk : ∀ v s, K v s → K' v s) (h : aexec P ro fr st K) : aexec P ro fr st K' := by
 by_cases hc : ∃ f args, ro = .call f args
 ·obtain ⟨f, args, rfl⟩ := hc; exact AInv.mono hk h
 ·rw [aexec_eq hc] at h ⊢; exact opP_mono hk h

theorem aexecN_mono {P : Program} {ro : RO} {fr : Fr} {st : St} {K K' : V → St → Prop} (hk : ∀ v s, K v s → K' v s) (h : aexecN P ro fr st K) : aexecN P ro fr st K' :=
 h.imp (aexec_mono hk) (ndP_mono hk)

theorem areg_mono {P : Program} : ∀ (ops : List ROp) {Q Q' : Fr → St → Prop} (h : ∀ fr st, Q fr st → Q' fr st) {fr : Fr} {st : St}, areg P ops Q fr st → areg P ops Q' fr st
 | [], Q, Q', h, fr, st, hh => h _ _ hh
 | o :: r, Q, Q', h, fr, st, hh => by
  simp only [areg] at hh ⊢
  refine guardP_mono (fun b hb => ?_) hh
  cases b
  ·exact areg_mono r h hb
  ·exact aexecN_mono (fun v s => areg_mono r h) hb

theorem aregD_mono {P : Program} {ops : List ROp} : ∀ (sch : Sch) {Q Q' : Fr → St → Prop} (h : ∀ fr st, Q fr st → Q' fr st) {fr : Fr} {st : St}, aregD P ops sch Q fr st → aregD P ops sch Q' fr st
 | [], Q, Q', h, fr, st, hh => h _ _ hh
 | (i, _, ws) :: r, Q, Q', h, fr, st, hh => by
  simp only [aregD] at hh ⊢
  refine guardP_mono (fun b hb => ?_) hh
  cases b
  ·exact ⟨hb.1, aregD_mono r h hb.2⟩
  ·exact aexec_mono (fun v s hs => ⟨hs.1, aregD_mono r h hs.2⟩) hb

end Go.Proofs.Ytmjnpfackanhlaa.AM
