/- The abstract layer, without frames: what code does, as a term over its values. -/
import Derived.Test.YtmjnpfackanhlaaAmGhost
namespace Go.Proofs.Ytmjnpfackanhlaa.AM
open Go Go.RowKit
set_option linter.unusedSimpArgs false
set_option linter.unusedVariables false
variable {P : Program}

def X.cst (fr : Fr) : X → X
 | .s n => .c (fr n)
 | .c v => .c v
def cstP (fr : Fr) : List (Nat × X) → List (Nat × X)
 | [] => []
 | (a, x) :: l => (a, x.cst fr) :: cstP fr l
def cstQ (fr : Fr) : List (Nat × Nat × X) → List (Nat × Nat × X)
 | [] => []
 | (a, b, x) :: l => (a, b, x.cst fr) :: cstQ fr l
def cstL (fr : Fr) : List X → List X
 | [] => []
 | x :: l => x.cst fr :: cstL fr l
def cstO (fr : Fr) : Option X → Option X
 | none => none
 | some x => some (x.cst fr)
def RO.cst (fr : Fr) : RO → RO
 | .mov x => .mov (x.cst fr)
 | .pick c a b => .pick (c.cst fr) (a.cst fr) (b.cst fr)
 | .alloc z => .alloc z
 | .box x => .box (x.cst fr)
 | .build z ps => .build z (cstQ fr ps)
 | .mkSl a b c ps => .mkSl a b c (cstP fr ps)
 | .ld n a => .ld n (a.cst fr)
 | .st n a x => .st n (a.cst fr) (x.cst fr)
 | .nilchk x => .nilchk (x.cst fr)
 | .fld o x => .fld o (x.cst fr)
 | .fldV o n x => .fldV o n (x.cst fr)
 | .idx n x i => .idx n (x.cst fr) (i.cst fr)
 | .idxA a b x i => .idxA a b (x.cst fr) (i.cst fr)
 | .idxV a b g x i => .idxV a b g (x.cst fr) (i.cst fr)
 | .idxS x i => .idxS (x.cst fr) (i.cst fr)
 | .bin op x y => .bin op (x.cst fr) (y.cst fr)
 | .eqs a b x y => .eqs a b (x.cst fr) (y.cst fr)
 | .un op x => .un op (x.cst fr)
 | .conv k x => .conv k (x.cst fr)
 | .slice n x lo hi mx => .slice n (x.cst fr) (cstO fr lo) (cstO fr hi) (cstO fr mx)
 | .sliceS x lo hi => .sliceS (x.cst fr) (cstO fr lo) (cstO fr hi)
 | .ext i x => .ext i (x.cst fr)
 | .mkfn f a b => .mkfn f (cstL fr a) (cstL fr b)
 | .mkmap => .mkmap
 | .lookup a b c m k => .lookup a b c (m.cst fr) (k.cst fr)
 | .mupd a m k v => .mupd a (m.cst fr) (k.cst fr) (v.cst fr)
 | .mdel a m k => .mdel a (m.cst fr) (k.cst fr)
 | .range m => .range (m.cst fr)
 | .next m => .next (m.cst fr)
 | .entry m => .entry (m.cst fr)
 | .len c x => .len c (x.cst fr)
 | .append a b x y => .append a b (x.cst fr) (y.cst fr)
 | .appf a b x y => .appf a b (x.cst fr) (y.cst fr)
 | .strOf x => .strOf (x.cst fr)
 | .sliceA a b x => .sliceA a b (x.cst fr)
 | .dead => .dead
 | .copy a x y => .copy a (x.cst fr) (y.cst fr)
 | .minmax b x xs => .minmax b (x.cst fr) (cstL fr xs)
 | .call f as => .call (f.cst fr) (cstL fr as)
 | .mksl a b z l c => .mksl a b z (l.cst fr) (c.cst fr)
 | .cap x => .cap (x.cst fr)
 | .clear z x => .clear z (x.cst fr)

def fr0 : Fr := fun _ => .junk

theorem ev_cst (fr fr' : Fr) (x : X) : (x.cst fr).ev fr' = x.ev fr := by cases x <;> rfl
theorem cstL_map (fr fr' : Fr) : ∀ l : List X, (cstL fr l).map (·.ev fr') = l.map (·.ev fr)
 | [] => rfl
 | x :: l => by simp only [cstL, List.map_cons, ev_cst, cstL_map fr fr' l]
theorem cstO_map (fr fr' : Fr) : ∀ l : Option X, (cstO fr l).map (·.ev fr') = l.map (·.ev fr)
 | none => rfl
 | some x => by simp only [cstO, Option.map_some, ev_cst]
theorem cstP_fold {α : Type} (fr fr' : Fr) (F : α → Nat → V → Option α) : ∀ (l : List (Nat × X)) (z : α), (cstP fr l).foldlM (fun acc (p : Nat × X) => F acc p.1 (p.2.ev fr')) z = l.foldlM (fun acc (p : Nat × X) => F acc p.1 (p.2.ev fr)) z
 | [], z => rfl
 | (a, x) :: l, z => by
  simp only [cstP, List.foldlM_cons, ev_cst]
  cases F z a (x.ev fr) with
  | none => rfl
  | some z' => exact cstP_fold fr fr' F l z'
theorem cstQ_fold {α : Type} (fr fr' : Fr) (F : α → Nat → Nat → V → Option α) : ∀ (l : List (Nat × Nat × X)) (z : α), (cstQ fr l).foldlM (fun acc (p : Nat × Nat × X) => F acc p.1 p.2.1 (p.2.2.ev fr')) z = l.foldlM (fun acc (p : Nat × Nat × X) => F acc p.1 p.2.1 (p.2.2.ev fr)) z
 | [], z => rfl
 | (a, b, x) :: l, z => by
  simp only [cstQ, List.foldlM_cons, ev_cst]
  cases F z a b (x.ev fr) with
  | none => rfl
  | some z' => exact cstQ_fold fr fr' F l z'

theorem aop_cst (ro : RO) (fr fr' : Fr) (st : St) : aop (ro.cst fr) fr' st = aop ro fr st := by
 cases ro with
 | build z ps =>
  simp only [RO.cst, aop]
  exact congrArg (Option.map fun cs => (V.agg cs, st)) (cstQ_fold fr fr' (fun (acc : List V) a b v => match v.cells with | some cs => if cs.length = b ∧ a + b ≤ acc.length then some (splice acc a cs) else none | none => none) ps z)
 | mkSl a b c ps =>
  simp only [RO.cst, aop]
  exact congrArg (fun o => Option.bind o _) (cstP_fold fr fr' (fun (acc : List (List V)) p v => match v.cells with | some cs => if cs.length = a ∧ p < acc.length then some (acc.set p cs) else none | none => none) ps _)
 | _ => simp only [RO.cst, aop, ev_cst, cstL_map, cstO_map]

def hop (P : Program) (ro : RO) (st : St) (K : V → St → Prop) : Prop := aexecN P ro fr0 st K
def hopD (P : Program) (ro : RO) (st : St) (K : V → St → Prop) : Prop := aexec P ro fr0 st K

theorem hopD_cst {ro : RO} {fr : Fr} {st : St} {K : V → St → Prop} : hopD P (ro.cst fr) st K = aexec P ro fr st K := by
 unfold hopD
 by_cases hc : ∃ f args, ro = .call f args
 ·obtain ⟨f, as, rfl⟩ := hc
  simp only [RO.cst, aexec, ev_cst, cstL_map]
 ·rw [aexec_eq hc, aexec_eq (ro := ro.cst fr), aop_cst]
  rintro ⟨f, as, e⟩
  cases ro <;> first | (exact hc ⟨_, _, rfl⟩) | (simp only [RO.cst] at e; cases e)

theorem hop_cst {ro : RO} {fr : Fr} {st : St} {K : V → St → Prop} : hop P (ro.cst fr) st K = aexecN P ro fr st K := by
 unfold hop aexecN
 have h1 : aexec P (ro.cst fr) fr0 st K = aexec P ro fr st K := hopD_cst
 have h2 : ndP (ro.cst fr) fr0 st K = ndP ro fr st K := by
  cases ro with
  | eqs neg ec x y => cases ec <;> simp only [RO.cst, ndP, ev_cst]
  | _ => first | rfl | simp only [RO.cst, ndP, ev_cst]
 rw [h1, h2]

def hgop (P : Program) (g : V) (w : Bool) (ro : RO) (st : St) (K : V → St → Prop) : Prop :=
 match g with
 | .bool b => (b = w → hop P ro st K) ∧ (b ≠ w → K (.tup []) st)
 | .tup [] => K (.tup []) st
 | _ => False
def hgopD (P : Program) (g : V) (w : Bool) (ro : RO) (st : St) (K : V → St → Prop) : Prop :=
 match g with
 | .bool b => (b = w → hopD P ro st K) ∧ (b ≠ w → K (.tup []) st)
 | .tup [] => K (.tup []) st
 | _ => False

abbrev hreg1 (P : Program) (o : ROp) (k : Fr → St → Prop) (fr : Fr) (st : St) : Prop :=
 match o.guard with
 | none =>
  match o.rhs with
  | .mov x => k (updo fr o.dst (x.ev fr)) st
  | ro => hop P (ro.cst fr) st fun v st' => k (updo fr o.dst v) st'
 | some (s, w) => hgop P (fr s) w (o.rhs.cst fr) st fun v st' => k (updo fr o.dst v) st'

abbrev hreg (P : Program) (ops : List ROp) (Q : Fr → St → Prop) : Fr → St → Prop :=
 List.rec (motive := fun _ => Fr → St → Prop) Q (fun o _ ih => hreg1 P o ih) ops
theorem hreg_cons {o : ROp} {r : List ROp} {Q : Fr → St → Prop} {fr : Fr} {st : St} : hreg P (o :: r) Q fr st = hreg1 P o (hreg P r Q) fr st := rfl

theorem hgop_gsel {g : V} {w : Bool} {ro : RO} {fr : Fr} {st : St} {K : V → St → Prop} : hgop P g w (ro.cst fr) st K = gsel g w (aexecN P ro fr st K) (K (.tup []) st) := by
 unfold hgop gsel
 cases g with
 | tup vs => cases vs <;> rfl
 | bool b => rw [hop_cst]
 | _ => rfl
theorem hgopD_gsel {g : V} {w : Bool} {ro : RO} {fr : Fr} {st : St} {K : V → St → Prop} : hgopD P g w (ro.cst fr) st K = gsel g w (aexec P ro fr st K) (K (.tup []) st) := by
 unfold hgopD gsel
 cases g with
 | tup vs => cases vs <;> rfl
 | bool b => rw [hopD_cst]
 | _ => rfl

theorem hreg_areg : ∀ (ops : List ROp) {Q : Fr → St → Prop} {fr : Fr} {st : St}, hreg P ops Q fr st = areg P ops Q fr st
 | [], Q, fr, st => rfl
 | ⟨d, g, ro⟩ :: r, Q, fr, st => by
  have ih : ∀ fr st, hreg P r Q fr st = areg P r Q fr st := fun fr st => hreg_areg r
  cases g with
  | none =>
   rw [w_cons]
   by_cases hm : ∃ x, ro = .mov x
   ·obtain ⟨x, rfl⟩ := hm
    rw [n_mov]; exact ih _ _
   ·have : hreg P (⟨d, none, ro⟩ :: r) Q fr st = hop P (ro.cst fr) st fun v st' => hreg P r Q (updo fr d v) st' := by
     rw [hreg_cons]; unfold hreg1
     cases ro <;> first | rfl | exact absurd ⟨_, rfl⟩ hm
    rw [this, hop_cst]
    simp only [ih]
  | some p =>
   obtain ⟨s, w⟩ := p
   rw [w_consg]
   show hgop P (fr s) w (ro.cst fr) st (fun v st' => hreg P r Q (updo fr d v) st') = _
   rw [hgop_gsel]
   simp only [ih]

theorem areg_frame : ∀ (ops : List ROp) {Q : Fr → St → Prop} {fr fr1 : Fr} {st : St} (D : Nat → Prop) (hD : ∀ o ∈ ops, ∀ d, o.dst = some d → D d) (h1 : ∀ s, ¬ D s → fr s = fr1 s), areg P ops Q fr st → areg P ops (fun fr' st' => Q fr' st' ∧ ∀ s, ¬ D s → fr' s = fr1 s) fr st
 | [], Q, fr, fr1, st, D, hD, h1, h => ⟨h, h1⟩
 | o :: r, Q, fr, fr1, st, D, hD, h1, h => by
  simp only [areg] at h ⊢
  have key : ∀ v s, ¬ D s → updo fr o.dst v s = fr1 s := by
   intro v s hs
   rw [updo_ne (fun e => hs (hD o (by simp) s e))]; exact h1 s hs
  refine guardP_mono (fun b hb => ?_) h
  cases b
  ·exact areg_frame r D (fun o ho => hD o (by simp [ho])) (key _) hb
  ·exact aexecN_mono (fun v s hs => areg_frame r D (fun o ho => hD o (by simp [ho])) (key _) hs) hb

/-! regions that draw their order -/
def hwat (P : Program) (g : Option (V × Bool)) (ro : RO) (st : St) (v : V) : Prop :=
 match g with
 | none => opP (aop ro fr0 st) fun v' st' => st' = st ∧ v = v'
 | some (.bool b, w) => (b = w → opP (aop ro fr0 st) fun v' st' => st' = st ∧ v = v') ∧ (b ≠ w → v = .tup [])
 | some (.tup [], _) => v = .tup []
 | _ => False

def guardV (fr : Fr) : Option (Nat × Bool) → Option (V × Bool)
 | none => none
 | some (s, w) => some (fr s, w)

abbrev hwatL (P : Program) (ops : List ROp) (ws : List Nat) (fr : Fr) (st : St) (A : Prop) : Prop :=
 List.rec (motive := fun _ => Prop) A (fun i _ ih => (match (ops.getD i default).dst with | some d => hwat P (guardV fr (ops.getD i default).guard) ((ops.getD i default).rhs.cst fr) st (fr d) | none => reP (ops.getD i default) fr st) ∧ ih) ws

abbrev hregD1 (P : Program) (ops : List ROp) (i : Nat) (ws : List Nat) (k : Fr → St → Prop) (fr : Fr) (st : St) : Prop :=
 match (ops.getD i default).guard with
 | none =>
  match (ops.getD i default).rhs with
  | .mov x => hwatL P ops ws (updo fr (ops.getD i default).dst (x.ev fr)) st (k (updo fr (ops.getD i default).dst (x.ev fr)) st)
  | ro => hopD P (ro.cst fr) st fun v st' => hwatL P ops ws (updo fr (ops.getD i default).dst v) st' (k (updo fr (ops.getD i default).dst v) st')
 | some (s, w) => hgopD P (fr s) w ((ops.getD i default).rhs.cst fr) st fun v st' => hwatL P ops ws (updo fr (ops.getD i default).dst v) st' (k (updo fr (ops.getD i default).dst v) st')

abbrev hregD (P : Program) (ops : List ROp) (sch : Sch) (Q : Fr → St → Prop) : Fr → St → Prop :=
 List.rec (motive := fun _ => Fr → St → Prop) Q (fun s _ ih => hregD1 P ops s.1 s.2.2 ih) sch
theorem hwat_re {o : ROp} {fr : Fr} {st : St} {d : Nat} (hd : o.dst = some d) (h : hwat P (guardV fr o.guard) (o.rhs.cst fr) st (fr d)) : reP o fr st := by
 obtain ⟨d', g, ro⟩ := o
 simp only at hd; subst hd
 simp only at h
 unfold reP guardP
 cases g with
 | none =>
  simp only [guardV, hwat, aop_cst] at h
  simpa [dstIs] using h
 | some p =>
  obtain ⟨s, w⟩ := p
  simp only [guardV] at h
  simp only
  generalize hg : fr s = x at h
  unfold hwat at h
  split at h
  ·rename_i e; cases e
  ·rename_i b w' e
   simp only [Option.some.injEq, Prod.mk.injEq] at e
   obtain ⟨rfl, rfl⟩ := e
   simp only [aop_cst] at h
   by_cases hb : b = w
   ·have := h.1 hb
    subst hb
    simp
    simpa [dstIs] using this
   ·have := h.2 hb
    have hb' : (b == w) = false := by simpa using hb
    simp [hb', dstIs, this]
  ·rename_i w' e
   simp only [Option.some.injEq, Prod.mk.injEq] at e
   obtain ⟨rfl, rfl⟩ := e
   simp [dstIs, h]
  ·exact h.elim

theorem hwatL_watch {ops : List ROp} {fr : Fr} {st : St} {A : Prop} : ∀ (ws : List Nat), hwatL P ops ws fr st A → watchP ops ws fr st ∧ A
 | [], h => ⟨trivial, h⟩
 | i :: ws, h => by
  obtain ⟨h1, h2⟩ := h
  obtain ⟨h3, h4⟩ := hwatL_watch ws h2
  refine ⟨⟨?_, h3⟩, h4⟩
  split at h1
  ·rename_i d hd; exact hwat_re hd h1
  ·exact h1

theorem gsel_guardP {gd : Option (Nat × Bool)} {s : Nat} {w : Bool} (hg : gd = some (s, w)) {fr : Fr} {A B : Prop} (h : gsel (fr s) w A B) : guardP gd fr fun want => if want then A else B := by
  subst hg
  unfold gsel at h
  simp only [guardP]
  generalize fr s = x at h
  cases x with
  | bool b =>
    simp only at h ⊢
    by_cases hb : b = w
    · subst hb; simpa using h.1 rfl
    · have hb' : (b == w) = false := by simpa using hb
      simpa [hb'] using h.2 hb
  | tup vs => cases vs with
    | nil => simpa using h
    | cons a l => exact h.elim
  | _ => exact h.elim

theorem hregD_aregD {ops : List ROp} {Q : Fr → St → Prop} : ∀ (sch : Sch) {fr : Fr} {st : St}, hregD P ops sch Q fr st → aregD P ops sch Q fr st
 | [], fr, st, h => h
 | (i, act, ws) :: r, fr, st, h => by
  have ih : ∀ fr st, hregD P ops r Q fr st → aregD P ops r Q fr st := fun fr st => hregD_aregD r
  have nx : ∀ v st', hwatL P ops ws (updo fr (ops.getD i default).dst v) st' (hregD P ops r Q (updo fr (ops.getD i default).dst v) st') → watchP ops ws (updo fr (ops.getD i default).dst v) st' ∧ aregD P ops r Q (updo fr (ops.getD i default).dst v) st' :=
   fun v st' h => ⟨(hwatL_watch ws h).1, ih _ _ (hwatL_watch ws h).2⟩
  simp only [aregD]
  cases hg : (ops.getD i default).guard with
  | none =>
   simp only [guardP, if_true]
   by_cases hm : ∃ x, (ops.getD i default).rhs = .mov x
   ·obtain ⟨x, hx⟩ := hm
    have h1 : hregD1 P ops i ws (hregD P ops r Q) fr st := h
    unfold hregD1 at h1; rw [hg, hx] at h1; have h := h1
    rw [hx, x_mov]
    exact nx _ _ h
   ·have : hopD P ((ops.getD i default).rhs.cst fr) st fun v st' => hwatL P ops ws (updo fr (ops.getD i default).dst v) st' (hregD P ops r Q (updo fr (ops.getD i default).dst v) st') := by
     have h1 : hregD1 P ops i ws (hregD P ops r Q) fr st := h
     unfold hregD1 at h1; rw [hg] at h1; simp only [] at h1; have h := h1; clear h1
     revert h
     split
     ·rename_i x hx; exact fun _ => absurd ⟨x, hx⟩ hm
     ·exact id
    rw [hopD_cst] at this
    exact aexec_mono nx this
  | some p =>
   obtain ⟨s, w⟩ := p
   have h1 : hregD1 P ops i ws (hregD P ops r Q) fr st := h
   unfold hregD1 at h1; rw [hg] at h1; simp only [] at h1; have h := h1; clear h1
   rw [hgopD_gsel] at h
   refine gsel_guardP rfl ?_
   unfold gsel at h ⊢
   generalize fr s = x at h
   cases x with
   | bool b => exact ⟨fun e => aexec_mono nx (h.1 e), fun e => nx _ _ (h.2 e)⟩
   | tup vs => cases vs with
    | nil => exact nx _ _ h
    | cons a l => exact h.elim
   | _ => exact h.elim

theorem aregD_frame {ops : List ROp} : ∀ (sch : Sch) {Q : Fr → St → Prop} {fr fr1 : Fr} {st : St} (D : Nat → Prop) (hD : ∀ s ∈ sch, ∀ d, (ops.getD s.1 default).dst = some d → D d) (h1 : ∀ s, ¬ D s → fr s = fr1 s), aregD P ops sch Q fr st → aregD P ops sch (fun fr' st' => Q fr' st' ∧ ∀ s, ¬ D s → fr' s = fr1 s) fr st
 | [], Q, fr, fr1, st, D, hD, h1, h => ⟨h, h1⟩
 | (i, act, ws) :: r, Q, fr, fr1, st, D, hD, h1, h => by
  simp only [aregD] at h ⊢
  have key : ∀ v s, ¬ D s → updo fr (ops.getD i default).dst v s = fr1 s := by
   intro v s hs
   rw [updo_ne (fun e => hs (hD (i, act, ws) (by simp) s e))]; exact h1 s hs
  refine guardP_mono (fun b hb => ?_) h
  cases b
  ·exact ⟨hb.1, aregD_frame r D (fun o ho => hD o (by simp [ho])) (key _) hb.2⟩
  ·exact aexec_mono (fun v s hs => ⟨hs.1, aregD_frame r D (fun o ho => hD o (by simp [ho])) (key _) hs.2⟩) hb


end Go.Proofs.Ytmjnpfackanhlaa.AM
