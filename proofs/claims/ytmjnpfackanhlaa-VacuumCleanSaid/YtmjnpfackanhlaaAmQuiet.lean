/- The abstract layer: all reading operations together. -/
import Derived.Test.YtmjnpfackanhlaaAmStr
import Derived.Maps.RangeRun
namespace Go.Proofs.Ytmjnpfackanhlaa.AM
open Go Go.RowKit
set_option linter.unusedSimpArgs false
set_option linter.unusedVariables false
variable {P : Program} {g : G} {st : St} {w : World}

theorem omap_eq {α β : Type} {f : α → β} {o : Option α} {b : β} (h : o.map f = some b) : ∃ a, o = some a ∧ f a = b := by cases o <;> simp at h ⊢; exact h

theorem eqGuard_plain {op : BinOp} {t : Nat} {x y : Operand} {A B : Value} (h1 : ∀ c, A ≠ .agg c) (h2 : A ≠ .nilIface) : (eqGuard op t x y A B).run P w = .ok () w := by
 unfold eqGuard
 cases op <;> first
  | rfl
  | (cases A <;> first | exact absurd rfl (h1 _) | exact absurd rfl h2 | rfl)

theorem eqGuard_agg {op : BinOp} {t : Nat} {x y : Operand} {A B : Array Value} (h : P.eqGuardType P.depth t = false) : (eqGuard op t x y (.agg A) (.agg B)).run P w = .ok () w := by
 unfold eqGuard
 cases op <;> first
  | rfl
  | (simp [h])

def eqShape : V → Prop
 | .bool _ | .nilp | .ptr .. | .eptr .. | .sl .. | .msl .. | .nilm | .map .. | .nilf | .fn .. | .yld .. => True
 | _ => False

theorem eqsV_shape {ec : EC} {A B : V} {r : Bool} (h : eqsV ec A B = some r) : (∃ ls as bs, ec = .flat ls ∧ A = .agg as ∧ B = .agg bs) ∨
  eqShape A := by
 cases ec with
 | flat ls =>
  simp only [eqsV] at h
  split at h
  ·exact .inl ⟨_, _, _, rfl, rfl, rfl⟩
  ·simp at h
 | bool => right; cases A <;> first | trivial | (simp [eqsV] at h; done)
 | ptr => right; cases A <;> first | trivial | (simp [eqsV] at h; done)
 | sl => right; cases A <;> first | trivial | (simp [eqsV, slNil] at h; done)
 | map => right; cases A <;> first | trivial | (simp [eqsV] at h; done)
 | func => right; cases A <;> first | trivial | (simp [eqsV] at h; done)

theorem bin_quiet {n : Nat} {fr : Fr} {a : Act} (hf : FrRel g n fr a.tmps) {op : BinOp} {t ty : Nat} {x y : Operand} {ro : RO} (hr : resOp P (.binOp op t x y ty) = some ro) {v : V} {st' : St} (ha : aop ro fr st = some (v, st')) :
    st' = st ∧ ∃ z, (do eqGuard op t x y (a.eval x) (a.eval y); binOp op t (a.eval x) (a.eval y) : Sem Value).run P w = .ok z w ∧ VRel g v z := by
  simp only [resOp] at hr
  split at hr
  · rename_i x' y' d hx hy hu
    have hX := resX_rel hf hx
    have hY := resX_rel hf hy
    have plain : ro = .bin op x' y' → st' = st ∧ ∃ z, (do eqGuard op t x y (a.eval x) (a.eval y); binOp op t (a.eval x) (a.eval y) : Sem Value).run P w = .ok z w ∧ VRel g v z := by
      intro e; subst e
      simp only [aop] at ha
      obtain ⟨v', hv, e⟩ := omap_eq ha
      cases e
      exact ⟨rfl, bin_ok hX hY hv⟩
    have eqs : ∀ (neg : Bool) (ec : EC), (op = .eql ∧ neg = false ∨ op = .neq ∧ neg = true) → ec.fits P t → (∀ ls, ec = .flat ls → P.eqGuardType P.depth t = false) → ro = .eqs neg ec x' y' →
        st' = st ∧ ∃ z, (do eqGuard op t x y (a.eval x) (a.eval y); binOp op t (a.eval x) (a.eval y) : Sem Value).run P w = .ok z w ∧ VRel g v z := by
      intro neg ec hop hfit hguard e; subst e
      simp only [aop] at ha
      obtain ⟨r, hv, e⟩ := omap_eq ha
      simp only [Prod.mk.injEq] at e
      obtain ⟨rfl, rfl⟩ := e
      have he := eqsV_ok (P := P) (w := w) hX hY hv hfit
      refine ⟨rfl, _, ?_, .bool _⟩
      have hnot : ∀ {A B : Value}, (∀ k n, A ≠ .int k n) → (∀ s, A ≠ .string s) → (∀ k n, A ≠ .float k n) → (∀ k p q, A ≠ .complex k p q) → (Op.equal t A B).run P w = .ok r w → (binOp op t A B).run P w = .ok (.bool (if neg then !r else r)) w := by
        intro A B h1 h2 h3 h4 h5
        rcases hop with ⟨rfl, rfl⟩ | ⟨rfl, rfl⟩
        · cases A <;> first | exact absurd rfl (h1 _ _) | exact absurd rfl (h2 _) | exact absurd rfl (h3 _ _) | exact absurd rfl (h4 _ _ _) | (simp only [binOp, Sem.run_bind, h5, Result.andThen_ok]; rfl)
        · cases A <;> first | exact absurd rfl (h1 _ _) | exact absurd rfl (h2 _) | exact absurd rfl (h3 _ _) | exact absurd rfl (h4 _ _ _) | (simp only [binOp, Sem.run_bind, h5, Result.andThen_ok]; rfl)
      have both : (eqGuard op t x y (a.eval x) (a.eval y)).run P w = .ok () w ∧ (binOp op t (a.eval x) (a.eval y)).run P w = .ok (.bool (if neg then !r else r)) w := by
        rcases eqsV_shape hv with ⟨ls, as, bs, e, h1, h2⟩ | hsh
        · rw [h1] at hX; rw [h2] at hY
          obtain ⟨vs, e1, _⟩ := agg_open hX
          obtain ⟨us, e2, _⟩ := agg_open hY
          rw [e1, e2] at he ⊢
          exact ⟨eqGuard_agg (hguard ls e), hnot (by simp) (by simp) (by simp) (by simp) he⟩
        · revert hX hsh he
          generalize x'.ev fr = A
          generalize a.eval x = B
          intro hX he hsh
          cases hX <;> first
            | exact hsh.elim
            | exact ⟨eqGuard_plain (by simp) (by simp), hnot (by simp) (by simp) (by simp) (by simp) he⟩
      obtain ⟨hg, hb⟩ := both
      simp only [Sem.run_bind, hg, Result.andThen_ok, hb]
    cases op <;> simp only at hr <;> first
      | exact plain (Option.some.inj hr).symm
      | (cases d <;> simp only at hr <;> first
          | exact plain (Option.some.inj hr).symm
          | (simp at hr; done)
          | (refine eqs _ _ ?_ ?_ ?_ (Option.some.inj hr).symm
             · first | exact .inl ⟨rfl, rfl⟩ | exact .inr ⟨rfl, rfl⟩
             · first | exact hu | exact ⟨_, hu⟩ | exact ⟨_, _, hu⟩ | exact ⟨_, _, _, hu⟩
             · intro ls h; cases h)
          | (split at hr
             · rename_i l hl
               split at hr
               · rename_i hgt
                 refine eqs _ _ ?_ ?_ ?_ (Option.some.inj hr).symm
                 · first | exact .inl ⟨rfl, rfl⟩ | exact .inr ⟨rfl, rfl⟩
                 · exact ⟨by simp [aggT, hu], hl⟩
                 · intro ls _; exact hgt
               · simp at hr
             · simp at hr))
  · simp at hr

theorem entry_ok (hs : Reads P g st w) {id ver mid mver ep i : Nat} {seen : List Nat} {es : List (V × V)} (ho : st.get id ver = some (.iter mid mver ep (i :: seen))) (hom : st.get mid mver = some (.map ep es)) {x : Value} (hX : VRel g (.it id ver) x) {p : V × V} (hp : es[i]? = some p) :
    ∃ y, (Instr.entry x).run P w = .ok y w ∧ VRel g (.tup [p.1, p.2]) y := by
  cases hX with
  | iter _ _ b L hL hb =>
    have hi := hs.obj _ _ _ L ho hL
    obtain ⟨b', m, LM, hb', hLM, hep, hm, hcell, hseen⟩ := hi
    rw [hb] at hb'; cases hb'
    have hmr := hs.obj _ _ _ LM hom hLM
    obtain ⟨b2, ms, clk, hb2, hmap, hsz, q1, hbl, hnd, hlt, hclk, hr⟩ := hmr
    rw [hm] at hb2; cases hb2
    have hi : i < es.length := (List.getElem?_eq_some_iff.1 hp).1
    obtain ⟨e, a1, a2, a3, a4⟩ := hr i hi
    have hgd : es.getD i (.junk, .junk) = p := by simp [List.getD, hp]
    rw [hgd] at a2 a3
    have hbn : ms.toList.map (·.born) = g.born ep := by
      apply List.ext_getElem?
      intro j
      by_cases hj : j < es.length
      · obtain ⟨e', c1, _, _, c4⟩ := hr j hj
        rw [List.getElem?_map, Array.getElem?_toList, c1, c4]; rfl
      · rw [List.getElem?_eq_none (by simp; omega), List.getElem?_eq_none (by omega)]
    have hc2 : w.heap[b]? = some (.mapIter (some m) (g.clk ep) (((seen.reverse.map fun i => (g.born ep).getD i 0).toArray).push e.born) clk) := by
      rw [hcell]
      simp [List.getD, a4, hclk]
    exact ⟨_, run_entry_at (P := P) w b m (g.clk ep) _ ms clk e hc2 hmap (List.mem_of_getElem? (i := i) (by simpa using a1)) (by rw [hbn]; exact hnd), .tup _ _ rfl (fun j hj => by
      match j, hj with
      | 0, _ => exact a2
      | 1, _ => exact a3)⟩

def QDone (P : Program) (o : Oper) (a : Act) (w : World) (g : G) (v : V) : Prop := ∃ x, (execOp a.eval o).run P w = .ok (.value x) w ∧ VRel g v x

theorem QDone.of {o : Oper} {a : Act} {v : V} {s : Sem Value} (h : execOp a.eval o = (do pure (.value (← s)))) (hs : ∃ x, s.run P w = .ok x w ∧ VRel g v x) : QDone P o a w g v := by
  obtain ⟨x, h1, h2⟩ := hs
  exact ⟨x, by rw [h]; simp [h1], h2⟩

theorem builtin_quiet (hs : Reads P g st w) {n : Nat} {fr : Fr} {a : Act} (hf : FrRel g n fr a.tmps) {b : Builtin} {args : Array Operand} {ts : Array TypeId} {ty : Nat} {cs : Array Bool} {xs : List X} (hx : resXs args.toList = some xs) {ro : RO} (hr : resBuiltin P b ts xs = some ro)
  (hq : ro.quiet = true) {v : V} {st' : St} (ha : aop ro fr st = some (v, st')) :
  st' = st ∧ ∃ x, (builtin b ts ty cs (args.map a.eval)).run P w = .ok (.value x) w ∧ VRel g v x := by
 have hR := resXs_rel hf hx
 obtain ⟨l⟩ := args
 simp only [List.map_toArray] at *
 unfold resBuiltin at hr
 split at hr
 ·-- len
  rename_i x
  have hl := hR.1
  obtain ⟨o, rfl⟩ : ∃ o, l = [o] := by cases l with | nil => simp at hl | cons o l => cases l with | nil => exact ⟨o, rfl⟩ | cons _ _ => simp at hl
  have hX : VRel g (x.ev fr) (a.eval o) := by simpa using hR.2 0 (by simp)
  have fin : ∀ (c : LK) (t : Nat), ts[0]? = some t → c.fits P t → ro = .len c x → st' = st ∧ ∃ x, (builtin .len ts ty cs ([o].map a.eval).toArray).run P w = .ok (.value x) w ∧ VRel g v x := by
   intro c t ht hc e; subst e
   simp only [aop] at ha
   obtain ⟨k, hk, e⟩ := omap_eq ha
   cases e
   refine ⟨rfl, _, ?_, .int _ _⟩
   simp [builtin, len_ok hs ht hc hX hk]
  cases ht : ts[0]? with
  | none => simp [ht] at hr
  | some t =>
   simp only [ht, Option.bind_some] at hr
   split at hr
   ·rename_i e hu; exact fin .sl t ht ⟨_, hu⟩ (Option.some.inj hr).symm
   ·rename_i hu; exact fin .str t ht hu (Option.some.inj hr).symm
   ·rename_i k e hu; exact fin .map t ht ⟨_, _, hu⟩ (Option.some.inj hr).symm
   ·simp at hr
 ·-- append
  split at hr
  ·split at hr
   ·split at hr
    ·simp at hr
    ·simp at hr; subst hr; simp [RO.quiet] at hq
   ·simp at hr
  ·split at hr
   ·split at hr
    ·simp at hr
    ·simp at hr; subst hr; simp [RO.quiet] at hq
   ·simp at hr
  ·simp at hr
 ·-- delete
  exfalso
  split at hr
  ·simp only [Option.map_eq_some_iff] at hr; obtain ⟨_, _, rfl⟩ := hr; simp [RO.quiet] at hq
  ·simp at hr
 ·-- max
  rename_i x r
  simp at hr; subst hr
  have hl := hR.1
  cases l with
  | nil => simp at hl
  | cons o l =>
   simp only [aop] at ha
   obtain ⟨k, hk, e⟩ := omap_eq ha
   cases e
   have hX : VRel g (x.ev fr) (a.eval o) := by simpa using hR.2 0 (by simp)
   obtain ⟨z, h1, h2⟩ := minmax_ok (P := P) (w := w) (mx := true) hX (xs := r.map (·.ev fr)) (ys := l.map a.eval) (by simpa using hl) (fun i hi => by simpa using hR.2 (i + 1) (by simpa using hi)) hk
   exact ⟨rfl, z, by simp at h1; simp [builtin, Builtin.max_, h1], h2⟩
 ·-- min
  rename_i x r
  simp at hr; subst hr
  have hl := hR.1
  cases l with
  | nil => simp at hl
  | cons o l =>
   simp only [aop] at ha
   obtain ⟨k, hk, e⟩ := omap_eq ha
   cases e
   have hX : VRel g (x.ev fr) (a.eval o) := by simpa using hR.2 0 (by simp)
   obtain ⟨z, h1, h2⟩ := minmax_ok (P := P) (w := w) (mx := false) hX (xs := r.map (·.ev fr)) (ys := l.map a.eval) (by simpa using hl) (fun i hi => by simpa using hR.2 (i + 1) (by simpa using hi)) hk
   exact ⟨rfl, z, by simp at h1; simp [builtin, Builtin.min_, h1], h2⟩
 ·exfalso
  unfold resBuiltin2 at hr
  (repeat' split at hr) <;> first | (simp at hr; done) | (simp only [Option.some.injEq] at hr; subst hr; simp [RO.quiet] at hq) | (simp only [Option.map_eq_some_iff] at hr; obtain ⟨_, _, rfl⟩ := hr; simp [RO.quiet] at hq)

set_option maxHeartbeats 1000000 in
theorem quiet_ok (hs : Reads P g st w) {n : Nat} {fr : Fr} {a : Act} (hf : FrRel g n fr a.tmps) {o : Oper} {ro : RO} (hr : resOp P o.op = some ro) (hq : ro.quiet = true) {v : V} {st' : St} (ha : aop ro fr st = some (v, st')) :
    st' = st ∧ QDone P o a w g v := by
  cases hop : o.op with
  | move x =>
    simp only [hop, resOp, Option.map_eq_some_iff] at hr; obtain ⟨y, hy, rfl⟩ := hr
    simp only [aop, Option.some.injEq, Prod.mk.injEq] at ha; obtain ⟨rfl, rfl⟩ := ha
    exact ⟨rfl, a.eval x, by simp [execOp, hop], resX_rel hf hy⟩
  | assign x =>
    simp only [hop, resOp, Option.map_eq_some_iff] at hr; obtain ⟨y, hy, rfl⟩ := hr
    simp only [aop, Option.some.injEq, Prod.mk.injEq] at ha; obtain ⟨rfl, rfl⟩ := ha
    exact ⟨rfl, a.eval x, by simp [execOp, hop], resX_rel hf hy⟩
  | pick c x y =>
    simp only [hop, resOp] at hr
    split at hr
    · rename_i c' x' y' h1 h2 h3
      simp only [Option.some.injEq] at hr; subst hr
      simp only [aop] at ha
      have hc := resX_rel hf h1
      split at ha
      · rename_i t ht
        simp only [Option.some.injEq, Prod.mk.injEq] at ha; obtain ⟨rfl, rfl⟩ := ha
        rw [ht] at hc; generalize hcv : a.eval c = cv at hc; cases hc
        refine ⟨rfl, if t then a.eval x else a.eval y, ?_, ?_⟩
        · simp [execOp, hop, hcv, asBool]
        · cases t
          · exact resX_rel hf h3
          · exact resX_rel hf h2
      · simp at ha
    · simp at hr
  | load t x =>
    simp only [hop, resOp] at hr
    split at hr
    · rename_i m x' h1 h2
      simp only [Option.some.injEq] at hr; subst hr
      simp only [aop] at ha
      split at ha
      · rename_i cs off hc
        obtain ⟨v', hv, e⟩ := omap_eq ha; cases e
        exact ⟨rfl, .of (by simp [execOp, hop]) (ld_ok hs h1 (resX_rel hf h2) hc hv)⟩
      · simp at ha
    · simp at hr
  | nilCheck x =>
    simp only [hop, resOp, Option.map_eq_some_iff] at hr; obtain ⟨y, hy, rfl⟩ := hr
    have hX := resX_rel hf hy
    simp only [aop] at ha
    generalize y.ev fr = A at ha hX
    have fin : ∀ z, a.eval x = z → VRel g v z → st' = st → (match z with | .pointer none | .nilIface | .nilFunc => False | .func (.method _) _ _ => False | _ => True) → st' = st ∧ QDone P o a w g v := by
      intro z hz h e hm
      refine ⟨e, z, ?_, h⟩
      simp only [execOp, hop, hz]
      cases z <;> first
        | rfl
        | (rename_i p; cases p <;> first | exact hm.elim | rfl)
        | (rename_i p q r; cases p <;> first | exact hm.elim | rfl)
        | exact hm.elim
    generalize hz : a.eval x = z at hX
    cases hX <;> first
      | (simp at ha; done)
      | (simp only [Option.some.injEq, Prod.mk.injEq] at ha; obtain ⟨rfl, rfl⟩ := ha; rename_i hL hb; exact fin _ hz (.ptr _ _ _ _ _ _ hL hb) rfl trivial)
      | (simp only [Option.some.injEq, Prod.mk.injEq] at ha; obtain ⟨rfl, rfl⟩ := ha; rename_i hi hr; exact fin _ hz (.eptr _ _ _ _ _ hi hr) rfl trivial)
      | (simp only [Option.some.injEq, Prod.mk.injEq] at ha; obtain ⟨rfl, rfl⟩ := ha; rename_i hL hb; exact fin _ hz (.yld _ _ _ _ hL hb) rfl trivial)
      | (simp only [Option.some.injEq, Prod.mk.injEq] at ha; obtain ⟨rfl, rfl⟩ := ha; rename_i h; exact fin _ hz (.iface _ _ _ h) rfl trivial)
      | (rename_i f a' b' fs cs h1 h2 h3 h4
         cases f <;> first
          | (simp at ha; done)
          | (simp only [Option.some.injEq, Prod.mk.injEq] at ha; obtain ⟨rfl, rfl⟩ := ha; exact fin _ hz (.fn _ _ _ _ _ h1 h2 h3 h4) rfl trivial))
  | binOp op t x y ty =>
    rw [hop] at hr
    obtain ⟨e, z, h1, h2⟩ := bin_quiet (P := P) (w := w) hf hr ha
    exact ⟨e, z, by simp only [execOp, hop]; rw [Sem.run_bind, h1]; rfl, h2⟩
  | unOp op t x =>
    simp only [hop, resOp, Option.map_eq_some_iff] at hr; obtain ⟨y, hy, rfl⟩ := hr
    simp only [aop] at ha
    obtain ⟨v', hv, e⟩ := omap_eq ha; cases e
    exact ⟨rfl, .of (by simp [execOp, hop]) (un_ok (resX_rel hf hy) hv)⟩
  | convert s t x =>
    simp only [hop, resOp] at hr
    split at hr
    · rename_i k' k x' h1 h2 h3
      simp only [Option.some.injEq] at hr; subst hr
      simp only [aop] at ha
      have hX := resX_rel hf h3
      split at ha
      · rename_i kk m hm
        simp only [Option.some.injEq, Prod.mk.injEq] at ha; obtain ⟨rfl, rfl⟩ := ha
        rw [hm] at hX
        have := int_open hX
        exact ⟨rfl, .of (s := convert s t (a.eval x)) (by simp [execOp, hop]) ⟨_, by rw [this]; exact conv_ok h1 h2, .int _ _⟩⟩
      · simp at ha
    · rename_i e x' h1 h2 h3
      split at hr
      · rename_i h4
        simp only [Option.some.injEq] at hr; subst hr
        simp only [aop] at ha
        have hX := resX_rel hf h3
        split at ha
        · rename_i ys hys
          simp only [Option.map_eq_some_iff, Prod.mk.injEq] at ha
          obtain ⟨l, hl, rfl, rfl⟩ := ha
          exact ⟨rfl, .of (s := convert s t (a.eval x)) (by simp [execOp, hop]) ⟨_, (convS_ok h1 h2 h4 hX hys).trans (strOf_ok hs hX hys hl), .str _⟩⟩
        · simp at ha
      · simp at hr
    · simp at hr
  | slice t x lo hi mx =>
    simp only [hop, resOp] at hr
    split at hr
    · rename_i x' lo' hi' mx' h1 h2 h3 h4
      split at hr
      · rename_i e hu
        split at hr
        · rename_i k hk
          split at hr
          · simp at hr
          · simp only [Option.some.injEq] at hr; subst hr
            simp only [aop] at ha
            obtain ⟨v', hv, e⟩ := omap_eq ha; cases e
            exact ⟨rfl, .of (s := Instr.sliceAt t (a.eval x) (lo.map a.eval) (hi.map a.eval) (mx.map a.eval)) (by simp [execOp, hop]) (by
              obtain ⟨y, e1, e2⟩ := slice_ok hs hu hk (resX_rel hf h1) (resXo_rel hf h2) (resXo_rel hf h3) (resXo_rel hf h4) hv
              exact ⟨y, by simp [Instr.sliceAt, run_underlying hu, e1], e2⟩)⟩
        · simp at hr
      · rename_i hu
        split at hr
        · rename_i hm
          simp only [Option.some.injEq] at hr; subst hr
          simp only [aop] at ha
          have hX := resX_rel hf h1
          have h4' : mx = none := by
            cases mx with
            | none => rfl
            | some m => simp only [resXo, Option.map_eq_some_iff] at h4; obtain ⟨z, _, rfl⟩ := h4; simp at hm
          subst h4'
          split at ha
          · rename_i s hs'
            rw [hs'] at hX
            obtain ⟨p, hb, e⟩ := omap_eq ha
            obtain ⟨l, h⟩ := p
            cases e
            refine ⟨rfl, .of (s := Instr.sliceAt t (a.eval x) (lo.map a.eval) (hi.map a.eval) none) (by simp [execOp, hop]) ⟨_, ?_, .str _⟩⟩
            generalize a.eval x = z at hX
            cases hX
            simp [Instr.sliceAt, run_underlying hu, sliceS_ok hu (resXo_rel hf h2) (resXo_rel hf h3) hb]
          · simp at ha
        · simp at hr
      · rename_i len e hu
        split at hr
        · have nn : ∀ {q : Option Operand}, resXo q = some none → q = none := by
            intro q hq
            cases q with
            | none => rfl
            | some m => simp only [resXo, Option.map_eq_some_iff] at hq; obtain ⟨z, _, hq⟩ := hq; cases hq
          obtain rfl := nn h2
          obtain rfl := nn h3
          obtain rfl := nn h4
          simp only [Option.map_eq_some_iff] at hr
          obtain ⟨k, hk, rfl⟩ := hr
          simp only [aop] at ha
          obtain ⟨e1, z, e2, e3⟩ := sliceA_ok (P := P) (w := w) hu hk ha (resX_rel hf h1)
          exact ⟨e1, .of (s := Instr.sliceAt t (a.eval x) none none none) (by simp [execOp, hop]) ⟨z, e2, e3⟩⟩
        · simp at hr
      · simp at hr
    · simp at hr
  | fieldAddr t x i =>
    simp only [hop, resOp] at hr
    split at hr
    · rename_i fs x' hu h1
      split at hr
      · rename_i f hfi
        split at hr
        · rename_i k hk
          simp only [Option.some.injEq] at hr; subst hr
          simp only [aop] at ha
          have hX := resX_rel hf h1
          obtain ⟨v', hv, e⟩ := omap_eq ha; cases e
          exact ⟨rfl, .of (by simp [execOp, hop]) (fld_ok hu hfi hk hX hv)⟩
        · simp at hr
      · simp at hr
    · simp at hr
  | field t x i =>
    simp only [hop, resOp] at hr
    split at hr
    · rename_i fs x' hu h1
      split at hr
      · rename_i f hfi
        simp only [Option.map_eq_some_iff] at hr
        obtain ⟨m, hm, rfl⟩ := hr
        simp only [aop] at ha
        have hX := resX_rel hf h1
        split at ha
        · rename_i cs hcs
          rw [hcs] at hX
          obtain ⟨v', hv, e⟩ := omap_eq ha; cases e
          exact ⟨rfl, .of (by simp [execOp, hop]) (fldV_ok hu hfi hm hX hv)⟩
        · simp at ha
      · simp at hr
    · simp at hr
  | indexAddr t x i =>
    simp only [hop, resOp] at hr
    split at hr
    · rename_i e x' i' hu h1 h2
      simp only [Option.map_eq_some_iff] at hr
      obtain ⟨m, hm, rfl⟩ := hr
      simp only [aop] at ha
      obtain ⟨v', hv, e⟩ := omap_eq ha; cases e
      exact ⟨rfl, .of (by simp [execOp, hop]) (idx_ok hs hu hm (resX_rel hf h1) (resX_rel hf h2) hv)⟩
    · rename_i len e x' i' hu h1 h2
      split at hr
      · simp at hr
      · simp only [Option.map_eq_some_iff] at hr
        obtain ⟨m, hm, rfl⟩ := hr
        simp only [aop] at ha
        have hX := resX_rel hf h1
        have hI := resX_rel hf h2
        split at ha
        · rename_i k hk
          split at ha
          · rename_i hc
            obtain ⟨v', hv, e⟩ := omap_eq ha; cases e
            exact ⟨rfl, .of (s := Instr.indexAt t (a.eval x) (a.eval i)) (by simp [execOp, hop]) (idxA_ok hu hm hX hI hk hc hv)⟩
          · simp at ha
        · simp at ha
    · simp at hr
  | index t x i =>
    simp only [hop, resOp] at hr
    split at hr
    · rename_i len e x' i' hu h1 h2
      split at hr
      · rename_i m ag hm hag
        simp only [Option.some.injEq] at hr; subst hr
        simp only [aop] at ha
        have hX := resX_rel hf h1
        have hI := resX_rel hf h2
        split at ha
        · rename_i cs k hcs hk
          split at ha
          · rename_i hc
            rw [hcs] at hX
            obtain ⟨v', hv, e⟩ := omap_eq ha; cases e
            exact ⟨rfl, .of (by simp [execOp, hop]) (idxV_ok hu hm hag hX hI hk hc hv)⟩
          · simp at ha
        · simp at ha
      · simp at hr
    · rename_i x' i' hu h1 h2
      simp only [Option.some.injEq] at hr; subst hr
      simp only [aop] at ha
      have hX := resX_rel hf h1
      have hI := resX_rel hf h2
      split at ha
      · rename_i s k hcs hk
        split at ha
        · rename_i hc
          rw [hcs] at hX
          simp only [Option.some.injEq, Prod.mk.injEq] at ha; obtain ⟨rfl, rfl⟩ := ha
          refine ⟨rfl, .of (s := Instr.index t (a.eval x) (a.eval i)) (by simp [execOp, hop]) ⟨_, ?_, .int _ _⟩⟩
          generalize a.eval x = z at hX
          cases hX
          exact idxS_ok hu hI hk hc
        · simp at ha
      · simp at ha
    · simp at hr
  | entry it =>
    simp only [hop, resOp, Option.map_eq_some_iff] at hr; obtain ⟨y, hy, rfl⟩ := hr
    simp only [aop] at ha
    have hX := resX_rel hf hy
    split at ha
    · rename_i id ver hx
      rw [hx] at hX
      split at ha
      · rename_i mid mver ep i seen ho
        split at ha
        · rename_i ep' es hom
          split at ha
          · rename_i he
            subst he
            simp only [Option.map_eq_some_iff, Prod.mk.injEq] at ha
            obtain ⟨p, hp, rfl, rfl⟩ := ha
            exact ⟨rfl, .of (s := Instr.entry (a.eval it)) (by simp [execOp, hop]) (entry_ok hs ho hom hX hp)⟩
          · simp at ha
        · simp at ha
      · simp at ha
    · simp at ha
  | lookup t m k ok =>
    simp only [hop, resOp] at hr
    split at hr
    · rename_i kt e m' k' hu h1 h2
      split at hr
      · rename_i kc z hk hz
        simp only [Option.some.injEq] at hr; subst hr
        simp only [aop] at ha
        split at ha
        · rename_i es he
          split at ha
          · rename_i r hr'
            simp only [Option.some.injEq, Prod.mk.injEq] at ha; obtain ⟨rfl, rfl⟩ := ha
            exact ⟨rfl, .of (s := Instr.lookup t (a.eval m) (a.eval k) ok) (by simp [execOp, hop]) (lookup_ok hs hu hk hz (resX_rel hf h1) (resX_rel hf h2) he hr' ok)⟩
          · simp at ha
        · simp at ha
      · simp at hr
    · simp at hr
  | extract x i =>
    simp only [hop, resOp, Option.map_eq_some_iff] at hr; obtain ⟨y, hy, rfl⟩ := hr
    simp only [aop] at ha
    have hX := resX_rel hf hy
    split at ha
    · rename_i vs hvs
      rw [hvs] at hX
      obtain ⟨v', hv, e⟩ := omap_eq ha; cases e
      exact ⟨rfl, .of (by simp [execOp, hop]) (ext_ok hX hv)⟩
    · simp at ha
  | makeFunc f x y =>
    simp only [hop, resOp] at hr
    split at hr
    · rename_i x' y' h1 h2
      simp only [Option.some.injEq] at hr; subst hr
      simp only [aop, Option.some.injEq, Prod.mk.injEq] at ha; obtain ⟨rfl, rfl⟩ := ha
      have e1 := resXs_rels hf h1
      have e2 := resXs_rels hf h2
      exact ⟨rfl, .func f (x.map a.eval) (y.map a.eval), by simp [execOp, hop, Instr.makeFunc], .fn _ _ _ _ _ e1.1 e2.1 e1.2 e2.2⟩
    · simp at hr
  | build t ps =>
    simp only [hop, resOp] at hr
    split at hr
    · rename_i fs z hu hz
      split at hr
      · rename_i hall
        simp only [Option.map_eq_some_iff] at hr
        obtain ⟨qs, hq', rfl⟩ := hr
        simp only [aop] at ha
        obtain ⟨v', hv, e⟩ := omap_eq ha; cases e
        exact ⟨rfl, .of (by simp [execOp, hop]) (build_ok hf hu hz hall hq' hv)⟩
      · simp at hr
    · simp at hr
  | call c =>
    obtain ⟨callee, args, ts⟩ := c
    cases callee with
    | value f =>
      simp only [hop, resOp] at hr
      split at hr
      · simp only [Option.some.injEq] at hr; subst hr; simp [RO.quiet] at hq
      · simp at hr
    | invoke r m => simp [hop, resOp] at hr
    | builtin b =>
      simp only [hop, resOp] at hr
      cases hx : resXs args.toList with
      | none => simp [hx] at hr
      | some xs =>
        simp only [hx, Option.bind_some] at hr
        obtain ⟨e, x, h1, h2⟩ := builtin_quiet hs hf (ty := o.type) (cs := args.map fun | .const _ => true | _ => false) hx hr hq ha
        refine ⟨e, x, ?_, h2⟩
        simp only [execOp, hop, resolve, Sem.run_bind, Sem.run_pure, Result.andThen_ok, invoke]
        exact h1
  | alloc t => simp only [hop, resOp, Option.map_eq_some_iff] at hr; obtain ⟨y, hy, rfl⟩ := hr; simp [RO.quiet] at hq
  | box t x => simp only [hop, resOp, Option.map_eq_some_iff] at hr; obtain ⟨y, hy, rfl⟩ := hr; simp [RO.quiet] at hq
  | buildSlice t len ps =>
    simp only [hop, resOp] at hr
    (repeat' split at hr) <;> first | (simp at hr; done) | (simp only [Option.some.injEq] at hr; subst hr; simp [RO.quiet] at hq)
  | store t x y => simp only [hop, resOp] at hr; split at hr <;> first | (simp at hr; done) | (simp only [Option.some.injEq] at hr; subst hr; simp [RO.quiet] at hq)
  | mapUpdate t m k x =>
    simp only [hop, resOp] at hr
    split at hr
    · simp only [Option.map_eq_some_iff] at hr; obtain ⟨y, hy, rfl⟩ := hr; simp [RO.quiet] at hq
    · simp at hr
  | insert t m k x =>
    simp only [hop, resOp] at hr
    split at hr
    · simp only [Option.map_eq_some_iff] at hr; obtain ⟨y, hy, rfl⟩ := hr; simp [RO.quiet] at hq
    · simp at hr
  | range t m => simp only [hop, resOp] at hr; split at hr <;> first | (simp at hr; done) | (simp only [Option.some.injEq] at hr; subst hr; simp [RO.quiet] at hq)
  | next it s =>
    cases s with
    | true => simp [hop, resOp] at hr
    | false => simp only [hop, resOp, Option.map_eq_some_iff] at hr; obtain ⟨y, hy, rfl⟩ := hr; simp [RO.quiet] at hq
  | makeMap t r =>
    cases r with
    | none => simp only [hop, resOp, Option.some.injEq] at hr; subst hr; simp [RO.quiet] at hq
    | some r => simp [hop, resOp] at hr
  | makeSlice t l c =>
    simp only [hop, resOp] at hr
    (repeat' split at hr) <;> first | (simp at hr; done) | (simp only [Option.some.injEq] at hr; subst hr; simp [RO.quiet] at hq)
  | makeInterface t x => simp only [hop, resOp, Option.some.injEq] at hr; subst hr; simp [aop] at ha
  | panic x => simp only [hop, resOp, Option.some.injEq] at hr; subst hr; simp [aop] at ha
  | _ => simp [hop, resOp] at hr

end Go.Proofs.Ytmjnpfackanhlaa.AM
