/- The abstract layer: make. -/
import Derived.Test.YtmjnpfackanhlaaAmOps11
import Derived.IntWalk
namespace Go.Proofs.Ytmjnpfackanhlaa.AM
open Go Go.RowKit
set_option linter.unusedSimpArgs false
set_option linter.unusedVariables false
variable {P : Program} {g : G} {st : St} {w : World}

theorem mksl_ok (hs : Sim P g st w) {t e : Nat} (hu : P.underlying t = some (.slice e)) {i : TypeInfo} (hi : P.info? e = some i) {z : List V} (hz : zeroT P e = some z) {A B : V} {l c : Value} (hA : VRel g A l) (hB : VRel g B c) {n m : Int} (hn : A.asInt = some n) (hm : B.asInt = some m)
  (hc : 0 ≤ n ∧ n ≤ m ∧ m * i.bytes ≤ 2 ^ 47 ∧ z.length = i.size ∧ 0 < i.size) (hb : 0 < i.bytes) :
  Done P g (st.push (.mem i.size (List.replicate m.toNat z))) (.msl st.objs.length st.nv 0 n.toNat) ((Instr.makeSlice t l c).run P w) := by
 obtain ⟨k1, rfl⟩ := asInt_open hA hn
 obtain ⟨k2, rfl⟩ := asInt_open hB hm
 obtain ⟨h1, h2, h3, h4, h5⟩ := hc
 obtain ⟨zz, hzr, hzc⟩ := zeroT_ok (P := P) (w := w) (g := g) hz
 have hsize : (sizeOf e).run P w = .ok i.size w := by simp [sizeOf, run_ti hi]
 have p47 : (2 : Int) ^ 47 = 140737488355328 := by decide
 have p48 : (2 : Int) ^ 48 = 281474976710656 := by decide
 rw [p47] at h3
 have hmb : m ≤ 140737488355328 := by
  have : m * 1 ≤ m * i.bytes := Int.mul_le_mul_of_nonneg_left (by omega) (by omega)
  omega
 have hwn : IntKind.i64.wrap n = n := IntWalk.i64_in _ (by omega)
 have hwm : IntKind.i64.wrap m = m := IntWalk.i64_in _ (by omega)
 have hrow := row_zero (g := g) hzc (sz := i.size) h4 m.toNat
 obtain ⟨e1, e2, e3⟩ := push_mem hs (t := e) (T := m.toNat) h5 (by simp) (by simp) hrow
 refine ⟨.slice (some ⟨w.heap.size, 0, none⟩) n.toNat m.toNat, _, _, ?_, e1, e2, e3, ?_⟩
 ·have hcond : ¬ (((m < 0 || (i.bytes : Int) * m > 2 ^ 48) || n < 0 || n > m) = true) := by
   have h6 : (i.bytes : Int) * m ≤ 140737488355328 := by rw [Int.mul_comm]; exact h3
   rw [p48]
   simp only [Bool.or_eq_true, decide_eq_true_eq]
   generalize (i.bytes : Int) * m = q at h6
   omega
  simp only [Instr.makeSlice, Sem.run_bind, run_underlying hu, Result.andThen_ok, asInt, asIntOf, Sem.run_pure, run_ti hi, hwn, hwm]
  rw [if_neg hcond]
  simp only [Sem.run_pure, Result.andThen_ok, run_askRoom, hsize, Sem.run_bind, pure_bind]
  by_cases hm0 : m.toNat * i.size = 0
  ·rw [if_pos hm0]
   rw [hm0]
   have h0 : ∀ f : Nat → Value, Array.map f (Array.range 0) = #[] := fun f => by apply Array.ext'; simp
   simp [newRow]
   rw [h0, h0]
  ·rw [if_neg hm0]
   simp [hzr, newRow]
 ·rw [hs.nv]
  have := VRel.msl (g := g.add ⟨some w.heap.size, 0, i.size, m.toNat⟩) st.objs.length g.nv 0 n.toNat w.heap.size ⟨w.heap.size, 0, none⟩ _ (G.add_loc _) rfl (by simp; omega) (by intro _; simp) rfl
  simpa using this

/-! ### all operations but calls and steps of an iteration -/
def ODone (P : Program) (o : Oper) (a : Act) (w : World) (g : G) (st' : St) (v : V) : Prop :=
 ∃ nx w' g' x, (execOp a.eval o).run P w = .ok nx w' ∧ (nx = .value x ∨ nx = .skip ∧ x = undef) ∧ g.le g' ∧ g'.dfr = g.dfr ∧ Sim P g' st' w' ∧ VRel g' v x

theorem ODone.of {o : Oper} {a : Act} {st' : St} {v : V} {s : Sem Value} (h : execOp a.eval o = (do pure (.value (← s)))) (hs : Done P g st' v (s.run P w)) : ODone P o a w g st' v := by
  obtain ⟨x, w', g', h1, h2, h3, h4, h5⟩ := hs
  exact ⟨.value x, w', g', x, by rw [h]; simp [h1], .inl rfl, h2, h3, h4, h5⟩

theorem builtin_op (hs : Sim P g st w) {n : Nat} {fr : Fr} {a : Act} (hf : FrRel g n fr a.tmps) {b : Builtin} {args : Array Operand} {ts : Array TypeId} {ty : Nat} {cs : Array Bool} {xs : List X} (hx : resXs args.toList = some xs) {ro : RO} (hr : resBuiltin P b ts xs = some ro)
  (hq : ro.quiet = false) {v : V} {st' : St} (ha : aop ro fr st = some (v, st')) :
  ∃ w' g' x, (builtin b ts ty cs (args.map a.eval)).run P w = .ok (.value x) w' ∧ g.le g' ∧ g'.dfr = g.dfr ∧ Sim P g' st' w' ∧ VRel g' v x := by
 have hR := resXs_rel hf hx
 obtain ⟨l⟩ := args
 simp only [List.map_toArray] at *
 have two : ∀ {x y : X}, xs = [x, y] → ∃ o1 o2, l = [o1, o2] ∧ VRel g (x.ev fr) (a.eval o1) ∧ VRel g (y.ev fr) (a.eval o2) := by
  intro x y e
  subst e
  have hl := hR.1
  match l, hl with
  | [o1, o2], _ => exact ⟨o1, o2, rfl, by simpa using hR.2 0 (by simp), by simpa using hR.2 1 (by simp)⟩
 unfold resBuiltin at hr
 split at hr
 ·split at hr <;> first | (simp only [Option.some.injEq] at hr; subst hr; simp [RO.quiet] at hq) | (simp at hr; done)
 ·-- append
  rename_i x y
  obtain ⟨o1, o2, rfl, hX, hY⟩ := two rfl
  have fin : ∀ (sT xT e : Nat), ts[0]? = some sT → ts[1]? = some xT → P.underlying sT = some (.slice e) → ((∃ e', P.underlying xT = some (.slice e')) ∨ P.underlying xT = some .string) →
    (match P.info? e, zeroT P e with | some i, some z => if i.size = 0 ∨ i.bytes = 0 ∨ z.length ≠ i.size then none else some (RO.append i.size i.bytes x y) | _, _ => none) = some ro →
    ∃ w' g' z, (builtin .append ts ty cs ([o1, o2].map a.eval).toArray).run P w = .ok (.value z) w' ∧ g.le g' ∧ g'.dfr = g.dfr ∧ Sim P g' st' w' ∧ VRel g' v z := by
   intro sT xT e h1 h2 hu hx' hro
   split at hro
   ·rename_i i z hi hz
    split at hro
    ·simp at hro
    ·rename_i hc
     simp only [Option.some.injEq] at hro; subst hro
     simp only [aop] at ha
     have hsrc : ∃ ys, srcV st i.size (y.ev fr) = some ys ∧ appendV st i.size i.bytes (x.ev fr) ys = some (v, st') := by
      revert ha
      unfold srcV
      cases y.ev fr <;> simp only <;> intro ha <;> (split at ha <;> first | exact ⟨_, by assumption, ha⟩ | (simp at ha; done))
     obtain ⟨ys, hys, hav⟩ := hsrc
     have hts : (Builtin.append_ ts ty #[a.eval o1, a.eval o2]) = Builtin.append_ #[sT, xT] ty #[a.eval o1, a.eval o2] := by
      unfold Builtin.append_
      simp [h1, h2]
     obtain ⟨z', w', g', e1, e2, e3, e4, e5⟩ := append_ok hs (ty := ty) hu hx' hi rfl rfl (by omega) hz (by omega) (by omega) hX hY hys hav
     exact ⟨w', g', z', by simp [builtin, hts, e1], e2, e3, e4, e5⟩
   ·simp at hro
  cases h1 : ts[0]? with
  | none => simp [h1] at hr
  | some sT =>
   cases h2 : ts[1]? with
   | none => simp [h1, h2] at hr
   | some xT =>
    simp only [h1, h2, Option.bind_some] at hr
    split at hr
    ·rename_i e e' hu hu'; exact fin sT xT e h1 h2 hu (.inl ⟨_, hu'⟩) hr
    ·rename_i e hu hu'; exact fin sT xT e h1 h2 hu (.inr hu') hr
    ·simp at hr
 ·-- delete
  rename_i m k
  obtain ⟨o1, o2, rfl, hX, hY⟩ := two rfl
  split at hr
  ·rename_i kt e hu
   simp only [Option.bind_eq_some_iff] at hu
   obtain ⟨t, h1, hu⟩ := hu
   simp only [Option.map_eq_some_iff] at hr
   obtain ⟨kc, hkc, rfl⟩ := hr
   simp only [aop] at ha
   split at ha
   ·rename_i id ver hm
    rw [hm] at hX
    split at ha
    ·rename_i ep es ho
     split at ha
     ·rename_i i v' hfd
      simp only [Option.some.injEq, Prod.mk.injEq] at ha; obtain ⟨rfl, rfl⟩ := ha
      obtain ⟨w', g', e1, e2, e3, e4⟩ := mdel_ok hs (ty := ty) h1 hu hkc ho hX hY hfd
      exact ⟨w', g', _, by simp [builtin, e1], e2, e3, e4, .tup [] #[] rfl (fun i hi => by simp at hi)⟩
     ·rename_i hfd
      simp only [Option.some.injEq, Prod.mk.injEq] at ha; obtain ⟨rfl, rfl⟩ := ha
      obtain ⟨w', g', e1, e2, e3, e4⟩ := mdel_ok hs (ty := ty) h1 hu hkc ho hX hY hfd
      exact ⟨w', g', _, by simp [builtin, e1], e2, e3, e4, .tup [] #[] rfl (fun i hi => by simp at hi)⟩
     ·simp at ha
    ·simp at ha
   ·simp at ha
  ·simp at hr
 ·simp only [Option.some.injEq] at hr; subst hr; simp [RO.quiet] at hq
 ·simp only [Option.some.injEq] at hr; subst hr; simp [RO.quiet] at hq
 ·-- clear, cap, copy
  unfold resBuiltin2 at hr
  split at hr
  ·rename_i e hu
   simp only [Option.bind_eq_some_iff] at hu
   obtain ⟨sT, h1, hu⟩ := hu
   rcases xs with _ | ⟨x, _ | ⟨y, _ | ⟨z, r⟩⟩⟩
   ·simp at hr
   ·obtain ⟨o1, rfl, hX⟩ : ∃ o1, l = [o1] ∧ VRel g (x.ev fr) (a.eval o1) := by
     have hl := hR.1
     match l, hl with
     | [o1], _ => exact ⟨o1, rfl, by simpa using hR.2 0 (by simp)⟩
    simp only at hr
    split at hr
    ·simp only [Option.map_eq_some_iff] at hr
     obtain ⟨z, hz, rfl⟩ := hr
     obtain ⟨w', e1, e2, rfl⟩ := clear_ok hs (ty := ty) h1 hu hz hX (v := v) (st' := st') (by rw [← ha]; rfl)
     exact ⟨w', g, _, by simp [builtin, e1], .refl g, rfl, e2, .tup [] #[] rfl (fun i hi => by simp at hi)⟩
    ·simp only [Option.some.injEq] at hr; subst hr; simp [aop] at ha
    ·simp at hr
   ·obtain ⟨o1, o2, rfl, hX, hY⟩ := two rfl
    simp only at hr
    split at hr
    ·simp only [Option.map_eq_some_iff] at hr
     obtain ⟨k, hk, rfl⟩ := hr
     obtain ⟨w', z, e1, e2, e3⟩ := copy_ok hs (ty := ty) h1 hu hk hX hY (v := v) (st' := st') (by rw [← ha]; rfl)
     exact ⟨w', g, z, by simp [builtin, e1], .refl g, rfl, e2, e3⟩
    ·simp at hr
   ·simp at hr
  ·simp at hr

set_option maxHeartbeats 1000000 in
theorem op_ok (hs : Sim P g st w) {n : Nat} {fr : Fr} {a : Act} (hf : FrRel g n fr a.tmps) {o : Oper} {ro : RO} (hr : resOp P o.op = some ro) {v : V} {st' : St} (ha : aop ro fr st = some (v, st')) :
  ODone P o a w g st' v := by
 by_cases hq : ro.quiet = true
 ·obtain ⟨rfl, x, h1, h2⟩ := quiet_ok hs.reads hf hr hq ha
  exact ⟨.value x, w, g, x, h1, .inl rfl, .refl g, rfl, hs, h2⟩
 ·simp only [Bool.not_eq_true] at hq
  cases hop : o.op with
  | alloc t =>
   simp only [hop, resOp, Option.map_eq_some_iff] at hr; obtain ⟨z, hz, rfl⟩ := hr
   simp only [aop] at ha
   split at ha
   ·simp at ha
   ·rename_i hne
    simp only [Option.some.injEq, Prod.mk.injEq] at ha; obtain ⟨rfl, rfl⟩ := ha
    exact .of (s := Instr.alloc t true (.tuple #[])) (by simp [execOp, hop]) (alloc_ok hs hz (by simpa using hne))
  | box t x =>
   simp only [hop, resOp, Option.map_eq_some_iff] at hr; obtain ⟨y, hy, rfl⟩ := hr
   simp only [aop] at ha
   split at ha
   ·rename_i cs hc
    split at ha
    ·simp at ha
    ·rename_i hne
     simp only [Option.some.injEq, Prod.mk.injEq] at ha; obtain ⟨rfl, rfl⟩ := ha
     exact .of (s := Instr.box t (a.eval x)) (by simp [execOp, hop]) (box_ok hs (resX_rel hf hy) hc (by simpa using hne))
   ·simp at ha
  | buildSlice t len ps =>
   simp only [hop, resOp] at hr
   split at hr
   ·rename_i e hu
    split at hr
    ·rename_i k z l hk hz hl
     split at hr
     ·rename_i hc
      simp only [Option.some.injEq] at hr; subst hr
      simp only [aop] at ha
      simp only [Option.bind_eq_some_iff] at ha
      obtain ⟨es, hes, ha⟩ := ha
      split at ha
      ·simp only [Option.some.injEq, Prod.mk.injEq] at ha; obtain ⟨rfl, rfl⟩ := ha
       exact .of (by simp [execOp, hop]) (mkSl_ok hs hf hu hk hz hc.1 hc.2.1 hc.2.2 hl hes)
      ·simp at ha
     ·simp at hr
    ·simp at hr
   ·simp at hr
  | store t x y =>
   simp only [hop, resOp] at hr
   split at hr
   ·rename_i k x' y' hk h1 h2
    simp only [Option.some.injEq] at hr; subst hr
    simp only [aop] at ha
    split at ha
    ·rename_i cs hc
     split at ha
     ·rename_i hl
      obtain ⟨s, hst, e⟩ := omap_eq ha; cases e
      obtain ⟨w', e1, e2⟩ := store_ok hs hk (resX_rel hf h1) (resX_rel hf h2) hc hl hst
      exact ⟨.skip, w', g, undef, by simp [execOp, hop, e1], .inr ⟨rfl, rfl⟩, .refl g, rfl, e2, .junk _⟩
     ·simp at ha
    ·simp at ha
   ·simp at hr
  | mapUpdate t m k x =>
   simp only [hop, resOp] at hr
   split at hr
   ·rename_i kt e m' k' x' hu h1 h2 h3
    simp only [Option.map_eq_some_iff] at hr; obtain ⟨kc, hkc, rfl⟩ := hr
    simp only [aop] at ha
    split at ha
    ·rename_i id ver hm
     split at ha
     ·rename_i ep es ho
      have hM := resX_rel hf h1
      rw [hm] at hM
      split at ha
      ·rename_i i v' hfd
       simp only [Option.some.injEq, Prod.mk.injEq] at ha; obtain ⟨rfl, rfl⟩ := ha
       obtain ⟨w', g', e1, e2, e3, e4⟩ := mupd_ok hs hu hkc ho hM (resX_rel hf h2) (resX_rel hf h3) hfd
       exact ⟨.skip, w', g', undef, by simp [execOp, hop, e1], .inr ⟨rfl, rfl⟩, e2, e3, e4, .junk _⟩
      ·rename_i hfd
       simp only [Option.some.injEq, Prod.mk.injEq] at ha; obtain ⟨rfl, rfl⟩ := ha
       obtain ⟨w', g', e1, e2, e3, e4⟩ := mupd_ok hs hu hkc ho hM (resX_rel hf h2) (resX_rel hf h3) hfd
       exact ⟨.skip, w', g', undef, by simp [execOp, hop, e1], .inr ⟨rfl, rfl⟩, e2, e3, e4, .junk _⟩
      ·simp at ha
     ·simp at ha
    ·simp at ha
   ·simp at hr
  | insert t m k x =>
   simp only [hop, resOp] at hr
   split at hr
   ·rename_i kt e m' k' x' hu h1 h2 h3
    simp only [Option.map_eq_some_iff] at hr; obtain ⟨kc, hkc, rfl⟩ := hr
    simp only [aop] at ha
    split at ha
    ·rename_i id ver hm
     split at ha
     ·rename_i ep es ho
      have hM := resX_rel hf h1
      rw [hm] at hM
      split at ha
      ·rename_i i v' hfd
       simp only [Option.some.injEq, Prod.mk.injEq] at ha; obtain ⟨rfl, rfl⟩ := ha
       obtain ⟨w', g', e1, e2, e3, e4⟩ := mupd_ok hs hu hkc ho hM (resX_rel hf h2) (resX_rel hf h3) hfd
       exact ⟨.skip, w', g', undef, by simp [execOp, hop, e1], .inr ⟨rfl, rfl⟩, e2, e3, e4, .junk _⟩
      ·rename_i hfd
       simp only [Option.some.injEq, Prod.mk.injEq] at ha; obtain ⟨rfl, rfl⟩ := ha
       obtain ⟨w', g', e1, e2, e3, e4⟩ := mupd_ok hs hu hkc ho hM (resX_rel hf h2) (resX_rel hf h3) hfd
       exact ⟨.skip, w', g', undef, by simp [execOp, hop, e1], .inr ⟨rfl, rfl⟩, e2, e3, e4, .junk _⟩
      ·simp at ha
     ·simp at ha
    ·simp at ha
   ·simp at hr
  | range t m =>
   simp only [hop, resOp] at hr
   split at hr
   ·rename_i kt e m' hu h1
    simp only [Option.some.injEq] at hr; subst hr
    simp only [aop] at ha
    split at ha
    ·rename_i id ver hm
     split at ha
     ·rename_i ep es ho
      simp only [Option.some.injEq, Prod.mk.injEq] at ha; obtain ⟨rfl, rfl⟩ := ha
      have hM := resX_rel hf h1
      rw [hm] at hM
      exact .of (by simp [execOp, hop]) (range_ok hs hu ho hM)
     ·simp at ha
    ·simp at ha
   ·simp at hr
  | next it s =>
   cases s with
   | true => simp [hop, resOp] at hr
   | false => simp only [hop, resOp, Option.map_eq_some_iff] at hr; obtain ⟨y, hy, rfl⟩ := hr; simp [aop] at ha
  | makeMap t r =>
   cases r with
   | none =>
    simp only [hop, resOp, Option.some.injEq] at hr; subst hr
    simp only [aop, Option.some.injEq, Prod.mk.injEq] at ha; obtain ⟨rfl, rfl⟩ := ha
    exact .of (s := Instr.makeMap t none) (by simp [execOp, hop]) (mkmap_ok hs)
   | some r => simp [hop, resOp] at hr
  | makeSlice t l c =>
   simp only [hop, resOp] at hr
   split at hr
   ·rename_i e l' c' hu h1 h2
    split at hr
    ·rename_i i z hi hz
     split at hr
     ·rename_i hb
      simp only [Option.some.injEq] at hr; subst hr
      simp only [aop] at ha
      split at ha
      ·rename_i k m hk hm
       split at ha
       ·rename_i hc
        simp only [Option.some.injEq, Prod.mk.injEq] at ha; obtain ⟨rfl, rfl⟩ := ha
        exact .of (by simp [execOp, hop]) (mksl_ok hs hu hi hz (resX_rel hf h1) (resX_rel hf h2) hk hm hc hb)
       ·simp at ha
      ·simp at ha
     ·simp at hr
    ·simp at hr
   ·simp at hr
  | call c =>
   obtain ⟨callee, args, ts⟩ := c
   cases callee with
   | value f =>
    simp only [hop, resOp] at hr
    split at hr
    ·simp only [Option.some.injEq] at hr; subst hr; simp [aop] at ha
    ·simp at hr
   | invoke r m => simp [hop, resOp] at hr
   | builtin b =>
    simp only [hop, resOp] at hr
    cases hx : resXs args.toList with
    | none => simp [hx] at hr
    | some xs =>
     simp only [hx, Option.bind_some] at hr
     obtain ⟨w', g', x, h1, h2⟩ := builtin_op hs hf (ty := o.type) (cs := args.map fun | .const _ => true | _ => false) hx hr hq ha
     refine ⟨.value x, w', g', x, ?_, .inl rfl, h2⟩
     simp only [execOp, hop, resolve, Sem.run_bind, Sem.run_pure, Result.andThen_ok, invoke]
     exact h1
  | _ =>
   rw [hop] at hr
   revert hr
   simp only [resOp]
   intro hr
   (repeat' split at hr) <;> first
    | (simp at hr; done)
    | (simp only [Option.some.injEq] at hr; subst hr; simp [RO.quiet] at hq; done)
    | (simp only [Option.map_eq_some_iff] at hr; obtain ⟨y, hy, rfl⟩ := hr; simp [RO.quiet] at hq; done)

end Go.Proofs.Ytmjnpfackanhlaa.AM
