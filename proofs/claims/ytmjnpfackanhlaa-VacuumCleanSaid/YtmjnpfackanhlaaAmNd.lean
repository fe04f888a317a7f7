/- The abstract layer: operations whose answer is not known. -/
import Derived.Test.YtmjnpfackanhlaaAmNext
namespace Go.Proofs.Ytmjnpfackanhlaa.AM
open Go Go.RowKit
set_option linter.unusedSimpArgs false
set_option linter.unusedVariables false
variable {P : Program} {g : G} {st : St} {w : World}

theorem resOp_cap {op : Op} {x : X} (h1 : resOp P op = some (.cap x)) : ∃ (as : Array Operand) (ts : Array TypeId) (sT e : TypeId), op = .call { callee := .builtin .cap, args := as, argTypes := ts } ∧ resXs as.toList = some [x] ∧ ts[0]? = some sT ∧ P.underlying sT = some (.slice e) := by
  cases op with
  | call c =>
    obtain ⟨callee, as, ts⟩ := c
    cases callee with
    | value c =>
      simp only [resOp] at h1
      split at h1
      · simp at h1
      · simp at h1
    | invoke r m => simp [resOp] at h1
    | builtin b =>
      simp only [resOp, Option.bind_eq_some_iff] at h1
      obtain ⟨xs, hx, h1⟩ := h1
      unfold resBuiltin at h1
      split at h1
      · (repeat' split at h1) <;> simp at h1
      · (repeat' split at h1) <;> simp at h1
      · split at h1
        · simp only [Option.map_eq_some_iff] at h1; obtain ⟨_, _, h1⟩ := h1; cases h1
        · simp at h1
      · simp at h1
      · simp at h1
      · unfold resBuiltin2 at h1
        split at h1
        · rename_i e hu
          simp only [Option.bind_eq_some_iff] at hu
          obtain ⟨sT, h2, hu⟩ := hu
          rcases xs with _ | ⟨y, _ | ⟨z, _ | ⟨u, r⟩⟩⟩
          · simp at h1
          · simp only at h1
            split at h1
            · simp only [Option.map_eq_some_iff] at h1; obtain ⟨_, _, h1⟩ := h1; cases h1
            · simp only [Option.some.injEq, RO.cap.injEq] at h1; subst h1
              exact ⟨as, ts, sT, e, rfl, hx, h2, hu⟩
            · simp at h1
          · simp only at h1
            split at h1
            · simp only [Option.map_eq_some_iff] at h1; obtain ⟨_, _, h1⟩ := h1; cases h1
            · simp at h1
          · simp at h1
        · simp at h1
  | makeMap t r => cases r <;> simp [resOp] at h1
  | next it s => cases s <;> simp [resOp] at h1
  | _ =>
    first
      | (simp [resOp] at h1; done)
      | (simp only [resOp] at h1
         (repeat' split at h1) <;> first | (simp at h1; done) | (simp [Option.map_eq_some_iff] at h1; done))

theorem resOp_next {op : Op} {x : X} (h1 : resOp P op = some (.next x)) : ∃ io, op = .next io false ∧ resX io = some x := by
  cases op with
  | next it s =>
    cases s with
    | false => simp only [resOp, Option.map_eq_some_iff, RO.next.injEq] at h1; obtain ⟨y, hy, rfl⟩ := h1; exact ⟨it, rfl, hy⟩
    | true => simp [resOp] at h1
  | call c =>
    exfalso
    obtain ⟨callee, as, ts⟩ := c
    cases callee with
    | value c =>
      simp only [resOp] at h1
      split at h1 <;> simp at h1
    | invoke r m => simp [resOp] at h1
    | builtin b =>
      simp only [resOp, Option.bind_eq_some_iff] at h1
      obtain ⟨xs, hx, h1⟩ := h1
      unfold resBuiltin resBuiltin2 at h1
      (repeat' split at h1) <;> first | (simp at h1; done) | (simp only [Option.map_eq_some_iff] at h1; obtain ⟨_, _, h1⟩ := h1; cases h1)
  | makeMap t r => cases r <;> simp [resOp] at h1
  | _ =>
    exfalso
    first
      | (simp [resOp] at h1; done)
      | (simp only [resOp] at h1
         (repeat' split at h1) <;> first | (simp at h1; done) | (simp [Option.map_eq_some_iff] at h1; done))

theorem nd_ok (hs : Sim P g st w) {n : Nat} {fr : Fr} {a : Act} (hf : FrRel g n fr a.tmps) {o : Oper} {ro : RO} (hr : resOp P o.op = some ro) {K : V → St → Prop} (h : ndP ro fr st K) : ∃ v st', K v st' ∧ ODone P o a w g st' v := by
  unfold ndP at h
  split at h
  · rename_i neg x y
    -- the slot, seen as nil or not
    have go : ∀ (k : Nat) (v : V) (r : Bool), x = .s k → VRel g v (a.tmps.getD k undef) → eqsV .sl v (y.ev (upd fr k v)) = some r → ODone P o a w g st (.bool (if neg then !r else r)) := by
      intro k v r hx hv he
      subst hx
      have hf' : FrRel g n (upd fr k v) a.tmps := ⟨hf.1, fun s => by
        by_cases e : s = k
        · subst e; rw [upd_eq]; exact hv
        · rw [upd_ne _ _ e]; exact hf.2 s⟩
      refine op_ok hs hf' hr ?_
      show (eqsV .sl (upd fr k v k) (y.ev (upd fr k v))).map _ = _
      rw [upd_eq, he]; rfl
    have slot : ∀ (V0 : V), (∀ i, x.ev fr = V0 → const1 i ≠ some V0) → True := fun _ _ => trivial
    have isSlot : ∀ {A : V}, x.ev fr = A → (∃ sz sp, A = .sl .unk sz [] sp) ∨ (∃ i v o n, A = .msl i v o n) → ∃ k, x = .s k := by
      intro A hA hsh
      cases x with
      | s k => exact ⟨k, rfl⟩
      | c v =>
        exfalso
        simp only [X.ev] at hA
        subst hA
        -- a constant is neither
        have hc : ∃ (op : BinOp) (t ty : TypeId) (p q : Operand), o.op = .binOp op t p q ty ∧ resX p = some (.c v) := by
          revert hr
          cases hop : o.op with
          | binOp op t p q ty =>
            intro hr
            refine ⟨op, t, ty, p, q, rfl, ?_⟩
            simp only [resOp] at hr
            split at hr
            · rename_i x' y' d h1 h2 h3
              have hx' : ∀ {ng : Bool} {ec : EC}, some (RO.eqs ng ec x' y') = some (RO.eqs neg .sl (.c v) y) → resX p = some (.c v) := by
                intro ng ec e; simp only [Option.some.injEq, RO.eqs.injEq] at e; rw [h1, e.2.2.1]
              cases op <;> simp only at hr <;> first
                | (simp at hr; done)
                | (cases d <;> simp only at hr <;> first
                    | exact hx' hr
                    | (simp at hr; done)
                    | (split at hr
                       · split at hr
                         · exact hx' hr
                         · simp at hr
                       · simp at hr))
            · simp at hr
          | call c =>
            obtain ⟨callee, as, ts⟩ := c
            intro hr
            exfalso
            cases callee with
            | value c =>
              simp only [resOp] at hr
              split at hr <;> simp at hr
            | invoke r m => simp [resOp] at hr
            | builtin b =>
              simp only [resOp, Option.bind_eq_some_iff] at hr
              obtain ⟨xs, hx, hr⟩ := hr
              unfold resBuiltin resBuiltin2 at hr
              (repeat' split at hr) <;> first | (simp at hr; done) | (simp only [Option.map_eq_some_iff] at hr; obtain ⟨_, _, hr⟩ := hr; cases hr)
          | makeMap t r => intro hr; cases r <;> simp [resOp] at hr
          | next it s => intro hr; cases s <;> simp [resOp] at hr
          | _ =>
            intro hr
            exfalso
            first
              | (simp [resOp] at hr; done)
              | (simp only [resOp] at hr
                 (repeat' split at hr) <;> first | (simp at hr; done) | (simp [Option.map_eq_some_iff] at hr; done))
        obtain ⟨_, _, _, p, _, _, hp⟩ := hc
        cases p with
        | tmp t => simp [resX] at hp
        | func f => simp only [resX, Option.some.injEq, X.c.injEq] at hp; subst hp; rcases hsh with ⟨_, _, h⟩ | ⟨_, _, _, _, h⟩ <;> cases h
        | global g => simp [resX] at hp
        | const u =>
          simp only [resX, Option.map_eq_some_iff, X.c.injEq] at hp
          obtain ⟨v', hv', rfl⟩ := hp
          have : ∀ {u : Value} {v : V}, const1 u = some v → (∃ sz sp, v = .sl .unk sz [] sp) ∨ (∃ i v' o n, v = .msl i v' o n) → False := by
            intro u v h1 h2
            unfold const1 at h1
            split at h1 <;> first | (simp only [Option.some.injEq] at h1; subst h1; rcases h2 with ⟨_, _, h⟩ | ⟨_, _, _, _, h⟩ <;> cases h) | (simp at h1; done)
          unfold constV at hv'
          split at hv'
          · simp only [Option.map_eq_some_iff] at hv'; obtain ⟨_, _, rfl⟩ := hv'; rcases hsh with ⟨_, _, h⟩ | ⟨_, _, _, _, h⟩ <;> cases h
          · split at hv'
            · simp only [Option.some.injEq] at hv'; subst hv'; rcases hsh with ⟨_, _, h⟩ | ⟨_, _, _, _, h⟩ <;> cases h
            · simp at hv'
          · exact this hv' hsh
    split at h
    · rename_i szx sp szy hx hy
      obtain ⟨k, rfl⟩ := isSlot hx (.inl ⟨_, _, rfl⟩)
      have hne : ∀ v, y.ev (upd fr k v) = .sl .nil szy [] [] := by
        intro v
        cases y with
        | c u => exact hy
        | s m =>
          simp only [X.ev] at hx hy ⊢
          rw [upd_ne _ _ (fun e => by subst e; rw [hx] at hy; cases hy)]; exact hy
      have hrel := hf.2 k
      simp only [X.ev] at hx
      rw [hx] at hrel
      generalize hq : a.tmps.getD k undef = q at hrel
      cases hrel with
      | snil _ _ _ =>
        exact ⟨_, _, h _, go k (.sl .nil 0 [] []) true rfl (by rw [hq]; exact .snil _ _ (.inl rfl)) (by rw [hne]; rfl)⟩
      | semp _ _ a cap hk hk0 =>
        exact ⟨_, _, h _, go k (.sl .nn 1 [] []) false rfl (by rw [hq]; exact .semp .nn 1 a cap (by simp) (by simp)) (by rw [hne]; rfl)⟩
      | sl _ _ _ _ b o cap vals hk hk0 h0 hc he hi hr' =>
        exact ⟨_, _, h _, go k (.sl .nn 1 [] []) false rfl (by
          rw [hq]; exact .sl .nn 1 [] [] b o cap (fun _ _ => undef) (by simp) (by simp) (by simp) (by simp) (fun i hi => by simp at hi) (fun i j hi => by simp at hi) (fun i j hi => by simp at hi)) (by rw [hne]; rfl)⟩
    · rename_i i1 v1 o1 szy hx hy
      obtain ⟨k, rfl⟩ := isSlot hx (.inr ⟨_, _, _, _, rfl⟩)
      have hne : ∀ v, y.ev (upd fr k v) = .sl .nil szy [] [] := by
        intro v
        cases y with
        | c u => exact hy
        | s m =>
          simp only [X.ev] at hx hy ⊢
          rw [upd_ne _ _ (fun e => by subst e; rw [hx] at hy; cases hy)]; exact hy
      have hrel := hf.2 k
      simp only [X.ev] at hx
      rw [hx] at hrel
      generalize hq : a.tmps.getD k undef = q at hrel
      cases hrel with
      | mnil _ _ L hL hb =>
        exact ⟨_, _, h _, go k (.sl .nil 0 [] []) true rfl (by rw [hq]; exact .snil _ _ (.inl rfl)) (by rw [hne]; rfl)⟩
      | msl _ _ _ _ b aa L hL hb hT ha hp =>
        exact ⟨_, _, h _, go k (.sl .nn 1 [] []) false rfl (by
          have := VRel.sl (g := g) .nn 1 [] [] aa.block aa.off (L.T - o1) (fun _ _ => undef) (by simp) (by simp) (by simp) (by simp) (fun i hi => by simp at hi) (fun i j hi => by simp at hi) (fun i j hi => by simp at hi)
          rw [hq]
          cases aa; simp only at hp this; subst hp; exact this) (by rw [hne]; rfl)⟩
    · exact h.elim
  · rename_i x
    obtain ⟨as, ts, sT, e, hop, hx, h2, hu⟩ := resOp_cap hr
    have hR := resXs_rels hf hx
    obtain ⟨o1, ho1, hX⟩ : ∃ o1, as = #[o1] ∧ VRel g (x.ev fr) (a.eval o1) := by
      obtain ⟨l⟩ := as
      have hl := hR.1
      have hl : l.length = 1 := by simpa using hl.symm
      obtain ⟨o1, rfl⟩ := List.length_eq_one_iff.1 hl
      exact ⟨o1, rfl, by simpa using hR.2 0 (by simp)⟩
    have run : ∀ (p : Option Addr) (l c : Nat), a.eval o1 = .slice p l c → ODone P o a w g st (.int .i64 c) := by
      intro p l c hv
      refine ⟨.value (.int .i64 c), w, g, _, ?_, .inl rfl, .refl g, rfl, hs, .int _ _⟩
      simp only [execOp, hop, resolve, Sem.run_bind, Sem.run_pure, Result.andThen_ok, invoke]
      subst ho1
      simp [builtin, Builtin.cap_, h2, run_underlying hu, hv, goInt]
    split at h
    · rename_i k sz es sp hx'
      rw [hx'] at hX
      generalize hq : a.eval o1 = q at hX
      cases hX with
      | snil => exact ⟨_, _, h 0 (by simp), run _ _ _ hq⟩
      | semp _ _ a cap hk hk0 => exact ⟨_, _, h cap (by simp), run _ _ _ hq⟩
      | sl _ _ _ _ b o' cap vals hk hk0 h0 hc he hi hr' => exact ⟨_, _, h cap (by simpa using hc), run _ _ _ hq⟩
    · rename_i id ver off n' hx'
      split at h
      · rename_i sz es ho
        rw [hx'] at hX
        obtain ⟨L, hL, hm⟩ := hs.obj _ _ _ (get_objs ho)
        generalize hq : a.eval o1 = q at hX
        cases hX with
        | mnil _ _ L' hL' hb =>
          cases hL.symm.trans hL'
          have h5 := hm.2.2.2.2
          rw [hb] at h5
          have h5 : L.T = 0 := h5
          have h4 := hm.2.2.2.1
          exact ⟨_, _, h 0 (by omega) (by omega), run _ _ _ hq⟩
        | msl _ _ _ _ b aa L' hL' hb hT ha hp =>
          cases hL.symm.trans hL'
          have h4 := hm.2.2.2.1
          exact ⟨_, _, h (L.T - off) (by omega) (by omega), run _ _ _ hq⟩
      · exact h.elim
    · exact h.elim
  · rename_i it
    obtain ⟨io, hop, hio⟩ := resOp_next hr
    have hX := resX_rel hf hio
    split at h
    · rename_i id ver hx
      rw [hx] at hX
      split at h
      · rename_i mid mver ep seen ho
        split at h
        · rename_i ep' es hom
          obtain ⟨rfl, h1, h2⟩ := h
          obtain ⟨v, st', hk, hd⟩ := next_ok (ty := o.type) hs ho hom hX h1 h2
          exact ⟨v, st', hk, .of (by simp [execOp, hop]) hd⟩
        · exact h.elim
      · exact h.elim
    · exact h.elim
  · exact h.elim

end Go.Proofs.Ytmjnpfackanhlaa.AM
