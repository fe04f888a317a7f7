/- The abstract layer: regions that draw their order. -/
import Derived.Test.YtmjnpfackanhlaaAmWp2
import Derived.Test.YtmjnpfackanhlaaAmFrz2
namespace Go.Proofs.Ytmjnpfackanhlaa.AM
open Go Go.RowKit
set_option linter.unusedSimpArgs false
set_option linter.unusedVariables false
variable {P : Program}

theorem map_ev_congr {xs : List X} {fr fr' : Fr} (h : ∀ x ∈ xs, x.ev fr = x.ev fr') : xs.map (·.ev fr) = xs.map (·.ev fr') := List.map_congr_left h

theorem opt_ev_congr {x : Option X} {fr fr' : Fr} (h : ∀ y ∈ x.toList, y.ev fr = y.ev fr') : x.map (·.ev fr) = x.map (·.ev fr') := by
 cases x with
 | none => rfl
 | some y => simp [h y (by simp)]

theorem foldlM_congr {α β : Type} {f g : β → α → Option β} : ∀ (l : List α) (b : β), (∀ b, ∀ a ∈ l, f b a = g b a) → l.foldlM f b = l.foldlM g b
 | [], b, h => rfl
 | a :: l, b, h => by
  simp only [List.foldlM_cons, h b a (by simp)]
  cases g b a with
  | none => rfl
  | some c => exact foldlM_congr l c (fun b a ha => h b a (by simp [ha]))

theorem aop_congr {ro : RO} {fr fr' : Fr} (h : ∀ x ∈ ro.xs, x.ev fr = x.ev fr') (st : St) : aop ro fr st = aop ro fr' st := by
 cases ro with
 | build z ps =>
  simp only [aop]
  rw [foldlM_congr ps z (fun b a ha => by rw [h a.2.2 (by simp only [RO.xs]; exact List.mem_map_of_mem (f := fun p : Nat × Nat × X => p.2.2) ha)])]
 | mkSl a b z ps =>
  simp only [aop]
  rw [foldlM_congr ps _ (fun b a ha => by rw [h a.2 (by simp only [RO.xs]; exact List.mem_map_of_mem (f := fun p : Nat × X => p.2) ha)])]
 | mkfn f a b =>
  simp only [aop]
  rw [map_ev_congr (xs := a) (fun x hx => h x (by simp [RO.xs, hx])), map_ev_congr (xs := b) (fun x hx => h x (by simp [RO.xs, hx]))]
 | minmax m x xs =>
  simp only [aop]
  rw [h x (by simp [RO.xs]), map_ev_congr (xs := xs) (fun x hx => h x (by simp [RO.xs, hx]))]
 | slice sz x lo hi mx =>
  simp only [aop]
  rw [h x (by simp [RO.xs]), opt_ev_congr (x := lo) (fun y hy => h y (by simp [RO.xs] at hy ⊢; simp [hy])), opt_ev_congr (x := hi) (fun y hy => h y (by simp [RO.xs] at hy ⊢; simp [hy])), opt_ev_congr (x := mx) (fun y hy => h y (by simp [RO.xs] at hy ⊢; simp [hy]))]
 | sliceS x lo hi =>
  simp only [aop]
  rw [h x (by simp [RO.xs]), opt_ev_congr (x := lo) (fun y hy => h y (by simp [RO.xs] at hy ⊢; simp [hy])), opt_ev_congr (x := hi) (fun y hy => h y (by simp [RO.xs] at hy ⊢; simp [hy]))]
 | _ =>
  simp only [RO.xs, List.mem_cons, forall_eq_or_imp, List.not_mem_nil, false_imp_iff, implies_true, and_true] at h
  simp only [aop, h]

theorem aexec_congr {ro : RO} {fr fr' : Fr} (h : ∀ x ∈ ro.xs, x.ev fr = x.ev fr') (st : St) (K : V → St → Prop) : aexec P ro fr st K ↔ aexec P ro fr' st K := by
 by_cases hc : ∃ f args, ro = .call f args
 ·obtain ⟨f, args, rfl⟩ := hc
  simp only [aexec]
  rw [h f (by simp [RO.xs]), map_ev_congr (xs := args) (fun x hx => h x (by simp [RO.xs, hx]))]
 ·rw [aexec_eq hc, aexec_eq hc, aop_congr h]

theorem aop_quiet {ro : RO} (hq : ro.quiet = true) {fr : Fr} {st st' : St} {v : V} (h : aop ro fr st = some (v, st')) : st' = st := by
  cases ro <;> first
    | (simp [RO.quiet] at hq; done)
    | (simp only [aop] at h
       (repeat' split at h) <;> first
         | (simp only [Option.map_eq_some_iff, Prod.mk.injEq, Option.some.injEq, Option.bind_eq_some_iff] at h; first | exact h.2.symm | (obtain ⟨_, _, _, rfl⟩ := h; rfl) | (obtain ⟨_, _, h⟩ := h; simp at h; exact h.2.symm) | cases h)
         | (cases h; done) | (simp at h; done) | (simp at h; exact h.2.symm))

theorem aexec_quiet {ro : RO} (hq : ro.quiet = true) {fr : Fr} {st : St} {K : V → St → Prop} (h : aexec P ro fr st K) : ∃ v, aop ro fr st = some (v, st) ∧ K v st := by
 rcases aexec_op h with ⟨f, args, rfl, _⟩ | ⟨v, st', h1, h2⟩
 ·simp [RO.quiet] at hq
 ·have := aop_quiet hq h1; subst this; exact ⟨v, h1, h2⟩

/-! ### what the check says -/
theorem pres_spec : ∀ (r acc pref : List (List Nat)), acc.length = pref.length →
    (∀ j, ∀ i ∈ acc.getD j [], ∀ L : Nat → Prop, (∀ k, L k → ∀ e ∈ (pref ++ r).getD k [], L e) → (∀ e ∈ (pref ++ r).getD j [], L e) → L i) →
    ∀ j, ∀ i ∈ (pres r acc).getD j [], ∀ L : Nat → Prop, (∀ k, L k → ∀ e ∈ (pref ++ r).getD k [], L e) → (∀ e ∈ (pref ++ r).getD j [], L e) → L i
  | [], acc, pref, hl, h => by simpa [pres] using h
  | ds :: r, acc, pref, hl, h => by
    have e : (pref ++ [ds]) ++ r = pref ++ ds :: r := by simp
    have := pres_spec r (acc ++ [(ds ++ ds.flatMap fun e => acc.getD e []).eraseDups]) (pref ++ [ds]) (by simp [hl]) (by
      rw [e]
      intro j i hi L hL hj
      rcases Nat.lt_trichotomy j acc.length with hlt | heq | hgt
      · have : (acc ++ [(ds ++ ds.flatMap fun e => acc.getD e []).eraseDups]).getD j [] = acc.getD j [] := by simp [List.getD, List.getElem?_append_left hlt]
        rw [this] at hi; exact h j i hi L hL hj
      · have h1 : (acc ++ [(ds ++ ds.flatMap fun e => acc.getD e []).eraseDups]).getD j [] = (ds ++ ds.flatMap fun e => acc.getD e []).eraseDups := by simp [List.getD, heq]
        have h2 : (pref ++ ds :: r).getD j [] = ds := by simp [List.getD, heq, hl]
        rw [h1, List.mem_eraseDups, List.mem_append, List.mem_flatMap] at hi
        rw [h2] at hj
        rcases hi with hi | ⟨e, he, hi⟩
        · exact hj i hi
        · exact h e i hi L hL (fun e' he' => hL e (hj e he) e' he')
      · have : (acc ++ [(ds ++ ds.flatMap fun e => acc.getD e []).eraseDups]).getD j [] = [] := by rw [List.getD_eq_getElem?_getD, List.getElem?_eq_none (by simp; omega)]; rfl
        rw [this] at hi; cases hi)
    rw [e] at this
    exact this

theorem resOps_spec {n : Nat} {all : List Oper} : ∀ {l : List Oper} {rl : List ROp}, resOps P n all l = some rl → rl.length = l.length ∧
  ∀ i o, l[i]? = some o → resOp P o.op = some (rl.getD i default).rhs ∧ resGuard all o.guard = some (rl.getD i default).guard ∧ o.dst = (rl.getD i default).dst ∧ o.dst.all (fun d => d < n) = true ∧ (rl.getD i default).guard.all (fun p => p.1 < n) = true
 | [], rl, h => by simp [resOps] at h; subst h; simp
 | o :: r, rl, h => by
  simp only [resOps] at h
  split at h
  ·rename_i x g l h1 h2 h3
   split at h
   ·rename_i hb
    simp only [Option.some.injEq] at h; subst h
    simp only [Bool.and_eq_true] at hb
    obtain ⟨hl, hs⟩ := resOps_spec h3
    refine ⟨by simp [hl], fun i o' hi => ?_⟩
    cases i with
    | zero => simp at hi; subst hi; exact ⟨h1, h2, rfl, hb.1, hb.2⟩
    | succ i =>
     have := hs i o' (by simpa using hi)
     simpa [List.getD] using this
   ·simp at h
  ·simp at h

theorem frz_getD (l : List ROp) (i : Nat) : (l.map ROp.frz).getD i default = (l.getD i default).frz := by
 simp only [List.getD_eq_getElem?_getD, List.getElem?_map]
 cases l[i]? with
 | none => rfl
 | some o => rfl
theorem resOps_specF {n : Nat} {all l : List Oper} {rl rl' : List ROp} (h : resOps P n all l = some rl) (h' : rl' = rl ∨ rl' = rl.map ROp.frz) : rl'.length = l.length ∧
    ∀ i o, l[i]? = some o → ResF P o.op (rl'.getD i default).rhs ∧ resGuard all o.guard = some (rl'.getD i default).guard ∧ o.dst = (rl'.getD i default).dst ∧ o.dst.all (fun d => d < n) = true ∧ (rl'.getD i default).guard.all (fun p => p.1 < n) = true := by
  obtain ⟨h1, h2⟩ := resOps_spec h
  rcases h' with rfl | rfl
  · exact ⟨h1, fun i o hi => let ⟨a, b, c, d, e⟩ := h2 i o hi; ⟨.inl a, b, c, d, e⟩⟩
  · refine ⟨by simpa using h1, fun i o hi => ?_⟩
    obtain ⟨a, b, c, d, e⟩ := h2 i o hi
    rw [frz_getD]
    exact ⟨.inr ⟨_, a, rfl⟩, b, c, d, e⟩

theorem guardP_elim {gd : Option (Nat × Bool)} {fr : Fr} {K : Bool → Prop} (h : guardP gd fr K) : ∃ b, ∀ K' : Bool → Prop, (guardP gd fr K' ↔ K' b) := by
 cases gd with
 | none => exact ⟨true, fun K' => Iff.rfl⟩
 | some p =>
  obtain ⟨d, want⟩ := p
  simp only [guardP] at h ⊢
  split at h
  ·rename_i b e; exact ⟨b == want, fun K' => by simp [e]⟩
  ·rename_i e; exact ⟨false, fun K' => by simp [e]⟩
  ·exact h.elim

theorem guardP_congr {o : ROp} {fr fr' : Fr} (h : ∀ s ∈ o.reads, fr s = fr' s) (K : Bool → Prop) : guardP o.guard fr K ↔ guardP o.guard fr' K := by
 unfold ROp.reads at h
 cases hg : o.guard with
 | none => rfl
 | some p =>
  obtain ⟨d, want⟩ := p
  rw [hg] at h
  have := h d (by simp)
  simp only [guardP, this]

theorem reads_ev {o : ROp} {fr fr' : Fr} (h : ∀ s ∈ o.reads, fr s = fr' s) : ∀ x ∈ o.rhs.xs, x.ev fr = x.ev fr' := by
 intro x hx
 cases x with
 | s d => exact h d (List.mem_append_left _ (List.mem_flatMap.2 ⟨_, hx, by simp [X.slot]⟩))
 | c v => rfl

theorem reP_congr {o : ROp} {fr fr' : Fr} {st : St} (h : ∀ s ∈ o.reads, fr s = fr' s) (hd : ∀ d, o.dst = some d → fr d = fr' d) (hr : reP o fr st) : reP o fr' st := by
 have dd : ∀ v, dstIs fr o.dst v → dstIs fr' o.dst v := by
  intro v
  cases ho : o.dst with
  | none => exact id
  | some d => simp only [dstIs, hd d ho]; exact id
 unfold reP at *
 rw [guardP_congr h] at hr
 refine guardP_mono (fun b hb => ?_) hr
 cases b
 ·exact dd _ hb
 ·simp only [if_true] at hb ⊢
  rw [aop_congr (reads_ev h)] at hb
  exact opP_mono (fun v s hs => ⟨hs.1, dd _ hs.2⟩) hb

def mdst (rops : List ROp) (ms : List Nat) (s : Nat) : Bool := ms.any fun i => (rops.getD i default).dst == some s

def lag (rops : List ROp) (ms : List Nat) (listed : Array Bool) (done : List Nat) (fr : Fr) : Fr :=
 fun s => if mdst rops ms s || done.any (fun i => !(listed.getD i false) && (rops.getD i default).dst == some s) then .junk else fr s

theorem lag_eq {rops : List ROp} {ms : List Nat} {listed : Array Bool} {done : List Nat} {fr : Fr} {s : Nat} (hm : mdst rops ms s = false) (h : ∀ i ∈ done, listed.getD i false = false → (rops.getD i default).dst ≠ some s) : lag rops ms listed done fr s = fr s := by
 unfold lag
 rw [if_neg]
 simp only [hm, Bool.false_or, List.any_eq_true, Bool.and_eq_true, Bool.not_eq_true', beq_iff_eq, not_exists, not_and]
 exact h

theorem lag_junk {rops : List ROp} {ms : List Nat} {listed : Array Bool} {done : List Nat} {fr : Fr} {s i : Nat} (h1 : i ∈ done) (h2 : listed.getD i false = false) (h3 : (rops.getD i default).dst = some s) : lag rops ms listed done fr s = .junk := by
 unfold lag
 rw [if_pos]
 simp only [Bool.or_eq_true, List.any_eq_true, Bool.and_eq_true, Bool.not_eq_true', beq_iff_eq]
 exact .inr ⟨i, h1, h2, h3⟩

theorem lag_mdst {rops : List ROp} {ms : List Nat} {listed : Array Bool} {done : List Nat} {fr : Fr} {s : Nat} (h : mdst rops ms s = true) : lag rops ms listed done fr s = .junk := by
 unfold lag
 rw [if_pos]
 simp [h]

theorem lag_or (rops : List ROp) (ms : List Nat) (listed : Array Bool) (done : List Nat) (fr : Fr) (s : Nat) : lag rops ms listed done fr s = .junk ∨ (lag rops ms listed done fr s = fr s ∧ mdst rops ms s = false ∧ ∀ i ∈ done, listed.getD i false = false → (rops.getD i default).dst ≠ some s) := by
 by_cases h : ∃ i ∈ done, listed.getD i false = false ∧ (rops.getD i default).dst = some s
 ·obtain ⟨i, h1, h2, h3⟩ := h; exact .inl (lag_junk h1 h2 h3)
 ·have : ∀ i ∈ done, listed.getD i false = false → (rops.getD i default).dst ≠ some s := fun i h1 h2 h3 => h ⟨i, h1, h2, h3⟩
  cases hm : mdst rops ms s with
  | true => exact .inl (lag_mdst hm)
  | false => exact .inr ⟨lag_eq hm this, rfl, this⟩

def readsOk (N : Nat) (rops : List ROp) (pre : List (List Nat)) (acts : List Nat) (j : Nat) : Prop :=
 ∀ i, i < N → ∀ s, (rops.getD i default).dst = some s → s ∈ (rops.getD j default).reads → i ∈ acts ∨ i ∈ pre.getD j []

theorem schOk_cons {N : Nat} {dirs pre : List (List Nat)} {rops : List ROp} {ms acts done : List Nat} {j : Nat} {act : Bool} {ws : List Nat} {r : Sch} (h : schOk N dirs pre rops ms acts done ((j, act, ws) :: r) = true) :
    (∀ e ∈ dirs.getD j [], e ∈ done ∨ e ∈ ms) ∧ j ∉ done ∧ j ∉ ms ∧ j < N ∧ (act = true ↔ j ∈ acts) ∧ readsOk N rops pre acts j ∧
    (act = true → (∀ k, k < N → k ≠ j → k ∉ ms → k ∉ done → ∃ e ∈ dirs.getD k [], e ∉ done ∧ e ∉ ms) ∧ ∀ i ∈ done, i ∈ acts ∨ i ∈ pre.getD j [] ∨ i ∈ ws) ∧
    (act = false → (rops.getD j default).rhs.quiet = true ∧ ws = [] ∧ ∀ d, (rops.getD j default).dst = some d → (∀ i ∈ j :: done, d ∉ (rops.getD i default).reads) ∧ ∀ i ∈ done, (rops.getD i default).dst ≠ some d) ∧
    schOk N dirs pre rops ms acts (j :: done) r = true := by
  simp only [schOk, Bool.and_eq_true] at h
  obtain ⟨⟨⟨⟨⟨⟨⟨h1, h2⟩, h2'⟩, h3⟩, h4⟩, h5⟩, h6⟩, h7⟩ := h
  refine ⟨by simpa [List.all_eq_true] using h1, by simpa using h2, by simpa using h2', by simpa using h3, ?_, ?_, ?_, ?_, h7⟩
  · have : act = acts.contains j := by simpa using h4
    rw [this]; simp
  · intro i hi s hs hr
    have := List.all_eq_true.1 h5 i (List.mem_range.2 hi)
    rw [hs] at this
    simp only [Bool.or_eq_true, Bool.not_eq_true', List.contains_eq_mem, decide_eq_false_iff_not, decide_eq_true_eq] at this
    rcases this with (h | h) | h
    · exact absurd hr h
    · exact .inl h
    · exact .inr h
  · intro ha
    rw [ha] at h6
    simp only [if_true, Bool.and_eq_true] at h6
    refine ⟨fun k hk hne hnm hnd => ?_, fun i hi => ?_⟩
    · have := List.all_eq_true.1 h6.1 k (List.mem_range.2 hk)
      simp only [Bool.or_eq_true, Bool.and_eq_true, beq_iff_eq, List.contains_eq_mem, decide_eq_true_eq, List.any_eq_true, Bool.not_eq_true', decide_eq_false_iff_not] at this
      rcases this with ((h | h) | h) | h
      · exact absurd h hne
      · exact absurd h hnm
      · exact absurd h hnd
      · exact h
    · have := List.all_eq_true.1 h6.2 i hi
      simp only [Bool.or_eq_true, List.contains_eq_mem, decide_eq_true_eq] at this
      rcases this with (h | h) | h
      · exact .inl h
      · exact .inr (.inl h)
      · exact .inr (.inr h)
  · intro ha
    rw [ha] at h6
    simp only [Bool.false_eq_true, if_false, Bool.and_eq_true] at h6
    refine ⟨h6.1.1, by simpa using h6.1.2, fun d hd => ?_⟩
    have h8 := h6.2
    unfold freshDst at h8
    rw [hd] at h8
    simp only [Bool.and_eq_true, List.all_eq_true, Bool.not_eq_true', List.contains_eq_mem, decide_eq_false_iff_not, bne_iff_ne] at h8
    exact h8

structure MOk (N : Nat) (pre : List (List Nat)) (rops : List ROp) (acts : List Nat) (mks : List (Nat × Option Nat)) : Prop where
 nd : (mks.map (·.1)).Nodup
 u1 : ∀ m ∈ mks, ∀ m' ∈ mks, m.1 = m'.1 → m.2 = m'.2
 u2 : ∀ m ∈ mks, ∀ m' ∈ mks, ∀ k, m.2 = some k → m'.2 = some k → m.1 = m'.1
 u3 : ∀ m ∈ mks, ∀ m' ∈ mks, m.2 ≠ some m'.1
 alloc : ∀ m ∈ mks, m.1 < N ∧ m.1 ∉ acts ∧ ∃ d z, rops.getD m.1 default = ⟨some d, none, .alloc z⟩ ∧ z.isEmpty = false ∧
  (∀ i, i < N → (rops.getD i default).dst = some d → i = m.1) ∧ (∀ i, i < N → d ∈ (rops.getD i default).reads → m.2 = some i) ∧
  ∀ k, m.2 = some k → k < N ∧ k ∉ acts ∧ (∀ a ∈ acts, a ∈ pre.getD k []) ∧ m.1 ∈ pre.getD k [] ∧
   ∃ x, rops.getD k default = ⟨none, none, .st z.length (.s d) x⟩ ∧ d ∉ x.slot ∧ ∀ i, i < N → ∀ s ∈ x.slot, (rops.getD i default).dst = some s → i ∈ pre.getD k []

theorem mksOk_spec {N : Nat} {pre : List (List Nat)} {rops : List ROp} {acts : List Nat} {mks : List (Nat × Option Nat)} (h : mksOk N pre rops acts mks = true) : MOk N pre rops acts mks := by
 simp only [mksOk, Bool.and_eq_true, decide_eq_true_eq] at h
 obtain ⟨⟨hnd, hu⟩, h⟩ := h
 have hu' : ∀ m ∈ mks, ∀ m' ∈ mks, (m.1 ≠ m'.1 ∨ m.2 = m'.2) ∧ (m.2 = none ∨ m.2 ≠ m'.2 ∨ m.1 = m'.1) ∧ m.2 ≠ some m'.1 := by
  intro m hm m' hm'
  have := List.all_eq_true.1 (List.all_eq_true.1 hu m hm) m' hm'
  simp only [Bool.and_eq_true, Bool.or_eq_true, bne_iff_ne, beq_iff_eq] at this
  exact ⟨this.1.1, by rcases this.1.2 with (h | h) | h; exact .inl h; exact .inr (.inl h); exact .inr (.inr h), this.2⟩
 refine ⟨hnd, fun m hm m' hm' e => (hu' m hm m' hm').1.resolve_left (fun h => h e), fun m hm m' hm' k h1 h2 => ?_, fun m hm m' hm' => (hu' m hm m' hm').2.2, fun m hm => ?_⟩
 ·rcases (hu' m hm m' hm').2.1 with h | h | h
  ·rw [h] at h1; cases h1
  ·exact absurd (h1.trans h2.symm) h
  ·exact h
 have h := List.all_eq_true.1 h m hm
 simp only [Bool.and_eq_true, decide_eq_true_eq, Bool.not_eq_true', List.contains_eq_mem, decide_eq_false_iff_not] at h
 obtain ⟨⟨h1, h2⟩, h⟩ := h
 refine ⟨h1, h2, ?_⟩
 split at h
 ·rename_i d z hop
  simp only [Bool.and_eq_true, Bool.not_eq_true'] at h
  obtain ⟨⟨h3, h4⟩, h5⟩ := h
  refine ⟨d, z, hop, h3, fun i hi hd => ?_, fun i hi hd => ?_, fun k hk => ?_⟩
  ·have := List.all_eq_true.1 h4 i (List.mem_range.2 hi)
   simp only [Bool.and_eq_true, Bool.or_eq_true, beq_iff_eq, bne_iff_ne] at this
   rcases this.1 with h | h
   ·exact h
   ·exact absurd hd h
  ·have := List.all_eq_true.1 h4 i (List.mem_range.2 hi)
   simp only [Bool.and_eq_true, Bool.or_eq_true, beq_iff_eq, Bool.not_eq_true', List.contains_eq_mem, decide_eq_false_iff_not] at this
   rcases this.2 with h | h
   ·exact h
   ·exact absurd hd h
  ·rw [hk] at h5
   simp only [Bool.and_eq_true, decide_eq_true_eq, Bool.not_eq_true', List.contains_eq_mem, decide_eq_false_iff_not] at h5
   obtain ⟨⟨⟨⟨h6, h6'⟩, h7⟩, h8⟩, h9⟩ := h5
   refine ⟨h6, h6', fun a ha => ?_, h8, ?_⟩
   ·have := List.all_eq_true.1 h7 a ha
    simpa using this
   ·split at h9
    ·rename_i n e x hst
     simp only [Bool.and_eq_true, beq_iff_eq, Bool.not_eq_true', List.contains_eq_mem, decide_eq_false_iff_not] at h9
     obtain ⟨⟨⟨rfl, rfl⟩, h10⟩, h11⟩ := h9
     refine ⟨x, hst, h10, fun i hi s hs hd => ?_⟩
     have := List.all_eq_true.1 h11 i (List.mem_range.2 hi)
     rw [hd] at this
     simp only [Bool.or_eq_true, Bool.not_eq_true', List.contains_eq_mem, decide_eq_false_iff_not, decide_eq_true_eq] at this
     rcases this with h | h
     ·exact absurd hs h
     ·exact h
    ·simp at h9
 ·simp at h

end Go.Proofs.Ytmjnpfackanhlaa.AM
