/- The abstract layer: rounds, functions. -/
import Derived.Test.YtmjnpfackanhlaaAmWp3
import Derived.RangeFuncRecord
namespace Go.Proofs.Ytmjnpfackanhlaa.AM
open Go Go.RowKit
set_option linter.unusedSimpArgs false
set_option linter.unusedVariables false
variable {P : Program}

def St.setO (st : St) (id ver : Nat) (o : Obj) : St := ⟨st.objs.set id (some (ver, o)), st.nv⟩

theorem Sim.reloop {g : G} {st : St} {w : World} (h : Sim P g st w) {id ver : Nat} {fr : Fr} {n : Nat} {ps : List Nat} {assign body : RCode} {s : LSt}
  (ho : st.get id ver = some (.loop fr n ps assign body s)) : ∃ b lp L, g.loc ver = some L ∧ L.blk = some b ∧ w.heap[b]? = some (.loop lp) ∧ s.rel lp.state lp.pending ∧ FrRel g n fr lp.tmps ∧ lp.params.toList = ps ∧ (∀ p ∈ ps, p < n) ∧
   resCode P n lp.assign = some assign ∧ resCode P n lp.body = some body ∧
   ∀ (s' : LSt) (ls : LoopState) (pe : Option Code), s'.rel ls pe → Sim P g (st.setO id ver (.loop fr n ps assign body s')) (w.putObj b (.loop { lp with state := ls, pending := pe })) := by
 have ho := get_objs ho
 obtain ⟨L, hL, b, lp, hb, hw, hf, hp, hpn, ha, hbd, hs⟩ := h.obj _ _ _ ho
 refine ⟨b, lp, L, hL, hb, hw, hs, hf, hp, hpn, ha, hbd, fun s' ls pe hr => ?_⟩
 have hlt := (Array.getElem?_eq_some_iff.1 hw).1
 have := h.turn (g' := g) (ver' := ver) (o' := .loop fr n ps assign body s') (L' := L) (w' := w.putObj b (.loop { lp with state := ls, pending := pe })) ho hL (.refl g) rfl rfl rfl rfl h.fresh
  ⟨rfl, rfl, rfl, by simp, fun k hk hne => World.putObj_heap_other (fun e => hne (by rw [hb, e]))⟩ hL (fun b' hb' => .inl hb')
  ⟨b, { lp with state := ls, pending := pe }, hb, World.putObj_heap_same hlt, hf, hp, hpn, ha, hbd, hr⟩
 unfold St.setO; rw [h.nv]; exact this

def updl (fr : Fr) : List Nat → List V → Fr
 | p :: ps, v :: vs => updl (upd fr p v) ps vs
 | _, _ => fr

theorem FrRel.updl {g : G} {n : Nat} : ∀ (ps : List Nat) (vs : List V) (xs : List Value) {fr : Fr} {t : Array Value}, FrRel g n fr t → (∀ p ∈ ps, p < n) → vs.length = xs.length → (∀ i, i < vs.length → VRel g (vs.getD i .junk) (xs.getD i undef)) →
  FrRel g n (updl fr ps vs) ((ps.zip xs).foldl (fun t p => t.setIfInBounds p.1 p.2) t)
 | [], vs, xs, fr, t, h, hp, hl, hv => by simpa [AM.updl] using h
 | p :: ps, [], xs, fr, t, h, hp, hl, hv => by
  have : xs = [] := by cases xs with | nil => rfl | cons x xs => simp at hl
  subst this; simpa [AM.updl] using h
 | p :: ps, v :: vs, [], fr, t, h, hp, hl, hv => by simp at hl
 | p :: ps, v :: vs, x :: xs, fr, t, h, hp, hl, hv => by
  simp only [AM.updl, List.zip_cons_cons, List.foldl_cons]
  refine FrRel.updl ps vs xs (h.upd p (hp p (by simp)) ?_) (fun q hq => hp q (by simp [hq])) (by simpa using hl) (fun i hi => ?_)
  ·have := hv 0 (by simp); simpa using this
  ·have := hv (i + 1) (by simpa using hi); simpa using this

def yldQ (id ver : Nat) (fr0 : Fr) (n : Nat) (ps : List Nat) (assign body : RCode) (K : V → St → Prop) : APost
 | .normal, _, st => st.get id ver = some (.loop fr0 n ps assign body .busy) ∧ K (.bool true) (st.setO id ver (.loop fr0 n ps assign body .ready))
 | .ret, _, st => st.get id ver = some (.loop fr0 n ps assign body .busy) ∧ K (.bool false) (st.setO id ver (.loop fr0 n ps assign body (.done .ret)))
 | .exit k, _, st => st.get id ver = some (.loop fr0 n ps assign body .busy) ∧ K (.bool false) (st.setO id ver (.loop fr0 n ps assign body (.done (.exit k))))

def noQ : APost := fun _ _ _ => False

def G.undfr (g : G) (l : List (Nat × Go.Obj)) : G := { g with dfr := l }
theorem Sim.undfr {g : G} {st : St} {w : World} (h : Sim P g st w) {l D0 : List (Nat × Go.Obj)} (hd : g.dfr = l ++ D0) : g.le (g.undfr D0) ∧ Sim P (g.undfr D0) st w := by
 have hle : g.le (g.undfr D0) := ⟨rfl, rfl, Nat.le_refl _, fun _ _ h => h, fun _ _ => rfl, fun _ _ => rfl, fun _ _ _ h => h, fun _ _ _ _ h => h⟩
 have hsub : ∀ D ∈ D0, D ∈ g.dfr := fun D hD => by rw [hd]; exact List.mem_append_right _ hD
 exact ⟨hle, h.nv, h.B, h.below, h.imm, h.fresh, fun id ver o ho => let ⟨L, hL, h2⟩ := h.obj _ _ _ ho; ⟨L, hL, h2.mono hle (fun _ _ => rfl)⟩,
  fun id ver o L b ho hL hb => let q := h.own _ _ _ _ _ ho hL hb; ⟨q.1, q.2.1, q.2.2.1, fun hm => q.2.2.2 (by obtain ⟨D, hD, e⟩ := List.mem_map.1 hm; exact List.mem_map.2 ⟨D, hsub _ hD, e⟩)⟩, h.dis,
  fun D hD => h.dfr D (hsub _ hD), by have := h.dnd; rw [hd, List.map_append] at this; exact (List.nodup_append.1 this).2.1⟩

/-! ### functions -/
def enterFr (args : List V) : Fr := fun i => args.getD i .junk

theorem enter_fr {g : G} {n : Nat} {args : List V} {Args : Array Value} (h : VRels g args Args) (hn : args.length ≤ n) : FrRel g n (enterFr args) (Args ++ Array.replicate (n - Args.size) undef) := by
  have := h.1
  refine ⟨by simp; omega, fun s => ?_⟩
  by_cases hs : s < args.length
  · have q2 : (Args ++ Array.replicate (n - Args.size) undef).getD s undef = Args.getD s undef := by simp only [Array.getD_eq_getD_getElem?]; rw [Array.getElem?_append_left (by omega)]
    rw [q2]; exact h.2 s hs
  · have : enterFr args s = .junk := by simp [enterFr, List.getD, List.getElem?_eq_none (Nat.le_of_not_lt hs)]
    rw [this]; exact .junk _

theorem Sim.took {g : G} {st : St} {w : World} (h : Sim P g st w) {D : Nat} {l : List (Nat × Go.Obj)} (hd : g.dfr = dmk D :: l) : w.heap[D]? = some (.deferred (some [])) ∧ g.le (g.undfr l) ∧ Sim P (g.undfr l) st (w.putObj D (.deferred none)) := by
 have hD := h.dfr (dmk D) (by rw [hd]; simp)
 simp only [dmk] at hD
 obtain ⟨hle, hs⟩ := h.undfr (l := [dmk D]) (D0 := l) hd
 have hnd : D ∉ l.map (·.1) := by have := h.dnd; rw [hd] at this; exact (List.nodup_cons.1 this).1
 have hsame : ∀ k, k ≠ D → (w.putObj D (.deferred none)).heap[k]? = w.heap[k]? := fun k hk => World.putObj_heap_other hk
 refine ⟨hD.2.1, hle, hs.nv, by rw [World.putObj_size]; exact hs.B, ⟨hs.below.os, hs.below.tape, hs.below.output, by rw [World.putObj_size]; exact hs.below.size, fun k hk => (hsame k (fun e => ?_)).trans (hs.below.block k hk)⟩, ?_, hs.fresh, ?_, ?_, hs.dis, ?_, hs.dnd⟩
 ·have := hD.1; have : (g.undfr l).B = g.B := rfl; omega
 ·intro b off x hx
  have hc := hs.imm b off x hx
  refine ⟨(cell_same (hsame b (fun e => ?_))).trans hc.1, hc.2⟩
  have := hc.1; subst e
  simp [World.cell?, hD.2.1] at this
 ·intro id ver o ho
  obtain ⟨L, hL, h2⟩ := hs.obj _ _ _ ho
  refine ⟨L, hL, h2.mono (.refl _) (fun b hb => hsame b (fun e => ?_))⟩
  have := (h.own _ _ _ _ _ ho hL hb).2.2.2
  rw [hd, e] at this; simp [dmk] at this
 ·intro id ver o L b ho hL hb
  have := hs.own _ _ _ _ _ ho hL hb
  exact ⟨this.1, by rw [World.putObj_size]; exact this.2.1, this.2.2⟩
 ·intro D' hD'
  have := hs.dfr D' hD'
  exact ⟨this.1, (hsame D'.1 (fun e => hnd (e ▸ List.mem_map_of_mem hD'))).trans this.2.1, this.2.2⟩

theorem marks_out {fn : Func} {t : Array Value} {R : Ending → World → Prop} {D0 : List (Nat × Go.Obj)} {st : St} : ∀ (l : List Nat) (g : G) (w : World), Sim P g st w → g.dfr = l.map dmk ++ D0 →
  (∀ g' w', g.le g' → g'.dfr = D0 → Sim P g' st w' → ∃ v, (results fn t).run P w' = .ok v w' ∧ R (.returned v) w') → LeavesInM Fence.wide 0 P fn t R (l.map mark) .returning w
 | [], g, w, hs, hd, h => by
  obtain ⟨v, h1, h2⟩ := h g w (.refl g) (by simpa using hd) hs
  exact ⟨v, h1, h2⟩
 | D :: l, g, w, hs, hd, h => by
  obtain ⟨h1, hle, hs'⟩ := hs.took (l := l.map dmk ++ D0) (by rw [hd]; rfl)
  refine ⟨by simp, .inl ⟨D, _, rfl, run_takeDeferred h1, ?_⟩⟩
  exact marks_out l _ _ hs' rfl (fun g' w' q1 q2 q3 => h g' w' (hle.trans q1) q2 q3)

end Go.Proofs.Ytmjnpfackanhlaa.AM
