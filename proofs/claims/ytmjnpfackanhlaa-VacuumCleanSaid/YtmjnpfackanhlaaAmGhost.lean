/- The abstract layer: what the program does not do: objects forgotten, arrays that are written no more. -/
import Derived.Test.YtmjnpfackanhlaaAmTac
namespace Go.Proofs.Ytmjnpfackanhlaa.AM
open Go Go.RowKit
set_option linter.unusedSimpArgs false
set_option linter.unusedVariables false
variable {P : Program}

theorem Ghost.weak {n : Nat} {fr fr' : Fr} {st st' : St} (hfr : ∀ s, fr' s = .junk ∨ fr' s = fr s) (hnv : st'.nv = st.nv) (f : Nat → Nat)
  (hf : ∀ (id : Nat) (x : Nat × Obj), st'.objs[id]? = some (some x) → st.objs[f id]? = some (some x))
  (hi : ∀ (id id' : Nat) (x x' : Nat × Obj), st'.objs[id]? = some (some x) → st'.objs[id']? = some (some x') → f id = f id' → id = id') : Ghost n fr st fr' st' :=
 fun P g w t hs hF => ⟨g, .refl g, rfl, hs.sub hnv f hf hi, hF.weak hfr⟩

theorem Ghost.take {n : Nat} {fr : Fr} {st : St} (k : Nat) : Ghost n fr st fr ⟨st.objs.take k, st.nv⟩ :=
 Ghost.weak (fun s => .inr rfl) rfl id (fun id x h => by
  simp only [List.getElem?_take] at h
  split at h
  ·exact h
  ·cases h) (fun id id' x x' _ _ e => e)

theorem Ghost.freeze {n : Nat} {fr fr' : Fr} {st st' : St} {id ver sz : Nat} {es : List (List V)} (ho : st.get id ver = some (.mem sz es)) (hnv : st'.nv = st.nv)
  (hfr : ∀ s, Frz ver sz es (fr s) (fr' s)) (hobj : ∀ (id1 ver1 : Nat) (o1 : Obj), st'.objs[id1]? = some (some (ver1, o1)) → id1 ≠ id ∧ ∃ o0, st.objs[id1]? = some (some (ver1, o0)) ∧ OFrz ver sz es o0 o1) :
  Ghost n fr st fr' st' := by
 intro P g w t hs hF
 obtain ⟨g', h1, h2, h3, h4⟩ := freeze_core ho hnv hobj P g w hs
 exact ⟨g', h1, h2, h3, hF.1, fun s => h4 _ _ _ (hfr s) (hF.2 s)⟩

inductive Nz (id ver : Nat) : V → V → Prop where
 | refl (v : V) : Nz id ver v v
 | nil (sz : Nat) : Nz id ver (.sl .nil sz [] []) (.msl id ver 0 0)

def ONz (id ver : Nat) (o o' : Obj) : Prop :=
 o' = o ∨ ∃ s rs rs', o = .mem s rs ∧ o' = .mem s rs' ∧ rs.length = rs'.length ∧ (∀ i, i < rs.length → (rs.getD i []).length = (rs'.getD i []).length) ∧
  ∀ i j, i < rs.length → Nz id ver ((rs.getD i []).getD j .junk) ((rs'.getD i []).getD j .junk)

theorem nils_core {st st' : St} {id sz : Nat} (h0 : 0 < sz) (hnv : st'.nv = st.nv + 1)
  (hobj : ∀ (id1 ver1 : Nat) (o1 : Obj), st'.objs[id1]? = some (some (ver1, o1)) → (id1 = st.objs.length ∧ ver1 = st.nv ∧ o1 = .mem sz []) ∨ id1 < st.objs.length ∧ ∃ o0, st.objs[id1]? = some (some (ver1, o0)) ∧ ONz id st.nv o0 o1) :
  ∀ (P : Program) (g : G) (w : World), Sim P g st w → ∃ g', g.le g' ∧ g'.dfr = g.dfr ∧ Sim P g' st' w ∧ ∀ v v' x, Nz id st.nv v v' → VRel g v x → VRel g' v' x := by
 intro P g w hs
 let L : Loc := ⟨none, 0, sz, 0⟩
 let g' := g.add L
 have hg : g.le g' := G.add_le L (hs.fresh _ (Nat.le_refl _))
 have hLn : g'.loc st.nv = some L := by rw [hs.nv]; exact G.add_loc L
 have hver : ∀ (id1 ver1 : Nat) (o0 : Obj), st.objs[id1]? = some (some (ver1, o0)) → ver1 ≠ st.nv := by
  intro id1 ver1 o0 h e
  obtain ⟨L1, hL1, _⟩ := hs.obj _ _ _ h
  rw [e, hs.nv, hs.fresh _ (Nat.le_refl _)] at hL1; cases hL1
 have nz : ∀ {v v' : V} {x : Value}, Nz id st.nv v v' → VRel g v x → VRel g' v' x := by
  intro v v' x hn hx
  cases hn with
  | refl => exact hx.mono hg
  | nil s =>
   cases hx with
   | sl _ _ _ _ _ _ _ _ hk => exact absurd rfl hk
   | snil => exact .mnil id st.nv L hLn rfl
   | semp _ _ _ _ hk => exact absurd rfl hk
 refine ⟨g', hg, rfl, ?_, fun v v' x hn hx => nz hn hx⟩
 refine ⟨by rw [hnv, hs.nv]; rfl, hs.B, hs.below, hs.imm, G.add_fresh L hs.fresh, ?_, ?_, ?_, hs.dfr, hs.dnd⟩
 ·intro id1 ver1 o1 h1
  rcases hobj _ _ _ h1 with ⟨_, rfl, rfl⟩ | ⟨_, o0, h2, hof⟩
  ·exact ⟨L, hLn, rfl, h0, fun i hi => by simp at hi, by simp, rfl⟩
  ·obtain ⟨L1, hL1, h3⟩ := hs.obj _ _ _ h2
   refine ⟨L1, hg.loc _ _ hL1, ?_⟩
   rcases hof with rfl | ⟨s, rs, rs', rfl, rfl, k1, k2, k3⟩
   ·exact h3.mono hg (fun _ _ => rfl)
   ·simp only [OLoc] at h3 ⊢
    obtain ⟨m1, m2, m3, m4, m5⟩ := h3
    refine ⟨m1, m2, fun i hi => by rw [← k2 i (by omega)]; exact m3 i (by omega), by omega, ?_⟩
    cases hb : L1.blk with
    | none => rw [hb] at m5; exact m5
    | some b =>
     rw [hb] at m5
     obtain ⟨c, t', hc, hcs, hr⟩ := m5
     exact ⟨c, t', hc, hcs, fun i j hi hj => ⟨nz (k3 i j (by omega)) (hr i j (by omega) hj).1, (hr i j (by omega) hj).2⟩⟩
 ·intro id1 ver1 o1 L1 b h1 hL1 hb
  rcases hobj _ _ _ h1 with ⟨_, rfl, rfl⟩ | ⟨_, o0, h2, _⟩
  ·obtain rfl := Option.some.inj (hLn.symm.trans hL1); cases hb
  ·obtain ⟨L2, hL2, _⟩ := hs.obj _ _ _ h2
   obtain rfl := Option.some.inj (hL1.symm.trans (hg.loc _ _ hL2))
   exact hs.own _ _ _ _ _ h2 hL2 hb
 ·intro id1 id2 ver1 ver2 o1 o2 L1 L2 b h1 h2 hne hL1 hL2 hb hb2
  rcases hobj _ _ _ h1 with ⟨_, rfl, rfl⟩ | ⟨_, o1', h1', _⟩
  ·obtain rfl := Option.some.inj (hLn.symm.trans hL1); cases hb
  ·rcases hobj _ _ _ h2 with ⟨_, rfl, rfl⟩ | ⟨_, o2', h2', _⟩
   ·obtain rfl := Option.some.inj (hLn.symm.trans hL2); cases hb2
   ·obtain ⟨L3, hL3, _⟩ := hs.obj _ _ _ h1'
    obtain rfl := Option.some.inj (hL1.symm.trans (hg.loc _ _ hL3))
    obtain ⟨L4, hL4, _⟩ := hs.obj _ _ _ h2'
    obtain rfl := Option.some.inj (hL2.symm.trans (hg.loc _ _ hL4))
    exact hs.dis _ _ _ _ _ _ _ _ _ h1' h2' hne hL3 hL4 hb hb2

theorem Ghost.nils {n : Nat} {fr fr' : Fr} {st st' : St} {id sz : Nat} (h0 : 0 < sz) (hnv : st'.nv = st.nv + 1) (hfr : ∀ s, Nz id st.nv (fr s) (fr' s))
  (hobj : ∀ (id1 ver1 : Nat) (o1 : Obj), st'.objs[id1]? = some (some (ver1, o1)) → (id1 = st.objs.length ∧ ver1 = st.nv ∧ o1 = .mem sz []) ∨ id1 < st.objs.length ∧ ∃ o0, st.objs[id1]? = some (some (ver1, o0)) ∧ ONz id st.nv o0 o1) :
  Ghost n fr st fr' st' := by
 intro P g w t hs hF
 obtain ⟨g', h1, h2, h3, h4⟩ := nils_core h0 hnv hobj P g w hs
 exact ⟨g', h1, h2, h3, hF.1, fun s => h4 _ _ _ (hfr s) (hF.2 s)⟩

end Go.Proofs.Ytmjnpfackanhlaa.AM
