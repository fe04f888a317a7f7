/- The abstract layer: what the program does not do: objects forgotten, arrays that are written no more. -/
import Derived.Test.YtmgkjbphlbpbfaaAmTac
namespace Go.Proofs.Ytmgkjbphlbpbfaa.AM
open Go Go.RowKit
set_option linter.unusedSimpArgs false
set_option linter.unusedVariables false
variable {P : Program}

theorem Ghost.weak {n : Nat} {fr fr' : Fr} {st st' : St} (hfr : ∀ s, fr' s = .junk ∨ fr' s = fr s) (hnv : st'.nv = st.nv) (f : Nat → Nat)
    (hf : ∀ (id : Nat) (x : Nat × Obj), st'.objs[id]? = some (some x) → st.objs[f id]? = some (some x))
    (hi : ∀ (id id' : Nat) (x x' : Nat × Obj), st'.objs[id]? = some (some x) → st'.objs[id']? = some (some x') → f id = f id' → id = id') : Ghost n fr st fr' st' :=
  fun P g w t hs hF => ⟨g, .refl g, rfl, hs.sub hnv f hf hi, hF.weak hfr⟩

/-- All objects are forgotten. -/
theorem Ghost.bare {n : Nat} {fr fr' : Fr} {st : St} (hfr : ∀ s, fr' s = .junk ∨ fr' s = fr s) : Ghost n fr st fr' ⟨[], st.nv⟩ :=
  Ghost.weak hfr rfl id (fun id x h => by simp at h) (fun id id' x x' h => by simp at h)

/-- Of the objects, the first are kept. -/
theorem Ghost.take {n : Nat} {fr : Fr} {st : St} (k : Nat) : Ghost n fr st fr ⟨st.objs.take k, st.nv⟩ :=
  Ghost.weak (fun s => .inr rfl) rfl id (fun id x h => by
    simp only [List.getElem?_take] at h
    split at h
    · exact h
    · cases h) (fun id id' x x' _ _ e => e)

/-- A value in which an array that is written no more has become a row of values. -/
inductive Frz (ver sz : Nat) (es : List (List V)) : V → V → Prop where
  | refl (v : V) : Frz ver sz es v v
  | junk (v : V) : Frz ver sz es v .junk
  | msl (id off len : Nat) (h : off + len ≤ es.length) : Frz ver sz es (.msl id ver off len) (.sl .unk sz ((es.drop off).take len) ((es.drop off).drop len))
  | agg (cs cs' : List V) (hl : cs.length = cs'.length) (h : ∀ i, i < cs.length → Frz ver sz es (cs.getD i .junk) (cs'.getD i .junk)) : Frz ver sz es (.agg cs) (.agg cs')
  | tup (cs cs' : List V) (hl : cs.length = cs'.length) (h : ∀ i, i < cs.length → Frz ver sz es (cs.getD i .junk) (cs'.getD i .junk)) : Frz ver sz es (.tup cs) (.tup cs')

def OFrz (ver sz : Nat) (es : List (List V)) (o o' : Obj) : Prop :=
  o' = o ∨ ∃ s rs rs', o = .mem s rs ∧ o' = .mem s rs' ∧ rs.length = rs'.length ∧ (∀ i, i < rs.length → (rs.getD i []).length = (rs'.getD i []).length) ∧
    ∀ i j, i < rs.length → Frz ver sz es ((rs.getD i []).getD j .junk) ((rs'.getD i []).getD j .junk)

theorem Frz.rel {g g' : G} (hg : g.le g') {ver sz : Nat} {es : List (List V)} {L : Loc} (hL : g.loc ver = some L) (hsz : L.sz = sz) (h0 : 0 < sz) (hlen : ∀ i, i < es.length → (es.getD i []).length = sz) (hT : es.length ≤ L.T)
    (hn : L.blk = none → L.T = 0) {vals : Nat → Nat → Value}
    (hi : ∀ b, L.blk = some b → ∀ i j, i < es.length → j < sz → g'.imm b (L.o + i * sz + j) = some (vals i j) ∧ VRel g ((es.getD i []).getD j .junk) (vals i j)) :
    ∀ {v v' : V}, Frz ver sz es v v' → ∀ {x : Value}, VRel g v x → VRel g' v' x := by
  intro v v' hf
  induction hf with
  | refl v => intro x hx; exact hx.mono hg
  | junk v => intro x hx; exact .junk x
  | msl id off len hl =>
    intro x hx
    cases hx with
    | mnil _ _ L' hL' hb =>
      obtain rfl := Option.some.inj (hL'.symm.trans hL)
      have : es.length = 0 := by have := hn hb; omega
      obtain rfl := List.eq_nil_of_length_eq_zero this
      simpa using VRel.snil (g := g') .unk sz (.inr rfl)
    | msl _ _ _ _ b a L' hL' hb hT' ha hp =>
      obtain rfl := Option.some.inj (hL'.symm.trans hL)
      have happ : (es.drop off).take len ++ (es.drop off).drop len = es.drop off := List.take_append_drop ..
      have hln : ((es.drop off).take len).length = len := by simp; omega
      have hal : ((es.drop off).take len ++ (es.drop off).drop len).length = es.length - off := by rw [happ]; simp
      have hget : ∀ i, ((es.drop off).take len ++ (es.drop off).drop len).getD i [] = es.getD (off + i) [] := by intro i; rw [happ]; simp [List.getD]
      have key : ∀ (b' o' : Nat), (0 < es.length - off → b' = b ∧ o' = L'.o + off * sz) → a = ⟨b', o', none⟩ → VRel g' (.sl .unk sz ((es.drop off).take len) ((es.drop off).drop len)) (.slice (some a) len (L'.T - off)) := by
        intro b' o' hbo hab
        have := VRel.sl (g := g') .unk sz ((es.drop off).take len) ((es.drop off).drop len) b' o' (L'.T - off) (fun i j => vals (off + i) j) (by simp) (by simp) h0 (by rw [hal]; omega)
          (fun i hi' => by rw [hget]; exact hlen _ (by rw [hal] at hi'; omega)) (fun i j hi' hj => by
            rw [hal] at hi'
            obtain ⟨rfl, rfl⟩ := hbo (by omega)
            have := (hi _ hb (off + i) j (by omega) hj).1
            rw [Nat.add_mul] at this
            rw [show L'.o + off * sz + i * sz + j = L'.o + (off * sz + i * sz) + j by omega]; exact this)
          (fun i j hi' hj => by
            rw [hget]; rw [hal] at hi'
            exact (hi b hb (off + i) j (by omega) hj).2.mono hg)
        rw [hln, ← hab] at this; exact this
      by_cases hof : off < L'.T
      · have hav := ha hof
        rw [hsz] at hav
        exact key b _ (fun _ => ⟨rfl, rfl⟩) hav
      · refine key a.block a.off (fun h => by omega) ?_
        cases a; simp only at hp ⊢; rw [hp]
  | agg cs cs' hl _ ih =>
    intro x hx
    cases hx with
    | agg _ vs hvl h h1 => exact .agg cs' vs (by omega) (fun i hi' => ih i (by omega) (h i (by omega))) (fun i hi' => h1 i (by omega))
  | tup cs cs' hl _ ih =>
    intro x hx
    cases hx with
    | tup _ vs hvl h => exact .tup cs' vs (by omega) (fun i hi' => ih i (by omega) (h i (by omega)))

def G.freeze (g : G) (b o k : Nat) (c : Array Value) : G := { g with imm := fun b' o' => if b' = b ∧ o ≤ o' ∧ o' < o + k then some (c.getD o' undef) else g.imm b' o' }

theorem mem_row {g : G} {w : World} {L : Loc} {sz : Nat} {es : List (List V)} {b : Nat} (h : MemRel g w L sz es) (hb : L.blk = some b) : ∃ c t, w.heap[b]? = some (.cells c t (0, 0)) ∧ L.o + L.T * sz ≤ c.size ∧
    ∀ i j, i < es.length → j < sz → VRel g ((es.getD i []).getD j .junk) (c.getD (L.o + i * sz + j) undef) ∧ (c.getD (L.o + i * sz + j) undef).oneCell' = true := by
  have := h.2.2.2.2
  rw [hb] at this
  exact this

/-- An array is written no more: its references become rows of values; the object goes. -/
theorem freeze_core {st st' : St} {id ver sz : Nat} {es : List (List V)} (ho : st.get id ver = some (.mem sz es)) (hnv : st'.nv = st.nv)
    (hobj : ∀ (id1 ver1 : Nat) (o1 : Obj), st'.objs[id1]? = some (some (ver1, o1)) → id1 ≠ id ∧ ∃ o0, st.objs[id1]? = some (some (ver1, o0)) ∧ OFrz ver sz es o0 o1) :
    ∀ (P : Program) (g : G) (w : World), Sim P g st w → ∃ g', g.le g' ∧ g'.dfr = g.dfr ∧ Sim P g' st' w ∧ ∀ v v' x, Frz ver sz es v v' → VRel g v x → VRel g' v' x := by
  intro P g w hs
  have ho := get_objs ho
  obtain ⟨L, hL, hm⟩ := hs.obj _ _ _ ho
  simp only [OLoc] at hm
  have hm2 := hm
  obtain ⟨hsz, h0, hlen, hT, hblk⟩ := hm2
  -- the ghost
  have main : ∃ (g' : G) (vals : Nat → Nat → Value), g.le g' ∧ g'.dfr = g.dfr ∧ g'.B = g.B ∧ g'.w0 = g.w0 ∧ g'.nv = g.nv ∧ g'.loc = g.loc ∧
      (∀ b' o' x, g'.imm b' o' = some x → g.imm b' o' = some x ∨ (L.blk = some b' ∧ w.cell? ⟨b', o', none⟩ = some x ∧ x.oneCell' = true)) ∧
      (∀ b' o', L.blk ≠ some b' → g'.imm b' o' = g.imm b' o') ∧
      (∀ b, L.blk = some b → ∀ i j, i < es.length → j < sz → g'.imm b (L.o + i * sz + j) = some (vals i j) ∧ VRel g ((es.getD i []).getD j .junk) (vals i j)) := by
    cases hb : L.blk with
    | none => exact ⟨g, fun _ _ => undef, .refl g, rfl, rfl, rfl, rfl, rfl, fun _ _ _ h => .inl h, fun _ _ _ => rfl, fun b h => by cases h⟩
    | some b =>
      obtain ⟨c, t', hc, hcs, hr⟩ := mem_row hm hb
      have hown := hs.own _ _ _ _ _ ho hL hb
      have hcell : ∀ o', o' < c.size → w.cell? ⟨b, o', none⟩ = some (c.getD o' undef) := by
        intro o' ho'
        simp only [World.cell?, hc]
        simp [Array.getD, ho']
      have hTs : es.length * sz ≤ L.T * sz := Nat.mul_le_mul_right _ hT
      refine ⟨g.freeze b L.o (es.length * sz) c, fun i j => c.getD (L.o + i * sz + j) undef, ?_, rfl, rfl, rfl, rfl, rfl, ?_, ?_, ?_⟩
      · refine ⟨rfl, rfl, Nat.le_refl _, fun _ _ h => h, fun _ _ => rfl, fun _ _ => rfl, fun b' o' x hx => ?_, fun b' o' x hb' hx => ?_⟩
        · have hne : b' ≠ b := fun e => by rw [e, hown.2.2.1 o'] at hx; cases hx
          simp only [G.freeze, hne, false_and, if_false]; exact hx
        · have hne : b' ≠ b := fun e => by have := hown.1; omega
          simp only [G.freeze, hne, false_and, if_false] at hx; exact hx
      · intro b' o' x hx
        by_cases hin : b' = b ∧ L.o ≤ o' ∧ o' < L.o + es.length * sz
        · simp only [G.freeze, if_pos hin, Option.some.injEq] at hx
          obtain ⟨rfl, h1, h2⟩ := hin
          refine .inr ⟨rfl, by rw [hcell o' (by omega), hx], ?_⟩
          have hq : (o' - L.o) / sz < es.length := (Nat.div_lt_iff_lt_mul h0).2 (by omega)
          have := (hr ((o' - L.o) / sz) ((o' - L.o) % sz) hq (Nat.mod_lt _ h0)).2
          have e : L.o + (o' - L.o) / sz * sz + (o' - L.o) % sz = o' := by
            have := Nat.div_add_mod (o' - L.o) sz
            rw [Nat.mul_comm] at this; omega
          rw [e] at this; rw [← hx]; exact this
        · simp only [G.freeze, if_neg hin] at hx; exact .inl hx
      · intro b' o' hne
        have hne : b' ≠ b := fun e => hne (by rw [e])
        simp only [G.freeze, hne, false_and, if_false]
      · intro b1 hb1 i j hi hj
        obtain rfl := Option.some.inj hb1
        have h1 : i * sz + j < es.length * sz := by
          have := Nat.mul_le_mul_right sz (show i + 1 ≤ es.length from hi)
          rw [Nat.add_mul] at this; omega
        refine ⟨?_, (hr i j hi hj).1⟩
        simp only [G.freeze]
        rw [if_pos ⟨by trivial, by omega, by omega⟩]
  obtain ⟨g', vals, hg, hd, hB, hw0, hnv', hloc, himm, hsame, hrow⟩ := main
  have frz : ∀ {v v' : V} {x : Value}, Frz ver sz es v v' → VRel g v x → VRel g' v' x := fun hf hx => Frz.rel hg hL hsz h0 hlen hT (fun hb => by rw [hb] at hblk; exact hblk) hrow hf hx
  refine ⟨g', hg, hd, ?_, fun v v' x hf hx => frz hf hx⟩
  refine ⟨by rw [hnv, hs.nv, hnv'], by rw [hB]; exact hs.B, by rw [hB, hw0]; exact hs.below, ?_, by rw [hnv', hloc]; exact hs.fresh, ?_, ?_, ?_, ?_, by rw [hd]; exact hs.dnd⟩
  · intro b o x hx
    rcases himm b o x hx with h | ⟨_, h1, h2⟩
    · exact hs.imm b o x h
    · exact ⟨h1, h2⟩
  · intro id1 ver1 o1 h1
    obtain ⟨hne, o0, h2, hof⟩ := hobj _ _ _ h1
    obtain ⟨L1, hL1, h3⟩ := hs.obj _ _ _ h2
    refine ⟨L1, by rw [hloc]; exact hL1, ?_⟩
    rcases hof with rfl | ⟨s, rs, rs', rfl, rfl, k1, k2, k3⟩
    · exact h3.mono hg (fun _ _ => rfl)
    · simp only [OLoc] at h3 ⊢
      obtain ⟨m1, m2, m3, m4, m5⟩ := h3
      refine ⟨m1, m2, fun i hi => by rw [← k2 i (by omega)]; exact m3 i (by omega), by omega, ?_⟩
      cases hb : L1.blk with
      | none => rw [hb] at m5; exact m5
      | some b =>
        rw [hb] at m5
        obtain ⟨c, t', hc, hcs, hr⟩ := m5
        exact ⟨c, t', hc, hcs, fun i j hi hj => ⟨frz (k3 i j (by omega)) (hr i j (by omega) hj).1, (hr i j (by omega) hj).2⟩⟩
  · intro id1 ver1 o1 L1 b h1 hL1 hb
    obtain ⟨hne, o0, h2, _⟩ := hobj _ _ _ h1
    rw [hloc] at hL1
    have := hs.own _ _ _ _ _ h2 hL1 hb
    refine ⟨by rw [hB]; exact this.1, this.2.1, fun off => ?_, by rw [hd]; exact this.2.2.2⟩
    rw [hsame b off (fun e => hs.dis _ _ _ _ _ _ _ _ _ ho h2 (fun e => hne e.symm) hL hL1 e hb)]
    exact this.2.2.1 off
  · intro id1 id2 ver1 ver2 o1 o2 L1 L2 b h1 h2 hne hL1 hL2 hb
    rw [hloc] at hL1 hL2
    obtain ⟨_, o1', h1', _⟩ := hobj _ _ _ h1
    obtain ⟨_, o2', h2', _⟩ := hobj _ _ _ h2
    exact hs.dis _ _ _ _ _ _ _ _ _ h1' h2' hne hL1 hL2 hb
  · intro D hD
    rw [hd] at hD
    have := hs.dfr D hD
    refine ⟨by rw [hB]; exact this.1, this.2.1, fun off => ?_⟩
    rw [hsame D.1 off (fun e => (hs.own _ _ _ _ _ ho hL e).2.2.2 (List.mem_map_of_mem hD))]; exact this.2.2 off

theorem Ghost.freeze {n : Nat} {fr fr' : Fr} {st st' : St} {id ver sz : Nat} {es : List (List V)} (ho : st.get id ver = some (.mem sz es)) (hnv : st'.nv = st.nv)
    (hfr : ∀ s, Frz ver sz es (fr s) (fr' s)) (hobj : ∀ (id1 ver1 : Nat) (o1 : Obj), st'.objs[id1]? = some (some (ver1, o1)) → id1 ≠ id ∧ ∃ o0, st.objs[id1]? = some (some (ver1, o0)) ∧ OFrz ver sz es o0 o1) :
    Ghost n fr st fr' st' := by
  intro P g w t hs hF
  obtain ⟨g', h1, h2, h3, h4⟩ := freeze_core ho hnv hobj P g w hs
  exact ⟨g', h1, h2, h3, hF.1, fun s => h4 _ _ _ (hfr s) (hF.2 s)⟩

/-- A nil row of values has become an array of its own, which is nil. -/
inductive Nz (id ver : Nat) : V → V → Prop where
  | refl (v : V) : Nz id ver v v
  | nil (sz : Nat) : Nz id ver (.sl .nil sz [] []) (.msl id ver 0 0)

def ONz (id ver : Nat) (o o' : Obj) : Prop :=
  o' = o ∨ ∃ s rs rs', o = .mem s rs ∧ o' = .mem s rs' ∧ rs.length = rs'.length ∧ (∀ i, i < rs.length → (rs.getD i []).length = (rs'.getD i []).length) ∧
    ∀ i j, i < rs.length → Nz id ver ((rs.getD i []).getD j .junk) ((rs'.getD i []).getD j .junk)

theorem nils_core {st st' : St} {id sz : Nat} (h0 : 0 < sz) (hnv : st'.nv = st.nv + 1)
    (hobj : ∀ (id1 ver1 : Nat) (o1 : Obj), st'.objs[id1]? = some (some (ver1, o1)) → (id1 = st.objs.length ∧ ver1 = st.nv ∧ o1 = .mem sz []) ∨ id1 < st.objs.length ∧ ∃ o0, st.objs[id1]? = some (some (ver1, o0)) ∧ ONz id st.nv o0 o1) :
    ∀ (P : Program) (g : G) (w : World), Sim P g st w → ∃ g', g.le g' ∧ g'.dfr = g.dfr ∧ Sim P g' st' w ∧ ∀ v v' x, Nz id st.nv v v' → VRel g v x → VRel g' v' x := by
  intro P g w hs
  let L : Loc := ⟨none, 0, sz, 0⟩
  let g' := g.add L
  have hg : g.le g' := G.add_le L (hs.fresh _ (Nat.le_refl _))
  have hLn : g'.loc st.nv = some L := by rw [hs.nv]; exact G.add_loc L
  have hver : ∀ (id1 ver1 : Nat) (o0 : Obj), st.objs[id1]? = some (some (ver1, o0)) → ver1 ≠ st.nv := by
    intro id1 ver1 o0 h e
    obtain ⟨L1, hL1, _⟩ := hs.obj _ _ _ h
    rw [e, hs.nv, hs.fresh _ (Nat.le_refl _)] at hL1; cases hL1
  have nz : ∀ {v v' : V} {x : Value}, Nz id st.nv v v' → VRel g v x → VRel g' v' x := by
    intro v v' x hn hx
    cases hn with
    | refl => exact hx.mono hg
    | nil s =>
      cases hx with
      | sl _ _ _ _ _ _ _ _ hk => exact absurd rfl hk
      | snil => exact .mnil id st.nv L hLn rfl
      | semp _ _ _ _ hk => exact absurd rfl hk
  refine ⟨g', hg, rfl, ?_, fun v v' x hn hx => nz hn hx⟩
  refine ⟨by rw [hnv, hs.nv]; rfl, hs.B, hs.below, hs.imm, G.add_fresh L hs.fresh, ?_, ?_, ?_, hs.dfr, hs.dnd⟩
  · intro id1 ver1 o1 h1
    rcases hobj _ _ _ h1 with ⟨_, rfl, rfl⟩ | ⟨_, o0, h2, hof⟩
    · exact ⟨L, hLn, rfl, h0, fun i hi => by simp at hi, by simp, rfl⟩
    · obtain ⟨L1, hL1, h3⟩ := hs.obj _ _ _ h2
      refine ⟨L1, hg.loc _ _ hL1, ?_⟩
      rcases hof with rfl | ⟨s, rs, rs', rfl, rfl, k1, k2, k3⟩
      · exact h3.mono hg (fun _ _ => rfl)
      · simp only [OLoc] at h3 ⊢
        obtain ⟨m1, m2, m3, m4, m5⟩ := h3
        refine ⟨m1, m2, fun i hi => by rw [← k2 i (by omega)]; exact m3 i (by omega), by omega, ?_⟩
        cases hb : L1.blk with
        | none => rw [hb] at m5; exact m5
        | some b =>
          rw [hb] at m5
          obtain ⟨c, t', hc, hcs, hr⟩ := m5
          exact ⟨c, t', hc, hcs, fun i j hi hj => ⟨nz (k3 i j (by omega)) (hr i j (by omega) hj).1, (hr i j (by omega) hj).2⟩⟩
  · intro id1 ver1 o1 L1 b h1 hL1 hb
    rcases hobj _ _ _ h1 with ⟨_, rfl, rfl⟩ | ⟨_, o0, h2, _⟩
    · obtain rfl := Option.some.inj (hLn.symm.trans hL1); cases hb
    · obtain ⟨L2, hL2, _⟩ := hs.obj _ _ _ h2
      obtain rfl := Option.some.inj (hL1.symm.trans (hg.loc _ _ hL2))
      exact hs.own _ _ _ _ _ h2 hL2 hb
  · intro id1 id2 ver1 ver2 o1 o2 L1 L2 b h1 h2 hne hL1 hL2 hb hb2
    rcases hobj _ _ _ h1 with ⟨_, rfl, rfl⟩ | ⟨_, o1', h1', _⟩
    · obtain rfl := Option.some.inj (hLn.symm.trans hL1); cases hb
    · rcases hobj _ _ _ h2 with ⟨_, rfl, rfl⟩ | ⟨_, o2', h2', _⟩
      · obtain rfl := Option.some.inj (hLn.symm.trans hL2); cases hb2
      · obtain ⟨L3, hL3, _⟩ := hs.obj _ _ _ h1'
        obtain rfl := Option.some.inj (hL1.symm.trans (hg.loc _ _ hL3))
        obtain ⟨L4, hL4, _⟩ := hs.obj _ _ _ h2'
        obtain rfl := Option.some.inj (hL2.symm.trans (hg.loc _ _ hL4))
        exact hs.dis _ _ _ _ _ _ _ _ _ h1' h2' hne hL3 hL4 hb hb2

theorem Ghost.nils {n : Nat} {fr fr' : Fr} {st st' : St} {id sz : Nat} (h0 : 0 < sz) (hnv : st'.nv = st.nv + 1) (hfr : ∀ s, Nz id st.nv (fr s) (fr' s))
    (hobj : ∀ (id1 ver1 : Nat) (o1 : Obj), st'.objs[id1]? = some (some (ver1, o1)) → (id1 = st.objs.length ∧ ver1 = st.nv ∧ o1 = .mem sz []) ∨ id1 < st.objs.length ∧ ∃ o0, st.objs[id1]? = some (some (ver1, o0)) ∧ ONz id st.nv o0 o1) :
    Ghost n fr st fr' st' := by
  intro P g w t hs hF
  obtain ⟨g', h1, h2, h3, h4⟩ := nils_core h0 hnv hobj P g w hs
  exact ⟨g', h1, h2, h3, hF.1, fun s => h4 _ _ _ (hfr s) (hF.2 s)⟩

end Go.Proofs.Ytmgkjbphlbpbfaa.AM
