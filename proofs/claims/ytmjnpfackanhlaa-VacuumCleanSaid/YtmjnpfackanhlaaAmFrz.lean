/- The abstract layer: values without objects; a state alone; arrays that are written no more. -/
import Derived.Test.YtmjnpfackanhlaaAmOps10
namespace Go.Proofs.Ytmjnpfackanhlaa.AM
open Go Go.RowKit
set_option linter.unusedSimpArgs false
set_option linter.unusedVariables false
variable {P : Program}

theorem pureL_get : ∀ {l : List V}, pureL l = true → ∀ i, (l.getD i .junk).pure = true
 | [], _, i => by simp [List.getD]; rfl
 | v :: l, h, 0 => by simp only [pureL, Bool.and_eq_true] at h; exact h.1
 | v :: l, h, i + 1 => by
  simp only [pureL, Bool.and_eq_true] at h
  have := pureL_get h.2 i
  simpa [List.getD] using this

theorem pureLL_get : ∀ {l : List (List V)}, pureLL l = true → ∀ i, pureL (l.getD i []) = true
 | [], _, i => by simp [List.getD]; rfl
 | v :: l, h, 0 => by simp only [pureLL, Bool.and_eq_true] at h; exact h.1
 | v :: l, h, i + 1 => by
  simp only [pureLL, Bool.and_eq_true] at h
  have := pureLL_get h.2 i
  simpa [List.getD] using this

theorem pureLL_append : ∀ {a b : List (List V)}, pureLL a = true → pureLL b = true → pureLL (a ++ b) = true
 | [], b, _, h => h
 | x :: a, b, h, k => by
  simp only [pureLL, Bool.and_eq_true, List.cons_append] at h ⊢
  exact ⟨h.1, pureLL_append h.2 k⟩

theorem VRel.pure {g g' : G} (hi : ∀ b o x, g.imm b o = some x → g'.imm b o = some x) {v : V} {x : Value} (h : VRel g v x) : v.pure = true → VRel g' v x := by
 induction h with
 | bool b => intro _; exact .bool b
 | int k n => intro _; exact .int k n
 | str s => intro _; exact .str s
 | nilp => intro _; exact .nilp
 | ptr => intro hp; simp [V.pure] at hp
 | eptr cs off b o vals h1 _ ih =>
  intro hp; simp only [V.pure] at hp
  exact .eptr cs off b o vals (fun j hj => hi _ _ _ (h1 j hj)) (fun j hj => ih j hj (pureL_get hp j))
 | sl k sz es sp b o cap vals hk hk0 hsz hc he h1 _ ih =>
  intro hp; simp only [V.pure, Bool.and_eq_true] at hp
  exact .sl k sz es sp b o cap vals hk hk0 hsz hc he (fun i j a b => hi _ _ _ (h1 i j a b)) (fun i j a b => ih i j a b (pureL_get (pureLL_get (pureLL_append hp.1 hp.2) i) j))
 | snil k sz hk => intro _; exact .snil k sz hk
 | semp k sz a cap hk hk0 => intro _; exact .semp k sz a cap hk hk0
 | msl => intro hp; simp [V.pure] at hp
 | mnil => intro hp; simp [V.pure] at hp
 | asl => intro hp; simp [V.pure] at hp
 | mcut => intro hp; simp [V.pure] at hp
 | mcutn => intro hp; simp [V.pure] at hp
 | nilm => intro _; exact .nilm
 | map => intro hp; simp [V.pure] at hp
 | iter => intro hp; simp [V.pure] at hp
 | fn f first cap fs cs hf hc _ _ ih1 ih2 =>
  intro hp; simp only [V.pure, Bool.and_eq_true] at hp
  exact .fn f first cap fs cs hf hc (fun i h => ih1 i h (pureL_get hp.1 i)) (fun i h => ih2 i h (pureL_get hp.2 i))
 | yld => intro hp; simp [V.pure] at hp
 | nilf => intro _; exact .nilf
 | agg cs vs hl _ h1 ih => intro hp; simp only [V.pure] at hp; exact .agg cs vs hl (fun i h => ih i h (pureL_get hp i)) h1
 | tup cs vs hl _ ih => intro hp; simp only [V.pure] at hp; exact .tup cs vs hl (fun i h => ih i h (pureL_get hp i))
 | nili => intro _; exact .nili
 | iface t v x _ ih => intro hp; simp only [V.pure] at hp; exact .iface t v x (ih hp)
 | junk x => intro _; exact .junk x

def st0 : St := ⟨[], 0⟩

def G.alone (g : G) (w : World) : G := { B := w.heap.size, w0 := w, nv := 0, loc := fun _ => none, imm := g.imm, born := fun _ => [], clk := fun _ => 0, dfr := [] }

theorem Sim.alone {g : G} {st : St} {w : World} (h : Sim P g st w) : Sim P (g.alone w) st0 w :=
  ⟨rfl, Nat.le_refl _, .refl _ _, h.imm, fun _ _ => rfl, fun id ver o ho => by simp [st0] at ho, fun id ver o L b ho => by simp [st0] at ho, fun id id' ver ver' o o' L L' b ho => by simp [st0] at ho,
    (fun D hD => by cases hD), List.nodup_nil⟩

theorem Sim.back {g g1 : G} {st st1 : St} {w w' : World} (h : Sim P g st w) (hle : (g.alone w).le g1) (h1 : Sim P g1 st1 w') :
  let g' : G := { g with imm := g1.imm }
  g.le g' ∧ Sim P g' st w' := by
 intro g'
 have hB : g1.B = w.heap.size := hle.B
 have hw0 : g1.w0 = w := hle.w0
 have hbel : Below w.heap.size w w' := by have := h1.below; rw [hB, hw0] at this; exact this
 have himm : ∀ b o x, b < w.heap.size → g1.imm b o = some x → g.imm b o = some x := fun b o x hb hx => hle.immB b o x hb hx
 have hgle : g.le g' := ⟨rfl, rfl, Nat.le_refl _, fun _ _ h => h, fun _ _ => rfl, fun _ _ => rfl, fun b o x hx => hle.imm b o x hx, fun b o x hb hx => himm b o x (Nat.lt_of_lt_of_le hb h.B) hx⟩
 have hsame : ∀ k, k < w.heap.size → w'.heap[k]? = w.heap[k]? := hbel.block
 refine ⟨hgle, h.nv, Nat.le_trans h.B hbel.size, ⟨hbel.os.trans h.below.os, hbel.tape.trans h.below.tape, hbel.output.trans h.below.output, Nat.le_trans h.below.size hbel.size, fun k hk => (hsame k (Nat.lt_of_lt_of_le hk h.B)).trans (h.below.block k hk)⟩,
  h1.imm, h.fresh, ?_, ?_, h.dis, ?_, h.dnd⟩
 ·intro id ver o ho
  obtain ⟨L, hL, h2⟩ := h.obj _ _ _ ho
  exact ⟨L, hL, h2.mono hgle (fun b hb => hsame b (h.own _ _ _ _ _ ho hL hb).2.1)⟩
 ·intro id ver o L b ho hL hb
  have := h.own _ _ _ _ _ ho hL hb
  refine ⟨this.1, Nat.lt_of_lt_of_le this.2.1 hbel.size, fun off => ?_, this.2.2.2⟩
  cases hx : g1.imm b off with
  | none => rfl
  | some x => have := himm b off x this.2.1 hx; rw [(h.own _ _ _ _ _ ho hL hb).2.2.1 off] at this; cases this
 ·intro D hD
  have := h.dfr D hD
  have hlt := (Array.getElem?_eq_some_iff.1 this.2.1).1
  refine ⟨this.1, (hsame D.1 hlt).trans this.2.1, fun off => ?_⟩
  show g1.imm D.1 off = none
  cases hx : g1.imm D.1 off with
  | none => rfl
  | some x => have := himm D.1 off x hlt hx; rw [(h.dfr D hD).2.2 off] at this; cases this

inductive Frz (ver sz : Nat) (es : List (List V)) : V → V → Prop where
 | refl (v : V) : Frz ver sz es v v
 | junk (v : V) : Frz ver sz es v .junk
 | msl (id off len : Nat) (h : off + len ≤ es.length) : Frz ver sz es (.msl id ver off len) (.sl .unk sz ((es.drop off).take len) ((es.drop off).drop len))
 | asl (id i off n k : Nat) (hi : i < es.length) (h0 : 0 < k) (h : off + n * k ≤ sz) : Frz ver sz es (.asl id ver i off n k) (.sl .unk k (chunk k n ((es.getD i []).drop off)) [])
 | agg (cs cs' : List V) (hl : cs.length = cs'.length) (h : ∀ i, i < cs.length → Frz ver sz es (cs.getD i .junk) (cs'.getD i .junk)) : Frz ver sz es (.agg cs) (.agg cs')
 | tup (cs cs' : List V) (hl : cs.length = cs'.length) (h : ∀ i, i < cs.length → Frz ver sz es (cs.getD i .junk) (cs'.getD i .junk)) : Frz ver sz es (.tup cs) (.tup cs')

def OFrz (ver sz : Nat) (es : List (List V)) (o o' : Obj) : Prop :=
 o' = o ∨ ∃ s rs rs', o = .mem s rs ∧ o' = .mem s rs' ∧ rs.length = rs'.length ∧ (∀ i, i < rs.length → (rs.getD i []).length = (rs'.getD i []).length) ∧
  ∀ i j, i < rs.length → Frz ver sz es ((rs.getD i []).getD j .junk) ((rs'.getD i []).getD j .junk)

theorem Frz.rel {g g' : G} (hg : g.le g') {ver sz : Nat} {es : List (List V)} {L : Loc} (hL : g.loc ver = some L) (hsz : L.sz = sz) (h0 : 0 < sz) (hlen : ∀ i, i < es.length → (es.getD i []).length = sz) (hT : es.length ≤ L.T)
    (hn : L.blk = none → L.T = 0) {vals : Nat → Nat → Value}
    (hi : ∀ b, L.blk = some b → ∀ i j, i < es.length → j < sz → g'.imm b (L.o + i * sz + j) = some (vals i j) ∧ VRel g ((es.getD i []).getD j .junk) (vals i j)) :
    ∀ {v v' : V}, Frz ver sz es v v' → ∀ {x : Value}, VRel g v x → VRel g' v' x := by
  intro v v' hf
  induction hf with
  | refl v => intro x hx; exact hx.mono hg
  | junk v => intro x hx; exact .junk x
  | msl id off len hl =>
    intro x hx
    cases hx with
    | mnil _ _ L' hL' hb =>
      obtain rfl := Option.some.inj (hL'.symm.trans hL)
      have : es.length = 0 := by have := hn hb; omega
      obtain rfl := List.eq_nil_of_length_eq_zero this
      simpa using VRel.snil (g := g') .unk sz (.inr rfl)
    | msl _ _ _ _ b a L' hL' hb hT' ha hp =>
      obtain rfl := Option.some.inj (hL'.symm.trans hL)
      have happ : (es.drop off).take len ++ (es.drop off).drop len = es.drop off := List.take_append_drop ..
      have hln : ((es.drop off).take len).length = len := by simp; omega
      have hal : ((es.drop off).take len ++ (es.drop off).drop len).length = es.length - off := by rw [happ]; simp
      have hget : ∀ i, ((es.drop off).take len ++ (es.drop off).drop len).getD i [] = es.getD (off + i) [] := by intro i; rw [happ]; simp [List.getD]
      have key : ∀ (b' o' : Nat), (0 < es.length - off → b' = b ∧ o' = L'.o + off * sz) → a = ⟨b', o', none⟩ → VRel g' (.sl .unk sz ((es.drop off).take len) ((es.drop off).drop len)) (.slice (some a) len (L'.T - off)) := by
        intro b' o' hbo hab
        have := VRel.sl (g := g') .unk sz ((es.drop off).take len) ((es.drop off).drop len) b' o' (L'.T - off) (fun i j => vals (off + i) j) (by simp) (by simp) h0 (by rw [hal]; omega)
          (fun i hi' => by rw [hget]; exact hlen _ (by rw [hal] at hi'; omega)) (fun i j hi' hj => by
            rw [hal] at hi'
            obtain ⟨rfl, rfl⟩ := hbo (by omega)
            have := (hi _ hb (off + i) j (by omega) hj).1
            rw [Nat.add_mul] at this
            rw [show L'.o + off * sz + i * sz + j = L'.o + (off * sz + i * sz) + j by omega]; exact this)
          (fun i j hi' hj => by
            rw [hget]; rw [hal] at hi'
            exact (hi b hb (off + i) j (by omega) hj).2.mono hg)
        rw [hln, ← hab] at this; exact this
      by_cases hof : off < L'.T
      · have hav := ha hof
        rw [hsz] at hav
        exact key b _ (fun _ => ⟨rfl, rfl⟩) hav
      · refine key a.block a.off (fun h => by omega) ?_
        cases a; simp only at hp ⊢; rw [hp]
  | asl id i off n k hil hk0 hle =>
    intro x hx
    cases hx with
    | asl _ _ _ _ _ _ b L' hL' hb =>
      obtain rfl := Option.some.inj (hL'.symm.trans hL)
      rw [hsz]
      refine .chunk (vals := fun j => vals i j) hk0 (by rw [hlen i hil]; exact hle) (fun j hj => ?_) (fun j hj => ?_)
      · rw [hlen i hil] at hj
        exact (hi b hb i j hil hj).1
      · rw [hlen i hil] at hj
        exact (hi b hb i j hil hj).2.mono hg
  | agg cs cs' hl _ ih =>
    intro x hx
    cases hx with
    | agg _ vs hvl h h1 => exact .agg cs' vs (by omega) (fun i hi' => ih i (by omega) (h i (by omega))) (fun i hi' => h1 i (by omega))
  | tup cs cs' hl _ ih =>
    intro x hx
    cases hx with
    | tup _ vs hvl h => exact .tup cs' vs (by omega) (fun i hi' => ih i (by omega) (h i (by omega)))

def G.freeze (g : G) (b o k : Nat) (c : Array Value) : G := { g with imm := fun b' o' => if b' = b ∧ o ≤ o' ∧ o' < o + k then some (c.getD o' undef) else g.imm b' o' }

theorem mem_row {g : G} {w : World} {L : Loc} {sz : Nat} {es : List (List V)} {b : Nat} (h : MemRel g w L sz es) (hb : L.blk = some b) : ∃ c t, w.heap[b]? = some (.cells c t (0, 0)) ∧ L.o + L.T * sz ≤ c.size ∧
  ∀ i j, i < es.length → j < sz → VRel g ((es.getD i []).getD j .junk) (c.getD (L.o + i * sz + j) undef) ∧ (c.getD (L.o + i * sz + j) undef).oneCell' = true := by
 have := h.2.2.2.2
 rw [hb] at this
 exact this

theorem freeze_core {st st' : St} {id ver sz : Nat} {es : List (List V)} (ho : st.get id ver = some (.mem sz es)) (hnv : st'.nv = st.nv)
    (hobj : ∀ (id1 ver1 : Nat) (o1 : Obj), st'.objs[id1]? = some (some (ver1, o1)) → id1 ≠ id ∧ ∃ o0, st.objs[id1]? = some (some (ver1, o0)) ∧ OFrz ver sz es o0 o1) :
    ∀ (P : Program) (g : G) (w : World), Sim P g st w → ∃ g', g.le g' ∧ g'.dfr = g.dfr ∧ Sim P g' st' w ∧ ∀ v v' x, Frz ver sz es v v' → VRel g v x → VRel g' v' x := by
  intro P g w hs
  have ho := get_objs ho
  obtain ⟨L, hL, hm⟩ := hs.obj _ _ _ ho
  simp only [OLoc] at hm
  have hm2 := hm
  obtain ⟨hsz, h0, hlen, hT, hblk⟩ := hm2
  -- the ghost
  have main : ∃ (g' : G) (vals : Nat → Nat → Value), g.le g' ∧ g'.dfr = g.dfr ∧ g'.B = g.B ∧ g'.w0 = g.w0 ∧ g'.nv = g.nv ∧ g'.loc = g.loc ∧
      (∀ b' o' x, g'.imm b' o' = some x → g.imm b' o' = some x ∨ (L.blk = some b' ∧ w.cell? ⟨b', o', none⟩ = some x ∧ x.oneCell' = true)) ∧
      (∀ b' o', L.blk ≠ some b' → g'.imm b' o' = g.imm b' o') ∧
      (∀ b, L.blk = some b → ∀ i j, i < es.length → j < sz → g'.imm b (L.o + i * sz + j) = some (vals i j) ∧ VRel g ((es.getD i []).getD j .junk) (vals i j)) := by
    cases hb : L.blk with
    | none => exact ⟨g, fun _ _ => undef, .refl g, rfl, rfl, rfl, rfl, rfl, fun _ _ _ h => .inl h, fun _ _ _ => rfl, fun b h => by cases h⟩
    | some b =>
      obtain ⟨c, t', hc, hcs, hr⟩ := mem_row hm hb
      have hown := hs.own _ _ _ _ _ ho hL hb
      have hcell : ∀ o', o' < c.size → w.cell? ⟨b, o', none⟩ = some (c.getD o' undef) := by
        intro o' ho'
        simp only [World.cell?, hc]
        simp [Array.getD, ho']
      have hTs : es.length * sz ≤ L.T * sz := Nat.mul_le_mul_right _ hT
      refine ⟨g.freeze b L.o (es.length * sz) c, fun i j => c.getD (L.o + i * sz + j) undef, ?_, rfl, rfl, rfl, rfl, rfl, ?_, ?_, ?_⟩
      · refine ⟨rfl, rfl, Nat.le_refl _, fun _ _ h => h, fun _ _ => rfl, fun _ _ => rfl, fun b' o' x hx => ?_, fun b' o' x hb' hx => ?_⟩
        · have hne : b' ≠ b := fun e => by rw [e, hown.2.2.1 o'] at hx; cases hx
          simp only [G.freeze, hne, false_and, if_false]; exact hx
        · have hne : b' ≠ b := fun e => by have := hown.1; omega
          simp only [G.freeze, hne, false_and, if_false] at hx; exact hx
      · intro b' o' x hx
        by_cases hin : b' = b ∧ L.o ≤ o' ∧ o' < L.o + es.length * sz
        · simp only [G.freeze, if_pos hin, Option.some.injEq] at hx
          obtain ⟨rfl, h1, h2⟩ := hin
          refine .inr ⟨rfl, by rw [hcell o' (by omega), hx], ?_⟩
          have hq : (o' - L.o) / sz < es.length := (Nat.div_lt_iff_lt_mul h0).2 (by omega)
          have := (hr ((o' - L.o) / sz) ((o' - L.o) % sz) hq (Nat.mod_lt _ h0)).2
          have e : L.o + (o' - L.o) / sz * sz + (o' - L.o) % sz = o' := by
            have := Nat.div_add_mod (o' - L.o) sz
            rw [Nat.mul_comm] at this; omega
          rw [e] at this; rw [← hx]; exact this
        · simp only [G.freeze, if_neg hin] at hx; exact .inl hx
      · intro b' o' hne
        have hne : b' ≠ b := fun e => hne (by rw [e])
        simp only [G.freeze, hne, false_and, if_false]
      · intro b1 hb1 i j hi hj
        obtain rfl := Option.some.inj hb1
        have h1 : i * sz + j < es.length * sz := by
          have := Nat.mul_le_mul_right sz (show i + 1 ≤ es.length from hi)
          rw [Nat.add_mul] at this; omega
        refine ⟨?_, (hr i j hi hj).1⟩
        simp only [G.freeze]
        rw [if_pos ⟨by trivial, by omega, by omega⟩]
  obtain ⟨g', vals, hg, hd, hB, hw0, hnv', hloc, himm, hsame, hrow⟩ := main
  have frz : ∀ {v v' : V} {x : Value}, Frz ver sz es v v' → VRel g v x → VRel g' v' x := fun hf hx => Frz.rel hg hL hsz h0 hlen hT (fun hb => by rw [hb] at hblk; exact hblk) hrow hf hx
  refine ⟨g', hg, hd, ?_, fun v v' x hf hx => frz hf hx⟩
  refine ⟨by rw [hnv, hs.nv, hnv'], by rw [hB]; exact hs.B, by rw [hB, hw0]; exact hs.below, ?_, by rw [hnv', hloc]; exact hs.fresh, ?_, ?_, ?_, ?_, by rw [hd]; exact hs.dnd⟩
  · intro b o x hx
    rcases himm b o x hx with h | ⟨_, h1, h2⟩
    · exact hs.imm b o x h
    · exact ⟨h1, h2⟩
  · intro id1 ver1 o1 h1
    obtain ⟨hne, o0, h2, hof⟩ := hobj _ _ _ h1
    obtain ⟨L1, hL1, h3⟩ := hs.obj _ _ _ h2
    refine ⟨L1, by rw [hloc]; exact hL1, ?_⟩
    rcases hof with rfl | ⟨s, rs, rs', rfl, rfl, k1, k2, k3⟩
    · exact h3.mono hg (fun _ _ => rfl)
    · simp only [OLoc] at h3 ⊢
      obtain ⟨m1, m2, m3, m4, m5⟩ := h3
      refine ⟨m1, m2, fun i hi => by rw [← k2 i (by omega)]; exact m3 i (by omega), by omega, ?_⟩
      cases hb : L1.blk with
      | none => rw [hb] at m5; exact m5
      | some b =>
        rw [hb] at m5
        obtain ⟨c, t', hc, hcs, hr⟩ := m5
        exact ⟨c, t', hc, hcs, fun i j hi hj => ⟨frz (k3 i j (by omega)) (hr i j (by omega) hj).1, (hr i j (by omega) hj).2⟩⟩
  · intro id1 ver1 o1 L1 b h1 hL1 hb
    obtain ⟨hne, o0, h2, _⟩ := hobj _ _ _ h1
    rw [hloc] at hL1
    have := hs.own _ _ _ _ _ h2 hL1 hb
    refine ⟨by rw [hB]; exact this.1, this.2.1, fun off => ?_, by rw [hd]; exact this.2.2.2⟩
    rw [hsame b off (fun e => hs.dis _ _ _ _ _ _ _ _ _ ho h2 (fun e => hne e.symm) hL hL1 e hb)]
    exact this.2.2.1 off
  · intro id1 id2 ver1 ver2 o1 o2 L1 L2 b h1 h2 hne hL1 hL2 hb
    rw [hloc] at hL1 hL2
    obtain ⟨_, o1', h1', _⟩ := hobj _ _ _ h1
    obtain ⟨_, o2', h2', _⟩ := hobj _ _ _ h2
    exact hs.dis _ _ _ _ _ _ _ _ _ h1' h2' hne hL1 hL2 hb
  · intro D hD
    rw [hd] at hD
    have := hs.dfr D hD
    refine ⟨by rw [hB]; exact this.1, this.2.1, fun off => ?_⟩
    rw [hsame D.1 off (fun e => (hs.own _ _ _ _ _ ho hL e).2.2.2 (List.mem_map_of_mem hD))]; exact this.2.2 off

end Go.Proofs.Ytmjnpfackanhlaa.AM
