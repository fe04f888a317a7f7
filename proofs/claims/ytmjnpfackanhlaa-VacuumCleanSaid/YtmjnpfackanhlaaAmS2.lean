/- The abstract layer: less known of a value; a call that only looks. -/
import Derived.Test.YtmjnpfackanhlaaAmS
namespace Go.Proofs.Ytmjnpfackanhlaa.AM
open Go Go.RowKit
set_option linter.unusedSimpArgs false
set_option linter.unusedVariables false
variable {P : Program}

/-- Less is known of the second. -/
inductive LeV : V → V → Prop where
  | refl (v : V) : LeV v v
  | junk (v : V) : LeV v .junk
  | nil (s sz : Nat) : LeV (.sl .nil s [] []) (.sl .unk sz [] [])
  | none (k : SK) (s sz : Nat) (h : 0 < sz) : LeV (.sl k s [] []) (.sl .unk sz [] [])
  | sl (k : SK) (sz : Nat) (es es' sp : List (List V)) (hl : es.length = es'.length) (hr : ∀ i, i < es.length → (es.getD i []).length = (es'.getD i []).length)
      (h : ∀ i j, i < es.length → LeV ((es.getD i []).getD j .junk) ((es'.getD i []).getD j .junk)) : LeV (.sl k sz es sp) (.sl .unk sz es' [])
  | agg (cs cs' : List V) (hl : cs.length = cs'.length) (h : ∀ i, LeV (cs.getD i .junk) (cs'.getD i .junk)) : LeV (.agg cs) (.agg cs')
  | tup (cs cs' : List V) (hl : cs.length = cs'.length) (h : ∀ i, LeV (cs.getD i .junk) (cs'.getD i .junk)) : LeV (.tup cs) (.tup cs')

theorem LeV.rel {g : G} {v v' : V} (h : LeV v v') : ∀ {x : Value}, VRel g v x → VRel g v' x := by
  induction h with
  | refl v => exact id
  | junk v => intro x _; exact .junk x
  | nil s sz =>
    intro x hx
    cases hx with
    | sl _ _ _ _ _ _ _ _ hk => exact absurd rfl hk
    | snil => exact .snil _ _ (.inr rfl)
    | semp _ _ a cap => exact .semp .unk sz a cap (by simp) (by simp)
  | none k s sz h0 =>
    intro x hx
    cases hx with
    | sl _ _ _ _ b o cap vals hk hk0 hsz hc he hi hr =>
      exact .sl .unk sz [] [] b o cap vals (by simp) (by simp) h0 (by simp) (fun i hi => by simp at hi) (fun i j hi => by simp at hi) (fun i j hi => by simp at hi)
    | snil => exact .snil _ _ (.inr rfl)
    | semp _ _ a cap => exact .semp .unk sz a cap (by simp) (by simp)
  | sl k sz es es' sp hl hr h ih =>
    intro x hx
    cases hx with
    | sl _ _ _ _ b o cap vals hk hk0 hsz hc he hi hrr =>
      have q : ∀ i, i < es.length → (es ++ sp).getD i [] = es.getD i [] := by
        intro i hi; simp [List.getD, List.getElem?_append_left hi]
      rw [hl]
      refine .sl .unk sz es' [] b o cap vals (by simp) (by simp) hsz (by simp at hc ⊢; omega) ?_ ?_ ?_
      · intro i h1
        simp only [List.append_nil] at h1 ⊢
        rw [← hr i (by omega), ← q i (by omega)]; exact he i (by simp; omega)
      · intro i j h1 h2
        simp only [List.append_nil] at h1
        exact hi i j (by simp; omega) h2
      · intro i j h1 h2
        simp only [List.append_nil] at h1 ⊢
        have := hrr i j (by simp; omega) h2
        rw [q i (by omega)] at this
        exact ih i j (by omega) this
    | semp _ _ a cap =>
      have : es' = [] := List.eq_nil_of_length_eq_zero (by simpa using hl.symm)
      subst this; exact .semp .unk sz a cap (by simp) (by simp)
    | snil _ _ hk =>
      have : es' = [] := List.eq_nil_of_length_eq_zero (by simpa using hl.symm)
      subst this; exact .snil _ _ (.inr rfl)
  | agg cs cs' hl h ih =>
    intro x hx
    cases hx with
    | agg _ vs hv h1 h2 => exact .agg cs' vs (by omega) (fun i hi => ih i (h1 i (by omega))) (fun i hi => h2 i (by omega))
  | tup cs cs' hl h ih =>
    intro x hx
    cases hx with
    | tup _ vs hv h1 => exact .tup cs' vs (by omega) (fun i hi => ih i (h1 i (by omega)))

theorem LeV.slk {k : SK} {sz : Nat} {es sp : List (List V)} : LeV (.sl k sz es sp) (.sl .unk sz es []) := .sl _ _ _ _ _ rfl (fun _ _ => rfl) (fun _ _ _ => .refl _)

/-- Less is known of a row. -/
def LeVs (as bs : List V) : Prop := as.length = bs.length ∧ ∀ i, LeV (as.getD i .junk) (bs.getD i .junk)
theorem LeVs.refl (as : List V) : LeVs as as := ⟨rfl, fun _ => .refl _⟩
theorem LeVs.nil : LeVs [] [] := .refl _
theorem LeVs.cons {a b : V} {as bs : List V} (h : LeV a b) (k : LeVs as bs) : LeVs (a :: as) (b :: bs) :=
  ⟨by simp [k.1], fun i => by cases i with | zero => exact h | succ i => simpa using k.2 i⟩
theorem LeV.aggs {as bs : List V} (h : LeVs as bs) : LeV (.agg as) (.agg bs) := .agg _ _ h.1 h.2
theorem ACalls.le {f : FuncId} {args args' : List V} {st : St} {K : V → St → Prop} (h : ACalls P f args' st K) (hl : LeVs args args') : ACalls P f args st K :=
  ⟨h.1, fun g w Args hs hA => h.2 g w Args hs ⟨hl.1 ▸ hA.1, fun i hi => (hl.2 i).rel (hA.2 i (by rw [hl.1]; exact hi))⟩⟩

theorem GhostV.le {vs vs' : List V} {st : St} {K : List V → St → Prop} (hl : LeVs vs vs') (hk : K vs' st) : GhostV vs st K :=
  ⟨vs', st, hl.1.symm, fun _ g _ hs => ⟨g, .refl g, rfl, hs, fun i x hx => (hl.2 i).rel hx⟩, hk⟩

/-! a call that only looks -/
mutual
/-- A value that refers to nothing. -/
def V.flat : V → Bool
  | .bool _ | .int _ _ | .str _ | .nilp | .nilm | .nilf | .nili | .junk => true
  | .sl _ _ es sp => es.isEmpty && sp.isEmpty
  | .agg cs => flatL cs
  | .tup cs => flatL cs
  | _ => false
def flatL : List V → Bool
  | [] => true
  | v :: l => v.flat && flatL l
end
theorem flatL_get : ∀ {l : List V}, flatL l = true → ∀ i, (l.getD i .junk).flat = true
  | [], _, i => by simp [List.getD]; rfl
  | v :: l, h, 0 => by simp only [flatL, Bool.and_eq_true] at h; exact h.1
  | v :: l, h, i + 1 => by
    simp only [flatL, Bool.and_eq_true] at h
    have := flatL_get h.2 i
    simpa [List.getD] using this

theorem VRel.flat {g g' : G} {v : V} {x : Value} (h : VRel g v x) : v.flat = true → VRel g' v x := by
  induction h with
  | bool b => intro _; exact .bool b
  | int k n => intro _; exact .int k n
  | str s => intro _; exact .str s
  | nilp => intro _; exact .nilp
  | sl k sz es sp b o cap vals hk hk0 hsz hc he h1 _ ih =>
    intro hp; simp only [V.flat, Bool.and_eq_true, List.isEmpty_iff] at hp
    obtain ⟨rfl, rfl⟩ := hp
    exact .sl k sz [] [] b o cap vals hk hk0 hsz hc he (fun i j h => by simp at h) (fun i j h => by simp at h)
  | snil k sz hk => intro _; exact .snil k sz hk
  | semp k sz a cap hk hk0 => intro _; exact .semp k sz a cap hk hk0
  | nilm => intro _; exact .nilm
  | nilf => intro _; exact .nilf
  | agg cs vs hl _ h1 ih => intro hp; simp only [V.flat] at hp; exact .agg cs vs hl (fun i h => ih i h (flatL_get hp i)) h1
  | tup cs vs hl _ ih => intro hp; simp only [V.flat] at hp; exact .tup cs vs hl (fun i h => ih i h (flatL_get hp i))
  | nili => intro _; exact .nili
  | junk x => intro _; exact .junk x
  | _ => intro hp; simp [V.flat] at hp

/-- The second is what the first looks like, now. -/
inductive Bor (st : St) : V → V → Prop where
  | refl (v : V) : Bor st v v
  | msl (id ver off len sz : Nat) (es es' : List (List V)) (ho : st.get id ver = some (.mem sz es)) (h : off + len ≤ es.length) (hl : es'.length = len) (hr : ∀ i, i < len → (es'.getD i []).length = sz)
      (hb : ∀ i j, i < len → j < sz → Bor st ((es.getD (off + i) []).getD j .junk) ((es'.getD i []).getD j .junk)) : Bor st (.msl id ver off len) (.sl .unk sz es' [])
  | ptr (id ver i off sz : Nat) (es : List (List V)) (cs : List V) (ho : st.get id ver = some (.mem sz es)) (h : i < es.length) (hl : cs.length = sz)
      (hb : ∀ j, j < sz → Bor st ((es.getD i []).getD j .junk) (cs.getD j .junk)) : Bor st (.ptr id ver i off) (.eptr cs off)
  | agg (cs cs' : List V) (hl : cs.length = cs'.length) (h : ∀ i, i < cs.length → Bor st (cs.getD i .junk) (cs'.getD i .junk)) : Bor st (.agg cs) (.agg cs')
  | fn (f : Fn) (a a' b b' : List V) (hl : a.length = a'.length) (hl2 : b.length = b'.length) (h : ∀ i, i < a.length → Bor st (a.getD i .junk) (a'.getD i .junk))
      (h2 : ∀ i, i < b.length → Bor st (b.getD i .junk) (b'.getD i .junk)) : Bor st (.fn f a b) (.fn f a' b')

open Classical in
/-- The ghost of a call that only looks: the objects' cells do not change meanwhile. -/
noncomputable def G.bor (g : G) (st : St) (w : World) : G :=
  { B := w.heap.size, w0 := w, nv := 0, loc := fun _ => none, born := fun _ => [], clk := fun _ => 0, dfr := [],
    imm := fun b o => match g.imm b o with
      | some x => some x
      | none => if ∃ id ver sz es L, st.get id ver = some (.mem sz es) ∧ g.loc ver = some L ∧ L.blk = some b then
          (match w.cell? ⟨b, o, none⟩ with | some x => if x.oneCell' = true then some x else none | none => none) else none }

theorem Bor.rel {g : G} {st : St} {w : World} (hs : Sim P g st w) {v v' : V} (h : Bor st v v') : ∀ {x : Value}, VRel g v x → v'.pure = true → VRel (g.bor st w) v' x := by
  have hle : ∀ b o x, g.imm b o = some x → (g.bor st w).imm b o = some x := by
    intro b o x h; simp only [G.bor, h]
  have hcell : ∀ id ver sz es (L : Loc) b, st.get id ver = some (.mem sz es) → g.loc ver = some L → L.blk = some b → ∀ o x, w.cell? ⟨b, o, none⟩ = some x → x.oneCell' = true → (g.bor st w).imm b o = some x := by
    intro id ver sz es L b ho hL hb o x hx h1
    have hown := hs.own _ _ _ _ _ (get_objs ho) hL hb
    simp only [G.bor, hown.2.2.1 o]
    rw [if_pos ⟨id, ver, sz, es, L, ho, hL, hb⟩, hx]
    simp [h1]
  induction h with
  | refl v => intro x hx hp; exact hx.pure hle hp
  | msl id ver off len sz es es' ho h hl hr hb ih =>
    intro x hx hp
    simp only [V.pure, Bool.and_eq_true] at hp
    have hm0 := hs.obj _ _ _ (get_objs ho)
    cases hx with
    | mnil _ _ L hL hblk =>
      obtain rfl := List.eq_nil_of_length_eq_zero hl
      exact .snil _ _ (.inr rfl)
    | msl _ _ _ _ b a L hL hblk hT ha hpt =>
      obtain ⟨L', hL', hm⟩ := hm0
      obtain rfl := Option.some.inj (hL.symm.trans hL')
      simp only [OLoc] at hm
      have hm2 := hm
      obtain ⟨hsz, h0, hlen, hT', hrow⟩ := hm2
      obtain ⟨c, t, hc, hcs, hrr⟩ := mem_row hm hblk
      have key : ∀ (b' o' : Nat), (0 < len → b' = b ∧ o' = L.o + off * sz) → a = ⟨b', o', none⟩ → VRel (g.bor st w) (.sl .unk sz es' []) (.slice (some a) len (L.T - off)) := by
        intro b' o' hbo hab
        have := VRel.sl (g := g.bor st w) .unk sz es' [] b' o' (L.T - off) (fun i j => c.getD (L.o + (off + i) * sz + j) undef) (by simp) (by simp) h0 (by simp; omega)
          (fun i hi' => by simp only [List.append_nil] at hi' ⊢; exact hr i (by omega)) (fun i j hi' hj => by
            simp only [List.append_nil] at hi'
            obtain ⟨rfl, rfl⟩ := hbo (by omega)
            have hlt : L.o + (off + i) * sz + j < c.size := by
              have : (off + i + 1) * sz ≤ L.T * sz := Nat.mul_le_mul_right _ (by omega)
              rw [Nat.add_mul] at this; omega
            have hk := hcell _ _ _ _ _ _ ho hL hblk (L.o + (off + i) * sz + j) _ (by simp only [World.cell?, hc]; simp [Array.getElem?_eq_getElem hlt]; rfl) (by
              have := (hrr (off + i) j (by omega) hj).2
              simpa [Array.getD, hlt] using this)
            have e : L.o + off * sz + i * sz + j = L.o + (off + i) * sz + j := by rw [Nat.add_mul]; omega
            rw [e, hk]; simp [Array.getD, hlt])
          (fun i j hi' hj => by
            simp only [List.append_nil] at hi' ⊢
            exact ih i j (by omega) hj (hrr (off + i) j (by omega) hj).1 (pureL_get (pureLL_get hp.1 i) j))
        rw [hl, ← hab] at this; exact this
      by_cases hof : 0 < len
      · have hav := ha (by omega)
        rw [hsz] at hav
        exact key b _ (fun _ => ⟨rfl, rfl⟩) hav
      · refine key a.block a.off (fun h => by omega) ?_
        cases a; simp only at hpt ⊢; rw [hpt]
  | ptr id ver i off sz es cs ho h hl hb ih =>
    intro x hx hp
    simp only [V.pure] at hp
    obtain ⟨L', hL', hm⟩ := hs.obj _ _ _ (get_objs ho)
    cases hx with
    | ptr _ _ _ _ b L hL hblk =>
      obtain rfl := Option.some.inj (hL.symm.trans hL')
      simp only [OLoc] at hm
      have hm2 := hm
      obtain ⟨hsz, h0, hlen, hT', hrow⟩ := hm2
      obtain ⟨c, t, hc, hcs, hrr⟩ := mem_row hm hblk
      have hlt : ∀ j, j < sz → L.o + i * sz + j < c.size := by
        intro j hj
        have : (i + 1) * sz ≤ L.T * sz := Nat.mul_le_mul_right _ (by omega)
        rw [Nat.add_mul] at this; omega
      have := VRel.eptr (g := g.bor st w) cs off b (L.o + i * sz) (fun j => c.getD (L.o + i * sz + j) undef) (fun j hj => by
        have hj : j < sz := by omega
        have hk := hcell _ _ _ _ _ _ ho hL hblk (L.o + i * sz + j) _ (by simp only [World.cell?, hc]; simp [Array.getElem?_eq_getElem (hlt j hj)]; rfl) (by
          have := (hrr i j h hj).2
          simpa [Array.getD, hlt j hj] using this)
        rw [hk]; simp [Array.getD, hlt j hj]) (fun j hj => ih j (by omega) (hrr i j h (by omega)).1 (pureL_get hp j))
      rw [hsz]; exact this
  | agg cs cs' hl h ih =>
    intro x hx hp
    simp only [V.pure] at hp
    cases hx with
    | agg _ vs hv h1 h2 => exact .agg cs' vs (by omega) (fun i hi => ih i (by omega) (h1 i (by omega)) (pureL_get hp i)) (fun i hi => h2 i (by omega))
  | fn f a a' b b' hl hl2 h h2 ih ih2 =>
    intro x hx hp
    simp only [V.pure, Bool.and_eq_true] at hp
    cases hx with
    | fn _ _ _ fs cs h3 h4 h5 h6 => exact .fn f a' b' fs cs (by omega) (by omega) (fun i hi => ih i (by omega) (h5 i (by omega)) (pureL_get hp.1 i)) (fun i hi => ih2 i (by omega) (h6 i (by omega)) (pureL_get hp.2 i))

theorem Sim.bor {g : G} {st : St} {w : World} (h : Sim P g st w) : Sim P (g.bor st w) st0 w := by
  refine ⟨rfl, Nat.le_refl _, .refl _ _, fun b o x hx => ?_, fun _ _ => rfl, fun id ver o ho => by simp [st0] at ho, fun id ver o L b ho => by simp [st0] at ho, fun id id' ver ver' o o' L L' b ho => by simp [st0] at ho,
    (fun D hD => by cases hD), List.nodup_nil⟩
  simp only [G.bor] at hx
  split at hx
  · rename_i y hy
    simp only [Option.some.injEq] at hx; subst hx; exact h.imm b o y hy
  · split at hx
    · split at hx
      · rename_i y hy
        split at hx
        · rename_i h1; simp only [Option.some.injEq] at hx; subst hx; exact ⟨hy, h1⟩
        · cases hx
      · cases hx
    · cases hx

/-- The world is as it was, below. -/
theorem Sim.same {g : G} {st : St} {w w' : World} (h : Sim P g st w) (hbel : Below w.heap.size w w') : Sim P g st w' := by
  have hsame : ∀ k, k < w.heap.size → w'.heap[k]? = w.heap[k]? := hbel.block
  refine ⟨h.nv, Nat.le_trans h.B hbel.size, ⟨hbel.os.trans h.below.os, hbel.tape.trans h.below.tape, hbel.output.trans h.below.output, Nat.le_trans h.below.size hbel.size, fun k hk => (hsame k (Nat.lt_of_lt_of_le hk h.B)).trans (h.below.block k hk)⟩,
    fun b o x hx => ?_, h.fresh, ?_, ?_, h.dis, ?_, h.dnd⟩
  · have hc := h.imm b o x hx
    exact ⟨(cell_same (hsame b (lt_of_cell hc.1))).trans hc.1, hc.2⟩
  · intro id ver o ho
    obtain ⟨L, hL, h2⟩ := h.obj _ _ _ ho
    exact ⟨L, hL, h2.mono (.refl g) (fun b hb => hsame b (h.own _ _ _ _ _ ho hL hb).2.1)⟩
  · intro id ver o L b ho hL hb
    have := h.own _ _ _ _ _ ho hL hb
    exact ⟨this.1, Nat.lt_of_lt_of_le this.2.1 hbel.size, this.2.2⟩
  · intro D hD
    have := h.dfr D hD
    exact ⟨this.1, (hsame D.1 (Array.getElem?_eq_some_iff.1 this.2.1).1).trans this.2.1, this.2.2⟩

def Bors (st : St) (as bs : List V) : Prop := as.length = bs.length ∧ ∀ i, i < as.length → Bor st (as.getD i .junk) (bs.getD i .junk)
theorem Bors.nil {st : St} : Bors st [] [] := ⟨rfl, fun i h => by simp at h⟩
theorem Bors.cons {st : St} {a b : V} {as bs : List V} (h : Bor st a b) (k : Bors st as bs) : Bors st (a :: as) (b :: bs) :=
  ⟨by simp [k.1], fun i hi => by cases i with | zero => exact h | succ i => simpa using k.2 i (by simpa using hi)⟩
theorem Bors.refl {st : St} {as : List V} : Bors st as as := ⟨rfl, fun i h => .refl _⟩

/-- A function by itself, called with what others may write later; its answer refers to nothing. -/
theorem PCalls.look {f : FuncId} {args args' : List V} {R : V → Prop} (h : PCalls P f args' R) (hp : pureL args' = true) {st : St} (hb : Bors st args args') {K : V → St → Prop} (hk : ∀ r, R r → r.flat = true ∧ K r st) : ACalls P f args st K := by
  refine ⟨h.1, fun g w Args hs hA => ?_⟩
  have hA' : VRels (g.bor st w) args' Args := ⟨hb.1 ▸ hA.1, fun i hi => (hb.2 i (by rw [hb.1]; exact hi)).rel hs (hA.2 i (by rw [hb.1]; exact hi)) (pureL_get hp i)⟩
  refine (h.2 (g.bor st w) w Args hs.bor hA').mono ?_
  rintro e w' ⟨r, x, g1, st1, rfl, e1, e2, e3, e4, e5, e6⟩
  have hB : g1.B = w.heap.size := e1.B
  have hw0 : g1.w0 = w := e1.w0
  have hbel : Below w.heap.size w w' := by have := e3.below; rw [hB, hw0] at this; exact this
  exact ⟨r, x, g, st, rfl, .refl g, rfl, hs.same hbel, e4.flat (hk r e6).1, (hk r e6).2⟩

/-- A call that only looks. -/
theorem inv_look {k : FuncId} {first cap args args' : List V} {R : V → Prop} (h : PCalls P k args' R) {st : St} {K : V → St → Prop} (hb : Bors st (first ++ args ++ cap) args') (hp : pureL args' = true) (hk : ∀ r, R r → r.flat = true ∧ K r st) : @inv P (.fn (.func k) first cap) args st ⟨K⟩ := inv_fn (h.look hp hb hk)

end Go.Proofs.Ytmjnpfackanhlaa.AM
