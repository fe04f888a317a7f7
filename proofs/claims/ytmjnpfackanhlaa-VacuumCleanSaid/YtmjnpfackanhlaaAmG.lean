/- Common lemmas for walks: ghost steps ahead of calls, numbers, rows that are handed out, iterators. -/
import Derived.Test.YtmjnpfackanhlaaVTy
namespace Go.Proofs.Ytmjnpfackanhlaa.AM
open Go
set_option linter.unusedVariables false
set_option linter.unusedSimpArgs false
variable {P : Program}

theorem CPost.le {g g' : G} (h : g.le g') (hd : g'.dfr = g.dfr) {K : V → St → Prop} : ∀ e w, CPost P g' K e w → CPost P g K e w := by
 rintro e w ⟨r, x, g1, st1, a1, a2, a3, a4, a5, a6⟩
 exact ⟨r, x, g1, st1, a1, h.trans a2, a3.trans hd, a4, a5, a6⟩

theorem ACalls.gv {f : FuncId} {args : List V} {st : St} {K : V → St → Prop} (hE : Enters P f) (h : GhostV args st fun args' st' => ACalls P f args' st' K) : ACalls P f args st K := by
 obtain ⟨as', st', hl, hg, hk⟩ := h
 refine ⟨hE, fun g w Args hs hA => ?_⟩
 obtain ⟨g', h1, h2, h3, h4⟩ := hg P g w hs
 exact (hk.2 g' w Args h3 ⟨by rw [hl]; exact hA.1, fun i hi => h4 i _ (hA.2 i (by omega))⟩).mono (CPost.le h1 h2)

theorem ACalls.ghost {f : FuncId} {args : List V} {st st' : St} {K : V → St → Prop} (hg : ∀ (P : Program) (g : G) (w : World), Sim P g st w → ∃ g', g.le g' ∧ g'.dfr = g.dfr ∧ Sim P g' st' w) (h : ACalls P f args st' K) : ACalls P f args st K := by
 refine ⟨h.1, fun g w Args hs hA => ?_⟩
 obtain ⟨g', h1, h2, h3⟩ := hg P g w hs
 exact (h.2 g' w Args h3 (hA.mono h1)).mono (CPost.le h1 h2)

theorem ghost_nilbox {L : List (Option (Nat × Obj))} {nv j ver sz s : Nat} (h0 : 0 < sz) (hj : L[j]? = some (some (ver, .mem 1 [[.sl .nil s [] []]]))) :
    ∀ (P : Program) (g : G) (w : World), Sim P g ⟨L, nv⟩ w → ∃ g', g.le g' ∧ g'.dfr = g.dfr ∧ Sim P g' ⟨L.set j (some (ver, .mem 1 [[.msl L.length nv 0 0]])) ++ [some (nv, .mem sz [])], nv + 1⟩ w := by
  intro P g w hs
  have hjl : j < L.length := (List.getElem?_eq_some_iff.1 hj).1
  obtain ⟨g', h1, h2, h3, _⟩ := nils_core (st := ⟨L, nv⟩) (st' := ⟨L.set j (some (ver, .mem 1 [[.msl L.length nv 0 0]])) ++ [some (nv, .mem sz [])], nv + 1⟩) (id := L.length) (sz := sz) h0 rfl (fun id1 ver1 o1 h => by
    simp only at h ⊢
    by_cases e : id1 < L.length
    · rw [List.getElem?_append_left (by simpa using e)] at h
      by_cases e2 : j = id1
      · subst e2
        rw [List.getElem?_set_self hjl] at h
        simp only [Option.some.injEq, Prod.mk.injEq] at h
        obtain ⟨rfl, rfl⟩ := h
        refine .inr ⟨e, _, hj, .inr ⟨1, _, _, rfl, rfl, rfl, fun i hi => by
          obtain rfl : i = 0 := by simpa using hi
          rfl, fun i k hi => ?_⟩⟩
        obtain rfl : i = 0 := by simpa using hi
        cases k with
        | zero => exact .nil s
        | succ k => simpa using Nz.refl _
      · rw [List.getElem?_set_ne e2] at h
        exact .inr ⟨e, o1, h, .inl rfl⟩
    · rw [List.getElem?_append_right (by simp; omega)] at h
      have h0 : id1 - (L.set j (some (ver, .mem 1 [[.msl L.length nv 0 0]]))).length = 0 := by have := (List.getElem?_eq_some_iff.1 h).1; simp at this ⊢; omega
      rw [h0] at h; simp at h
      exact .inl ⟨by simp at h0; omega, h.1.symm, h.2.symm⟩) P g w hs
  exact ⟨g', h1, h2, h3⟩

theorem wsub1 {x : Nat} (h : x < 2 ^ 63) (h0 : 0 < x) : IntKind.i64.wrap ((x : Int) - 1) = ((x - 1 : Nat) : Int) := by rw [wrap_i64 (by omega)]; omega
theorem wadd1 {x : Nat} (h : x < 2 ^ 62) : IntKind.i64.wrap ((x : Int) + 1) = ((x + 1 : Nat) : Int) := by rw [wrap_i64 (by omega)]; omega
theorem wsub {x y : Nat} (h : x < 2 ^ 62) (h0 : y ≤ x) : IntKind.i64.wrap ((x : Int) - (y : Int)) = ((x - y : Nat) : Int) := by rw [wrap_i64 (by omega)]; omega
theorem set_self {L : List (Option (Nat × Obj))} {id : Nat} {x : Option (Nat × Obj)} (h : L[id]? = some x) : L.set id x = L := by
 obtain ⟨hl, hx⟩ := List.getElem?_eq_some_iff.1 h
 apply List.ext_getElem?
 intro j
 by_cases e : id = j
 ·subst e; rw [List.getElem?_set_self hl, h]
 ·rw [List.getElem?_set_ne e]


theorem GhostV.rowk {L M : List (Option (Nat × Obj))} {nv id ver sz off len : Nat} {es : List (List V)} {rest : List V} {K : List V → St → Prop} (hid : L.length ≤ id) (ho : (L ++ M)[id]? = some (some (ver, .mem sz es))) (h : off + len ≤ es.length)
    (hk : K (.sl .unk sz ((es.drop off).take len) [] :: rest) ⟨L, nv⟩) : GhostV (.msl id ver off len :: rest) ⟨L ++ M, nv⟩ K :=
  GhostV.trans (GhostV.freeze (vs' := .sl .unk sz ((es.drop off).take len) ((es.drop off).drop len) :: rest) (st' := ⟨L, nv⟩) (K := fun vs st' => vs = .sl .unk sz ((es.drop off).take len) ((es.drop off).drop len) :: rest ∧ st' = ⟨L, nv⟩) (id := id) (ver := ver) (sz := sz) (es := es) (by simp [St.get, ho]) rfl rfl (fun i => by
    cases i with
    | zero => exact .msl id off len h
    | succ i => simpa using Frz.refl _) (fun id1 ver1 o1 h1 => by
      have hlt : id1 < L.length := (List.getElem?_eq_some_iff.1 h1).1
      exact ⟨by omega, o1, by show (L ++ M)[id1]? = _; rw [List.getElem?_append_left hlt]; exact h1, .inl rfl⟩) ⟨rfl, rfl⟩) (by rintro _ _ ⟨rfl, rfl⟩; exact GhostV.le (LeVs.cons .slk (LeVs.refl _)) hk)
theorem GhostV.keep {L M : List (Option (Nat × Obj))} {nv : Nat} {vs : List V} {K : List V → St → Prop} (hk : K vs ⟨L, nv⟩) : GhostV vs ⟨L ++ M, nv⟩ K := by
 have := GhostV.take (vs := vs) (st := ⟨L ++ M, nv⟩) (K := K) L.length (by simpa using hk)
 exact this

theorem AInvE.ghost {Y : V} {args : List V} {st st' : St} {K : V → St → Prop} (hg : ∀ (P : Program) (g : G) (w : World), Sim P g st w → ∃ g', g.le g' ∧ g'.dfr = g.dfr ∧ Sim P g' st' w) (h : AInvE P Y args st' K) : AInvE P Y args st K := by
 intro g w Fv Args h1 h2 h3
 obtain ⟨g', a1, a2, a3⟩ := hg P g w h1
 obtain ⟨d, hd, f, as, h4, h5⟩ := h g' w Fv Args a3 (h2.mono a1) (h3.mono a1)
 exact ⟨d, hd, f, as, h4, h5.mono (CPost.le a1 a2)⟩

def IterC {α : Type} (P : Program) (enc : α → List V) (sq : V) (Q : List (Option (Nat × Obj)) → Prop) (dom : List α → Prop) : Prop :=
 ∀ (yv : V) (N : Nat) (J : List α → List (Option (Nat × Obj)) → Prop) (S : List α → List (Option (Nat × Obj)) → Prop) (L0 : List (Option (Nat × Obj))) (nv0 : Nat) (K : V → St → Prop),
  (∀ ys L', J ys L' → L'.length = N ∧ Q L') → (∀ ys L', S ys L' → L'.length = N) →
  (∀ (ys : List α) (x : α) (L' G : List (Option (Nat × Obj))) (nv : Nat) (K' : Kont), J ys L' → (∃ rest, dom (ys ++ x :: rest)) →
   (∀ L'' H nv', J (ys ++ [x]) L'' → K'.f (.bool true) ⟨L'' ++ (G ++ H), nv'⟩) → (∀ L'' H nv', S (ys ++ [x]) L'' → K'.f (.bool false) ⟨L'' ++ (G ++ H), nv'⟩) → @inv P yv (enc x) ⟨L' ++ G, nv⟩ K') →
  J [] L0 → (∀ ys L' nv, J ys L' → dom ys → K (.tup []) ⟨L', nv⟩) → (∀ ys L' nv, S ys L' → K (.tup []) ⟨L', nv⟩) → AInvE P sq [yv] ⟨L0, nv0⟩ K
theorem GhostV.ghost {vs : List V} {st st' : St} {K : List V → St → Prop} (hg : ∀ (P : Program) (g : G) (w : World), Sim P g st w → ∃ g', g.le g' ∧ g'.dfr = g.dfr ∧ Sim P g' st' w) (hk : K vs st') : GhostV vs st K :=
 ⟨vs, st', rfl, fun P g w hs => by obtain ⟨g', a, b, c⟩ := hg P g w hs; exact ⟨g', a, b, c, fun i x hx => hx.mono a⟩, hk⟩
theorem GhostV.rowx {L : List (Option (Nat × Obj))} {nv id ver sz off len : Nat} {es : List (List V)} {rest : List V} {K : List V → St → Prop} (ho : L[id]? = some (some (ver, .mem sz es))) (h : off + len ≤ es.length)
    (hk : K (.sl .unk sz ((es.drop off).take len) [] :: rest) ⟨L.set id none, nv⟩) : GhostV (.msl id ver off len :: rest) ⟨L, nv⟩ K :=
  GhostV.trans (GhostV.freeze (vs' := .sl .unk sz ((es.drop off).take len) ((es.drop off).drop len) :: rest) (st' := ⟨L.set id none, nv⟩) (K := fun vs st' => vs = .sl .unk sz ((es.drop off).take len) ((es.drop off).drop len) :: rest ∧ st' = ⟨L.set id none, nv⟩) (id := id) (ver := ver) (sz := sz) (es := es) (by simp [St.get, ho]) rfl rfl (fun i => by
    cases i with
    | zero => exact .msl id off len h
    | succ i => simpa using Frz.refl _) (fun id1 ver1 o1 h1 => by
      by_cases e : id = id1
      · subst e
        simp only at h1
        rw [List.getElem?_set_self (List.getElem?_eq_some_iff.1 ho).1] at h1
        cases h1
      · simp only at h1
        rw [List.getElem?_set_ne e] at h1
        exact ⟨fun q => e q.symm, o1, h1, .inl rfl⟩) ⟨rfl, rfl⟩) (by rintro _ _ ⟨rfl, rfl⟩; exact GhostV.le (LeVs.cons .slk (LeVs.refl _)) hk)
end Go.Proofs.Ytmjnpfackanhlaa.AM
