/- The abstract layer: append, joined. -/
import Derived.Test.YtmjnpfackanhlaaAmOps7
namespace Go.Proofs.Ytmjnpfackanhlaa.AM
open Go Go.RowKit
set_option linter.unusedSimpArgs false
set_option linter.unusedVariables false
variable {P : Program} {g : G} {st : St} {w : World}

theorem da_size (o : Go.Obj) : (w.drew.alloc o).heap.size = w.heap.size + 1 := by show (w.heap.push o).size = _; simp
theorem da_new (o : Go.Obj) : (w.drew.alloc o).heap[w.heap.size]? = some o := by show (w.heap.push o)[w.heap.size]? = _; simp

theorem append_cut (hs : Sim P g st w) {sT xT ty e sz bytes : Nat} {i : TypeInfo} (hu : P.underlying sT = some (.slice e)) (hx : (∃ e', P.underlying xT = some (.slice e')) ∨ P.underlying xT = some .string) (hi : P.info? e = some i) (hisz : i.size = sz) (hib : i.bytes = bytes) (hb0 : bytes ≠ 0)
    {z : List V} (hz : zeroT P e = some z) (hzl : z.length = sz) (h0 : 0 < sz) {id ver len : Nat} {Y : V} {x y : Value} (hX : VRel g (.mcut id ver len) x) (hY : VRel g Y y) {ys : List (List V)} (hsrc : srcV st sz Y = some ys) {v : V} {st' : St} (ha : appendV st sz bytes (.mcut id ver len) ys = some (v, st')) :
    Done P g st' v ((Builtin.append_ #[sT, xT] ty #[x, y]).run P w) := by
  obtain ⟨hlen, nvs0, hnew0, hnvs0⟩ := src_ok hs.reads h0 hY hsrc
  have hs' : Sim P g st w.drew := hs.drew (w.drawn + 1)
  obtain ⟨_, nvs, hnew, hnvs⟩ := src_ok hs'.reads h0 hY hsrc
  simp only [appendV] at ha
  split at ha
  · rename_i sz' es ho
    split at ha
    · rename_i hc
      obtain ⟨rfl, hle, hroom⟩ := hc
      simp only [Option.some.injEq, Prod.mk.injEq] at ha
      obtain ⟨rfl, rfl⟩ := ha
      have hobj := get_objs ho
      obtain ⟨L, hL, hm⟩ := hs.obj _ _ _ hobj
      obtain ⟨m1, m2, m3, m4, m5⟩ := hm
      have hfr := hs.fresh _ (Nat.le_refl _)
      obtain ⟨os, hos⟩ : ∃ os, os = es.take len := ⟨_, rfl⟩
      have hol : os.length = len := by rw [hos]; simp; omega
      have hog : ∀ i, i < len → os.getD i [] = es.getD i [] := fun i hi => by rw [hos]; simp only [List.getD, List.getElem?_take]; rw [if_pos hi]
      rw [← hos]
      cases hX with
      | mcutn _ _ L' hL' hb =>
        cases hL.symm.trans hL'
        rw [hb] at m5
        have m5 : L.T = 0 := m5
        have hes : es = [] := List.eq_nil_of_length_eq_zero (by omega)
        subst hes
        have hos' : os = [] := List.eq_nil_of_length_eq_zero hol
        subst hos'
        by_cases hy0 : ys = []
        · subst hy0
          let L2 : Loc := ⟨none, L.o, sz', 0⟩
          have hle2 := G.add_le (g := g) L2 hfr
          refine ⟨_, _, g.add L2, append_nil0 hu hx hi hisz hlen hnew0, hle2, rfl, ?_, ?_⟩
          · have := hs.turn (ver' := g.nv) (o' := .mem sz' []) (L' := L2) (w' := w) hobj hL hle2 rfl rfl rfl rfl (G.add_fresh L2 hs.fresh) ⟨rfl, rfl, rfl, Nat.le_refl _, fun _ _ _ => rfl⟩ (G.add_loc L2) (fun b hb => by cases hb) ⟨rfl, m2, fun i hi => by simp at hi, by simp [L2], rfl⟩
            simp only [St.renew, hs.nv]; exact this
          · rw [hs.nv]; exact .mnil id g.nv L2 (G.add_loc L2) rfl
        · have hpos : 0 < ys.length := by cases ys <;> simp at hy0 ⊢
          have hold : (Builtin.firstCells sz' 0 (.slice none 0 0)).run P w.drew = .ok #[] w.drew := by simp [Builtin.firstCells]
          obtain ⟨c, vs, h1, h2, h3, h4⟩ := append_grow hs.reads (ty := ty) hu hx hi hisz hib hb0 hz hzl h0 (os := []) hold ⟨by simp, ⟨by simp, fun i hi => by simp at hi, fun i j hi _ => by simp at hi⟩, rfl⟩ hlen hnew hnvs (by omega) (by simpa using hroom)
          simp only [Nat.zero_add, List.nil_append] at h1 h2 h4
          let L2 : Loc := ⟨some w.heap.size, 0, sz', c⟩
          have hle2 := G.add_le (g := g) L2 hfr
          refine ⟨_, _, g.add L2, h1, hle2, rfl, ?_, ?_⟩
          · have := hs'.turn (ver' := g.nv) (o' := .mem sz' ys) (L' := L2) (w' := w.drew.alloc (.cells vs e)) hobj hL hle2 rfl rfl rfl rfl (G.add_fresh L2 hs.fresh) ⟨rfl, rfl, rfl, by rw [da_size]; exact Nat.le_succ _, fun k hk _ => Below.heap_alloc _ _ k hk⟩ (G.add_loc L2) (fun b hb => by simp [L2] at hb; subst hb; exact .inr ⟨Nat.le_refl _, by rw [da_size]; exact Nat.lt_succ_self _⟩)
              ⟨rfl, m2, h4.2.1, h2, vs, e, da_new _, by simpa [L2] using h3, fun i j hi hj => ⟨(h4.2.2 i j hi hj).1.mono hle2, (h4.2.2 i j hi hj).2⟩⟩
            simp only [St.renew, hs.nv, List.nil_append]; exact this
          · rw [hs.nv]
            have := VRel.msl (g := g.add L2) id g.nv 0 ys.length w.heap.size ⟨w.heap.size, 0, none⟩ _ (G.add_loc _) rfl (by simpa [L2] using h2) (by intro _; simp [L2]) rfl
            simpa [L2] using this
      | mcut _ _ _ b a L' hL' hb hT hadr hp =>
        cases hL.symm.trans hL'
        rw [hb] at m5
        obtain ⟨c, t, hcell, hcs, hr⟩ := m5
        by_cases hy0 : ys = []
        · subst hy0
          let L2 : Loc := ⟨some b, L.o, sz', len⟩
          have hle2 := G.add_le (g := g) L2 hfr
          have hn0 : nvs0 = #[] := by have := hnvs0.1; simpa using this
          have hrun := append_in (a := a) (sLen := len) (sCap := len) (ty := ty) (w' := w) hu hx hi hisz hlen hnew0 (by simp) (by rw [hn0]; simp [storeCells])
          refine ⟨_, _, g.add L2, hrun, hle2, rfl, ?_, ?_⟩
          · have := hs.turn (ver' := g.nv) (o' := .mem sz' os) (L' := L2) (w' := w) hobj hL hle2 rfl rfl rfl rfl (G.add_fresh L2 hs.fresh) ⟨rfl, rfl, rfl, Nat.le_refl _, fun _ _ _ => rfl⟩ (G.add_loc L2) (fun b' hb' => .inl (by rw [hb]; exact hb')) (by
              refine ⟨rfl, m2, fun i hi => by rw [hol] at hi; rw [hog i hi]; exact m3 _ (by omega), by simp [hol, L2], c, t, hcell, ?_, fun i j hi hj => ?_⟩
              · show L.o + len * sz' ≤ c.size
                have : len * sz' ≤ L.T * sz' := Nat.mul_le_mul_right _ hT
                have hTs : L.o + L.T * sz' ≤ c.size := hcs
                omega
              · rw [hol] at hi
                rw [hog i hi]
                have := hr i j (by omega) hj
                exact ⟨this.1.mono hle2, this.2⟩)
            simp only [St.renew, hs.nv, List.append_nil]; exact this
          · rw [hs.nv]
            have := VRel.msl (g := g.add L2) id g.nv 0 len b a L2 (G.add_loc _) rfl (by simp [L2]) (by
              intro h; simp only [L2] at h ⊢; rw [hadr (by omega)]; simp) hp
            simpa [L2] using this
        · have hpos : 0 < ys.length := by cases ys <;> simp at hy0 ⊢
          obtain ⟨_, ovs, hold, hovs⟩ := src_ok hs'.reads (Y := .msl id ver 0 len) h0 (.msl id ver 0 len b a L hL hb (by omega) (by intro h; rw [hadr h]; simp) hp) (ys := os) (by simp only [srcV, St.view, ho]; rw [hos]; simp [hle])
          rw [hol] at hold hovs
          obtain ⟨c', vs, h1, h2, h3, h4⟩ := append_grow hs.reads (ty := ty) (base := some a) (sLen := len) (sCap := len) hu hx hi hisz hib hb0 hz hzl h0 (os := os) hold ⟨hovs.1, hovs.2, hol⟩ hlen hnew hnvs (by omega) hroom
          let L2 : Loc := ⟨some w.heap.size, 0, sz', c'⟩
          have hle2 := G.add_le (g := g) L2 hfr
          refine ⟨_, _, g.add L2, h1, hle2, rfl, ?_, ?_⟩
          · have := hs'.turn (ver' := g.nv) (o' := .mem sz' (os ++ ys)) (L' := L2) (w' := w.drew.alloc (.cells vs e)) hobj hL hle2 rfl rfl rfl rfl (G.add_fresh L2 hs.fresh) ⟨rfl, rfl, rfl, by rw [da_size]; exact Nat.le_succ _, fun k hk _ => Below.heap_alloc _ _ k hk⟩ (G.add_loc L2) (fun b hb => by simp [L2] at hb; subst hb; exact .inr ⟨Nat.le_refl _, by rw [da_size]; exact Nat.lt_succ_self _⟩)
              ⟨rfl, m2, h4.2.1, by simp [hol, L2]; exact h2, vs, e, da_new _, by simpa [L2] using h3, fun i j hi hj => ⟨(h4.2.2 i j hi hj).1.mono hle2, (h4.2.2 i j hi hj).2⟩⟩
            simp only [St.renew, hs.nv]; exact this
          · rw [hs.nv]
            have := VRel.msl (g := g.add L2) id g.nv 0 (len + ys.length) w.heap.size ⟨w.heap.size, 0, none⟩ _ (G.add_loc _) rfl (by simpa [L2] using h2) (by intro _; simp [L2]) rfl
            simpa [L2] using this
    · simp at ha
  · simp at ha
theorem append_ok (hs : Sim P g st w) {sT xT ty e sz bytes : Nat} {i : TypeInfo} (hu : P.underlying sT = some (.slice e)) (hx : (∃ e', P.underlying xT = some (.slice e')) ∨ P.underlying xT = some .string) (hi : P.info? e = some i) (hisz : i.size = sz) (hib : i.bytes = bytes) (hb0 : bytes ≠ 0)
    {z : List V} (hz : zeroT P e = some z) (hzl : z.length = sz) (h0 : 0 < sz) {X Y : V} {x y : Value} (hX : VRel g X x) (hY : VRel g Y y) {ys : List (List V)} (hsrc : srcV st sz Y = some ys) {v : V} {st' : St} (ha : appendV st sz bytes X ys = some (v, st')) :
    Done P g st' v ((Builtin.append_ #[sT, xT] ty #[x, y]).run P w) := by
  obtain ⟨hlen, nvs0, hnew0, hnvs0⟩ := src_ok hs.reads h0 hY hsrc
  have hs' : Sim P g st w.drew := hs.drew (w.drawn + 1)
  obtain ⟨_, nvs, hnew, hnvs⟩ := src_ok hs'.reads h0 hY hsrc
  cases X with
  | sl k sz' es sp =>
    simp only [appendV] at ha
    split at ha
    · rename_i hk
      split at ha
      · rename_i hem
        simp only [Bool.and_eq_true, List.isEmpty_iff] at hem
        obtain ⟨rfl, rfl⟩ := hem
        have hsh : (x = .slice none 0 0) ∨ ∃ a, x = .slice (some a) 0 0 := by
          rcases sl_open hX with ⟨rfl, _⟩ | ⟨a, cap, rfl, _, _, hk1, hk2⟩ | ⟨b, o, cap, vals, rfl, hk1, hk2, _⟩
          · exact .inl rfl
          · rcases hk with rfl | rfl
            · exact absurd rfl hk1
            · obtain rfl := hk2 rfl; exact .inr ⟨_, rfl⟩
          · rcases hk with rfl | rfl
            · exact absurd rfl hk1
            · obtain rfl := hk2 rfl; exact .inr ⟨_, rfl⟩
        split at ha
        · rename_i hy0
          simp only [List.isEmpty_iff] at hy0; subst hy0
          simp only [Option.some.injEq, Prod.mk.injEq] at ha
          obtain ⟨rfl, rfl⟩ := ha
          rcases hsh with rfl | ⟨a, rfl⟩
          · exact ⟨_, _, g, append_nil0 hu hx hi hisz hlen hnew0, .refl g, rfl, hs, hX⟩
          · have hn0 : nvs0 = #[] := by have := hnvs0.1; simpa using this
            subst hn0
            exact ⟨_, _, g, append_in hu hx hi hisz hlen hnew0 (Nat.le_refl _) (by simp [storeCells]), .refl g, rfl, hs, hX⟩
        · rename_i hy0
          split at ha
          · rename_i hroom
            simp only [Option.some.injEq, Prod.mk.injEq] at ha
            obtain ⟨rfl, rfl⟩ := ha
            have hpos : 0 < ys.length := by cases ys <;> simp at hy0 ⊢
            have key : ∀ (base : Option Addr), x = .slice base 0 0 → Done P g (st.push (.mem sz ys)) (.msl st.objs.length st.nv 0 ys.length) ((Builtin.append_ #[sT, xT] ty #[x, y]).run P w) := by
              rintro base rfl
              have hold : (Builtin.firstCells sz 0 (.slice base 0 0)).run P w.drew = .ok #[] w.drew := by
                cases base with
                | none => simp [Builtin.firstCells]
                | some a => simp only [Builtin.firstCells, Nat.zero_mul]; rw [run_loadCells w.drew _ 0 (fun _ => undef) (fun j hj => by omega)]; rfl
              obtain ⟨c, vs, h1, h2, h3, h4⟩ := append_grow hs.reads (ty := ty) hu hx hi hisz hib hb0 hz hzl h0 (os := []) hold ⟨by simp, ⟨by simp, fun i hi => by simp at hi, fun i j hi _ => by simp at hi⟩, rfl⟩ hlen hnew hnvs (by omega) (by simpa using hroom)
              simp only [Nat.zero_add, List.nil_append] at h1 h2 h4
              obtain ⟨e1, e2, e3⟩ := push_mem hs' (t := e) h0 h3 h2 h4
              refine ⟨_, _, _, h1, e1, e2, e3, ?_⟩
              rw [hs.nv]
              have := VRel.msl (g := g.add ⟨some w.drew.heap.size, 0, sz, c⟩) st.objs.length g.nv 0 ys.length w.heap.size ⟨w.heap.size, 0, none⟩ _ (G.add_loc _) rfl (by simpa using h2) (by intro _; simp) rfl
              simpa using this
            rcases hsh with h | ⟨a, h⟩
            · exact key none h
            · exact key (some a) h
          · simp at ha
      · simp at ha
    · simp at ha
  | msl id ver off len =>
    simp only [appendV] at ha
    split at ha
    · rename_i sz' es ho
      split at ha
      · rename_i hc
        obtain ⟨rfl, hle, hroom⟩ := hc
        have hobj := get_objs ho
        obtain ⟨L, hL, hm⟩ := hs.obj _ _ _ hobj
        obtain ⟨m1, m2, m3, m4, m5⟩ := hm
        -- the new version
        have hren : ∀ (os : List (List V)), os = (es.drop off).take len → Done P g (st.renew id (.mem sz' (os ++ ys))) (.msl id st.nv 0 (len + ys.length)) ((Builtin.append_ #[sT, xT] ty #[x, y]).run P w) := by
          intro os hos
          have hol : os.length = len := by rw [hos]; simp; omega
          have hog : ∀ i, i < len → os.getD i [] = es.getD (off + i) [] := fun i hi => by rw [hos]; simp only [List.getD, List.getElem?_take, List.getElem?_drop]; rw [if_pos hi]
          have hfr := hs.fresh _ (Nat.le_refl _)
          cases hX with
          | mnil _ _ L' hL' hb =>
            cases hL.symm.trans hL'
            rw [hb] at m5
            have m5 : L.T = 0 := m5
            have hes : es = [] := List.eq_nil_of_length_eq_zero (by omega)
            subst hes
            have hos' : os = [] := List.eq_nil_of_length_eq_zero hol
            subst hos'
            by_cases hy0 : ys = []
            · subst hy0
              let L2 : Loc := ⟨none, L.o, sz', 0⟩
              have hle2 := G.add_le (g := g) L2 hfr
              refine ⟨_, _, g.add L2, append_nil0 hu hx hi hisz hlen hnew0, hle2, rfl, ?_, ?_⟩
              · have := hs.turn (ver' := g.nv) (o' := .mem sz' []) (L' := L2) (w' := w) hobj hL hle2 rfl rfl rfl rfl (G.add_fresh L2 hs.fresh) ⟨rfl, rfl, rfl, Nat.le_refl _, fun _ _ _ => rfl⟩ (G.add_loc L2) (fun b hb => by cases hb) ⟨rfl, m2, fun i hi => by simp at hi, by simp [L2], rfl⟩
                simp only [St.renew, hs.nv]; exact this
              · rw [hs.nv]; exact .mnil id g.nv L2 (G.add_loc L2) rfl
            · have hpos : 0 < ys.length := by cases ys <;> simp at hy0 ⊢
              have hold : (Builtin.firstCells sz' 0 (.slice none 0 0)).run P w.drew = .ok #[] w.drew := by simp [Builtin.firstCells]
              obtain ⟨c, vs, h1, h2, h3, h4⟩ := append_grow hs.reads (ty := ty) hu hx hi hisz hib hb0 hz hzl h0 (os := []) hold ⟨by simp, ⟨by simp, fun i hi => by simp at hi, fun i j hi _ => by simp at hi⟩, rfl⟩ hlen hnew hnvs (by omega) (by simpa using hroom)
              simp only [Nat.zero_add, List.nil_append] at h1 h2 h4
              let L2 : Loc := ⟨some w.heap.size, 0, sz', c⟩
              have hle2 := G.add_le (g := g) L2 hfr
              refine ⟨_, _, g.add L2, h1, hle2, rfl, ?_, ?_⟩
              · have := hs'.turn (ver' := g.nv) (o' := .mem sz' ys) (L' := L2) (w' := w.drew.alloc (.cells vs e)) hobj hL hle2 rfl rfl rfl rfl (G.add_fresh L2 hs.fresh) ⟨rfl, rfl, rfl, by rw [da_size]; exact Nat.le_succ _, fun k hk _ => Below.heap_alloc _ _ k hk⟩ (G.add_loc L2) (fun b hb => by simp [L2] at hb; subst hb; exact .inr ⟨Nat.le_refl _, by rw [da_size]; exact Nat.lt_succ_self _⟩)
                  ⟨rfl, m2, h4.2.1, h2, vs, e, da_new _, by simpa [L2] using h3, fun i j hi hj => ⟨(h4.2.2 i j hi hj).1.mono hle2, (h4.2.2 i j hi hj).2⟩⟩
                simp only [St.renew, hs.nv, List.nil_append]; exact this
              · rw [hs.nv]
                have := VRel.msl (g := g.add L2) id g.nv 0 ys.length w.heap.size ⟨w.heap.size, 0, none⟩ _ (G.add_loc _) rfl (by simpa [L2] using h2) (by intro _; simp [L2]) rfl
                simpa [L2] using this
          | msl _ _ _ _ b a L' hL' hb hT hadr hp =>
            cases hL.symm.trans hL'
            rw [hb] at m5
            obtain ⟨c, t, hcell, hcs, hr⟩ := m5
            by_cases hneed : len + ys.length ≤ L.T - off
            · -- in its place
              let L2 : Loc := ⟨some b, L.o + off * L.sz, sz', L.T - off⟩
              have hle2 := G.add_le (g := g) L2 hfr
              have hTs : L.o + L.T * sz' ≤ c.size := hcs
              have hoT : off * sz' + (L.T - off) * sz' = L.T * sz' := by rw [← Nat.add_mul]; congr 1; omega
              have hro : ∀ i j, i < os.length → j < sz' → VRel g ((os.getD i []).getD j .junk) (c.getD (L.o + off * sz' + i * sz' + j) undef) ∧ (c.getD (L.o + off * sz' + i * sz' + j) undef).oneCell' = true := by
                intro i j hi hj
                rw [hol] at hi
                rw [hog i hi]
                have := hr (off + i) j (by omega) hj
                rw [show L.o + off * sz' + i * sz' + j = L.o + (off + i) * sz' + j by rw [Nat.add_mul]; omega]
                exact this
              have hlo : ∀ i, i < os.length → (os.getD i []).length = sz' := fun i hi => by rw [hol] at hi; rw [hog i hi]; exact m3 _ (by omega)
              have fin : ∀ (c' : Array Value) (w' : World), Turn g L w w' → w'.heap[b]? = some (.cells c' t (0, 0)) → c'.size = c.size →
                  (∀ k, c'.getD k undef = if L.o + off * sz' + os.length * sz' ≤ k ∧ k < L.o + off * sz' + os.length * sz' + nvs0.size then nvs0.getD (k - (L.o + off * sz' + os.length * sz')) undef else c.getD k undef) →
                  (Builtin.append_ #[sT, xT] ty #[.slice (some a) len (L.T - off), y]).run P w = .ok (.slice (some a) (len + ys.length) (L.T - off)) w' →
                  Done P g (st.renew id (.mem sz' (os ++ ys))) (.msl id st.nv 0 (len + ys.length)) ((Builtin.append_ #[sT, xT] ty #[.slice (some a) len (L.T - off), y]).run P w) := by
                intro c' w' ht hc' hcz hgd hrun
                obtain ⟨q1, q2⟩ := row_append_in hlo hro hnvs0 hgd
                refine ⟨_, _, g.add L2, hrun, hle2, rfl, ?_, ?_⟩
                · have := hs.turn (ver' := g.nv) (o' := .mem sz' (os ++ ys)) (L' := L2) (w' := w') hobj hL hle2 rfl rfl rfl rfl (G.add_fresh L2 hs.fresh) ht (G.add_loc L2) (fun b' hb' => .inl (by rw [hb]; exact hb')) (by
                    refine ⟨rfl, m2, q1, by simp [hol, L2]; exact hneed, c', t, hc', ?_, fun i j hi hj => ?_⟩
                    · show L.o + off * L.sz + (L.T - off) * sz' ≤ c'.size
                      rw [m1, hcz]; omega
                    · have := q2 i j hi hj
                      show VRel (g.add L2) _ (c'.getD (L.o + off * L.sz + i * sz' + j) undef) ∧ (c'.getD (L.o + off * L.sz + i * sz' + j) undef).oneCell' = true
                      rw [m1]
                      exact ⟨this.1.mono hle2, this.2⟩)
                  simp only [St.renew, hs.nv]; exact this
                · rw [hs.nv]
                  have := VRel.msl (g := g.add L2) id g.nv 0 (len + ys.length) b a L2 (G.add_loc _) rfl (by simpa [L2] using hneed) (by
                    intro h; simp only [L2] at h ⊢; rw [hadr (by omega)]; simp) hp
                  simpa [L2] using this
              by_cases hT0 : L.T - off = 0
              · have hl0 : len = 0 := by omega
                have hy0 : ys = [] := List.eq_nil_of_length_eq_zero (by omega)
                have hn0 : nvs0 = #[] := by have := hnvs0.1; rw [hy0] at this; simpa using this
                refine fin c w ⟨rfl, rfl, rfl, Nat.le_refl _, fun _ _ _ => rfl⟩ hcell rfl (fun k => by rw [if_neg (by rw [hn0]; simp)]) ?_
                have := append_in (a := a) (sLen := len) (sCap := L.T - off) (ty := ty) (w' := w) hu hx hi hisz hlen hnew0 hneed (by rw [hn0]; simp [storeCells])
                exact this
              · have haddr := hadr (by omega)
                have hbase : L.o + off * sz' + len * sz' + nvs0.size ≤ c.size := by
                  have : (len + ys.length) * sz' ≤ (L.T - off) * sz' := Nat.mul_le_mul_right _ hneed
                  rw [Nat.add_mul] at this
                  rw [hnvs0.1]; omega
                have hrun := run_storeCells_at (P := P) b (L.o + off * sz' + len * sz') t nvs0.toList 0 c w hcell (by simpa using hbase) (fun v hv => by
                  obtain ⟨k, hk, rfl⟩ := List.getElem_of_mem hv
                  have hk' : k < ys.length * sz' := by rw [← hnvs0.1]; simpa using hk
                  have hq : k / sz' < ys.length := Nat.div_lt_of_lt_mul (by rw [Nat.mul_comm]; exact hk')
                  have := (hnvs0.2.2.2 (k / sz') (k % sz') hq (Nat.mod_lt _ h0)).2
                  rw [Nat.zero_add, Nat.mul_comm, Nat.div_add_mod] at this
                  simpa [Array.getD, show k < nvs0.size by simpa using hk] using this)
                simp only [Nat.add_zero, Array.length_toList] at hrun
                have hseg := seg_getD c nvs0 (L.o + off * sz' + len * sz') hbase
                refine fin _ _ (turn_setRow hb _) (setRow_heap w b c _ t _ hcell) hseg.1 (fun k => by rw [hol]; exact hseg.2 k) ?_
                refine append_in (w' := _) hu hx hi hisz hlen hnew0 hneed ?_
                rw [haddr, add_zero_addr, m1]; exact hrun
            · -- somewhere else
              have hlen' : off < L.T ∨ len = 0 := by omega
              obtain ⟨_, ovs, hold, hovs⟩ := src_ok hs'.reads (Y := .msl id ver off len) h0 (.msl id ver off len b a L hL hb hT hadr hp) (ys := os) (by simp only [srcV, St.view, ho]; rw [hos]; simp [hle])
              rw [hol] at hold hovs
              obtain ⟨c', vs, h1, h2, h3, h4⟩ := append_grow hs.reads (ty := ty) hu hx hi hisz hib hb0 hz hzl h0 (os := os) hold ⟨hovs.1, hovs.2, hol⟩ hlen hnew hnvs hneed hroom
              let L2 : Loc := ⟨some w.heap.size, 0, sz', c'⟩
              have hle2 := G.add_le (g := g) L2 hfr
              refine ⟨_, _, g.add L2, h1, hle2, rfl, ?_, ?_⟩
              · have := hs'.turn (ver' := g.nv) (o' := .mem sz' (os ++ ys)) (L' := L2) (w' := w.drew.alloc (.cells vs e)) hobj hL hle2 rfl rfl rfl rfl (G.add_fresh L2 hs.fresh) ⟨rfl, rfl, rfl, by rw [da_size]; exact Nat.le_succ _, fun k hk _ => Below.heap_alloc _ _ k hk⟩ (G.add_loc L2) (fun b hb => by simp [L2] at hb; subst hb; exact .inr ⟨Nat.le_refl _, by rw [da_size]; exact Nat.lt_succ_self _⟩)
                  ⟨rfl, m2, h4.2.1, by simp [hol, L2]; exact h2, vs, e, da_new _, by simpa [L2] using h3, fun i j hi hj => ⟨(h4.2.2 i j hi hj).1.mono hle2, (h4.2.2 i j hi hj).2⟩⟩
                simp only [St.renew, hs.nv]; exact this
              · rw [hs.nv]
                have := VRel.msl (g := g.add L2) id g.nv 0 (len + ys.length) w.heap.size ⟨w.heap.size, 0, none⟩ _ (G.add_loc _) rfl (by simpa [L2] using h2) (by intro _; simp [L2]) rfl
                simpa [L2] using this
        split at ha
        · rename_i htip
          simp only [Option.some.injEq, Prod.mk.injEq] at ha
          obtain ⟨rfl, rfl⟩ := ha
          exact hren _ (by rw [List.take_of_length_le (by simp; omega)])
        · split at ha
          · rename_i hfit
            simp only [Option.some.injEq, Prod.mk.injEq] at ha
            obtain ⟨rfl, rfl⟩ := ha
            -- within what is known
            cases hX with
            | mnil _ _ L' hL' hb =>
              cases hL.symm.trans hL'
              rw [hb] at m5
              have m5 : L.T = 0 := m5
              omega
            | msl _ _ _ _ b a L' hL' hb hT hadr hp =>
              cases hL.symm.trans hL'
              rw [hb] at m5
              obtain ⟨c, t, hcell, hcs, hr⟩ := m5
              have haddr := hadr (by omega)
              have hbase : L.o + off * sz' + len * sz' + nvs0.size ≤ c.size := by
                have : (off + len + ys.length) * sz' ≤ L.T * sz' := Nat.mul_le_mul_right _ (by omega)
                rw [Nat.add_mul, Nat.add_mul] at this
                rw [hnvs0.1]; omega
              have hrun := run_storeCells_at (P := P) b (L.o + off * sz' + len * sz') t nvs0.toList 0 c w hcell (by simpa using hbase) (fun v hv => by
                obtain ⟨k, hk, rfl⟩ := List.getElem_of_mem hv
                have hk' : k < ys.length * sz' := by rw [← hnvs0.1]; simpa using hk
                have hq : k / sz' < ys.length := Nat.div_lt_of_lt_mul (by rw [Nat.mul_comm]; exact hk')
                have := (hnvs0.2.2.2 (k / sz') (k % sz') hq (Nat.mod_lt _ h0)).2
                rw [Nat.zero_add, Nat.mul_comm, Nat.div_add_mod] at this
                simpa [Array.getD, show k < nvs0.size by simpa using hk] using this)
              simp only [Nat.add_zero, Array.length_toList] at hrun
              have hseg := seg_getD c nvs0 (L.o + off * sz' + len * sz') hbase
              refine ⟨_, _, g, append_in (w' := w.setRow b _) hu hx hi hisz hlen hnew0 (by omega) (by rw [haddr, add_zero_addr, m1]; exact hrun), .refl g, rfl, ?_, ?_⟩
              · have hsp : ∀ k, (splice es (off + len) ys).getD k [] = if off + len ≤ k ∧ k < off + len + ys.length then ys.getD (k - (off + len)) [] else es.getD k [] := fun k => (splice_getD [] es (off + len) ys hfit k).2
                have hsl := (splice_getD [] es (off + len) ys hfit 0).1
                have := hs.turn (ver' := ver) (o' := .mem sz' (splice es (off + len) ys)) (L' := L) (g' := g) (w' := w.setRow b (c.toList.take (L.o + off * sz' + len * sz') ++ nvs0.toList ++ c.toList.drop (L.o + off * sz' + len * sz' + nvs0.size)).toArray) hobj hL (.refl g) rfl rfl rfl rfl hs.fresh (turn_setRow hb _) hL (fun b' hb' => .inl hb') (by
                  refine ⟨m1, m2, fun k hk => ?_, by rw [hsl]; exact m4, ?_⟩
                  · rw [hsl] at hk
                    rw [hsp]
                    split
                    · exact hnvs0.2.2.1 _ (by omega)
                    · exact m3 k hk
                  · rw [hb]
                    refine ⟨_, t, setRow_heap w b c _ t _ hcell, by rw [hseg.1]; exact hcs, fun k j hk hj => ?_⟩
                    rw [hsl] at hk
                    rw [hseg.2, hsp]
                    have hmul : ∀ p q : Nat, (p + q) * sz' = p * sz' + q * sz' := fun p q => Nat.add_mul p q sz'
                    by_cases hin : off + len ≤ k ∧ k < off + len + ys.length
                    · rw [if_pos hin]
                      have e1 : k * sz' = off * sz' + len * sz' + (k - (off + len)) * sz' := by rw [← Nat.add_mul, ← Nat.add_mul]; congr 1; omega
                      have e2 := idx_lt (sz := sz') (show k - (off + len) < ys.length by omega) hj
                      rw [if_pos (by rw [hnvs0.1]; omega), show L.o + k * sz' + j - (L.o + off * sz' + len * sz') = 0 + (k - (off + len)) * sz' + j by omega]
                      exact hnvs0.2.2.2 _ j (by omega) hj
                    · rw [if_neg hin, if_neg (by
                        rw [hnvs0.1]
                        rcases Nat.lt_or_ge k (off + len) with h' | h'
                        · have := idx_lt (sz := sz') h' hj; rw [Nat.add_mul] at this; omega
                        · have : off + len + ys.length ≤ k := by omega
                          have := Nat.mul_le_mul_right sz' this; rw [Nat.add_mul, Nat.add_mul] at this; omega)]
                      exact hr k j hk hj)
                have e : g.nv = st.nv := hs.nv.symm
                rw [e] at this
                exact this
              · have := VRel.msl (g := g) id ver off (len + ys.length) b a L hL hb (by omega) hadr hp
                exact this
          · rename_i hfit
            simp only [Option.some.injEq, Prod.mk.injEq] at ha
            obtain ⟨rfl, rfl⟩ := ha
            exact hren _ rfl
      · simp at ha
    · simp at ha
  | mcut id ver len => exact append_cut hs hu hx hi hisz hib hb0 hz hzl h0 hX hY hsrc ha
  | _ => simp [appendV] at ha

end Go.Proofs.Ytmjnpfackanhlaa.AM
