/- The abstract layer: rows that are written over: clear, copy. -/
import Derived.Test.YtmjnpfackanhlaaAmOps9
namespace Go.Proofs.Ytmjnpfackanhlaa.AM
open Go Go.RowKit
set_option linter.unusedSimpArgs false
set_option linter.unusedVariables false
variable {P : Program} {g : G} {st : St} {w : World}

theorem St.set_self {id ver : Nat} {o : Obj} (h : st.objs[id]? = some (some (ver, o))) : st.set id ver o = st := by
 unfold St.set
 have : st.objs.set id (some (ver, o)) = st.objs := by
  apply List.ext_getElem?
  intro i
  by_cases e : id = i
  ·subst e; rw [List.getElem?_set_self (by exact (List.getElem?_eq_some_iff.1 h).1), h]
  ·rw [List.getElem?_set_ne e]
 rw [this]

theorem put_rows (hs : Sim P g st w) {id ver sz off b : Nat} {es ys : List (List V)} (hobj : st.objs[id]? = some (some (ver, .mem sz es))) {L : Loc} (hL : g.loc ver = some L) (hb : L.blk = some b) (hfit : off + ys.length ≤ es.length)
    {nvs : Array Value} (hn : nvs.size = ys.length * sz) (hr : RowRel g sz ys nvs 0) :
    ∃ w', (storeCells ⟨b, L.o + off * sz, none⟩ nvs.toList).run P w = .ok () w' ∧ Sim P g (st.set id ver (.mem sz (splice es off ys))) w' := by
  obtain ⟨L', hL', hm⟩ := hs.obj _ _ _ hobj
  cases hL.symm.trans hL'
  obtain ⟨m1, m2, m3, m4, m5⟩ := hm
  rw [hb] at m5
  obtain ⟨c, t, hcell, hcs, hrr⟩ := m5
  have hbase : L.o + off * sz + nvs.size ≤ c.size := by
    have : (off + ys.length) * sz ≤ L.T * sz := Nat.mul_le_mul_right _ (by omega)
    rw [Nat.add_mul] at this
    rw [hn]; omega
  have hrun := run_storeCells_at (P := P) b (L.o + off * sz) t nvs.toList 0 c w hcell (by simpa using hbase) (fun v hv => by
    obtain ⟨k, hk, rfl⟩ := List.getElem_of_mem hv
    have hk' : k < ys.length * sz := by rw [← hn]; simpa using hk
    have hq : k / sz < ys.length := Nat.div_lt_of_lt_mul (by rw [Nat.mul_comm]; exact hk')
    have := (hr.2.2 (k / sz) (k % sz) hq (Nat.mod_lt _ m2)).2
    rw [Nat.zero_add, Nat.mul_comm, Nat.div_add_mod] at this
    simpa [Array.getD, show k < nvs.size by simpa using hk] using this)
  simp only [Nat.add_zero, Array.length_toList] at hrun
  have hseg := seg_getD c nvs (L.o + off * sz) hbase
  refine ⟨_, hrun, ?_⟩
  have hsp : ∀ k, (splice es off ys).getD k [] = if off ≤ k ∧ k < off + ys.length then ys.getD (k - off) [] else es.getD k [] := fun k => (splice_getD [] es off ys hfit k).2
  have hsl := (splice_getD [] es off ys hfit 0).1
  have := hs.turn (ver' := ver) (o' := .mem sz (splice es off ys)) (L' := L) (g' := g) (w' := w.setRow b (c.toList.take (L.o + off * sz) ++ nvs.toList ++ c.toList.drop (L.o + off * sz + nvs.size)).toArray) hobj hL (.refl g) rfl rfl rfl rfl hs.fresh (turn_setRow hb _) hL (fun b' hb' => .inl hb') (by
    refine ⟨m1, m2, fun k hk => ?_, by rw [hsl]; exact m4, ?_⟩
    · rw [hsl] at hk
      rw [hsp]
      split
      · exact hr.2.1 _ (by omega)
      · exact m3 k hk
    · rw [hb]
      refine ⟨_, t, setRow_heap w b c _ t _ hcell, by rw [hseg.1]; exact hcs, fun k j hk hj => ?_⟩
      rw [hsl] at hk
      rw [hseg.2, hsp]
      by_cases hin : off ≤ k ∧ k < off + ys.length
      · rw [if_pos hin]
        have e1 : k * sz = off * sz + (k - off) * sz := by rw [← Nat.add_mul]; congr 1; omega
        have e2 := idx_lt (sz := sz) (show k - off < ys.length by omega) hj
        rw [if_pos (by rw [hn]; omega), show L.o + k * sz + j - (L.o + off * sz) = 0 + (k - off) * sz + j by omega]
        exact hr.2.2 _ j (by omega) hj
      · rw [if_neg hin, if_neg (by
          rw [hn]
          rcases Nat.lt_or_ge k off with h' | h'
          · have := idx_lt (sz := sz) h' hj; omega
          · have : off + ys.length ≤ k := by omega
            have := Nat.mul_le_mul_right sz this; rw [Nat.add_mul] at this; omega)]
        exact hrr k j hk hj)
  have e : g.nv = st.nv := hs.nv.symm
  rw [e] at this
  exact this

theorem clear_ok (hs : Sim P g st w) {ts : Array TypeId} {sT e ty : Nat} (ht : ts[0]? = some sT) (hu : P.underlying sT = some (.slice e)) {z : List V} (hz : zeroT P e = some z) {X : V} {x : Value} (hX : VRel g X x)
  {v : V} {st' : St} (ha : aop (.clear z (.c X)) (fun _ => .junk) st = some (v, st')) : ∃ w', (Builtin.clear_ ts ty #[x]).run P w = .ok (.tuple #[]) w' ∧ Sim P g st' w' ∧ v = .tup [] := by
 simp only [aop, AM.X.ev, Option.map_eq_some_iff, Prod.mk.injEq] at ha
 obtain ⟨st1, ha, rfl, rfl⟩ := ha
 suffices h : ∃ w', (Builtin.clear_ ts ty #[x]).run P w = .ok (.tuple #[]) w' ∧ Sim P g st1 w' by
  obtain ⟨w', h1, h2⟩ := h; exact ⟨w', h1, h2, rfl⟩
 have nothing : ∀ (p : Option Addr) (c : Nat), (p = none ∨ True) → (Builtin.clear_ ts ty #[.slice p 0 c]).run P w = .ok (.tuple #[]) w := by
  intro p c _
  cases p <;> simp [Builtin.clear_, ht, run_underlying hu]
 cases X with
 | sl k sz es sp =>
  simp only at ha
  split at ha
  ·rename_i h0
   simp only [Option.some.injEq] at ha; subst ha
   have h0 : es = [] := by simpa using h0
   subst h0
   cases hX with
   | sl _ _ _ _ b o cap vals => exact ⟨w, nothing _ _ (.inr trivial), hs⟩
   | snil => exact ⟨w, nothing _ _ (.inr trivial), hs⟩
   | semp => exact ⟨w, nothing _ _ (.inr trivial), hs⟩
  ·simp at ha
 | msl id ver off len =>
  simp only at ha
  split at ha
  ·rename_i sz' es ho
   split at ha
   ·rename_i hc
    obtain ⟨rfl, hle⟩ := hc
    simp only [Option.some.injEq] at ha; subst ha
    have hobj := get_objs ho
    by_cases h0 : len = 0
    ·subst h0
     have : splice es off (List.replicate 0 z) = es := by simp [splice]
     rw [this, St.set_self hobj]
     cases hX with
     | mnil => exact ⟨w, nothing _ _ (.inr trivial), hs⟩
     | msl => exact ⟨w, nothing _ _ (.inr trivial), hs⟩
    ·cases hX with
     | mnil => exact absurd rfl h0
     | msl _ _ _ _ b a L hL hb hT hadr hp =>
      obtain ⟨L', hL', hm⟩ := hs.obj _ _ _ hobj
      cases hL.symm.trans hL'
      have haddr := hadr (by omega)
      rw [hm.1] at haddr
      obtain ⟨zz, hz1, hz2⟩ := zeroT_ok (w := w) (g := g) hz
      have hrow := row_zero hz2 rfl len
      have hsz : (Builtin.zeroCells zz.cells len).size = (List.replicate len z).length * z.length := by rw [size_zero, List.length_replicate, hz2.1]
      have hrow' : RowRel g z.length (List.replicate len z) (Builtin.zeroCells zz.cells len) 0 := by
       unfold Builtin.zeroCells
       have e := hz2.1
       rw [e] at hrow ⊢; exact hrow
      obtain ⟨w', h1, h2⟩ := put_rows hs (off := off) (ys := List.replicate len z) hobj hL hb (by simpa using hle) hsz hrow'
      refine ⟨w', ?_, h2⟩
      obtain ⟨m, rfl⟩ : ∃ m, len = m + 1 := ⟨len - 1, by omega⟩
      rw [haddr]
      simp [Builtin.clear_, ht, run_underlying hu, hz1, h1]
   ·simp at ha
  ·simp at ha
 | _ => simp at ha

theorem src_take (hs : Reads P g st w) {sz : Nat} (h0 : 0 < sz) {Y : V} {y : Value} (hY : VRel g Y y) {ys : List (List V)} (hv : st.view sz Y = some ys) {n : Nat} (hn : n ≤ ys.length) :
    (Builtin.lenOf y).run P w = .ok ys.length w ∧ ∃ vs, (Builtin.firstCells sz n y).run P w = .ok vs w ∧ vs.size = n * sz ∧ RowRel g sz (ys.take n) vs 0 := by
  have hsrc : srcV st sz Y = some ys := by
    cases Y <;> first | exact hv | simp [St.view] at hv
  refine ⟨(src_ok hs h0 hY hsrc).1, ?_⟩
  have sub : ∀ (Y' : V) (a : Addr) (l c : Nat), y = .slice (some a) l c → VRel g Y' (.slice (some a) n c) → srcV st sz Y' = some (ys.take n) → ∃ vs, (Builtin.firstCells sz n y).run P w = .ok vs w ∧ vs.size = n * sz ∧ RowRel g sz (ys.take n) vs 0 := by
    intro Y' a l c e hY' hs'
    obtain ⟨_, vs, h1, h2, h3⟩ := src_ok hs h0 hY' hs'
    have hl : (ys.take n).length = n := by simp; omega
    rw [hl] at h1 h2
    refine ⟨vs, ?_, h2, h3⟩
    rw [e]
    simpa [Builtin.firstCells] using h1
  cases Y with
  | sl k sz' es sp =>
    simp only [St.view] at hv
    split at hv
    · rename_i hc
      simp only [Option.some.injEq] at hv; subst hv
      rcases sl_open hY with ⟨rfl, rfl, rfl, hk⟩ | ⟨a, cap, rfl, rfl, rfl, _⟩ | ⟨b, o, cap, vals, rfl, hk, hk0, h0', hcap, he, hi, hr⟩
      · obtain rfl : n = 0 := by simpa using hn
        exact ⟨#[], by simp [Builtin.firstCells], by simp, by simp, fun i hi => by simp at hi, fun i j hi _ => by simp at hi⟩
      · obtain rfl : n = 0 := by simpa using hn
        exact ⟨#[], by simp [Builtin.firstCells, loadCells, loadCellsFrom], by simp, by simp, fun i hi => by simp at hi, fun i j hi _ => by simp at hi⟩
      · have happ : es.take n ++ (es.drop n ++ sp) = es ++ sp := by rw [← List.append_assoc, List.take_append_drop]
        have hl : (es.take n).length = n := by simp; omega
        have := VRel.sl (g := g) .unk sz' (es.take n) (es.drop n ++ sp) b o cap vals (by simp) (by simp) h0' (by rw [happ]; exact hcap) (by rw [happ]; exact he) (by rw [happ]; exact hi) (by rw [happ]; exact hr)
        rw [hl] at this
        refine sub _ _ _ _ rfl this ?_
        simp only [srcV, St.view]
        by_cases hn0 : n = 0
        · subst hn0; simp
        · have : es ≠ [] := fun e => by subst e; simp at hn; omega
          have hsz : sz' = sz := by
            simp only [Bool.or_eq_true, List.isEmpty_iff, beq_iff_eq] at hc
            rcases hc with h | h
            · exact absurd h this
            · exact h
          subst hsz
          simp
    · simp at hv
  | msl id ver off len =>
    simp only [St.view] at hv
    split at hv
    · rename_i sz' es ho
      split at hv
      · rename_i hc
        obtain ⟨rfl, hle⟩ := hc
        simp only [Option.some.injEq] at hv; subst hv
        have hn' : n ≤ len := by simp at hn; omega
        cases hY with
        | msl _ _ _ _ b a L hL hb hT ha hp =>
          refine sub (.msl id ver off n) _ _ _ rfl (.msl id ver off n b a L hL hb (by omega) ha hp) ?_
          simp only [srcV, St.view, ho]
          rw [if_pos ⟨trivial, by omega⟩, List.take_take, Nat.min_eq_left hn']
        | mnil _ _ L hL hb =>
          obtain rfl : n = 0 := by omega
          exact ⟨#[], by simp [Builtin.firstCells], by simp, by simp, fun i hi => by simp at hi, fun i j hi _ => by simp at hi⟩
      · simp at hv
    · simp at hv
  | _ => simp [St.view] at hv

theorem copy_ok (hs : Sim P g st w) {ts : Array TypeId} {sT e ty : Nat} (ht : ts[0]? = some sT) (hu : P.underlying sT = some (.slice e)) {sz : Nat} (hsz : sizeT P e = some sz) {X Y : V} {x y : Value} (hX : VRel g X x) (hY : VRel g Y y)
    {v : V} {st' : St} (ha : aop (.copy sz (.c X) (.c Y)) (fun _ => .junk) st = some (v, st')) : ∃ w' z, (Builtin.copy_ ts ty #[x, y]).run P w = .ok z w' ∧ Sim P g st' w' ∧ VRel g v z := by
  simp only [aop, AM.X.ev] at ha
  split at ha
  · rename_i id ver off len ys hv
    split at ha
    · rename_i sz' es ho
      split at ha
      · rename_i hc
        obtain ⟨rfl, hle⟩ := hc
        simp only [Option.some.injEq, Prod.mk.injEq] at ha
        obtain ⟨rfl, rfl⟩ := ha
        have hobj := get_objs ho
        obtain ⟨L, hL, hm⟩ := hs.obj _ _ _ hobj
        obtain ⟨m1, m2, m3, m4, m5⟩ := hm
        obtain ⟨hlen, vs, h1, h2, h3⟩ := src_take hs.reads m2 hY hv (n := min ys.length len) (by omega)
        have hsize : (sizeOf e).run P w = .ok sz' w := by
          simp only [sizeT, Option.map_eq_some_iff] at hsz
          obtain ⟨i, hi, rfl⟩ := hsz
          simp [sizeOf, run_ti hi]
        have hmin : Nat.min ys.length len = min ys.length len := rfl
        cases hX with
        | mnil _ _ L' hL' hb =>
          have e0 : ys.take (min ys.length 0) = [] := by simp
          have hm0 : min ys.length 0 = 0 := by simp
          rw [hm0] at h1
          rw [e0]
          have e1 : splice es 0 ([] : List (List V)) = es := by simp [splice]
          rw [e1, St.set_self hobj]
          refine ⟨w, _, ?_, hs, .int _ _⟩
          simp [Builtin.copy_, ht, run_underlying hu, hlen, hsize, hmin, h1]
          simp only [goInt]; congr 2; omega
        | msl _ _ _ _ b a L' hL' hb hT hadr hp =>
          cases hL.symm.trans hL'
          by_cases h0 : min ys.length len = 0
          · rw [h0] at h1 h2 h3 ⊢
            have hvs : vs = #[] := Array.eq_empty_of_size_eq_zero (by simpa using h2)
            subst hvs
            have e1 : splice es off (ys.take 0) = es := by simp [splice]
            rw [e1, St.set_self hobj]
            refine ⟨w, _, ?_, hs, .int _ _⟩
            simp [Builtin.copy_, ht, run_underlying hu, hlen, hsize, hmin, h0, h1, storeCells]
            simp only [goInt]; congr 2; omega
          · have haddr := hadr (by omega)
            rw [m1] at haddr
            have hl : (ys.take (min ys.length len)).length = min ys.length len := by simp
            obtain ⟨w', h4, h5⟩ := put_rows hs (off := off) (ys := ys.take (min ys.length len)) hobj hL hb (by rw [hl]; omega) (by rw [hl]; exact h2) h3
            refine ⟨w', _, ?_, h5, .int _ _⟩
            rw [haddr]
            simp [Builtin.copy_, ht, run_underlying hu, hlen, hsize, hmin, h1, h4]
            simp only [goInt]; congr 2; omega
      · simp at ha
    · simp at ha
  · simp at ha

end Go.Proofs.Ytmjnpfackanhlaa.AM
