/- The abstract layer: what rows of cells hold; bytes as a string; a row that is an array within an object. -/
import Derived.Test.YtmjnpfackanhlaaAmOps4
namespace Go.Proofs.Ytmjnpfackanhlaa.AM
open Go Go.RowKit
set_option linter.unusedSimpArgs false
set_option linter.unusedVariables false
variable {P : Program} {g : G} {st : St} {w : World}

theorem idx_lt {i' i j sz : Nat} (h : i' < i) (hj : j < sz) : i' * sz + j < i * sz := by
 have := Nat.mul_le_mul_right sz (show i' + 1 ≤ i from h)
 rw [Nat.add_mul] at this; omega

def RowRel (g : G) (sz : Nat) (es : List (List V)) (vs : Array Value) (o : Nat) : Prop :=
 o + es.length * sz ≤ vs.size ∧ (∀ i, i < es.length → (es.getD i []).length = sz) ∧
  ∀ i j, i < es.length → j < sz → VRel g ((es.getD i []).getD j .junk) (vs.getD (o + i * sz + j) undef) ∧ (vs.getD (o + i * sz + j) undef).oneCell' = true

theorem RowRel.mono {g' : G} (hg : g.le g') {sz : Nat} {es : List (List V)} {vs : Array Value} {o : Nat} (h : RowRel g sz es vs o) : RowRel g' sz es vs o :=
 ⟨h.1, h.2.1, fun i j hi hj => ⟨(h.2.2 i j hi hj).1.mono hg, (h.2.2 i j hi hj).2⟩⟩

theorem rows_load {sz b o n : Nat} {es : List (List V)} (hl : es.length = n) (hlen : ∀ i, i < es.length → (es.getD i []).length = sz)
  (h : ∀ i j, i < n → j < sz → ∃ y, w.cell? ⟨b, o + i * sz + j, none⟩ = some y ∧ VRel g ((es.getD i []).getD j .junk) y ∧ y.oneCell' = true) :
  ∃ vs, (loadCells ⟨b, o, none⟩ (n * sz)).run P w = .ok vs w ∧ vs.size = n * sz ∧ RowRel g sz es vs 0 := by
 by_cases h0 : sz = 0
 ·subst h0
  refine ⟨#[], ?_, by simp, by simp, hlen, fun i j _ hj => by omega⟩
  rw [Nat.mul_zero, run_loadCells w _ 0 (fun _ => undef) (fun j hj => by omega)]; rfl
 have key : ∀ k, k < n * sz → w.cell? ((⟨b, o, none⟩ : Addr).add k) = some ((w.cell? ⟨b, o + k, none⟩).getD undef) := by
  intro k hk
  have hi : k / sz < n := Nat.div_lt_of_lt_mul (by rw [Nat.mul_comm]; exact hk)
  have hj : k % sz < sz := Nat.mod_lt _ (by omega)
  obtain ⟨y, h1, _⟩ := h _ _ hi hj
  have : o + k / sz * sz + k % sz = o + k := by rw [Nat.add_assoc, Nat.mul_comm, Nat.div_add_mod]
  rw [this] at h1
  rw [add_zero_addr, h1]; rfl
 refine ⟨_, run_loadCells w _ (n * sz) _ key, by simp, by simp [hl], hlen, fun i j hi hj => ?_⟩
 obtain ⟨y, h1, h2, h3⟩ := h i j (by omega) hj
 have hlt : i * sz + j < n * sz := idx_lt (by omega) hj
 have e : ((List.range (n * sz)).map fun k => (w.cell? ⟨b, o + k, none⟩).getD undef).toArray.getD (0 + i * sz + j) undef = y := by
  simp only [Nat.zero_add, Array.getD_eq_getD_getElem?]
  rw [Nat.add_assoc] at h1
  simp [hlt, h1]
 rw [e]; exact ⟨h2, h3⟩

def srcV (st : St) (sz : Nat) : V → Option (List (List V))
 | .str s => if sz = 1 then some (strEs s) else none
 | v => st.view sz v

theorem src_ok (hs : Reads P g st w) {sz : Nat} (h0 : 0 < sz) {Y : V} {y : Value} (hY : VRel g Y y) {ys : List (List V)} (hv : srcV st sz Y = some ys) :
    (Builtin.lenOf y).run P w = .ok ys.length w ∧ ∃ vs, (Builtin.firstCells sz ys.length y).run P w = .ok vs w ∧ vs.size = ys.length * sz ∧ RowRel g sz ys vs 0 := by
  cases Y with
  | str s =>
    simp only [srcV] at hv
    split at hv
    · rename_i h1
      subst h1
      simp at hv; subst hv
      cases hY
      have hl : (strEs s).length = s.size := by simp [strEs]
      refine ⟨by simp [Builtin.lenOf, hl], (s.extract 0 s.size).data.map fun b => .int .u8 b.toNat, by simp [Builtin.firstCells, hl], ?_, ?_, fun i hi => ?_, fun i j hi hj => ?_⟩
      · rw [hl]; simp
      · rw [hl]; simp
      · rw [hl] at hi
        have hi' : i < s.data.size := hi
        have hs' : s.data[i]? = some s.data[i] := Array.getElem?_eq_getElem hi'
        simp [strEs, List.getD, hs']
      · rw [hl] at hi
        have hi' : i < s.data.size := hi
        obtain rfl : j = 0 := by omega
        have hs' : s.data[i]? = some s.data[i] := Array.getElem?_eq_getElem hi'
        have e1 : ((strEs s).getD i []).getD 0 .junk = .int .u8 (s.data[i].toNat) := by simp [strEs, List.getD, hs']
        have e2 : ((s.extract 0 s.size).data.map fun b => Value.int .u8 b.toNat).getD (0 + i * 1 + 0) undef = .int .u8 (s.data[i].toNat) := by
          have : (s.extract 0 s.size).data = s.data := by simp [ByteArray.extract, ByteArray.copySlice]
          rw [this]; simp [Array.getD_eq_getD_getElem?, hs']
        rw [e1, e2]; exact ⟨.int _ _, rfl⟩
    · simp at hv
  | sl k sz' es sp =>
    simp only [srcV, St.view] at hv
    split at hv
    · rename_i hc
      simp at hv; subst hv
      rcases sl_open hY with ⟨rfl, rfl, rfl, hk⟩ | ⟨a, cap, rfl, rfl, rfl, _⟩ | ⟨b, o, cap, vals, rfl, hk, hk0, h0', hcap, he, hi, hr⟩
      · exact ⟨by simp [Builtin.lenOf], #[], by simp [Builtin.firstCells], by simp, by simp, fun i hi => by simp at hi, fun i j hi _ => by simp at hi⟩
      · exact ⟨by simp [Builtin.lenOf], #[], by simp [Builtin.firstCells, loadCells, loadCellsFrom], by simp, by simp, fun i hi => by simp at hi, fun i j hi _ => by simp at hi⟩
      · refine ⟨by simp [Builtin.lenOf], ?_⟩
        by_cases hes : es = []
        · subst hes
          refine ⟨#[], ?_, by simp, by simp, fun i hi => by simp at hi, fun i j hi _ => by simp at hi⟩
          simp only [Builtin.firstCells, List.length_nil, Nat.zero_mul]
          rw [run_loadCells w _ 0 (fun _ => undef) (fun j hj => by omega)]; rfl
        · have hsz : sz' = sz := by
            simp only [Bool.or_eq_true, List.isEmpty_iff, beq_iff_eq] at hc
            rcases hc with h | h
            · exact absurd h hes
            · exact h
          subst hsz
          have hget : ∀ i, i < es.length → (es ++ sp).getD i [] = es.getD i [] := fun i hi => by simp [List.getD, List.getElem?_append_left hi]
          simp only [List.length_append] at he hi hr
          exact rows_load rfl (fun i h => by rw [← hget i h]; exact he i (by omega)) (fun i j h1 h2 =>
            ⟨vals i j, (hs.imm _ _ _ (hi i j (by omega) h2)).1, by rw [← hget i h1]; exact hr i j (by omega) h2, (hs.imm _ _ _ (hi i j (by omega) h2)).2⟩)
    · simp at hv
  | msl id ver off len =>
    simp only [srcV, St.view] at hv
    split at hv
    · rename_i sz' es ho
      split at hv
      · rename_i hc
        obtain ⟨rfl, hle⟩ := hc
        simp at hv; subst hv
        have hlen : ((es.drop off).take len).length = len := by simp; omega
        have hget : ∀ i, i < len → ((es.drop off).take len).getD i [] = es.getD (off + i) [] := fun i hi => by simp only [List.getD, List.getElem?_take, List.getElem?_drop]; rw [if_pos hi]
        cases hY with
        | msl _ _ _ _ b a L hL hb hT ha hp =>
          obtain ⟨h1, h2, h3, h4, h5⟩ := hs.obj _ _ _ _ ho hL
          rw [hb] at h5
          obtain ⟨c, t, hcell, hcs, hr⟩ := h5
          rw [hlen]
          refine ⟨by simp [Builtin.lenOf], ?_⟩
          by_cases hl0 : len = 0
          · subst hl0
            refine ⟨#[], ?_, by simp, by simp, fun i hi => by simp at hi, fun i j hi _ => by simp at hi⟩
            simp only [Builtin.firstCells, Nat.zero_mul]
            rw [run_loadCells w _ 0 (fun _ => undef) (fun j hj => by omega)]; rfl
          · rw [ha (by omega)]
            refine rows_load hlen (fun i hi => by rw [hlen] at hi; rw [hget i hi]; exact h3 _ (by omega)) (fun i j hi hj => ?_)
            have := hr (off + i) j (by omega) hj
            rw [hget i hi]
            have hlt : L.o + (off + i) * sz' + j < c.size := by
              have : (off + i + 1) * sz' ≤ L.T * sz' := Nat.mul_le_mul_right _ (by omega)
              rw [Nat.add_mul] at this; omega
            refine ⟨c.getD (L.o + (off + i) * sz' + j) undef, ?_, this⟩
            rw [h1, show L.o + off * sz' + i * sz' + j = L.o + (off + i) * sz' + j by rw [Nat.add_mul]; omega]
            simp [World.cell?, hcell, Array.getD, hlt]
        | mnil _ _ L hL hb =>
          exact ⟨by simp [Builtin.lenOf], #[], by simp [Builtin.firstCells], by simp, by simp, fun i hi => by simp at hi, fun i j hi _ => by simp at hi⟩
      · simp at hv
    · simp at hv
  | _ => simp [srcV, St.view] at hv


theorem bytesV_open : ∀ {ys : List (List V)} {l : List UInt8}, bytesV ys = some l → ∃ ns : List Int, ys = ns.map (fun n => [.int .u8 n]) ∧ l = ns.map fun n => UInt8.ofNat n.toNat
 | [], l, h => by simp [bytesV] at h; subst h; exact ⟨[], rfl, rfl⟩
 | r :: ys, l, h => by
  unfold bytesV at h
  split at h
  ·simp at *
  ·rename_i n r' heq
   simp only [List.cons.injEq] at heq
   obtain ⟨rfl, rfl⟩ := heq
   simp only [Option.map_eq_some_iff] at h
   obtain ⟨l', h1, rfl⟩ := h
   obtain ⟨ns, h2, h3⟩ := bytesV_open h1
   exact ⟨n :: ns, by rw [h2]; rfl, by rw [h3]; rfl⟩
  ·simp at h

theorem push_fold : ∀ (ns : List Int) (s : ByteArray), List.foldl (fun b a => b.push (UInt8.ofNat a.toNat)) s ns = ⟨s.data ++ (ns.map fun n => UInt8.ofNat n.toNat).toArray⟩
 | [], s => by simp
 | n :: ns, s => by
  rw [List.foldl_cons, push_fold ns]
  simp [ByteArray.push]

theorem strOf_ok (hs : Reads P g st w) {Y : V} {y : Value} (hY : VRel g Y y) {ys : List (List V)} (hv : st.view 1 Y = some ys) {l : List UInt8} (hl : bytesV ys = some l) :
  (Conv.bytesToString y).run P w = .ok (.string ⟨l.toArray⟩) w := by
 have hsrc : srcV st 1 Y = some ys := by
  cases Y <;> first | exact hv | (simp [St.view] at hv)
 obtain ⟨h1, vs, h2, h3, h4, h5, h6⟩ := src_ok hs (by omega) hY hsrc
 obtain ⟨ns, rfl, rfl⟩ := bytesV_open hl
 simp only [List.length_map, Nat.mul_one] at h1 h2 h3 h4 h5 h6
 have hvs : vs.toList = ns.map (fun n => Value.int .u8 n) := by
  apply List.ext_getElem
  ·simp [h3]
  ·intro i hi hi'
   have hin : i < ns.length := by simpa using hi'
   have := (h6 i 0 hin (by omega)).1
   have e1 : ((ns.map (fun n => [V.int .u8 n])).getD i []).getD 0 .junk = .int .u8 ns[i] := by simp [List.getD, hin]
   rw [e1] at this
   have := int_open this
   have hiv : i < vs.size := by omega
   simp [Array.getD, hiv] at this
   simp [this]
 have key : ∀ a, (loadCells a ns.length).run P w = .ok vs w → ∀ cap, (Conv.bytesToString (.slice (some a) ns.length cap)).run P w = .ok (.string ⟨(ns.map fun n => UInt8.ofNat n.toNat).toArray⟩) w := by
  intro a ha cap
  simp only [Conv.bytesToString, Sem.run_bind, ha, Result.andThen_ok]
  rw [← Array.forIn_toList, hvs]
  simp [ByteArray.empty, ByteArray.emptyWithCapacity]
  exact (push_fold ns ⟨#[]⟩).trans (by simp)
 have nil : ∀ cap, ns.length = 0 → (Conv.bytesToString (.slice none 0 cap)).run P w = .ok (.string ⟨(ns.map fun n => UInt8.ofNat n.toNat).toArray⟩) w := by
  intro cap h0
  obtain rfl := List.eq_nil_of_length_eq_zero h0
  simp [Conv.bytesToString]; rfl
 have fin : ∀ a len cap, y = .slice a len cap → (a = none → len = 0) → (Conv.bytesToString y).run P w = .ok (.string ⟨(ns.map fun n => UInt8.ofNat n.toNat).toArray⟩) w := by
  rintro a len cap rfl hn
  have hle : len = ns.length := by
   cases a <;> simp [Builtin.lenOf] at h1 <;> exact h1
  subst hle
  cases a with
  | none => rw [hn rfl]; exact nil cap (hn rfl)
  | some a =>
   refine key a ?_ cap
   simpa [Builtin.firstCells] using h2
 cases Y with
 | sl k sz es sp =>
  rcases sl_open hY with ⟨rfl, rfl, rfl, _⟩ | ⟨a, cap, rfl, rfl, rfl, _⟩ | ⟨b, o, cap, vals, rfl, _⟩
  ·exact fin _ _ _ rfl (fun _ => rfl)
  ·exact fin _ _ _ rfl (fun h => by cases h)
  ·exact fin _ _ _ rfl (fun h => by cases h)
 | msl id ver off len =>
  cases hY with
  | msl _ _ _ _ b a L hL hb hT ha hp => exact fin _ _ _ rfl (fun h => by cases h)
  | mnil _ _ L hL hb => exact fin _ _ _ rfl (fun _ => rfl)
 | _ => simp [St.view] at hv

theorem convS_ok {s t e : Nat} {x : Value} (h1 : P.underlying s = some (.slice e)) (h2 : P.underlying t = some .string) (h3 : P.underlying e = some (.int .u8)) {Y : V} (hY : VRel g Y x) {ys : List (List V)} (hv : st.view 1 Y = some ys) :
  (convert s t x).run P w = (Conv.bytesToString x).run P w := by
 have key : ∀ a l c, (convert s t (.slice a l c)).run P w = (Conv.bytesToString (.slice a l c)).run P w := by
  intro a l c
  simp [convert, run_underlying h1, run_underlying h2, run_underlying h3]
 cases Y with
 | sl k sz es sp =>
  rcases sl_open hY with ⟨rfl, rfl, rfl, _⟩ | ⟨a, cap, rfl, rfl, rfl, _⟩ | ⟨b, o, cap, vals, rfl, _⟩ <;> exact key _ _ _
 | msl id ver off len =>
  cases hY with
  | msl _ _ _ _ b a L hL hb hT ha hp => exact key _ _ _
  | mnil _ _ L hL hb => exact key _ _ _
 | _ => simp [St.view] at hv

theorem chunk_len {sz : Nat} : ∀ {n : Nat} {cs : List V}, (chunk sz n cs).length = n
 | 0, _ => rfl
 | n + 1, cs => by simp [chunk, chunk_len]
theorem chunk_get {sz : Nat} : ∀ {n i : Nat} {cs : List V}, i < n → (chunk sz n cs).getD i [] = (cs.drop (i * sz)).take sz
 | n + 1, 0, cs, _ => by simp [chunk, List.getD]
 | n + 1, i + 1, cs, h => by
  have := chunk_get (sz := sz) (n := n) (i := i) (cs := cs.drop sz) (by omega)
  simp only [List.getD] at this
  simp only [chunk, List.getD, List.getElem?_cons_succ, this, List.drop_drop]
  rw [show sz + i * sz = (i + 1) * sz by rw [Nat.add_mul]; omega]

theorem VRel.chunk {n sz off b o : Nat} {cs : List V} {vals : Nat → Value} (h0 : 0 < sz) (hl : off + n * sz ≤ cs.length) (hi : ∀ j, j < cs.length → g.imm b (o + j) = some (vals j))
    (hr : ∀ j, j < cs.length → VRel g (cs.getD j .junk) (vals j)) : VRel g (.sl .unk sz (chunk sz n (cs.drop off)) []) (.slice (some ⟨b, o + off, none⟩) n n) := by
  have hlt : ∀ i j, i < n → j < sz → off + (i * sz + j) < cs.length := fun i j hi hj => by have := idx_lt hi hj; omega
  have hget : ∀ i j, i < n → j < sz → ((AM.chunk sz n (cs.drop off)).getD i []).getD j .junk = cs.getD (off + (i * sz + j)) .junk := by
    intro i j hi hj
    rw [chunk_get hi]
    simp only [List.getD, List.getElem?_take, List.getElem?_drop, if_pos hj]
  have := VRel.sl (g := g) .unk sz (AM.chunk sz n (cs.drop off)) [] b (o + off) n (fun i j => vals (off + (i * sz + j))) (by simp) (by simp) h0 (by simp [chunk_len])
    (fun i hi' => by
      simp only [List.append_nil, chunk_len] at hi' ⊢
      rw [chunk_get hi']
      have := hlt i (sz - 1) hi' (by omega)
      simp only [List.length_take, List.length_drop]
      omega)
    (fun i j hi' hj => by
      simp only [List.append_nil, chunk_len] at hi'
      have := hi _ (hlt i j hi' hj)
      rw [show o + off + i * sz + j = o + (off + (i * sz + j)) by omega]; exact this)
    (fun i j hi' hj => by
      simp only [List.append_nil, chunk_len] at hi' ⊢
      rw [hget i j hi' hj]; exact hr _ (hlt i j hi' hj))
  rw [chunk_len] at this
  exact this

theorem sliceA_ok {t n e k : Nat} (hu : P.underlying t = some (.array n e)) (hk : sizeT P e = some k) {X : V} {v : V} {st' : St} (h : (match X with
  | .ptr id ver i off => some (V.asl id ver i off n k, st)
  | .eptr cs off => if 0 < k ∧ off + n * k ≤ cs.length then some (V.sl .unk k (AM.chunk k n (cs.drop off)) [], st) else none
  | _ => none) = some (v, st')) {x : Value} (hX : VRel g X x) : st' = st ∧ ∃ z, (Instr.sliceAt t x none none none).run P w = .ok z w ∧ VRel g v z := by
 have run : ∀ a', (Instr.sliceAt t (.pointer (some a')) none none none).run P w = .ok (.slice (some (if n = 0 then a' else a'.add 0)) n n) w := by
  intro a'
  simp [Instr.sliceAt, run_underlying hu, Instr.sliceBounds, run_sizeT hk, Instr.sureAddr, asAddr, eq_comm]
 have addz : ∀ b o, (⟨b, o, none⟩ : Addr).add 0 = ⟨b, o, none⟩ := fun b o => by rw [add_zero_addr]; rfl
 cases hX with
 | ptr id ver i off b L hL hb =>
  simp only [Option.some.injEq, Prod.mk.injEq] at h
  obtain ⟨rfl, rfl⟩ := h
  refine ⟨rfl, _, run _, ?_⟩
  rw [addz, ite_self]
  exact .asl _ _ _ _ _ _ _ _ hL hb
 | eptr cs off b o vals hi hr =>
  simp only at h
  split at h
  ·rename_i hc
   simp only [Option.some.injEq, Prod.mk.injEq] at h
   obtain ⟨rfl, rfl⟩ := h
   refine ⟨rfl, _, run _, ?_⟩
   rw [addz, ite_self]
   exact .chunk hc.1 hc.2 hi hr
  ·simp at h
 | _ => simp at h
end Go.Proofs.Ytmjnpfackanhlaa.AM
