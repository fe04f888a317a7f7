/- The abstract layer: slices.Insert of one element, out of the runs of its walk. -/
import Derived.Test.YtmjnpfackanhlaaAmS2
import Derived.Lib.Overlaps
import Derived.Lib.AppendZerosOnto
namespace Go.Proofs.Ytmjnpfackanhlaa.AM
open Go Go.RowKit
set_option linter.unusedSimpArgs false
set_option linter.unusedVariables false
variable {P : Program} {g : G} {st : St} {w : World}

theorem put_more (hs : Sim P g st w) {id ver sz p b : Nat} {es ys : List (List V)} (hobj : st.objs[id]? = some (some (ver, .mem sz es))) {L : Loc} (hL : g.loc ver = some L) (hb : L.blk = some b) (hp : p ≤ es.length) (hfit : p + ys.length ≤ L.T)
    {nvs : Array Value} (hn : nvs.size = ys.length * sz) (hr : RowRel g sz ys nvs 0) :
    ∃ w', (storeCells ⟨b, L.o + p * sz, none⟩ nvs.toList).run P w = .ok () w' ∧ Sim P g (st.set id ver (.mem sz (es.take p ++ ys))) w' := by
  obtain ⟨L', hL', hm⟩ := hs.obj _ _ _ hobj
  cases hL.symm.trans hL'
  obtain ⟨m1, m2, m3, m4, m5⟩ := hm
  rw [hb] at m5
  obtain ⟨c, t, hcell, hcs, hrr⟩ := m5
  have hpl : (es.take p).length = p := by simp; omega
  have hbase : L.o + p * sz + nvs.size ≤ c.size := by
    have : (p + ys.length) * sz ≤ L.T * sz := Nat.mul_le_mul_right _ hfit
    rw [Nat.add_mul] at this
    rw [hn]; omega
  have hrun := run_storeCells_at (P := P) b (L.o + p * sz) t nvs.toList 0 c w hcell (by simpa using hbase) (fun v hv => by
    obtain ⟨k, hk, rfl⟩ := List.getElem_of_mem hv
    have hk' : k < ys.length * sz := by rw [← hn]; simpa using hk
    have hq : k / sz < ys.length := Nat.div_lt_of_lt_mul (by rw [Nat.mul_comm]; exact hk')
    have := (hr.2.2 (k / sz) (k % sz) hq (Nat.mod_lt _ m2)).2
    rw [Nat.zero_add, Nat.mul_comm, Nat.div_add_mod] at this
    simpa [Array.getD, show k < nvs.size by simpa using hk] using this)
  simp only [Nat.add_zero, Array.length_toList] at hrun
  have hseg := seg_getD c nvs (L.o + p * sz) hbase
  refine ⟨_, hrun, ?_⟩
  have hget : ∀ i, i < p → (es.take p).getD i [] = es.getD i [] := fun i hi => by simp only [List.getD, List.getElem?_take]; rw [if_pos hi]
  obtain ⟨q1, q2⟩ := row_append_in (g := g) (os := es.take p) (ys := ys) (c := c) (o := L.o) (sz := sz) (fun i hi => by rw [hpl] at hi; rw [hget i hi]; exact m3 i (by omega))
    (fun i j hi hj => by rw [hpl] at hi; rw [hget i hi]; exact hrr i j (by omega) hj) ⟨hn, hr⟩ (fun k => by rw [hpl]; exact hseg.2 k)
  have := hs.turn (ver' := ver) (o' := .mem sz (es.take p ++ ys)) (L' := L) (g' := g) (w' := w.setRow b (c.toList.take (L.o + p * sz) ++ nvs.toList ++ c.toList.drop (L.o + p * sz + nvs.size)).toArray) hobj hL (.refl g) rfl rfl rfl rfl hs.fresh (turn_setRow hb _) hL (fun b' hb' => .inl hb') (by
    refine ⟨m1, m2, q1, by simp; omega, ?_⟩
    rw [hb]
    exact ⟨_, t, setRow_heap w b c _ t _ hcell, by rw [hseg.1]; exact hcs, q2⟩)
  have e : g.nv = st.nv := hs.nv.symm
  rw [e] at this
  exact this

theorem copy_run {S E sz ty k sLen sCap dLen dCap : Nat} (hu : P.underlying S = some (.slice E)) (hsz : sizeT P E = some sz) {a a' : Addr} {nvs : Array Value} (hk : min sLen dLen = k) {w' : World}
  (hl : (Builtin.firstCells sz k (.slice (some a') sLen sCap)).run P w = .ok nvs w) (hst : (storeCells a nvs.toList).run P w = .ok () w') :
  (Builtin.copy_ #[S, S] ty #[.slice (some a) dLen dCap, .slice (some a') sLen sCap]).run P w = .ok (goInt k) w' := by
 have hsize : (sizeOf E).run P w = .ok sz w := run_sizeT hsz
 have hmin : Nat.min sLen dLen = k := hk
 simp [Builtin.copy_, Builtin.lenOf, run_underlying hu, hsize, hmin, hl, hst]

theorem load_mem (hs : Sim P g st w) {id ver sz b : Nat} {es : List (List V)} (hobj : st.objs[id]? = some (some (ver, .mem sz es))) {L : Loc} (hL : g.loc ver = some L) (hb : L.blk = some b) (p k : Nat) (hk : p + k ≤ es.length) :
    ∃ vs, (∀ sLen sCap, (Builtin.firstCells sz k (.slice (some ⟨b, L.o + p * sz, none⟩) sLen sCap)).run P w = .ok vs w) ∧ vs.size = k * sz ∧ RowRel g sz ((es.drop p).take k) vs 0 := by
  obtain ⟨L', hL', hm⟩ := hs.obj _ _ _ hobj
  cases hL.symm.trans hL'
  obtain ⟨m1, m2, m3, m4, m5⟩ := hm
  rw [hb] at m5
  obtain ⟨c, t, hcell, hcs, hrr⟩ := m5
  have hl : ((es.drop p).take k).length = k := by simp; omega
  have hget : ∀ i, i < k → ((es.drop p).take k).getD i [] = es.getD (p + i) [] := fun i hi => by simp only [List.getD, List.getElem?_take, List.getElem?_drop]; rw [if_pos hi]
  obtain ⟨vs, h1, h2, h3⟩ := rows_load (P := P) (w := w) (g := g) (b := b) (o := L.o + p * sz) (n := k) (es := (es.drop p).take k) hl (fun i hi => by rw [hl] at hi; rw [hget i hi]; exact m3 _ (by omega)) (fun i j hi hj => by
    have hx := hrr (p + i) j (by omega) hj
    rw [Nat.add_mul, ← Nat.add_assoc] at hx
    have hlt : L.o + p * sz + i * sz + j < c.size := by
      have h4 := idx_lt (sz := sz) (show p + i < L.T by omega) hj
      rw [Nat.add_mul] at h4; omega
    refine ⟨c.getD (L.o + p * sz + i * sz + j) undef, ?_, ?_, hx.2⟩
    · simp only [World.cell?, hcell]; simp [Array.getD, hlt]
    · rw [hget i hi]; exact hx.1)
  exact ⟨vs, fun _ _ => by simpa [Builtin.firstCells] using h1, h2, h3⟩

theorem Sim.rename (hs : Sim P g st w) {id ver : Nat} {sz : Nat} {es : List (List V)} (hobj : st.objs[id]? = some (some (ver, .mem sz es))) {L : Loc} (hL : g.loc ver = some L) :
  g.le (g.add L) ∧ Sim P (g.add L) (st.renew id (.mem sz es)) w := by
 have hle := G.add_le (g := g) L (hs.fresh _ (Nat.le_refl _))
 refine ⟨hle, ?_⟩
 obtain ⟨L', hL', hm⟩ := hs.obj _ _ _ hobj
 cases hL.symm.trans hL'
 have := hs.turn (ver' := g.nv) (o' := .mem sz es) (L' := L) (g' := g.add L) (w' := w) hobj hL hle rfl rfl rfl rfl (G.add_fresh L hs.fresh) ⟨rfl, rfl, rfl, Nat.le_refl _, fun _ _ _ => rfl⟩ (G.add_loc L) (fun b hb => .inl hb) (OLoc.mono (o := .mem sz es) hle (fun _ _ => rfl) hm)
 simp only [St.renew, hs.nv]; exact this

theorem St.get_of {id ver : Nat} {o : Obj} (h : st.objs[id]? = some (some (ver, o))) : st.get id ver = some o := by
 unfold St.get; rw [h]; simp

theorem set_objs {id id' ver : Nat} {o : Obj} : (st.set id ver o).objs[id']? = if id = id' then (if id' < st.objs.length then some (some (ver, o)) else none) else st.objs[id']? := by
 simp only [St.set, List.getElem?_set]
 split
 ·rename_i h; subst h; rfl
 ·rfl

structure InsW (P : Program) (f S E O sz bytes : Nat) (info : TypeInfo) (z : List V) : Prop where
 ent : Enters P f
 hu : P.underlying S = some (.slice E)
 h3 : P.underlying 3 = some (.int .i64)
 hi : P.info? E = some info
 hisz : info.size = sz
 hib : info.bytes = bytes
 hb0 : bytes ≠ 0
 hz : zeroT P E = some z
 hzl : z.length = sz
 h0 : 0 < sz
 hO : ∀ args w, (callFunc O args).run P w = ((Extern.SlicesOverlaps.overlaps #[S, S] #[4] args).run P w).andThen fun v w' => .ok (.value v) w'
 fin : ∀ (x V : Value) (p : Option Addr) (n c : Nat) (w w1 : World), x = .slice p n c → n ≤ c → ∀ (av : Addr) (vc : Nat), (Builtin.append_ #[S, S] S #[x, .slice (some av) 1 vc]).run P w = .ok V w1 →
  Calls P f #[x, .int .i64 n, .slice (some av) 1 vc] w fun e w' => e = .returned V ∧ w' = w1
 shift : ∀ (b o n c i : Nat) (av : Addr) (vc : Nat) (w w1 w2 : World), i < n → n + 1 ≤ c → n + 1 ≤ 9223372036854775807 →
  (∀ lb cb, (callFunc O #[.slice (some av) 1 vc, .slice (some ⟨b, o + (i + 1) * sz, none⟩) lb cb]).run P w = .ok (.value (.bool false)) w) →
  (∀ dc sc, (Builtin.copy_ #[S, S] 3 #[.slice (some ⟨b, o + (i + 1) * sz, none⟩) (n - i) dc, .slice (some ⟨b, o + i * sz, none⟩) (n + 1 - i) sc]).run P w.drew = .ok (goInt (n - i : Nat)) w1) →
  (∀ dc, (Builtin.copy_ #[S, S] 3 #[.slice (some ⟨b, o + i * sz, none⟩) (n + 1 - i) dc, .slice (some av) 1 vc]).run P w1 = .ok (goInt 1) w2) →
  Calls P f #[.slice (some ⟨b, o, none⟩) n c, .int .i64 i, .slice (some av) 1 vc] w fun e w' => e = .returned (.slice (some ⟨b, o, none⟩) (n + 1) c) ∧ w' = w2
 grow : ∀ (b o n c i gb G : Nat) (av : Addr) (vc : Nat) (w w1 w2 w3 : World), i < n → n ≤ c → c < n + 1 → n + 1 ≤ 9223372036854775807 → n + 1 ≤ G →
  (Builtin.append_ #[S, 3] S #[.slice (some ⟨b, o, none⟩) i c, .int .i64 ((n : Int) + 1 - (i : Int))]).run P w = .ok (.slice (some ⟨gb, 0, none⟩) (n + 1) G) w1 →
  (∀ dc, (Builtin.copy_ #[S, S] 3 #[.slice (some ⟨gb, i * sz, none⟩) (n + 1 - i) dc, .slice (some av) 1 vc]).run P w1 = .ok (goInt 1) w2) →
  (∀ dc sc, (Builtin.copy_ #[S, S] 3 #[.slice (some ⟨gb, (i + 1) * sz, none⟩) (n - i) dc, .slice (some ⟨b, o + i * sz, none⟩) (n - i) sc]).run P w2.drew = .ok (goInt (n - i : Nat)) w3) →
  Calls P f #[.slice (some ⟨b, o, none⟩) n c, .int .i64 i, .slice (some av) 1 vc] w fun e w' => e = .returned (.slice (some ⟨gb, 0, none⟩) (n + 1) G) ∧ w' = w3

theorem calls_mono {f : FuncId} {args : Array Value} {w : World} {R R' : Ending → World → Prop} (h : Calls P f args w R) (hR : ∀ e w', R e w' → R' e w') : Calls P f args w R' := h.mono hR

set_option maxHeartbeats 1000000 in
theorem InsW.calls {f S E O sz bytes : Nat} {info : TypeInfo} {z : List V} (h : InsW P f S E O sz bytes info z) {id ver n i idv verv : Nat} {es : List (List V)} {x : List V}
    (ho : st.get id ver = some (.mem sz es)) (hn : es.length = n) (hv : st.get idv verv = some (.mem sz [x])) (hi : i ≤ n) (hbig : (n + 1) * bytes ≤ 2 ^ 47) (hne : id ≠ idv) {R : V → St → Prop}
    (hR : R (.msl id st.nv 0 (n + 1)) (st.renew id (.mem sz (es.take i ++ x :: es.drop i)))) :
    ACalls P f [.msl id ver 0 n, .int .i64 i, .msl idv verv 0 1] st R := by
  refine ⟨h.ent, fun g w Args hs hA => ?_⟩
  obtain ⟨hA1, hA2⟩ := hA
  obtain ⟨A0, A1, A2, rfl⟩ : ∃ A0 A1 A2, Args = #[A0, A1, A2] := by
    have : Args.size = 3 := by simpa using hA1.symm
    refine ⟨Args[0], Args[1], Args[2], ?_⟩
    apply Array.ext
    · simpa using this
    · intro k h1 h2
      simp at h2
      match k, h2 with
      | 0, _ => rfl
      | 1, _ => rfl
      | 2, _ => rfl
  have r0 : VRel g (.msl id ver 0 n) A0 := by simpa using hA2 0 (by simp)
  have r1 : VRel g (.int .i64 i) A1 := by simpa using hA2 1 (by simp)
  have r2 : VRel g (.msl idv verv 0 1) A2 := by simpa using hA2 2 (by simp)
  cases r1
  have hobj := get_objs ho
  have hobjv := get_objs hv
  obtain ⟨L, hL, hm⟩ := hs.obj _ _ _ hobj
  obtain ⟨m1, m2, m3, m4, m5⟩ := hm
  obtain ⟨Lv, hLv, hmv⟩ := hs.obj _ _ _ hobjv
  obtain ⟨v1, v2, v3, v4, v5⟩ := hmv
  have hn63 : n + 1 ≤ 9223372036854775807 := by
    have := h.hb0
    have : (n + 1) * 1 ≤ (n + 1) * bytes := Nat.mul_le_mul_left _ (by omega)
    omega
  have hvT : 1 ≤ Lv.T := by simpa using v4
  cases r2 with
  | msl _ _ _ _ bv av Lv' hLv' hbv hTv hadrv hpv =>
  cases hLv.symm.trans hLv'
  rcases Nat.lt_or_ge i n with hin | hge
  · -- ahead of the end
    cases r0 with
    | mnil => omega
    | msl _ _ _ _ b a L' hL' hb hT hadr hp =>
    cases hL.symm.trans hL'
    have hadr := hadr (by omega)
    simp only [Nat.zero_mul, Nat.add_zero] at hadr
    subst hadr
    have hadrv := hadrv (by omega)
    simp only [Nat.zero_mul, Nat.add_zero] at hadrv
    subst hadrv
    simp only [Nat.zero_add, Nat.sub_zero] at hT ⊢
    have hbb : bv ≠ b := fun e => hs.dis _ _ _ _ _ _ _ _ _ hobj hobjv hne hL hLv hb (by rw [hbv, e])
    have hsz : sizeT P E = some sz := by simp [sizeT, h.hi, h.hisz]
    rw [hbv] at v5
    obtain ⟨cv, tv, hcv, hcvs, hrv⟩ := v5
    rw [hb] at m5
    obtain ⟨c, t, hcell, hcs, hrr⟩ := m5
    have hdl : (es.drop i).length = n - i := by simp [hn]
    have hdt : (es.drop i).take (n - i) = es.drop i := List.take_of_length_le (by omega)
    rcases Nat.lt_or_ge L.T (n + 1) with hno | hroom
    · -- somewhere else
      have hT' : L.T = n := by omega
      have hs' : Sim P g st w.drew := hs.drew (w.drawn + 1)
      obtain ⟨ovs, ho1, ho2, ho3⟩ := load_mem hs' hobj hL hb 0 i (by omega)
      simp only [Nat.zero_mul, Nat.add_zero, List.drop_zero] at ho1 ho3
      obtain ⟨zz, hzz⟩ : ∃ zz, info.zero = some zz := by
        have := h.hz
        unfold zeroT at this
        simp only [h.hi, Option.bind_some] at this
        cases hq : info.zero with
        | none => simp [hq] at this
        | some zz => exact ⟨zz, rfl⟩
      obtain ⟨zz', hzr, hzc⟩ := zeroT_ok (P := P) (w := w) (g := g) h.hz
      obtain rfl : zz' = zz := by
        simp [zeroValue, typeInfo, h.hi, hzz] at hzr
        exact hzr.symm
      have hcap := nextslicecap_le (n := n + 1) (c := L.T) (by omega)
      have hrun := Lib.run_append_grow_zeros (P := P) w S 3 S E info zz' .i64 .i64 h.hu h.h3 h.hi hzz (some ⟨b, L.o, none⟩) i L.T ovs.toList (by rw [h.hisz]; simpa using ho1 i L.T) (n + 1 - i) (by omega) (by rw [h.hisz]; exact h.h0) (by omega) (by omega)
        (by rw [h.hib]; have : (n + 1 - i) * bytes ≤ (n + 1) * bytes := Nat.mul_le_mul_right _ (by omega); omega)
        (by
          rw [h.hib, show i + (n + 1 - i) = n + 1 by omega]
          have := Nat.mul_le_mul_right bytes hcap
          rw [Nat.mul_assoc] at this; omega)
      rw [show i + (n + 1 - i) = n + 1 by omega] at hrun
      have hGe := grownCap_ge w (n + 1) L.T E
      obtain ⟨Gc, hG⟩ : ∃ Gc, Gc = grownCap w (n + 1) L.T E := ⟨_, rfl⟩
      rw [← hG] at hrun hGe
      obtain ⟨row, hrow⟩ : ∃ row, row = ovs.toList.toArray ++ Builtin.zeroCells zz'.cells (n + 1 - i) ++ Builtin.zeroCells zz'.cells (Gc - (n + 1)) := ⟨_, rfl⟩
      rw [← hrow] at hrun
      have hzs : zz'.cells.size = sz := by rw [← hzc.1]; exact h.hzl
      have htl : (es.take i).length = i := by simp; omega
      have hrowsz : row.size = Gc * sz := by
        rw [hrow]
        simp only [Array.size_append, size_zero, hzs, Array.toArray_toList, ho2, ← Nat.add_mul]
        congr 1; omega
      have hrowr : RowRel g sz (es.take i ++ List.replicate (n + 1 - i) z) row 0 := by
        have hzrow : (Builtin.zeroCells zz'.cells (n + 1 - i)).size = (List.replicate (n + 1 - i) z).length * sz ∧ RowRel g sz (List.replicate (n + 1 - i) z) (Builtin.zeroCells zz'.cells (n + 1 - i)) 0 := by
          refine ⟨by rw [size_zero, hzs, List.length_replicate], ?_⟩
          have := row_zero hzc h.hzl (n + 1 - i)
          rw [hzs] at this
          unfold Builtin.zeroCells
          rw [hzs]; exact this
        have hg1 : ∀ k, k < ovs.size → row.getD k undef = ovs.getD k undef := fun k hk => by
          rw [hrow]
          simp only [Array.toArray_toList, Array.getD_eq_getD_getElem?, Array.append_assoc]
          rw [Array.getElem?_append_left hk]
        have hg2 : ∀ k, k < (n + 1 - i) * sz → row.getD (ovs.size + k) undef = (Builtin.zeroCells zz'.cells (n + 1 - i)).getD k undef := fun k hk => by
          rw [hrow]
          simp only [Array.toArray_toList, Array.getD_eq_getD_getElem?, Array.append_assoc]
          rw [Array.getElem?_append_right (by omega), Nat.add_sub_cancel_left, Array.getElem?_append_left (by rw [size_zero, hzs]; exact hk)]
        refine ⟨?_, fun k hk => ?_, fun k j hk hj => ?_⟩
        · rw [hrowsz, Nat.zero_add]; exact Nat.mul_le_mul_right _ (by simp; omega)
        · by_cases hki : k < i
          · have e1 : (es.take i ++ List.replicate (n + 1 - i) z).getD k [] = (es.take i).getD k [] := by simp only [List.getD]; rw [List.getElem?_append_left (by omega)]
            rw [e1]; exact ho3.2.1 k (by omega)
          · have hk' : k < n + 1 := by simp at hk; omega
            have e1 : (es.take i ++ List.replicate (n + 1 - i) z).getD k [] = (List.replicate (n + 1 - i) z).getD (k - i) [] := by simp only [List.getD]; rw [List.getElem?_append_right (by omega), htl]
            rw [e1]; exact hzrow.2.2.1 _ (by simp; omega)
        · by_cases hki : k < i
          · have e1 : (es.take i ++ List.replicate (n + 1 - i) z).getD k [] = (es.take i).getD k [] := by simp only [List.getD]; rw [List.getElem?_append_left (by omega)]
            have := idx_lt (sz := sz) hki hj
            rw [e1, hg1 _ (by rw [ho2]; omega)]
            exact ho3.2.2 k j (by omega) hj
          · have hk' : k < n + 1 := by simp at hk; omega
            have e1 : (es.take i ++ List.replicate (n + 1 - i) z).getD k [] = (List.replicate (n + 1 - i) z).getD (k - i) [] := by simp only [List.getD]; rw [List.getElem?_append_right (by omega), htl]
            have hlt := idx_lt (sz := sz) (show k - i < n + 1 - i by omega) hj
            have e2 : k * sz = i * sz + (k - i) * sz := by rw [← Nat.add_mul]; congr 1; omega
            rw [e1, show 0 + k * sz + j = ovs.size + ((k - i) * sz + j) by rw [ho2]; omega, hg2 _ hlt]
            have := hzrow.2.2.2 (k - i) j (by simp; omega) hj
            rw [Nat.zero_add] at this; exact this
      obtain ⟨e1, e2, e3⟩ := push_mem hs' (t := E) h.h0 (T := Gc) (by omega) (by simp [htl]; omega) hrowr
      obtain ⟨L2, hL2⟩ : ∃ L2 : Loc, L2 = ⟨some w.heap.size, 0, sz, Gc⟩ := ⟨_, rfl⟩
      have hL2' : (⟨some w.drew.heap.size, 0, sz, Gc⟩ : Loc) = L2 := hL2.symm
      simp only [hL2'] at e1 e2 e3
      have e3 : Sim P (g.add L2) (st.push (.mem sz (es.take i ++ List.replicate (n + 1 - i) z))) (w.drew.alloc (.cells row E)) := e3
      obtain ⟨W1, hW1⟩ : ∃ W1, W1 = w.drew.alloc (.cells row E) := ⟨_, rfl⟩
      rw [← hW1] at e3 hrun
      obtain ⟨st1, hst1⟩ : ∃ st1, st1 = st.push (.mem sz (es.take i ++ List.replicate (n + 1 - i) z)) := ⟨_, rfl⟩
      rw [← hst1] at e3
      have hlt : ∀ k y, st.objs[k]? = some y → st1.objs[k]? = some y := fun k y hk => by
        rw [hst1]; simp only [St.push]
        rw [List.getElem?_append_left (List.getElem?_eq_some_iff.1 hk).1]; exact hk
      have hnew : st1.objs[st.objs.length]? = some (some (st.nv, .mem sz (es.take i ++ List.replicate (n + 1 - i) z))) := by rw [hst1]; simp [St.push]
      have hln : (g.add L2).loc st.nv = some L2 := by rw [hs.nv]; exact G.add_loc L2
      have hLb : L2.blk = some w.heap.size := by rw [hL2]
      have hLo : L2.o = 0 := by rw [hL2]
      have hLT : L2.T = Gc := by rw [hL2]
      -- v is copied
      obtain ⟨nv1, hl1, hl2, hl3⟩ := load_mem e3 (hlt _ _ hobjv) (e1.loc _ _ hLv) hbv 0 1 (by simp)
      simp only [Nat.zero_mul, Nat.add_zero, List.drop_zero] at hl1 hl3
      have hl3 : RowRel (g.add L2) sz [x] nv1 0 := hl3
      obtain ⟨W2, hp1, hp2⟩ := put_rows e3 (off := i) (ys := [x]) hnew hln hLb (by simp [htl]; omega) (by simpa using hl2) hl3
      rw [hLo, Nat.zero_add] at hp1
      -- what stood from i on
      have hp2' : Sim P (g.add L2) (st1.set st.objs.length st.nv (.mem sz (splice (es.take i ++ List.replicate (n + 1 - i) z) i [x]))) W2.drew := hp2.drew (W2.drawn + 1)
      have hlen1 : st.objs.length < st1.objs.length := (List.getElem?_eq_some_iff.1 hnew).1
      have hidl : id < st.objs.length := (List.getElem?_eq_some_iff.1 hobj).1
      have hobj2 : (st1.set st.objs.length st.nv (.mem sz (splice (es.take i ++ List.replicate (n + 1 - i) z) i [x]))).objs[id]? = some (some (ver, .mem sz es)) := by
        rw [set_objs, if_neg (by omega)]; exact hlt _ _ hobj
      have hnew2 : (st1.set st.objs.length st.nv (.mem sz (splice (es.take i ++ List.replicate (n + 1 - i) z) i [x]))).objs[st.objs.length]? = some (some (st.nv, .mem sz (splice (es.take i ++ List.replicate (n + 1 - i) z) i [x]))) := by
        rw [set_objs, if_pos rfl, if_pos hlen1]
      obtain ⟨nv2, hk1, hk2, hk3⟩ := load_mem hp2' hobj2 (e1.loc _ _ hL) hb i (n - i) (by omega)
      rw [hdt] at hk3
      have hsl : (splice (es.take i ++ List.replicate (n + 1 - i) z) i [x]).length = n + 1 := by simp [splice, htl]; omega
      obtain ⟨W3, hq1, hq2⟩ := put_more hp2' (p := i + 1) (ys := es.drop i) hnew2 hln hLb (by rw [hsl]; omega) (by rw [hLT, hdl]; omega) (by rw [hdl]; exact hk2) hk3
      rw [hLo, Nat.zero_add] at hq1
      have hfin : (splice (es.take i ++ List.replicate (n + 1 - i) z) i [x]).take (i + 1) ++ es.drop i = es.take i ++ x :: es.drop i := by
        have : (splice (es.take i ++ List.replicate (n + 1 - i) z) i [x]).take (i + 1) = es.take i ++ [x] := by
          simp only [splice]
          rw [List.take_append_of_le_length (by simp; omega), List.take_left' htl, List.take_of_length_le (by simp; omega)]
        rw [this, List.append_assoc]; rfl
      rw [hfin] at hq2
      refine calls_mono (h.grow b L.o n L.T i w.heap.size Gc ⟨bv, Lv.o, none⟩ (Lv.T) w W1 W2 W3 hin (by omega) hno hn63 hGe ?_ (fun dc => ?_) (fun dc sc => ?_)) ?_
      · rw [show ((n : Int) + 1 - (i : Int)) = ((n + 1 - i : Nat) : Int) by omega]; exact hrun
      · exact copy_run (k := 1) h.hu hsz (by omega) (hl1 _ _) hp1
      · exact copy_run (k := n - i) h.hu hsz (by omega) (hk1 _ _) hq1
      · rintro e w' ⟨rfl, rfl⟩
        refine ⟨_, _, g.add L2, _, rfl, e1, e2, ?_, ?_, hR⟩
        · refine hq2.sub ?_ (fun k => if k = id then st.objs.length else k) ?_ ?_
          · simp [St.renew, St.set, hst1, St.push]
          · intro k y hy
            simp only [St.renew, List.getElem?_set] at hy
            rw [set_objs]
            by_cases hk : k = id
            · subst hk
              simp only [if_true, if_pos hidl] at hy ⊢
              rw [if_pos (by simpa [St.set] using hlen1), hy]
            · rw [if_neg (fun e => hk e.symm)] at hy
              have hkl := (List.getElem?_eq_some_iff.1 hy).1
              rw [if_neg hk, if_neg (by omega), set_objs, if_neg (by omega)]
              exact hlt _ _ hy
          · intro k k' y y' hy hy' he
            simp only [St.renew] at hy hy'
            have h1 := (List.getElem?_eq_some_iff.1 hy).1
            have h2 := (List.getElem?_eq_some_iff.1 hy').1
            simp at h1 h2
            split at he <;> split at he <;> omega
        · have := VRel.msl (g := g.add L2) id st.nv 0 (n + 1) w.heap.size ⟨w.heap.size, 0, none⟩ L2 hln hLb (by rw [hLT]; omega) (by intro _; rw [hLo]; simp) rfl
          rw [hLT] at this; exact this
    · -- in its place
      have hs' : Sim P g st w.drew := hs.drew (w.drawn + 1)
      obtain ⟨nv1, hl1, hl2, hl3⟩ := load_mem hs' hobj hL hb i (n - i) (by omega)
      rw [hdt] at hl3
      obtain ⟨W1, hp1, hp2⟩ := put_more hs' (p := i + 1) (ys := es.drop i) hobj hL hb (by omega) (by omega) (by rw [hdl]; exact hl2) hl3
      have hidl : id < st.objs.length := (List.getElem?_eq_some_iff.1 hobj).1
      obtain ⟨es1, hes1⟩ : ∃ es1, es1 = es.take (i + 1) ++ es.drop i := ⟨_, rfl⟩
      rw [← hes1] at hp2
      have hobj1 : (st.set id ver (.mem sz es1)).objs[id]? = some (some (ver, .mem sz es1)) := by rw [set_objs, if_pos rfl, if_pos hidl]
      have hobjv1 : (st.set id ver (.mem sz es1)).objs[idv]? = some (some (verv, .mem sz [x])) := by rw [set_objs, if_neg hne]; exact hobjv
      obtain ⟨nv2, hk1, hk2, hk3⟩ := load_mem hp2 hobjv1 hLv hbv 0 1 (by simp)
      simp only [Nat.zero_mul, Nat.add_zero, List.drop_zero] at hk1 hk3
      have hk3 : RowRel g sz [x] nv2 0 := hk3
      have hes1l : es1.length = n + 1 := by rw [hes1]; simp; omega
      obtain ⟨W2, hq1, hq2⟩ := put_rows hp2 (off := i) (ys := [x]) hobj1 hL hb (by rw [hes1l]; simp; omega) (by simpa using hk2) hk3
      have hfin : splice es1 i [x] = es.take i ++ x :: es.drop i := by
        have htl : (es.take (i + 1)).length = i + 1 := by simp; omega
        simp only [splice, hes1, List.length_singleton]
        rw [List.take_append_of_le_length (by omega), List.take_take, List.drop_left' htl, Nat.min_eq_left (by omega)]
        simp
      rw [hfin] at hq2
      have hobj2 : ((st.set id ver (.mem sz es1)).set id ver (.mem sz (es.take i ++ x :: es.drop i))).objs[id]? = some (some (ver, .mem sz (es.take i ++ x :: es.drop i))) := by
        rw [set_objs, if_pos rfl, if_pos (by simpa [St.set] using hidl)]
      obtain ⟨u1, u2⟩ := hq2.rename hobj2 hL
      refine calls_mono (h.shift b L.o n L.T i ⟨bv, Lv.o, none⟩ Lv.T w W1 W2 hin hroom hn63 (fun lb cb => ?_) (fun dc sc => ?_) (fun dc => ?_)) ?_
      · have hshb : w.shape? b = some (t, c.size) := by simp [World.shape?, hcell]
        have hshv : w.shape? bv = some (tv, cv.size) := by simp [World.shape?, hcv]
        rw [h.hO, Lib.run_overlaps_apart w S 4 E h.hu sz (fun w => run_sizeT hsz) ⟨bv, Lv.o, none⟩ ⟨b, L.o + (i + 1) * sz, none⟩ 1 Lv.T lb cb hbb tv t cv.size c.size hshv hshb
          (by have : 1 * sz ≤ L.T * sz := Nat.mul_le_mul_right _ (by omega); have := h.h0; omega) (by simp [World.frozen?, hcv]) (by simp [World.frozen?, hcv])]
        rfl
      · exact copy_run (k := n - i) h.hu hsz (by omega) (hl1 _ _) hp1
      · exact copy_run (k := 1) h.hu hsz (by omega) (hk1 _ _) hq1
      · rintro e w' ⟨rfl, rfl⟩
        refine ⟨_, _, g.add L, _, rfl, u1, rfl, ?_, ?_, hR⟩
        · have : ((st.set id ver (.mem sz es1)).set id ver (.mem sz (es.take i ++ x :: es.drop i))).renew id (.mem sz (es.take i ++ x :: es.drop i)) = st.renew id (.mem sz (es.take i ++ x :: es.drop i)) := by
            simp [St.renew, St.set]
          rw [this] at u2; exact u2
        · have := VRel.msl (g := g.add L) id g.nv 0 (n + 1) b ⟨b, L.o, none⟩ L (G.add_loc L) hb (by omega) (by intro _; simp) rfl
          rw [hs.nv]; exact this
  · -- at the end
    obtain rfl : i = n := by omega
    have happ : appendV st sz bytes (.msl id ver 0 i) [x] = some (.msl id st.nv 0 (i + 1), st.renew id (.mem sz (es ++ [x]))) := by
      simp only [appendV, ho]
      rw [if_pos ⟨trivial, by omega, by simpa using hbig⟩, if_pos (by omega)]
      simp
    have hdone := append_ok hs (ty := S) h.hu (.inl ⟨E, h.hu⟩) h.hi h.hisz h.hib h.hb0 h.hz h.hzl h.h0 r0 (.msl idv verv 0 1 bv av Lv hLv hbv hTv hadrv hpv) (ys := [x]) (by simp [srcV, St.view, hv]) happ
    obtain ⟨V, w1, g1, hrun, d1, d2, d3, d4⟩ := hdone
    have htk : es.take i ++ x :: es.drop i = es ++ [x] := by
      rw [List.take_of_length_le (by omega), List.drop_of_length_le (by omega)]
    rw [htk] at hR
    have hsl : ∃ p c, A0 = .slice p i c ∧ i ≤ c := by
      cases r0 with
      | msl _ _ _ _ b a L' hL' hb hT hadr hp => exact ⟨_, _, rfl, by omega⟩
      | mnil => exact ⟨_, _, rfl, Nat.le_refl _⟩
    obtain ⟨p, c, hA0, hic⟩ := hsl
    refine calls_mono (h.fin A0 V p i c w w1 hA0 hic av (Lv.T - 0) hrun) ?_
    rintro e w' ⟨rfl, rfl⟩
    exact ⟨_, _, g1, _, rfl, d1, d2, d3, d4, hR⟩

end Go.Proofs.Ytmjnpfackanhlaa.AM
