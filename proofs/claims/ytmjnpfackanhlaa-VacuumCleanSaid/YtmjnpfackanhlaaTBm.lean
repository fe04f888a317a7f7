/- The tree and the cursor, walked, part 2. -/
import Derived.Test.YtmjnpfackanhlaaTAm
set_option maxRecDepth 60000
namespace Go.Proofs.Ytmjnpfackanhlaa.AM
open Go
set_option linter.unusedVariables false
set_option linter.unusedSimpArgs false
variable {P : Program}

theorem passes_succ : ∀ (n : Nat) (ns : List NodeT), passes (n + 1) ns = passN (passes n ns)
 | 0, ns => rfl
 | n + 1, ns => by rw [passes, passes_succ n, passes]
@[simp] def bT (va n : Nat) (t : TreeT) : List V := [.msl 4 va 0 n, .int .u32 t.root, .int .u64 t.count]
theorem EsBor {st : St} {w ver n : Nat} {es : List LinkT} (ho : st.get w ver = some (.mem 5 (es.map cLink))) (hn : n = es.length) : Bor st (.msl w ver 0 n) (vEs es) := by
 subst hn
 exact .msl w ver 0 es.length 5 (es.map cLink) (es.map cLink) ho (by simp) (by simp) (fun k hk => by simp [List.getD, hk]) (fun k j hk hj => by rw [Nat.zero_add]; exact .refl _)
theorem small_shs {ns ns' : List NodeT} {N : Nat} (h : ∀ x ∈ ns, x.es.length < N) (e : shs ns' = shs ns) : ∀ x ∈ ns', x.es.length < N := fun x hx => by
 have h1 := mem_shs hx
 rw [e] at h1
 obtain ⟨y, hy, e2⟩ := of_shs h1
 have h3 := congrArg (fun s => s.ch.length) e2
 simp only [NodeT.sh_ch, List.length_map] at h3
 have := h y hy
 omega
theorem partN_eq {ns : List NodeT} {i k : Nat} {x : NodeT} (hx : ns[i]? = some x) (hl : x.leaf = false) : partN ns i k = ns.set i { x with es := partE ns x.es k } := by
 unfold partN
 rw [hx]
 dsimp only
 rw [if_neg (by rw [hl]; simp)]
structure KySt (t : TreeT) (va : Nat) (rows : List (List V)) (ws : List Nat) (A : List (Option (Nat × Obj))) (ns : List NodeT) : Prop where
 h0 : A[0]? = some (some (0, .mem 3 [bT va t.nodes.length t]))
 h1 : A[1]? = some (some (1, .mem 3 [zTree]))
 h4 : A[4]? = some (some (va, .mem 5 rows))
 hD : DT A rows ws ns
 hw : ∀ w ∈ ws, 4 < w
theorem KySt.bor {t : TreeT} {va : Nat} {rows : List (List V)} {ws : List Nat} {A : List (Option (Nat × Obj))} {ns : List NodeT} (h : KySt t va rows ws A ns) (hn : t.nodes.length = ns.length) (nv : Nat) : Bor ⟨A, nv⟩ (.agg (bT va t.nodes.length t)) (.agg (cTree ⟨ns, t.root, t.count⟩)) :=
 .agg _ _ rfl (fun i hi => by
  match i, hi with
  | 0, _ => exact h.hD.bor h.h4 hn
  | 1, _ => exact .refl _
  | 2, _ => exact .refl _)
def KyI1 (t : TreeT) (va : Nat) (rows : List (List V)) (ws : List Nat) (k : Nat) (v : V) (st : St) : Prop := ∃ n A nv, k = 14 - n ∧ n ≤ 14 ∧ v = .int .i64 ((n : Nat) : Int) ∧ KySt t va rows ws A (passes n t.nodes) ∧ st = ⟨A, nv⟩
def KyI2 (t : TreeT) (va : Nat) (rows : List (List V)) (ws : List Nat) (ns : List NodeT) (k : Nat) (v : V) (st : St) : Prop := ∃ i A nv, k = t.nodes.length - i ∧ i ≤ t.nodes.length ∧ v = .int .i64 ((i : Nat) : Int) ∧ KySt t va rows ws A (((idsN t.nodes).take i).foldl keyS ns) ∧ st = ⟨A, nv⟩
def KyI3 (t : TreeT) (va : Nat) (rows : List (List V)) (ws : List Nat) (ns : List NodeT) (i l : Nat) (k : Nat) (v : V) (st : St) : Prop := ∃ j A nv, k = l - j ∧ j ≤ l ∧ v = .int .i64 ((j : Nat) : Int) ∧ KySt t va rows ws A (partN ns i j) ∧ st = ⟨A, nv⟩

set_option maxHeartbeats 1000000 in
theorem rKeyed (h : KdR P) (t : TreeT) (hs : smallT t) {R : List Int} {ht rk : Int → Nat} (H : Shp (shs t.nodes) R ht rk) : PCalls P n_gazetteerref11_Keyed [.agg (cTree t)] (fun r => r = .agg (cTree (keyedF t))) := by
  refine A_gazetteerref11_Keyed h.kyd ?_
  delta F_gazetteerref11_Keyed sp sd gp gd fl fd gl
  simp [st0]
  have hnd : (idsN t.nodes).Nodup := by have := H.nodup; simpa using this
  refine inv_f0 (Copy_D h.toCpR t hs (fun A0 va rows ws nv0 hD0 ho0 hE0 hws0 => ?_))
  have hb0 : A0[0]? = some (some (0, .mem 3 [cTree t])) := by rw [hE0.2 0 (by simp)]; rfl
  have hb1 : A0[1]? = some (some (1, .mem 3 [zTree])) := by rw [hE0.2 1 (by simp)]; rfl
  simp at ho0 hws0
  simp [hb0]
  refine ⟨KyI1 t va rows ws, ⟨14, GhostV.refl ⟨0, _, _, by simp, by omega, by simp, ⟨?_, ?_, ?_, ?_, hws0⟩, rfl⟩⟩, ?_⟩
  · rw [List.getElem?_set_self (List.getElem?_eq_some_iff.1 hb0).1]; rfl
  · rw [List.getElem?_set_ne (by omega)]; exact hb1
  · rw [List.getElem?_set_ne (by omega)]; exact ho0
  · exact hD0.up (fun w hw => by rw [List.getElem?_set_ne (by have := hws0 w hw; omega)])
  rintro k1 v st ⟨n, A, nv, rfl, hn14, rfl, hK, rfl⟩
  have hidsP : idsN (passes n t.nodes) = idsN t.nodes := by
    have := shs_passes n t.nodes hnd
    rw [← idsS_shs, this, idsS_shs]
  by_cases hn : n < 14
  · have hn' : (n : Int) < 14 := by omega
    simp [hn']
    refine ⟨KyI2 t va rows ws (passes n t.nodes), ⟨t.nodes.length, GhostV.refl ⟨0, A, nv, by simp, by omega, by simp, by simpa using hK, rfl⟩⟩, ?_⟩
    clear hK
    rintro k2 v st ⟨i, A, nv, rfl, hi, rfl, hK, rfl⟩
    have hD := hK.hD
    obtain ⟨ns2, hns2⟩ : ∃ ns2, ns2 = ((idsN t.nodes).take i).foldl keyS (passes n t.nodes) := ⟨_, rfl⟩
    have hids2 : idsN ns2 = idsN t.nodes := by rw [hns2, keyL_ids, hidsP]
    have hsh2 : shs ns2 = shs t.nodes := by
      rw [hns2, shs_keyL _ _ (by rw [hidsP]; exact hnd), shs_passes n t.nodes hnd]
    have hlen2 : ns2.length = t.nodes.length := shs_len hsh2
    have hnd2 : (idsN ns2).Nodup := by rw [hids2]; exact hnd
    simp [hK.h0]
    by_cases hlt : i < t.nodes.length
    · simp [hlt]
      have hlt2 : i < ns2.length := by omega
      obtain ⟨x, hx⟩ : ∃ x, x = ns2[i] := ⟨_, rfl⟩
      have hxg : ns2[i]? = some x := by rw [List.getElem?_eq_getElem hlt2, hx]
      refine ⟨KyI3 t va rows ws ns2 i x.es.length, ⟨x.es.length, GhostV.refl ⟨0, A, nv, by simp, by omega, by simp, by rw [partN_zero, hns2]; exact hK, rfl⟩⟩, ?_⟩
      clear hK hD
      rintro k3 v st ⟨j, A, nv, rfl, hj, rfl, hK, rfl⟩
      have hnx : ns2[i]? = some x := hxg
      have hp := partN_get (k := j) hxg
      obtain ⟨row, w, hri, hwi, ver, rfl, hA⟩ := hK.hD.at' i (by rw [partN_len]; exact hlt2)
      have hpe : (partN ns2 i j)[i]'(by rw [partN_len]; exact hlt2) = { x with es := if x.leaf then x.es else partE ns2 x.es j } := by
        rw [List.getElem?_eq_getElem (by rw [partN_len]; exact hlt2)] at hp
        exact Option.some.inj hp
      rw [hpe] at hri hA
      have hyl : (if x.leaf then x.es else partE ns2 x.es j).length = x.es.length := by
        split
        · rfl
        · exact partE_len _ _ _
      simp only [dNode, hyl] at hri hA
      have hnext : (x.leaf = true ∨ ¬ j < x.es.length) → ∃ j1, j1 < t.nodes.length - i ∧ KyI2 t va rows ws (passes n t.nodes) j1 (.int .i64 (IntKind.i64.wrap ((i : Int) + 1))) ⟨A, nv⟩ := fun hor => by
        refine ⟨t.nodes.length - (i + 1), by omega, i + 1, A, nv, rfl, by omega, by rw [wadd1 (by have := hs.1; omega)], ?_, rfl⟩
        have e1 : ((idsN t.nodes).take (i + 1)).foldl keyS (passes n t.nodes) = keyS ns2 x.id := by
          rw [take_snoc (by simpa [idsN] using hlt), List.foldl_append, ← hns2]
          simp only [List.foldl_cons, List.foldl_nil]
          congr 1
          have h1 : (idsN ns2)[i]? = some x.id := by simp [idsN, hxg]
          rw [hids2] at h1
          have h2 : i < (idsN t.nodes).length := by simpa [idsN] using hlt
          rw [List.getElem?_eq_getElem h2] at h1
          exact Option.some.inj h1
        rw [e1, hx, ← partN_done hnd2 hlt2 (k := j) (by rw [← hx]; exact hor)]
        exact hK
      simp [hK.h0, hK.h4, hri]
      by_cases hlj : j < x.es.length
      · cases hl : x.leaf
        · simp only [hl, Bool.false_eq_true, if_false] at hri hA hpe hp
          have H2 : Shp (shs ns2) R ht rk := by rw [hsh2]; exact H
          have hxm : x ∈ ns2 := List.mem_of_getElem? hxg
          have hkid : x.es[j].child ∈ x.sh.kids := by
            simp only [SN.kids, NodeT.sh_leaf, hl, Bool.false_eq_true, if_false, NodeT.sh_ch]
            exact List.mem_map.2 ⟨_, List.getElem_mem hlj, rfl⟩
          have hcin : x.es[j].child ∈ idsN ns2 := by have := H2.kid_mem (mem_kids (mem_shs hxm) hkid); simpa using this
          obtain ⟨c, hfc⟩ := findN_ids hcin
          obtain ⟨jd, hjd, hfi, hcj⟩ := findN_idx hfc
          have hcid := (findN_some hfc).2
          have hji : i ≠ jd := fun e => by
            have h1 := H2.inn _ (mem_shs hxm) _ hkid
            subst e
            have : c = x := by rw [← hcj, hx]
            rw [← hcid, this, NodeT.sh_id] at h1
            omega
          have hfi3 : (partN ns2 i j).findIdx? (isId x.es[j].child) = some jd := by rw [findIdx_ids (partN_ids ns2 i j)]; exact hfi
          have hc3 : (partN ns2 i j)[jd]'(by rw [partN_len]; exact hjd) = c := by
            have h1 := partN_ne (ns := ns2) (k := j) hji
            rw [List.getElem?_eq_getElem (by rw [partN_len]; exact hjd), List.getElem?_eq_getElem hjd, hcj] at h1
            exact Option.some.inj h1
          obtain ⟨rowc, wj, hrj, hwj, verj, rfl, hAj⟩ := hK.hD.at' jd (by rw [partN_len]; exact hjd)
          rw [hc3] at hrj hAj
          simp only [dNode] at hrj
          have hEj := partE_get (ns := ns2) hlj
          have hAl := (List.getElem?_eq_some_iff.1 hA).1
          have hAjl := (List.getElem?_eq_some_iff.1 hAj).1
          have h4l := (List.getElem?_eq_some_iff.1 hK.h4).1
          have hM : ∀ id x M, A[id]? = some x → (A ++ M)[id]? = some x := fun id x M e => by rw [List.getElem?_append_left (List.getElem?_eq_some_iff.1 e).1]; exact e
          have h0M := fun M => hM 0 _ M hK.h0
          have h0G : ∀ M hh, (A ++ M)[0]'hh = some (0, .mem 3 [bT va t.nodes.length t]) := fun M hh => by
            have := h0M M
            rw [List.getElem?_eq_getElem hh] at this
            exact Option.some.inj this
          have h4M := fun M => hM 4 _ M hK.h4
          have hAM := fun M => hM w _ M hA
          have hAjM := fun M => hM wj _ M hAj
          have hsM : ∀ M (x : Option (Nat × Obj)), (A ++ M).set w x = A.set w x ++ M := fun M x => List.set_append_left _ _ hAl
          have hjd' : jd < t.nodes.length := by omega
          have hEj' : ∀ hh, (partE ns2 x.es j)[j]'hh = x.es[j] := fun hh => by
            rw [List.getElem?_eq_getElem hh] at hEj
            exact Option.some.inj hEj
          simp [hK.h0, hK.h4, hri, hlj, hlt, hl, hA, hEj', partE_len]
          refine inv_look (rAt h.toRdR ⟨partN ns2 i j, t.root, t.count⟩ x.es[j].child (by rw [partN_len, hlen2]; have := hs.1; omega)) (Bors.cons (hK.bor (by rw [partN_len, hlen2]) _) (Bors.cons (.refl _) Bors.nil)) (by simp [pureL, V.pure, pureLL]) ?_
          rintro _ rfl
          refine ⟨rfl, ?_⟩
          dsimp only
          rw [hfi3]
          simp [idxI, hK.h0, hK.h4, hjd', hrj]
          have hxw := small_shs hs.2 hsh2 x hxm
          by_cases hc0 : 0 < c.es.length
          · simp [hc0, h0M, h0G, h4M, hri, hlt]
            have hcw := small_shs hs.2 hsh2 c (findN_some hfc).1
            refine inv_look (first := []) (cap := []) (args := [.msl wj verj 0 c.es.length]) (rBound h.toKyR c.es hc0 (by omega)) (Bors.cons (EsBor ?_ rfl) Bors.nil) (by simp [pureL, V.pure, pureLL]) ?_
            · simp [St.get, hAjM]
            rintro _ rfl
            refine ⟨rfl, ?_⟩
            simp [h0M, h0G, h4M, hri, hlt, hlj, hAM, hsM, partE_len, hEj']
            have hke : cLink (keyE ns2 x.es[j]) = [.int .i64 (boundK c.es).x0, .int .i64 (boundK c.es).x1, .int .i64 (boundK c.es).y0, .int .i64 (boundK c.es).y1, .int .u32 x.es[j].child] := by
              unfold keyE
              rw [hfc]
              dsimp only
              rw [if_neg (List.length_pos_iff.1 hc0)]
              rfl
            have hcells : (List.map cLink (partE ns2 x.es j)).set j [.int .i64 (boundK c.es).x0, .int .i64 (boundK c.es).x1, .int .i64 (boundK c.es).y0, .int .i64 (boundK c.es).y1, .int .u32 x.es[j].child] = List.map cLink (partE ns2 x.es (j + 1)) := by
              rw [← hke, ← partE_set hlj, List.map_set]
            rw [hcells]
            have hD2 := hK.hD.setE (i := i) (w := w) (ver := ver) (by rw [partN_len]; exact hlt2) hwi (by rw [hpe, hri]; simp [partE_len]) hAl (es' := partE ns2 x.es (j + 1)) (by rw [hpe]; simp [partE_len])
            have hns3 : (partN ns2 i j).set i { (partN ns2 i j)[i]'(by rw [partN_len]; exact hlt2) with es := partE ns2 x.es (j + 1) } = partN ns2 i (j + 1) := by
              rw [hpe, partN_eq hxg hl, partN_eq hxg hl, List.set_set, hl]
            rw [hns3] at hD2
            have hw4 := hK.hw w (List.mem_of_getElem? hwi)
            exact ⟨x.es.length - (j + 1), by omega, GhostV.keep ⟨j + 1, _, _, rfl, by omega, by rw [wadd1 (by omega)], ⟨by rw [List.getElem?_set_ne (by omega)]; exact hK.h0, by rw [List.getElem?_set_ne (by omega)]; exact hK.h1, by rw [List.getElem?_set_ne (by omega)]; exact hK.h4, hD2, hK.hw⟩, rfl⟩⟩
          · have hce : c.es = [] := by
              cases he : c.es with
              | nil => rfl
              | cons e l => rw [he] at hc0; simp at hc0
            simp [hc0]
            refine ⟨x.es.length - (j + 1), by omega, GhostV.keep ⟨j + 1, _, _, rfl, by omega, by rw [wadd1 (by omega)], ?_, rfl⟩⟩
            rw [partN_eq hxg hl, partE_same hlj (by unfold keyE; rw [hfc]; simp [hce]), ← partN_eq hxg hl]
            exact hK
        · simp [hK.h0, hK.h4, hri, hlj, hlt, hl]
          obtain ⟨j1, g1, g2⟩ := hnext (.inl hl)
          exact ⟨j1, g1, GhostV.refl g2⟩
      · simp [hlj, hlt]
        obtain ⟨j1, g1, g2⟩ := hnext (.inr hlj)
        exact ⟨j1, g1, GhostV.refl g2⟩
    · have e1 : ((idsN t.nodes).take i) = idsN t.nodes := List.take_of_length_le (by simp [idsN]; omega)
      simp [hlt]
      refine ⟨14 - (n + 1), by omega, GhostV.refl ⟨n + 1, A, nv, rfl, by omega, by rw [wadd1 (by omega)], ?_, rfl⟩⟩
      rw [passes_succ]
      unfold passN
      rw [hidsP, ← e1]
      exact hK
  · obtain rfl : n = 14 := by omega
    simp [hK.h0, hK.h1]
    have hl1 := (List.getElem?_eq_some_iff.1 hK.h1).1
    have hg1 : ∀ x, (A.set 1 x)[1]? = some x := fun x => List.getElem?_set_self hl1
    simp [hg1]
    have hkn : (passes 14 t.nodes).length = t.nodes.length := by
      have := congrArg List.length hidsP
      simpa [idsN] using this
    refine GhostV.tree (L := []) (idn := 4) (va := va) (rows := rows) (ws := ws) (t := keyedF t) ?_ ?_ ⟨Nat.zero_le _, fun id hid => by simp at hid⟩ (fun w _ => Nat.zero_le _) (Nat.zero_le _) (fun hw => by have := hK.hw _ hw; omega) (by rw [keyedF_nodes]; exact hkn.symm) ?_
    · rw [keyedF_nodes]
      exact hK.hD.up (fun w hw => by rw [List.getElem?_set_ne (by have := hK.hw w hw; omega)])
    · rw [List.getElem?_set_ne (by omega)]; exact hK.h4
    · exact ⟨by simp [mkres, V.pure, pureL, pureLL], rfl⟩
end Go.Proofs.Ytmjnpfackanhlaa.AM

namespace Go.Proofs.Ytmjnpfackanhlaa.AM
open Go
set_option linter.unusedVariables false
set_option linter.unusedSimpArgs false
variable {P : Program}

structure WdR (P : Program) : Prop extends KdR P where
 bits : R_gazetteerref07_Bits P
 of : R_gazetteerref07_Of P
 plus : R_gazetteerref07_plus P
 mul : R_gazetteerref07_Mul P
 add : R_gazetteerref07_Add P
 cmp : R_gazetteerref07_Cmp P
 sub : R_gazetteerref07_Sub P
 width : R_gazetteerref07_Width P
 area : R_gazetteerref07_Area P
 margin : R_gazetteerref07_Margin P

def IsB (cs : List V) : Prop := cs.length = 260 ∧ ∀ i, i < 260 → ∃ n, cs[i]? = some (.int .i64 n)
theorem pureL_all : ∀ {cs : List V}, (∀ v ∈ cs, v.pure = true) → pureL cs = true
 | [], _ => rfl
 | v :: cs, h => by
  simp only [pureL, h v (by simp), Bool.true_and]
  exact pureL_all (fun w hw => h w (by simp [hw]))
theorem IsB.pure {cs : List V} (h : IsB cs) : pureL cs = true := pureL_all (fun v hv => by
 obtain ⟨i, hi, e⟩ := List.getElem_of_mem hv
 obtain ⟨n, hn⟩ := h.2 i (by rw [← h.1]; exact hi)
 rw [List.getElem?_eq_getElem hi, e] at hn
 cases hn
 rfl)
theorem IsB.set {cs : List V} (h : IsB cs) (i : Nat) (n : Int) : IsB (cs.set i (.int .i64 n)) := by
 refine ⟨by simp [h.1], fun j hj => ?_⟩
 by_cases e : i = j
 ·subst e; exact ⟨n, List.getElem?_set_self (by rw [h.1]; exact hj)⟩
 ·rw [List.getElem?_set_ne e]; exact h.2 j hj
theorem z_len : z260.length = 260 := by unfold z260; exact List.length_replicate
@[simp] theorem aop_alloc260 {fr : Fr} {st : St} : aop (.alloc z260) fr st = some (.ptr st.objs.length st.nv 0 0, st.push (.mem 260 [z260])) := by
 have e : z260 = .int .i64 0 :: List.replicate 259 (.int .i64 0) := by unfold z260; rw [List.replicate_succ]
 rw [e, aop_alloc, List.length_cons, List.length_replicate]
@[simp] theorem drop_z : List.drop 260 z260 = [] := List.drop_eq_nil_of_le (by rw [z_len]; exact Nat.le_refl _)
theorem get_of {cs : List V} {i : Nat} {v : V} (h : cs[i]? = some v) : ∀ hh, cs[i]'hh = v := fun hh => by
 rw [List.getElem?_eq_getElem hh] at h
 exact Option.some.inj h
theorem IsB.box {cs : List V} (h : IsB cs) {fr : Fr} {st : St} : aop (.box (.c (.agg cs))) fr st = some (.ptr st.objs.length st.nv 0 0, st.push (.mem 260 [cs])) := by
 have hl := h.1
 cases cs with
 | nil => simp at hl
 | cons v cs => rw [← hl]; simp
theorem IsB.take {cs : List V} (h : IsB cs) : List.take 260 cs = cs := List.take_of_length_le (by rw [h.1]; exact Nat.le_refl _)
theorem IsB.drop {cs : List V} (h : IsB cs) : List.drop 260 cs = [] := List.drop_eq_nil_of_le (by rw [h.1]; exact Nat.le_refl _)
theorem IsB.zero : IsB z260 := ⟨z_len, fun i hi => ⟨0, by unfold z260; rw [List.getElem?_replicate, if_pos hi]⟩⟩
theorem IsB.put {cs : List V} (h : IsB cs) {i : Nat} (hi : i < 260) (n : Int) : IsB (cs.take i ++ .int .i64 n :: cs.drop (i + 1)) := by
 have e : cs.take i ++ .int .i64 n :: cs.drop (i + 1) = cs.set i (.int .i64 n) := by rw [List.set_eq_take_append_cons_drop, if_pos (by rw [h.1]; exact hi)]
 rw [e]; exact h.set i n
def BiI (hi lo : Int) (k : Nat) (v : V) (st : St) : Prop := ∃ i nv cs, k = 64 - i ∧ i ≤ 64 ∧ v = .int .i64 ((i : Nat) : Int) ∧ IsB cs ∧ st = ⟨[some (0, .mem 2 [[.int .u64 hi, .int .u64 lo]]), some (1, .mem 260 [z260]), some (2, .mem 260 [cs])], nv⟩
theorem rBits (h : WdR P) (hi lo : Int) : PCalls P n_gazetteerref07_Bits [.agg [.int .u64 hi, .int .u64 lo]] (fun r => ∃ cs, IsB cs ∧ r = .agg cs) := by
  refine A_gazetteerref07_Bits h.bits ?_
  delta F_gazetteerref07_Bits sp sd gp gd fl fd gl
  simp [st0, z_len]
  refine ⟨BiI hi lo, ⟨64, GhostV.refl ⟨0, 3, z260, by simp, by omega, by simp, IsB.zero, rfl⟩⟩, ?_⟩
  rintro k1 v st ⟨i, nv, cs, rfl, hi, rfl, hB, rfl⟩
  have hl := hB.1
  by_cases hlt : i < 64
  · have h1 : (i : Int) < 64 := by omega
    obtain ⟨n1, hn1⟩ := hB.2 i (by omega)
    have h0 : ¬ (i : Int) < 0 := by omega
    have h2 : i < 260 := by omega
    have h3 : (i : Int) < 260 := by omega
    have hw : IntKind.i64.wrap (64 + (i : Int)) = ((64 + i : Nat) : Int) := by rw [wrap_i64 (by omega)]; omega
    have h4 : ((64 + i : Nat) : Int) < 260 := by omega
    have h5 : ¬ ((64 + i : Nat) : Int) < 0 := by omega
    have h6 : (64 + (i : Int)).toNat = 64 + i := by omega
    simp [h1, hl, h0, h2, h3, intBin, offV]
    rw [hw]
    simp [h4, h5, h6, hl, offV]
    exact ⟨by omega, by omega, by omega, 64 - (i + 1), by omega, GhostV.refl ⟨i + 1, nv, _, rfl, by omega, by rw [wadd1 (by omega)], (hB.put (by omega) _).put (by omega) _, rfl⟩⟩
  · have h1 : ¬ (i : Int) < 64 := by omega
    simp [h1, hl, z_len, hB.take]
    exact GhostV.refl ⟨by simpa [mkres, V.pure] using hB.pure, cs, hB, rfl⟩
def OfI (cs : List V) (k : Nat) (v : V) (st : St) : Prop := ∃ i nv a b, k = 64 - i ∧ i ≤ 64 ∧ v = .int .i64 ((i : Nat) : Int) ∧ st = ⟨[some (0, .mem 260 [cs]), some (1, .mem 2 [[.int .u64 0, .int .u64 0]]), some (2, .mem 2 [[.int .u64 a, .int .u64 b]])], nv⟩
def isW (r : V) : Prop := ∃ a b : Int, r = .agg [.int .u64 a, .int .u64 b]
theorem rOf (h : WdR P) {cs : List V} (hB : IsB cs) : PCalls P n_gazetteerref07_Of [.agg cs] isW := by
  refine A_gazetteerref07_Of h.of ?_
  delta F_gazetteerref07_Of sp sd gp gd fl fd gl
  have hl := hB.1
  simp [st0, hB.box]
  refine ⟨OfI cs, ⟨64, GhostV.refl ⟨0, 3, 0, 0, by simp, by omega, by simp, by simp [hl]⟩⟩, ?_⟩
  rintro k1 v st ⟨i, nv, a, b, rfl, hi, rfl, rfl⟩
  by_cases hlt : i < 64
  · have h1 : (i : Int) < 64 := by omega
    have h0 : ¬ (i : Int) < 0 := by omega
    have h2 : i < 260 := by omega
    have h3 : (i : Int) < 260 := by omega
    obtain ⟨n1, hn1⟩ := hB.2 i (by omega)
    obtain ⟨n2, hn2⟩ := hB.2 (64 + i) (by omega)
    have hw : IntKind.i64.wrap (64 + (i : Int)) = ((64 + i : Nat) : Int) := by rw [wrap_i64 (by omega)]; omega
    have h4 : ((64 + i : Nat) : Int) < 260 := by omega
    have h5 : ¬ ((64 + i : Nat) : Int) < 0 := by omega
    have h6 : (64 + (i : Int)).toNat = 64 + i := by omega
    simp [h1, hl, h0, h2, h3, intBin, offV, hn1, get_of hn1]
    rw [hw]
    simp [h4, h5, h6, hl, offV, hn2, get_of hn2, h0, intBin]
    exact ⟨by omega, 64 - (i + 1), by omega, GhostV.refl ⟨i + 1, nv, _, _, rfl, by omega, by rw [wadd1 (by omega)], rfl⟩⟩
  · have h1 : ¬ (i : Int) < 64 := by omega
    simp [h1]
    exact GhostV.refl ⟨rfl, a, b, rfl⟩
def PlI (up : Nat) (bs : List V) (k : Nat) (v7 v8 : V) (st : St) : Prop := ∃ i nv c cs, k = 260 - i ∧ i ≤ 260 ∧ up ≤ i ∧ v8 = .int .i64 ((i : Nat) : Int) ∧ v7 = .int .i64 c ∧ IsB cs ∧ st = ⟨[some (0, .mem 260 [cs]), some (1, .mem 260 [bs]), some (2, .mem 260 [z260])], nv⟩
theorem rPlus (h : WdR P) {as bs : List V} (hA : IsB as) (hB : IsB bs) {up : Nat} (hu : up ≤ 260) : PCalls P n_gazetteerref07_plus [.agg as, .agg bs, .int .i64 up] (fun r => ∃ cs, IsB cs ∧ r = .agg cs) := by
  refine A_gazetteerref07_plus h.plus ?_
  delta F_gazetteerref07_plus sp sd gp gd fl fd gl
  have hal := hA.1
  have hbl := hB.1
  simp [st0, hA.box, hB.box]
  refine ⟨PlI up bs, ⟨260 - up, GhostV.refl ⟨up, 3, 0, as, by omega, by omega, by omega, by simp, by simp, hA, by simp [hal, hbl]⟩⟩, ?_⟩
  rintro k1 v7 v8 st ⟨i, nv, c, cs, rfl, hi, hui, rfl, rfl, hC, rfl⟩
  have hcl := hC.1
  by_cases hlt : i < 260
  · have h1 : (i : Int) < 260 := by omega
    have h0 : ¬ (i : Int) < 0 := by omega
    obtain ⟨n1, hn1⟩ := hC.2 i (by omega)
    obtain ⟨n2, hn2⟩ := hB.2 (i - up) (by omega)
    have h4 : ((i - up : Nat) : Int) < 260 := by omega
    have h5 : ¬ ((i - up : Nat) : Int) < 0 := by omega
    simp [h1, hcl, h0, hlt, intBin, offV, hn1, get_of hn1]
    rw [wsub (by omega) hui]
    simp [h4, h5, hbl, offV, hn2, get_of hn2, h0, h1, hlt, intBin, hcl]
    exact ⟨by omega, 260 - (i + 1), by omega, GhostV.refl ⟨i + 1, nv, _, _, rfl, by omega, by omega, by rw [wadd1 (by omega)], rfl, hC.put (by omega) _, rfl⟩⟩
  · have h1 : ¬ (i : Int) < 260 := by omega
    simp [h1, hcl, z_len, hC.take]
    exact GhostV.refl ⟨by simpa [mkres, V.pure] using hC.pure, cs, hC, rfl⟩
end Go.Proofs.Ytmjnpfackanhlaa.AM

namespace Go.Proofs.Ytmjnpfackanhlaa.AM
open Go
set_option linter.unusedVariables false
set_option linter.unusedSimpArgs false
variable {P : Program}

def isWB (r : V) : Prop := ∃ (a b : Int) (o : Bool), r = .tup [.agg [.int .u64 a, .int .u64 b], .bool o]
def MuI (xs ys : List V) (k : Nat) (v : V) (st : St) : Prop := ∃ i nv cs, k = 64 - i ∧ i ≤ 64 ∧ v = .int .i64 ((i : Nat) : Int) ∧ IsB cs ∧ st = ⟨[some (0, .mem 2 [[.int .u64 0, .int .u64 0]]), some (1, .mem 260 [xs]), some (2, .mem 260 [ys]), some (3, .mem 260 [cs])], nv⟩
theorem rMul (h : WdR P) (a b : Int) : PCalls P n_gazetteerref07_Mul [.int .u64 a, .int .u64 b] isW := by
  refine A_gazetteerref07_Mul h.mul ?_
  delta F_gazetteerref07_Mul sp sd gp gd fl fd gl
  simp [st0]
  refine inv_p (rBits h 0 a) rfl rfl ?_
  rintro _ ⟨xs, hX, rfl⟩
  simp
  refine inv_p (rBits h 0 b) rfl rfl ?_
  rintro _ ⟨ys, hY, rfl⟩
  have hxl := hX.1
  have hyl := hY.1
  simp [hxl, hyl, z_len]
  refine ⟨MuI xs ys, ⟨64, GhostV.refl ⟨0, 4, z260, by simp, by omega, by simp, IsB.zero, by simp [hX.take, hY.take]⟩⟩, ?_⟩
  rintro k1 v st ⟨i, nv, cs, rfl, hi, rfl, hB, rfl⟩
  have hl := hB.1
  by_cases hlt : i < 64
  · have h1 : (i : Int) < 64 := by omega
    have h0 : ¬ (i : Int) < 0 := by omega
    have h2 : i < 260 := by omega
    have h3 : (i : Int) < 260 := by omega
    obtain ⟨n1, hn1⟩ := hY.2 i (by omega)
    simp [h1, hyl, h0, h2, h3, offV, hn1, get_of hn1]
    by_cases hn : n1 = 1
    · simp [hn, hl, hxl, hB.take, hX.take]
      refine inv_p (rPlus h hB hX (up := i) (by omega)) rfl (by simp [pureL, V.pure, hB.pure, hX.pure]) ?_
      rintro _ ⟨cs2, hC, rfl⟩
      simp [hl, hC.1, hB.drop, hC.take]
      exact ⟨64 - (i + 1), by omega, GhostV.refl ⟨i + 1, nv, cs2, rfl, by omega, by rw [wadd1 (by omega)], hC, rfl⟩⟩
    · simp [hn]
      exact ⟨64 - (i + 1), by omega, GhostV.refl ⟨i + 1, nv, cs, rfl, by omega, by rw [wadd1 (by omega)], hB, rfl⟩⟩
  · have h1 : ¬ (i : Int) < 64 := by omega
    simp [h1, hl, hB.take]
    refine inv_p (rOf h hB) rfl (by simp [pureL, V.pure, hB.pure]) ?_
    rintro _ ⟨x, y, rfl⟩
    simp
    exact GhostV.refl ⟨rfl, x, y, rfl⟩
theorem rAdd (h : WdR P) (a b c d : Int) : PCalls P n_gazetteerref07_Add [.agg [.int .u64 a, .int .u64 b], .agg [.int .u64 c, .int .u64 d]] isWB := by
 refine A_gazetteerref07_Add h.add ?_
 delta F_gazetteerref07_Add sp sd gp gd fl fd gl
 simp [st0]
 refine inv_p (rBits h a b) rfl rfl ?_
 rintro _ ⟨xs, hX, rfl⟩
 simp
 refine inv_p (rBits h c d) rfl rfl ?_
 rintro _ ⟨ys, hY, rfl⟩
 refine inv_p (rPlus h hX hY (up := 0) (by omega)) rfl (by simp [pureL, V.pure, hX.pure, hY.pure]) ?_
 rintro _ ⟨cs, hC, rfl⟩
 obtain ⟨n1, hn1⟩ := hC.2 128 (by omega)
 simp [hC.1, z_len, hC.take, offV, hn1, get_of hn1]
 refine inv_p (rOf h hC) rfl (by simp [pureL, V.pure, hC.pure]) ?_
 rintro _ ⟨x, y, rfl⟩
 simp [hC.1, offV, hn1, get_of hn1]
 exact GhostV.refl ⟨rfl, x, y, _, rfl⟩
def CmI (xs ys : List V) (a b c d : Int) (k : Nat) (v : V) (st : St) : Prop := ∃ (i : Int) (nv : Nat), (k : Int) = i + 1 ∧ -1 ≤ i ∧ i ≤ 127 ∧ v = .int .i64 i ∧ st = ⟨[some (0, .mem 2 [[.int .u64 a, .int .u64 b]]), some (1, .mem 2 [[.int .u64 c, .int .u64 d]]), some (2, .mem 260 [xs]), some (3, .mem 260 [ys])], nv⟩
theorem rCmp (h : WdR P) (a b c d : Int) : PCalls P n_gazetteerref07_Cmp [.agg [.int .u64 a, .int .u64 b], .agg [.int .u64 c, .int .u64 d]] (fun r => ∃ n, r = .int .i64 n) := by
  refine A_gazetteerref07_Cmp h.cmp ?_
  delta F_gazetteerref07_Cmp sp sd gp gd fl fd gl
  simp [st0]
  refine inv_p (rBits h a b) rfl rfl ?_
  rintro _ ⟨xs, hX, rfl⟩
  simp
  refine inv_p (rBits h c d) rfl rfl ?_
  rintro _ ⟨ys, hY, rfl⟩
  have hxl := hX.1
  have hyl := hY.1
  simp [hxl, hyl, z_len]
  refine ⟨CmI xs ys a b c d, ⟨128, GhostV.refl ⟨127, 4, by omega, by omega, by omega, rfl, by simp [hX.take, hY.take]⟩⟩, ?_⟩
  rintro k1 v st ⟨i, nv, hk, hi0, hi, rfl, rfl⟩
  by_cases hge : 0 ≤ i
  · obtain ⟨m, rfl⟩ : ∃ m : Nat, i = (m : Int) := ⟨i.toNat, by omega⟩
    obtain ⟨n1, hn1⟩ := hX.2 m (by omega)
    obtain ⟨n2, hn2⟩ := hY.2 m (by omega)
    have h0 : ¬ (m : Int) < 0 := by omega
    have h3 : (m : Int) < 260 := by omega
    have h2 : m < 260 := by omega
    simp [hge, hxl, hyl, h0, h2, h3, offV, hn1, hn2, get_of hn1, get_of hn2]
    by_cases hn : n1 = n2
    · simp [hn]
      have e : IntKind.i64.wrap ((m : Int) - 1) = (m : Int) - 1 := wrap_i64 (by omega)
      rw [e]
      exact ⟨m, by omega, GhostV.refl ⟨(m : Int) - 1, nv, by omega, by omega, by omega, rfl, rfl⟩⟩
    · simp [hn, hge, hxl, hyl, h0, h2, h3, offV, hn1, hn2, get_of hn1, get_of hn2]
      exact GhostV.refl ⟨rfl, _, rfl⟩
  · simp [hge]
    exact GhostV.refl ⟨rfl, _, rfl⟩
theorem rSub (h : WdR P) (a b c d : Int) : PCalls P n_gazetteerref07_Sub [.agg [.int .u64 a, .int .u64 b], .agg [.int .u64 c, .int .u64 d]] isWB := by
 refine A_gazetteerref07_Sub h.sub ?_
 delta F_gazetteerref07_Sub sp sd gp gd fl fd gl
 simp [st0]
 refine inv_p (rBits h a b) rfl rfl ?_
 rintro _ ⟨xs, hX, rfl⟩
 simp
 refine inv_p (rBits h _ _) rfl rfl ?_
 rintro _ ⟨ys, hY, rfl⟩
 refine inv_p (rPlus h hX hY (up := 0) (by omega)) rfl (by simp [pureL, V.pure, hX.pure, hY.pure]) ?_
 rintro _ ⟨cs, hC, rfl⟩
 simp [hC.1, z_len, hC.take]
 refine inv_p (rBits h 0 1) rfl rfl ?_
 rintro _ ⟨os, hO, rfl⟩
 simp [hC.1, hO.1, z_len, hC.take, hO.take]
 refine inv_p (rPlus h hC hO (up := 0) (by omega)) rfl (by simp [pureL, V.pure, hC.pure, hO.pure]) ?_
 rintro _ ⟨ds, hD, rfl⟩
 simp
 refine inv_p (rOf h hD) rfl (by simp [pureL, V.pure, hD.pure]) ?_
 rintro _ ⟨x, y, rfl⟩
 simp
 refine inv_p (rCmp h a b c d) rfl rfl ?_
 rintro _ ⟨n, rfl⟩
 simp
 exact GhostV.refl ⟨rfl, x, y, _, rfl⟩
theorem rWidth (h : WdR P) (a b : Int) : PCalls P n_gazetteerref07_Width [.int .i64 a, .int .i64 b] (fun r => ∃ n, r = .int .u64 n) := by
 refine A_gazetteerref07_Width h.width ?_
 delta F_gazetteerref07_Width sp sd gp gd fl fd gl
 simp [st0]
 by_cases h1 : b < a
 ·simp [h1]
  exact GhostV.refl ⟨rfl, _, rfl⟩
 ·by_cases h2 : a < 0
  ·by_cases h3 : 0 ≤ b
   ·simp [h1, h2, h3]
    exact GhostV.refl ⟨rfl, _, rfl⟩
   ·simp [h1, h2, h3]
    exact GhostV.refl ⟨rfl, _, rfl⟩
  ·simp [h1, h2]
   exact GhostV.refl ⟨rfl, _, rfl⟩
theorem rArea (h : WdR P) (k : KeyT) : PCalls P n_gazetteerref07_Area [.agg (cKey k)] isW := by
 refine A_gazetteerref07_Area h.area ?_
 delta F_gazetteerref07_Area sp sd gp gd fl fd gl
 simp [st0]
 refine inv_p (rWidth h k.x0 k.x1) rfl rfl ?_
 rintro _ ⟨n, rfl⟩
 simp
 refine inv_p (rWidth h k.y0 k.y1) rfl rfl ?_
 rintro _ ⟨m, rfl⟩
 refine inv_p (rMul h n m) rfl rfl ?_
 rintro _ ⟨x, y, rfl⟩
 simp
 exact GhostV.refl ⟨rfl, x, y, rfl⟩
theorem rMargin (h : WdR P) (k : KeyT) : PCalls P n_gazetteerref07_Margin [.agg (cKey k)] isW := by
 refine A_gazetteerref07_Margin h.margin ?_
 delta F_gazetteerref07_Margin sp sd gp gd fl fd gl
 simp [st0]
 refine inv_p (rWidth h k.x0 k.x1) rfl rfl ?_
 rintro _ ⟨n, rfl⟩
 simp
 refine inv_p (rWidth h k.y0 k.y1) rfl rfl ?_
 rintro _ ⟨m, rfl⟩
 simp
 refine inv_p (rAdd h 0 n 0 m) rfl rfl ?_
 rintro _ ⟨x, y, o, rfl⟩
 simp
 exact GhostV.refl ⟨rfl, x, y, rfl⟩
structure LeR (P : Program) : Prop extends WdR P where
 grows : R_gazetteerref09_Grows P
 order : R_gazetteerref09_Order P
 less : R_gazetteerref09_Less P
theorem rOrder (h : LeR P) (a b c d a' b' c' d' : Int) : PCalls P n_gazetteerref09_Order [.agg [.int .u64 a, .int .u64 b], .agg [.int .u64 c, .int .u64 d], .agg [.int .u64 a', .int .u64 b'], .agg [.int .u64 c', .int .u64 d']] (fun r => ∃ n, r = .int .i64 n) := by
 refine A_gazetteerref09_Order h.order ?_
 delta F_gazetteerref09_Order sp sd gp gd fl fd gl
 simp [st0]
 refine inv_p (rCmp h.toWdR a b a' b') rfl rfl ?_
 rintro _ ⟨n, rfl⟩
 by_cases hn : n = 0
 ·simp [hn]
  refine inv_p (rCmp h.toWdR c d c' d') rfl rfl ?_
  rintro _ ⟨m, rfl⟩
  exact GhostV.refl ⟨rfl, m, rfl⟩
 ·simp [hn]
  exact GhostV.refl ⟨rfl, n, rfl⟩
def isWW (r : V) : Prop := ∃ a b c d : Int, r = .tup [.agg [.int .u64 a, .int .u64 b], .agg [.int .u64 c, .int .u64 d]]
theorem rGrows (h : LeR P) (a b : KeyT) : PCalls P n_gazetteerref09_Grows [.agg (cKey a), .agg (cKey b)] isWW := by
 refine A_gazetteerref09_Grows h.grows ?_
 delta F_gazetteerref09_Grows sp sd gp gd fl fd gl
 simp [st0]
 have hk := h.toKyR
 refine inv_p (rBox hk a) rfl rfl ?_
 rintro _ rfl
 cases ha : boxK a <;> simp
 ·exact GhostV.refl ⟨rfl, 0, 0, 0, 0, rfl⟩
 ·refine inv_p (rBox hk b) rfl rfl ?_
  rintro _ rfl
  cases hb : boxK b <;> simp
  ·exact GhostV.refl ⟨rfl, 0, 0, 0, 0, rfl⟩
  ·refine inv_p (rUnion hk a b) rfl rfl ?_
   rintro _ rfl
   simp
   refine inv_p (rArea h.toWdR (unionK a b)) rfl rfl ?_
   rintro _ ⟨x1, y1, rfl⟩
   simp
   refine inv_p (rArea h.toWdR a) rfl rfl ?_
   rintro _ ⟨x2, y2, rfl⟩
   refine inv_p (rSub h.toWdR x1 y1 x2 y2) rfl rfl ?_
   rintro _ ⟨x3, y3, o3, rfl⟩
   simp
   refine inv_p (rMargin h.toWdR (unionK a b)) rfl rfl ?_
   rintro _ ⟨x4, y4, rfl⟩
   simp
   refine inv_p (rMargin h.toWdR a) rfl rfl ?_
   rintro _ ⟨x5, y5, rfl⟩
   refine inv_p (rSub h.toWdR x4 y4 x5 y5) rfl rfl ?_
   rintro _ ⟨x6, y6, o6, rfl⟩
   simp
   exact GhostV.refl ⟨rfl, x3, y3, x6, y6, rfl⟩
def isBool (r : V) : Prop := ∃ b : Bool, r = .bool b
theorem rLess (h : LeR P) (a b c : KeyT) : PCalls P n_gazetteerref09_Less [.agg (cKey a), .agg (cKey b), .agg (cKey c)] isBool := by
 refine A_gazetteerref09_Less h.less ?_
 delta F_gazetteerref09_Less sp sd gp gd fl fd gl
 simp [st0]
 have hk := h.toKyR
 refine inv_p (rBox hk a) rfl rfl ?_
 rintro _ rfl
 cases ha : boxK a <;> simp
 ·exact GhostV.refl ⟨rfl, false, rfl⟩
 ·refine inv_p (rBox hk b) rfl rfl ?_
  rintro _ rfl
  cases hb : boxK b <;> simp
  ·exact GhostV.refl ⟨rfl, false, rfl⟩
  ·refine inv_p (rBox hk c) rfl rfl ?_
   rintro _ rfl
   cases hc : boxK c <;> simp
   ·exact GhostV.refl ⟨rfl, false, rfl⟩
   ·refine inv_p (rGrows h a c) rfl rfl ?_
    rintro _ ⟨a1, b1, c1, d1, rfl⟩
    simp
    refine inv_p (rGrows h b c) rfl rfl ?_
    rintro _ ⟨a2, b2, c2, d2, rfl⟩
    simp
    refine inv_p (rOrder h a1 b1 c1 d1 a2 b2 c2 d2) rfl rfl ?_
    rintro _ ⟨n, rfl⟩
    simp
    exact GhostV.refl ⟨rfl, _, rfl⟩
end Go.Proofs.Ytmjnpfackanhlaa.AM

namespace Go.Proofs.Ytmjnpfackanhlaa.AM
open Go
set_option linter.unusedVariables false
set_option linter.unusedSimpArgs false
variable {P : Program}

structure PaR (P : Program) : Prop extends LeR P where
 lost : R_gazetteerref09_lost P
 seeds : R_gazetteerref09_Seeds P
 part : R_gazetteerref09_Part P
theorem rLost (h : PaR P) (a b c d : Int) : PCalls P n_gazetteerref09_lost [.agg [.int .u64 a, .int .u64 b], .agg [.int .u64 c, .int .u64 d]] isW := by
 refine A_gazetteerref09_lost h.lost ?_
 delta F_gazetteerref09_lost sp sd gp gd fl fd gl
 simp [st0]
 refine inv_p (rSub h.toWdR a b c d) rfl rfl ?_
 rintro _ ⟨x, y, o, rfl⟩
 cases o <;> simp
 ·exact GhostV.refl ⟨rfl, 0, 0, rfl⟩
 ·exact GhostV.refl ⟨rfl, x, y, rfl⟩
abbrev vKs (l : List LinkT) : V := .sl .unk 4 (l.map cK) []
def seedsOk (n : Nat) (p q : Int) : Prop := 0 ≤ p ∧ p < q ∧ q < n
def SdI1 (n : Nat) (k : Nat) (v4 v5 v8 : V) (st : St) : Prop := ∃ (i nv : Nat) (p q a b c d : Int), k = n - i ∧ i ≤ n ∧ v8 = .int .i64 ((i : Nat) : Int) ∧ v4 = .int .i64 p ∧ v5 = .int .i64 q ∧ ((i = 0 ∧ p = -1) ∨ seedsOk n p q) ∧ st = ⟨[some (0, .mem 2 [[.int .u64 a, .int .u64 b]]), some (1, .mem 2 [[.int .u64 c, .int .u64 d]])], nv⟩
def SdI2 (n i : Nat) (k : Nat) (v4 v5 v9 : V) (st : St) : Prop := ∃ (j nv : Nat) (p q a b c d : Int), k = n - j ∧ j ≤ n ∧ i < j ∧ v9 = .int .i64 ((j : Nat) : Int) ∧ v4 = .int .i64 p ∧ v5 = .int .i64 q ∧ ((i = 0 ∧ j = 1 ∧ p = -1) ∨ seedsOk n p q) ∧ st = ⟨[some (0, .mem 2 [[.int .u64 a, .int .u64 b]]), some (1, .mem 2 [[.int .u64 c, .int .u64 d]])], nv⟩
set_option maxHeartbeats 1000000 in
theorem rSeeds (h : PaR P) (l : List LinkT) (h2 : 2 ≤ l.length) (hb : l.length < 2 ^ 40) : PCalls P n_gazetteerref09_Seeds [vKs l] (fun r => ∃ p q, seedsOk l.length p q ∧ r = .tup [.int .i64 p, .int .i64 q]) := by
 refine A_gazetteerref09_Seeds h.seeds ?_
 delta F_gazetteerref09_Seeds sp sd gp gd fl fd gl
 simp [st0]
 refine ⟨SdI1 l.length, ⟨l.length, GhostV.refl ⟨0, 2, -1, -1, 0, 0, 0, 0, by simp, by omega, by simp, rfl, rfl, .inl ⟨rfl, rfl⟩, rfl⟩⟩, ?_⟩
 rintro k1 v4 v5 v8 st ⟨i, nv, p, q, a, b, c, d, rfl, hi, rfl, rfl, rfl, hpq, rfl⟩
 by_cases hlt : i < l.length
 ·simp [hlt]
  rw [wadd1 (by omega)]
  refine ⟨SdI2 l.length i, ⟨l.length - (i + 1), GhostV.refl ⟨i + 1, nv, p, q, a, b, c, d, rfl, by omega, by omega, rfl, rfl, rfl, ?_, rfl⟩⟩, ?_⟩
  ·rcases hpq with ⟨h0, hp⟩ | hpq
   ·exact .inl ⟨h0, by omega, hp⟩
   ·exact .inr hpq
  clear hpq
  rintro k2 v4 v5 v9 st ⟨j, nv, p, q, a, b, c, d, rfl, hj, hij, rfl, rfl, rfl, hpq, rfl⟩
  by_cases hlt2 : j < l.length
  ·simp [hlt, hlt2]
   refine inv_p (rUnion h.toKyR l[i].key l[j].key) rfl rfl ?_
   rintro _ rfl
   simp [hlt, hlt2]
   refine inv_p (rArea h.toWdR (unionK l[i].key l[j].key)) rfl rfl ?_
   rintro _ ⟨x1, y1, rfl⟩
   simp [hlt, hlt2]
   refine inv_p (rArea h.toWdR l[i].key) rfl rfl ?_
   rintro _ ⟨x2, y2, rfl⟩
   simp [hlt, hlt2]
   refine inv_p (rLost h x1 y1 x2 y2) rfl rfl ?_
   rintro _ ⟨x3, y3, rfl⟩
   simp [hlt, hlt2]
   refine inv_p (rArea h.toWdR l[j].key) rfl rfl ?_
   rintro _ ⟨x4, y4, rfl⟩
   refine inv_p (rLost h x3 y3 x4 y4) rfl rfl ?_
   rintro _ ⟨x5, y5, rfl⟩
   simp
   refine inv_p (rMargin h.toWdR (unionK l[i].key l[j].key)) rfl rfl ?_
   rintro _ ⟨x6, y6, rfl⟩
   have hset : seedsOk l.length (i : Int) (j : Int) := ⟨by omega, by omega, by omega⟩
   by_cases hp : p < 0
   ·simp [hp]
    exact ⟨l.length - (j + 1), by omega, GhostV.keep (L := [_, _]) ⟨j + 1, _, i, j, x5, y5, x6, y6, rfl, by omega, by omega, by rw [wadd1 (by omega)], rfl, rfl, .inr hset, rfl⟩⟩
   ·have hpq' : seedsOk l.length p q := by
     rcases hpq with ⟨_, _, h0⟩ | hpq
     ·omega
     ·exact hpq
    simp [hp]
    refine inv_p (rOrder h.toLeR x5 y5 x6 y6 a b c d) rfl rfl ?_
    rintro _ ⟨m, rfl⟩
    by_cases hm : 0 < m
    ·simp [hm]
     exact ⟨l.length - (j + 1), by omega, GhostV.keep (L := [_, _]) ⟨j + 1, _, i, j, x5, y5, x6, y6, rfl, by omega, by omega, by rw [wadd1 (by omega)], rfl, rfl, .inr hset, rfl⟩⟩
    ·simp [hm]
     exact ⟨l.length - (j + 1), by omega, GhostV.keep (L := [_, _]) ⟨j + 1, _, p, q, a, b, c, d, rfl, by omega, by omega, by rw [wadd1 (by omega)], rfl, rfl, .inr hpq', rfl⟩⟩
  ·simp [hlt2]
   refine ⟨l.length - (i + 1), by omega, GhostV.refl ⟨i + 1, nv, p, q, a, b, c, d, rfl, by omega, by rw [wadd1 (by omega)], rfl, rfl, .inr ?_, rfl⟩⟩
   rcases hpq with ⟨h0, h1, _⟩ | hpq
   ·omega
   ·exact hpq
 ·simp [hlt]
  refine GhostV.refl ⟨rfl, p, q, ?_, rfl⟩
  rcases hpq with ⟨h0, _⟩ | hpq
  ·omega
  ·exact hpq
@[simp] def cBb (b : Bool) : List V := [.bool b]
@[simp] theorem p_cBb (l : List Bool) : pureLL (l.map cBb) = true := pureLL_map (fun _ => rfl) l
abbrev PtO (bs : List Bool) (a b : KeyT) : List (Option (Nat × Obj)) := [some (0, .mem 1 (bs.map cBb)), some (1, .mem 4 [cKey a]), some (2, .mem 4 [cKey b])]
def PtJ1 (bs : List Bool) (a b : KeyT) (v : V) (st : St) : Prop := ∃ (m : Int) (nv : Nat), v = .int .i64 m ∧ st = ⟨PtO bs a b, nv⟩
def PtJ (bs : List Bool) (a b : KeyT) (v : V) (st : St) : Prop := ∃ (x : Bool) (nv : Nat), v = .bool x ∧ st = ⟨PtO bs a b, nv⟩
def PtI (n p q : Nat) (k : Nat) (v8 v9 v11 v12 : V) (st : St) : Prop := ∃ (j nv : Nat) (na nb rest : Int) (bs : List Bool) (a b : KeyT), k = n - j ∧ j ≤ n ∧ v8 = .int .i64 na ∧ v9 = .int .i64 nb ∧ v11 = .int .i64 rest ∧ v12 = .int .i64 ((j : Nat) : Int) ∧ bs.length = n ∧ bs[p]? = some true ∧ bs[q]? = some false ∧ st = ⟨PtO bs a b, nv⟩
def partR (n : Nat) (r : V) : Prop := ∃ bs : List Bool, bs.length = n ∧ true ∈ bs ∧ false ∈ bs ∧ r = .sl .unk 1 (bs.map cBb) []
set_option maxHeartbeats 1000000 in
theorem rPart (h : PaR P) (l : List LinkT) (h2 : 2 ≤ l.length) (hb : l.length < 2 ^ 40) : PCalls P n_gazetteerref09_Part [vKs l] (partR l.length) := by
 refine A_gazetteerref09_Part h.part ?_
 delta F_gazetteerref09_Part sp sd gp gd fl fd gl
 simp [st0]
 refine ⟨by omega, inv_p (rSeeds h l h2 hb) rfl (by simp [pureL, V.pure]) ?_⟩
 rintro _ ⟨p, q, ⟨hp0, hpq, hql⟩, rfl⟩
 obtain ⟨pn, rfl⟩ : ∃ m : Nat, p = (m : Int) := ⟨p.toNat, by omega⟩
 obtain ⟨qn, rfl⟩ : ∃ m : Nat, q = (m : Int) := ⟨q.toNat, by omega⟩
 have hp1 : pn < l.length := by omega
 have hq1 : qn < l.length := by omega
 have hne : pn ≠ qn := by omega
 have hrep : List.replicate l.length [V.bool false] = (List.replicate l.length false).map cBb := by simp
 simp [hp1, hq1]
 obtain ⟨bs0, hbs0⟩ : ∃ bs0 : List Bool, bs0 = (List.replicate l.length false).set pn true := ⟨_, rfl⟩
 have hset : (List.replicate l.length [V.bool false]).set pn [V.bool true] = bs0.map cBb := by rw [hrep, hbs0, List.map_set]; rfl
 refine ⟨PtJ1 bs0 l[pn].key l[qn].key, ?_, ?_⟩
 ·rw [hset]
  generalize IntKind.i64.wrap ((IntKind.i64.wrap (2 * (l.length : Int))).tdiv 5) = z
  by_cases hz : z < 1
  ·simp [hz]
   exact GhostV.refl ⟨1, _, rfl, rfl⟩
  ·simp [hz]
   exact GhostV.refl ⟨z, _, rfl, rfl⟩
 rintro v st ⟨m, nv, rfl, rfl⟩
 simp
 have hl0 : bs0.length = l.length := by rw [hbs0]; simp
 refine ⟨PtI l.length pn qn, ⟨l.length, GhostV.refl ⟨0, nv, 1, 1, _, bs0, l[pn].key, l[qn].key, by simp, by omega, rfl, rfl, rfl, by simp, hl0, ?_, ?_, rfl⟩⟩, ?_⟩
 ·rw [hbs0, List.getElem?_set_self (by simpa using hp1)]
 ·rw [hbs0, List.getElem?_set_ne hne, List.getElem?_replicate, if_pos hq1]
 rintro k1 v8 v9 v11 v12 st ⟨j, nv1, na, nb, rest, bs, a, b, rfl, hj, rfl, rfl, rfl, rfl, hbl, hbp, hbq, rfl⟩
 by_cases hlt : j < l.length
 ·simp [hlt]
  by_cases hjp : j = pn
  ·simp [hjp]
   exact ⟨l.length - (pn + 1), by omega, GhostV.refl ⟨pn + 1, nv1, na, nb, rest, bs, a, b, rfl, by omega, rfl, rfl, rfl, by rw [wadd1 (by omega)], hbl, hbp, hbq, rfl⟩⟩
  ·by_cases hjq : j = qn
   ·have hqp : ¬ qn = pn := fun e => hne e.symm
    simp [hjq, hqp]
    exact ⟨l.length - (qn + 1), by omega, GhostV.refl ⟨qn + 1, nv1, na, nb, rest, bs, a, b, rfl, by omega, rfl, rfl, rfl, by rw [wadd1 (by omega)], hbl, hbp, hbq, rfl⟩⟩
   ·simp [hjp, hjq]
    refine ⟨PtJ bs a b, ?_, ?_⟩
    ·simp [hlt]
     refine inv_p (rLess h.toLeR a b l[j].key) rfl rfl ?_
     rintro _ ⟨x, rfl⟩
     cases x <;> simp
     ·exact GhostV.refl ⟨_, nv1, rfl, rfl⟩
     ·exact GhostV.refl ⟨_, nv1, rfl, rfl⟩
    rintro v st ⟨x1, nv2, rfl, rfl⟩
    refine ⟨PtJ bs a b, ?_, ?_⟩
    ·simp [hlt]
     refine inv_p (rLess h.toLeR b a l[j].key) rfl rfl ?_
     rintro _ ⟨x, rfl⟩
     cases x <;> simp
     ·exact GhostV.refl ⟨_, nv2, rfl, rfl⟩
     ·exact GhostV.refl ⟨_, nv2, rfl, rfl⟩
    rintro v st ⟨x2, nv3, rfl, rfl⟩
    refine ⟨PtJ bs a b, ?_, ?_⟩
    ·simp
     generalize IntKind.i64.wrap (nb + rest) = z
     by_cases hz : z ≤ m
     ·simp [hz]
      exact GhostV.refl ⟨_, nv3, rfl, rfl⟩
     ·simp [hz]
      exact GhostV.refl ⟨_, nv3, rfl, rfl⟩
    rintro v st ⟨x3, nv4, rfl, rfl⟩
    refine ⟨PtJ bs a b, ?_, ?_⟩
    ·simp
     generalize IntKind.i64.wrap (na + rest) = z
     by_cases hz : z ≤ m
     ·simp [hz]
      exact GhostV.refl ⟨_, nv4, rfl, rfl⟩
     ·simp [hz]
      exact GhostV.refl ⟨_, nv4, rfl, rfl⟩
    rintro v st ⟨x4, nv5, rfl, rfl⟩
    have hset2 : (List.map cBb bs).set j [.bool true] = List.map cBb (bs.set j true) := by rw [List.map_set]; rfl
    cases x4
    ·simp [hlt]
     refine inv_p (rUnion h.toKyR b l[j].key) rfl rfl ?_
     rintro _ rfl
     simp
     exact ⟨l.length - (j + 1), by omega, GhostV.refl ⟨j + 1, nv5, na, _, _, bs, a, unionK b l[j].key, rfl, by omega, rfl, rfl, rfl, by rw [wadd1 (by omega)], hbl, hbp, hbq, rfl⟩⟩
    ·simp [hlt, hbl]
     refine inv_p (rUnion h.toKyR a l[j].key) rfl rfl ?_
     rintro _ rfl
     simp
     rw [hset2]
     exact ⟨l.length - (j + 1), by omega, GhostV.refl ⟨j + 1, nv5, _, nb, _, bs.set j true, unionK a l[j].key, b, rfl, by omega, rfl, rfl, rfl, by rw [wadd1 (by omega)], by simpa using hbl, by rw [List.getElem?_set_ne hjp]; exact hbp, by rw [List.getElem?_set_ne hjq]; exact hbq, rfl⟩⟩
 ·simp [hlt]
  refine GhostV.row1 (sz := 1) (es := bs.map cBb) (by simp [St.get]) (by simp [hbl]) ?_
  rw [← hbl]
  exact ⟨by simp [mkres, V.pure, pureLL], bs, rfl, List.mem_of_getElem? hbp, List.mem_of_getElem? hbq, by simp⟩
end Go.Proofs.Ytmjnpfackanhlaa.AM

namespace Go.Proofs.Ytmjnpfackanhlaa.AM
open Go
set_option linter.unusedVariables false
set_option linter.unusedSimpArgs false
variable {P : Program}

theorem GhostV.frzo {L : List (Option (Nat × Obj))} {nv id ver sz j verj : Nat} {es : List (List V)} {vs : List V} {o o' : Obj} {K : List V → St → Prop} (ho : L[id]? = some (some (ver, .mem sz es))) (hj : L[j]? = some (some (verj, o))) (hij : j ≠ id) (hof : OFrz ver sz es o o')
  (hk : K vs ⟨(L.set id none).set j (some (verj, o')), nv⟩) : GhostV vs ⟨L, nv⟩ K := by
 refine GhostV.freeze (vs' := vs) (st' := ⟨(L.set id none).set j (some (verj, o')), nv⟩) (id := id) (ver := ver) (sz := sz) (es := es) (by simp [St.get, ho]) rfl rfl (fun i => .refl _) (fun id1 ver1 o1 hh => ?_) hk
 simp only at hh
 have hjl := (List.getElem?_eq_some_iff.1 hj).1
 have hil := (List.getElem?_eq_some_iff.1 ho).1
 by_cases e : id1 = j
 ·subst e
  rw [List.getElem?_set_self (by simpa using hjl)] at hh
  simp only [Option.some.injEq, Prod.mk.injEq] at hh
  obtain ⟨rfl, rfl⟩ := hh
  exact ⟨hij, o, hj, hof⟩
 ·rw [List.getElem?_set_ne (fun e2 => e e2.symm)] at hh
  by_cases e2 : id1 = id
  ·subst e2
   rw [List.getElem?_set_self hil] at hh; simp at hh
  ·rw [List.getElem?_set_ne (fun e3 => e2 e3.symm)] at hh
   exact ⟨e2, o1, hh, .inl rfl⟩
theorem OFrz.cell {ver sz w s r c n : Nat} {es rs rs' : List (List V)} {row : List V} (hr : rs[r]? = some row) (hc : row[c]? = some (.msl w ver 0 n)) (hn : n = es.length) (hrs : rs' = rs.set r (row.set c (.sl .unk sz es []))) : OFrz ver sz es (.mem s rs) (.mem s rs') := by
  subst hn hrs
  have hrl := (List.getElem?_eq_some_iff.1 hr).1
  have hcl := (List.getElem?_eq_some_iff.1 hc).1
  refine .inr ⟨s, rs, _, rfl, rfl, by simp, fun i hi => ?_, fun i k hi => ?_⟩
  · by_cases e : r = i
    · subst e; simp [List.getD, List.getElem?_set_self hrl, hr]
    · simp [List.getD, List.getElem?_set_ne e]
  · by_cases e : r = i
    · subst e
      have e1 : (rs.set r (row.set c (.sl .unk sz es []))).getD r [] = row.set c (.sl .unk sz es []) := by rw [List.getD, List.getElem?_set_self hrl]; rfl
      have e2 : rs.getD r [] = row := by rw [List.getD, hr]; rfl
      rw [e1, e2]
      by_cases e3 : c = k
      · subst e3
        have e4 : (row.set c (.sl .unk sz es [])).getD c .junk = .sl .unk sz es [] := by rw [List.getD, List.getElem?_set_self hcl]; rfl
        have e5 : row.getD c .junk = .msl w ver 0 es.length := by rw [List.getD, hc]; rfl
        rw [e4, e5]
        have := Frz.msl (ver := ver) (sz := sz) (es := es) w 0 es.length (by simp)
        simpa using this
      · have e4 : (row.set c (.sl .unk sz es [])).getD k .junk = row.getD k .junk := by simp [List.getD, List.getElem?_set_ne e3]
        rw [e4]; exact .refl _
    · have e1 : (rs.set r (row.set c (.sl .unk sz es []))).getD i [] = rs.getD i [] := by simp [List.getD, List.getElem?_set_ne e]
      rw [e1]; exact .refl _
theorem GhostV.nilo {L : List (Option (Nat × Obj))} {nv sz j verj s c z : Nat} {row : List V} {vs : List V} {K : List V → St → Prop} (h0 : 0 < sz) (hj : L[j]? = some (some (verj, .mem s [row]))) (hc : row[c]? = some (.sl .nil z [] []))
    (hk : K vs ⟨L.set j (some (verj, .mem s [row.set c (.msl L.length nv 0 0)])) ++ [some (nv, .mem sz [])], nv + 1⟩) : GhostV vs ⟨L, nv⟩ K := by
  have hjl := (List.getElem?_eq_some_iff.1 hj).1
  have hcl := (List.getElem?_eq_some_iff.1 hc).1
  refine GhostV.ghost (fun P g w hs => ?_) hk
  obtain ⟨g', h1, h2, h3, _⟩ := nils_core (st := ⟨L, nv⟩) (st' := ⟨L.set j (some (verj, .mem s [row.set c (.msl L.length nv 0 0)])) ++ [some (nv, .mem sz [])], nv + 1⟩) (id := L.length) (sz := sz) h0 rfl (fun id1 ver1 o1 h => by
    simp only at h ⊢
    by_cases e : id1 < L.length
    · rw [List.getElem?_append_left (by simpa using e)] at h
      refine .inr ⟨e, ?_⟩
      by_cases e2 : j = id1
      · subst e2
        rw [List.getElem?_set_self hjl] at h
        simp only [Option.some.injEq, Prod.mk.injEq] at h
        obtain ⟨rfl, rfl⟩ := h
        refine ⟨_, hj, .inr ⟨s, _, _, rfl, rfl, rfl, fun i hi => ?_, fun i k hi => ?_⟩⟩
        · obtain rfl : i = 0 := by simpa using hi
          simp
        · obtain rfl : i = 0 := by simpa using hi
          show Nz L.length nv (row.getD k .junk) ((row.set c (.msl L.length nv 0 0)).getD k .junk)
          by_cases e3 : c = k
          · subst e3
            have e4 : (row.set c (V.msl L.length nv 0 0)).getD c .junk = .msl L.length nv 0 0 := by rw [List.getD, List.getElem?_set_self hcl]; rfl
            have e5 : row.getD c .junk = .sl .nil z [] [] := by rw [List.getD, hc]; rfl
            rw [e4, e5]
            exact .nil z
          · have e4 : (row.set c (V.msl L.length nv 0 0)).getD k .junk = row.getD k .junk := by simp [List.getD, List.getElem?_set_ne e3]
            rw [e4]; exact .refl _
      · rw [List.getElem?_set_ne e2] at h
        exact ⟨o1, h, .inl rfl⟩
    · rw [List.getElem?_append_right (by simp; omega)] at h
      have h0 : id1 - (L.set j (some (verj, Obj.mem s [row.set c (.msl L.length nv 0 0)]))).length = 0 := by have := (List.getElem?_eq_some_iff.1 h).1; simp at this ⊢; omega
      rw [h0] at h; simp at h
      exact .inl ⟨by simp at h0; omega, h.1.symm, h.2.symm⟩) P g w hs
  exact ⟨g', h1, h2, h3⟩
theorem inv_frz {k : FuncId} {sz id ver n nv : Nat} {es : List (List V)} {R : V → Prop} {L : List (Option (Nat × Obj))} {K : V → St → Prop} (h : PCalls P k [.sl .unk sz es []] R) (ho : L[id]? = some (some (ver, .mem sz es))) (hn : n = es.length) (hp : pureLL es = true)
  (hk : ∀ r, R r → K r ⟨L.set id none, nv⟩) : @inv P (.fn (.func k) [] []) [.msl id ver 0 n] ⟨L, nv⟩ ⟨K⟩ := by
 subst hn
 refine inv_f0 (ACalls.gv h.1 (GhostV.rowx ho (by simp) ?_))
 simp only [List.drop_zero, List.take_length]
 exact h.at (by simp [pureL, V.pure, pureLL, hp]) hk
theorem Copy_L (h : CpR P) (t : TreeT) (hs : smallT t) {L : List (Option (Nat × Obj))} {nv : Nat} {K : V → St → Prop}
    (hk : ∀ va nv', K (.agg [.msl (L.length + 2) va 0 t.nodes.length, .int .u32 t.root, .int .u64 t.count]) ⟨L ++ [none, none, some (va, .mem 5 (t.nodes.map cNode))], nv'⟩) :
    ACalls P n_gazetteerref11_Copy [.agg (cTree t)] ⟨L, nv⟩ K := Copy_core h t hs (fun A va rows ws nv' hD ho hE hws => by
  refine GhostV.trans (frz_ind (K := fun vs st => vs = [.agg [.msl (L.length + 2) va 0 t.nodes.length, .int .u32 t.root, .int .u64 t.count]] ∧ ∃ A', st = ⟨A', nv'⟩ ∧ A'[L.length + 2]? = some (some (va, .mem 5 (t.nodes.map cNode))) ∧ Ext L A') (fun hw => by have := hws _ hw; omega) t.nodes.length 0 A rows (by omega) ho ⟨hD.rl, hD.wl, hD.nd, fun i _ h => by omega, fun i h _ => hD.at' i h⟩ ?_) ?_
  · intro A' h1 h2 h3
    exact ⟨rfl, A', rfl, h1, by rw [h3]; exact hE.1, fun id hid => by rw [h2 id (fun e => by have := hws id e; omega) (by omega)]; exact hE.2 id hid⟩
  · rintro _ _ ⟨rfl, A', rfl, h1, h2⟩
    refine GhostV.sub (st' := ⟨L ++ [none, none, some (va, .mem 5 (t.nodes.map cNode))], nv'⟩) rfl (fun id x hx => ?_) (by exact hk va nv')
    simp only at hx ⊢
    by_cases e : id < L.length
    · rw [List.getElem?_append_left e] at hx
      rw [h2.2 id e]; exact hx
    · rw [List.getElem?_append_right (by omega)] at hx
      obtain ⟨m, hm⟩ : ∃ m, id = L.length + m := ⟨id - L.length, by omega⟩
      subst hm
      rw [Nat.add_sub_cancel_left] at hx
      match m, hx with
      | 0, hx => simp at hx
      | 1, hx => simp at hx
      | 2, hx => rw [h1]; simpa using hx
      | m + 3, hx => simp at hx)
end Go.Proofs.Ytmjnpfackanhlaa.AM

namespace Go.Proofs.Ytmjnpfackanhlaa.AM
open Go
set_option linter.unusedVariables false
set_option linter.unusedSimpArgs false
variable {P : Program}

structure SpR (P : Program) : Prop extends PaR P where
 spl : R_gazetteerref11_Split P
@[simp] def cSpl (s : SplitT) : List V := [.int .u32 s.old, .int .u32 s.new, .bool s.root]
def splitR (t : TreeT) (x : NodeT) (r : V) : Prop := ∃ left : List Bool, left.length = x.es.length ∧ true ∈ left ∧ false ∈ left ∧ r = .tup [.agg (cTree (splitF t x left).1), .agg (cSpl (splitF t x left).2)]
abbrev zSpl : List V := [.int .u32 0, .int .u32 0, .bool false]
abbrev SpO (t : TreeT) (va : Nat) : List (Option (Nat × Obj)) := [some (0, .mem 3 [[.msl 5 va 0 t.nodes.length, .int .u32 t.root, .int .u64 t.count]]), some (1, .mem 3 [zTree]), some (2, .mem 3 [zSpl]), none, none, some (va, .mem 5 (t.nodes.map cNode))]
theorem nsBor {st : St} {id va n : Nat} {ns : List NodeT} (ho : st.get id va = some (.mem 5 (ns.map cNode))) (hn : n = ns.length) : Bor st (.msl id va 0 n) (vNs ns) := by
 subst hn
 exact .msl id va 0 ns.length 5 (ns.map cNode) (ns.map cNode) ho (by simp) (by simp) (fun k hk => by simp [List.getD, hk]) (fun k j hk hj => by rw [Nat.zero_add]; exact .refl _)
theorem tBor {st : St} {id va n : Nat} {t : TreeT} (ho : st.get id va = some (.mem 5 (t.nodes.map cNode))) (hn : n = t.nodes.length) : Bor st (.agg [.msl id va 0 n, .int .u32 t.root, .int .u64 t.count]) (.agg (cTree t)) :=
 .agg _ _ rfl (fun i hi => by
  match i, hi with
  | 0, _ => exact nsBor ho hn
  | 1, _ => exact .refl _
  | 2, _ => exact .refl _)
theorem GhostV.tree0 {L : List (Option (Nat × Obj))} {nv id va n : Nat} {t : TreeT} {rest : List V} {K : List V → St → Prop} (ho : L[id]? = some (some (va, .mem 5 (t.nodes.map cNode)))) (hn : n = t.nodes.length) (hk : K (.agg (cTree t) :: rest) ⟨[], nv⟩) :
  GhostV (.agg [.msl id va 0 n, .int .u32 t.root, .int .u64 t.count] :: rest) ⟨L, nv⟩ K := by
 subst hn
 refine GhostV.freeze (vs' := .agg (cTree t) :: rest) (st' := ⟨[], nv⟩) (id := id) (ver := va) (sz := 5) (es := t.nodes.map cNode) (by simp [St.get, ho]) rfl rfl (fun i => ?_) (fun id1 ver1 o1 hh => by simp at hh) hk
 cases i with
 | zero =>
  refine .agg _ _ rfl (fun i hi => ?_)
  match i, hi with
  | 0, _ =>
   have := Frz.msl (ver := va) (sz := 5) (es := t.nodes.map cNode) id 0 t.nodes.length (by simp)
   have e3 : List.drop t.nodes.length (t.nodes.map cNode) = [] := List.drop_eq_nil_of_le (by simp)
   simpa [e3] using this
  | 1, _ => exact .refl _
  | 2, _ => exact .refl _
 | succ i => simpa using Frz.refl _
theorem GhostV.frzE {L : List (Option (Nat × Obj))} {nv id ver j vj r n : Nat} {a b c d : V} {es : List LinkT} {rs : List (List V)} {vs : List V} {K : List V → St → Prop} (ho : L[id]? = some (some (ver, .mem 5 (es.map cLink)))) (hj : L[j]? = some (some (vj, .mem 5 rs))) (hij : j ≠ id)
  (hr : rs[r]? = some [a, b, .msl id ver 0 n, c, d]) (hn : n = es.length) (hk : K vs ⟨(L.set id none).set j (some (vj, .mem 5 (rs.set r [a, b, vEs es, c, d]))), nv⟩) : GhostV vs ⟨L, nv⟩ K :=
 GhostV.frzo (o := .mem 5 rs) (o' := .mem 5 (rs.set r [a, b, vEs es, c, d])) ho hj hij (OFrz.cell (r := r) (c := 2) hr rfl (by simpa using hn) rfl) hk
theorem pure_split (t : TreeT) (s : SplitT) : (V.tup [.agg (cTree t), .agg (cSpl s)]).pure = true := by
 have h1 := p_tree t
 have h2 : pureL (cSpl s) = true := rfl
 simp only [V.pure, pureL, h1, h2, Bool.and_self]
theorem stay_snoc : ∀ (es : List LinkT) (bs : List Bool) (e : LinkT) (b : Bool), bs.length = es.length → stayF (es ++ [e]) (bs ++ [b]) = if b then stayF es bs ++ [e] else stayF es bs
 | [], [], e, b, _ => by cases b <;> rfl
 | [], _ :: _, _, _, h => by simp at h
 | _ :: _, [], _, _, h => by simp at h
 | x :: es, c :: bs, e, b, h => by
  have ih := stay_snoc es bs e b (by simpa using h)
  rw [List.cons_append, List.cons_append, stayF, stayF, ih]
  cases b <;> cases c <;> simp
theorem rest_snoc : ∀ (es : List LinkT) (bs : List Bool) (e : LinkT) (b : Bool), bs.length = es.length → restF (es ++ [e]) (bs ++ [b]) = if b then restF es bs else restF es bs ++ [e]
 | [], [], e, b, _ => by cases b <;> rfl
 | [], _ :: _, _, _, h => by simp at h
 | _ :: _, [], _, _, h => by simp at h
 | x :: es, c :: bs, e, b, h => by
  have ih := rest_snoc es bs e b (by simpa using h)
  rw [List.cons_append, List.cons_append, restF, restF, ih]
  cases b <;> cases c <;> simp
theorem sp_fin {Pf M : List (Option (Nat × Obj))} (hPf : Pf.length = 8) {a b c d w : V} {vy vr vs nv : Nat} {rest stay : List LinkT} {K : List V → St → Prop}
  (hk : K [vEs stay, w] ⟨Pf ++ [some (vy, .mem 5 [[a, b, vEs rest, c, d]]), none, none], nv⟩) :
  GhostV [.msl 10 vs 0 stay.length, w] ⟨Pf ++ ([some (vy, .mem 5 [[a, b, .msl 9 vr 0 rest.length, c, d]]), some (vr, .mem 5 (rest.map cLink)), some (vs, .mem 5 (stay.map cLink))] ++ M), nv⟩ K := by
 obtain ⟨p0, p1, p2, p3, p4, p5, p6, p7, rfl⟩ : ∃ p0 p1 p2 p3 p4 p5 p6 p7, Pf = [p0, p1, p2, p3, p4, p5, p6, p7] := by
  match Pf, hPf with
  | [p0, p1, p2, p3, p4, p5, p6, p7], _ => exact ⟨p0, p1, p2, p3, p4, p5, p6, p7, rfl⟩
 refine GhostV.frzo (id := 9) (ver := vr) (sz := 5) (j := 8) (verj := vy) (es := rest.map cLink) (o := .mem 5 [[a, b, .msl 9 vr 0 rest.length, c, d]]) (o' := .mem 5 [[a, b, vEs rest, c, d]]) (by simp) (by simp) (by omega) (OFrz.cell (r := 0) (c := 2) (w := 9) (n := rest.length) (row := [a, b, .msl 9 vr 0 rest.length, c, d]) rfl rfl (by simp) rfl) ?_ |>.trans (K := fun vs1 st1 => vs1 = [.msl 10 vs 0 stay.length, w] ∧ st1 = ⟨[p0, p1, p2, p3, p4, p5, p6, p7, some (vy, .mem 5 [[a, b, vEs rest, c, d]]), none, some (vs, .mem 5 (stay.map cLink))] ++ M, nv⟩) ?_
 ·exact ⟨rfl, by simp⟩
 ·rintro _ _ ⟨rfl, rfl⟩
  refine GhostV.rowx (id := 10) (ver := vs) (sz := 5) (es := stay.map cLink) (by simp) (by simp) ?_ |>.trans (K := fun vs1 st1 => vs1 = [vEs stay, w] ∧ st1 = ⟨[p0, p1, p2, p3, p4, p5, p6, p7, some (vy, .mem 5 [[a, b, vEs rest, c, d]]), none, none] ++ M, nv⟩) ?_
  ·exact ⟨by simp, by simp⟩
  ·rintro _ _ ⟨rfl, rfl⟩
   exact GhostV.keep hk
def SpI1 (t : TreeT) (x : NodeT) (va vx : Nat) (k : Nat) (v8 v9 : V) (st : St) : Prop := ∃ (j nv vk : Nat) (out : List LinkT), k = x.es.length - j ∧ j ≤ x.es.length ∧ v9 = .int .i64 ((j : Nat) : Int) ∧ v8 = .msl 7 vk 0 out.length ∧ out = x.es.take j ∧ st = ⟨SpO t va ++ [some (vx, .mem 5 [cNode x]), some (vk, .mem 4 (out.map cK))], nv⟩
abbrev SpP (t : TreeT) (x : NodeT) (va vx : Nat) : List (Option (Nat × Obj)) := [some (0, .mem 3 [[.msl 5 va 0 t.nodes.length, .int .u32 t.root, .int .u64 (t.count + 1)]]), some (1, .mem 3 [zTree]), some (2, .mem 3 [zSpl]), none, none, some (va, .mem 5 (t.nodes.map cNode)), some (vx, .mem 5 [cNode x]), none]
abbrev yC (t : TreeT) (x : NodeT) (v : V) : List V := [.int .u32 (greatN t.nodes + 1), .bool x.leaf, v, .int .u64 (t.count + 1), .int .u32 x.right]
def SpI2 (t : TreeT) (x : NodeT) (left : List Bool) (va vx vy : Nat) (k : Nat) (v12 v13 : V) (st : St) : Prop :=
  ∃ j nv, k = x.es.length - j ∧ v13 = .int .i64 ((j : Nat) : Int) ∧
    ((j < x.es.length ∧ ∃ vr vs rest stay, stay = stayF (x.es.take j) (left.take j) ∧ rest = restF (x.es.take j) (left.take j) ∧ v12 = .msl 10 vs 0 stay.length ∧
        st = ⟨SpP t x va vx ++ [some (vy, .mem 5 [yC t x (.msl 9 vr 0 rest.length)]), some (vr, .mem 5 (rest.map cLink)), some (vs, .mem 5 (stay.map cLink))], nv⟩) ∨
     (j = x.es.length ∧ v12 = vEs (stayF x.es left) ∧ st = ⟨SpP t x va vx ++ [some (vy, .mem 5 [yC t x (vEs (restF x.es left))]), none, none], nv⟩))
theorem withE_snoc (l : List LinkT) (e : LinkT) (id : Int) (e' : LinkT) : withE (l ++ [e]) id e' = withE l id e' ++ if e.child = id then [e, e'] else [e] := by simp [withE]
abbrev SpQ (t : TreeT) (x : NodeT) (left : List Bool) (nsY : List NodeT) (vx vy vn vt : Nat) : List (Option (Nat × Obj)) := [some (0, .mem 3 [[.msl 5 vn 0 (t.nodes.length + 1), .int .u32 t.root, .int .u64 (t.count + 1)]]), some (1, .mem 3 [zTree]), some (2, .mem 3 [zSpl]), none, none, some (vn, .mem 5 (nsY.map cNode)), some (vx, .mem 5 [cNode x]), none,
 some (vy, .mem 5 [yC t x (vEs (restF x.es left))]), none, none, some (vt, .mem 5 [yC t x (vEs (restF x.es left))])]
def SpI3 (t : TreeT) (x p : NodeT) (left : List Bool) (nsY : List NodeT) (vx vy vn vt : Nat) (k : Nat) (v16 v17 : V) (st : St) : Prop :=
  ∃ j nv, k = p.es.length - j ∧ v17 = .int .i64 ((j : Nat) : Int) ∧
    ((j < p.es.length ∧ ∃ vo out, out = withE (p.es.take j) x.id ⟨boundK (restF x.es left), greatN t.nodes + 1⟩ ∧ v16 = .msl 12 vo 0 out.length ∧ st = ⟨SpQ t x left nsY vx vy vn vt ++ [some (vo, .mem 5 (out.map cLink))], nv⟩) ∨
     (j = p.es.length ∧ v16 = vEs (withE p.es x.id ⟨boundK (restF x.es left), greatN t.nodes + 1⟩) ∧ st = ⟨SpQ t x left nsY vx vy vn vt, nv⟩))
set_option maxHeartbeats 1000000 in
theorem rSplit (h : SpR P) (t : TreeT) (hs : smallT t) (hnd : (idsN t.nodes).Nodup) {x : NodeT} (hx : findN t.nodes x.id = some x) (h2 : 2 ≤ x.es.length) (hc : 0 ≤ t.count ∧ t.count + 1 < 18446744073709551616) (hg : 0 ≤ greatN t.nodes ∧ greatN t.nodes ≤ 4294967293) (hgt : ∀ y ∈ t.nodes, y.id ≤ greatN t.nodes) :
    PCalls P n_gazetteerref11_Split [.agg (cTree t), .int .u32 x.id] (splitR t x) := by
  refine A_gazetteerref11_Split h.spl ?_
  delta F_gazetteerref11_Split sp sd gp gd fl fd gl
  simp [st0]
  obtain ⟨i, hi, hfi, hxi⟩ := findN_idx hx
  have hxl := hs.2 x (findN_some hx).1
  refine inv_f0 (Copy_L h.toCpR t hs (fun va nv0 => ?_))
  simp
  refine inv_look (rAt h.toRdR t x.id (by have := hs.1; omega)) (Bors.cons (tBor (by simp [St.get]) rfl) (Bors.cons (.refl _) Bors.nil)) (by simp [pureL, V.pure, pureLL]) ?_
  rintro _ rfl
  refine ⟨rfl, ?_⟩
  rw [hfi, show idxI (some i) = ((i : Nat) : Int) from rfl]
  simp [hi, hxi]
  refine ⟨SpI1 t x va nv0, ⟨x.es.length, GhostV.nilr 4 (by decide) ⟨0, nv0 + 2, nv0 + 1, [], by simp, by omega, by simp, by simp, by simp, by simp⟩⟩, ?_⟩
  rintro k1 v8 v9 st ⟨j, nv1, vk, out, rfl, hj, rfl, rfl, hout, rfl⟩
  have hol : out.length = j := by rw [hout, List.length_take]; omega
  by_cases hlt : j < x.es.length
  · simp [hlt]
    refine ⟨by omega, x.es.length - (j + 1), by omega, GhostV.keep (L := SpO t va ++ [_, _]) ⟨j + 1, nv1 + 2, nv1 + 1, out ++ [x.es[j]], rfl, by omega, by rw [wadd1 (by omega)], by simp, by rw [take_snoc hlt, hout], by simp⟩⟩
  have hoe : out = x.es := by rw [hout, List.take_of_length_le (by omega)]
  subst hoe
  simp [hlt]
  refine inv_frz (rPart h.toPaR x.es h2 (by omega)) (ver := vk) (by simp) (by simp) (by simp) ?_
  rintro _ ⟨left, hl1, hl2, hl3, rfl⟩
  have hw1 : IntKind.u64.wrap (t.count + 1) = t.count + 1 := Go.IntWalk.u64_in _ (by omega)
  simp [hw1]
  refine inv_look (first := []) (cap := []) (args := [.agg [.msl 5 va 0 t.nodes.length, .int .u32 t.root, .int .u64 (t.count + 1)]]) (rGreat h.toRdR ⟨t.nodes, t.root, t.count + 1⟩ (by dsimp only; omega) (by dsimp only; have := hs.1; omega)) (Bors.cons (tBor (t := ⟨t.nodes, t.root, t.count + 1⟩) (by simp [St.get]) rfl) Bors.nil) (by simp [pureL, V.pure, pureLL]) ?_
  rintro _ rfl
  refine ⟨rfl, ?_⟩
  have hw2 : IntKind.u32.wrap (greatN t.nodes + 1) = greatN t.nodes + 1 := Go.IntWalk.u32_in _ (by omega)
  simp [hw2]
  refine ⟨SpI2 t x left va nv0 nv1, ⟨x.es.length, ?_⟩, ?_⟩
  · refine GhostV.nilo (nv := nv1 + 1) (sz := 5) (j := 8) (verj := nv1) (s := 5) (c := 2) (by decide) (by simp; rfl) (by simp; rfl) ?_ |>.trans (K := fun vs1 st1 => vs1 = [.sl .nil 0 [] [], .int .i64 0] ∧ st1 = ⟨SpP t x va nv0 ++ [some (nv1, .mem 5 [yC t x (.msl 9 (nv1 + 1) 0 0)]), some (nv1 + 1, .mem 5 [])], nv1 + 2⟩) ?_
    · exact ⟨rfl, by simp⟩
    · rintro _ _ ⟨rfl, rfl⟩
      refine GhostV.nilr 5 (by decide) ⟨0, nv1 + 3, by simp, by simp, .inl ⟨by omega, nv1 + 1, nv1 + 2, [], [], by simp [stayF], by simp [restF], by simp, by simp⟩⟩
  clear hj hlt hout hol
  rintro k2 v12 v13 st ⟨j, nv, rfl, rfl, hcase⟩
  rcases hcase with ⟨hlt, vr, vs, rest, stay, hstay, hrest, rfl, rfl⟩ | ⟨rfl, rfl, rfl⟩
  · have hlj : j < left.length := by omega
    have hsl : stay.length ≤ j := by rw [hstay, (part_len _ _ (by simp; omega)).1]; exact Nat.le_trans List.count_le_length (by simp; omega)
    have hrl : rest.length ≤ j := by rw [hrest, (part_len _ _ (by simp; omega)).2]; exact Nat.le_trans List.count_le_length (by simp; omega)
    have hs1 := stay_snoc (x.es.take j) (left.take j) x.es[j] left[j] (by simp; omega)
    have hr1 := rest_snoc (x.es.take j) (left.take j) x.es[j] left[j] (by simp; omega)
    rw [← take_snoc hlt, ← take_snoc hlj, ← hstay] at hs1
    rw [← take_snoc hlt, ← take_snoc hlj, ← hrest] at hr1
    have hend : ¬ j + 1 < x.es.length → stayF (x.es.take (j + 1)) (left.take (j + 1)) = stayF x.es left ∧ restF (x.es.take (j + 1)) (left.take (j + 1)) = restF x.es left := fun hn => by
      rw [List.take_of_length_le (by omega), List.take_of_length_le (by omega)]; exact ⟨rfl, rfl⟩
    have hgo : ∀ (vr' vs' nv' : Nat) (rest' stay' : List LinkT) (M : List (Option (Nat × Obj))), stay' = stayF (x.es.take (j + 1)) (left.take (j + 1)) → rest' = restF (x.es.take (j + 1)) (left.take (j + 1)) →
        GhostV [.msl 10 vs' 0 stay'.length, .int .i64 (IntKind.i64.wrap ((j : Int) + 1))] ⟨SpP t x va nv0 ++ ([some (nv1, .mem 5 [yC t x (.msl 9 vr' 0 rest'.length)]), some (vr', .mem 5 (rest'.map cLink)), some (vs', .mem 5 (stay'.map cLink))] ++ M), nv'⟩ (@app 2 (SpI2 t x left va nv0 nv1 (x.es.length - (j + 1)))) := fun vr' vs' nv' rest' stay' M e1 e2 => by
      by_cases hn : j + 1 < x.es.length
      · rw [← List.append_assoc]
        exact GhostV.keep ⟨j + 1, nv', rfl, by rw [wadd1 (by omega)], .inl ⟨hn, vr', vs', rest', stay', e1, e2, rfl, rfl⟩⟩
      · obtain ⟨e3, e4⟩ := hend hn
        exact sp_fin rfl ⟨j + 1, nv', rfl, by rw [wadd1 (by omega)], .inr ⟨by omega, by rw [e1, e3], by rw [e2, e4]⟩⟩
    simp [hlt, hlj]
    cases hb : left[j]
    · simp [hb] at hs1 hr1
      simp [hlt]
      exact ⟨by omega, x.es.length - (j + 1), by omega, by simpa using hgo (nv + 1) vs (nv + 2) (rest ++ [x.es[j]]) stay [_] hs1.symm hr1.symm⟩
    · simp [hb] at hs1 hr1
      simp [hlt]
      exact ⟨by omega, x.es.length - (j + 1), by omega, by simpa using hgo vr (nv + 1) (nv + 2) rest (stay ++ [x.es[j]]) [_] hs1.symm hr1.symm⟩
  · obtain ⟨nsY, hnsY⟩ : ∃ nsY, nsY = updN t.nodes (stayN t x left) ++ [goesN t x left] := ⟨_, rfl⟩
    have hnY : nsY = t.nodes.set i (stayN t x left) ++ [goesN t x left] := by rw [hnsY, set_eq_updN hnd hi (by rw [hxi]; rfl)]
    have hlenY : nsY.length = t.nodes.length + 1 := by rw [hnY]; simp
    have hrows : (List.map cNode t.nodes).set i [.int .u32 x.id, .bool x.leaf, .sl .unk 5 (List.map cLink (stayF x.es left)) [], .int .u64 (t.count + 1), .int .u32 (greatN t.nodes + 1)] ++ [[.int .u32 (greatN t.nodes + 1), .bool x.leaf, vEs (restF x.es left), .int .u64 (t.count + 1), .int .u32 x.right]] = nsY.map cNode := by
      rw [hnY, List.map_append, List.map_set]; rfl
    have hidsY : idsN nsY = idsN t.nodes ++ [greatN t.nodes + 1] := by
      rw [hnsY]
      have := idsN_updN t.nodes (stayN t x left)
      simp only [idsN, List.map_append, List.map_cons, List.map_nil] at this ⊢
      rw [this]; rfl
    have hndY : (idsN nsY).Nodup := by
      rw [hidsY, List.nodup_append]
      refine ⟨hnd, by simp, fun a ha b hb e => ?_⟩
      rw [List.mem_singleton.1 hb] at e
      obtain ⟨y, hy, rfl⟩ := List.mem_map.1 ha
      have := hgt y hy
      omega
    have hwY : ∀ y ∈ nsY, y.es.length < 2 ^ 40 := fun y hy => by
      have hpl := part_len x.es left hl1
      rw [hnsY] at hy
      rcases List.mem_append.1 hy with hy | hy
      · rcases mem_updN hy with rfl | ⟨hy, _⟩
        · have := List.count_le_length (l := left) (a := true)
          simp only [stayN, hpl.1]; omega
        · have := hs.2 y hy; omega
      · rw [List.mem_singleton.1 hy]
        have := List.count_le_length (l := left) (a := false)
        simp only [goesN, hpl.2]; omega
    have hs1 := hs.1
    simp [hi, hxi]
    rw [hrows]
    refine ⟨by omega, inv_look (rAbove h.toRdR ⟨nsY, t.root, t.count + 1⟩ x.id (by dsimp only; omega) hwY) (Bors.cons (tBor (t := ⟨nsY, t.root, t.count + 1⟩) (by simp [St.get]) (by dsimp only; omega)) (Bors.cons (.refl _) Bors.nil)) (by simp [pureL, V.pure, pureLL]) ?_⟩
    rintro _ rfl
    refine ⟨rfl, ?_⟩
    dsimp only
    cases hab : aboveN nsY x.id with
    | none =>
      have hix : nsY.findIdx? (isUp x.id) = none := by
        rw [List.findIdx?_eq_none_iff]
        intro y hy
        have := List.find?_eq_none.1 hab y hy
        simpa [isUp] using this
      rw [hix, show idxI none = (-1 : Int) from rfl]
      simp
      have hpl := part_len x.es left hl1
      have hcl1 := List.count_pos_iff.2 hl2
      have hcl0 := List.count_pos_iff.2 hl3
      have hcll1 := List.count_le_length (l := left) (a := true)
      have hcll0 := List.count_le_length (l := left) (a := false)
      refine inv_p (rBound h.toKyR (stayF x.es left) (by omega) (by omega)) rfl (by simp [pureL, V.pure]) ?_
      rintro _ rfl
      have hw3 : IntKind.u32.wrap (greatN t.nodes + 1 + 1) = greatN t.nodes + 1 + 1 := Go.IntWalk.u32_in _ (by omega)
      simp [hw3]
      refine inv_p (rBound h.toKyR (restF x.es left) (by omega) (by omega)) rfl (by simp [pureL, V.pure]) ?_
      rintro _ rfl
      have hsp : splitF t x left = (⟨nsY ++ [⟨greatN t.nodes + 1 + 1, false, [⟨boundK (stayF x.es left), x.id⟩, ⟨boundK (restF x.es left), greatN t.nodes + 1⟩], t.count + 1, 0⟩], greatN t.nodes + 1 + 1, t.count + 1⟩, ⟨x.id, greatN t.nodes + 1, true⟩) := by
        unfold splitF
        rw [← hnsY, hab, hnsY]
        simp
      simp [hw3, hlenY]
      refine ⟨by omega, ?_⟩
      refine GhostV.frzE (id := 12) (ver := nv + 1 + 1) (j := 5) (vj := nv + 1 + 1 + 1 + 1 + 1) (r := nsY.length) (es := [⟨boundK (stayF x.es left), x.id⟩, ⟨boundK (restF x.es left), greatN t.nodes + 1⟩]) (n := 2) (rs := nsY.map cNode ++ [[.int .u32 (greatN t.nodes + 1 + 1), .bool false, .msl 12 (nv + 1 + 1) 0 2, .int .u64 (t.count + 1), .int .u32 0]]) (by simp) (by simp) (by omega) (by simp; exact ⟨rfl, rfl, rfl, rfl⟩) (by simp) ?_ |>.trans (K := fun vs1 st1 => vs1 = [.agg [.msl 5 (nv + 1 + 1 + 1 + 1 + 1) 0 (t.nodes.length + 1 + 1), .int .u32 (greatN t.nodes + 1 + 1), .int .u64 (t.count + 1)], .agg [.int .u32 x.id, .int .u32 (greatN t.nodes + 1), .bool true]] ∧ ∃ L1 : List (Option (Nat × Obj)), st1 = ⟨L1, nv + 1 + 1 + 1 + 1 + 1 + 1⟩ ∧ L1[5]? = some (some (nv + 1 + 1 + 1 + 1 + 1, .mem 5 ((splitF t x left).1.nodes.map cNode)))) ?_
      · refine ⟨rfl, _, rfl, ?_⟩
        rw [hsp]
        simp
      · rintro _ _ ⟨rfl, L1, rfl, hL1⟩
        rw [hsp] at hL1
        refine GhostV.tree0 (t := ⟨nsY ++ [⟨greatN t.nodes + 1 + 1, false, [⟨boundK (stayF x.es left), x.id⟩, ⟨boundK (restF x.es left), greatN t.nodes + 1⟩], t.count + 1, 0⟩], greatN t.nodes + 1 + 1, t.count + 1⟩) hL1 (by simp [hlenY]) ?_
        exact ⟨pure_split _ ⟨x.id, greatN t.nodes + 1, true⟩, left, hl1, hl2, hl3, by rw [hsp]; rfl⟩
    | some p =>
      obtain ⟨pi, hpi, hix, hpe⟩ := find_idx_some (p := isUp x.id) hab
      rw [hix, show idxI (some pi) = ((pi : Nat) : Int) from rfl]
      have hsp : splitF t x left = (⟨updN nsY { p with es := withE p.es x.id ⟨boundK (restF x.es left), greatN t.nodes + 1⟩ }, t.root, t.count + 1⟩, ⟨x.id, greatN t.nodes + 1, false⟩) := by
        unfold splitF
        rw [← hnsY, hab]
      have hp0 : ¬ ((pi : Nat) : Int) < 0 := by omega
      have hpm : p ∈ nsY := by rw [← hpe]; exact List.getElem_mem hpi
      have hpw := hwY p hpm
      have hpk := (aboveN_some hab).2
      have hpl0 : 0 < p.es.length := by
        cases hl : p.leaf with
        | true => simp [SN.kids, hl] at hpk
        | false =>
          cases he : p.es with
          | nil => simp [SN.kids, hl, he] at hpk
          | cons e l => simp
      have hpi2 : pi < t.nodes.length + 1 := by omega
      simp [hp0]
      refine ⟨SpI3 t x p left nsY nv0 nv1 (nv + 1) nv, ⟨p.es.length, GhostV.nilr 5 (by decide) ⟨0, nv + 3, by simp, by simp, .inl ⟨hpl0, nv + 2, [], by simp [withE], by simp, by simp⟩⟩⟩, ?_⟩
      rintro k3 v16 v17 st ⟨j, nv3, rfl, rfl, hcase⟩
      rcases hcase with ⟨hlt, vo, out, hout, rfl, rfl⟩ | ⟨rfl, rfl, rfl⟩
      · have hol : out.length ≤ 2 * j := by
          have h1 := withE_len (p.es.take j) x.id ⟨boundK (restF x.es left), greatN t.nodes + 1⟩
          have h3 := List.count_le_length (l := (p.es.take j).map (·.child)) (a := x.id)
          rw [← hout] at h1
          rw [List.length_map] at h3
          rw [List.length_take] at h1 h3
          omega
        have hsn := withE_snoc (p.es.take j) p.es[j] x.id ⟨boundK (restF x.es left), greatN t.nodes + 1⟩
        rw [← take_snoc hlt, ← hout] at hsn
        have hgo : ∀ (vo' nv' : Nat) (out' : List LinkT) (M : List (Option (Nat × Obj))), out' = withE (p.es.take (j + 1)) x.id ⟨boundK (restF x.es left), greatN t.nodes + 1⟩ →
            GhostV [.msl 12 vo' 0 out'.length, .int .i64 (IntKind.i64.wrap ((j : Int) + 1))] ⟨SpQ t x left nsY nv0 nv1 (nv + 1) nv ++ ([some (vo', .mem 5 (out'.map cLink))] ++ M), nv'⟩ (@app 2 (SpI3 t x p left nsY nv0 nv1 (nv + 1) nv (p.es.length - (j + 1)))) := fun vo' nv' out' M e1 => by
          by_cases hn : j + 1 < p.es.length
          · rw [← List.append_assoc]
            exact GhostV.keep ⟨j + 1, nv', rfl, by rw [wadd1 (by omega)], .inl ⟨hn, vo', out', e1, rfl, rfl⟩⟩
          · refine GhostV.rowk (id := 12) (ver := vo') (sz := 5) (es := out'.map cLink) (by simp) (by simp) (by simp) ?_
            have e3 : p.es.take (j + 1) = p.es := List.take_of_length_le (by omega)
            have e2 : out' = withE p.es x.id ⟨boundK (restF x.es left), greatN t.nodes + 1⟩ := by rw [e1, e3]
            exact ⟨j + 1, nv', rfl, by rw [wadd1 (by omega)], .inr ⟨by omega, by rw [← e2]; simp, rfl⟩⟩
        simp [hlt, hpi2, hpi, hpe]
        refine ⟨by omega, by omega, by omega, ?_⟩
        by_cases he : p.es[j].child = x.id
        · rw [if_pos he] at hsn
          simp [he]
          refine inv_p (rBound h.toKyR (restF x.es left) ?_ ?_) rfl (by simp [pureL, V.pure]) ?_
          · have := (part_len x.es left hl1).2
            have := List.count_pos_iff.2 hl3
            omega
          · have := (part_len x.es left hl1).2
            have := List.count_le_length (l := left) (a := false)
            omega
          rintro _ rfl
          simp
          refine ⟨by omega, p.es.length - (j + 1), by omega, ?_⟩
          simpa [he] using hgo (nv3 + 3) (nv3 + 4) (out ++ [p.es[j], ⟨boundK (restF x.es left), greatN t.nodes + 1⟩]) [_, _] hsn.symm
        · rw [if_neg he] at hsn
          simp [he]
          refine ⟨p.es.length - (j + 1), by omega, ?_⟩
          simpa using hgo (nv3 + 1) (nv3 + 2) (out ++ [p.es[j]]) [_] hsn.symm
      · simp [hpi2, hpi, hpe]
        refine ⟨by omega, ?_⟩
        have hset : (List.map cNode nsY).set pi [.int .u32 p.id, .bool p.leaf, .sl .unk 5 (List.map cLink (withE p.es x.id ⟨boundK (restF x.es left), greatN t.nodes + 1⟩)) [], .int .u64 p.mark, .int .u32 p.right] = (splitF t x left).1.nodes.map cNode := by
          rw [hsp]
          dsimp only
          rw [← set_eq_updN hndY hpi (by rw [hpe]), List.map_set]
          rfl
        rw [hset]
        refine GhostV.tree0 (t := ⟨(splitF t x left).1.nodes, t.root, t.count + 1⟩) (by simp) (by rw [hsp]; simp [updN, hlenY]) ?_
        refine ⟨pure_split _ ⟨x.id, greatN t.nodes + 1, false⟩, left, hl1, hl2, hl3, ?_⟩
        rw [hsp]
        rfl
end Go.Proofs.Ytmjnpfackanhlaa.AM

namespace Go.Proofs.Ytmjnpfackanhlaa.AM
open Go
set_option linter.unusedVariables false
set_option linter.unusedSimpArgs false
variable {P : Program}

structure WyR (P : Program) : Prop extends SpR P where
 way : R_gazetteerref11_Way P
def Way1 (t : TreeT) (w : List Int) : Prop := ∃ x ∈ t.nodes, w ≠ [] ∧ w.getD 0 0 = t.root ∧ Pth t.nodes w w.length ∧ w.getD (w.length - 1) 0 = x.id
theorem Way1.snoc {t : TreeT} {w : List Int} {x y : NodeT} (hx : x ∈ t.nodes) (hne : w ≠ []) (h0 : w.getD 0 0 = t.root) (hp : Pth t.nodes w w.length) (hl : w.getD (w.length - 1) 0 = x.id) (hy : y ∈ t.nodes) (hk : y.id ∈ x.sh.kids) :
    w ++ [y.id] ≠ [] ∧ (w ++ [y.id]).getD 0 0 = t.root ∧ Pth t.nodes (w ++ [y.id]) (w ++ [y.id]).length ∧ (w ++ [y.id]).getD ((w ++ [y.id]).length - 1) 0 = y.id := by
  have hwl : 0 < w.length := List.length_pos_iff.2 hne
  have hold : ∀ j, j < w.length → (w ++ [y.id]).getD j 0 = w.getD j 0 := fun j hj => by simp [List.getD, List.getElem?_append_left hj]
  have hnew : (w ++ [y.id]).getD w.length 0 = y.id := by simp [List.getD]
  refine ⟨by simp, by rw [hold 0 hwl]; exact h0, fun j hj => ?_, by rw [List.length_append, List.length_singleton, Nat.add_sub_cancel]; exact hnew⟩
  rw [List.length_append, List.length_singleton] at hj
  by_cases e : j + 1 < w.length
  · rw [hold j (by omega), hold (j + 1) e]; exact hp j e
  · have e2 : j = w.length - 1 := by omega
    refine ⟨x.sh, mem_shs hx, ?_, ?_⟩
    · rw [hold j (by omega), e2, hl]; rfl
    · have e3 : j + 1 = w.length := by omega
      rw [e3, hnew]; exact hk
def WyI1 (t : TreeT) (k0 : KeyT) (h : Int → Nat) (k : Nat) (v : V) (st : St) : Prop :=
 ∃ (w : List Int) (x : NodeT) (vl nv : Nat), x ∈ t.nodes ∧ w ≠ [] ∧ w.getD 0 0 = t.root ∧ Pth t.nodes w w.length ∧ w.getD (w.length - 1) 0 = x.id ∧ k = h x.id ∧ v = .msl 2 vl 0 w.length ∧ st = ⟨[some (0, .mem 3 [cTree t]), some (1, .mem 4 [cKey k0]), some (vl, .mem 1 (w.map cI))], nv⟩
def WyI2 (x : NodeT) (L : List (Option (Nat × Obj))) (k : Nat) (v7 v8 : V) (st : St) : Prop :=
 ∃ (b i nv : Nat), k = x.es.length - i ∧ i ≤ x.es.length ∧ b < x.es.length ∧ v7 = .int .i64 ((b : Nat) : Int) ∧ v8 = .int .i64 ((i : Nat) : Int) ∧ st = ⟨L, nv⟩
set_option maxHeartbeats 1000000 in
theorem rWay (h : WyR P) (t : TreeT) (hs : smallT t) {ht rk : Int → Nat} (H : Shp (shs t.nodes) [t.root] ht rk) (hne : ∀ x ∈ t.nodes, x.leaf = false → x.es ≠ []) (hh : ∀ x ∈ t.nodes, ht x.id < 2 ^ 20) (k0 : KeyT) :
  PCalls P n_gazetteerref11_Way [.agg (cTree t), .agg (cKey k0)] (fun r => ∃ w, WayOk t w ∧ r = vIs w) := by
 refine A_gazetteerref11_Way h.way ?_
 delta F_gazetteerref11_Way sp sd gp gd fl fd gl
 simp [st0]
 have hnd : (idsN t.nodes).Nodup := by have := H.nodup; simpa using this
 have hrm : t.root ∈ idsN t.nodes := by have := H.root_mem (c := t.root) (by simp); simpa using this
 obtain ⟨r, hrf⟩ := findN_ids hrm
 obtain ⟨hr, hre⟩ := findN_some hrf
 refine ⟨WyI1 t k0 ht, ⟨ht t.root, GhostV.refl ⟨[t.root], r, 2, 3, hr, by simp, by simp, fun j hj => by simp at hj, by simp [hre], by rw [hre], rfl, rfl⟩⟩, ?_⟩
 rintro k1 v st ⟨w, x, vl, nv, hx, hwne, hw0, hp, hl, rfl, rfl, rfl⟩
 have hwl : 0 < w.length := List.length_pos_iff.2 hwne
 have hph := pth_height H hp (w.length - 1) (by omega)
 rw [hl, hw0] at hph
 have hhr := hh r hr
 rw [hre] at hhr
 simp
 rw [wsub1 (by omega) hwl]
 have hlt : w.length - 1 < w.length := by omega
 have hwx : w[w.length - 1] = x.id := by simpa [List.getD, hlt] using hl
 obtain ⟨jd, hjd, hfi, hxj⟩ := findN_idx (findN_mem hnd hx)
 simp [hlt, hwx]
 refine inv_p (rAt h.toRdR t x.id (by have := hs.1; omega)) rfl (by simp [pureL, V.pure, pureLL]) ?_
 rintro _ rfl
 rw [hfi, show idxI (some jd) = ((jd : Nat) : Int) from rfl]
 simp [hjd, hxj]
 cases hlf : x.leaf
 ·have hes : 0 < x.es.length := List.length_pos_iff.2 (hne x hx hlf)
  have hxl := hs.2 x hx
  simp
  refine ⟨WyI2 x ([some (0, .mem 3 [cTree t]), some (1, .mem 4 [cKey k0]), some (vl, .mem 1 (w.map cI)), some (nv, .mem 5 [cNode x])]), ⟨x.es.length - 1, GhostV.refl ⟨0, 1, nv + 1, rfl, by omega, hes, by simp, by simp, by simp [hlf]⟩⟩, ?_⟩
  rintro k2 v7 v8 st ⟨b, i, nv2, rfl, hi, hb, rfl, rfl, rfl⟩
  by_cases hlt2 : i < x.es.length
  ·simp [hlt2, hb]
   refine inv_p (rLess h.toLeR x.es[i].key x.es[b].key k0) rfl rfl ?_
   rintro _ ⟨c, rfl⟩
   cases c <;> simp
   ·exact ⟨x.es.length - (i + 1), by omega, GhostV.refl ⟨b, i + 1, nv2, rfl, by omega, hb, rfl, by rw [wadd1 (by omega)], rfl⟩⟩
   ·exact ⟨x.es.length - (i + 1), by omega, GhostV.refl ⟨i, i + 1, nv2, rfl, by omega, hlt2, rfl, by rw [wadd1 (by omega)], rfl⟩⟩
  ·simp [hlt2, hb]
   have hk : x.es[b].child ∈ x.sh.kids := by
    simp only [SN.kids, NodeT.sh_leaf, hlf, Bool.false_eq_true, if_false, NodeT.sh_ch]
    exact List.mem_map.2 ⟨_, List.getElem_mem hb, rfl⟩
   have hcm : x.es[b].child ∈ idsN t.nodes := by have := H.kid_mem (mem_kids (mem_shs hx) hk); simpa using this
   obtain ⟨y, hyf⟩ := findN_ids hcm
   obtain ⟨hy, hye⟩ := findN_some hyf
   have hhy := H.inn _ (mem_shs hx) _ hk
   rw [NodeT.sh_id] at hhy
   rw [← hye] at hk hhy
   obtain ⟨g1, g2, g3, g4⟩ := Way1.snoc hx hwne hw0 hp hl hy hk
   refine ⟨by omega, ht y.id, by omega, GhostV.keep (L := [_, _, _]) ⟨w ++ [y.id], y, nv2 + 1, nv2 + 2, hy, g1, g2, g3, g4, rfl, by simp, by simp [hye]⟩⟩
 ·simp
  refine GhostV.row1 (sz := 1) (es := w.map cI) (by simp [St.get]) (by simp) ?_
  refine ⟨by simp [mkres, V.pure], w, ⟨hwne, hw0, hp, x, hx, hl.symm, hlf⟩, by simp⟩
end Go.Proofs.Ytmjnpfackanhlaa.AM

namespace Go.Proofs.Ytmjnpfackanhlaa.AM
open Go
set_option linter.unusedVariables false
set_option linter.unusedSimpArgs false
variable {P : Program}

structure PuR (P : Program) : Prop extends WyR P where
 put : R_gazetteerref11_Put P
inductive Psteps (w : List Int) : Nat → TreeT → List SplitT → TreeT → List SplitT → Prop
 | done (t : TreeT) (l : List SplitT) : Psteps w 0 t l t l
 | skip {n : Nat} {t t' : TreeT} {l l' : List SplitT} (x : NodeT) (hx : findN t.nodes (w.getD n 0) = some x) (h : x.es.length ≤ 4) (k : Psteps w n t l t' l') : Psteps w (n + 1) t l t' l'
 | split {n : Nat} {t t' : TreeT} {l l' : List SplitT} (x : NodeT) (left : List Bool) (hx : findN t.nodes (w.getD n 0) = some x) (h : 4 < x.es.length) (hl : left.length = x.es.length) (h1 : true ∈ left) (h0 : false ∈ left)
   (k : Psteps w n (keyedF (splitF t x left).1) (l ++ [(splitF t x left).2]) t' l') : Psteps w (n + 1) t l t' l'
def PutRel (t : TreeT) (row : Int) (k : KeyT) (t' : TreeT) (l' : List SplitT) : Prop :=
 ∃ w x, WayOk t w ∧ findN t.nodes (w.getD (w.length - 1) 0) = some x ∧ Psteps w w.length (keyedF { t with nodes := updN t.nodes { x with es := x.es ++ [⟨k, row⟩] } }) [] t' l'
theorem passes_ids : ∀ (n : Nat) (ns : List NodeT), idsN (passes n ns) = idsN ns
 | 0, _ => rfl
 | n + 1, ns => by
  rw [passes, passes_ids n]
  unfold passN
  exact keyL_ids _ _
theorem keyedF_ids (t : TreeT) : idsN (keyedF t).nodes = idsN t.nodes := by rw [keyedF_nodes, passes_ids]
theorem Mid.unkey {B : Prop} {t : TreeT} {w : Int} {hr b : Nat} {h rk : Int → Nat} (H : Mid B (keyedF t) w hr b h rk) : Shp (shs t.nodes) [t.root] h rk := by
 have h1 := H.nodup
 rw [keyedF_ids] at h1
 have h2 := H.shp
 rw [keyed_shs h1] at h2
 exact h2
theorem Mid.small {B : Prop} {t : TreeT} {w : Int} {hr b : Nat} {h rk : Int → Nat} (H : Mid B t w hr b h rk) (hb : b ≤ 600) : smallT t :=
  ⟨by have := H.len; omega, fun x hx => by
    have h1 := H.wid _ (mem_shs hx)
    simp only [NodeT.sh_ch, List.length_map] at h1
    omega⟩
theorem Mid.usmall {B : Prop} {t : TreeT} {w : Int} {hr b : Nat} {h rk : Int → Nat} (H : Mid B (keyedF t) w hr b h rk) (hb : b ≤ 600) : smallT t := by
 have h1 := H.nodup
 rw [keyedF_ids] at h1
 have hs := H.small hb
 have e := keyed_shs h1
 exact ⟨by rw [← shs_len e]; exact hs.1, small_shs hs.2 e.symm⟩
theorem Ext.split {L A : List (Option (Nat × Obj))} (h : Ext L A) : ∃ B, A = L ++ B := ⟨A.drop L.length, by
 have h1 := h.take
 have h2 := List.take_append_drop L.length A
 rw [h1] at h2
 exact h2.symm⟩
theorem greatN_ids {a b : List NodeT} (h : idsN a = idsN b) : greatN a = greatN b := by
 have e : ∀ ns : List NodeT, greatN ns = (idsN ns).getLast?.getD 0 := fun ns => by
  unfold greatN idsN
  rw [List.getLast?_map]
  cases ns.getLast? <;> rfl
 rw [e, e, h]
theorem greatN_snoc (a : List NodeT) (x : NodeT) : greatN (a ++ [x]) = x.id := by simp [greatN]
theorem len_ids {a b : List NodeT} (h : idsN a = idsN b) : a.length = b.length := by
 have := congrArg List.length h
 simpa [idsN] using this
def Bnd (t0 t : TreeT) (l : List SplitT) : Prop := t.count = t0.count + l.length ∧ t.nodes.length ≤ t0.nodes.length + 2 * l.length ∧ greatN t.nodes ≤ greatN t0.nodes + 2 * l.length
theorem Bnd.refl (t : TreeT) : Bnd t t [] := ⟨by simp, by simp, by simp⟩
theorem Bnd.split {t0 t : TreeT} {l : List SplitT} (H : Bnd t0 t l) (x : NodeT) (left : List Bool) (s : SplitT) : Bnd t0 (keyedF (splitF t x left).1) (l ++ [s]) := by
 have hk := keyedF_ids (splitF t x left).1
 obtain ⟨h1, h2, h3⟩ := H
 refine ⟨?_, ?_, ?_⟩
 ·have : (keyedF (splitF t x left).1).count = t.count + 1 := by
   unfold keyedF splitF
   split <;> rfl
  rw [this, h1]; simp; omega
 ·rw [len_ids hk]
  unfold splitF
  split
  ·have := len_ids (idsN_updN t.nodes (stayN t x left))
   simp; omega
  ·have e1 := len_ids (idsN_updN (updN t.nodes (stayN t x left) ++ [goesN t x left]) { (‹_› : NodeT) with es := withE (‹_› : NodeT).es x.id ⟨boundK (restF x.es left), greatN t.nodes + 1⟩ })
   have := len_ids (idsN_updN t.nodes (stayN t x left))
   simp only at e1 ⊢
   rw [e1]
   simp; omega
 ·rw [greatN_ids hk]
  unfold splitF
  split
  ·simp only [List.append_assoc, List.singleton_append]
   rw [show ∀ (a : List NodeT) (y z : NodeT), a ++ [y, z] = (a ++ [y]) ++ [z] from fun a y z => by simp, greatN_snoc]
   simp; omega
  ·have e1 := greatN_ids (idsN_updN (updN t.nodes (stayN t x left) ++ [goesN t x left]) { (‹_› : NodeT) with es := withE (‹_› : NodeT).es x.id ⟨boundK (restF x.es left), greatN t.nodes + 1⟩ })
   simp only at e1 ⊢
   rw [e1, greatN_snoc]
   simp [goesN]; omega
def PutNo (t : TreeT) : Prop := ∃ w, WayOk t w ∧ (18446744073709551615 ≤ t.count + w.length ∨ 4294967293 < greatN t.nodes + 2 * w.length ∨ 512 < t.nodes.length + 2 * w.length ∨ 12 < w.length + 1)
def PLoop (B : Prop) (w : List Int) (t0 : TreeT) (n : Nat) (t : TreeT) (l : List SplitT) : Prop :=
 (PutL B w n t l ∨ (n = 0 ∧ (∃ l0 s, l = l0 ++ [s] ∧ s.root = true) ∧ ∃ h rk b, Mid B t 0 w.length b h rk ∧ b ≤ 513 + w.length)) ∧ (∀ t' l', Psteps w n t l t' l' → Psteps w w.length t0 [] t' l') ∧ Bnd t0 t l
theorem PutL.small {B : Prop} {w : List Int} {n : Nat} {t : TreeT} {l : List SplitT} (H : PutL B w n t l) : smallT t := by
 obtain ⟨h, rk, b, hM, hb⟩ := H.mid
 have := H.wlen
 exact hM.small (by omega)
@[simp] theorem p_cSpl (l : List SplitT) : pureLL (l.map cSpl) = true := pureLL_map (fun _ => rfl) l
abbrev vSps (l : List SplitT) : V := .sl .unk 3 (l.map cSpl) []
def putW (t : TreeT) (row : Int) (k : KeyT) (r : V) : Prop :=
 (∃ t' l', (boxK k = true → Inv t') ∧ PutRel t row k t' l' ∧ r = .tup [.agg (cTree t'), vSps l', .bool true]) ∨ (PutNo t ∧ r = .tup [.agg zTree, .sl .nil 0 [] [], .bool false])
end Go.Proofs.Ytmjnpfackanhlaa.AM

namespace Go.Proofs.Ytmjnpfackanhlaa.AM
open Go
set_option linter.unusedVariables false
set_option linter.unusedSimpArgs false
variable {P : Program}

theorem DT.setN {A A' : List (Option (Nat × Obj))} {rows : List (List V)} {ws : List Nat} {ns : List NodeT} (H : DT A rows ws ns) {i w ver' : Nat} {x' : NodeT} (hi : i < ns.length) (hw : ws[i]? = some w) (hA : A'[w]? = some (some (ver', .mem 5 (x'.es.map cLink)))) (hup : ∀ v ∈ ws, v ≠ w → A'[v]? = A[v]?) :
  DT A' (rows.set i (dNode w ver' x')) ws (ns.set i x') := by
 refine ⟨by simp [H.rl], by simp [H.wl], fun j hj => ?_, H.nd⟩
 rw [List.length_set] at hj
 by_cases e : i = j
 ·subst e
  refine ⟨_, w, List.getElem?_set_self (by rw [H.rl]; exact hi), hw, ver', ?_, ?_⟩
  ·simp
  ·rw [hA]; simp
 ·obtain ⟨row, w2, h1, h2, ver2, h3, h4⟩ := H.at' j hj
  refine ⟨row, w2, by rw [List.getElem?_set_ne e]; exact h1, h2, ver2, ?_, ?_⟩
  ·rw [h3, List.getElem_set_ne e]
  ·rw [hup w2 (List.mem_of_getElem? h2) (fun e2 => ?_), List.getElem_set_ne e]
   ·exact h4
   ·obtain ⟨i1, e1⟩ := List.getElem?_eq_some_iff.1 hw
    obtain ⟨j1, e3⟩ := List.getElem?_eq_some_iff.1 h2
    have hne := List.nodup_iff_pairwise_ne.1 H.nd
    rcases Nat.lt_or_gt_of_ne e with hlt | hlt
    ·exact List.pairwise_iff_getElem.1 hne i j i1 j1 hlt (by rw [e1, e3, e2])
    ·exact List.pairwise_iff_getElem.1 hne j i j1 i1 hlt (by rw [e1, e3, e2])
theorem GhostV.treeR {L A : List (Option (Nat × Obj))} {idn va nv : Nat} {rows : List (List V)} {ws : List Nat} {t : TreeT} {r c : Int} {K : List V → St → Prop} (hD : DT A rows ws t.nodes) (ho : A[idn]? = some (some (va, .mem 5 rows))) (hE : Ext L A) (hw : ∀ w ∈ ws, L.length ≤ w) (hi : L.length ≤ idn) (hidn : ¬ idn ∈ ws) {n : Nat} (hn : n = t.nodes.length)
  (hr : r = t.root) (hc : c = t.count) (hk : K [.agg (cTree t)] ⟨L, nv⟩) : GhostV [.agg [.msl idn va 0 n, .int .u32 r, .int .u64 c]] ⟨A, nv⟩ K := by
 subst hr hc
 exact GhostV.tree hD ho hE hw hi hidn hn hk
theorem GhostV.row2 {L : List (Option (Nat × Obj))} {nv id ver sz n : Nat} {a c : V} {es : List (List V)} {K : List V → St → Prop} (ho : L[id]? = some (some (ver, .mem sz es))) (hn : n = es.length) (hk : K [a, .sl .unk sz es [], c] ⟨[], nv⟩) : GhostV [a, .msl id ver 0 n, c] ⟨L, nv⟩ K := by
 subst hn
 refine GhostV.freeze (vs' := [a, .sl .unk sz es [], c]) (st' := ⟨[], nv⟩) (id := id) (ver := ver) (sz := sz) (es := es) (by simp [St.get, ho]) rfl rfl (fun i => ?_) (fun id1 ver1 o1 hh => by simp at hh) hk
 match i with
 | 0 => exact .refl _
 | 1 =>
  have := Frz.msl (ver := ver) (sz := sz) (es := es) id 0 es.length (by simp)
  simpa using this
 | 2 => exact .refl _
 | i + 3 => exact .refl _
def lastR (l : List SplitT) : Bool := match l.getLast? with
 | some s => s.root
 | none => false
def PuJ (w : List Int) (t : TreeT) (k0 : KeyT) (l : List SplitT) (vl : Nat) (v : V) (st : St) : Prop := ∃ nv, v = .int .i64 ((w.length + (if lastR l then 1 else 0) : Nat) : Int) ∧ st = ⟨[some (0, .mem 3 [cTree t]), some (1, .mem 4 [cKey k0]), some (2, .mem 3 [zTree]), some (vl, .mem 3 (l.map cSpl))], nv⟩
def PuI (w : List Int) (t0 : TreeT) (k0 : KeyT) (k : Nat) (v11 v12 : V) (st : St) : Prop :=
 ∃ (n vl nv : Nat) (t : TreeT) (l : List SplitT), k = n ∧ PLoop (boxK k0 = true) w t0 n t l ∧ l.length ≤ w.length - n ∧ n ≤ w.length ∧ v12 = .int .i64 ((n : Int) - 1) ∧ v11 = .msl 3 vl 0 l.length ∧
  st = ⟨[some (0, .mem 3 [cTree t]), some (1, .mem 4 [cKey k0]), some (2, .mem 3 [zTree]), some (vl, .mem 3 (l.map cSpl))], nv⟩
set_option maxHeartbeats 2000000 in
theorem rPutW (h : PuR P) (t : TreeT) (hI : Inv t) (row : Int) (k0 : KeyT) (hrow : 0 < row ∧ row < 4294967296) (hno : ¬ row ∈ rowsS (shs t.nodes)) :
    PCalls P n_gazetteerref11_Put [.agg (cTree t), .int .u32 row, .agg (cKey k0)] (putW t row k0) := by
  refine A_gazetteerref11_Put h.put ?_
  delta F_gazetteerref11_Put sp sd gp gd fl fd gl
  simp [st0]
  obtain ⟨ht, rk, hS, htop⟩ := hI.shp
  have hnd := hI.nodup
  have hsm : smallT t := ⟨by have := hI.len; omega, fun x hx => by
    have := hI.wid _ (mem_shs hx)
    simp only [NodeT.sh_ch, List.length_map] at this; omega⟩
  have hinne : ∀ x ∈ t.nodes, x.leaf = false → x.es ≠ [] := fun x hx hl e => by
    have := (hI.ne _ (mem_shs hx) (by simp [e])).1
    rw [NodeT.sh_leaf, hl] at this; cases this
  have hhts : ∀ x ∈ t.nodes, ht x.id < 2 ^ 20 := fun x hx => by
    have := hS.top_le _ (mem_shs hx)
    rw [NodeT.sh_id] at this; omega
  refine inv_p (rWay h.toWyR t hsm hS hinne hhts k0) rfl (by simp [pureL, V.pure, pureLL]) ?_
  rintro _ ⟨w, hw, rfl⟩
  have hwl : 0 < w.length := List.length_pos_iff.2 hw.ne
  obtain ⟨x0, hx0, hx0w, hlf⟩ := hw.leaf
  have hh := pth_height hS hw.pth (w.length - 1) (by omega)
  rw [← hx0w, hw.head] at hh
  have hwl12 : w.length ≤ 12 := by omega
  simp
  refine inv_f0 (Copy_D h.toCpR t hsm (fun A va rows ws nv0 hD ho hE hws => ?_))
  obtain ⟨B, rfl⟩ := hE.split
  simp at ho hws
  simp
  rw [wsub1 (by omega) hwl]
  have hlt : w.length - 1 < w.length := by omega
  have hwx : w[w.length - 1] = x0.id := by simpa [List.getD, hlt] using hx0w.symm
  obtain ⟨jd, hjd, hfi, hxj⟩ := findN_idx (findN_mem hnd hx0)
  simp [hlt, hwx]
  have hD1 : DT (some (0, .mem 3 [[.msl 5 va 0 t.nodes.length, .int .u32 t.root, .int .u64 t.count]]) :: some (1, .mem 4 [[.int .i64 k0.x0, .int .i64 k0.x1, .int .i64 k0.y0, .int .i64 k0.y1]]) :: some (2, .mem 3 [[.sl .nil 0 [] [], .int .u32 0, .int .u64 0]]) :: B) rows ws t.nodes := hD.up (fun w hw => by
    obtain ⟨w', rfl⟩ : ∃ w', w = w' + 3 := ⟨w - 3, by have := hws w hw; omega⟩
    simp)
  refine inv_look (rAt h.toRdR t x0.id (by have := hsm.1; omega)) (Bors.cons (.agg _ _ rfl (fun i hi => by
    match i, hi with
    | 0, _ => exact hD1.bor (id := 5) (by simpa using ho) rfl
    | 1, _ => exact .refl _
    | 2, _ => exact .refl _)) (Bors.cons (.refl _) Bors.nil)) (by simp [pureL, V.pure, pureLL]) ?_
  rintro _ rfl
  refine ⟨rfl, ?_⟩
  rw [hfi, show idxI (some jd) = ((jd : Nat) : Int) from rfl]
  obtain ⟨row0, w0, hr0, hw0, ver, rfl, hA0⟩ := hD1.at' jd hjd
  obtain ⟨w', rfl⟩ : ∃ w', w0 = w' + 3 := ⟨w0 - 3, by have := hws w0 (List.mem_of_getElem? hw0); omega⟩
  rw [hxj] at hr0 hA0
  simp only [dNode] at hr0
  simp at hA0
  have hxl := hsm.2 x0 hx0
  have hB2 := (List.getElem?_eq_some_iff.1 ho).1
  have hBw := (List.getElem?_eq_some_iff.1 hA0).1
  have hw2 : w' ≠ 2 := by have := hws (w' + 3) (List.mem_of_getElem? hw0); omega
  have hB2' : ∀ X M, (B.set w' X ++ M)[2]? = some (some (va, .mem 5 rows)) := fun X M => by rw [List.getElem?_append_left (by simpa using hB2), List.getElem?_set_ne hw2]; exact ho
  have hB3' : ∀ X M (Y : Option (Nat × Obj)), (B.set w' X ++ M).set 2 Y = (B.set w' X).set 2 Y ++ M := fun X M Y => List.set_append_left _ _ (by simpa using hB2)
  simp [hjd, ho, hr0, hA0, hB2', hB3']
  refine ⟨by omega, ?_⟩
  obtain ⟨x1, hx1⟩ : ∃ x1 : NodeT, x1 = { x0 with es := x0.es ++ [⟨k0, row⟩] } := ⟨_, rfl⟩
  obtain ⟨t1, ht1⟩ : ∃ t1 : TreeT, t1 = { t with nodes := updN t.nodes x1 } := ⟨_, rfl⟩
  have ht1n : t1.nodes = t.nodes.set jd x1 := by rw [ht1, set_eq_updN hnd hjd (by rw [hx1, hxj])]
  have hPL := put_start (B := boxK k0 = true) hI hw hx0 hx0w id hrow hno
  rw [← hx1, ← ht1] at hPL
  obtain ⟨h1, rk1, b1, hM1, hb1⟩ := hPL.mid
  have hS1 := hM1.unkey
  have hsm1 := hM1.usmall (by omega)
  have hrow1 : (dNode (w' + 3) (nv0 + 1) x1) = [.int .u32 x0.id, .bool x0.leaf, .msl (w' + 3) (nv0 + 1) 0 (x0.es.length + 1), .int .u64 x0.mark, .int .u32 x0.right] := by rw [hx1]; simp
  have hes1 : x1.es.map cLink = List.map cLink x0.es ++ [[.int .i64 k0.x0, .int .i64 k0.x1, .int .i64 k0.y0, .int .i64 k0.y1, .int .u32 row]] := by rw [hx1]; simp
  rw [← hrow1, ← hes1]
  have hKy := rKeyed h.toKdR t1 hsm1 hS1
  refine inv_f0 (ACalls.gv hKy.1 (GhostV.trans (GhostV.treeR (t := t1) (L := [some (0, .mem 3 [[.msl 5 va 0 t.nodes.length, .int .u32 t.root, .int .u64 t.count]]), some (1, .mem 4 [cKey k0]), some (2, .mem 3 [zTree])]) (idn := 5) (va := va) (rows := rows.set jd (dNode (w' + 3) (nv0 + 1) x1)) (ws := ws) (K := fun vs st => vs = [.agg (cTree t1)] ∧ st = ⟨[some (0, .mem 3 [[.msl 5 va 0 t.nodes.length, .int .u32 t.root, .int .u64 t.count]]), some (1, .mem 4 [cKey k0]), some (2, .mem 3 [zTree])], nv0 + 1 + 1⟩) ?_ ?_ ?_ (fun w hw => by have := hws w hw; simp; omega) (by simp) (fun hw => by have := hws _ hw; omega) (by rw [ht1n]; simp) (by rw [ht1]) (by rw [ht1]) ⟨rfl, rfl⟩) ?_))
  · rw [ht1n]
    refine hD1.setN hjd hw0 ?_ (fun v hv hne => ?_)
    · rw [List.getElem?_cons_succ, List.getElem?_cons_succ, List.getElem?_cons_succ, List.getElem?_append_left (by simpa using hBw), List.getElem?_set_ne (fun e => hw2 e.symm), List.getElem?_set_self hBw]
    · obtain ⟨v', rfl⟩ : ∃ v', v = v' + 3 := ⟨v - 3, by have := hws v hv; omega⟩
      have hvl := hD1.lt _ hv
      have hv5 := hws _ hv
      simp only [List.length_cons] at hvl
      rw [List.getElem?_cons_succ, List.getElem?_cons_succ, List.getElem?_cons_succ, List.getElem?_append_left (by simp; omega), List.getElem?_set_ne (by omega), List.getElem?_set_ne (by omega), List.getElem?_cons_succ, List.getElem?_cons_succ, List.getElem?_cons_succ]
  · rw [List.getElem?_cons_succ, List.getElem?_cons_succ, List.getElem?_cons_succ, List.getElem?_append_left (by simpa using hB2), List.getElem?_set_self (by simpa using hB2)]
  · exact Ext.app [some (0, .mem 3 [[.msl 5 va 0 t.nodes.length, .int .u32 t.root, .int .u64 t.count]]), some (1, .mem 4 [cKey k0]), some (2, .mem 3 [zTree])] _
  rintro _ _ ⟨rfl, rfl⟩
  refine GhostV.refl (hKy.at (by simp [pureL, V.pure, pureLL]) ?_)
  rintro _ rfl
  simp
  rw [wsub1 (by omega) hwl]
  clear hD hD1 ho hws hr0 hw0 hA0 hB2 hBw hw2 hB2' hB3' hrow1 hes1
  have hPR : ∀ t' l', Psteps w w.length (keyedF t1) [] t' l' → PutRel t row k0 t' l' := fun t' l' hp => ⟨w, x0, hw, by rw [← hx0w]; exact findN_mem hnd hx0, by rw [← hx1, ← ht1]; exact hp⟩
  refine ⟨PuI w (keyedF t1) k0, ⟨w.length, GhostV.nilr 3 (by decide) ⟨w.length, nv0 + 2, nv0 + 3, keyedF t1, [], rfl, ⟨.inl hPL, fun _ _ h => h, .refl _⟩, by simp, by omega, by congr 1; omega, by simp, by simp⟩⟩, ?_⟩
  have hk1 := keyedF_ids t1
  have ht1i : idsN t1.nodes = idsN t.nodes := by rw [ht1]; exact idsN_updN _ _
  have hc1 : (keyedF t1).count = t.count := by rw [ht1]; rfl
  have hn1' : (keyedF t1).nodes.length = t.nodes.length := len_ids (hk1.trans ht1i)
  have hg1' : greatN (keyedF t1).nodes = greatN t.nodes := greatN_ids (hk1.trans ht1i)
  rintro k1 v11 v12 st ⟨n, vl, nv, tc, l, rfl, hPL, hll, hnw, rfl, rfl, rfl⟩
  obtain ⟨hb1, hb2, hb3⟩ := hPL.2.2
  rw [hc1] at hb1
  rw [hn1'] at hb2
  rw [hg1'] at hb3
  cases k1 with
  | zero =>
    have hlt0 : ¬ (0 : Int) ≤ ((0 : Nat) : Int) - 1 := by omega
    simp [hlt0]
    have hlr : (PutL (boxK k0 = true) w 0 tc l ∧ lastR l = false) ∨ (lastR l = true ∧ ∃ h rk b, Mid (boxK k0 = true) tc 0 w.length b h rk ∧ b ≤ 513 + w.length) := by
      rcases hPL.1 with hA | ⟨_, ⟨l0, s, rfl, hs⟩, hB⟩
      · refine .inl ⟨hA, ?_⟩
        unfold lastR
        cases hg : l.getLast? with
        | none => rfl
        | some s => exact hA.ls s (List.mem_of_getLast? hg)
      · refine .inr ⟨?_, hB⟩
        simp [lastR, hs]
    refine ⟨PuJ w tc k0 l vl, ?_, ?_⟩
    · by_cases hl0 : l = []
      · subst hl0
        simp
        exact GhostV.refl ⟨nv, by simp [lastR], by simp⟩
      · obtain ⟨l0, s, rfl⟩ : ∃ l0 s, l = l0 ++ [s] := ⟨l.dropLast, l.getLast hl0, (List.dropLast_concat_getLast hl0).symm⟩
        have hla : lastR (l0 ++ [s]) = s.root := by simp [lastR]
        have hw9 : IntKind.i64.wrap (l0.length : Int) = ((l0.length : Nat) : Int) := by
          simp only [List.length_append, List.length_singleton] at hll
          rw [wrap_i64 (by omega)]
        have hl9 : (l0.length : Int) < (l0.length : Int) + 1 := by omega
        simp
        rw [hw9]
        simp [hl9]
        cases hsr : s.root
        · simp [hsr]
          exact GhostV.refl ⟨nv, by simp [hla, hsr], by simp [hsr]⟩
        · simp [hsr]
          exact GhostV.refl ⟨nv, by rw [hla, hsr, wadd1 (by omega)]; rfl, by simp [hsr]⟩
    rintro v15 st ⟨nv2, rfl, rfl⟩
    by_cases h512 : (512 : Int) < tc.nodes.length
    · simp [h512]
      exact GhostV.refl ⟨rfl, .inr ⟨⟨w, hw, by omega⟩, rfl⟩⟩
    · simp [h512]
      by_cases h12 : (12 : Int) < (w.length : Int) + ((if lastR l = true then 1 else 0 : Nat) : Int)
      · simp [h512, h12]
        exact GhostV.refl ⟨rfl, .inr ⟨⟨w, hw, by right; right; right; revert h12; split <;> simp <;> omega⟩, rfl⟩⟩
      · simp [h512, h12]
        refine GhostV.row2 (sz := 3) (es := l.map cSpl) (by simp) (by simp) ?_
        have hIv : boxK k0 = true → Inv tc := fun hk0 => by
          rcases hlr with ⟨hA, _⟩ | ⟨hB, h', rk', b', hM, _⟩
          · obtain ⟨h', rk', b', hM, _⟩ := hA.mid
            exact hM.inv hk0 (by omega) (by omega)
          · rw [if_pos hB] at h12
            exact hM.inv hk0 (by omega) (by omega)
        exact ⟨by simp [mkres, V.pure, pureL, pureLL], .inl ⟨tc, l, hIv, hPR _ _ (hPL.2.1 _ _ (.done tc l)), rfl⟩⟩
  | succ n =>
    have hPL1 : PutL (boxK k0 = true) w (n + 1) tc l := by
      rcases hPL.1 with h | ⟨h, _⟩
      · exact h
      · omega
    have hn1 : ((n + 1 : Nat) : Int) - 1 = ((n : Nat) : Int) := by omega
    rw [hn1]
    obtain ⟨hc, rkc, bc, hMc, hbc⟩ := hPL1.mid
    have hsc := hPL1.small
    have hndc := hMc.nodup
    have hnw' : n < w.length := by omega
    obtain ⟨x, hxf⟩ := findN_ids (hPL1.inn n (by omega))
    obtain ⟨hx, hxid⟩ := findN_some hxf
    have hwn : w[n] = x.id := by rw [hxid]; simp [List.getD, hnw']
    rw [← hxid] at hxf
    obtain ⟨jx, hjx, hfx, hxj⟩ := findN_idx hxf
    simp [hnw', hwn]
    refine inv_p (rAt h.toRdR tc x.id (by have := hsc.1; omega)) rfl (by simp [pureL, V.pure, pureLL]) ?_
    rintro _ rfl
    rw [hfx, show idxI (some jx) = ((jx : Nat) : Int) from rfl]
    simp [hjx, hxj]
    have hwm : IntKind.i64.wrap ((n : Int) - 1) = (n : Int) - 1 := wrap_i64 (by omega)
    have hxf' : findN tc.nodes (w.getD n 0) = some x := by rw [← hxid]; exact hxf
    by_cases h4 : (x.es.length : Int) ≤ 4
    · simp [h4]
      rw [hwm]
      exact ⟨n, by omega, GhostV.refl ⟨n, vl, nv, tc, l, rfl, ⟨.inl (hPL1.skip hx hxid (by omega)), fun t' l' hp => hPL.2.1 t' l' (.skip x hxf' (by omega) hp), hPL.2.2⟩, by omega, by omega, rfl, rfl, rfl⟩⟩
    · have hxe := hsc.2 x hx
      simp [h4]
      by_cases hcm : tc.count = 18446744073709551615
      · simp [hcm]
        exact GhostV.refl ⟨rfl, .inr ⟨⟨w, hw, by omega⟩, rfl⟩⟩
      · simp [hcm]
        have hlen0 : 0 < tc.nodes.length := by omega
        refine inv_p (rGreat h.toRdR tc hlen0 (by have := hsc.1; omega)) rfl (by simp [pureL, V.pure, pureLL]) ?_
        rintro _ rfl
        by_cases hgm : 4294967293 < greatN tc.nodes
        · simp [hcm, hgm]
          exact GhostV.refl ⟨rfl, .inr ⟨⟨w, hw, by omega⟩, rfl⟩⟩
        · have hsrt : (idsN tc.nodes).Pairwise (· < ·) := by have := hMc.shp.srt; simpa using this
          have hgt := great_le hsrt
          have hxp := (hMc.shp.pos _ (mem_shs hx)).1
          have hxg := hgt x hx
          have hcc := hMc.cnt
          rw [NodeT.sh_id] at hxp
          simp [hcm, hgm, hnw', hwn]
          refine inv_p (rSplit h.toSpR tc hsc hndc hxf (by omega) ⟨hcc.1, by omega⟩ ⟨by omega, by omega⟩ hgt) rfl (by simp [pureL, V.pure, pureLL]) ?_
          rintro _ ⟨left, hl1, hl2, hl3, rfl⟩
          simp
          have hnx : ((PutL (boxK k0 = true) w n (keyedF (splitF tc x left).1) (l ++ [(splitF tc x left).2]) ∨ (n = 0 ∧ (∃ l0 s, l ++ [(splitF tc x left).2] = l0 ++ [s] ∧ s.root = true) ∧ ∃ h rk b, Mid (boxK k0 = true) (keyedF (splitF tc x left).1) 0 w.length b h rk ∧ b ≤ 513 + w.length))) ∧ (∃ h rk, Shp (shs (splitF tc x left).1.nodes) [(splitF tc x left).1.root] h rk) ∧ smallT (splitF tc x left).1 := by
            cases n with
            | zero =>
              obtain ⟨g1, h', rk', b', g2, g3⟩ := hPL1.last hx hxid (by omega) hl1 hl2 hl3 (by omega) (by omega)
              exact ⟨.inr ⟨rfl, ⟨l, _, rfl, g1⟩, h', rk', b', g2, g3⟩, ⟨h', rk', g2.unkey⟩, g2.usmall (by omega)⟩
            | succ m =>
              have g := hPL1.split hx hxid (by omega) hl1 hl2 hl3 (by omega) (by omega)
              obtain ⟨h', rk', b', g2, g3⟩ := g.mid
              exact ⟨.inl g, ⟨h', rk', g2.unkey⟩, g2.usmall (by omega)⟩
          obtain ⟨hn1', ⟨h', rk', hS'⟩, hsm'⟩ := hnx
          refine inv_p (rKeyed h.toKdR (splitF tc x left).1 hsm' hS') rfl (by simp [pureL, V.pure, pureLL]) ?_
          rintro _ rfl
          simp
          rw [hwm]
          refine ⟨by omega, n, by omega, GhostV.keep (L := [_, _, _, _]) ⟨n, nv + 3, nv + 4, keyedF (splitF tc x left).1, l ++ [(splitF tc x left).2], rfl, ⟨hn1', fun t' l' hp => hPL.2.1 t' l' (.split x left hxf' (by omega) hl1 hl2 hl3 hp), hPL.2.2.split x left _⟩, by simp; omega, by omega, rfl, by simp, by simp⟩⟩
end Go.Proofs.Ytmjnpfackanhlaa.AM

namespace Go.Proofs.Ytmjnpfackanhlaa.AM
open Go
set_option linter.unusedVariables false
set_option linter.unusedSimpArgs false
variable {P : Program}

structure WoR (P : Program) : Prop extends PuR P where
 wo : R_gazetteerref11_without P
theorem GhostV.keepN {L N M : List (Option (Nat × Obj))} {nv : Nat} {vs : List V} {K : List V → St → Prop} (hk : K vs ⟨L ++ N, nv⟩) : GhostV vs ⟨L ++ (N ++ M), nv⟩ K := by rw [← List.append_assoc]; exact GhostV.keep hk
theorem remN_snoc (l : List NodeT) (x z : NodeT) : remN (l ++ [x]) z = remN l z ++ (if x.id = z.id then [] else [if x.right = z.id then { x with right := z.right } else x]) := by
 unfold remN
 rw [List.filter_append, List.map_append]
 congr 1
 by_cases h : x.id = z.id <;> simp [h]
def WoI (L : List (Option (Nat × Obj))) (nb : Nat) (t : TreeT) (z : NodeT) (k : Nat) (v6 v7 : V) (st : St) : Prop :=
 ∃ (i nv va : Nat) (out : List NodeT), k = t.nodes.length - i ∧ i ≤ t.nodes.length ∧ v7 = .int .i64 ((i : Nat) : Int) ∧ v6 = .msl (L.length + 2) va 0 out.length ∧ out = remN (t.nodes.take i) z ∧
  st = ⟨L ++ [some (nb, .mem 3 [cTree t]), some (nb + 1, .mem 3 [zTree]), some (va, .mem 5 (out.map cNode))], nv⟩
theorem Wo_core (h : WoR P) (t : TreeT) (hs : smallT t) {z : NodeT} (hz : findN t.nodes z.id = some z) {L : List (Option (Nat × Obj))} {nv : Nat} {K : V → St → Prop}
    (hk : ∀ va nv' (b0 b1 : Option (Nat × Obj)), GhostV [.agg [.msl (L.length + 2) va 0 (remN t.nodes z).length, .int .u32 t.root, .int .u64 t.count]] ⟨L ++ [b0, b1, some (va, .mem 5 ((remN t.nodes z).map cNode))], nv'⟩ (fun vs st => K (mkres vs) st)) :
    ACalls P n_gazetteerref11_without [.agg (cTree t), .int .u32 z.id] ⟨L, nv⟩ K := by
  refine A_gazetteerref11_without h.wo ?_
  delta F_gazetteerref11_without sp sd gp gd fl fd gl
  simp
  refine inv_p (Copy_P h.toCpR t hs) rfl (by simp [pureL, V.pure, pureLL]) ?_
  rintro _ rfl
  obtain ⟨i0, hi0, hfi, hzi⟩ := findN_idx hz
  simp
  refine inv_p (rAt h.toRdR t z.id (by have := hs.1; omega)) rfl (by simp [pureL, V.pure, pureLL]) ?_
  rintro _ rfl
  rw [hfi, show idxI (some i0) = ((i0 : Nat) : Int) from rfl]
  simp [hi0, hzi]
  refine ⟨WoI L nv t z, ⟨t.nodes.length, GhostV.nilr 5 (by decide) ⟨0, nv + 3, nv + 2, [], by simp, by omega, by simp, by simp, by simp [remN], by simp⟩⟩, ?_⟩
  rintro k1 v6 v7 st ⟨i, nv1, va, out, rfl, hi, rfl, rfl, hout, rfl⟩
  have hs1 := hs.1
  have hol : out.length ≤ i := by
    rw [hout]; unfold remN; rw [List.length_map]
    refine Nat.le_trans (List.length_filter_le _ _) (by simp; omega)
  by_cases hlt : i < t.nodes.length
  · have hsn := remN_snoc (t.nodes.take i) t.nodes[i] z
    rw [← take_snoc hlt, ← hout] at hsn
    simp [hlt]
    by_cases he : t.nodes[i].id = z.id
    · rw [if_pos he, List.append_nil] at hsn
      simp [he]
      exact ⟨t.nodes.length - (i + 1), by omega, GhostV.keepN (N := [_, _, _]) ⟨i + 1, _, va, out, rfl, by omega, by rw [wadd1 (by omega)], rfl, hsn.symm, rfl⟩⟩
    · rw [if_neg he] at hsn
      simp [he]
      by_cases hr : t.nodes[i].right = z.id
      · rw [if_pos hr] at hsn
        simp [hr]
        refine ⟨by omega, t.nodes.length - (i + 1), by omega, GhostV.keepN (N := [_, _, _]) ⟨i + 1, nv1 + 3, nv1 + 2, out ++ [{ t.nodes[i] with right := z.right }], rfl, by omega, by rw [wadd1 (by omega)], by simp, hsn.symm, by simp⟩⟩
      · rw [if_neg hr] at hsn
        simp [hr]
        refine ⟨by omega, t.nodes.length - (i + 1), by omega, GhostV.keepN (N := [_, _, _]) ⟨i + 1, nv1 + 3, nv1 + 2, out ++ [t.nodes[i]], rfl, by omega, by rw [wadd1 (by omega)], by simp, hsn.symm, by simp⟩⟩
  · have hoe : out = remN t.nodes z := by rw [hout, List.take_of_length_le (by omega)]
    subst hoe
    simp [hlt]
    exact hk va nv1 _ _
theorem Wo_P (h : WoR P) (t : TreeT) (hs : smallT t) {z : NodeT} (hz : findN t.nodes z.id = some z) : PCalls P n_gazetteerref11_without [.agg (cTree t), .int .u32 z.id] (fun r => r = .agg (cTree { t with nodes := remN t.nodes z })) := by
 refine Wo_core h t hs hz (fun va nv' b0 b1 => ?_)
 refine GhostV.tree0 (t := { t with nodes := remN t.nodes z }) (by simp) rfl ?_
 exact ⟨by simp [mkres, V.pure, pureL, pureLL], rfl⟩
theorem Wo_L (h : WoR P) (t : TreeT) (hs : smallT t) {z : NodeT} (hz : findN t.nodes z.id = some z) {o0 o1 : Option (Nat × Obj)} {nv : Nat} {K : V → St → Prop}
  (hk : ∀ va nv', K (.agg [.msl 4 va 0 (remN t.nodes z).length, .int .u32 t.root, .int .u64 t.count]) ⟨[o0, o1, none, none, some (va, .mem 5 ((remN t.nodes z).map cNode))], nv'⟩) :
  ACalls P n_gazetteerref11_without [.agg (cTree t), .int .u32 z.id] ⟨[o0, o1], nv⟩ K := by
 refine Wo_core h t hs hz (fun va nv' b0 b1 => ?_)
 refine GhostV.sub (st' := ⟨[o0, o1, none, none, some (va, .mem 5 ((remN t.nodes z).map cNode))], nv'⟩) rfl (fun id x hx => ?_) (by exact hk va nv')
 match id, hx with
 | 0, hx => exact hx
 | 1, hx => exact hx
 | 2, hx => simp at hx
 | 3, hx => simp at hx
 | 4, hx => exact hx
 | id + 5, hx => simp at hx
end Go.Proofs.Ytmjnpfackanhlaa.AM

namespace Go.Proofs.Ytmjnpfackanhlaa.AM
open Go
set_option linter.unusedVariables false
set_option linter.unusedSimpArgs false
variable {P : Program}

structure TkR (P : Program) : Prop extends WoR P where
 take : R_gazetteerref11_Take P
theorem GhostV.treek {L M : List (Option (Nat × Obj))} {nv id va n : Nat} {t : TreeT} {r c : Int} {rest : List V} {K : List V → St → Prop} (ho : (L ++ M)[id]? = some (some (va, .mem 5 (t.nodes.map cNode)))) (hid : L.length ≤ id) (hn : n = t.nodes.length) (hr : r = t.root) (hc : c = t.count) (hk : K (.agg (cTree t) :: rest) ⟨L, nv⟩) :
  GhostV (.agg [.msl id va 0 n, .int .u32 r, .int .u64 c] :: rest) ⟨L ++ M, nv⟩ K := by
 subst hn hr hc
 refine GhostV.freeze (vs' := .agg (cTree t) :: rest) (st' := ⟨L, nv⟩) (id := id) (ver := va) (sz := 5) (es := t.nodes.map cNode) (by simp only [St.get]; rw [ho]; simp) rfl rfl (fun i => ?_) (fun id1 ver1 o1 hh => ?_) hk
 ·cases i with
  | zero =>
   refine .agg _ _ rfl (fun i hi => ?_)
   match i, hi with
   | 0, _ =>
    have := Frz.msl (ver := va) (sz := 5) (es := t.nodes.map cNode) id 0 t.nodes.length (by simp)
    have e3 : List.drop t.nodes.length (t.nodes.map cNode) = [] := List.drop_eq_nil_of_le (by simp)
    simpa [e3] using this
   | 1, _ => exact .refl _
   | 2, _ => exact .refl _
  | succ i => simpa using Frz.refl _
 ·simp only at hh
  have hlt := (List.getElem?_eq_some_iff.1 hh).1
  exact ⟨by omega, o1, by simp only; rw [List.getElem?_append_left hlt]; exact hh, .inl rfl⟩
abbrev TkO (va : Nat) (ns : List NodeT) (root count : Int) : List (Option (Nat × Obj)) := [some (0, .mem 3 [[.msl 4 va 0 ns.length, .int .u32 root, .int .u64 count]]), some (1, .mem 3 [zTree]), none, none, some (va, .mem 5 (ns.map cNode))]
def TkI2 (t : TreeT) (nsF : List NodeT) (k : Nat) (v6 v9 v10 : V) (st : St) : Prop :=
 ∃ (n va nv : Nat) (ns : List NodeT) (w : Int) (g : List Int) (h rk : Int → Nat), k = 14 - n ∧ n ≤ 14 ∧ v10 = .int .i64 ((n : Nat) : Int) ∧ v9 = .int .u32 w ∧ v6 = vIs g ∧ g.length ≤ n ∧ Tak ⟨ns, t.root, t.count⟩ w h rk ∧ upF (14 - n) ns w = nsF ∧ st = ⟨TkO va ns t.root t.count, nv⟩
def TkJ (t : TreeT) (nsF : List NodeT) (v : V) (st : St) : Prop := ∃ (va nv : Nat) (g : List Int), v = vIs g ∧ g.length ≤ 14 ∧ st = ⟨TkO va nsF t.root t.count, nv⟩
def TkI3 (tF : TreeT) (k : Nat) (v6 v13 : V) (st : St) : Prop :=
 ∃ (n nv : Nat) (tc : TreeT) (g : List Int) (h rk : Int → Nat), k = 14 - n ∧ n ≤ 14 ∧ v13 = .int .i64 ((n : Nat) : Int) ∧ v6 = vIs g ∧ g.length ≤ 14 + n ∧ Tak tc tc.root h rk ∧ KeysOk tc.nodes ∧ rootF (14 - n) tc = tF ∧ st = ⟨[some (0, .mem 3 [cTree tc]), some (1, .mem 3 [zTree])], nv⟩
theorem emptyG {L : List (Option (Nat × Obj))} {nv id va : Nat} {c : Int} {g : V} {K : List V → St → Prop} (ho : L[id]? = some (some (va, .mem 5 [[.int .u32 1, .bool true, .sl .nil 0 [] [], .int .u64 0, .int .u32 0]]))) (hk : K [.agg (cTree (emptyF c)), g] ⟨[], nv⟩) :
    GhostV [.agg [.msl id va 0 1, .int .u32 1, .int .u64 c], g] ⟨L, nv⟩ K := by
  refine GhostV.trans (GhostV.freeze (vs' := [.agg [.sl .unk 5 [[.int .u32 1, .bool true, .sl .nil 0 [] [], .int .u64 0, .int .u32 0]] [], .int .u32 1, .int .u64 c], g]) (st' := ⟨[], nv⟩) (K := fun vs st => vs = [.agg [.sl .unk 5 [[.int .u32 1, .bool true, .sl .nil 0 [] [], .int .u64 0, .int .u32 0]] [], .int .u32 1, .int .u64 c], g] ∧ st = ⟨[], nv⟩) (id := id) (ver := va) (sz := 5) (es := [[.int .u32 1, .bool true, .sl .nil 0 [] [], .int .u64 0, .int .u32 0]]) (by simp [St.get, ho]) rfl rfl (fun i => ?_) (fun id1 ver1 o1 hh => by simp at hh) ⟨rfl, rfl⟩) ?_
  · match i with
    | 0 =>
      refine .agg _ _ rfl (fun i hi => ?_)
      match i, hi with
      | 0, _ => exact Frz.msl (ver := va) (sz := 5) (es := [[.int .u32 1, .bool true, .sl .nil 0 [] [], .int .u64 0, .int .u32 0]]) id 0 1 (by simp)
      | 1, _ => exact .refl _
      | 2, _ => exact .refl _
    | i + 1 => exact .refl _
  · rintro _ _ ⟨rfl, rfl⟩
    refine GhostV.le (LeVs.cons (LeV.aggs (LeVs.cons (.sl .unk 5 _ [[.int .u32 1, .bool true, .sl .unk 5 [] [], .int .u64 0, .int .u32 0]] [] rfl (fun i hi => ?_) (fun i j hi => ?_)) (LeVs.refl _))) (LeVs.refl _)) hk
    · obtain rfl : i = 0 := by simpa using hi
      rfl
    · obtain rfl : i = 0 := by simpa using hi
      match j with
      | 0 => exact .refl _
      | 1 => exact .refl _
      | 2 => exact .nil 0 5
      | 3 => exact .refl _
      | 4 => exact .refl _
      | j + 5 => exact .refl _
theorem Tak.keyed {t : TreeT} {h rk : Int → Nat} (H2 : Tak t t.root h rk) : Tak (keyedF t) (keyedF t).root h rk ∧ KeysOk (keyedF t).nodes := by
 have hn := H2.nodup
 have e := keyed_shs hn
 refine ⟨⟨by rw [e]; exact H2.shp, H2.top, by rw [keyedF_nodes]; exact BoxesOk.passes 14 H2.box, by rw [e]; exact H2.ne, by rw [e]; exact H2.wid, by rw [e]; exact H2.mark, H2.cnt, by rw [e]; exact H2.rows, by rw [e]; exact H2.rpos, by rw [shs_len e]; exact H2.len, ?_⟩, ?_⟩
 ·rw [keyedF_ids]; exact H2.inn
 ·rw [keyedF_nodes]
  refine keys_ok H2.shp (fun y hy => ?_)
  have h1 := H2.shp.top_le _ (mem_shs hy)
  have h2 := H2.top
  rw [NodeT.sh_id] at h1
  omega
theorem withF_len : ∀ (l : List Int) (n : Int), (withF l n).length = l.length + 1
 | [], _ => rfl
 | x :: l, n => by
  unfold withF
  split
  ·rfl
  ·simp [withF_len l n]
theorem Tak.small {t : TreeT} {w : Int} {h rk : Int → Nat} (H : Tak t w h rk) : smallT t := ⟨by have := H.len; omega, fun x hx => by
  have := H.wid _ (mem_shs hx)
  simp only [NodeT.sh_ch, List.length_map] at this; omega⟩
set_option maxHeartbeats 2000000 in
theorem rTake (h : TkR P) (t : TreeT) (hI : Inv t) (row : Int) {ir : Nat} (hir : ir < t.nodes.length) (hfr : t.nodes.findIdx? (isRow row) = some ir) :
    PCalls P n_gazetteerref11_Take [.agg (cTree t), .int .u32 row] (fun r => ∃ g, r = .tup [.agg (cTree (takeF t t.nodes[ir] row)), vIs g]) := by
  refine A_gazetteerref11_Take h.take ?_
  delta F_gazetteerref11_Take sp sd gp gd fl fd gl
  simp [st0]
  have hnd := hI.nodup
  have hsm : smallT t := ⟨by have := hI.len; omega, fun x hx => by
    have := hI.wid _ (mem_shs hx)
    simp only [NodeT.sh_ch, List.length_map] at this; omega⟩
  have hs1 := hsm.1
  obtain ⟨x, hx⟩ : ∃ x, x = t.nodes[ir] := ⟨_, rfl⟩
  rw [← hx]
  have hxm : x ∈ t.nodes := by rw [hx]; exact List.getElem_mem hir
  have hxl : x.leaf = true := by
    obtain ⟨_, _, h3⟩ := find_of_idx hfr
    rw [← hx] at h3
    cases hl : x.leaf with
    | true => rfl
    | false => rw [isRow_in hl] at h3; cases h3
  have hxw := hsm.2 x hxm
  refine inv_f0 (Copy_L h.toCpR t hsm (fun va nv0 => ?_))
  simp
  refine inv_look (rRow h.toRdR t row (by omega) (fun y hy => by have := hsm.2 y hy; omega)) (Bors.cons (tBor (by simp [St.get]) rfl) (Bors.cons (.refl _) Bors.nil)) (by simp [pureL, V.pure, pureLL]) ?_
  rintro _ rfl
  have hrp : rowP t.nodes row = .tup [.int .i64 ((ir : Nat) : Int), .int .i64 (idxI (x.es.findIdx? (hasC row)))] := by
    unfold rowP
    rw [hfr]
    simp [hir, ← hx]
  refine ⟨by rw [hrp]; rfl, ?_⟩
  rw [hrp]
  simp [hir, ← hx]
  refine inv_p (rDrop h.toRdR x.es row (by omega)) rfl (by simp [pureL, V.pure]) ?_
  rintro _ rfl
  simp [hir, ← hx]
  obtain ⟨x', hx'⟩ : ∃ x' : NodeT, x' = { x with es := dropE x.es row } := ⟨_, rfl⟩
  have hns0 : t.nodes.set ir x' = updN t.nodes x' := set_eq_updN hnd hir (by rw [hx', ← hx])
  obtain ⟨nsF, hnsF⟩ : ∃ nsF, nsF = upF 14 (updN t.nodes x') x.id := ⟨_, rfl⟩
  have hrow0 : (List.map cNode t.nodes).set ir [.int .u32 x.id, .bool x.leaf, .sl .unk 5 (List.map cLink (dropE x.es row)) [], .int .u64 x.mark, .int .u32 x.right] = (updN t.nodes x').map cNode := by
    rw [← hns0, List.map_set, hx']; rfl
  obtain ⟨h1, rk1, hT1, hh0⟩ := take_start hI hxm hxl row
  rw [← hx'] at hT1
  rw [hrow0]
  refine ⟨TkJ t nsF, ?_, ?_⟩
  · refine ⟨TkI2 t nsF, ⟨14, GhostV.le (LeVs.cons (LeV.nil 0 1) (LeVs.refl _)) ⟨0, va, nv0, updN t.nodes x', x.id, [], h1, rk1, by simp, by omega, by simp, rfl, rfl, by simp, hT1, hnsF.symm, by simp [updN]⟩⟩, ?_⟩
    rintro k2 v6 v9 v10 st ⟨n, va2, nv2, ns, w, g, h2, rk2, rfl, hn14, rfl, rfl, rfl, hgl, hT, hF, rfl⟩
    by_cases hn : n < 14
    · have hn' : (n : Int) < 14 := by omega
      have hsmT := hT.small
      obtain ⟨y, hyf⟩ := findN_ids hT.inn
      obtain ⟨hy, hyw⟩ := findN_some hyf
      dsimp only at hyf hy
      subst hyw
      obtain ⟨iy, hiy, hfy, hyi⟩ := findN_idx hyf
      simp [hn']
      refine inv_look (rAt h.toRdR ⟨ns, t.root, t.count⟩ y.id (by have := hsmT.1; dsimp only at this ⊢; omega)) (Bors.cons (tBor (t := ⟨ns, t.root, t.count⟩) (by simp [St.get]) rfl) (Bors.cons (.refl _) Bors.nil)) (by simp [pureL, V.pure, pureLL]) ?_
      rintro _ rfl
      refine ⟨rfl, ?_⟩
      rw [hfy, show idxI (some iy) = ((iy : Nat) : Int) from rfl]
      simp
      refine inv_look (rAbove h.toRdR ⟨ns, t.root, t.count⟩ y.id (by have := hsmT.1; dsimp only at this ⊢; omega) (fun z hz => by have := hsmT.2 z hz; omega)) (Bors.cons (tBor (t := ⟨ns, t.root, t.count⟩) (by simp [St.get]) rfl) (Bors.cons (.refl _) Bors.nil)) (by simp [pureL, V.pure, pureLL]) ?_
      rintro _ rfl
      refine ⟨rfl, ?_⟩
      obtain ⟨m, hm⟩ : ∃ m, 14 - n = m + 1 := ⟨13 - n, by omega⟩
      have hm' : m = 14 - (n + 1) := by omega
      rw [hm, upF, hyf] at hF
      have hy0 : 0 < y.es.length ↔ y.es ≠ [] := List.length_pos_iff
      cases hab : aboveN ns y.id with
      | none =>
        rw [hab] at hF
        dsimp only at hF
        have hix : ns.findIdx? (isUp y.id) = none := by
          rw [List.findIdx?_eq_none_iff]
          intro z hz
          have := List.find?_eq_none.1 hab z hz
          simpa [isUp] using this
        rw [hix, show idxI none = (-1 : Int) from rfl]
        simp [hiy, hyi]
        by_cases he : 0 < y.es.length
        · simp [he]
          exact GhostV.refl ⟨va2, nv2, g, rfl, by omega, by rw [hF]⟩
        · simp [he]
          exact GhostV.refl ⟨va2, nv2, g, rfl, by omega, by rw [hF]⟩
      | some p =>
        rw [hab] at hF
        dsimp only at hF
        obtain ⟨ip, hip, hix, hpe⟩ := find_idx_some (p := isUp y.id) hab
        obtain ⟨hp, hpk⟩ := aboveN_some hab
        have hip0 : ¬ ((ip : Nat) : Int) < 0 := by omega
        have hpw := hsmT.2 p hp
        rw [hix, show idxI (some ip) = ((ip : Nat) : Int) from rfl]
        simp [hiy, hyi]
        by_cases he : 0 < y.es.length
        · rw [if_neg (hy0.1 he)] at hF
          simp [he]
          exact GhostV.refl ⟨va2, nv2, g, rfl, by omega, by rw [hF]⟩
        · have hye : y.es = [] := by
            cases hq : y.es with
            | nil => rfl
            | cons a b => rw [hq] at he; simp at he
          rw [if_pos hye] at hF
          simp [he, hip0, hip, hpe]
          refine inv_p (rDrop h.toRdR p.es y.id (by omega)) rfl (by simp [pureL, V.pure]) ?_
          rintro _ rfl
          obtain ⟨p', hp'⟩ : ∃ p' : NodeT, p' = { p with es := dropE p.es y.id } := ⟨_, rfl⟩
          have hndn : (idsN ns).Nodup := hT.nodup
          have hrowp : (List.map cNode ns).set ip [.int .u32 p.id, .bool p.leaf, .sl .unk 5 (List.map cLink (dropE p.es y.id)) [], .int .u64 p.mark, .int .u32 p.right] = (updN ns p').map cNode := by
            rw [← set_eq_updN hndn hip (by rw [hp', hpe]), List.map_set, hp']; rfl
          simp [hip, hpe]
          rw [hrowp]
          refine inv_p (rWith h.toRdR g y.id (by omega)) rfl (by simp [pureL, V.pure]) ?_
          rintro _ rfl
          simp
          obtain ⟨hT2, hh2⟩ := hT.step hy hye hp hpk
          rw [← hp'] at hF hT2
          have hpy : y.id ≠ p.id := fun e => by rw [e] at hh2; omega
          have hyf2 : findN (updN ns p') y.id = some y := by rw [findN_updN (by rw [hp']; exact hpy)]; exact hyf
          have hsm2 : smallT ⟨updN ns p', t.root, t.count⟩ := ⟨by have := hsmT.1; simpa [updN] using this, fun z hz => by
            dsimp only at hz
            rcases mem_updN hz with rfl | ⟨hz, _⟩
            · have := dropE_len p.es y.id
              rw [hp']; dsimp only; omega
            · exact hsmT.2 z hz⟩
          refine inv_f0 (ACalls.gv (Wo_P h.toWoR ⟨updN ns p', t.root, t.count⟩ hsm2 hyf2).1 (GhostV.treek (L := [some (0, .mem 3 [[.msl 4 va2 0 ns.length, .int .u32 t.root, .int .u64 t.count]]), some (1, .mem 3 [zTree])]) (M := [none, none, some (va2, .mem 5 ((updN ns p').map cNode))]) (t := ⟨updN ns p', t.root, t.count⟩) (by simp) (by simp) (by simp [updN]) rfl rfl ?_))
          refine Wo_L h.toWoR ⟨updN ns p', t.root, t.count⟩ hsm2 hyf2 (fun va3 nv3 => ?_)
          simp
          rw [wadd1 (by omega)]
          exact ⟨14 - (n + 1), by omega, GhostV.refl ⟨n + 1, va3, nv3, remN (updN ns p') y, p.id, withF g y.id, h2, rk2, rfl, by omega, rfl, rfl, rfl, by rw [withF_len]; omega, hT2, by rw [← hm']; exact hF, rfl⟩⟩
    · obtain rfl : n = 14 := by omega
      have hF' : ns = nsF := hF
      simp
      exact GhostV.refl ⟨va2, nv2, g, rfl, by omega, by rw [hF']⟩
  rintro v6 st ⟨va3, nv3, g, rfl, hgl, rfl⟩
  have hU := upF_ok 14 hT1 (by have := hT1.top; dsimp only at this ⊢; omega)
  dsimp only at hU
  rw [← hnsF] at hU
  obtain ⟨tU, htU⟩ : ∃ tU : TreeT, tU = ⟨nsF, t.root, t.count⟩ := ⟨_, rfl⟩
  have hU' : Tak tU tU.root h1 rk1 := by rw [htU]; exact hU
  obtain ⟨hK1, hK2⟩ := hU'.keyed
  have htF : takeF t x row = rootF 14 (keyedF tU) := by
    unfold takeF
    rw [← hx', ← hnsF, htU]
  simp
  have hKy := rKeyed h.toKdR tU hU'.small hU'.shp
  refine inv_f0 (ACalls.gv hKy.1 (GhostV.treek (L := [some (0, .mem 3 [[.msl 4 va3 0 nsF.length, .int .u32 t.root, .int .u64 t.count]]), some (1, .mem 3 [zTree])]) (M := [none, none, some (va3, .mem 5 (nsF.map cNode))]) (t := tU) (by rw [htU]; simp) (by simp) (by rw [htU]) (by rw [htU]) (by rw [htU]) ?_))
  refine hKy.at (by simp [pureL, V.pure, pureLL]) ?_
  rintro _ rfl
  simp
  refine ⟨TkI3 (takeF t x row), ⟨14, GhostV.refl ⟨0, nv3, keyedF tU, g, h1, rk1, by omega, by omega, by simp, rfl, by omega, hK1, hK2, htF.symm, by simp⟩⟩, ?_⟩
  rintro k3 v6 v13 st ⟨n, nv4, tc, g4, h4, rk4, rfl, hn14, rfl, rfl, hg4, hT, hKc, hF, rfl⟩
  have hsc := hT.small
  have hsc1 := hsc.1
  by_cases hn : n < 14
  · have hn' : (n : Int) < 14 := by omega
    obtain ⟨y, hyf⟩ := findN_ids hT.inn
    obtain ⟨hy, hyr⟩ := findN_some hyf
    obtain ⟨iy, hiy, hfy, hyi⟩ := findN_idx hyf
    have hyw := hsc.2 y hy
    obtain ⟨m, hm⟩ : ∃ m, 14 - n = m + 1 := ⟨13 - n, by omega⟩
    have hm' : m = 14 - (n + 1) := by omega
    rw [hm, rootF, hyf] at hF
    dsimp only at hF
    simp [hn']
    refine inv_p (rAt h.toRdR tc tc.root (by omega)) rfl (by simp [pureL, V.pure, pureLL]) ?_
    rintro _ rfl
    rw [hfy, show idxI (some iy) = ((iy : Nat) : Int) from rfl]
    simp [hiy, hyi]
    by_cases hc : y.leaf = true ∨ 1 < y.es.length
    · rw [if_pos hc] at hF
      have hfin : GhostV [.agg [vNs tc.nodes, .int .u32 tc.root, .int .u64 tc.count], vIs g4] ⟨[some (0, .mem 3 [cTree tc]), some (1, .mem 3 [cTree tc]), some (nv4, .mem 5 [cNode y])], nv4 + 1⟩ (fun vs st => (mkres vs).pure = true ∧ ∃ g, mkres vs = .tup [.agg (cTree (takeF t x row)), vIs g]) :=
        GhostV.refl ⟨by simp [mkres, V.pure, pureL, pureLL], g4, by rw [← hF]; rfl⟩
      cases hyl : y.leaf
      · have h1y : 1 < y.es.length := by
          rcases hc with hc | hc
          · rw [hyl] at hc; cases hc
          · exact hc
        have h1z : (1 : Int) < y.es.length := by omega
        simp [h1z]
        simpa [hyl] using hfin
      · simp
        simpa [hyl] using hfin
    · rw [if_neg hc] at hF
      have hyl : y.leaf = false := by
        cases e : y.leaf with
        | false => rfl
        | true => exact absurd (.inl e) hc
      have h1y : ¬ 1 < y.es.length := fun e => hc (.inr e)
      have h1z : ¬ (1 : Int) < y.es.length := by omega
      simp [hyl, h1z]
      refine inv_p (rWith h.toRdR g4 y.id (by omega)) rfl (by simp [pureL, V.pure]) ?_
      rintro _ rfl
      cases hye : y.es with
      | nil =>
        rw [hye] at hF
        dsimp only at hF
        simp [hye]
        refine emptyG (by simp) ?_
        exact ⟨by simp [mkres, V.pure, pureL, pureLL, emptyF], withF g4 y.id, by rw [← hF]; rfl⟩
      | cons e l =>
        have hl0 : l = [] := by
          cases l with
          | nil => rfl
          | cons e2 l => rw [hye] at h1y; simp at h1y
        subst hl0
        rw [hye] at hF
        dsimp only at hF
        simp [hye]
        have hyf' : findN tc.nodes y.id = some y := by rw [hyr]; exact hyf
        refine inv_p (Wo_P h.toWoR tc hsc hyf') rfl (by simp [pureL, V.pure, pureLL]) ?_
        rintro _ rfl
        simp
        rw [wadd1 (by omega)]
        obtain ⟨k1, k2, k3⟩ := hT.shrink hKc hy hyr hyl hye
        exact ⟨14 - (n + 1), by omega, GhostV.keep (L := [_, _]) ⟨n + 1, nv4 + 1, ⟨remN tc.nodes y, e.child, tc.count⟩, withF g4 y.id, h4, rk4, rfl, by omega, rfl, rfl, by rw [withF_len]; omega, k1, k2, by rw [← hm']; exact hF, rfl⟩⟩
  · obtain rfl : n = 14 := by omega
    have hF' : tc = takeF t x row := hF
    simp
    exact GhostV.refl ⟨by simp [mkres, V.pure, pureL, pureLL], g4, by rw [← hF']; rfl⟩
end Go.Proofs.Ytmjnpfackanhlaa.AM

namespace Go.Proofs.Ytmjnpfackanhlaa.AM
open Go
set_option linter.unusedVariables false
set_option linter.unusedSimpArgs false
variable {P : Program}

structure PlR (P : Program) : Prop extends TkR P where
 walk : R_tree_grove_walk P
 plant : R_tree_plant P
 check : R_tree_Check P
 clone : R_slices_Clone_Link_Link P
def eM (l : List (Int × V)) : List (V × V) := l.map (fun p => (.int .u32 p.1, p.2))
theorem eM_none {x : Int} : ∀ {l : List (Int × V)} {i : Nat}, l.find? (fun p => decide (p.1 = x)) = none → mfind (.one .int) (.int .u32 x) (eM l) i = some none
  | [], i, _ => rfl
  | p :: l, i, h => by
    rw [List.find?_cons] at h
    by_cases e : p.1 = x
    · simp [e] at h
    · have h2 : l.find? (fun p => decide (p.1 = x)) = none := by simpa [e] using h
      have : keyEq (.one .int) (.int .u32 x) (.int .u32 p.1) = some false := by simp [keyEq, eqL]; exact fun e2 => e e2.symm
      have ih := eM_none (i := i + 1) h2
      simp only [eM, List.map_cons, mfind, this] at ih ⊢
      exact ih
theorem eM_some {x : Int} {q : Int × V} : ∀ {l : List (Int × V)} {i : Nat}, l.find? (fun p => decide (p.1 = x)) = some q → ∃ j, mfind (.one .int) (.int .u32 x) (eM l) i = some (some (j, q.2))
  | [], i, h => by simp at h
  | p :: l, i, h => by
    rw [List.find?_cons] at h
    by_cases e : p.1 = x
    · simp [e] at h
      subst h
      have : keyEq (.one .int) (.int .u32 x) (.int .u32 p.1) = some true := by simp [keyEq, eqL, e]
      exact ⟨i, by simp only [eM, List.map_cons, mfind, this]⟩
    · have h2 : l.find? (fun p => decide (p.1 = x)) = some q := by simpa [e] using h
      have : keyEq (.one .int) (.int .u32 x) (.int .u32 p.1) = some false := by simp [keyEq, eqL]; exact fun e2 => e e2.symm
      obtain ⟨j, hj⟩ := eM_some (i := i + 1) h2
      exact ⟨j, by simp only [eM, List.map_cons, mfind, this] at hj ⊢; exact hj⟩
def nodeE (b : Nat) : List NodeT → List Nat → List (Int × V)
 | x :: ns, v :: vs => (x.id, .ptr b v 0 0) :: nodeE (b + 1) ns vs
 | _, _ => []
theorem nodeE_none {id : Int} : ∀ {ns : List NodeT} {b : Nat} {vs : List Nat}, findN ns id = none → (nodeE b ns vs).find? (fun p => decide (p.1 = id)) = none
  | [], b, vs, _ => by simp [nodeE]
  | x :: ns, b, [], _ => by simp [nodeE]
  | x :: ns, b, v :: vs, h => by
    unfold findN at h
    rw [List.find?_cons] at h
    by_cases e : x.id = id
    · simp [e] at h
    · have h2 : findN ns id = none := by unfold findN; simpa [e] using h
      rw [nodeE, List.find?_cons]
      simp only [e, decide_false]
      exact nodeE_none h2
theorem nodeE_some {id : Int} {x : NodeT} : ∀ {ns : List NodeT} {b : Nat} {vs : List Nat}, vs.length = ns.length → findN ns id = some x → ∃ j v, ∃ h : j < ns.length, ns[j] = x ∧ vs[j]? = some v ∧ (nodeE b ns vs).find? (fun p => decide (p.1 = id)) = some (id, .ptr (b + j) v 0 0)
  | [], b, vs, _, h => by simp [findN] at h
  | y :: ns, b, [], hl, h => by simp at hl
  | y :: ns, b, v :: vs, hl, h => by
    unfold findN at h
    rw [List.find?_cons] at h
    by_cases e : y.id = id
    · simp [e] at h
      subst h
      exact ⟨0, v, by simp, rfl, rfl, by simp [nodeE, e]⟩
    · have h2 : findN ns id = some x := by unfold findN; simpa [e] using h
      obtain ⟨j, w, hj, h3, h4, h5⟩ := nodeE_some (b := b + 1) (vs := vs) (by simpa using hl) h2
      refine ⟨j + 1, w, by simp; omega, by simpa using h3, by simpa using h4, ?_⟩
      rw [nodeE, List.find?_cons]
      simp only [e, decide_false]
      rw [h5]
      congr 3; omega
theorem nodeE_snoc : ∀ {ns : List NodeT} {b : Nat} {vs : List Nat} {x : NodeT} {v : Nat}, vs.length = ns.length → nodeE b (ns ++ [x]) (vs ++ [v]) = nodeE b ns vs ++ [(x.id, .ptr (b + ns.length) v 0 0)]
 | [], b, [], x, v, _ => by simp [nodeE]
 | [], b, _ :: _, x, v, h => by simp at h
 | y :: ns, b, [], x, v, h => by simp at h
 | y :: ns, b, w :: vs, x, v, h => by
  have e : b + 1 + ns.length = b + (y :: ns).length := by rw [List.length_cons]; omega
  rw [List.cons_append, List.cons_append, nodeE, nodeE, nodeE_snoc (by simpa using h), List.cons_append, e]
def lvE (lv : List (Int × Nat)) : List (Int × V) := lv.map (fun p => (p.1, .int .i64 ((p.2 : Nat) : Int)))
def roE (rows : List Int) : List (Int × V) := rows.map (fun r => (r, .bool true))
theorem lvE_find (id : Int) (lv : List (Int × Nat)) : (lvE lv).find? (fun p => decide (p.1 = id)) = (lv.find? (fun p => decide (p.1 = id))).map (fun p => (p.1, .int .i64 ((p.2 : Nat) : Int))) := by
 unfold lvE
 rw [List.find?_map]
 rfl
theorem roE_none {r : Int} {rows : List Int} (h : ¬ r ∈ rows) : (roE rows).find? (fun p => decide (p.1 = r)) = none := by
 rw [List.find?_eq_none]
 intro p hp
 obtain ⟨q, hq, rfl⟩ := List.mem_map.1 hp
 simp only [decide_eq_true_eq]
 exact fun e => h (by rw [← e]; exact hq)
theorem roE_some {r : Int} {rows : List Int} (h : r ∈ rows) : ∃ q, (roE rows).find? (fun p => decide (p.1 = r)) = some (q, .bool true) := by
 cases hf : (roE rows).find? (fun p => decide (p.1 = r)) with
 | none =>
  have := List.find?_eq_none.1 hf (r, .bool true) (List.mem_map.2 ⟨r, h, rfl⟩)
  simp at this
 | some p =>
  obtain ⟨q, hq, rfl⟩ := List.mem_map.1 (List.mem_of_find?_eq_some hf)
  exact ⟨q, rfl⟩
structure GvSt (b : Nat) (t : TreeT) (v1 v2 v3 v5 v6 : Nat) (most : Int) (vs : List Nat) (A : List (Option (Nat × Obj))) (s : WSt) : Prop where
 vl : vs.length = t.nodes.length
 nm : ∃ ep, A[b + 1]? = some (some (v1, .map ep (eM (nodeE (b + 4) t.nodes vs))))
 lm : ∃ ep, A[b + 2]? = some (some (v2, .map ep (eM (lvE s.lv))))
 gv : A[b + 3]? = some (some (v3, .mem 5 [[.map (b + 1) v1, .map (b + 2) v2, .int .u32 t.root, .int .u64 t.count, .int .u32 most]]))
 nd : ∀ i (h : i < t.nodes.length) v, vs[i]? = some v → A[b + 4 + i]? = some (some (v, .mem 5 [cNode t.nodes[i]]))
 rm : ∃ ep, A[b + 4 + t.nodes.length]? = some (some (v5, .map ep (eM (roE s.rows))))
 dp : A[b + 5 + t.nodes.length]? = some (some (v6, .mem 1 [[.int .i64 ((s.depth : Nat) : Int)]]))
 lp : ∀ p ∈ s.lv, p.2 ≠ 0
def GvK (b n : Nat) (A A' : List (Option (Nat × Obj))) : Prop := A.length ≤ A'.length ∧ ∀ id, id < A.length → id ≠ b + 2 → id ≠ b + 4 + n → id ≠ b + 5 + n → A'[id]? = A[id]?
theorem GvK.refl (b n : Nat) (A : List (Option (Nat × Obj))) : GvK b n A A := ⟨Nat.le_refl _, fun _ _ _ _ _ => rfl⟩
theorem GvK.trans {b n : Nat} {A B C : List (Option (Nat × Obj))} (h : GvK b n A B) (k : GvK b n B C) : GvK b n A C := ⟨Nat.le_trans h.1 k.1, fun id h1 h2 h3 h4 => (k.2 id (Nat.lt_of_lt_of_le h1 h.1) h2 h3 h4).trans (h.2 id h1 h2 h3 h4)⟩
theorem GvK.app (b n : Nat) (A M : List (Option (Nat × Obj))) : GvK b n A (A ++ M) := ⟨by simp, fun id hid _ _ _ => List.getElem?_append_left hid⟩
theorem GvK.set {b n : Nat} {A B : List (Option (Nat × Obj))} (h : GvK b n A B) {i : Nat} (hi : i = b + 2 ∨ i = b + 4 + n ∨ i = b + 5 + n) (x : Option (Nat × Obj)) : GvK b n A (B.set i x) := ⟨by simpa using h.1, fun id h1 h2 h3 h4 => by rw [List.getElem?_set_ne (by omega)]; exact h.2 id h1 h2 h3 h4⟩
end Go.Proofs.Ytmjnpfackanhlaa.AM

namespace Go.Proofs.Ytmjnpfackanhlaa.AM
open Go
set_option linter.unusedVariables false
set_option linter.unusedSimpArgs false
variable {P : Program}

def WalkK (b : Nat) (t : TreeT) (v1 v2 v3 v5 v6 : Nat) (most : Int) (vs : List Nat) (A : List (Option (Nat × Obj))) (r : Option WSt) (K : V → St → Prop) : Prop :=
 match r with
 | none => ∀ A' nv', GvK b t.nodes.length A A' → K (.bool false) ⟨A', nv'⟩
 | some s' => ∀ A' nv', GvSt b t v1 v2 v3 v5 v6 most vs A' s' → GvK b t.nodes.length A A' → K (.bool true) ⟨A', nv'⟩
theorem GvSt.setD {b : Nat} {t : TreeT} {v1 v2 v3 v5 v6 : Nat} {most : Int} {vs : List Nat} {A : List (Option (Nat × Obj))} {s : WSt} (h : GvSt b t v1 v2 v3 v5 v6 most vs A s) (d : Nat) : GvSt b t v1 v2 v3 v5 v6 most vs (A.set (b + 5 + t.nodes.length) (some (v6, .mem 1 [[.int .i64 ((d : Nat) : Int)]]))) ⟨s.lv, d, s.rows⟩ := by
 refine ⟨h.vl, ?_, ?_, ?_, fun i hi v hv => ?_, ?_, ?_, h.lp⟩
 ·rw [List.getElem?_set_ne (by omega)]; exact h.nm
 ·rw [List.getElem?_set_ne (by omega)]; exact h.lm
 ·rw [List.getElem?_set_ne (by omega)]; exact h.gv
 ·rw [List.getElem?_set_ne (by omega)]; exact h.nd i hi v hv
 ·rw [List.getElem?_set_ne (by omega)]; exact h.rm
 ·rw [List.getElem?_set_self (List.getElem?_eq_some_iff.1 h.dp).1]
theorem GvSt.setR {b : Nat} {t : TreeT} {v1 v2 v3 v5 v6 : Nat} {most : Int} {vs : List Nat} {A : List (Option (Nat × Obj))} {s : WSt} (h : GvSt b t v1 v2 v3 v5 v6 most vs A s) (r : Int) (ep : Nat) : GvSt b t v1 v2 v3 v5 v6 most vs (A.set (b + 4 + t.nodes.length) (some (v5, .map ep (eM (roE (s.rows ++ [r])))))) ⟨s.lv, s.depth, s.rows ++ [r]⟩ := by
 refine ⟨h.vl, ?_, ?_, ?_, fun i hi v hv => ?_, ⟨ep, ?_⟩, ?_, h.lp⟩
 ·rw [List.getElem?_set_ne (by omega)]; exact h.nm
 ·rw [List.getElem?_set_ne (by omega)]; exact h.lm
 ·rw [List.getElem?_set_ne (by omega)]; exact h.gv
 ·rw [List.getElem?_set_ne (by omega)]; exact h.nd i hi v hv
 ·obtain ⟨e, he⟩ := h.rm
  rw [List.getElem?_set_self (List.getElem?_eq_some_iff.1 he).1]
 ·rw [List.getElem?_set_ne (by omega)]; exact h.dp
theorem GvSt.app {b : Nat} {t : TreeT} {v1 v2 v3 v5 v6 : Nat} {most : Int} {vs : List Nat} {A : List (Option (Nat × Obj))} {s : WSt} (h : GvSt b t v1 v2 v3 v5 v6 most vs A s) (M : List (Option (Nat × Obj))) : GvSt b t v1 v2 v3 v5 v6 most vs (A ++ M) s := by
 have up : ∀ {i : Nat} {x : Option (Nat × Obj)}, A[i]? = some x → (A ++ M)[i]? = some x := fun {i x} e => by rw [List.getElem?_append_left (List.getElem?_eq_some_iff.1 e).1]; exact e
 obtain ⟨e1, h1⟩ := h.nm
 obtain ⟨e2, h2⟩ := h.lm
 obtain ⟨e3, h3⟩ := h.rm
 exact ⟨h.vl, ⟨e1, up h1⟩, ⟨e2, up h2⟩, up h.gv, fun i hi v hv => up (h.nd i hi v hv), ⟨e3, up h3⟩, up h.dp, h.lp⟩
def NoJ (st : St) : Prop := False
def WkJ (b : Nat) (t : TreeT) (v1 v2 v3 v5 v6 : Nat) (most : Int) (vs : List Nat) (A : List (Option (Nat × Obj))) (s' : WSt) (st : St) : Prop := ∃ A4 nv4, GvSt b t v1 v2 v3 v5 v6 most vs A4 s' ∧ GvK b t.nodes.length A A4 ∧ st = ⟨A4, nv4⟩
def WkJ3 (L : List (Option (Nat × Obj))) (b : Bool) (v : V) (st : St) : Prop := ∃ nv, v = .bool b ∧ st = ⟨L, nv⟩
theorem lv_look (id : Int) (lv : List (Int × Nat)) (hp : ∀ p ∈ lv, p.2 ≠ 0) : (lvOf lv id = 0 ∧ mfind (.one .int) (.int .u32 id) (eM (lvE lv)) 0 = some none) ∨ (lvOf lv id ≠ 0 ∧ ∃ j, mfind (.one .int) (.int .u32 id) (eM (lvE lv)) 0 = some (some (j, .int .i64 ((lvOf lv id : Nat) : Int)))) := by
 have hf := lvE_find id lv
 cases h : lv.find? (fun p => decide (p.1 = id)) with
 | none =>
  rw [h] at hf
  exact .inl ⟨by simp [lvOf, h], eM_none hf⟩
 | some p =>
  rw [h] at hf
  obtain ⟨j, hj⟩ := eM_some (i := 0) hf
  have hl : lvOf lv id = p.2 := by simp [lvOf, h]
  exact .inr ⟨by rw [hl]; exact hp p (List.mem_of_find?_eq_some h), j, by rw [hj, hl]⟩
def WkI (b : Nat) (t : TreeT) (v1 v2 v3 v5 v6 : Nat) (most : Int) (vs : List Nat) (A : List (Option (Nat × Obj))) (rec : Int → WSt → Option WSt) (x : NodeT) (R : Option WSt) (k : Nat) (v : V) (st : St) : Prop :=
 ∃ (i nv : Nat) (A1 : List (Option (Nat × Obj))) (s1 : WSt), k = x.es.length - i ∧ i ≤ x.es.length ∧ v = .int .i64 ((i : Nat) : Int) ∧ GvSt b t v1 v2 v3 v5 v6 most vs A1 s1 ∧ GvK b t.nodes.length A A1 ∧ entsF t.nodes rec x (x.es.drop i) s1 = R ∧ st = ⟨A1, nv⟩
set_option maxHeartbeats 2000000 in
theorem Walk_N (h : PlR P) (t : TreeT) (hs : smallT t) {b v1 v2 v3 v5 v6 : Nat} {most : Int} {vs : List Nat} : ∀ (f : Nat) (id : Int) (level : Nat) (s : WSt) (A : List (Option (Nat × Obj))) (nv : Nat) (K : V → St → Prop), level + f = 13 → 0 < level →
    GvSt b t v1 v2 v3 v5 v6 most vs A s → WalkK b t v1 v2 v3 v5 v6 most vs A (walkF t.nodes t.root f id level s) K →
    ACalls P n_tree_grove_walk [.ptr (b + 3) v3 0 0, .int .u32 id, .int .i64 ((level : Nat) : Int), .ptr (b + 5 + t.nodes.length) v6 0 0, .map (b + 4 + t.nodes.length) v5] ⟨A, nv⟩ K := by
  intro f
  induction f with
  | zero =>
    intro id level s A nv K hf h0 hG hK
    refine A_tree_grove_walk h.walk ?_
    delta F_tree_grove_walk sp sd gp gd fl fd gl
    obtain ⟨ep1, hnm⟩ := hG.nm
    simp [hG.gv, hnm]
    cases hfx : findN t.nodes id with
    | none =>
      rw [eM_none (nodeE_none hfx)]
      simp [eqsV]
      refine GhostV.refl ?_
      exact hK _ _ (GvK.refl _ _ _)
    | some x =>
      obtain ⟨j, v, hj, hxj, hvj, hfd⟩ := nodeE_some (b := b + 4) hG.vl hfx
      obtain ⟨j', hm⟩ := eM_some (i := 0) hfd
      rw [hm]
      have hl : (12 : Int) < ((level : Nat) : Int) := by omega
      simp [hl, eqsV]
      refine GhostV.refl ?_
      exact hK _ _ (GvK.refl _ _ _)
  | succ f ih =>
    intro id level s A nv K hf h0 hG hK
    refine A_tree_grove_walk h.walk ?_
    delta F_tree_grove_walk sp sd gp gd fl fd gl
    obtain ⟨ep1, hnm⟩ := hG.nm
    simp [hG.gv, hnm]
    cases hfx : findN t.nodes id with
    | none =>
      rw [eM_none (nodeE_none hfx)]
      rw [walkF, hfx] at hK
      simp [eqsV]
      refine GhostV.refl ?_
      exact hK _ _ (GvK.refl _ _ _)
    | some x =>
      obtain ⟨j, v, hj, hxj, hvj, hfd⟩ := nodeE_some (b := b + 4) hG.vl hfx
      obtain ⟨j', hm⟩ := eM_some (i := 0) hfd
      rw [hm]
      have hl : ¬ (12 : Int) < ((level : Nat) : Int) := by omega
      rw [walkF, hfx] at hK
      dsimp only at hK
      obtain ⟨ep2, hlm⟩ := hG.lm
      simp [hl, hG.gv, hlm, eqsV]
      rcases lv_look id s.lv hG.lp with ⟨hl0, hml⟩ | ⟨hl0, j2, hml⟩
      · rw [if_neg (by simp [hl0])] at hK
        rw [hml]
        simp [hG.gv, hlm, hml]
        have he : eM (lvE s.lv) ++ [(V.int IntKind.u32 id, V.int IntKind.i64 ((level : Nat) : Int))] = eM (lvE (s.lv ++ [(id, level)])) := by simp [eM, lvE]
        rw [he]
        obtain ⟨A2, hA2⟩ : ∃ A2, A2 = A.set (b + 2) (some (v2, .map nv (eM (lvE (s.lv ++ [(id, level)]))))) := ⟨_, rfl⟩
        rw [← hA2]
        have h2l := (List.getElem?_eq_some_iff.1 hlm).1
        have hG2 : GvSt b t v1 v2 v3 v5 v6 most vs A2 ⟨s.lv ++ [(id, level)], s.depth, s.rows⟩ := by
          rw [hA2]
          refine ⟨hG.vl, ?_, ⟨nv, List.getElem?_set_self h2l⟩, ?_, fun i hi v hv => ?_, ?_, ?_, fun p hp => ?_⟩
          · rw [List.getElem?_set_ne (by omega)]; exact hG.nm
          · rw [List.getElem?_set_ne (by omega)]; exact hG.gv
          · rw [List.getElem?_set_ne (by omega)]; exact hG.nd i hi v hv
          · rw [List.getElem?_set_ne (by omega)]; exact hG.rm
          · rw [List.getElem?_set_ne (by omega)]; exact hG.dp
          · rcases List.mem_append.1 hp with hp | hp
            · exact hG.lp p hp
            · rw [List.mem_singleton.1 hp]; dsimp only; omega
        have hK2 : GvK b t.nodes.length A A2 := by rw [hA2]; exact (GvK.refl _ _ _).set (.inl rfl) _
        have hnd := hG2.nd j hj v hvj
        rw [hxj] at hnd
        have hxw := hs.2 x (findN_some hfx).1
        simp [hnd]
        by_cases hes : x.es = []
        · rw [if_pos hes] at hK
          simp [hes, hG2.dp]
          have hG3 := hG2.setD level
          have hK3 : GvK b t.nodes.length A (A2.set (b + 5 + t.nodes.length) (some (v6, .mem 1 [[.int .i64 ((level : Nat) : Int)]]))) := hK2.set (.inr (.inr rfl)) _
          obtain ⟨A3, hA3⟩ : ∃ A3, A3 = A2.set (b + 5 + t.nodes.length) (some (v6, .mem 1 [[.int .i64 ((level : Nat) : Int)]])) := ⟨_, rfl⟩
          rw [← hA3] at hG3 hK3 ⊢
          have hnd3 := hG3.nd j hj v hvj
          rw [hxj] at hnd3
          simp [hnd3, hG3.gv]
          cases hxl : x.leaf
          · rw [if_neg (by simp [hxl])] at hK
            simp
            refine GhostV.refl ?_
            exact hK _ _ hK3
          · simp [hG3.gv]
            by_cases hr : id = t.root
            · rw [if_pos ⟨hxl, hr⟩] at hK
              simp [hr]
              refine GhostV.refl ?_
              exact hK _ _ hG3 hK3
            · rw [if_neg (by simp [hr])] at hK
              simp [hr]
              refine GhostV.refl ?_
              exact hK _ _ hK3
        · rw [if_neg hes] at hK
          simp [hes]
          by_cases hbad : x.leaf = true ∧ s.depth ≠ 0 ∧ s.depth ≠ level
          · rw [if_pos hbad] at hK
            obtain ⟨hxl, hd1, hd2⟩ := hbad
            have hd1' : ¬ ((s.depth : Nat) : Int) = 0 := by omega
            have hd2' : ¬ ((s.depth : Nat) : Int) = ((level : Nat) : Int) := by omega
            refine ⟨NoJ, ?_, fun st h => h.elim⟩
            simp [hnd, hxl, hG2.dp, hd1, hd2]
            refine GhostV.refl ?_
            exact hK _ _ hK2
          · rw [if_neg hbad] at hK
            refine ⟨WkJ b t v1 v2 v3 v5 v6 most vs A ⟨s.lv ++ [(id, level)], if x.leaf = true then level else s.depth, s.rows⟩, ?_, ?_⟩
            · simp [hnd]
              cases hxl : x.leaf
              · simp
                exact GhostV.refl ⟨A2, _, by simpa [hxl] using hG2, hK2, rfl⟩
              · have hG3 := hG2.setD level
                have hK3 : GvK b t.nodes.length A (A2.set (b + 5 + t.nodes.length) (some (v6, .mem 1 [[.int .i64 ((level : Nat) : Int)]]))) := hK2.set (.inr (.inr rfl)) _
                by_cases hd1 : s.depth = 0
                · simp [hG2.dp, hd1]
                  exact GhostV.refl ⟨_, _, by simpa [hxl] using hG3, hK3, rfl⟩
                · have hd2 : s.depth = level := by
                    by_cases e : s.depth = level
                    · exact e
                    · exact absurd ⟨hxl, hd1, e⟩ hbad
                  have hlv0 : ¬ level = 0 := by omega
                  simp [hG2.dp, hd1, hd2, hlv0]
                  exact GhostV.refl ⟨_, _, by simpa [hxl] using hG3, hK3, rfl⟩
            rintro st ⟨A4, nv4, hG4, hK4, rfl⟩
            have hnd4 := hG4.nd j hj v hvj
            rw [hxj] at hnd4
            simp [hnd4]
            obtain ⟨R, hR⟩ : ∃ R, R = entsF t.nodes (fun c s => walkF t.nodes t.root f c (level + 1) s) x x.es ⟨s.lv ++ [(id, level)], if x.leaf = true then level else s.depth, s.rows⟩ := ⟨_, rfl⟩
            rw [← hR] at hK
            refine ⟨WkI b t v1 v2 v3 v5 v6 most vs A (fun c s => walkF t.nodes t.root f c (level + 1) s) x R, ⟨x.es.length, GhostV.refl ⟨0, nv4, A4, _, by simp, by omega, by simp, hG4, hK4, by rw [List.drop_zero]; exact hR.symm, rfl⟩⟩, ?_⟩
            clear hG4 hK4 hnd4
            rintro k1 v87 st ⟨i, nv5, A5, s5, rfl, hi, rfl, hG5, hK5, hR5, rfl⟩
            have hnd5 := hG5.nd j hj v hvj
            rw [hxj] at hnd5
            by_cases hlt : i < x.es.length
            · obtain ⟨e, he⟩ : ∃ e, e = x.es[i] := ⟨_, rfl⟩
              have hde : x.es.drop i = e :: x.es.drop (i + 1) := by rw [he]; exact List.drop_eq_getElem_cons hlt
              rw [hde, entsF] at hR5
              simp [hlt, ← he]
              obtain ⟨A6, hA6⟩ : ∃ A6, A6 = A5 ++ [some (nv5, .mem 5 [[.int .i64 e.key.x0, .int .i64 e.key.x1, .int .i64 e.key.y0, .int .i64 e.key.y1, .int .u32 e.child]])] := ⟨_, rfl⟩
              rw [← hA6]
              have hG6 : GvSt b t v1 v2 v3 v5 v6 most vs A6 s5 := by rw [hA6]; exact hG5.app _
              have hK6 : GvK b t.nodes.length A A6 := by rw [hA6]; exact hK5.trans (GvK.app _ _ _ _)
              have hE6 : A6[A5.length]? = some (some (nv5, .mem 5 [[.int .i64 e.key.x0, .int .i64 e.key.x1, .int .i64 e.key.y0, .int .i64 e.key.y1, .int .u32 e.child]])) := by rw [hA6]; simp
              have hl6 := (List.getElem?_eq_some_iff.1 hG5.dp).1
              have hnd6 := hG6.nd j hj v hvj
              rw [hxj] at hnd6
              have hwr : IntKind.i64.wrap ((i : Int) + 1) = ((i + 1 : Nat) : Int) := wadd1 (by omega)
              obtain ⟨ep6, hrm⟩ := hG6.rm
              refine ⟨WkJ3 A6 (decide (e.child = 0) || !boxK e.key || (x.leaf && decide (e.child ∈ s5.rows))), ?_, ?_⟩
              · by_cases hc0 : e.child = 0
                · simp [hE6, hc0]
                  exact GhostV.refl ⟨_, by simp [hc0], rfl⟩
                · by_cases hx1 : e.key.x1 < e.key.x0
                  · simp [hE6, hc0, hx1]
                    exact GhostV.refl ⟨_, by simp [boxK, Int.not_le.2 hx1], rfl⟩
                  · by_cases hy1 : e.key.y1 < e.key.y0
                    · simp [hE6, hc0, hx1, hy1]
                      exact GhostV.refl ⟨_, by simp [boxK, Int.not_le.2 hy1], rfl⟩
                    · have hbx : boxK e.key = true := by simp [boxK, Int.not_lt.1 hx1, Int.not_lt.1 hy1]
                      simp [hE6, hc0, hx1, hy1, hnd6]
                      cases hxl : x.leaf
                      · simp
                        exact GhostV.refl ⟨_, by simp [hbx, hc0], rfl⟩
                      · by_cases hin : e.child ∈ s5.rows
                        · obtain ⟨q, hq⟩ := roE_some hin
                          obtain ⟨jq, hmq⟩ := eM_some (i := 0) hq
                          simp [hE6, hrm, hmq]
                          exact GhostV.refl ⟨_, by simp [hin], rfl⟩
                        · have hmq := eM_none (i := 0) (roE_none hin)
                          simp [hE6, hrm, hmq]
                          exact GhostV.refl ⟨_, by simp [hbx, hc0, hin], rfl⟩
              rintro v91 st ⟨nv6, rfl, rfl⟩
              by_cases hbd : e.child = 0 ∨ boxK e.key = false ∨ (x.leaf = true ∧ e.child ∈ s5.rows)
              · have hent : entF t.nodes (fun c s => walkF t.nodes t.root f c (level + 1) s) x s5 e = none := by
                  unfold entF; rw [if_pos hbd]
                rw [hent] at hR5
                have hb : (decide (e.child = 0) || !boxK e.key || (x.leaf && decide (e.child ∈ s5.rows))) = true := by
                  rcases hbd with h1 | h1 | ⟨h1, h2⟩
                  · simp [h1]
                  · simp [h1]
                  · simp [h1, h2]
                rw [hb]
                simp
                refine GhostV.refl ?_
                rw [← hR5] at hK
                exact hK _ _ hK6
              · have hb : (decide (e.child = 0) || !boxK e.key || (x.leaf && decide (e.child ∈ s5.rows))) = false := by
                  cases hq : (decide (e.child = 0) || !boxK e.key || (x.leaf && decide (e.child ∈ s5.rows))) with
                  | false => rfl
                  | true =>
                    refine absurd ?_ hbd
                    simp only [Bool.or_eq_true, decide_eq_true_eq, Bool.not_eq_true', Bool.and_eq_true] at hq
                    rcases hq with (h1 | h1) | h1
                    · exact .inl h1
                    · exact .inr (.inl h1)
                    · exact .inr (.inr h1)
                rw [hb]
                simp [hnd6]
                cases hxl : x.leaf
                · have hwl : IntKind.i64.wrap (((level : Nat) : Int) + 1) = ((level + 1 : Nat) : Int) := wadd1 (by omega)
                  simp [hE6]
                  rw [hwl]
                  refine inv_f0 (ih e.child (level + 1) s5 A6 nv6 _ (by omega) (by omega) hG6 ?_)
                  have hent0 : entF t.nodes (fun c s => walkF t.nodes t.root f c (level + 1) s) x s5 e = (match walkF t.nodes t.root f e.child (level + 1) s5 with
                      | none => none
                      | some s' => match findN t.nodes e.child with
                        | some c => if boundP c.es = e.key then some s' else none
                        | none => none) := by
                    unfold entF; rw [if_neg hbd, if_neg (by simp [hxl])]
                    rfl
                  rw [hent0] at hR5
                  cases hwk : walkF t.nodes t.root f e.child (level + 1) s5 with
                  | none =>
                    rw [hwk] at hR5
                    dsimp only at hR5
                    intro A9 nv9 hKA
                    simp
                    refine GhostV.refl ?_
                    rw [← hR5] at hK
                    exact hK _ _ (hK6.trans hKA)
                  | some s7 =>
                    rw [hwk] at hR5
                    dsimp only at hR5
                    intro A7 nv7 hG7 hK7
                    have hE7 : A7[A5.length]? = some (some (nv5, .mem 5 [[.int .i64 e.key.x0, .int .i64 e.key.x1, .int .i64 e.key.y0, .int .i64 e.key.y1, .int .u32 e.child]])) := by
                      rw [hK7.2 A5.length (List.getElem?_eq_some_iff.1 hE6).1 (by omega) (by omega) (by omega)]; exact hE6
                    have hK67 := hK6.trans hK7
                    obtain ⟨c, hfc⟩ : ∃ c, findN t.nodes e.child = some c := by
                      cases f with
                      | zero => simp [walkF] at hwk
                      | succ f =>
                        rw [walkF] at hwk
                        cases hq : findN t.nodes e.child with
                        | none => rw [hq] at hwk; cases hwk
                        | some c => exact ⟨c, rfl⟩
                    rw [hfc] at hR5
                    dsimp only at hR5
                    obtain ⟨jc, vc, hjc, hxc, hvc, hfdc⟩ := nodeE_some (b := b + 4) hG.vl hfc
                    obtain ⟨jc', hmc⟩ := eM_some (i := 0) hfdc
                    obtain ⟨ep7, hnm7⟩ := hG7.nm
                    have hndc := hG7.nd jc hjc vc hvc
                    rw [hxc] at hndc
                    have hcw := hs.2 c (findN_some hfc).1
                    simp [hE7, hG7.gv, hnm7, hmc, hndc]
                    refine inv_p (tKeys h.toKyR c.es (by omega)) rfl (by simp [pureL, V.pure]) ?_
                    rintro _ rfl
                    refine inv_p (kBound h.toKyR c.es (by omega)) rfl (by simp [pureL, V.pure]) ?_
                    rintro _ rfl
                    have hM7 : ∀ M, (A7 ++ M)[A5.length]? = some (some (nv5, .mem 5 [[.int .i64 e.key.x0, .int .i64 e.key.x1, .int .i64 e.key.y0, .int .i64 e.key.y1, .int .u32 e.child]])) := fun M => by rw [List.getElem?_append_left (List.getElem?_eq_some_iff.1 hE7).1]; exact hE7
                    simp [hM7]
                    by_cases hq : boundP c.es = e.key
                    · rw [if_pos hq] at hR5
                      simp [hq]
                      rw [hwr]
                      exact ⟨x.es.length - (i + 1), by omega, GhostV.keep ⟨i + 1, _, A7, s7, rfl, by omega, rfl, hG7, hK67, hR5, rfl⟩⟩
                    · rw [if_neg hq] at hR5
                      have hb2 : (!decide ((boundP c.es).x0 = e.key.x0) || (!decide ((boundP c.es).x1 = e.key.x1) || (!decide ((boundP c.es).y0 = e.key.y0) || !decide ((boundP c.es).y1 = e.key.y1)))) = true := by
                        cases hz : (!decide ((boundP c.es).x0 = e.key.x0) || (!decide ((boundP c.es).x1 = e.key.x1) || (!decide ((boundP c.es).y0 = e.key.y0) || !decide ((boundP c.es).y1 = e.key.y1)))) with
                        | true => rfl
                        | false =>
                          refine absurd ?_ hq
                          simp only [Bool.or_eq_false_iff, Bool.not_eq_false', decide_eq_true_eq] at hz
                          obtain ⟨z1, z2, z3, z4⟩ := hz
                          cases hbp : boundP c.es
                          cases hbe : e.key
                          rw [hbp, hbe] at z1 z2 z3 z4
                          simp only at z1 z2 z3 z4
                          rw [z1, z2, z3, z4]
                      rw [hb2]
                      simp
                      refine GhostV.refl ?_
                      rw [← hR5] at hK
                      exact hK _ _ (hK67.trans (GvK.app _ _ _ _))
                · have hin : ¬ e.child ∈ s5.rows := fun h2 => hbd (.inr (.inr ⟨hxl, h2⟩))
                  have hmq := eM_none (i := 0) (roE_none hin)
                  have hent : entF t.nodes (fun c s => walkF t.nodes t.root f c (level + 1) s) x s5 e = some { s5 with rows := s5.rows ++ [e.child] } := by
                    unfold entF; rw [if_neg hbd, if_pos hxl]
                  rw [hent] at hR5
                  dsimp only at hR5
                  have her : eM (roE s5.rows) ++ [(V.int IntKind.u32 e.child, V.bool true)] = eM (roE (s5.rows ++ [e.child])) := by simp [eM, roE]
                  simp [hE6, hrm, hmq]
                  rw [her, hwr]
                  have hG7 := hG6.setR e.child nv6
                  have hK7 := hK6.set (.inr (.inl rfl)) (some (v5, .map nv6 (eM (roE (s5.rows ++ [e.child])))))
                  exact ⟨x.es.length - (i + 1), by omega, GhostV.refl ⟨i + 1, _, _, _, rfl, by omega, rfl, hG7, hK7, hR5, rfl⟩⟩
            · have hde : x.es.drop i = [] := List.drop_eq_nil_of_le (by omega)
              rw [hde, entsF] at hR5
              simp [hlt]
              refine GhostV.refl ?_
              rw [← hR5] at hK
              exact hK _ _ hG5 hK5
      · rw [if_pos hl0] at hK
        rw [hml]
        simp [hl0]
        refine GhostV.refl ?_
        exact hK _ _ (GvK.refl _ _ _)
end Go.Proofs.Ytmjnpfackanhlaa.AM

namespace Go.Proofs.Ytmjnpfackanhlaa.AM
open Go
set_option linter.unusedVariables false
set_option linter.unusedSimpArgs false
variable {P : Program}

theorem Clone_L (h : PlR P) (l : List LinkT) (hl : l.length < 2 ^ 30) : PCalls P n_slices_Clone_Link_Link [vEs l] (fun r => r = vEs l) := by
 refine A_slices_Clone_Link_Link h.clone ?_
 delta F_slices_Clone_Link_Link sp sd gp gd fl fd gl
 have fin : ∀ {st : St}, GhostV [.sl .nil 0 [] []] st fun vs st => (mkres vs).pure = true ∧ mkres vs = V.sl .unk 5 [] [] := GhostV.le (LeVs.cons (.nil _ 5) (LeVs.refl _)) ⟨by simp [V.pure, pureLL], by simp⟩
 cases l with
 | nil =>
  simp [st0, vEs]
  exact ⟨GhostV.rowk (L := []) (sz := 5) (es := []) (by simp) (by simp) (by simp) ⟨by simp [V.pure, pureLL], by simp⟩, fin⟩
 | cons x l =>
  simp [st0, vEs]
  refine ⟨by simp at hl; omega, ?_⟩
  refine GhostV.rowk (L := []) (sz := 5) (es := (x :: l).map cLink) (by simp) (by simp) (by simp) ?_
  rw [List.drop_zero, List.take_of_length_le (by simp)]
  exact ⟨by simp only [mkres, V.pure, Bool.and_eq_true]; exact ⟨p_link (x :: l), rfl⟩, rfl⟩
def nodeO : List NodeT → List Nat → List (Option (Nat × Obj))
 | x :: ns, v :: vs => some (v, .mem 5 [cNode x]) :: nodeO ns vs
 | _, _ => []
theorem nodeO_snoc : ∀ {ns : List NodeT} {vs : List Nat} {x : NodeT} {v : Nat}, vs.length = ns.length → nodeO (ns ++ [x]) (vs ++ [v]) = nodeO ns vs ++ [some (v, .mem 5 [cNode x])]
 | [], [], x, v, _ => by simp [nodeO]
 | [], _ :: _, x, v, h => by simp at h
 | y :: ns, [], x, v, h => by simp at h
 | y :: ns, w :: vs, x, v, h => by
  rw [List.cons_append, List.cons_append, nodeO, nodeO, nodeO_snoc (by simpa using h), List.cons_append]
theorem nodeO_len : ∀ {ns : List NodeT} {vs : List Nat}, vs.length = ns.length → (nodeO ns vs).length = ns.length
 | [], [], _ => rfl
 | [], _ :: _, h => by simp at h
 | y :: ns, [], h => by simp at h
 | y :: ns, w :: vs, h => by rw [nodeO, List.length_cons, nodeO_len (by simpa using h), List.length_cons]
theorem nodeO_get : ∀ {ns : List NodeT} {vs : List Nat} (i : Nat) (h : i < ns.length) {v : Nat}, vs[i]? = some v → (nodeO ns vs)[i]? = some (some (v, .mem 5 [cNode ns[i]]))
 | [], _, i, h, v, _ => by simp at h
 | y :: ns, [], i, h, v, hv => by simp at hv
 | y :: ns, w :: vs, 0, h, v, hv => by
  simp at hv
  subst hv
  rfl
 | y :: ns, w :: vs, i + 1, h, v, hv => by
  rw [nodeO, List.getElem?_cons_succ]
  exact nodeO_get i (by simpa using h) (by simpa using hv)
theorem nodeE_len : ∀ {ns : List NodeT} {b : Nat} {vs : List Nat}, vs.length = ns.length → (nodeE b ns vs).length = ns.length
 | [], b, [], _ => rfl
 | [], b, _ :: _, h => by simp at h
 | y :: ns, b, [], h => by simp at h
 | y :: ns, b, w :: vs, h => by rw [nodeE, List.length_cons, nodeE_len (by simpa using h), List.length_cons]
theorem nodeE_get : ∀ {ns : List NodeT} {b : Nat} {vs : List Nat} (i : Nat) (h : i < ns.length) {v : Nat}, vs[i]? = some v → (nodeE b ns vs)[i]? = some (ns[i].id, .ptr (b + i) v 0 0)
 | [], b, _, i, h, v, _ => by simp at h
 | y :: ns, b, [], i, h, v, hv => by simp at hv
 | y :: ns, b, w :: vs, 0, h, v, hv => by
  simp at hv
  subst hv
  rfl
 | y :: ns, b, w :: vs, i + 1, h, v, hv => by
  rw [nodeE, List.getElem?_cons_succ, nodeE_get i (by simpa using h) (by simpa using hv)]
  have e : b + 1 + i = b + (i + 1) := by omega
  rw [e]; rfl
abbrev PlO (L : List (Option (Nat × Obj))) (w : Nat) (t : TreeT) (ep : Nat) (most : Int) (ns : List NodeT) (vs : List Nat) : List (Option (Nat × Obj)) := L ++ (some (w, .mem 3 [cTree t]) :: some (w + 1, .map ep (eM (nodeE (L.length + 4) ns vs))) :: some (w + 1 + 2, .map (w + 1 + 2 + 1) []) :: some (w + 1 + 2 + 2, .mem 5 [[.map (L.length + 1) (w + 1), .map (L.length + 2) (w + 1 + 2), .int .u32 t.root, .int .u64 t.count, .int .u32 most]]) :: nodeO ns vs)
def PlI1 (L : List (Option (Nat × Obj))) (w : Nat) (t : TreeT) (k : Nat) (v : V) (st : St) : Prop :=
 ∃ (i nv ep : Nat) (most : Int) (vs : List Nat), k = t.nodes.length - i ∧ i ≤ t.nodes.length ∧ v = .int .i64 ((i : Nat) : Int) ∧ vs.length = i ∧ (∀ y ∈ t.nodes.take i, y.id ≤ most) ∧ headsF t.count 0 t.nodes = headsF t.count most (t.nodes.drop i) ∧
  st = ⟨PlO L w t ep most (t.nodes.take i) vs, nv⟩
theorem nd_le {seen : List Nat} {n : Nat} (hn : seen.Nodup) (hl : ∀ i ∈ seen, i < n) : seen.length ≤ n := by
 have := List.Nodup.length_le_of_subset hn (l₂ := List.range n) (fun i hi => List.mem_range.2 (hl i hi))
 simpa using this
def rOk (ns : List NodeT) (lv : List (Int × Nat)) (x : NodeT) : Prop := x.right = 0 ∨ ∃ y, findN ns x.right = some y ∧ lvOf lv x.right = lvOf lv x.id
def PlI2 (b w : Nat) (ns : List NodeT) (lv : List (Int × Nat)) (A : List (Option (Nat × Obj))) (vi ep : Nat) (k : Nat) (st : St) : Prop :=
 ∃ seen nv, k = ns.length - seen.length ∧ seen.Nodup ∧ (∀ j ∈ seen, j < ns.length) ∧ (∀ j ∈ seen, ∀ x, ns[j]? = some x → rOk ns lv x) ∧ st = ⟨A ++ [some (vi, .iter (b + 1) (w + 1) ep seen)], nv⟩
theorem heads_srt {c : Int} : ∀ {l : List NodeT} {m : Int}, headsF c m l = true → (idsN l).Pairwise (· < ·) ∧ ∀ x ∈ l, m < x.id
 | [], m, _ => ⟨by simp [idsN], by simp⟩
 | x :: l, m, h => by
  simp only [headsF, Bool.and_eq_true, decide_eq_true_eq] at h
  obtain ⟨h1, h2⟩ := heads_srt h.2
  refine ⟨?_, fun y hy => ?_⟩
  ·simp only [idsN, List.map_cons, List.pairwise_cons]
   exact ⟨fun a ha => by
    obtain ⟨y, hy, rfl⟩ := List.mem_map.1 ha
    exact h2 y hy, h1⟩
  ·rcases List.mem_cons.1 hy with rfl | hy
   ·exact h.1.1.1
   ·have := h2 y hy
    have := h.1.1.1
    omega
theorem nd_ge {seen : List Nat} {n : Nat} (hall : ∀ i, i < n → i ∈ seen) : n ≤ seen.length := by
 have := List.Nodup.length_le_of_subset (l₁ := List.range n) (l₂ := seen) List.nodup_range (fun i hi => hall i (List.mem_range.1 hi))
 simpa using this
theorem steps_zero (ns : List NodeT) (n : Nat) : stepsF ns n 0 = 0 := by cases n <;> simp [stepsF]
def PlI3 (b w : Nat) (ns : List NodeT) (B : List (Option (Nat × Obj))) (vi ep : Nat) (k : Nat) (st : St) : Prop :=
 ∃ seen nv, k = ns.length - seen.length ∧ seen.Nodup ∧ (∀ j ∈ seen, j < ns.length) ∧ (∀ j ∈ seen, ∀ x, ns[j]? = some x → stepsF ns ns.length x.right = 0) ∧ st = ⟨B ++ [some (vi, .iter (b + 1) (w + 1) ep seen)], nv⟩
def PlI4 (b w : Nat) (ns : List NodeT) (C : List (Option (Nat × Obj))) (vi ep : Nat) (a0 : Int) (k : Nat) (v : V) (st : St) : Prop :=
 ∃ (seen : List Nat) (nv : Nat) (at' : Int), k = ns.length - seen.length ∧ seen.Nodup ∧ (∀ j ∈ seen, j < ns.length) ∧ v = .int .u32 at' ∧ (at' = 0 ∨ at' ∈ idsN ns) ∧ stepsF ns ns.length a0 = stepsF ns (ns.length - seen.length) at' ∧ st = ⟨C ++ [some (vi, .iter (b + 1) (w + 1) ep seen)], nv⟩
theorem chains_ok {ns : List NodeT} (h : ∀ x ∈ ns, stepsF ns ns.length x.right = 0) : chainsF ns = true := by
 unfold chainsF
 rw [List.all_eq_true]
 intro x hx
 simp [h x hx]
theorem chains_no {ns : List NodeT} {x : NodeT} (hx : x ∈ ns) (h : stepsF ns ns.length x.right ≠ 0) : chainsF ns = false := by
 cases hr : chainsF ns with
 | false => rfl
 | true =>
  unfold chainsF at hr
  rw [List.all_eq_true] at hr
  have := hr x hx
  exact absurd (by simpa using this) h
theorem rights_ok {ns : List NodeT} {lv : List (Int × Nat)} (h : ∀ x ∈ ns, rOk ns lv x) : rightsF ns lv = true := by
 unfold rightsF
 rw [List.all_eq_true]
 intro x hx
 rcases h x hx with h | ⟨y, h1, h2⟩
 ·simp [h]
 ·rw [h1]; simp [h2]
theorem rights_no {ns : List NodeT} {lv : List (Int × Nat)} {x : NodeT} (hx : x ∈ ns) (h : ¬ rOk ns lv x) : rightsF ns lv = false := by
 cases hr : rightsF ns lv with
 | false => rfl
 | true =>
  unfold rightsF at hr
  rw [List.all_eq_true] at hr
  have := hr x hx
  simp only [Bool.or_eq_true, decide_eq_true_eq] at this
  refine absurd ?_ h
  rcases this with h1 | h1
  ·exact .inl h1
  ·cases hf : findN ns x.right with
   | none => rw [hf] at h1; cases h1
   | some y => rw [hf] at h1; exact .inr ⟨y, hf, by simpa using h1⟩
set_option maxHeartbeats 2000000 in
theorem Plant_N (h : PlR P) (t : TreeT) (hs : smallT t) {L : List (Option (Nat × Obj))} {w : Nat} {K : V → St → Prop} (hno : plantF t = false → ∀ nv, K (.tup [.nilp, .bool false]) ⟨L, nv⟩)
    (hyes : plantF t = true → ∀ (A : List (Option (Nat × Obj))) (nv v2 v3 v5 v6 : Nat) (most : Int) (vs : List Nat) (s : WSt), GvSt L.length t (w + 1) v2 v3 v5 v6 most vs A s → GvK L.length t.nodes.length L A → K (.tup [.ptr (L.length + 3) v3 0 0, .bool true]) ⟨A, nv⟩) :
    ACalls P n_tree_plant [.agg (cTree t)] ⟨L, w⟩ K := by
  refine A_tree_plant h.plant ?_
  delta F_tree_plant sp sd gp gd fl fd gl
  simp
  have hfin : ∀ {A : List (Option (Nat × Obj))} {nv : Nat}, plantF t = false → L.length ≤ A.length → (∀ id, id < L.length → A[id]? = L[id]?) → GhostV [.nilp, .bool false] ⟨A, nv⟩ (fun vs st => K (mkres vs) st) := fun {A nv} hb h1 h2 => by
    have e : A.take L.length = L := List.ext_getElem? (fun i => by
      by_cases hi : i < L.length
      · rw [List.getElem?_take_of_lt hi]; exact h2 i hi
      · rw [List.getElem?_eq_none (by rw [List.length_take]; omega), List.getElem?_eq_none (by omega)])
    have := hno hb nv
    rw [← e] at this
    exact GhostV.take L.length this
  have hfinL : ∀ {M : List (Option (Nat × Obj))} {nv : Nat}, plantF t = false → GhostV [.nilp, .bool false] ⟨L ++ M, nv⟩ (fun vs st => K (mkres vs) st) := fun {M nv} hb => hfin hb (by simp) (fun id hid => List.getElem?_append_left hid)
  have hs1 := hs.1
  by_cases h512 : (512 : Int) < t.nodes.length
  · simp [h512]
    exact hfinL (by unfold plantF; simp; omega)
  · simp [h512]
    refine ⟨PlI1 L w t, ⟨t.nodes.length, GhostV.refl ⟨0, w + 1 + 2 + 2 + 1, w + 1 + 1, 0, [], by simp, by omega, by simp, rfl, by simp, by simp, by simp [nodeE, nodeO, eM]⟩⟩, ?_⟩
    rintro k1 v28 st ⟨i, nv, ep, most, vs, rfl, hi, rfl, hvl, hmost, hheads, rfl⟩
    have hnl : (nodeO (t.nodes.take i) vs).length = i := by rw [nodeO_len (by rw [List.length_take]; omega), List.length_take]; omega
    by_cases hlt : i < t.nodes.length
    · obtain ⟨x, hx⟩ : ∃ x, x = t.nodes[i] := ⟨_, rfl⟩
      have hde : t.nodes.drop i = x :: t.nodes.drop (i + 1) := by rw [hx]; exact List.drop_eq_getElem_cons hlt
      rw [hde, headsF] at hheads
      have hxm : x ∈ t.nodes := by rw [hx]; exact List.getElem_mem hlt
      have hxw := hs.2 x hxm
      simp [hlt, ← hx]
      by_cases hid : x.id ≤ most
      · simp [hid]
        exact hfinL (by
          have : headsF t.count 0 t.nodes = false := by rw [hheads]; simp; omega
          unfold plantF; simp [this])
      · by_cases hwd : (4 : Int) < x.es.length
        · simp [hid, hwd]
          exact hfinL (by
            have : headsF t.count 0 t.nodes = false := by
              rw [hheads]
              have : ¬ x.es.length ≤ 4 := by omega
              simp [this]
            unfold plantF; simp [this])
        · by_cases hmk : t.count < x.mark
          · simp [hid, hwd, hmk]
            exact hfinL (by
              have : headsF t.count 0 t.nodes = false := by
                rw [hheads]
                have : ¬ x.mark ≤ t.count := by omega
                simp [this]
              unfold plantF; simp [this])
          · simp [hid, hwd, hmk]
            refine inv_p (Clone_L h x.es hxw) rfl (by simp [pureL, V.pure]) ?_
            rintro _ rfl
            have hfn : findN (t.nodes.take i) x.id = none := by
              unfold findN
              rw [List.find?_eq_none]
              intro y hy
              have := hmost y hy
              simp only [decide_eq_true_eq]; omega
            have hmf := eM_none (i := 0) (nodeE_none (b := L.length + 4) (vs := vs) hfn)
            simp [hmf]
            have htl : (t.nodes.take i).length = i := by rw [List.length_take]; omega
            have e1 : eM (nodeE (L.length + 4) (t.nodes.take i) vs) ++ [(.int .u32 x.id, .ptr (L.length + ((nodeO (t.nodes.take i) vs).length + 1 + 1 + 1 + 1)) nv 0 0)] = eM (nodeE (L.length + 4) (t.nodes.take (i + 1)) (vs ++ [nv])) := by
              rw [take_snoc hlt, ← hx, nodeE_snoc (by rw [htl, hvl]), hnl, htl]
              have e2 : L.length + (i + 1 + 1 + 1 + 1) = L.length + 4 + i := by omega
              rw [e2]
              simp [eM]
            have e3 : nodeO (t.nodes.take i) vs ++ [some (nv, .mem 5 [[.int .u32 x.id, .bool x.leaf, .sl .unk 5 (List.map cLink x.es) [], .int .u64 x.mark, .int .u32 x.right]])] = nodeO (t.nodes.take (i + 1)) (vs ++ [nv]) := by
              rw [take_snoc hlt, ← hx, nodeO_snoc (by rw [htl, hvl])]; rfl
            rw [e1, e3, wadd1 (by omega)]
            refine ⟨t.nodes.length - (i + 1), by omega, GhostV.refl ⟨i + 1, nv + 2, nv + 1, x.id, vs ++ [nv], rfl, by omega, rfl, by simp [hvl], fun y hy => ?_, ?_, rfl⟩⟩
            · rw [take_snoc hlt, ← hx, List.mem_append] at hy
              rcases hy with hy | hy
              · have := hmost y hy; omega
              · rw [List.mem_singleton.1 hy]; exact Int.le_refl _
            · rw [hheads]
              have h1 : most < x.id := by omega
              have h2 : x.es.length ≤ 4 := by omega
              have h3 : x.mark ≤ t.count := by omega
              simp [h1, h2, h3]
    · have hin : i = t.nodes.length := by omega
      have ht : t.nodes.take i = t.nodes := List.take_of_length_le (by omega)
      have hdr : t.nodes.drop i = [] := List.drop_eq_nil_of_le (by omega)
      rw [hdr, headsF] at hheads
      rw [ht] at hnl hmost
      rw [ht]
      have hvl' : vs.length = t.nodes.length := by omega
      have hnl' : (nodeO t.nodes vs).length = t.nodes.length := nodeO_len hvl'
      simp [hlt]
      have e4 : L.length + ((nodeO t.nodes vs).length + 1 + 1 + 1 + 1) = L.length + 4 + t.nodes.length := by omega
      have e5 : L.length + ((nodeO t.nodes vs).length + 1 + 1 + 1 + 1 + 1) = L.length + 5 + t.nodes.length := by omega
      rw [e4, e5]
      obtain ⟨A, hA⟩ : ∃ A, A = L ++ (some (w, Obj.mem 3 [[vNs t.nodes, V.int IntKind.u32 t.root, V.int IntKind.u64 t.count]]) :: some (w + 1, Obj.map ep (eM (nodeE (L.length + 4) t.nodes vs))) :: some (w + 1 + 2, Obj.map (w + 1 + 2 + 1) []) :: some (w + 1 + 2 + 2, Obj.mem 5 [[V.map (L.length + 1) (w + 1), V.map (L.length + 2) (w + 1 + 2), V.int IntKind.u32 t.root, V.int IntKind.u64 t.count, V.int IntKind.u32 most]]) :: (nodeO t.nodes vs ++ [some (nv, Obj.map (nv + 1) []), some (nv + 2, Obj.mem 1 [[V.int IntKind.i64 0]])])) := ⟨_, rfl⟩
      rw [← hA]
      have hLA : GvK L.length t.nodes.length L A := by rw [hA]; exact GvK.app _ _ _ _
      have hfinK : ∀ {A : List (Option (Nat × Obj))} {nv : Nat}, plantF t = false → GvK L.length t.nodes.length L A → GhostV [.nilp, .bool false] ⟨A, nv⟩ (fun vs st => K (mkres vs) st) := fun {A nv} hb hK => hfin hb hK.1 (fun id hid => hK.2 id hid (by omega) (by omega) (by omega))
      have hG : GvSt L.length t (w + 1) (w + 1 + 2) (w + 1 + 2 + 2) nv (nv + 2) most vs A ⟨[], 0, []⟩ := by
        have a4 : ∀ k, A[L.length + 4 + k]? = (nodeO t.nodes vs ++ [some (nv, Obj.map (nv + 1) []), some (nv + 2, Obj.mem 1 [[V.int IntKind.i64 0]])])[k]? := fun k => by
          have : L.length + 4 + k = L.length + (k + 1 + 1 + 1 + 1) := by omega
          rw [hA, this]; simp
        refine ⟨hvl', ⟨ep, by rw [hA]; simp⟩, ⟨w + 1 + 2 + 1, by rw [hA]; simp [lvE, eM]⟩, by rw [hA]; simp, fun j hj v hv => ?_, ⟨nv + 1, ?_⟩, ?_, by simp⟩
        · rw [a4, List.getElem?_append_left (by rw [hnl']; exact hj)]
          exact nodeO_get j hj hv
        · rw [a4, List.getElem?_append_right (by omega), hnl']; simp [roE, eM]
        · have : L.length + 5 + t.nodes.length = L.length + 4 + (t.nodes.length + 1) := by omega
          rw [this, a4, List.getElem?_append_right (by omega), hnl']; simp
      refine inv_f0 (Walk_N h t hs 12 t.root 1 ⟨[], 0, []⟩ A (nv + 2 + 1) _ (by omega) (by omega) hG ?_)
      cases hwk : walkF t.nodes t.root 12 t.root 1 ⟨[], 0, []⟩ with
      | none =>
        intro A9 nv9 hKA
        simp
        exact hfinK (by unfold plantF; rw [hwk]; simp) (hLA.trans hKA)
      | some s7 =>
        intro A7 nv7 hG7 hK7
        have hKM : ∀ M, GvK L.length t.nodes.length L (A7 ++ M) := fun M => (hLA.trans hK7).trans (GvK.app _ _ _ _)
        obtain ⟨ep1, hnm⟩ := hG7.nm
        obtain ⟨ep2, hlm⟩ := hG7.lm
        have hel : (eM (nodeE (L.length + 4) t.nodes vs)).length = t.nodes.length := by unfold eM; rw [List.length_map, nodeE_len hvl']
        have hll : (eM (lvE s7.lv)).length = s7.lv.length := by simp [eM, lvE]
        simp [hG7.gv, hnm, hlm, hel, hll]
        by_cases hle : s7.lv.length = t.nodes.length
        · simp [hG7.gv, hnm, hlm, hel, hll, hle]
          refine ⟨PlI2 L.length w t.nodes s7.lv A7 nv7 ep1, ⟨t.nodes.length, GhostV.refl ⟨[], _, by simp, List.nodup_nil, by simp, by simp, rfl⟩⟩, ?_⟩
          rintro k2 st ⟨seen, nv8, rfl, hsn, hsl, hsok, rfl⟩
          have hM7 : ∀ {id : Nat} {x : Option (Nat × Obj)} (M), A7[id]? = some x → (A7 ++ M)[id]? = some x := fun {id x} M e => by rw [List.getElem?_append_left (List.getElem?_eq_some_iff.1 e).1]; exact e
          have hgM := fun M => hM7 M hG7.gv
          have hnM := fun M => hM7 M hnm
          have hlM := fun M => hM7 M hlm
          refine op_next (id := A7.length) (ver := nv7) (mid := L.length + 1) (mver := w + 1) (ep := ep1) (seen := seen) (es := eM (nodeE (L.length + 4) t.nodes vs)) (by simp [St.get]) (by simp [St.get, hnM]) ?_ ?_
          · intro hall
            have hrall : rightsF t.nodes s7.lv = true := rights_ok (fun x hx => by
              obtain ⟨j, hj, e⟩ := List.getElem_of_mem hx
              exact hsok j (hall j (by rw [hel]; exact hj)) x (by rw [List.getElem?_eq_getElem hj, e]))
            have hR : ∀ x ∈ t.nodes, x.right = 0 ∨ x.right ∈ idsN t.nodes := fun x hx => by
              obtain ⟨j, hj, e⟩ := List.getElem_of_mem hx
              rcases hsok j (hall j (by rw [hel]; exact hj)) x (by rw [List.getElem?_eq_getElem hj, e]) with h1 | ⟨y, h1, _⟩
              · exact .inl h1
              · obtain ⟨h2, h3⟩ := findN_some h1
                exact .inr (by rw [← h3]; exact List.mem_map.2 ⟨y, h2, rfl⟩)
            simp [hgM, hnM]
            clear hsn hsl hsok
            obtain ⟨B, hB⟩ : ∃ B, B = A7 ++ [some (nv7, .iter (L.length + 1) (w + 1) ep1 seen)] := ⟨_, rfl⟩
            have hMB : ∀ {id : Nat} {x : Option (Nat × Obj)} (M), A7[id]? = some x → (B ++ M)[id]? = some x := fun {id x} M e => by
              rw [hB, List.append_assoc]; exact hM7 _ e
            have hgB := fun M => hMB M hG7.gv
            have hnB := fun M => hMB M hnm
            have hBl : B.length = A7.length + 1 := by rw [hB]; simp
            have hKB : ∀ M, GvK L.length t.nodes.length L (B ++ M) := fun M => by rw [hB, List.append_assoc]; exact hKM _
            rw [← hBl]
            refine ⟨PlI3 L.length w t.nodes B nv8 ep1, ⟨t.nodes.length, GhostV.refl ⟨[], nv8 + 1, by simp, List.nodup_nil, by simp, by simp, by rw [hB]; simp⟩⟩, ?_⟩
            rintro k3 st ⟨seen3, nv9, rfl, hsn, hsl, hsok, rfl⟩
            refine op_next (id := B.length) (ver := nv8) (mid := L.length + 1) (mver := w + 1) (ep := ep1) (seen := seen3) (es := eM (nodeE (L.length + 4) t.nodes vs)) (by simp [St.get]) (by simp [St.get, hnB]) ?_ ?_
            · intro hall3
              have hch : chainsF t.nodes = true := chains_ok (fun x hx => by
                obtain ⟨j, hj, e⟩ := List.getElem_of_mem hx
                exact hsok j (hall3 j (by rw [hel]; exact hj)) x (by rw [List.getElem?_eq_getElem hj, e]))
              simp
              have hp : plantF t = true := by
                unfold plantF
                rw [hwk]
                have : t.nodes.length ≤ 512 := by omega
                simp [this, hheads, hle, hrall, hch]
              refine GhostV.refl ?_
              have hGf : ∀ M, GvSt L.length t (w + 1) (w + 1 + 2) (w + 1 + 2 + 2) nv (nv + 2) most vs (B ++ M) s7 := fun M => by rw [hB, List.append_assoc]; exact hG7.app _
              exact hyes hp _ _ _ _ _ _ _ _ _ (hGf _) (hKB _)
            · intro j hj hns
              rw [hel] at hj
              obtain ⟨v, hv⟩ : ∃ v, vs[j]? = some v := ⟨vs[j], List.getElem?_eq_getElem (by omega)⟩
              obtain ⟨x, hx⟩ : ∃ x, x = t.nodes[j] := ⟨_, rfl⟩
              have hxm : x ∈ t.nodes := by rw [hx]; exact List.getElem_mem hj
              have hge : (eM (nodeE (L.length + 4) t.nodes vs)).getD j (.junk, .junk) = (.int .u32 x.id, .ptr (L.length + 4 + j) v 0 0) := by
                unfold eM
                rw [List.getD, List.getElem?_map, nodeE_get j hj hv, ← hx]; rfl
              have hge' : (eM (nodeE (L.length + 4) t.nodes vs))[j]? = some (.int .u32 x.id, .ptr (L.length + 4 + j) v 0 0) := by
                unfold eM
                rw [List.getElem?_map, nodeE_get j hj hv, ← hx]; rfl
              have hle2 : (j :: seen3).length ≤ t.nodes.length := nd_le (List.nodup_cons.2 ⟨hns, hsn⟩) (fun q hq => by
                rcases List.mem_cons.1 hq with rfl | hq
                · exact hj
                · exact hsl q hq)
              rw [hge]
              simp [hgB, hnB, hge']
              have hids : (idsN t.nodes).Nodup := by
                rw [List.nodup_iff_pairwise_ne]
                exact (heads_srt hheads).1.imp (fun h => by omega)
              have hfx := findN_mem hids hxm
              obtain ⟨jx, vx, hjx, hxx, hvx, hfdx⟩ := nodeE_some (b := L.length + 4) hG7.vl hfx
              obtain ⟨jx', hmx⟩ := eM_some (i := 0) hfdx
              have hndx := fun M => hMB M (hG7.nd jx hjx vx hvx)
              rw [hxx] at hndx
              rw [hmx]
              simp [hndx, hgB, hnB]
              obtain ⟨C, hC⟩ : ∃ C, C = B ++ [some (nv8, .iter (L.length + 1) (w + 1) ep1 (j :: seen3))] := ⟨_, rfl⟩
              have hMC : ∀ {id : Nat} {x : Option (Nat × Obj)} (M), A7[id]? = some x → (C ++ M)[id]? = some x := fun {id x} M e => by
                rw [hC, List.append_assoc]; exact hMB _ e
              have hgC := fun M => hMC M hG7.gv
              have hnC := fun M => hMC M hnm
              have hCl : C.length = B.length + 1 := by rw [hC]; simp
              have hKC : ∀ M, GvK L.length t.nodes.length L (C ++ M) := fun M => by rw [hC, List.append_assoc]; exact hKB _
              rw [← hCl]
              have hnext : stepsF t.nodes t.nodes.length x.right = 0 → ∀ (M : List (Option (Nat × Obj))) (nvx : Nat), ∃ k', k' < t.nodes.length - seen3.length ∧ GhostV [] ⟨C ++ M, nvx⟩ (@app 0 (PlI3 L.length w t.nodes B nv8 ep1 k')) := fun hok M nvx => by
                rw [List.length_cons] at hle2
                refine ⟨t.nodes.length - (j :: seen3).length, by rw [List.length_cons]; omega, GhostV.keep ⟨j :: seen3, nvx, rfl, List.nodup_cons.2 ⟨hns, hsn⟩, fun q hq => ?_, fun q hq z hz => ?_, by rw [hC]⟩⟩
                · rcases List.mem_cons.1 hq with rfl | hq
                  · exact hj
                  · exact hsl q hq
                · rcases List.mem_cons.1 hq with rfl | hq
                  · rw [List.getElem?_eq_getElem hj, ← hx] at hz
                    rw [← Option.some.inj hz]; exact hok
                  · exact hsok q hq z hz
              have hbad : stepsF t.nodes t.nodes.length x.right ≠ 0 → plantF t = false := fun hno => by unfold plantF; rw [hwk]; simp [chains_no hxm hno]
              refine ⟨PlI4 L.length w t.nodes C nv9 ep1 x.right, ⟨t.nodes.length, GhostV.refl ⟨[], nv9 + 1, x.right, by simp, List.nodup_nil, by simp, rfl, hR x hxm, by simp, by rw [hC]; simp⟩⟩, ?_⟩
              rintro k4 v12 st ⟨seen4, nv10, at', rfl, hsn4, hsl4, rfl, hat, hst, rfl⟩
              refine op_next (id := C.length) (ver := nv9) (mid := L.length + 1) (mver := w + 1) (ep := ep1) (seen := seen4) (es := eM (nodeE (L.length + 4) t.nodes vs)) (by simp [St.get]) (by simp [St.get, hnC]) ?_ ?_
              · intro hall4
                have hge4 := nd_ge (n := t.nodes.length) (seen := seen4) (fun i hi => hall4 i (by rw [hel]; exact hi))
                have h0 : t.nodes.length - seen4.length = 0 := by omega
                rw [h0, stepsF] at hst
                by_cases hz : at' = 0
                · simp [hz]
                  exact hnext (by rw [hst, hz]) _ _
                · simp [hz]
                  exact hfinK (hbad (by rw [hst]; exact hz)) (hKC _)
              · intro j4 hj4 hns4
                rw [hel] at hj4
                have hle4 : (j4 :: seen4).length ≤ t.nodes.length := nd_le (List.nodup_cons.2 ⟨hns4, hsn4⟩) (fun q hq => by
                  rcases List.mem_cons.1 hq with rfl | hq
                  · exact hj4
                  · exact hsl4 q hq)
                rw [List.length_cons] at hle4
                simp
                by_cases hz : at' = 0
                · simp [hz]
                  exact hnext (by rw [hst, hz, steps_zero]) _ _
                · simp [hz, hgC, hnC]
                  have hat' : at' ∈ idsN t.nodes := by
                    rcases hat with h1 | h1
                    · exact absurd h1 hz
                    · exact h1
                  obtain ⟨y, hfy⟩ := findN_ids hat'
                  obtain ⟨jy, vy, hjy, hxy, hvy, hfdy⟩ := nodeE_some (b := L.length + 4) hG7.vl hfy
                  obtain ⟨jy', hmy⟩ := eM_some (i := 0) hfdy
                  have hndy := fun M => hMC M (hG7.nd jy hjy vy hvy)
                  rw [hxy] at hndy
                  rw [hmy]
                  simp [hndy]
                  obtain ⟨m, hm⟩ : ∃ m, t.nodes.length - seen4.length = m + 1 := ⟨t.nodes.length - seen4.length - 1, by omega⟩
                  have hm' : m = t.nodes.length - (j4 :: seen4).length := by rw [List.length_cons]; omega
                  rw [hm, stepsF, if_neg hz] at hst
                  have hry : rightN t.nodes at' = y.right := by unfold rightN; rw [hfy]
                  rw [hry, hm'] at hst
                  refine ⟨t.nodes.length - (j4 :: seen4).length, by rw [List.length_cons]; omega, GhostV.refl ⟨j4 :: seen4, nv10, y.right, rfl, List.nodup_cons.2 ⟨hns4, hsn4⟩, fun q hq => ?_, rfl, hR y (findN_some hfy).1, hst, rfl⟩⟩
                  rcases List.mem_cons.1 hq with rfl | hq
                  · exact hj4
                  · exact hsl4 q hq
          · intro j hj hns
            rw [hel] at hj
            obtain ⟨v, hv⟩ : ∃ v, vs[j]? = some v := ⟨vs[j], List.getElem?_eq_getElem (by omega)⟩
            have hge : (eM (nodeE (L.length + 4) t.nodes vs)).getD j (.junk, .junk) = (.int .u32 t.nodes[j].id, .ptr (L.length + 4 + j) v 0 0) := by
              unfold eM
              rw [List.getD, List.getElem?_map, nodeE_get j hj hv]; rfl
            have hge' : (eM (nodeE (L.length + 4) t.nodes vs))[j]? = some (.int .u32 t.nodes[j].id, .ptr (L.length + 4 + j) v 0 0) := by
              unfold eM
              rw [List.getElem?_map, nodeE_get j hj hv]; rfl
            have hnd := fun M => hM7 M (hG7.nd j hj v hv)
            rw [hge]
            obtain ⟨x, hx⟩ : ∃ x, x = t.nodes[j] := ⟨_, rfl⟩
            have hxm : x ∈ t.nodes := by rw [hx]; exact List.getElem_mem hj
            rw [← hx] at hge' hnd
            rw [← hx]
            have hle2 : (j :: seen).length ≤ t.nodes.length := nd_le (List.nodup_cons.2 ⟨hns, hsn⟩) (fun q hq => by
              rcases List.mem_cons.1 hq with rfl | hq
              · exact hj
              · exact hsl q hq)
            have hnext : rOk t.nodes s7.lv x → ∃ k', k' < t.nodes.length - seen.length ∧ GhostV [] ⟨A7 ++ [some (nv7, .iter (L.length + 1) (w + 1) ep1 (j :: seen))], nv8⟩ (@app 0 (PlI2 L.length w t.nodes s7.lv A7 nv7 ep1 k')) := fun hok => by
              rw [List.length_cons] at hle2
              refine ⟨t.nodes.length - (j :: seen).length, by rw [List.length_cons]; omega, GhostV.refl ⟨j :: seen, nv8, rfl, List.nodup_cons.2 ⟨hns, hsn⟩, fun q hq => ?_, fun q hq z hz => ?_, rfl⟩⟩
              · rcases List.mem_cons.1 hq with rfl | hq
                · exact hj
                · exact hsl q hq
              · rcases List.mem_cons.1 hq with rfl | hq
                · rw [List.getElem?_eq_getElem hj, ← hx] at hz
                  rw [← Option.some.inj hz]; exact hok
                · exact hsok q hq z hz
            have hbad : ¬ rOk t.nodes s7.lv x → plantF t = false := fun hno => by unfold plantF; rw [hwk]; simp [rights_no hxm hno]
            simp [hgM, hnM, hge', hnd]
            by_cases hr0 : x.right = 0
            · simp [hr0]
              exact hnext (.inl hr0)
            · simp [hr0, hgM, hnM, hnd]
              cases hfy : findN t.nodes x.right with
              | none =>
                rw [eM_none (nodeE_none hfy)]
                simp [eqsV, hr0]
                exact hfinK (hbad (fun hok => by
                  rcases hok with h1 | ⟨y, h1, _⟩
                  · exact hr0 h1
                  · rw [hfy] at h1; cases h1)) (hKM _)
              | some y =>
                obtain ⟨jy, vy, hjy, hxy, hvy, hfdy⟩ := nodeE_some (b := L.length + 4) hG7.vl hfy
                obtain ⟨jy', hmy⟩ := eM_some (i := 0) hfdy
                rw [hmy]
                simp [eqsV, hr0, hgM, hlM, hnd]
                have hokq : rOk t.nodes s7.lv x ↔ lvOf s7.lv x.right = lvOf s7.lv x.id := by
                  constructor
                  · rintro (h1 | ⟨z, _, h2⟩)
                    · exact absurd h1 hr0
                    · exact h2
                  · exact fun h2 => .inr ⟨y, hfy, h2⟩
                have hend : ∀ (a b : Nat), a = lvOf s7.lv x.right → b = lvOf s7.lv x.id → @cnd (.bool (!decide (a = b))) ⟨GhostV [.nilp, .bool false] ⟨A7 ++ [some (nv7, .iter (L.length + 1) (w + 1) ep1 (j :: seen))], nv8⟩ (fun vs st => K (mkres vs) st)⟩ ⟨∃ k', k' < t.nodes.length - seen.length ∧ GhostV [] ⟨A7 ++ [some (nv7, .iter (L.length + 1) (w + 1) ep1 (j :: seen))], nv8⟩ (@app 0 (PlI2 L.length w t.nodes s7.lv A7 nv7 ep1 k'))⟩ := fun a b ha hb => by
                  by_cases hq : a = b
                  · simp [hq]
                    exact hnext (hokq.2 (by rw [← ha, ← hb, hq]))
                  · simp [hq]
                    exact hfinK (hbad (fun h1 => hq (by rw [ha, hb]; exact hokq.1 h1))) (hKM _)
                rcases lv_look x.right s7.lv hG7.lp with ⟨ha, hma⟩ | ⟨ha, j1, hma⟩
                · rcases lv_look x.id s7.lv hG7.lp with ⟨hb, hmb⟩ | ⟨hb, j2, hmb⟩
                  · rw [hma]
                    simp [eqsV, hr0, hgM, hlM, hnd, hmb]
                    have := hend 0 0 ha.symm hb.symm
                    simpa using this
                  · rw [hma]
                    simp [eqsV, hr0, hgM, hlM, hnd, hmb]
                    have hz : ¬ ((0 : Int) = ((lvOf s7.lv x.id : Nat) : Int)) := by omega
                    simp [hz]
                    exact hfinK (hbad (fun h1 => hb (by rw [← hokq.1 h1, ha]))) (hKM _)
                · rcases lv_look x.id s7.lv hG7.lp with ⟨hb, hmb⟩ | ⟨hb, j2, hmb⟩
                  · rw [hma]
                    simp [eqsV, hr0, hgM, hlM, hnd, hmb]
                    have := hend (lvOf s7.lv x.right) 0 rfl hb.symm
                    simpa using this
                  · rw [hma]
                    simp [eqsV, hr0, hgM, hlM, hnd, hmb]
                    have := hend (lvOf s7.lv x.right) (lvOf s7.lv x.id) rfl rfl
                    simpa using this
        · simp [hle]
          exact hfinK (by unfold plantF; rw [hwk]; simp [hle]) (hLA.trans hK7)
theorem tCheck (h : PlR P) (t : TreeT) (hs : smallT t) : PCalls P n_tree_Check [.agg (cTree t)] (fun r => r = .int .i64 (if plantF t then 0 else 210)) := by
 refine A_tree_Check h.check ?_
 delta F_tree_Check sp sd gp gd fl fd gl
 simp [st0]
 refine inv_f0 (Plant_N h t hs (fun hp nv => ?_) (fun hp A nv v2 v3 v5 v6 most vs s hG hK => ?_))
 ·simp
  exact GhostV.refl ⟨rfl, by simp [hp]⟩
 ·simp
  exact GhostV.refl ⟨rfl, by simp [hp]⟩
end Go.Proofs.Ytmjnpfackanhlaa.AM

namespace Go.Proofs.Ytmjnpfackanhlaa.AM
open Go
set_option linter.unusedVariables false
set_option linter.unusedSimpArgs false
variable {P : Program}

structure RtR (P : Program) : Prop extends RdR P where
 deep : R_gazetteerref11_Deep P
 right11 : R_gazetteerref11_Right P
theorem above_idx {ns : List NodeT} {id : Int} : (ns.findIdx? (isUp id) = none ∧ aboveN ns id = none) ∨ ∃ i, ∃ h : i < ns.length, ns.findIdx? (isUp id) = some i ∧ aboveN ns id = some ns[i] := by
 have e : aboveN ns id = ns.find? (isUp id) := rfl
 cases h : ns.findIdx? (isUp id) with
 | none =>
  refine .inl ⟨rfl, ?_⟩
  rw [e, List.find?_eq_none]
  rw [List.findIdx?_eq_none_iff] at h
  exact fun x hx => by simp [h x hx]
 | some i =>
  obtain ⟨hi, h1, _⟩ := find_of_idx h
  exact .inr ⟨i, hi, rfl, by rw [e, h1]⟩
abbrev TreO (t : TreeT) : List (Option (Nat × Obj)) := [some (0, .mem 3 [cTree t])]
def DpI (t : TreeT) (id : Int) (k : Nat) (v1 v5 : V) (st : St) : Prop := ∃ (n : Nat) (a : Int), k + n = 13 ∧ 0 < n ∧ v5 = .int .i64 ((n : Nat) : Int) ∧ v1 = .int .u32 a ∧ deepF t.nodes t.root k n a = deepD t id ∧ st = ⟨TreO t, 1⟩
theorem rDeep (h : RtR P) (t : TreeT) (id : Int) (hb : t.nodes.length < 2 ^ 40) (hw : ∀ x ∈ t.nodes, x.es.length < 2 ^ 40) : PCalls P n_gazetteerref11_Deep [.agg (cTree t), .int .u32 id] (fun r => r = .int .i64 ((deepD t id : Nat) : Int)) := by
 refine A_gazetteerref11_Deep h.deep ?_
 delta F_gazetteerref11_Deep sp sd gp gd fl fd gl
 simp [st0]
 refine ⟨DpI t id, ⟨12, GhostV.refl ⟨1, id, rfl, by omega, by simp, rfl, rfl, rfl⟩⟩, ?_⟩
 rintro k1 v1 v5 st ⟨n, a, hk, hn, rfl, rfl, hd, rfl⟩
 by_cases h12 : (n : Int) ≤ 12
 ·simp [h12]
  obtain ⟨k, rfl⟩ : ∃ k, k1 = k + 1 := ⟨k1 - 1, by omega⟩
  rw [deepF] at hd
  by_cases hr : a = t.root
  ·simp [hr] at hd ⊢
   exact GhostV.refl ⟨rfl, by rw [hd]; rfl⟩
  ·simp [hr]
   rw [if_neg hr] at hd
   refine inv_p (rAbove h.toRdR t a hb hw) rfl (by simp [pureL, V.pure, pureLL]) ?_
   rintro _ rfl
   rcases above_idx (ns := t.nodes) (id := a) with ⟨h1, h2⟩ | ⟨i, hi, h1, h2⟩
   ·rw [h2] at hd
    simp [h1, idxI]
    exact GhostV.refl ⟨rfl, by rw [← hd]; rfl⟩
   ·rw [h2] at hd
    have hi0 : ¬ ((i : Nat) : Int) < 0 := by omega
    simp [h1, idxI, hi, hi0]
    exact ⟨k, by omega, GhostV.refl ⟨n + 1, _, by omega, by omega, by rw [wadd1 (by omega)], rfl, hd, rfl⟩⟩
 ·simp [h12]
  have : k1 = 0 := by omega
  rw [this, deepF] at hd
  exact GhostV.refl ⟨rfl, by rw [← hd]; rfl⟩
end Go.Proofs.Ytmjnpfackanhlaa.AM

namespace Go.Proofs.Ytmjnpfackanhlaa.AM
open Go
set_option linter.unusedVariables false
set_option linter.unusedSimpArgs false
variable {P : Program}

open Classical in
noncomputable def rgtB (t : TreeT) : Bool := decide (Rgt t)
theorem rgtB_no {t : TreeT} (h : ¬ Rgt t) : rgtB t = false := by simp [rgtB, h]
theorem rgtB_yes {t : TreeT} (h : Rgt t) : rgtB t = true := by simp [rgtB, h]
theorem share {G Q : Prop} (h : Q) (k : Q → G) : G := k h
structure RiF (t : TreeT) (i : Nat) (L : Nat) : Prop where
 ok : ∀ j x, j < i → t.nodes[j]? = some x → NodeOk t j x
 lv : ∀ j x, j < i → t.nodes[j]? = some x → x.leaf = true → deepD t x.id = L
 sm : L ≤ 12
 wit : L ≠ 0 → ∃ j x, j < i ∧ t.nodes[j]? = some x ∧ x.leaf = true
def RiI (t : TreeT) (k : Nat) (v3 v4 : V) (st : St) : Prop := ∃ (i L nv : Nat), k = t.nodes.length - i ∧ i ≤ t.nodes.length ∧ v4 = .int .i64 ((i : Nat) : Int) ∧ v3 = .int .i64 ((L : Nat) : Int) ∧ RiF t i L ∧ st = ⟨TreO t, nv⟩
def RiK (t : TreeT) (i : Nat) (x : NodeT) (va : Nat) (k : Nat) (v7 : V) (st : St) : Prop := ∃ (j nv : Nat), k = x.es.length - j ∧ j ≤ x.es.length ∧ v7 = .int .i64 ((j : Nat) : Int) ∧ (∀ m e, m < j → x.es[m]? = some e → EntOk t i x m e) ∧ st = ⟨TreO t ++ [some (va, .mem 5 [cNode x])], nv⟩
def RiM (t : TreeT) (i : Nat) (x : NodeT) (va : Nat) (j : Nat) (e : LinkT) (vb : Nat) (k : Nat) (v9 : V) (st : St) : Prop := ∃ (a nv : Nat), k = t.nodes.length - a ∧ a ≤ t.nodes.length ∧ v9 = .int .i64 ((a : Nat) : Int) ∧
 (∀ b y m f, b < a → t.nodes[b]? = some y → y.es[m]? = some f → y.leaf = x.leaf → f.child = e.child → b = i ∧ m = j) ∧ st = ⟨TreO t ++ [some (va, .mem 5 [cNode x]), some (vb, .mem 5 [cLink e])], nv⟩
def RiN (t : TreeT) (i : Nat) (x : NodeT) (va : Nat) (j : Nat) (e : LinkT) (vb : Nat) (b : Nat) (y : NodeT) (k : Nat) (v10 : V) (st : St) : Prop := ∃ (m nv : Nat), k = y.es.length - m ∧ m ≤ y.es.length ∧ v10 = .int .i64 ((m : Nat) : Int) ∧
 (∀ n f, n < m → y.es[n]? = some f → y.leaf = x.leaf → f.child = e.child → b = i ∧ n = j) ∧ st = ⟨TreO t ++ [some (va, .mem 5 [cNode x]), some (vb, .mem 5 [cLink e])], nv⟩
def RpI (t : TreeT) (k : Nat) (v12 : V) (st : St) : Prop := ∃ (i nv : Nat), k = t.nodes.length - i ∧ i ≤ t.nodes.length ∧ v12 = .int .i64 ((i : Nat) : Int) ∧
 (∀ j x, j < i → t.nodes[j]? = some x → x.right ≠ 0 → x.right ∈ idsN t.nodes ∧ deepD t x.right = deepD t x.id) ∧ st = ⟨TreO t, nv⟩
def RqI (t : TreeT) (k : Nat) (v14 : V) (st : St) : Prop := ∃ (i nv : Nat), k = t.nodes.length - i ∧ i ≤ t.nodes.length ∧ v14 = .int .i64 ((i : Nat) : Int) ∧
 (∀ j x, j < i → t.nodes[j]? = some x → ∀ n, n < 512 → stepsF t.nodes n x.right ≠ 0 → stepsF t.nodes n x.right ≠ x.id) ∧ st = ⟨TreO t, nv⟩
def RqK (t : TreeT) (x : NodeT) (k : Nat) (v15 v16 : V) (st : St) : Prop := ∃ (n nv : Nat), k = 512 - n ∧ n ≤ 512 ∧ v16 = .int .i64 ((n : Nat) : Int) ∧ v15 = .int .u32 (stepsF t.nodes n x.right) ∧
 (stepsF t.nodes n x.right = 0 ∨ stepsF t.nodes n x.right ∈ idsN t.nodes) ∧ (∀ m, m < n → stepsF t.nodes m x.right ≠ 0 → stepsF t.nodes m x.right ≠ x.id) ∧ st = ⟨TreO t, nv⟩
def RiJ (t : TreeT) (x : NodeT) (va : Nat) (L : Nat) (v : V) (st : St) : Prop := ∃ nv, v = .int .i64 ((L : Nat) : Int) ∧ st = ⟨TreO t ++ [some (va, .mem 5 [cNode x])], nv⟩
set_option maxHeartbeats 2000000 in
set_option maxRecDepth 8000 in
theorem rRight11 (h : RtR P) (t : TreeT) (hb : t.nodes.length < 2 ^ 40) (hw : ∀ x ∈ t.nodes, x.es.length < 2 ^ 40) : PCalls P n_gazetteerref11_Right [.agg (cTree t)] (fun r => r = .bool (rgtB t)) := by
  refine A_gazetteerref11_Right h.right11 ?_
  delta F_gazetteerref11_Right sp sd gp gd fl fd gl
  simp [st0]
  have bad : ¬ Rgt t → ∀ {st : St}, GhostV [.bool false] st fun vs st => (mkres vs).pure = true ∧ mkres vs = .bool (rgtB t) := fun hb st => GhostV.refl ⟨rfl, by simp [rgtB_no hb]⟩
  by_cases hl : (512 : Int) < t.nodes.length
  · simp [hl]
    exact bad (fun H => by have := H.len; omega)
  simp [hl]
  refine inv_p (rAt h.toRdR t t.root hb) rfl (by simp [pureL, V.pure, pureLL]) ?_
  rintro _ rfl
  cases hroot : t.nodes.findIdx? (isId t.root) with
  | none =>
    simp [hl, idxI]
    refine bad (fun H => ?_)
    obtain ⟨x, hx⟩ := findN_ids H.root
    obtain ⟨i, _, hi, _⟩ := findN_idx hx
    rw [hroot] at hi; cases hi
  | some ir =>
    obtain ⟨hir, hir1, _⟩ := find_of_idx hroot
    have hroot' : t.root ∈ idsN t.nodes := by
      obtain ⟨h1, h2⟩ := findN_some hir1
      exact List.mem_map.2 ⟨_, h1, h2⟩
    have hi0 : ¬ ((ir : Nat) : Int) < 0 := by omega
    simp [hl, idxI, hi0]
    refine ⟨RiI t, ⟨t.nodes.length, GhostV.refl ⟨0, 0, 1, by simp, by omega, by simp, by simp, ⟨fun j x hj => by omega, fun j x hj => by omega, by omega, fun h0 => absurd rfl h0⟩, rfl⟩⟩, ?_⟩
    rintro k1 v3 v4 st ⟨i, L, nv, rfl, hi, rfl, rfl, hF, rfl⟩
    by_cases hlt : i < t.nodes.length
    · obtain ⟨x, hx⟩ : ∃ x, x = t.nodes[i] := ⟨_, rfl⟩
      have hxi : t.nodes[i]? = some x := by rw [List.getElem?_eq_getElem hlt, hx]
      have hxm : x ∈ t.nodes := List.mem_of_getElem? hxi
      have hwx := hw x hxm
      have hno : ¬ NodeOk t i x → ¬ Rgt t := fun hn H => hn (H.node i x hxi)
      simp [hlt, ← hx]
      by_cases hid : x.id = 0
      · simp [hid, cd]
        exact bad (hno (fun H => H.pos hid))
      by_cases hord : 0 < i ∧ ∃ y, t.nodes[i - 1]? = some y ∧ x.id ≤ y.id
      · obtain ⟨hi1, y, hy, hle⟩ := hord
        obtain ⟨hlt1, hy1⟩ := List.getElem?_eq_some_iff.1 hy
        simp [hid, cd, hi1]
        rw [wsub1 (by omega) (by omega)]
        simp [hid, hi1, hlt1, hy1, hle, cd]
        exact bad (hno (fun H => by have := H.ord hi1 y hy; omega))
      have hordn : 0 < i → ∀ y, t.nodes[i - 1]? = some y → y.id < x.id := fun h0 y hy => by
        refine Classical.byContradiction (fun hn => hord ⟨h0, y, hy, by omega⟩)
      apply share
      case k =>
        intro rest
        rcases Nat.eq_zero_or_pos i with hi1 | hi1
        · simp [hid, cd, hi1]
          exact rest
        · have hlt1 : i - 1 < t.nodes.length := by omega
          have hle : ¬ x.id ≤ t.nodes[i - 1].id := by
            have := hordn (by omega) t.nodes[i - 1] (by rw [List.getElem?_eq_getElem hlt1])
            omega
          simp [hid, cd, hi1]
          rw [wsub1 (by omega) (by omega)]
          simp [hid, hi1, hlt1, hle, cd]
          exact rest
      by_cases h4 : (4 : Int) < x.es.length
      · simp [h4, cd]
        exact bad (hno (fun H => by have := H.wid; omega))
      simp [h4, cd]
      by_cases hmk : t.count < x.mark
      · simp [hmk, h4, cd]
        exact bad (hno (fun H => by have := H.mark; omega))
      simp [hmk, h4, cd]
      by_cases hbd : x.es = [] ∧ ¬ (x.leaf = true ∧ x.id = t.root)
      · obtain ⟨he, hlr⟩ := hbd
        cases hlf : x.leaf
        · simp [he, hlf]
          exact bad (hno (fun H => by have := (H.ne he).1; rw [hlf] at this; cases this))
        · have hir : ¬ x.id = t.root := fun e => hlr ⟨hlf, e⟩
          simp [he, hlf, hir]
          exact bad (hno (fun H => hir (H.ne he).2))
      have hnen : x.es = [] → x.leaf = true ∧ x.id = t.root := fun he => Classical.byContradiction (fun hn => hbd ⟨he, hn⟩)
      apply share
      case k =>
        intro rest
        by_cases he : x.es = []
        · obtain ⟨h1, h2⟩ := hnen he
          have d0 : decide (x.es = []) = true := decide_eq_true he
          have d1 : (!x.leaf) = false := by rw [h1]; rfl
          have d2 : decide (x.id = t.root) = true := decide_eq_true h2
          simp only [d0]
          simp [d0, d1, d2]
          exact rest
        · simp [he]
          exact rest
      refine inv_p (rDeep h t x.id hb hw) rfl (by simp [pureL, V.pure, pureLL]) ?_
      rintro _ rfl
      by_cases hd : deepD t x.id = 0
      · simp [hd]
        exact bad (hno (fun H => H.deep hd))
      simp [hd]
      by_cases hab : x.id = t.root ∧ aboveN t.nodes x.id ≠ none
      · have d2 : decide (x.id = t.root) = true := decide_eq_true hab.1
        simp [d2]
        refine inv_p (rAbove h.toRdR t x.id hb hw) rfl (by simp [pureL, V.pure, pureLL]) ?_
        rintro _ rfl
        rcases above_idx (ns := t.nodes) (id := x.id) with ⟨h1, h2⟩ | ⟨ia, hia, h1, h2⟩
        · exact absurd h2 hab.2
        · have hi0 : (0 : Int) ≤ ((ia : Nat) : Int) := by omega
          simp [h1, idxI, hi0, d2]
          exact bad (hno (fun H => by have := H.top hab.1; rw [h2] at this; cases this))
      have htop : x.id = t.root → aboveN t.nodes x.id = none := fun e => Classical.byContradiction (fun hn => hab ⟨e, hn⟩)
      apply share
      case k =>
        intro rest
        by_cases hr : x.id = t.root
        · have d2 : decide (x.id = t.root) = true := decide_eq_true hr
          simp [d2]
          refine inv_p (rAbove h.toRdR t x.id hb hw) rfl (by simp [pureL, V.pure, pureLL]) ?_
          rintro _ rfl
          rcases above_idx (ns := t.nodes) (id := x.id) with ⟨h1, h2⟩ | ⟨ia, hia, h1, h2⟩
          · simp [h1, idxI, d2]
            exact rest
          · rw [htop hr] at h2; cases h2
        · simp [hr]
          exact rest
      by_cases hlv : x.leaf = true ∧ L ≠ 0 ∧ L ≠ deepD t x.id
      · obtain ⟨h1, h2, h3⟩ := hlv
        have d1 : x.leaf = true := h1
        have h3' : ¬ ((L : Nat) : Int) = ((deepD t x.id : Nat) : Int) := by omega
        simp [h1, h2, h3]
        obtain ⟨j, y, hj, hy, hyl⟩ := hF.wit h2
        refine bad (fun H => h3 ?_)
        rw [← hF.lv j y hj hy hyl]
        exact H.leaves y (List.mem_of_getElem? hy) x hxm hyl h1
      have hlvn : x.leaf = true → L ≠ 0 → L = deepD t x.id := fun h1 h2 => Classical.byContradiction (fun hn => hlv ⟨h1, h2, hn⟩)
      obtain ⟨L', hL'⟩ : ∃ L', L' = if x.leaf then deepD t x.id else L := ⟨_, rfl⟩
      apply share
      case k =>
        intro rest
        by_cases hlf : x.leaf = true
        · have gT : ∀ (op : RO) (st : St) [K : Kont], gst P (V.bool x.leaf) true op st = gst P (V.bool true) true op st := fun op st K => by rw [hlf]
          have pT : ∀ (y z : X), RO.pick (X.c (V.bool x.leaf)) y z = RO.pick (X.c (V.bool true)) y z := fun y z => by rw [hlf]
          by_cases h0 : L = 0
          · have d2 : decide (L = 0) = true := decide_eq_true h0
            simp [gT, pT, d2]
            exact rest
          · have hne := hlvn hlf h0
            have d3 : decide (L = deepD t x.id) = true := decide_eq_true hne
            simp [gT, pT, h0, d3]
            exact rest
        · have hlf' : x.leaf = false := by simpa using hlf
          have gT : ∀ (op : RO) (st : St) [K : Kont], gst P (V.bool x.leaf) true op st = gst P (V.bool false) true op st := fun op st K => by rw [hlf']
          have pT : ∀ (y z : X), RO.pick (X.c (V.bool x.leaf)) y z = RO.pick (X.c (V.bool false)) y z := fun y z => by rw [hlf']
          simp [gT, pT]
          exact rest
      refine ⟨RiJ t x nv L', ?_, ?_⟩
      · cases hlf : x.leaf
        · simp [hlf]
          exact GhostV.refl ⟨nv + 1, by rw [hL', hlf]; rfl, by simp [hlf]⟩
        · simp [hlf]
          exact GhostV.refl ⟨nv + 1, by rw [hL', hlf]; rfl, by simp [hlf]⟩
      rintro v3 st ⟨nv2, rfl, rfl⟩
      refine ⟨RiK t i x nv, ⟨x.es.length, GhostV.refl ⟨0, nv2, by simp, by omega, by simp, fun m e hm => by omega, rfl⟩⟩, ?_⟩
      rintro k3 v7 st ⟨j, nv3, rfl, hj, rfl, hEs, rfl⟩
      by_cases hlj : j < x.es.length
      · obtain ⟨e, he⟩ : ∃ e, e = x.es[j] := ⟨_, rfl⟩
        have hej : x.es[j]? = some e := by rw [List.getElem?_eq_getElem hlj, he]
        have hnoe : ¬ EntOk t i x j e → ¬ Rgt t := fun hn => hno (fun H => hn (H.ent j e hej))
        simp [hlj, ← he]
        by_cases hc0 : e.child = 0
        · simp [hc0]
          exact bad (hnoe (fun H => H.pos hc0))
        simp [hc0]
        refine inv_p (rBox h.toKyR e.key) rfl rfl ?_
        rintro _ rfl
        cases hbx : boxK e.key
        · simp [hc0]
          exact bad (hnoe (fun H => by have := H.box; rw [hbx] at this; cases this))
        simp [hc0]
        refine ⟨RiM t i x nv j e nv3, ⟨t.nodes.length, GhostV.refl ⟨0, nv3 + 1, by simp, by omega, by simp, fun b y m f hm => by omega, by simp⟩⟩, ?_⟩
        rintro k4 v9 st ⟨b, nv4, rfl, hb4, rfl, hone, rfl⟩
        simp
        by_cases hlb : b < t.nodes.length
        · obtain ⟨y, hy⟩ : ∃ y, y = t.nodes[b] := ⟨_, rfl⟩
          have hyb : t.nodes[b]? = some y := by rw [List.getElem?_eq_getElem hlb, hy]
          have hwy := hw y (List.mem_of_getElem? hyb)
          simp [hlb]
          refine ⟨RiN t i x nv j e nv3 b y, ⟨y.es.length, GhostV.refl ⟨0, nv4, by simp, by omega, by simp, fun n f hm => by omega, by simp⟩⟩, ?_⟩
          rintro k5 v10 st ⟨m, nv5, rfl, hm, rfl, hone2, rfl⟩
          simp [hlb, ← hy]
          by_cases hlm : m < y.es.length
          · obtain ⟨f, hf⟩ : ∃ f, f = y.es[m] := ⟨_, rfl⟩
            have hfm : y.es[m]? = some f := by rw [List.getElem?_eq_getElem hlm, hf]
            simp [hlm, hlb, ← hy, ← hf, cd]
            have hdone : ¬ ((y.leaf == x.leaf) = true ∧ ¬ (b = i ∧ m = j) ∧ f.child = e.child) → ∀ n g, n < m + 1 → y.es[n]? = some g → y.leaf = x.leaf → g.child = e.child → b = i ∧ n = j := fun hnd n g hn hg hl' hc' => by
              by_cases hnm : n = m
              · subst hnm
                rw [hfm] at hg
                obtain rfl : f = g := Option.some.inj hg
                exact Classical.byContradiction (fun hn2 => hnd ⟨by simpa using hl', hn2, hc'⟩)
              · exact hone2 n g (by omega) hg hl' hc'
            by_cases hle : (y.leaf == x.leaf) = true
            · by_cases hbm : b = i ∧ m = j
              · have d1 : decide (b = i) = true := decide_eq_true hbm.1
                have d2 : decide (m = j) = true := decide_eq_true hbm.2
                simp [hle, d1, d2]
                refine ⟨y.es.length - (m + 1), by omega, GhostV.refl ⟨m + 1, nv5, rfl, by omega, by rw [wadd1 (by omega)], hdone (fun hh => hh.2.1 hbm), rfl⟩⟩
              · by_cases hcc : f.child = e.child
                · have hb2 : ¬ Rgt t := hnoe (fun H => hbm (H.one b y m f hyb hfm (by simpa using hle) hcc))
                  have d3 : decide (f.child = e.child) = true := decide_eq_true hcc
                  by_cases hbi : b = i
                  · have d1 : decide (b = i) = true := decide_eq_true hbi
                    have hmj : ¬ m = j := fun e => hbm ⟨hbi, e⟩
                    simp [hle, d1, hmj, hlb, hlm, ← hy, ← hf, d3]
                    exact bad hb2
                  · simp [hle, hbi, hlb, hlm, ← hy, ← hf, d3]
                    exact bad hb2
                · have hfin := hdone (fun hh => hcc hh.2.2)
                  by_cases hbi : b = i
                  · have d1 : decide (b = i) = true := decide_eq_true hbi
                    have hmj : ¬ m = j := fun e => hbm ⟨hbi, e⟩
                    simp [hle, d1, hmj, hlb, hlm, ← hy, ← hf, hcc]
                    exact ⟨y.es.length - (m + 1), by omega, GhostV.refl ⟨m + 1, nv5, rfl, by omega, by rw [wadd1 (by omega)], hfin, rfl⟩⟩
                  · simp [hle, hbi, hlb, hlm, ← hy, ← hf, hcc]
                    exact ⟨y.es.length - (m + 1), by omega, GhostV.refl ⟨m + 1, nv5, rfl, by omega, by rw [wadd1 (by omega)], hfin, rfl⟩⟩
            · have hle' : (y.leaf == x.leaf) = false := by simpa using hle
              simp [hle']
              refine ⟨y.es.length - (m + 1), by omega, GhostV.refl ⟨m + 1, nv5, rfl, by omega, by rw [wadd1 (by omega)], hdone (fun hh => hle hh.1), rfl⟩⟩
          · simp [hlm]
            refine ⟨t.nodes.length - (b + 1), by omega, GhostV.refl ⟨b + 1, nv5, rfl, by omega, by rw [wadd1 (by omega)], fun b' y' m' f' hb' hy' hf' hl' hc' => ?_, rfl⟩⟩
            by_cases hbb : b' = b
            · subst hbb
              rw [hyb] at hy'
              obtain rfl : y = y' := Option.some.inj hy'
              exact hone2 m' f' (by have := (List.getElem?_eq_some_iff.1 hf').1; omega) hf' hl' hc'
            · exact hone b' y' m' f' (by omega) hy' hf' hl' hc'
        · have hall : ∀ b y m f, t.nodes[b]? = some y → y.es[m]? = some f → y.leaf = x.leaf → f.child = e.child → b = i ∧ m = j := fun b y m f hy hf hl' hc' => hone b y m f (by have := (List.getElem?_eq_some_iff.1 hy).1; omega) hy hf hl' hc'
          have hnext : (x.leaf = false → ∃ c, findN t.nodes e.child = some c ∧ c.es ≠ [] ∧ boundK c.es = e.key) → ∀ m g, m < j + 1 → x.es[m]? = some g → EntOk t i x m g := fun hin m g hm hg => by
            by_cases hmj : m = j
            · subst hmj
              rw [hej] at hg
              obtain rfl : e = g := Option.some.inj hg
              exact ⟨hc0, hbx, hall, hin⟩
            · exact hEs m g (by omega) hg
          have hstep : (x.leaf = false → ∃ c, findN t.nodes e.child = some c ∧ c.es ≠ [] ∧ boundK c.es = e.key) → ∃ j1, j1 < x.es.length - j ∧ RiK t i x nv j1 (.int .i64 (IntKind.i64.wrap ((j : Int) + 1))) ⟨TreO t ++ [some (nv, .mem 5 [cNode x])], nv4⟩ := fun hin =>
            ⟨x.es.length - (j + 1), by omega, j + 1, nv4, rfl, by omega, by rw [wadd1 (by omega)], hnext hin, rfl⟩
          simp [hlb]
          refine cd (fun hlf => ?_) (fun hlf => ?_)
          · have hlf' : x.leaf = false := by simpa using hlf
            simp
            refine inv_p (rAt h.toRdR t e.child hb) rfl (by simp [pureL, V.pure, pureLL]) ?_
            rintro _ rfl
            cases hci : t.nodes.findIdx? (isId e.child) with
            | none =>
              simp [idxI, cd]
              refine bad (hnoe (fun H => ?_))
              obtain ⟨c, hc, _⟩ := H.inn hlf'
              obtain ⟨_, _, hi, _⟩ := findN_idx hc
              rw [hci] at hi; cases hi
            | some ic =>
              obtain ⟨hic, hc1, _⟩ := find_of_idx hci
              have hi0 : ¬ ((ic : Nat) : Int) < 0 := by omega
              obtain ⟨c, hc⟩ : ∃ c, c = t.nodes[ic] := ⟨_, rfl⟩
              have hfc : findN t.nodes e.child = some c := by rw [hc]; exact hc1
              have hwc := hw c (findN_some hfc).1
              rw [show idxI (some ic) = ((ic : Nat) : Int) from rfl]
              simp [hi0, hic, ← hc, cd]
              by_cases hce : c.es = []
              · have d1 : decide (c.es = []) = true := decide_eq_true hce
                simp [d1, hi0, cd]
                exact bad (hnoe (fun H => by
                  obtain ⟨c', h1, h2, _⟩ := H.inn hlf'
                  rw [hfc] at h1
                  obtain rfl : c = c' := Option.some.inj h1
                  exact h2 hce))
              · simp [hce, hi0, hic, ← hc, cd]
                refine inv_p (rBound h.toKyR c.es (List.length_pos_iff.2 hce) hwc) rfl (by simp [pureL, V.pure, pureLL]) ?_
                rintro _ rfl
                simp [hce, hi0, hic, ← hc, cd]
                have hkk : boundK c.es ≠ e.key → ¬ Rgt t := fun hn => hnoe (fun H => by
                  obtain ⟨c', h1, _, h2⟩ := H.inn hlf'
                  rw [hfc] at h1
                  obtain rfl : c = c' := Option.some.inj h1
                  exact hn h2)
                refine cd (fun hb => ?_) (fun hb => ?_)
                · simp
                  refine bad (hkk (fun e1 => ?_))
                  rw [e1] at hb
                  simp at hb
                · simp at hb
                  have hk : boundK c.es = e.key := by
                    cases h1 : boundK c.es
                    cases h2 : e.key
                    rw [h1, h2] at hb
                    simp at hb ⊢
                    exact hb
                  simp
                  obtain ⟨j1, hj1, hR⟩ := hstep (fun _ => ⟨c, hfc, hce, hk⟩)
                  exact ⟨j1, hj1, GhostV.keep (L := TreO t ++ [some (nv, .mem 5 [cNode x])]) (M := [some (nv3, .mem 5 [cLink e])]) hR⟩
          · have hlf' : x.leaf = true := by simpa using hlf
            simp
            obtain ⟨j1, hj1, hR⟩ := hstep (fun e => by rw [hlf'] at e; cases e)
            exact ⟨j1, hj1, GhostV.keep (L := TreO t ++ [some (nv, .mem 5 [cNode x])]) (M := [some (nv3, .mem 5 [cLink e])]) hR⟩
      · have hallE : ∀ m e, x.es[m]? = some e → EntOk t i x m e := fun m e he => hEs m e (by have := (List.getElem?_eq_some_iff.1 he).1; omega) he
        have hNx : NodeOk t i x := ⟨hid, hordn, by omega, by omega, hnen, hd, htop, hallE⟩
        simp [hlj]
        refine ⟨t.nodes.length - (i + 1), by omega, GhostV.keep (L := TreO t) (M := [some (nv, .mem 5 [cNode x])]) ⟨i + 1, L', nv3, rfl, by omega, by rw [wadd1 (by omega)], rfl, ⟨fun j y hj hy => ?_, fun j y hj hy hyl => ?_, ?_, fun h0 => ?_⟩, rfl⟩⟩
        · by_cases hji : j = i
          · subst hji
            rw [hxi] at hy
            obtain rfl : x = y := Option.some.inj hy
            exact hNx
          · exact hF.ok j y (by omega) hy
        · by_cases hji : j = i
          · subst hji
            rw [hxi] at hy
            obtain rfl : x = y := Option.some.inj hy
            rw [hL', if_pos hyl]
          · have h1 := hF.lv j y (by omega) hy hyl
            rw [hL']
            split
            · rename_i hxl
              have h2 := (hF.ok j y (by omega) hy).deep
              rw [h1]
              exact hlvn hxl (by omega)
            · exact h1
        · rw [hL']
          split
          · exact deepD_le t x.id
          · exact hF.sm
        · rw [hL'] at h0
          cases hlf : x.leaf with
          | true => exact ⟨i, x, by omega, hxi, hlf⟩
          | false =>
            rw [hlf] at h0
            obtain ⟨j, y, hj, hy, hyl⟩ := hF.wit h0
            exact ⟨j, y, by omega, hy, hyl⟩
    · have hNall : ∀ j x, t.nodes[j]? = some x → NodeOk t j x := fun j x hx => hF.ok j x (by have := (List.getElem?_eq_some_iff.1 hx).1; omega) hx
      have hLall : ∀ x ∈ t.nodes, ∀ y ∈ t.nodes, x.leaf = true → y.leaf = true → deepD t x.id = deepD t y.id := fun x hx y hy hxl hyl => by
        obtain ⟨a, ha, e1⟩ := List.getElem_of_mem hx
        obtain ⟨b, hb, e2⟩ := List.getElem_of_mem hy
        rw [hF.lv a x (by omega) (List.getElem?_eq_some_iff.2 ⟨ha, e1⟩) hxl, hF.lv b y (by omega) (List.getElem?_eq_some_iff.2 ⟨hb, e2⟩) hyl]
      simp [hlt]
      refine ⟨RpI t, ⟨t.nodes.length, GhostV.refl ⟨0, nv, by simp, by omega, by simp, fun j x hj => by omega, rfl⟩⟩, ?_⟩
      rintro k6 v12 st ⟨i6, nv6, rfl, hi6, rfl, hR6, rfl⟩
      by_cases hlt6 : i6 < t.nodes.length
      · obtain ⟨x, hx⟩ : ∃ x, x = t.nodes[i6] := ⟨_, rfl⟩
        have hxi : t.nodes[i6]? = some x := by rw [List.getElem?_eq_getElem hlt6, hx]
        have hxm : x ∈ t.nodes := List.mem_of_getElem? hxi
        simp [hlt6, ← hx]
        have hnext : (x.right ≠ 0 → x.right ∈ idsN t.nodes ∧ deepD t x.right = deepD t x.id) → ∃ j1, j1 < t.nodes.length - i6 ∧ RpI t j1 (.int .i64 (IntKind.i64.wrap ((i6 : Int) + 1))) ⟨TreO t, nv6 + 1⟩ := fun hn =>
          ⟨t.nodes.length - (i6 + 1), by omega, i6 + 1, nv6 + 1, rfl, by omega, by rw [wadd1 (by omega)], fun j y hj hy hne => by
            by_cases hji : j = i6
            · subst hji
              rw [hxi] at hy
              obtain rfl : x = y := Option.some.inj hy
              exact hn hne
            · exact hR6 j y (by omega) hy hne, rfl⟩
        by_cases hr0 : x.right = 0
        · have d1 : decide (x.right = 0) = true := decide_eq_true hr0
          simp [d1]
          obtain ⟨j1, hj1, hR⟩ := hnext (fun h => absurd hr0 h)
          exact ⟨j1, hj1, GhostV.keep (L := TreO t) (M := [some (nv6, .mem 5 [cNode x])]) hR⟩
        · simp [hr0]
          refine inv_p (rAt h.toRdR t x.right hb) rfl (by simp [pureL, V.pure, pureLL]) ?_
          rintro _ rfl
          cases hci : t.nodes.findIdx? (isId x.right) with
          | none =>
            simp [idxI, cd]
            refine bad (fun H => ?_)
            obtain ⟨c, hc⟩ := findN_ids (H.rights x hxm hr0).1
            obtain ⟨_, _, hi, _⟩ := findN_idx hc
            rw [hci] at hi; cases hi
          | some ic =>
            obtain ⟨hic, hc1, _⟩ := find_of_idx hci
            have hi0 : ¬ ((ic : Nat) : Int) < 0 := by omega
            have hrin : x.right ∈ idsN t.nodes := by
              obtain ⟨g1, g2⟩ := findN_some hc1
              exact List.mem_map.2 ⟨_, g1, g2⟩
            rw [show idxI (some ic) = ((ic : Nat) : Int) from rfl]
            simp [hi0, cd]
            refine inv_p (rDeep h t x.right hb hw) rfl (by simp [pureL, V.pure, pureLL]) ?_
            rintro _ rfl
            simp [hi0, cd]
            refine inv_p (rDeep h t x.id hb hw) rfl (by simp [pureL, V.pure, pureLL]) ?_
            rintro _ rfl
            simp [hi0, cd]
            by_cases hdd : deepD t x.right = deepD t x.id
            · have d1 : decide (deepD t x.right = deepD t x.id) = true := decide_eq_true hdd
              simp [d1]
              obtain ⟨j1, hj1, hR⟩ := hnext (fun _ => ⟨hrin, hdd⟩)
              exact ⟨j1, hj1, GhostV.keep (L := TreO t) (M := [some (nv6, .mem 5 [cNode x])]) hR⟩
            · simp [hdd]
              exact bad (fun H => hdd (H.rights x hxm hr0).2)
      · have hRall : ∀ x ∈ t.nodes, x.right ≠ 0 → x.right ∈ idsN t.nodes ∧ deepD t x.right = deepD t x.id := fun x hx hne => by
          obtain ⟨a, ha, e1⟩ := List.getElem_of_mem hx
          exact hR6 a x (by omega) (List.getElem?_eq_some_iff.2 ⟨ha, e1⟩) hne
        simp [hlt6]
        refine ⟨RqI t, ⟨t.nodes.length, GhostV.refl ⟨0, nv6, by simp, by omega, by simp, fun j x hj => by omega, rfl⟩⟩, ?_⟩
        rintro k7 v14 st ⟨i7, nv7, rfl, hi7, rfl, hR7, rfl⟩
        by_cases hlt7 : i7 < t.nodes.length
        · obtain ⟨x, hx⟩ : ∃ x, x = t.nodes[i7] := ⟨_, rfl⟩
          have hxi : t.nodes[i7]? = some x := by rw [List.getElem?_eq_getElem hlt7, hx]
          have hxm : x ∈ t.nodes := List.mem_of_getElem? hxi
          simp [hlt7, ← hx]
          refine ⟨RqK t x, ⟨512, GhostV.refl ⟨0, nv7, by simp, by omega, by simp, rfl, ?_, fun m hm => by omega, rfl⟩⟩, ?_⟩
          · rw [stepsF]
            by_cases e : x.right = 0
            · exact .inl e
            · exact .inr (hRall x hxm e).1
          rintro k8 v15 v16 st ⟨n, nv8, rfl, hn8, rfl, rfl, hin, hch, rfl⟩
          obtain ⟨at', hat'⟩ : ∃ at', at' = stepsF t.nodes n x.right := ⟨_, rfl⟩
          rw [← hat'] at hin ⊢
          have hfin : (∀ m, m < 512 → stepsF t.nodes m x.right ≠ 0 → stepsF t.nodes m x.right ≠ x.id) → ∃ j1, j1 < t.nodes.length - i7 ∧ RqI t j1 (.int .i64 (IntKind.i64.wrap ((i7 : Int) + 1))) ⟨TreO t, nv8⟩ := fun hf =>
            ⟨t.nodes.length - (i7 + 1), by omega, i7 + 1, nv8, rfl, by omega, by rw [wadd1 (by omega)], fun j y hj hy => by
              by_cases hji : j = i7
              · subst hji
                rw [hxi] at hy
                obtain rfl : x = y := Option.some.inj hy
                exact hf
              · exact hR7 j y (by omega) hy, rfl⟩
          by_cases hn5 : n < 512
          · have hn5' : (n : Int) < 512 := by omega
            by_cases ha0 : at' = 0
            · simp [hn5', ha0]
              obtain ⟨j1, hj1, hR⟩ := hfin (fun m hm hne => by
                by_cases hmn : m < n
                · exact hch m hmn hne
                · obtain ⟨q, rfl⟩ : ∃ q, m = n + q := ⟨m - n, by omega⟩
                  rw [stepsF_add, ← hat', ha0, stepsF_zero] at hne
                  exact absurd rfl hne)
              exact ⟨j1, hj1, GhostV.refl hR⟩
            · simp [hn5', ha0, hlt7, ← hx]
              by_cases hax : at' = x.id
              · have d1 : decide (at' = x.id) = true := decide_eq_true hax
                simp [d1]
                exact bad (fun H => H.chain x hxm n hn5 (by rw [← hat']; exact ha0) (by rw [← hat']; exact hax))
              · have hia : at' ∈ idsN t.nodes := hin.resolve_left ha0
                obtain ⟨y, hfy⟩ := findN_ids hia
                obtain ⟨ic, hic, hci, hcy⟩ := findN_idx hfy
                have hym := (findN_some hfy).1
                have hst : stepsF t.nodes (n + 1) x.right = y.right := by
                  rw [stepsF_add t.nodes 1 n, ← hat', stepsF, if_neg ha0, stepsF]
                  unfold rightN
                  rw [hfy]
                simp [hax]
                refine inv_p (rAt h.toRdR t at' hb) rfl (by simp [pureL, V.pure, pureLL]) ?_
                rintro _ rfl
                rw [hci, show idxI (some ic) = ((ic : Nat) : Int) from rfl]
                have hi0 : ¬ ((ic : Nat) : Int) < 0 := by omega
                simp [hic, hcy, cd]
                refine ⟨512 - (n + 1), by omega, GhostV.refl ⟨n + 1, nv8, rfl, by omega, by rw [wadd1 (by omega)], by rw [hst], ?_, fun m hm hne => ?_, rfl⟩⟩
                · rw [hst]
                  by_cases e : y.right = 0
                  · exact .inl e
                  · exact .inr (hRall y hym e).1
                · by_cases hmn : m = n
                  · rw [hmn, ← hat']; exact hax
                  · exact hch m (by omega) hne
          · have hn5' : ¬ (n : Int) < 512 := by omega
            simp [hn5']
            obtain ⟨j1, hj1, hR⟩ := hfin (fun m hm => hch m (by omega))
            exact ⟨j1, hj1, GhostV.refl hR⟩
        · simp [hlt7]
          exact GhostV.refl ⟨rfl, by rw [rgtB_yes ⟨by omega, hroot', hNall, hLall, hRall, fun x hx => by
            obtain ⟨a, ha, e1⟩ := List.getElem_of_mem hx
            exact hR7 a x (by omega) (List.getElem?_eq_some_iff.2 ⟨ha, e1⟩)⟩]; rfl⟩
end Go.Proofs.Ytmjnpfackanhlaa.AM

namespace Go.Proofs.Ytmjnpfackanhlaa.AM
open Go
set_option linter.unusedVariables false
set_option linter.unusedSimpArgs false
variable {P : Program}

structure LvR (P : Program) : Prop extends RtR P, PlR P where
 leaves : R_tree_grove_leaves P
 leaves1 : R_tree_grove_leaves_1 P
 row11 : R_tree_Row P
def leafL (t : TreeT) (j : Nat) : List (Int × LinkT) := match t.nodes[j]? with
 | some x => if x.leaf then x.es.map (fun e => (x.id, e)) else []
 | none => []
def leavesD (t : TreeT) (ys : List (Int × LinkT)) : Prop := ∃ ps : List Nat, ps.Nodup ∧ (∀ j, j ∈ ps ↔ j < t.nodes.length) ∧ ys = ps.flatMap (leafL t)
def cLeaf (p : Int × LinkT) : List V := [.int .u32 p.1, .agg (cLink p.2)]
structure LeafQ (t : TreeT) (b v1 v2 v3 ep : Nat) (most : Int) (vs : List Nat) (c vc : Nat) (L : List (Option (Nat × Obj))) : Prop where
 box : L[c]? = some (some (vc, .mem 1 [[.ptr (b + 3) v3 0 0]]))
 gv : L[b + 3]? = some (some (v3, .mem 5 [[.map (b + 1) v1, .map (b + 2) v2, .int .u32 t.root, .int .u64 t.count, .int .u32 most]]))
 nm : L[b + 1]? = some (some (v1, .map ep (eM (nodeE (b + 4) t.nodes vs))))
 nd : ∀ i (h : i < t.nodes.length) v, vs[i]? = some v → L[b + 4 + i]? = some (some (v, .mem 5 [cNode t.nodes[i]]))
theorem LeafQ.app {t : TreeT} {b v1 v2 v3 ep : Nat} {most : Int} {vs : List Nat} {c vc : Nat} {L : List (Option (Nat × Obj))} (h : LeafQ t b v1 v2 v3 ep most vs c vc L) (M : List (Option (Nat × Obj))) : LeafQ t b v1 v2 v3 ep most vs c vc (L ++ M) := by
 have up : ∀ {i : Nat} {x : Option (Nat × Obj)}, L[i]? = some x → (L ++ M)[i]? = some x := fun {i x} e => by rw [List.getElem?_append_left (List.getElem?_eq_some_iff.1 e).1]; exact e
 exact ⟨up h.box, up h.gv, up h.nm, fun i hi v hv => up (h.nd i hi v hv)⟩
theorem leaves_rest (t : TreeT) {ps : List Nat} (hn : ps.Nodup) (hl : ∀ j ∈ ps, j < t.nodes.length) : ∃ rest, leavesD t (ps.flatMap (leafL t) ++ rest) := by
 refine ⟨((List.range t.nodes.length).filter (fun j => !decide (j ∈ ps))).flatMap (leafL t), ps ++ (List.range t.nodes.length).filter (fun j => !decide (j ∈ ps)), ?_, fun j => ?_, by rw [List.flatMap_append]⟩
 ·rw [List.nodup_append]
  refine ⟨hn, List.nodup_range.filter _, fun a ha c hc e => ?_⟩
  subst e
  simp [ha] at hc
 ·rw [List.mem_append, List.mem_filter, List.mem_range]
  constructor
  ·rintro (h | h)
   ·exact hl j h
   ·exact h.1
  ·intro h
   by_cases hj : j ∈ ps
   ·exact .inl hj
   ·exact .inr ⟨h, by simp [hj]⟩
theorem nodup_rev {l : List Nat} (h : l.Nodup) : l.reverse.Nodup := by
 rw [List.nodup_iff_pairwise_ne, List.pairwise_reverse]
 exact (List.nodup_iff_pairwise_ne.1 h).imp (fun h => h.symm)
def LvI1 (t : TreeT) (b v1 ep vi : Nat) (J : List (Int × LinkT) → List (Option (Nat × Obj)) → Prop) (k : Nat) (st : St) : Prop :=
 ∃ seen nv L', k = t.nodes.length - seen.length ∧ seen.Nodup ∧ (∀ j ∈ seen, j < t.nodes.length) ∧ J (seen.reverse.flatMap (leafL t)) L' ∧ st = ⟨L' ++ [some (vi, .iter (b + 1) v1 ep seen)], nv⟩
def LvI2 (x : NodeT) (ys : List (Int × LinkT)) (it : Option (Nat × Obj)) (J : List (Int × LinkT) → List (Option (Nat × Obj)) → Prop) (k : Nat) (v : V) (st : St) : Prop :=
 ∃ i nv L', k = x.es.length - i ∧ i ≤ x.es.length ∧ v = .int .i64 ((i : Nat) : Int) ∧ J (ys ++ if x.leaf then (x.es.take i).map (fun e => (x.id, e)) else []) L' ∧ st = ⟨L' ++ [it], nv⟩
set_option maxHeartbeats 1000000 in
theorem leaves_iter (h : LvR P) (t : TreeT) (hs : smallT t) {b v1 v2 v3 ep : Nat} {most : Int} {vs : List Nat} (hvl : vs.length = t.nodes.length) {c vc : Nat} :
    IterC P cLeaf (.fn (.func n_tree_grove_leaves_1) [] [.ptr c vc 0 0]) (LeafQ t b v1 v2 v3 ep most vs c vc) (leavesD t) := by
  intro yv N J S L0 nv0 K hJ hS hy h0 hk hks
  refine AInvE_fn (first := []) ?_
  refine A_tree_grove_leaves_1 h.leaves1 ?_
  delta F_tree_grove_leaves_1 sp sd gp gd fl fd gl
  have hQ : ∀ ys L', J ys L' → LeafQ t b v1 v2 v3 ep most vs c vc L' := fun ys L' h => (hJ ys L' h).2
  have hN : ∀ ys L', J ys L' → L'.length = N := fun ys L' h => (hJ ys L' h).1
  have hel : (eM (nodeE (b + 4) t.nodes vs)).length = t.nodes.length := by unfold eM; rw [List.length_map, nodeE_len hvl]
  simp [(hQ _ _ h0).box, (hQ _ _ h0).gv, (hQ _ _ h0).nm]
  obtain rfl : L0.length = N := hN _ _ h0
  refine ⟨LvI1 t b v1 ep nv0 J, ⟨t.nodes.length, GhostV.refl ⟨[], nv0 + 1, L0, by simp, List.nodup_nil, by simp, by simpa using h0, rfl⟩⟩, ?_⟩
  rintro k1 st ⟨seen, nv, L', rfl, hsn, hsl, hJ1, rfl⟩
  have hl' := hN _ _ hJ1
  have hQ1 := hQ _ _ hJ1
  have hQM := fun M => hQ1.app M
  refine op_next (id := L0.length) (ver := nv0) (mid := b + 1) (mver := v1) (ep := ep) (seen := seen) (es := eM (nodeE (b + 4) t.nodes vs)) (by simp [St.get, ← hl']) (by simp [St.get, (hQM _).nm]) ?_ ?_
  · intro hall
    simp
    refine GhostV.keep (hk _ _ _ hJ1 ⟨seen.reverse, nodup_rev hsn, fun j => ?_, rfl⟩)
    rw [List.mem_reverse]
    exact ⟨hsl j, fun hj => hall j (by rw [hel]; exact hj)⟩
  · intro j hj hns
    rw [hel] at hj
    obtain ⟨v, hv⟩ : ∃ v, vs[j]? = some v := ⟨vs[j], List.getElem?_eq_getElem (by omega)⟩
    obtain ⟨x, hx⟩ : ∃ x, x = t.nodes[j] := ⟨_, rfl⟩
    have hxj : t.nodes[j]? = some x := by rw [List.getElem?_eq_getElem hj, hx]
    have hxm : x ∈ t.nodes := List.mem_of_getElem? hxj
    have hxw := hs.2 x hxm
    have hge : (eM (nodeE (b + 4) t.nodes vs)).getD j (.junk, .junk) = (.int .u32 x.id, .ptr (b + 4 + j) v 0 0) := by
      unfold eM
      rw [List.getD, List.getElem?_map, nodeE_get j hj hv, ← hx]; rfl
    have hge' : (eM (nodeE (b + 4) t.nodes vs))[j]? = some (.int .u32 x.id, .ptr (b + 4 + j) v 0 0) := by
      unfold eM
      rw [List.getElem?_map, nodeE_get j hj hv, ← hx]; rfl
    have hsn' : (j :: seen).Nodup := List.nodup_cons.2 ⟨hns, hsn⟩
    have hsl' : ∀ q ∈ j :: seen, q < t.nodes.length := fun q hq => by
      rcases List.mem_cons.1 hq with rfl | hq
      · exact hj
      · exact hsl q hq
    have hle2 : (j :: seen).length ≤ t.nodes.length := nd_le hsn' hsl'
    have hnd := fun M => (hQM M).nd j hj v hv
    rw [← hx] at hnd
    have hnm := fun M => (hQM M).nm
    have hset : (L' ++ [some (nv0, Obj.iter (b + 1) v1 ep seen)]).set L0.length (some (nv0, Obj.iter (b + 1) v1 ep (j :: seen))) = L' ++ [some (nv0, Obj.iter (b + 1) v1 ep (j :: seen))] := by rw [← hl']; simp
    have hgt : ∀ o, (L' ++ [o])[L0.length]? = some o := fun o => by rw [← hl']; simp
    rw [hge]
    simp [hset, hgt, hnm, hge', hnd, St.set, St.get]
    have hll : leafL t j = if x.leaf then x.es.map (fun e => (x.id, e)) else [] := by unfold leafL; rw [hxj]
    refine ⟨LvI2 x (seen.reverse.flatMap (leafL t)) (some (nv0, .iter (b + 1) v1 ep (j :: seen))) J, ⟨x.es.length, GhostV.refl ⟨0, nv, L', by simp, by omega, by simp, by simpa using hJ1, rfl⟩⟩, ?_⟩
    clear hJ1 hl' hQ1 hQM hnd hnm hset hgt
    rintro k2 v22 st ⟨i, nv2, L2, rfl, hi, rfl, hJ2, rfl⟩
    have hl2 := hN _ _ hJ2
    have hQM := fun M => (hQ _ _ hJ2).app M
    have hnd := fun M => (hQM M).nd j hj v hv
    rw [← hx] at hnd
    by_cases hlt : i < x.es.length
    · obtain ⟨e, he⟩ : ∃ e, e = x.es[i] := ⟨_, rfl⟩
      simp [hlt, ← he, hnd]
      cases hlf : x.leaf
      · simp
        refine ⟨x.es.length - (i + 1), by omega, GhostV.keepN (L := L2) (N := [some (nv0, .iter (b + 1) v1 ep (j :: seen))]) ⟨i + 1, _, L2, rfl, by omega, by rw [wadd1 (by omega)], by simpa [hlf] using hJ2, rfl⟩⟩
      · simp
        rw [hlf] at hJ2
        simp only [if_true] at hJ2
        have hnx : (x.es.take (i + 1)).map (fun e => (x.id, e)) = (x.es.take i).map (fun e => (x.id, e)) ++ [(x.id, e)] := by rw [take_snoc hlt, ← he]; simp
        have hy1 := hy (seen.reverse.flatMap (leafL t) ++ (x.es.take i).map (fun e => (x.id, e))) (x.id, e) L2 [some (nv0, .iter (b + 1) v1 ep (j :: seen)), some (nv2, .mem 5 [cLink e])] (nv2 + 1)
        refine hy1 _ hJ2 ?_ ?_ ?_
        · obtain ⟨rest, hr⟩ := leaves_rest t (ps := seen.reverse ++ [j]) (by rw [← List.reverse_cons]; exact nodup_rev hsn') (fun q hq => hsl' q (by rw [List.mem_append, List.mem_reverse, List.mem_singleton] at hq; rw [List.mem_cons]; exact hq.symm))
          refine ⟨(x.es.drop (i + 1)).map (fun e => (x.id, e)) ++ rest, ?_⟩
          have e2 : x.es.map (fun e => (x.id, e)) = (x.es.take i).map (fun e => (x.id, e)) ++ (x.id, e) :: (x.es.drop (i + 1)).map (fun e => (x.id, e)) := by
            conv => lhs; rw [← List.take_append_drop i x.es, List.drop_eq_getElem_cons hlt, ← he]
            simp
          rw [List.flatMap_append] at hr
          simp only [List.flatMap_cons, List.flatMap_nil, List.append_nil, hll, hlf, if_true, e2] at hr
          simpa using hr
        · intro L3 H nv3 hJ3
          simp
          refine ⟨x.es.length - (i + 1), by omega, ?_⟩
          refine GhostV.keepN (L := L3) (N := [some (nv0, .iter (b + 1) v1 ep (j :: seen))]) ⟨i + 1, _, L3, rfl, by omega, by rw [wadd1 (by omega)], ?_, rfl⟩
          rw [hlf, if_pos rfl, hnx, ← List.append_assoc]
          exact hJ3
        · intro L3 H nv3 hS3
          simp
          exact GhostV.keep (hks _ _ _ hS3)
    · have e1 : x.es.take i = x.es := List.take_of_length_le (by omega)
      rw [e1, ← hll] at hJ2
      simp [hlt]
      refine ⟨t.nodes.length - (j :: seen).length, by rw [List.length_cons] at hle2 ⊢; omega, GhostV.refl ⟨j :: seen, nv2, L2, rfl, hsn', hsl', ?_, rfl⟩⟩
      rw [List.reverse_cons, List.flatMap_append]
      simpa using hJ2
end Go.Proofs.Ytmjnpfackanhlaa.AM

namespace Go.Proofs.Ytmjnpfackanhlaa.AM
open Go
set_option linter.unusedVariables false
set_option linter.unusedSimpArgs false
variable {P : Program}

def leafE (x : NodeT) : List LinkT := if x.leaf then x.es else []
def keyOf (t : TreeT) (row : Int) : Option KeyT := ((t.nodes.flatMap leafE).find? (hasC row)).map (·.key)
def zeroK : KeyT := ⟨0, 0, 0, 0⟩
def rowR (t : TreeT) (row : Int) : V := if plantF t then (match keyOf t row with
 | some k => .tup [.agg (cKey k), .int .i64 0]
 | none => .tup [.agg (cKey zeroK), .int .i64 4]) else .tup [.agg (cKey zeroK), .int .i64 210]
theorem leavesD_mem {t : TreeT} {ys : List (Int × LinkT)} (h : leavesD t ys) {e : LinkT} : e ∈ t.nodes.flatMap leafE ↔ ∃ id, (id, e) ∈ ys := by
 obtain ⟨ps, _, hp, rfl⟩ := h
 constructor
 ·intro he
  obtain ⟨x, hx, he⟩ := List.mem_flatMap.1 he
  obtain ⟨j, hj, e1⟩ := List.getElem_of_mem hx
  refine ⟨x.id, List.mem_flatMap.2 ⟨j, (hp j).2 hj, ?_⟩⟩
  unfold leafL
  rw [List.getElem?_eq_getElem hj, e1]
  unfold leafE at he
  split at he
  ·rename_i hl
   dsimp only
   rw [if_pos hl]
   exact List.mem_map.2 ⟨e, he, rfl⟩
  ·simp at he
 ·rintro ⟨id, he⟩
  obtain ⟨j, hj, he⟩ := List.mem_flatMap.1 he
  have hj' := (hp j).1 hj
  unfold leafL at he
  rw [List.getElem?_eq_getElem hj'] at he
  dsimp only at he
  split at he
  ·rename_i hl
   obtain ⟨e', he', h1⟩ := List.mem_map.1 he
   cases h1
   exact List.mem_flatMap.2 ⟨_, List.getElem_mem hj', by unfold leafE; rw [if_pos hl]; exact he'⟩
  ·simp at he
theorem leafE_child {ns : List NodeT} : (ns.flatMap leafE).map (·.child) = rowsS (shs ns) := by
 rw [kind_rows, List.map_flatMap]
 have : (fun x => List.map (fun e => e.child) (leafE x)) = kindE true := by
  funext x
  unfold leafE kindE
  split <;> rfl
 rw [this]
theorem one_mem {l : List LinkT} {row : Int} (h : (l.map (·.child)).count row ≤ 1) {a c : LinkT} (ha : a ∈ l) (hc : c ∈ l) (h1 : a.child = row) (h2 : c.child = row) : a = c := by
 obtain ⟨i, hi, rfl⟩ := List.getElem_of_mem ha
 obtain ⟨j, hj, rfl⟩ := List.getElem_of_mem hc
 have := one_count (k := i) (m := j) h (by simp [hi, h1]) (by simp [hj, h2])
 subst this
 rfl
theorem keyOf_some {t : TreeT} (hr : ∀ a, (rowsS (shs t.nodes)).count a ≤ 1) {row : Int} {e : LinkT} (he : e ∈ t.nodes.flatMap leafE) (hc : e.child = row) : keyOf t row = some e.key := by
 unfold keyOf
 cases h : (t.nodes.flatMap leafE).find? (hasC row) with
 | none =>
  have := List.find?_eq_none.1 h e he
  simp [hasC, hc] at this
 | some e2 =>
  have h1 := List.find?_some h
  have h2 := List.mem_of_find?_eq_some h
  rw [one_mem (row := row) (by rw [leafE_child]; exact hr row) h2 he (by simpa [hasC] using h1) hc]
  rfl
theorem keyOf_none {t : TreeT} {row : Int} (h : ∀ e ∈ t.nodes.flatMap leafE, e.child ≠ row) : keyOf t row = none := by
 unfold keyOf
 have : (t.nodes.flatMap leafE).find? (hasC row) = none := List.find?_eq_none.2 (fun e he => by simp [hasC, h e he])
 rw [this]; rfl
theorem leaves_N (h : LvR P) {v : V} {L : List (Option (Nat × Obj))} {nv : Nat} {K : V → St → Prop} (hv : v.cells = some [v]) (hk : K (.fn (.func n_tree_grove_leaves_1) [] [.ptr L.length nv 0 0]) ⟨L ++ [some (nv, .mem 1 [[v]])], nv + 1⟩) :
  ACalls P n_tree_grove_leaves [v] ⟨L, nv⟩ K := by
 refine A_tree_grove_leaves h.leaves ?_
 delta F_tree_grove_leaves sp sd gp gd fl fd gl
 simp [hv]
 exact GhostV.refl (by simpa using hk)
def RwJ (row : Int) (L : List (Option (Nat × Obj))) (ys : List (Int × LinkT)) (L' : List (Option (Nat × Obj))) : Prop := L' = L ∧ ∀ y ∈ ys, y.2.child ≠ row
def RwS (t : TreeT) (row : Int) (F : KeyT → List (Option (Nat × Obj))) (ys : List (Int × LinkT)) (L' : List (Option (Nat × Obj))) : Prop := ∃ k, keyOf t row = some k ∧ L' = F k
set_option maxHeartbeats 1000000 in
theorem tRow (h : LvR P) (t : TreeT) (hs : smallT t) (hr : plantF t = true → ∀ a, (rowsS (shs t.nodes)).count a ≤ 1) (row : Int) : PCalls P n_tree_Row [.agg (cTree t), .int .u32 row] (fun r => r = rowR t row) := by
  refine A_tree_Row h.row11 ?_
  delta F_tree_Row sp sd gp gd fl fd gl
  simp [st0]
  refine inv_f0 (Plant_N h.toPlR t hs (fun hp nv => ?_) (fun hp A nv v2 v3 v5 v6 most vs s hG hK => ?_))
  · simp
    exact GhostV.refl ⟨rfl, by simp [rowR, hp, zeroK]⟩
  · have hpre : ∃ B, A = [some (0, .mem 3 [cTree t]), some (1, .mem 1 [[.int .u32 row]]), some (2, .mem 4 [[.int .i64 0, .int .i64 0, .int .i64 0, .int .i64 0]]), some (3, .mem 1 [[.int .i64 0]])] ++ B := by
      refine ⟨A.drop 4, ?_⟩
      have e := List.take_append_drop 4 A
      have h4 : A.take 4 = [some (0, .mem 3 [cTree t]), some (1, .mem 1 [[.int .u32 row]]), some (2, .mem 4 [[.int .i64 0, .int .i64 0, .int .i64 0, .int .i64 0]]), some (3, .mem 1 [[.int .i64 0]])] := List.ext_getElem? (fun i => by
        by_cases hi : i < 4
        · rw [List.getElem?_take_of_lt hi]
          exact hK.2 i (by simpa using hi) (by simp; omega) (by simp; omega) (by simp; omega)
        · rw [List.getElem?_eq_none (by rw [List.length_take]; omega), List.getElem?_eq_none (by simp; omega)])
      rw [← h4]; exact e.symm
    obtain ⟨B, rfl⟩ := hpre
    simp at hG
    simp
    refine inv_f0 (leaves_N h (by rfl) ?_)
    intro LP HY
    simp only [List.length_cons, List.length_append, List.length_nil, Nat.zero_add] at HY
    simp
    obtain ⟨ep, hnm⟩ := hG.nm
    obtain ⟨L0, hL0⟩ : ∃ L0, L0 = some (0, Obj.mem 3 [[vNs t.nodes, V.int IntKind.u32 t.root, V.int IntKind.u64 t.count]]) :: some (1, Obj.mem 1 [[V.int IntKind.u32 row]]) :: some (2, Obj.mem 4 [[V.int IntKind.i64 0, V.int IntKind.i64 0, V.int IntKind.i64 0, V.int IntKind.i64 0]]) :: some (3, Obj.mem 1 [[V.int IntKind.i64 0]]) :: (B ++ [some (nv, Obj.mem 1 [[V.ptr 7 v3 0 0]]), some (nv + 1, LP LSt.ready)]) := ⟨_, rfl⟩
    have hQ : LeafQ t 4 5 v2 v3 ep most vs (B.length + 1 + 1 + 1 + 1) nv L0 := by
      have hG1 := hG.app [some (nv, Obj.mem 1 [[V.ptr 7 v3 0 0]]), some (nv + 1, LP LSt.ready)]
      refine ⟨by rw [hL0]; simp, ?_, ?_, ?_⟩
      · rw [hL0]; exact hG1.gv
      · rw [hL0]
        have h5 : 4 + 1 < (some (0, Obj.mem 3 [[vNs t.nodes, V.int IntKind.u32 t.root, V.int IntKind.u64 t.count]]) :: some (1, Obj.mem 1 [[V.int IntKind.u32 row]]) :: some (2, Obj.mem 4 [[V.int IntKind.i64 0, V.int IntKind.i64 0, V.int IntKind.i64 0, V.int IntKind.i64 0]]) :: some (3, Obj.mem 1 [[V.int IntKind.i64 0]]) :: B).length := (List.getElem?_eq_some_iff.1 hnm).1
        have : ∀ (X Y : List (Option (Nat × Obj))) {z}, X[4 + 1]? = some z → (X ++ Y)[4 + 1]? = some z := fun X Y z e => by rw [List.getElem?_append_left (List.getElem?_eq_some_iff.1 e).1]; exact e
        exact this _ _ hnm
      · rw [hL0]; exact hG1.nd
    rw [← hL0]
    refine leaves_iter (b := 4) (v1 := 5) (v2 := v2) (v3 := v3) (ep := ep) (most := most) h t hs hG.vl _ (B.length + 6) (RwJ row L0) (RwS t row (fun k => some (0, Obj.mem 3 [[vNs t.nodes, V.int IntKind.u32 t.root, V.int IntKind.u64 t.count]]) :: some (1, Obj.mem 1 [[V.int IntKind.u32 row]]) :: some (2, Obj.mem 4 [cKey k]) :: some (3, Obj.mem 1 [[V.int IntKind.i64 0]]) :: (B ++ [some (nv, Obj.mem 1 [[V.ptr 7 v3 0 0]]), some (nv + 1, LP (.done .ret))]))) _ _ _ ?_ ?_ ?_ ?_ ?_ ?_
    · rintro ys L' ⟨rfl, _⟩
      exact ⟨by rw [hL0]; simp, hQ⟩
    · rintro ys L' ⟨k, _, rfl⟩
      simp
    · rintro ys ⟨id, e⟩ L' G nv2 ⟨K'⟩ ⟨rfl, hno⟩ ⟨rest, hd⟩ h1 h2
      refine HY ⟨L' ++ G, nv2⟩ K' (.int .u32 id) (.agg (cLink e)) (by rw [hL0]; simp) ?_
      rw [hL0]
      simp
      by_cases hc : e.child = row
      · have key := h2 _ [some (nv2, .mem 5 [cLink e])] (nv2 + 1) ⟨e.key, keyOf_some (hr hp) ((leavesD_mem hd).2 ⟨id, by simp⟩) hc, rfl⟩
        simp [hc]
        simp [hc] at key
        exact key
      · have key := h1 L' [some (nv2, .mem 5 [cLink e])] (nv2 + 1) ⟨rfl, fun y hy => by
          rcases List.mem_append.1 hy with hy | hy
          · exact hno y hy
          · rw [List.mem_singleton.1 hy]; exact hc⟩
        simp [hc]
        rw [hL0] at key
        simp at key
        exact key
    · exact ⟨rfl, by simp⟩
    · rintro ys L' nv2 ⟨rfl, hno⟩ hd
      have hnone : keyOf t row = none := keyOf_none (fun e he => by
        obtain ⟨id, hid⟩ := (leavesD_mem hd).1 he
        exact hno _ hid)
      refine ⟨.ready, by rw [hL0]; simp, ?_⟩
      rw [hL0]
      simp [hend]
      exact GhostV.refl ⟨rfl, by simp [rowR, hp, hnone, zeroK]⟩
    · rintro ys L' nv2 ⟨k, hk, rfl⟩
      refine ⟨.done .ret, by simp, ?_⟩
      simp [hend]
      exact GhostV.refl ⟨rfl, by simp [rowR, hp, hk]⟩
end Go.Proofs.Ytmjnpfackanhlaa.AM
