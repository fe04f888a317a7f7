/- The tree and the cursor, walked, part 2. -/
import Derived.Test.YtmjnpfackanhlaaTAm
namespace Go.Proofs.Ytmjnpfackanhlaa.AM
open Go
set_option linter.unusedVariables false
set_option linter.unusedSimpArgs false
variable {P : Program}

structure SpR (P : Program) : Prop extends PaR P where
 spl : R_gazetteerref11_Split P
@[simp] def cSpl (s : SplitT) : List V := [.int .u32 s.old, .int .u32 s.new, .bool s.root]
def splitR (t : TreeT) (x : NodeT) (r : V) : Prop := ∃ left : List Bool, left.length = x.es.length ∧ true ∈ left ∧ false ∈ left ∧ r = .tup [.agg (cTree (splitF t x left).1), .agg (cSpl (splitF t x left).2)]
abbrev zSpl : List V := [.int .u32 0, .int .u32 0, .bool false]
abbrev SpO (t : TreeT) (va : Nat) : List (Option (Nat × Obj)) := [some (0, .mem 3 [[.msl 5 va 0 t.nodes.length, .int .u32 t.root, .int .u64 t.count]]), some (1, .mem 3 [zTree]), some (2, .mem 3 [zSpl]), none, none, some (va, .mem 5 (t.nodes.map cNode))]
theorem nsBor {st : St} {id va n : Nat} {ns : List NodeT} (ho : st.get id va = some (.mem 5 (ns.map cNode))) (hn : n = ns.length) : Bor st (.msl id va 0 n) (vNs ns) := by
 subst hn
 exact .msl id va 0 ns.length 5 (ns.map cNode) (ns.map cNode) ho (by simp) (by simp) (fun k hk => by simp [List.getD, hk]) (fun k j hk hj => by rw [Nat.zero_add]; exact .refl _)
theorem tBor {st : St} {id va n : Nat} {t : TreeT} (ho : st.get id va = some (.mem 5 (t.nodes.map cNode))) (hn : n = t.nodes.length) : Bor st (.agg [.msl id va 0 n, .int .u32 t.root, .int .u64 t.count]) (.agg (cTree t)) :=
 .agg _ _ rfl (fun i hi => by
  match i, hi with
  | 0, _ => exact nsBor ho hn
  | 1, _ => exact .refl _
  | 2, _ => exact .refl _)
theorem GhostV.tree0 {L : List (Option (Nat × Obj))} {nv id va n : Nat} {t : TreeT} {rest : List V} {K : List V → St → Prop} (ho : L[id]? = some (some (va, .mem 5 (t.nodes.map cNode)))) (hn : n = t.nodes.length) (hk : K (.agg (cTree t) :: rest) ⟨[], nv⟩) :
  GhostV (.agg [.msl id va 0 n, .int .u32 t.root, .int .u64 t.count] :: rest) ⟨L, nv⟩ K := by
 subst hn
 refine GhostV.freeze (vs' := .agg (cTree t) :: rest) (st' := ⟨[], nv⟩) (id := id) (ver := va) (sz := 5) (es := t.nodes.map cNode) (by simp [St.get, ho]) rfl rfl (fun i => ?_) (fun id1 ver1 o1 hh => by simp at hh) hk
 cases i with
 | zero =>
  refine .agg _ _ rfl (fun i hi => ?_)
  match i, hi with
  | 0, _ =>
   have := Frz.msl (ver := va) (sz := 5) (es := t.nodes.map cNode) id 0 t.nodes.length (by simp)
   have e3 : List.drop t.nodes.length (t.nodes.map cNode) = [] := List.drop_eq_nil_of_le (by simp)
   simpa [e3] using this
  | 1, _ => exact .refl _
  | 2, _ => exact .refl _
 | succ i => simpa using Frz.refl _
theorem GhostV.frzE {L : List (Option (Nat × Obj))} {nv id ver j vj r n : Nat} {a b c d : V} {es : List LinkT} {rs : List (List V)} {vs : List V} {K : List V → St → Prop} (ho : L[id]? = some (some (ver, .mem 5 (es.map cLink)))) (hj : L[j]? = some (some (vj, .mem 5 rs))) (hij : j ≠ id)
  (hr : rs[r]? = some [a, b, .msl id ver 0 n, c, d]) (hn : n = es.length) (hk : K vs ⟨(L.set id none).set j (some (vj, .mem 5 (rs.set r [a, b, vEs es, c, d]))), nv⟩) : GhostV vs ⟨L, nv⟩ K :=
 GhostV.frzo (o := .mem 5 rs) (o' := .mem 5 (rs.set r [a, b, vEs es, c, d])) ho hj hij (OFrz.cell (r := r) (c := 2) hr rfl (by simpa using hn) rfl) hk
theorem pure_split (t : TreeT) (s : SplitT) : (V.tup [.agg (cTree t), .agg (cSpl s)]).pure = true := by
 have h1 := p_tree t
 have h2 : pureL (cSpl s) = true := rfl
 simp only [V.pure, pureL, h1, h2, Bool.and_self]
theorem stay_snoc : ∀ (es : List LinkT) (bs : List Bool) (e : LinkT) (b : Bool), bs.length = es.length → stayF (es ++ [e]) (bs ++ [b]) = if b then stayF es bs ++ [e] else stayF es bs
 | [], [], e, b, _ => by cases b <;> rfl
 | [], _ :: _, _, _, h => by simp at h
 | _ :: _, [], _, _, h => by simp at h
 | x :: es, c :: bs, e, b, h => by
  have ih := stay_snoc es bs e b (by simpa using h)
  rw [List.cons_append, List.cons_append, stayF, stayF, ih]
  cases b <;> cases c <;> simp
theorem rest_snoc : ∀ (es : List LinkT) (bs : List Bool) (e : LinkT) (b : Bool), bs.length = es.length → restF (es ++ [e]) (bs ++ [b]) = if b then restF es bs else restF es bs ++ [e]
 | [], [], e, b, _ => by cases b <;> rfl
 | [], _ :: _, _, _, h => by simp at h
 | _ :: _, [], _, _, h => by simp at h
 | x :: es, c :: bs, e, b, h => by
  have ih := rest_snoc es bs e b (by simpa using h)
  rw [List.cons_append, List.cons_append, restF, restF, ih]
  cases b <;> cases c <;> simp
theorem sp_fin {Pf M : List (Option (Nat × Obj))} (hPf : Pf.length = 8) {a b c d w : V} {vy vr vs nv : Nat} {rest stay : List LinkT} {K : List V → St → Prop}
  (hk : K [vEs stay, w] ⟨Pf ++ [some (vy, .mem 5 [[a, b, vEs rest, c, d]]), none, none], nv⟩) :
  GhostV [.msl 10 vs 0 stay.length, w] ⟨Pf ++ ([some (vy, .mem 5 [[a, b, .msl 9 vr 0 rest.length, c, d]]), some (vr, .mem 5 (rest.map cLink)), some (vs, .mem 5 (stay.map cLink))] ++ M), nv⟩ K := by
 obtain ⟨p0, p1, p2, p3, p4, p5, p6, p7, rfl⟩ : ∃ p0 p1 p2 p3 p4 p5 p6 p7, Pf = [p0, p1, p2, p3, p4, p5, p6, p7] := by
  match Pf, hPf with
  | [p0, p1, p2, p3, p4, p5, p6, p7], _ => exact ⟨p0, p1, p2, p3, p4, p5, p6, p7, rfl⟩
 refine GhostV.frzo (id := 9) (ver := vr) (sz := 5) (j := 8) (verj := vy) (es := rest.map cLink) (o := .mem 5 [[a, b, .msl 9 vr 0 rest.length, c, d]]) (o' := .mem 5 [[a, b, vEs rest, c, d]]) (by simp) (by simp) (by omega) (OFrz.cell (r := 0) (c := 2) (w := 9) (n := rest.length) (row := [a, b, .msl 9 vr 0 rest.length, c, d]) rfl rfl (by simp) rfl) ?_ |>.trans (K := fun vs1 st1 => vs1 = [.msl 10 vs 0 stay.length, w] ∧ st1 = ⟨[p0, p1, p2, p3, p4, p5, p6, p7, some (vy, .mem 5 [[a, b, vEs rest, c, d]]), none, some (vs, .mem 5 (stay.map cLink))] ++ M, nv⟩) ?_
 ·exact ⟨rfl, by simp⟩
 ·rintro _ _ ⟨rfl, rfl⟩
  refine GhostV.rowx (id := 10) (ver := vs) (sz := 5) (es := stay.map cLink) (by simp) (by simp) ?_ |>.trans (K := fun vs1 st1 => vs1 = [vEs stay, w] ∧ st1 = ⟨[p0, p1, p2, p3, p4, p5, p6, p7, some (vy, .mem 5 [[a, b, vEs rest, c, d]]), none, none] ++ M, nv⟩) ?_
  ·exact ⟨by simp, by simp⟩
  ·rintro _ _ ⟨rfl, rfl⟩
   exact GhostV.keep hk
def SpI1 (t : TreeT) (x : NodeT) (va vx : Nat) (k : Nat) (v8 v9 : V) (st : St) : Prop := ∃ (j nv vk : Nat) (out : List LinkT), k = x.es.length - j ∧ j ≤ x.es.length ∧ v9 = .int .i64 ((j : Nat) : Int) ∧ v8 = .msl 7 vk 0 out.length ∧ out = x.es.take j ∧ st = ⟨SpO t va ++ [some (vx, .mem 5 [cNode x]), some (vk, .mem 4 (out.map cK))], nv⟩
abbrev SpP (t : TreeT) (x : NodeT) (va vx : Nat) : List (Option (Nat × Obj)) := [some (0, .mem 3 [[.msl 5 va 0 t.nodes.length, .int .u32 t.root, .int .u64 (t.count + 1)]]), some (1, .mem 3 [zTree]), some (2, .mem 3 [zSpl]), none, none, some (va, .mem 5 (t.nodes.map cNode)), some (vx, .mem 5 [cNode x]), none]
abbrev yC (t : TreeT) (x : NodeT) (v : V) : List V := [.int .u32 (greatN t.nodes + 1), .bool x.leaf, v, .int .u64 (t.count + 1), .int .u32 x.right]
def SpI2 (t : TreeT) (x : NodeT) (left : List Bool) (va vx vy : Nat) (k : Nat) (v12 v13 : V) (st : St) : Prop :=
  ∃ j nv, k = x.es.length - j ∧ v13 = .int .i64 ((j : Nat) : Int) ∧
    ((j < x.es.length ∧ ∃ vr vs rest stay, stay = stayF (x.es.take j) (left.take j) ∧ rest = restF (x.es.take j) (left.take j) ∧ v12 = .msl 10 vs 0 stay.length ∧
        st = ⟨SpP t x va vx ++ [some (vy, .mem 5 [yC t x (.msl 9 vr 0 rest.length)]), some (vr, .mem 5 (rest.map cLink)), some (vs, .mem 5 (stay.map cLink))], nv⟩) ∨
     (j = x.es.length ∧ v12 = vEs (stayF x.es left) ∧ st = ⟨SpP t x va vx ++ [some (vy, .mem 5 [yC t x (vEs (restF x.es left))]), none, none], nv⟩))
theorem withE_snoc (l : List LinkT) (e : LinkT) (id : Int) (e' : LinkT) : withE (l ++ [e]) id e' = withE l id e' ++ if e.child = id then [e, e'] else [e] := by simp [withE]
abbrev SpQ (t : TreeT) (x : NodeT) (left : List Bool) (nsY : List NodeT) (vx vy vn vt : Nat) : List (Option (Nat × Obj)) := [some (0, .mem 3 [[.msl 5 vn 0 (t.nodes.length + 1), .int .u32 t.root, .int .u64 (t.count + 1)]]), some (1, .mem 3 [zTree]), some (2, .mem 3 [zSpl]), none, none, some (vn, .mem 5 (nsY.map cNode)), some (vx, .mem 5 [cNode x]), none,
 some (vy, .mem 5 [yC t x (vEs (restF x.es left))]), none, none, some (vt, .mem 5 [yC t x (vEs (restF x.es left))])]
def SpI3 (t : TreeT) (x p : NodeT) (left : List Bool) (nsY : List NodeT) (vx vy vn vt : Nat) (k : Nat) (v16 v17 : V) (st : St) : Prop :=
  ∃ j nv, k = p.es.length - j ∧ v17 = .int .i64 ((j : Nat) : Int) ∧
    ((j < p.es.length ∧ ∃ vo out, out = withE (p.es.take j) x.id ⟨boundK (restF x.es left), greatN t.nodes + 1⟩ ∧ v16 = .msl 12 vo 0 out.length ∧ st = ⟨SpQ t x left nsY vx vy vn vt ++ [some (vo, .mem 5 (out.map cLink))], nv⟩) ∨
     (j = p.es.length ∧ v16 = vEs (withE p.es x.id ⟨boundK (restF x.es left), greatN t.nodes + 1⟩) ∧ st = ⟨SpQ t x left nsY vx vy vn vt, nv⟩))
set_option maxHeartbeats 1000000 in
theorem rSplit (h : SpR P) (t : TreeT) (hs : smallT t) (hnd : (idsN t.nodes).Nodup) {x : NodeT} (hx : findN t.nodes x.id = some x) (h2 : 2 ≤ x.es.length) (hc : 0 ≤ t.count ∧ t.count + 1 < 18446744073709551616) (hg : 0 ≤ greatN t.nodes ∧ greatN t.nodes ≤ 4294967293) (hgt : ∀ y ∈ t.nodes, y.id ≤ greatN t.nodes) :
    PCalls P n_gazetteerref11_Split [.agg (cTree t), .int .u32 x.id] (splitR t x) := by
  refine A_gazetteerref11_Split h.spl ?_
  unfold F_gazetteerref11_Split
  simp [st0]
  obtain ⟨i, hi, hfi, hxi⟩ := findN_idx hx
  have hxl := hs.2 x (findN_some hx).1
  refine inv_f0 (Copy_L h.toCpR t hs (fun va nv0 => ?_))
  simp
  refine inv_look (rAt h.toRdR t x.id (by have := hs.1; omega)) (Bors.cons (tBor (by simp [St.get]) rfl) (Bors.cons (.refl _) Bors.nil)) (by simp [pureL, V.pure, pureLL]) ?_
  rintro _ rfl
  refine ⟨rfl, ?_⟩
  rw [hfi, show idxI (some i) = ((i : Nat) : Int) from rfl]
  simp [hi, hxi]
  refine ⟨SpI1 t x va nv0, ⟨x.es.length, GhostV.nilr 4 (by decide) ⟨0, nv0 + 2, nv0 + 1, [], by simp, by omega, by simp, by simp, by simp, by simp⟩⟩, ?_⟩
  rintro k1 v8 v9 st ⟨j, nv1, vk, out, rfl, hj, rfl, rfl, hout, rfl⟩
  have hol : out.length = j := by rw [hout, List.length_take]; omega
  by_cases hlt : j < x.es.length
  · simp [hlt]
    refine ⟨by omega, x.es.length - (j + 1), by omega, GhostV.keep (L := SpO t va ++ [_, _]) ⟨j + 1, nv1 + 2, nv1 + 1, out ++ [x.es[j]], rfl, by omega, by rw [wadd1 (by omega)], by simp, by rw [take_snoc hlt, hout], by simp⟩⟩
  have hoe : out = x.es := by rw [hout, List.take_of_length_le (by omega)]
  subst hoe
  simp [hlt]
  refine inv_frz (rPart h.toPaR x.es h2 (by omega)) (ver := vk) (by simp) (by simp) (by simp) ?_
  rintro _ ⟨left, hl1, hl2, hl3, rfl⟩
  have hw1 : IntKind.u64.wrap (t.count + 1) = t.count + 1 := Go.IntWalk.u64_in _ (by omega)
  simp [hw1]
  refine inv_look (first := []) (cap := []) (args := [.agg [.msl 5 va 0 t.nodes.length, .int .u32 t.root, .int .u64 (t.count + 1)]]) (rGreat h.toRdR ⟨t.nodes, t.root, t.count + 1⟩ (by dsimp only; omega) (by dsimp only; have := hs.1; omega)) (Bors.cons (tBor (t := ⟨t.nodes, t.root, t.count + 1⟩) (by simp [St.get]) rfl) Bors.nil) (by simp [pureL, V.pure, pureLL]) ?_
  rintro _ rfl
  refine ⟨rfl, ?_⟩
  have hw2 : IntKind.u32.wrap (greatN t.nodes + 1) = greatN t.nodes + 1 := Go.IntWalk.u32_in _ (by omega)
  simp [hw2]
  refine ⟨SpI2 t x left va nv0 nv1, ⟨x.es.length, ?_⟩, ?_⟩
  · refine GhostV.nilo (nv := nv1 + 1) (sz := 5) (j := 8) (verj := nv1) (s := 5) (c := 2) (by decide) (by simp; rfl) (by simp; rfl) ?_ |>.trans (K := fun vs1 st1 => vs1 = [.sl .nil 0 [] [], .int .i64 0] ∧ st1 = ⟨SpP t x va nv0 ++ [some (nv1, .mem 5 [yC t x (.msl 9 (nv1 + 1) 0 0)]), some (nv1 + 1, .mem 5 [])], nv1 + 2⟩) ?_
    · exact ⟨rfl, by simp⟩
    · rintro _ _ ⟨rfl, rfl⟩
      refine GhostV.nilr 5 (by decide) ⟨0, nv1 + 3, by simp, by simp, .inl ⟨by omega, nv1 + 1, nv1 + 2, [], [], by simp [stayF], by simp [restF], by simp, by simp⟩⟩
  clear hj hlt hout hol
  rintro k2 v12 v13 st ⟨j, nv, rfl, rfl, hcase⟩
  rcases hcase with ⟨hlt, vr, vs, rest, stay, hstay, hrest, rfl, rfl⟩ | ⟨rfl, rfl, rfl⟩
  · have hlj : j < left.length := by omega
    have hsl : stay.length ≤ j := by rw [hstay, (part_len _ _ (by simp; omega)).1]; exact Nat.le_trans List.count_le_length (by simp; omega)
    have hrl : rest.length ≤ j := by rw [hrest, (part_len _ _ (by simp; omega)).2]; exact Nat.le_trans List.count_le_length (by simp; omega)
    have hs1 := stay_snoc (x.es.take j) (left.take j) x.es[j] left[j] (by simp; omega)
    have hr1 := rest_snoc (x.es.take j) (left.take j) x.es[j] left[j] (by simp; omega)
    rw [← take_snoc hlt, ← take_snoc hlj, ← hstay] at hs1
    rw [← take_snoc hlt, ← take_snoc hlj, ← hrest] at hr1
    have hend : ¬ j + 1 < x.es.length → stayF (x.es.take (j + 1)) (left.take (j + 1)) = stayF x.es left ∧ restF (x.es.take (j + 1)) (left.take (j + 1)) = restF x.es left := fun hn => by
      rw [List.take_of_length_le (by omega), List.take_of_length_le (by omega)]; exact ⟨rfl, rfl⟩
    have hgo : ∀ (vr' vs' nv' : Nat) (rest' stay' : List LinkT) (M : List (Option (Nat × Obj))), stay' = stayF (x.es.take (j + 1)) (left.take (j + 1)) → rest' = restF (x.es.take (j + 1)) (left.take (j + 1)) →
        GhostV [.msl 10 vs' 0 stay'.length, .int .i64 (IntKind.i64.wrap ((j : Int) + 1))] ⟨SpP t x va nv0 ++ ([some (nv1, .mem 5 [yC t x (.msl 9 vr' 0 rest'.length)]), some (vr', .mem 5 (rest'.map cLink)), some (vs', .mem 5 (stay'.map cLink))] ++ M), nv'⟩ (@app 2 (SpI2 t x left va nv0 nv1 (x.es.length - (j + 1)))) := fun vr' vs' nv' rest' stay' M e1 e2 => by
      by_cases hn : j + 1 < x.es.length
      · rw [← List.append_assoc]
        exact GhostV.keep ⟨j + 1, nv', rfl, by rw [wadd1 (by omega)], .inl ⟨hn, vr', vs', rest', stay', e1, e2, rfl, rfl⟩⟩
      · obtain ⟨e3, e4⟩ := hend hn
        exact sp_fin rfl ⟨j + 1, nv', rfl, by rw [wadd1 (by omega)], .inr ⟨by omega, by rw [e1, e3], by rw [e2, e4]⟩⟩
    simp [hlt, hlj]
    cases hb : left[j]
    · simp [hb] at hs1 hr1
      simp [hlt]
      exact ⟨by omega, x.es.length - (j + 1), by omega, by simpa using hgo (nv + 1) vs (nv + 2) (rest ++ [x.es[j]]) stay [_] hs1.symm hr1.symm⟩
    · simp [hb] at hs1 hr1
      simp [hlt]
      exact ⟨by omega, x.es.length - (j + 1), by omega, by simpa using hgo vr (nv + 1) (nv + 2) rest (stay ++ [x.es[j]]) [_] hs1.symm hr1.symm⟩
  · obtain ⟨nsY, hnsY⟩ : ∃ nsY, nsY = updN t.nodes (stayN t x left) ++ [goesN t x left] := ⟨_, rfl⟩
    have hnY : nsY = t.nodes.set i (stayN t x left) ++ [goesN t x left] := by rw [hnsY, set_eq_updN hnd hi (by rw [hxi]; rfl)]
    have hlenY : nsY.length = t.nodes.length + 1 := by rw [hnY]; simp
    have hrows : (List.map cNode t.nodes).set i [.int .u32 x.id, .bool x.leaf, .sl .unk 5 (List.map cLink (stayF x.es left)) [], .int .u64 (t.count + 1), .int .u32 (greatN t.nodes + 1)] ++ [[.int .u32 (greatN t.nodes + 1), .bool x.leaf, vEs (restF x.es left), .int .u64 (t.count + 1), .int .u32 x.right]] = nsY.map cNode := by
      rw [hnY, List.map_append, List.map_set]; rfl
    have hidsY : idsN nsY = idsN t.nodes ++ [greatN t.nodes + 1] := by
      rw [hnsY]
      have := idsN_updN t.nodes (stayN t x left)
      simp only [idsN, List.map_append, List.map_cons, List.map_nil] at this ⊢
      rw [this]; rfl
    have hndY : (idsN nsY).Nodup := by
      rw [hidsY, List.nodup_append]
      refine ⟨hnd, by simp, fun a ha b hb e => ?_⟩
      rw [List.mem_singleton.1 hb] at e
      obtain ⟨y, hy, rfl⟩ := List.mem_map.1 ha
      have := hgt y hy
      omega
    have hwY : ∀ y ∈ nsY, y.es.length < 2 ^ 40 := fun y hy => by
      have hpl := part_len x.es left hl1
      rw [hnsY] at hy
      rcases List.mem_append.1 hy with hy | hy
      · rcases mem_updN hy with rfl | ⟨hy, _⟩
        · have := List.count_le_length (l := left) (a := true)
          simp only [stayN, hpl.1]; omega
        · have := hs.2 y hy; omega
      · rw [List.mem_singleton.1 hy]
        have := List.count_le_length (l := left) (a := false)
        simp only [goesN, hpl.2]; omega
    have hs1 := hs.1
    simp [hi, hxi]
    rw [hrows]
    refine ⟨by omega, inv_look (rAbove h.toRdR ⟨nsY, t.root, t.count + 1⟩ x.id (by dsimp only; omega) hwY) (Bors.cons (tBor (t := ⟨nsY, t.root, t.count + 1⟩) (by simp [St.get]) (by dsimp only; omega)) (Bors.cons (.refl _) Bors.nil)) (by simp [pureL, V.pure, pureLL]) ?_⟩
    rintro _ rfl
    refine ⟨rfl, ?_⟩
    dsimp only
    cases hab : aboveN nsY x.id with
    | none =>
      have hix : nsY.findIdx? (isUp x.id) = none := by
        rw [List.findIdx?_eq_none_iff]
        intro y hy
        have := List.find?_eq_none.1 hab y hy
        simpa [isUp] using this
      rw [hix, show idxI none = (-1 : Int) from rfl]
      simp
      have hpl := part_len x.es left hl1
      have hcl1 := List.count_pos_iff.2 hl2
      have hcl0 := List.count_pos_iff.2 hl3
      have hcll1 := List.count_le_length (l := left) (a := true)
      have hcll0 := List.count_le_length (l := left) (a := false)
      refine inv_p (rBound h.toKyR (stayF x.es left) (by omega) (by omega)) rfl (by simp [pureL, V.pure]) ?_
      rintro _ rfl
      have hw3 : IntKind.u32.wrap (greatN t.nodes + 1 + 1) = greatN t.nodes + 1 + 1 := Go.IntWalk.u32_in _ (by omega)
      simp [hw3]
      refine inv_p (rBound h.toKyR (restF x.es left) (by omega) (by omega)) rfl (by simp [pureL, V.pure]) ?_
      rintro _ rfl
      have hsp : splitF t x left = (⟨nsY ++ [⟨greatN t.nodes + 1 + 1, false, [⟨boundK (stayF x.es left), x.id⟩, ⟨boundK (restF x.es left), greatN t.nodes + 1⟩], t.count + 1, 0⟩], greatN t.nodes + 1 + 1, t.count + 1⟩, ⟨x.id, greatN t.nodes + 1, true⟩) := by
        unfold splitF
        rw [← hnsY, hab, hnsY]
        simp
      simp [hw3, hlenY]
      refine ⟨by omega, ?_⟩
      refine GhostV.frzE (id := 12) (ver := nv + 1 + 1) (j := 5) (vj := nv + 1 + 1 + 1 + 1 + 1) (r := nsY.length) (es := [⟨boundK (stayF x.es left), x.id⟩, ⟨boundK (restF x.es left), greatN t.nodes + 1⟩]) (n := 2) (rs := nsY.map cNode ++ [[.int .u32 (greatN t.nodes + 1 + 1), .bool false, .msl 12 (nv + 1 + 1) 0 2, .int .u64 (t.count + 1), .int .u32 0]]) (by simp) (by simp) (by omega) (by simp; exact ⟨rfl, rfl, rfl, rfl⟩) (by simp) ?_ |>.trans (K := fun vs1 st1 => vs1 = [.agg [.msl 5 (nv + 1 + 1 + 1 + 1 + 1) 0 (t.nodes.length + 1 + 1), .int .u32 (greatN t.nodes + 1 + 1), .int .u64 (t.count + 1)], .agg [.int .u32 x.id, .int .u32 (greatN t.nodes + 1), .bool true]] ∧ ∃ L1 : List (Option (Nat × Obj)), st1 = ⟨L1, nv + 1 + 1 + 1 + 1 + 1 + 1⟩ ∧ L1[5]? = some (some (nv + 1 + 1 + 1 + 1 + 1, .mem 5 ((splitF t x left).1.nodes.map cNode)))) ?_
      · refine ⟨rfl, _, rfl, ?_⟩
        rw [hsp]
        simp
      · rintro _ _ ⟨rfl, L1, rfl, hL1⟩
        rw [hsp] at hL1
        refine GhostV.tree0 (t := ⟨nsY ++ [⟨greatN t.nodes + 1 + 1, false, [⟨boundK (stayF x.es left), x.id⟩, ⟨boundK (restF x.es left), greatN t.nodes + 1⟩], t.count + 1, 0⟩], greatN t.nodes + 1 + 1, t.count + 1⟩) hL1 (by simp [hlenY]) ?_
        exact ⟨pure_split _ ⟨x.id, greatN t.nodes + 1, true⟩, left, hl1, hl2, hl3, by rw [hsp]; rfl⟩
    | some p =>
      obtain ⟨pi, hpi, hix, hpe⟩ := find_idx_some (p := isUp x.id) hab
      rw [hix, show idxI (some pi) = ((pi : Nat) : Int) from rfl]
      have hsp : splitF t x left = (⟨updN nsY { p with es := withE p.es x.id ⟨boundK (restF x.es left), greatN t.nodes + 1⟩ }, t.root, t.count + 1⟩, ⟨x.id, greatN t.nodes + 1, false⟩) := by
        unfold splitF
        rw [← hnsY, hab]
      have hp0 : ¬ ((pi : Nat) : Int) < 0 := by omega
      have hpm : p ∈ nsY := by rw [← hpe]; exact List.getElem_mem hpi
      have hpw := hwY p hpm
      have hpk := (aboveN_some hab).2
      have hpl0 : 0 < p.es.length := by
        cases hl : p.leaf with
        | true => simp [SN.kids, hl] at hpk
        | false =>
          cases he : p.es with
          | nil => simp [SN.kids, hl, he] at hpk
          | cons e l => simp
      have hpi2 : pi < t.nodes.length + 1 := by omega
      simp [hp0]
      refine ⟨SpI3 t x p left nsY nv0 nv1 (nv + 1) nv, ⟨p.es.length, GhostV.nilr 5 (by decide) ⟨0, nv + 3, by simp, by simp, .inl ⟨hpl0, nv + 2, [], by simp [withE], by simp, by simp⟩⟩⟩, ?_⟩
      rintro k3 v16 v17 st ⟨j, nv3, rfl, rfl, hcase⟩
      rcases hcase with ⟨hlt, vo, out, hout, rfl, rfl⟩ | ⟨rfl, rfl, rfl⟩
      · have hol : out.length ≤ 2 * j := by
          have h1 := withE_len (p.es.take j) x.id ⟨boundK (restF x.es left), greatN t.nodes + 1⟩
          have h3 := List.count_le_length (l := (p.es.take j).map (·.child)) (a := x.id)
          rw [← hout] at h1
          rw [List.length_map] at h3
          rw [List.length_take] at h1 h3
          omega
        have hsn := withE_snoc (p.es.take j) p.es[j] x.id ⟨boundK (restF x.es left), greatN t.nodes + 1⟩
        rw [← take_snoc hlt, ← hout] at hsn
        have hgo : ∀ (vo' nv' : Nat) (out' : List LinkT) (M : List (Option (Nat × Obj))), out' = withE (p.es.take (j + 1)) x.id ⟨boundK (restF x.es left), greatN t.nodes + 1⟩ →
            GhostV [.msl 12 vo' 0 out'.length, .int .i64 (IntKind.i64.wrap ((j : Int) + 1))] ⟨SpQ t x left nsY nv0 nv1 (nv + 1) nv ++ ([some (vo', .mem 5 (out'.map cLink))] ++ M), nv'⟩ (@app 2 (SpI3 t x p left nsY nv0 nv1 (nv + 1) nv (p.es.length - (j + 1)))) := fun vo' nv' out' M e1 => by
          by_cases hn : j + 1 < p.es.length
          · rw [← List.append_assoc]
            exact GhostV.keep ⟨j + 1, nv', rfl, by rw [wadd1 (by omega)], .inl ⟨hn, vo', out', e1, rfl, rfl⟩⟩
          · refine GhostV.rowk (id := 12) (ver := vo') (sz := 5) (es := out'.map cLink) (by simp) (by simp) (by simp) ?_
            have e3 : p.es.take (j + 1) = p.es := List.take_of_length_le (by omega)
            have e2 : out' = withE p.es x.id ⟨boundK (restF x.es left), greatN t.nodes + 1⟩ := by rw [e1, e3]
            exact ⟨j + 1, nv', rfl, by rw [wadd1 (by omega)], .inr ⟨by omega, by rw [← e2]; simp, rfl⟩⟩
        simp [hlt, hpi2, hpi, hpe]
        refine ⟨by omega, by omega, by omega, ?_⟩
        by_cases he : p.es[j].child = x.id
        · rw [if_pos he] at hsn
          simp [he]
          refine inv_p (rBound h.toKyR (restF x.es left) ?_ ?_) rfl (by simp [pureL, V.pure]) ?_
          · have := (part_len x.es left hl1).2
            have := List.count_pos_iff.2 hl3
            omega
          · have := (part_len x.es left hl1).2
            have := List.count_le_length (l := left) (a := false)
            omega
          rintro _ rfl
          simp
          refine ⟨by omega, p.es.length - (j + 1), by omega, ?_⟩
          simpa [he] using hgo (nv3 + 3) (nv3 + 4) (out ++ [p.es[j], ⟨boundK (restF x.es left), greatN t.nodes + 1⟩]) [_, _] hsn.symm
        · rw [if_neg he] at hsn
          simp [he]
          refine ⟨p.es.length - (j + 1), by omega, ?_⟩
          simpa using hgo (nv3 + 1) (nv3 + 2) (out ++ [p.es[j]]) [_] hsn.symm
      · simp [hpi2, hpi, hpe]
        refine ⟨by omega, ?_⟩
        have hset : (List.map cNode nsY).set pi [.int .u32 p.id, .bool p.leaf, .sl .unk 5 (List.map cLink (withE p.es x.id ⟨boundK (restF x.es left), greatN t.nodes + 1⟩)) [], .int .u64 p.mark, .int .u32 p.right] = (splitF t x left).1.nodes.map cNode := by
          rw [hsp]
          dsimp only
          rw [← set_eq_updN hndY hpi (by rw [hpe]), List.map_set]
          rfl
        rw [hset]
        refine GhostV.tree0 (t := ⟨(splitF t x left).1.nodes, t.root, t.count + 1⟩) (by simp) (by rw [hsp]; simp [updN, hlenY]) ?_
        refine ⟨pure_split _ ⟨x.id, greatN t.nodes + 1, false⟩, left, hl1, hl2, hl3, ?_⟩
        rw [hsp]
        rfl
end Go.Proofs.Ytmjnpfackanhlaa.AM

namespace Go.Proofs.Ytmjnpfackanhlaa.AM
open Go
set_option linter.unusedVariables false
set_option linter.unusedSimpArgs false
variable {P : Program}

structure WyR (P : Program) : Prop extends SpR P where
 way : R_gazetteerref11_Way P
def Way1 (t : TreeT) (w : List Int) : Prop := ∃ x ∈ t.nodes, w ≠ [] ∧ w.getD 0 0 = t.root ∧ Pth t.nodes w w.length ∧ w.getD (w.length - 1) 0 = x.id
theorem Way1.snoc {t : TreeT} {w : List Int} {x y : NodeT} (hx : x ∈ t.nodes) (hne : w ≠ []) (h0 : w.getD 0 0 = t.root) (hp : Pth t.nodes w w.length) (hl : w.getD (w.length - 1) 0 = x.id) (hy : y ∈ t.nodes) (hk : y.id ∈ x.sh.kids) :
    w ++ [y.id] ≠ [] ∧ (w ++ [y.id]).getD 0 0 = t.root ∧ Pth t.nodes (w ++ [y.id]) (w ++ [y.id]).length ∧ (w ++ [y.id]).getD ((w ++ [y.id]).length - 1) 0 = y.id := by
  have hwl : 0 < w.length := List.length_pos_iff.2 hne
  have hold : ∀ j, j < w.length → (w ++ [y.id]).getD j 0 = w.getD j 0 := fun j hj => by simp [List.getD, List.getElem?_append_left hj]
  have hnew : (w ++ [y.id]).getD w.length 0 = y.id := by simp [List.getD]
  refine ⟨by simp, by rw [hold 0 hwl]; exact h0, fun j hj => ?_, by rw [List.length_append, List.length_singleton, Nat.add_sub_cancel]; exact hnew⟩
  rw [List.length_append, List.length_singleton] at hj
  by_cases e : j + 1 < w.length
  · rw [hold j (by omega), hold (j + 1) e]; exact hp j e
  · have e2 : j = w.length - 1 := by omega
    refine ⟨x.sh, mem_shs hx, ?_, ?_⟩
    · rw [hold j (by omega), e2, hl]; rfl
    · have e3 : j + 1 = w.length := by omega
      rw [e3, hnew]; exact hk
def WyI1 (t : TreeT) (k0 : KeyT) (h : Int → Nat) (k : Nat) (v : V) (st : St) : Prop :=
 ∃ (w : List Int) (x : NodeT) (vl nv : Nat), x ∈ t.nodes ∧ w ≠ [] ∧ w.getD 0 0 = t.root ∧ Pth t.nodes w w.length ∧ w.getD (w.length - 1) 0 = x.id ∧ k = h x.id ∧ v = .msl 2 vl 0 w.length ∧ st = ⟨[some (0, .mem 3 [cTree t]), some (1, .mem 4 [cKey k0]), some (vl, .mem 1 (w.map cI))], nv⟩
def WyI2 (x : NodeT) (L : List (Option (Nat × Obj))) (k : Nat) (v7 v8 : V) (st : St) : Prop :=
 ∃ (b i nv : Nat), k = x.es.length - i ∧ i ≤ x.es.length ∧ b < x.es.length ∧ v7 = .int .i64 ((b : Nat) : Int) ∧ v8 = .int .i64 ((i : Nat) : Int) ∧ st = ⟨L, nv⟩
set_option maxHeartbeats 1000000 in
theorem rWay (h : WyR P) (t : TreeT) (hs : smallT t) {ht rk : Int → Nat} (H : Shp (shs t.nodes) [t.root] ht rk) (hne : ∀ x ∈ t.nodes, x.leaf = false → x.es ≠ []) (hh : ∀ x ∈ t.nodes, ht x.id < 2 ^ 20) (k0 : KeyT) :
  PCalls P n_gazetteerref11_Way [.agg (cTree t), .agg (cKey k0)] (fun r => ∃ w, WayOk t w ∧ r = vIs w) := by
 refine A_gazetteerref11_Way h.way ?_
 unfold F_gazetteerref11_Way
 simp [st0]
 have hnd : (idsN t.nodes).Nodup := by have := H.nodup; simpa using this
 have hrm : t.root ∈ idsN t.nodes := by have := H.root_mem (c := t.root) (by simp); simpa using this
 obtain ⟨r, hrf⟩ := findN_ids hrm
 obtain ⟨hr, hre⟩ := findN_some hrf
 refine ⟨WyI1 t k0 ht, ⟨ht t.root, GhostV.refl ⟨[t.root], r, 2, 3, hr, by simp, by simp, fun j hj => by simp at hj, by simp [hre], by rw [hre], rfl, rfl⟩⟩, ?_⟩
 rintro k1 v st ⟨w, x, vl, nv, hx, hwne, hw0, hp, hl, rfl, rfl, rfl⟩
 have hwl : 0 < w.length := List.length_pos_iff.2 hwne
 have hph := pth_height H hp (w.length - 1) (by omega)
 rw [hl, hw0] at hph
 have hhr := hh r hr
 rw [hre] at hhr
 simp
 rw [wsub1 (by omega) hwl]
 have hlt : w.length - 1 < w.length := by omega
 have hwx : w[w.length - 1] = x.id := by simpa [List.getD, hlt] using hl
 obtain ⟨jd, hjd, hfi, hxj⟩ := findN_idx (findN_mem hnd hx)
 simp [hlt, hwx]
 refine inv_p (rAt h.toRdR t x.id (by have := hs.1; omega)) rfl (by simp [pureL, V.pure, pureLL]) ?_
 rintro _ rfl
 rw [hfi, show idxI (some jd) = ((jd : Nat) : Int) from rfl]
 simp [hjd, hxj]
 cases hlf : x.leaf
 ·have hes : 0 < x.es.length := List.length_pos_iff.2 (hne x hx hlf)
  have hxl := hs.2 x hx
  simp
  refine ⟨WyI2 x ([some (0, .mem 3 [cTree t]), some (1, .mem 4 [cKey k0]), some (vl, .mem 1 (w.map cI)), some (nv, .mem 5 [cNode x])]), ⟨x.es.length - 1, GhostV.refl ⟨0, 1, nv + 1, rfl, by omega, hes, by simp, by simp, by simp [hlf]⟩⟩, ?_⟩
  rintro k2 v7 v8 st ⟨b, i, nv2, rfl, hi, hb, rfl, rfl, rfl⟩
  by_cases hlt2 : i < x.es.length
  ·simp [hlt2, hb]
   refine inv_p (rLess h.toLeR x.es[i].key x.es[b].key k0) rfl rfl ?_
   rintro _ ⟨c, rfl⟩
   cases c <;> simp
   ·exact ⟨x.es.length - (i + 1), by omega, GhostV.refl ⟨b, i + 1, nv2, rfl, by omega, hb, rfl, by rw [wadd1 (by omega)], rfl⟩⟩
   ·exact ⟨x.es.length - (i + 1), by omega, GhostV.refl ⟨i, i + 1, nv2, rfl, by omega, hlt2, rfl, by rw [wadd1 (by omega)], rfl⟩⟩
  ·simp [hlt2, hb]
   have hk : x.es[b].child ∈ x.sh.kids := by
    simp only [SN.kids, NodeT.sh_leaf, hlf, Bool.false_eq_true, if_false, NodeT.sh_ch]
    exact List.mem_map.2 ⟨_, List.getElem_mem hb, rfl⟩
   have hcm : x.es[b].child ∈ idsN t.nodes := by have := H.kid_mem (mem_kids (mem_shs hx) hk); simpa using this
   obtain ⟨y, hyf⟩ := findN_ids hcm
   obtain ⟨hy, hye⟩ := findN_some hyf
   have hhy := H.inn _ (mem_shs hx) _ hk
   rw [NodeT.sh_id] at hhy
   rw [← hye] at hk hhy
   obtain ⟨g1, g2, g3, g4⟩ := Way1.snoc hx hwne hw0 hp hl hy hk
   refine ⟨by omega, ht y.id, by omega, GhostV.keep (L := [_, _, _]) ⟨w ++ [y.id], y, nv2 + 1, nv2 + 2, hy, g1, g2, g3, g4, rfl, by simp, by simp [hye]⟩⟩
 ·simp
  refine GhostV.row1 (sz := 1) (es := w.map cI) (by simp [St.get]) (by simp) ?_
  refine ⟨by simp [mkres, V.pure], w, ⟨hwne, hw0, hp, x, hx, hl.symm, hlf⟩, by simp⟩
end Go.Proofs.Ytmjnpfackanhlaa.AM

namespace Go.Proofs.Ytmjnpfackanhlaa.AM
open Go
set_option linter.unusedVariables false
set_option linter.unusedSimpArgs false
variable {P : Program}

structure PuR (P : Program) : Prop extends WyR P where
 put : R_gazetteerref11_Put P
inductive Psteps (w : List Int) : Nat → TreeT → List SplitT → TreeT → List SplitT → Prop
 | done (t : TreeT) (l : List SplitT) : Psteps w 0 t l t l
 | skip {n : Nat} {t t' : TreeT} {l l' : List SplitT} (x : NodeT) (hx : findN t.nodes (w.getD n 0) = some x) (h : x.es.length ≤ 4) (k : Psteps w n t l t' l') : Psteps w (n + 1) t l t' l'
 | split {n : Nat} {t t' : TreeT} {l l' : List SplitT} (x : NodeT) (left : List Bool) (hx : findN t.nodes (w.getD n 0) = some x) (h : 4 < x.es.length) (hl : left.length = x.es.length) (h1 : true ∈ left) (h0 : false ∈ left)
   (k : Psteps w n (keyedF (splitF t x left).1) (l ++ [(splitF t x left).2]) t' l') : Psteps w (n + 1) t l t' l'
def PutRel (t : TreeT) (row : Int) (k : KeyT) (t' : TreeT) (l' : List SplitT) : Prop :=
 ∃ w x, WayOk t w ∧ findN t.nodes (w.getD (w.length - 1) 0) = some x ∧ Psteps w w.length (keyedF { t with nodes := updN t.nodes { x with es := x.es ++ [⟨k, row⟩] } }) [] t' l'
theorem passes_ids : ∀ (n : Nat) (ns : List NodeT), idsN (passes n ns) = idsN ns
 | 0, _ => rfl
 | n + 1, ns => by
  rw [passes, passes_ids n]
  unfold passN
  exact keyL_ids _ _
theorem keyedF_ids (t : TreeT) : idsN (keyedF t).nodes = idsN t.nodes := by rw [keyedF_nodes, passes_ids]
theorem Mid.unkey {t : TreeT} {w : Int} {hr b : Nat} {h rk : Int → Nat} (H : Mid (keyedF t) w hr b h rk) : Shp (shs t.nodes) [t.root] h rk := by
 have h1 := H.nodup
 rw [keyedF_ids] at h1
 have h2 := H.shp
 rw [keyed_shs h1] at h2
 exact h2
theorem Mid.small {t : TreeT} {w : Int} {hr b : Nat} {h rk : Int → Nat} (H : Mid t w hr b h rk) (hb : b ≤ 600) : smallT t :=
  ⟨by have := H.len; omega, fun x hx => by
    have h1 := H.wid _ (mem_shs hx)
    simp only [NodeT.sh_ch, List.length_map] at h1
    omega⟩
theorem Mid.usmall {t : TreeT} {w : Int} {hr b : Nat} {h rk : Int → Nat} (H : Mid (keyedF t) w hr b h rk) (hb : b ≤ 600) : smallT t := by
 have h1 := H.nodup
 rw [keyedF_ids] at h1
 have hs := H.small hb
 have e := keyed_shs h1
 exact ⟨by rw [← shs_len e]; exact hs.1, small_shs hs.2 e.symm⟩
theorem Ext.split {L A : List (Option (Nat × Obj))} (h : Ext L A) : ∃ B, A = L ++ B := ⟨A.drop L.length, by
 have h1 := h.take
 have h2 := List.take_append_drop L.length A
 rw [h1] at h2
 exact h2.symm⟩
theorem greatN_ids {a b : List NodeT} (h : idsN a = idsN b) : greatN a = greatN b := by
 have e : ∀ ns : List NodeT, greatN ns = (idsN ns).getLast?.getD 0 := fun ns => by
  unfold greatN idsN
  rw [List.getLast?_map]
  cases ns.getLast? <;> rfl
 rw [e, e, h]
theorem greatN_snoc (a : List NodeT) (x : NodeT) : greatN (a ++ [x]) = x.id := by simp [greatN]
theorem len_ids {a b : List NodeT} (h : idsN a = idsN b) : a.length = b.length := by
 have := congrArg List.length h
 simpa [idsN] using this
def Bnd (t0 t : TreeT) (l : List SplitT) : Prop := t.count = t0.count + l.length ∧ t.nodes.length ≤ t0.nodes.length + 2 * l.length ∧ greatN t.nodes ≤ greatN t0.nodes + 2 * l.length
theorem Bnd.refl (t : TreeT) : Bnd t t [] := ⟨by simp, by simp, by simp⟩
theorem Bnd.split {t0 t : TreeT} {l : List SplitT} (H : Bnd t0 t l) (x : NodeT) (left : List Bool) (s : SplitT) : Bnd t0 (keyedF (splitF t x left).1) (l ++ [s]) := by
 have hk := keyedF_ids (splitF t x left).1
 obtain ⟨h1, h2, h3⟩ := H
 refine ⟨?_, ?_, ?_⟩
 ·have : (keyedF (splitF t x left).1).count = t.count + 1 := by
   unfold keyedF splitF
   split <;> rfl
  rw [this, h1]; simp; omega
 ·rw [len_ids hk]
  unfold splitF
  split
  ·have := len_ids (idsN_updN t.nodes (stayN t x left))
   simp; omega
  ·have e1 := len_ids (idsN_updN (updN t.nodes (stayN t x left) ++ [goesN t x left]) { (‹_› : NodeT) with es := withE (‹_› : NodeT).es x.id ⟨boundK (restF x.es left), greatN t.nodes + 1⟩ })
   have := len_ids (idsN_updN t.nodes (stayN t x left))
   simp only at e1 ⊢
   rw [e1]
   simp; omega
 ·rw [greatN_ids hk]
  unfold splitF
  split
  ·simp only [List.append_assoc, List.singleton_append]
   rw [show ∀ (a : List NodeT) (y z : NodeT), a ++ [y, z] = (a ++ [y]) ++ [z] from fun a y z => by simp, greatN_snoc]
   simp; omega
  ·have e1 := greatN_ids (idsN_updN (updN t.nodes (stayN t x left) ++ [goesN t x left]) { (‹_› : NodeT) with es := withE (‹_› : NodeT).es x.id ⟨boundK (restF x.es left), greatN t.nodes + 1⟩ })
   simp only at e1 ⊢
   rw [e1, greatN_snoc]
   simp [goesN]; omega
def PutNo (t : TreeT) : Prop := ∃ w, WayOk t w ∧ (18446744073709551615 ≤ t.count + w.length ∨ 4294967293 < greatN t.nodes + 2 * w.length ∨ 512 < t.nodes.length + 2 * w.length ∨ 12 < w.length + 1)
def PLoop (w : List Int) (t0 : TreeT) (n : Nat) (t : TreeT) (l : List SplitT) : Prop :=
 (PutL w n t l ∨ (n = 0 ∧ (∃ l0 s, l = l0 ++ [s] ∧ s.root = true) ∧ ∃ h rk b, Mid t 0 w.length b h rk ∧ b ≤ 513 + w.length)) ∧ (∀ t' l', Psteps w n t l t' l' → Psteps w w.length t0 [] t' l') ∧ Bnd t0 t l
theorem PutL.small {w : List Int} {n : Nat} {t : TreeT} {l : List SplitT} (H : PutL w n t l) : smallT t := by
 obtain ⟨h, rk, b, hM, hb⟩ := H.mid
 have := H.wlen
 exact hM.small (by omega)
@[simp] theorem p_cSpl (l : List SplitT) : pureLL (l.map cSpl) = true := pureLL_map (fun _ => rfl) l
abbrev vSps (l : List SplitT) : V := .sl .unk 3 (l.map cSpl) []
def putR (t : TreeT) (row : Int) (k : KeyT) (r : V) : Prop :=
 (∃ t' l', Inv t' ∧ PutRel t row k t' l' ∧ r = .tup [.agg (cTree t'), vSps l', .bool true]) ∨ (PutNo t ∧ r = .tup [.agg zTree, .sl .nil 0 [] [], .bool false])
end Go.Proofs.Ytmjnpfackanhlaa.AM

namespace Go.Proofs.Ytmjnpfackanhlaa.AM
open Go
set_option linter.unusedVariables false
set_option linter.unusedSimpArgs false
variable {P : Program}

theorem DT.setN {A A' : List (Option (Nat × Obj))} {rows : List (List V)} {ws : List Nat} {ns : List NodeT} (H : DT A rows ws ns) {i w ver' : Nat} {x' : NodeT} (hi : i < ns.length) (hw : ws[i]? = some w) (hA : A'[w]? = some (some (ver', .mem 5 (x'.es.map cLink)))) (hup : ∀ v ∈ ws, v ≠ w → A'[v]? = A[v]?) :
  DT A' (rows.set i (dNode w ver' x')) ws (ns.set i x') := by
 refine ⟨by simp [H.rl], by simp [H.wl], fun j hj => ?_, H.nd⟩
 rw [List.length_set] at hj
 by_cases e : i = j
 ·subst e
  refine ⟨_, w, List.getElem?_set_self (by rw [H.rl]; exact hi), hw, ver', ?_, ?_⟩
  ·simp
  ·rw [hA]; simp
 ·obtain ⟨row, w2, h1, h2, ver2, h3, h4⟩ := H.at' j hj
  refine ⟨row, w2, by rw [List.getElem?_set_ne e]; exact h1, h2, ver2, ?_, ?_⟩
  ·rw [h3, List.getElem_set_ne e]
  ·rw [hup w2 (List.mem_of_getElem? h2) (fun e2 => ?_), List.getElem_set_ne e]
   ·exact h4
   ·obtain ⟨i1, e1⟩ := List.getElem?_eq_some_iff.1 hw
    obtain ⟨j1, e3⟩ := List.getElem?_eq_some_iff.1 h2
    have hne := List.nodup_iff_pairwise_ne.1 H.nd
    rcases Nat.lt_or_gt_of_ne e with hlt | hlt
    ·exact List.pairwise_iff_getElem.1 hne i j i1 j1 hlt (by rw [e1, e3, e2])
    ·exact List.pairwise_iff_getElem.1 hne j i j1 i1 hlt (by rw [e1, e3, e2])
theorem GhostV.treeR {L A : List (Option (Nat × Obj))} {idn va nv : Nat} {rows : List (List V)} {ws : List Nat} {t : TreeT} {r c : Int} {K : List V → St → Prop} (hD : DT A rows ws t.nodes) (ho : A[idn]? = some (some (va, .mem 5 rows))) (hE : Ext L A) (hw : ∀ w ∈ ws, L.length ≤ w) (hi : L.length ≤ idn) (hidn : ¬ idn ∈ ws) {n : Nat} (hn : n = t.nodes.length)
  (hr : r = t.root) (hc : c = t.count) (hk : K [.agg (cTree t)] ⟨L, nv⟩) : GhostV [.agg [.msl idn va 0 n, .int .u32 r, .int .u64 c]] ⟨A, nv⟩ K := by
 subst hr hc
 exact GhostV.tree hD ho hE hw hi hidn hn hk
theorem GhostV.row2 {L : List (Option (Nat × Obj))} {nv id ver sz n : Nat} {a c : V} {es : List (List V)} {K : List V → St → Prop} (ho : L[id]? = some (some (ver, .mem sz es))) (hn : n = es.length) (hk : K [a, .sl .unk sz es [], c] ⟨[], nv⟩) : GhostV [a, .msl id ver 0 n, c] ⟨L, nv⟩ K := by
 subst hn
 refine GhostV.freeze (vs' := [a, .sl .unk sz es [], c]) (st' := ⟨[], nv⟩) (id := id) (ver := ver) (sz := sz) (es := es) (by simp [St.get, ho]) rfl rfl (fun i => ?_) (fun id1 ver1 o1 hh => by simp at hh) hk
 match i with
 | 0 => exact .refl _
 | 1 =>
  have := Frz.msl (ver := ver) (sz := sz) (es := es) id 0 es.length (by simp)
  simpa using this
 | 2 => exact .refl _
 | i + 3 => exact .refl _
def lastR (l : List SplitT) : Bool := match l.getLast? with
 | some s => s.root
 | none => false
def PuJ (w : List Int) (t : TreeT) (k0 : KeyT) (l : List SplitT) (vl : Nat) (v : V) (st : St) : Prop := ∃ nv, v = .int .i64 ((w.length + (if lastR l then 1 else 0) : Nat) : Int) ∧ st = ⟨[some (0, .mem 3 [cTree t]), some (1, .mem 4 [cKey k0]), some (2, .mem 3 [zTree]), some (vl, .mem 3 (l.map cSpl))], nv⟩
def PuI (w : List Int) (t0 : TreeT) (k0 : KeyT) (k : Nat) (v11 v12 : V) (st : St) : Prop :=
 ∃ (n vl nv : Nat) (t : TreeT) (l : List SplitT), k = n ∧ PLoop w t0 n t l ∧ l.length ≤ w.length - n ∧ n ≤ w.length ∧ v12 = .int .i64 ((n : Int) - 1) ∧ v11 = .msl 3 vl 0 l.length ∧
  st = ⟨[some (0, .mem 3 [cTree t]), some (1, .mem 4 [cKey k0]), some (2, .mem 3 [zTree]), some (vl, .mem 3 (l.map cSpl))], nv⟩
set_option maxHeartbeats 2000000 in
theorem rPut (h : PuR P) (t : TreeT) (hI : Inv t) (row : Int) (k0 : KeyT) (hk0 : boxK k0 = true) (hrow : 0 < row ∧ row < 4294967296) (hno : ¬ row ∈ rowsS (shs t.nodes)) :
    PCalls P n_gazetteerref11_Put [.agg (cTree t), .int .u32 row, .agg (cKey k0)] (putR t row k0) := by
  refine A_gazetteerref11_Put h.put ?_
  unfold F_gazetteerref11_Put
  simp [st0]
  obtain ⟨ht, rk, hS, htop⟩ := hI.shp
  have hnd := hI.nodup
  have hsm : smallT t := ⟨by have := hI.len; omega, fun x hx => by
    have := hI.wid _ (mem_shs hx)
    simp only [NodeT.sh_ch, List.length_map] at this; omega⟩
  have hinne : ∀ x ∈ t.nodes, x.leaf = false → x.es ≠ [] := fun x hx hl e => by
    have := (hI.ne _ (mem_shs hx) (by simp [e])).1
    rw [NodeT.sh_leaf, hl] at this; cases this
  have hhts : ∀ x ∈ t.nodes, ht x.id < 2 ^ 20 := fun x hx => by
    have := hS.top_le _ (mem_shs hx)
    rw [NodeT.sh_id] at this; omega
  refine inv_p (rWay h.toWyR t hsm hS hinne hhts k0) rfl (by simp [pureL, V.pure, pureLL]) ?_
  rintro _ ⟨w, hw, rfl⟩
  have hwl : 0 < w.length := List.length_pos_iff.2 hw.ne
  obtain ⟨x0, hx0, hx0w, hlf⟩ := hw.leaf
  have hh := pth_height hS hw.pth (w.length - 1) (by omega)
  rw [← hx0w, hw.head] at hh
  have hwl12 : w.length ≤ 12 := by omega
  simp
  refine inv_f0 (Copy_D h.toCpR t hsm (fun A va rows ws nv0 hD ho hE hws => ?_))
  obtain ⟨B, rfl⟩ := hE.split
  simp at ho hws
  simp
  rw [wsub1 (by omega) hwl]
  have hlt : w.length - 1 < w.length := by omega
  have hwx : w[w.length - 1] = x0.id := by simpa [List.getD, hlt] using hx0w.symm
  obtain ⟨jd, hjd, hfi, hxj⟩ := findN_idx (findN_mem hnd hx0)
  simp [hlt, hwx]
  have hD1 : DT (some (0, .mem 3 [[.msl 5 va 0 t.nodes.length, .int .u32 t.root, .int .u64 t.count]]) :: some (1, .mem 4 [[.int .i64 k0.x0, .int .i64 k0.x1, .int .i64 k0.y0, .int .i64 k0.y1]]) :: some (2, .mem 3 [[.sl .nil 0 [] [], .int .u32 0, .int .u64 0]]) :: B) rows ws t.nodes := hD.up (fun w hw => by
    obtain ⟨w', rfl⟩ : ∃ w', w = w' + 3 := ⟨w - 3, by have := hws w hw; omega⟩
    simp)
  refine inv_look (rAt h.toRdR t x0.id (by have := hsm.1; omega)) (Bors.cons (.agg _ _ rfl (fun i hi => by
    match i, hi with
    | 0, _ => exact hD1.bor (id := 5) (by simpa using ho) rfl
    | 1, _ => exact .refl _
    | 2, _ => exact .refl _)) (Bors.cons (.refl _) Bors.nil)) (by simp [pureL, V.pure, pureLL]) ?_
  rintro _ rfl
  refine ⟨rfl, ?_⟩
  rw [hfi, show idxI (some jd) = ((jd : Nat) : Int) from rfl]
  obtain ⟨row0, w0, hr0, hw0, ver, rfl, hA0⟩ := hD1.at' jd hjd
  obtain ⟨w', rfl⟩ : ∃ w', w0 = w' + 3 := ⟨w0 - 3, by have := hws w0 (List.mem_of_getElem? hw0); omega⟩
  rw [hxj] at hr0 hA0
  simp only [dNode] at hr0
  simp at hA0
  have hxl := hsm.2 x0 hx0
  have hB2 := (List.getElem?_eq_some_iff.1 ho).1
  have hBw := (List.getElem?_eq_some_iff.1 hA0).1
  have hw2 : w' ≠ 2 := by have := hws (w' + 3) (List.mem_of_getElem? hw0); omega
  have hB2' : ∀ X M, (B.set w' X ++ M)[2]? = some (some (va, .mem 5 rows)) := fun X M => by rw [List.getElem?_append_left (by simpa using hB2), List.getElem?_set_ne hw2]; exact ho
  have hB3' : ∀ X M (Y : Option (Nat × Obj)), (B.set w' X ++ M).set 2 Y = (B.set w' X).set 2 Y ++ M := fun X M Y => List.set_append_left _ _ (by simpa using hB2)
  simp [hjd, ho, hr0, hA0, hB2', hB3']
  refine ⟨by omega, ?_⟩
  obtain ⟨x1, hx1⟩ : ∃ x1 : NodeT, x1 = { x0 with es := x0.es ++ [⟨k0, row⟩] } := ⟨_, rfl⟩
  obtain ⟨t1, ht1⟩ : ∃ t1 : TreeT, t1 = { t with nodes := updN t.nodes x1 } := ⟨_, rfl⟩
  have ht1n : t1.nodes = t.nodes.set jd x1 := by rw [ht1, set_eq_updN hnd hjd (by rw [hx1, hxj])]
  have hPL := put_start hI hw hx0 hx0w hk0 hrow hno
  rw [← hx1, ← ht1] at hPL
  obtain ⟨h1, rk1, b1, hM1, hb1⟩ := hPL.mid
  have hS1 := hM1.unkey
  have hsm1 := hM1.usmall (by omega)
  have hrow1 : (dNode (w' + 3) (nv0 + 1) x1) = [.int .u32 x0.id, .bool x0.leaf, .msl (w' + 3) (nv0 + 1) 0 (x0.es.length + 1), .int .u64 x0.mark, .int .u32 x0.right] := by rw [hx1]; simp
  have hes1 : x1.es.map cLink = List.map cLink x0.es ++ [[.int .i64 k0.x0, .int .i64 k0.x1, .int .i64 k0.y0, .int .i64 k0.y1, .int .u32 row]] := by rw [hx1]; simp
  rw [← hrow1, ← hes1]
  have hKy := rKeyed h.toKdR t1 hsm1 hS1
  refine inv_f0 (ACalls.gv hKy.1 (GhostV.trans (GhostV.treeR (t := t1) (L := [some (0, .mem 3 [[.msl 5 va 0 t.nodes.length, .int .u32 t.root, .int .u64 t.count]]), some (1, .mem 4 [cKey k0]), some (2, .mem 3 [zTree])]) (idn := 5) (va := va) (rows := rows.set jd (dNode (w' + 3) (nv0 + 1) x1)) (ws := ws) (K := fun vs st => vs = [.agg (cTree t1)] ∧ st = ⟨[some (0, .mem 3 [[.msl 5 va 0 t.nodes.length, .int .u32 t.root, .int .u64 t.count]]), some (1, .mem 4 [cKey k0]), some (2, .mem 3 [zTree])], nv0 + 1 + 1⟩) ?_ ?_ ?_ (fun w hw => by have := hws w hw; simp; omega) (by simp) (fun hw => by have := hws _ hw; omega) (by rw [ht1n]; simp) (by rw [ht1]) (by rw [ht1]) ⟨rfl, rfl⟩) ?_))
  · rw [ht1n]
    refine hD1.setN hjd hw0 ?_ (fun v hv hne => ?_)
    · rw [List.getElem?_cons_succ, List.getElem?_cons_succ, List.getElem?_cons_succ, List.getElem?_append_left (by simpa using hBw), List.getElem?_set_ne (fun e => hw2 e.symm), List.getElem?_set_self hBw]
    · obtain ⟨v', rfl⟩ : ∃ v', v = v' + 3 := ⟨v - 3, by have := hws v hv; omega⟩
      have hvl := hD1.lt _ hv
      have hv5 := hws _ hv
      simp only [List.length_cons] at hvl
      rw [List.getElem?_cons_succ, List.getElem?_cons_succ, List.getElem?_cons_succ, List.getElem?_append_left (by simp; omega), List.getElem?_set_ne (by omega), List.getElem?_set_ne (by omega), List.getElem?_cons_succ, List.getElem?_cons_succ, List.getElem?_cons_succ]
  · rw [List.getElem?_cons_succ, List.getElem?_cons_succ, List.getElem?_cons_succ, List.getElem?_append_left (by simpa using hB2), List.getElem?_set_self (by simpa using hB2)]
  · exact Ext.app [some (0, .mem 3 [[.msl 5 va 0 t.nodes.length, .int .u32 t.root, .int .u64 t.count]]), some (1, .mem 4 [cKey k0]), some (2, .mem 3 [zTree])] _
  rintro _ _ ⟨rfl, rfl⟩
  refine GhostV.refl (hKy.at (by simp [pureL, V.pure, pureLL]) ?_)
  rintro _ rfl
  simp
  rw [wsub1 (by omega) hwl]
  clear hD hD1 ho hws hr0 hw0 hA0 hB2 hBw hw2 hB2' hB3' hrow1 hes1
  have hPR : ∀ t' l', Psteps w w.length (keyedF t1) [] t' l' → PutRel t row k0 t' l' := fun t' l' hp => ⟨w, x0, hw, by rw [← hx0w]; exact findN_mem hnd hx0, by rw [← hx1, ← ht1]; exact hp⟩
  refine ⟨PuI w (keyedF t1) k0, ⟨w.length, GhostV.nilr 3 (by decide) ⟨w.length, nv0 + 2, nv0 + 3, keyedF t1, [], rfl, ⟨.inl hPL, fun _ _ h => h, .refl _⟩, by simp, by omega, by congr 1; omega, by simp, by simp⟩⟩, ?_⟩
  have hk1 := keyedF_ids t1
  have ht1i : idsN t1.nodes = idsN t.nodes := by rw [ht1]; exact idsN_updN _ _
  have hc1 : (keyedF t1).count = t.count := by rw [ht1]; rfl
  have hn1' : (keyedF t1).nodes.length = t.nodes.length := len_ids (hk1.trans ht1i)
  have hg1' : greatN (keyedF t1).nodes = greatN t.nodes := greatN_ids (hk1.trans ht1i)
  rintro k1 v11 v12 st ⟨n, vl, nv, tc, l, rfl, hPL, hll, hnw, rfl, rfl, rfl⟩
  obtain ⟨hb1, hb2, hb3⟩ := hPL.2.2
  rw [hc1] at hb1
  rw [hn1'] at hb2
  rw [hg1'] at hb3
  cases k1 with
  | zero =>
    have hlt0 : ¬ (0 : Int) ≤ ((0 : Nat) : Int) - 1 := by omega
    simp [hlt0]
    have hlr : (PutL w 0 tc l ∧ lastR l = false) ∨ (lastR l = true ∧ ∃ h rk b, Mid tc 0 w.length b h rk ∧ b ≤ 513 + w.length) := by
      rcases hPL.1 with hA | ⟨_, ⟨l0, s, rfl, hs⟩, hB⟩
      · refine .inl ⟨hA, ?_⟩
        unfold lastR
        cases hg : l.getLast? with
        | none => rfl
        | some s => exact hA.ls s (List.mem_of_getLast? hg)
      · refine .inr ⟨?_, hB⟩
        simp [lastR, hs]
    refine ⟨PuJ w tc k0 l vl, ?_, ?_⟩
    · by_cases hl0 : l = []
      · subst hl0
        simp
        exact GhostV.refl ⟨nv, by simp [lastR], by simp⟩
      · obtain ⟨l0, s, rfl⟩ : ∃ l0 s, l = l0 ++ [s] := ⟨l.dropLast, l.getLast hl0, (List.dropLast_concat_getLast hl0).symm⟩
        have hla : lastR (l0 ++ [s]) = s.root := by simp [lastR]
        have hw9 : IntKind.i64.wrap (l0.length : Int) = ((l0.length : Nat) : Int) := by
          simp only [List.length_append, List.length_singleton] at hll
          rw [wrap_i64 (by omega)]
        have hl9 : (l0.length : Int) < (l0.length : Int) + 1 := by omega
        simp
        rw [hw9]
        simp [hl9]
        cases hsr : s.root
        · simp [hsr]
          exact GhostV.refl ⟨nv, by simp [hla, hsr], by simp [hsr]⟩
        · simp [hsr]
          exact GhostV.refl ⟨nv, by rw [hla, hsr, wadd1 (by omega)]; rfl, by simp [hsr]⟩
    rintro v15 st ⟨nv2, rfl, rfl⟩
    by_cases h512 : (512 : Int) < tc.nodes.length
    · simp [h512]
      exact GhostV.refl ⟨rfl, .inr ⟨⟨w, hw, by omega⟩, rfl⟩⟩
    · simp [h512]
      by_cases h12 : (12 : Int) < (w.length : Int) + ((if lastR l = true then 1 else 0 : Nat) : Int)
      · simp [h512, h12]
        exact GhostV.refl ⟨rfl, .inr ⟨⟨w, hw, by right; right; right; revert h12; split <;> simp <;> omega⟩, rfl⟩⟩
      · simp [h512, h12]
        refine GhostV.row2 (sz := 3) (es := l.map cSpl) (by simp) (by simp) ?_
        have hIv : Inv tc := by
          rcases hlr with ⟨hA, _⟩ | ⟨hB, h', rk', b', hM, _⟩
          · obtain ⟨h', rk', b', hM, _⟩ := hA.mid
            exact hM.inv (by omega) (by omega)
          · rw [if_pos hB] at h12
            exact hM.inv (by omega) (by omega)
        exact ⟨by simp [mkres, V.pure, pureL, pureLL], .inl ⟨tc, l, hIv, hPR _ _ (hPL.2.1 _ _ (.done tc l)), rfl⟩⟩
  | succ n =>
    have hPL1 : PutL w (n + 1) tc l := by
      rcases hPL.1 with h | ⟨h, _⟩
      · exact h
      · omega
    have hn1 : ((n + 1 : Nat) : Int) - 1 = ((n : Nat) : Int) := by omega
    rw [hn1]
    obtain ⟨hc, rkc, bc, hMc, hbc⟩ := hPL1.mid
    have hsc := hPL1.small
    have hndc := hMc.nodup
    have hnw' : n < w.length := by omega
    obtain ⟨x, hxf⟩ := findN_ids (hPL1.inn n (by omega))
    obtain ⟨hx, hxid⟩ := findN_some hxf
    have hwn : w[n] = x.id := by rw [hxid]; simp [List.getD, hnw']
    rw [← hxid] at hxf
    obtain ⟨jx, hjx, hfx, hxj⟩ := findN_idx hxf
    simp [hnw', hwn]
    refine inv_p (rAt h.toRdR tc x.id (by have := hsc.1; omega)) rfl (by simp [pureL, V.pure, pureLL]) ?_
    rintro _ rfl
    rw [hfx, show idxI (some jx) = ((jx : Nat) : Int) from rfl]
    simp [hjx, hxj]
    have hwm : IntKind.i64.wrap ((n : Int) - 1) = (n : Int) - 1 := wrap_i64 (by omega)
    have hxf' : findN tc.nodes (w.getD n 0) = some x := by rw [← hxid]; exact hxf
    by_cases h4 : (x.es.length : Int) ≤ 4
    · simp [h4]
      rw [hwm]
      exact ⟨n, by omega, GhostV.refl ⟨n, vl, nv, tc, l, rfl, ⟨.inl (hPL1.skip hx hxid (by omega)), fun t' l' hp => hPL.2.1 t' l' (.skip x hxf' (by omega) hp), hPL.2.2⟩, by omega, by omega, rfl, rfl, rfl⟩⟩
    · have hxe := hsc.2 x hx
      simp [h4]
      by_cases hcm : tc.count = 18446744073709551615
      · simp [hcm]
        exact GhostV.refl ⟨rfl, .inr ⟨⟨w, hw, by omega⟩, rfl⟩⟩
      · simp [hcm]
        have hlen0 : 0 < tc.nodes.length := by omega
        refine inv_p (rGreat h.toRdR tc hlen0 (by have := hsc.1; omega)) rfl (by simp [pureL, V.pure, pureLL]) ?_
        rintro _ rfl
        by_cases hgm : 4294967293 < greatN tc.nodes
        · simp [hcm, hgm]
          exact GhostV.refl ⟨rfl, .inr ⟨⟨w, hw, by omega⟩, rfl⟩⟩
        · have hsrt : (idsN tc.nodes).Pairwise (· < ·) := by have := hMc.shp.srt; simpa using this
          have hgt := great_le hsrt
          have hxp := (hMc.shp.pos _ (mem_shs hx)).1
          have hxg := hgt x hx
          have hcc := hMc.cnt
          rw [NodeT.sh_id] at hxp
          simp [hcm, hgm, hnw', hwn]
          refine inv_p (rSplit h.toSpR tc hsc hndc hxf (by omega) ⟨hcc.1, by omega⟩ ⟨by omega, by omega⟩ hgt) rfl (by simp [pureL, V.pure, pureLL]) ?_
          rintro _ ⟨left, hl1, hl2, hl3, rfl⟩
          simp
          have hnx : ((PutL w n (keyedF (splitF tc x left).1) (l ++ [(splitF tc x left).2]) ∨ (n = 0 ∧ (∃ l0 s, l ++ [(splitF tc x left).2] = l0 ++ [s] ∧ s.root = true) ∧ ∃ h rk b, Mid (keyedF (splitF tc x left).1) 0 w.length b h rk ∧ b ≤ 513 + w.length))) ∧ (∃ h rk, Shp (shs (splitF tc x left).1.nodes) [(splitF tc x left).1.root] h rk) ∧ smallT (splitF tc x left).1 := by
            cases n with
            | zero =>
              obtain ⟨g1, h', rk', b', g2, g3⟩ := hPL1.last hx hxid (by omega) hl1 hl2 hl3 (by omega) (by omega)
              exact ⟨.inr ⟨rfl, ⟨l, _, rfl, g1⟩, h', rk', b', g2, g3⟩, ⟨h', rk', g2.unkey⟩, g2.usmall (by omega)⟩
            | succ m =>
              have g := hPL1.split hx hxid (by omega) hl1 hl2 hl3 (by omega) (by omega)
              obtain ⟨h', rk', b', g2, g3⟩ := g.mid
              exact ⟨.inl g, ⟨h', rk', g2.unkey⟩, g2.usmall (by omega)⟩
          obtain ⟨hn1', ⟨h', rk', hS'⟩, hsm'⟩ := hnx
          refine inv_p (rKeyed h.toKdR (splitF tc x left).1 hsm' hS') rfl (by simp [pureL, V.pure, pureLL]) ?_
          rintro _ rfl
          simp
          rw [hwm]
          refine ⟨by omega, n, by omega, GhostV.keep (L := [_, _, _, _]) ⟨n, nv + 3, nv + 4, keyedF (splitF tc x left).1, l ++ [(splitF tc x left).2], rfl, ⟨hn1', fun t' l' hp => hPL.2.1 t' l' (.split x left hxf' (by omega) hl1 hl2 hl3 hp), hPL.2.2.split x left _⟩, by simp; omega, by omega, rfl, by simp, by simp⟩⟩
end Go.Proofs.Ytmjnpfackanhlaa.AM

namespace Go.Proofs.Ytmjnpfackanhlaa.AM
open Go
set_option linter.unusedVariables false
set_option linter.unusedSimpArgs false
variable {P : Program}

structure WoR (P : Program) : Prop extends PuR P where
 wo : R_gazetteerref11_without P
theorem GhostV.keepN {L N M : List (Option (Nat × Obj))} {nv : Nat} {vs : List V} {K : List V → St → Prop} (hk : K vs ⟨L ++ N, nv⟩) : GhostV vs ⟨L ++ (N ++ M), nv⟩ K := by rw [← List.append_assoc]; exact GhostV.keep hk
theorem remN_snoc (l : List NodeT) (x z : NodeT) : remN (l ++ [x]) z = remN l z ++ (if x.id = z.id then [] else [if x.right = z.id then { x with right := z.right } else x]) := by
 unfold remN
 rw [List.filter_append, List.map_append]
 congr 1
 by_cases h : x.id = z.id <;> simp [h]
def WoI (L : List (Option (Nat × Obj))) (nb : Nat) (t : TreeT) (z : NodeT) (k : Nat) (v6 v7 : V) (st : St) : Prop :=
 ∃ (i nv va : Nat) (out : List NodeT), k = t.nodes.length - i ∧ i ≤ t.nodes.length ∧ v7 = .int .i64 ((i : Nat) : Int) ∧ v6 = .msl (L.length + 2) va 0 out.length ∧ out = remN (t.nodes.take i) z ∧
  st = ⟨L ++ [some (nb, .mem 3 [cTree t]), some (nb + 1, .mem 3 [zTree]), some (va, .mem 5 (out.map cNode))], nv⟩
theorem Wo_core (h : WoR P) (t : TreeT) (hs : smallT t) {z : NodeT} (hz : findN t.nodes z.id = some z) {L : List (Option (Nat × Obj))} {nv : Nat} {K : V → St → Prop}
    (hk : ∀ va nv' (b0 b1 : Option (Nat × Obj)), GhostV [.agg [.msl (L.length + 2) va 0 (remN t.nodes z).length, .int .u32 t.root, .int .u64 t.count]] ⟨L ++ [b0, b1, some (va, .mem 5 ((remN t.nodes z).map cNode))], nv'⟩ (fun vs st => K (mkres vs) st)) :
    ACalls P n_gazetteerref11_without [.agg (cTree t), .int .u32 z.id] ⟨L, nv⟩ K := by
  refine A_gazetteerref11_without h.wo ?_
  unfold F_gazetteerref11_without
  simp
  refine inv_p (Copy_P h.toCpR t hs) rfl (by simp [pureL, V.pure, pureLL]) ?_
  rintro _ rfl
  obtain ⟨i0, hi0, hfi, hzi⟩ := findN_idx hz
  simp
  refine inv_p (rAt h.toRdR t z.id (by have := hs.1; omega)) rfl (by simp [pureL, V.pure, pureLL]) ?_
  rintro _ rfl
  rw [hfi, show idxI (some i0) = ((i0 : Nat) : Int) from rfl]
  simp [hi0, hzi]
  refine ⟨WoI L nv t z, ⟨t.nodes.length, GhostV.nilr 5 (by decide) ⟨0, nv + 3, nv + 2, [], by simp, by omega, by simp, by simp, by simp [remN], by simp⟩⟩, ?_⟩
  rintro k1 v6 v7 st ⟨i, nv1, va, out, rfl, hi, rfl, rfl, hout, rfl⟩
  have hs1 := hs.1
  have hol : out.length ≤ i := by
    rw [hout]; unfold remN; rw [List.length_map]
    refine Nat.le_trans (List.length_filter_le _ _) (by simp; omega)
  by_cases hlt : i < t.nodes.length
  · have hsn := remN_snoc (t.nodes.take i) t.nodes[i] z
    rw [← take_snoc hlt, ← hout] at hsn
    simp [hlt]
    by_cases he : t.nodes[i].id = z.id
    · rw [if_pos he, List.append_nil] at hsn
      simp [he]
      exact ⟨t.nodes.length - (i + 1), by omega, GhostV.keepN (N := [_, _, _]) ⟨i + 1, _, va, out, rfl, by omega, by rw [wadd1 (by omega)], rfl, hsn.symm, rfl⟩⟩
    · rw [if_neg he] at hsn
      simp [he]
      by_cases hr : t.nodes[i].right = z.id
      · rw [if_pos hr] at hsn
        simp [hr]
        refine ⟨by omega, t.nodes.length - (i + 1), by omega, GhostV.keepN (N := [_, _, _]) ⟨i + 1, nv1 + 3, nv1 + 2, out ++ [{ t.nodes[i] with right := z.right }], rfl, by omega, by rw [wadd1 (by omega)], by simp, hsn.symm, by simp⟩⟩
      · rw [if_neg hr] at hsn
        simp [hr]
        refine ⟨by omega, t.nodes.length - (i + 1), by omega, GhostV.keepN (N := [_, _, _]) ⟨i + 1, nv1 + 3, nv1 + 2, out ++ [t.nodes[i]], rfl, by omega, by rw [wadd1 (by omega)], by simp, hsn.symm, by simp⟩⟩
  · have hoe : out = remN t.nodes z := by rw [hout, List.take_of_length_le (by omega)]
    subst hoe
    simp [hlt]
    exact hk va nv1 _ _
theorem Wo_P (h : WoR P) (t : TreeT) (hs : smallT t) {z : NodeT} (hz : findN t.nodes z.id = some z) : PCalls P n_gazetteerref11_without [.agg (cTree t), .int .u32 z.id] (fun r => r = .agg (cTree { t with nodes := remN t.nodes z })) := by
 refine Wo_core h t hs hz (fun va nv' b0 b1 => ?_)
 refine GhostV.tree0 (t := { t with nodes := remN t.nodes z }) (by simp) rfl ?_
 exact ⟨by simp [mkres, V.pure, pureL, pureLL], rfl⟩
theorem Wo_L (h : WoR P) (t : TreeT) (hs : smallT t) {z : NodeT} (hz : findN t.nodes z.id = some z) {o0 o1 : Option (Nat × Obj)} {nv : Nat} {K : V → St → Prop}
  (hk : ∀ va nv', K (.agg [.msl 4 va 0 (remN t.nodes z).length, .int .u32 t.root, .int .u64 t.count]) ⟨[o0, o1, none, none, some (va, .mem 5 ((remN t.nodes z).map cNode))], nv'⟩) :
  ACalls P n_gazetteerref11_without [.agg (cTree t), .int .u32 z.id] ⟨[o0, o1], nv⟩ K := by
 refine Wo_core h t hs hz (fun va nv' b0 b1 => ?_)
 refine GhostV.sub (st' := ⟨[o0, o1, none, none, some (va, .mem 5 ((remN t.nodes z).map cNode))], nv'⟩) rfl (fun id x hx => ?_) (by exact hk va nv')
 match id, hx with
 | 0, hx => exact hx
 | 1, hx => exact hx
 | 2, hx => simp at hx
 | 3, hx => simp at hx
 | 4, hx => exact hx
 | id + 5, hx => simp at hx
end Go.Proofs.Ytmjnpfackanhlaa.AM

namespace Go.Proofs.Ytmjnpfackanhlaa.AM
open Go
set_option linter.unusedVariables false
set_option linter.unusedSimpArgs false
variable {P : Program}

structure TkR (P : Program) : Prop extends WoR P where
 take : R_gazetteerref11_Take P
theorem GhostV.treek {L M : List (Option (Nat × Obj))} {nv id va n : Nat} {t : TreeT} {r c : Int} {rest : List V} {K : List V → St → Prop} (ho : (L ++ M)[id]? = some (some (va, .mem 5 (t.nodes.map cNode)))) (hid : L.length ≤ id) (hn : n = t.nodes.length) (hr : r = t.root) (hc : c = t.count) (hk : K (.agg (cTree t) :: rest) ⟨L, nv⟩) :
  GhostV (.agg [.msl id va 0 n, .int .u32 r, .int .u64 c] :: rest) ⟨L ++ M, nv⟩ K := by
 subst hn hr hc
 refine GhostV.freeze (vs' := .agg (cTree t) :: rest) (st' := ⟨L, nv⟩) (id := id) (ver := va) (sz := 5) (es := t.nodes.map cNode) (by simp only [St.get]; rw [ho]; simp) rfl rfl (fun i => ?_) (fun id1 ver1 o1 hh => ?_) hk
 ·cases i with
  | zero =>
   refine .agg _ _ rfl (fun i hi => ?_)
   match i, hi with
   | 0, _ =>
    have := Frz.msl (ver := va) (sz := 5) (es := t.nodes.map cNode) id 0 t.nodes.length (by simp)
    have e3 : List.drop t.nodes.length (t.nodes.map cNode) = [] := List.drop_eq_nil_of_le (by simp)
    simpa [e3] using this
   | 1, _ => exact .refl _
   | 2, _ => exact .refl _
  | succ i => simpa using Frz.refl _
 ·simp only at hh
  have hlt := (List.getElem?_eq_some_iff.1 hh).1
  exact ⟨by omega, o1, by simp only; rw [List.getElem?_append_left hlt]; exact hh, .inl rfl⟩
abbrev TkO (va : Nat) (ns : List NodeT) (root count : Int) : List (Option (Nat × Obj)) := [some (0, .mem 3 [[.msl 4 va 0 ns.length, .int .u32 root, .int .u64 count]]), some (1, .mem 3 [zTree]), none, none, some (va, .mem 5 (ns.map cNode))]
def TkI2 (t : TreeT) (nsF : List NodeT) (k : Nat) (v6 v9 v10 : V) (st : St) : Prop :=
 ∃ (n va nv : Nat) (ns : List NodeT) (w : Int) (g : List Int) (h rk : Int → Nat), k = 14 - n ∧ n ≤ 14 ∧ v10 = .int .i64 ((n : Nat) : Int) ∧ v9 = .int .u32 w ∧ v6 = vIs g ∧ g.length ≤ n ∧ Tak ⟨ns, t.root, t.count⟩ w h rk ∧ upF (14 - n) ns w = nsF ∧ st = ⟨TkO va ns t.root t.count, nv⟩
def TkJ (t : TreeT) (nsF : List NodeT) (v : V) (st : St) : Prop := ∃ (va nv : Nat) (g : List Int), v = vIs g ∧ g.length ≤ 14 ∧ st = ⟨TkO va nsF t.root t.count, nv⟩
def TkI3 (tF : TreeT) (k : Nat) (v6 v13 : V) (st : St) : Prop :=
 ∃ (n nv : Nat) (tc : TreeT) (g : List Int) (h rk : Int → Nat), k = 14 - n ∧ n ≤ 14 ∧ v13 = .int .i64 ((n : Nat) : Int) ∧ v6 = vIs g ∧ g.length ≤ 14 + n ∧ Tak tc tc.root h rk ∧ KeysOk tc.nodes ∧ rootF (14 - n) tc = tF ∧ st = ⟨[some (0, .mem 3 [cTree tc]), some (1, .mem 3 [zTree])], nv⟩
theorem emptyG {L : List (Option (Nat × Obj))} {nv id va : Nat} {c : Int} {g : V} {K : List V → St → Prop} (ho : L[id]? = some (some (va, .mem 5 [[.int .u32 1, .bool true, .sl .nil 0 [] [], .int .u64 0, .int .u32 0]]))) (hk : K [.agg (cTree (emptyF c)), g] ⟨[], nv⟩) :
    GhostV [.agg [.msl id va 0 1, .int .u32 1, .int .u64 c], g] ⟨L, nv⟩ K := by
  refine GhostV.trans (GhostV.freeze (vs' := [.agg [.sl .unk 5 [[.int .u32 1, .bool true, .sl .nil 0 [] [], .int .u64 0, .int .u32 0]] [], .int .u32 1, .int .u64 c], g]) (st' := ⟨[], nv⟩) (K := fun vs st => vs = [.agg [.sl .unk 5 [[.int .u32 1, .bool true, .sl .nil 0 [] [], .int .u64 0, .int .u32 0]] [], .int .u32 1, .int .u64 c], g] ∧ st = ⟨[], nv⟩) (id := id) (ver := va) (sz := 5) (es := [[.int .u32 1, .bool true, .sl .nil 0 [] [], .int .u64 0, .int .u32 0]]) (by simp [St.get, ho]) rfl rfl (fun i => ?_) (fun id1 ver1 o1 hh => by simp at hh) ⟨rfl, rfl⟩) ?_
  · match i with
    | 0 =>
      refine .agg _ _ rfl (fun i hi => ?_)
      match i, hi with
      | 0, _ => exact Frz.msl (ver := va) (sz := 5) (es := [[.int .u32 1, .bool true, .sl .nil 0 [] [], .int .u64 0, .int .u32 0]]) id 0 1 (by simp)
      | 1, _ => exact .refl _
      | 2, _ => exact .refl _
    | i + 1 => exact .refl _
  · rintro _ _ ⟨rfl, rfl⟩
    refine GhostV.le (LeVs.cons (LeV.aggs (LeVs.cons (.sl .unk 5 _ [[.int .u32 1, .bool true, .sl .unk 5 [] [], .int .u64 0, .int .u32 0]] [] rfl (fun i hi => ?_) (fun i j hi => ?_)) (LeVs.refl _))) (LeVs.refl _)) hk
    · obtain rfl : i = 0 := by simpa using hi
      rfl
    · obtain rfl : i = 0 := by simpa using hi
      match j with
      | 0 => exact .refl _
      | 1 => exact .refl _
      | 2 => exact .nil 0 5
      | 3 => exact .refl _
      | 4 => exact .refl _
      | j + 5 => exact .refl _
theorem Tak.keyed {t : TreeT} {h rk : Int → Nat} (H2 : Tak t t.root h rk) : Tak (keyedF t) (keyedF t).root h rk ∧ KeysOk (keyedF t).nodes := by
 have hn := H2.nodup
 have e := keyed_shs hn
 refine ⟨⟨by rw [e]; exact H2.shp, H2.top, by rw [keyedF_nodes]; exact BoxesOk.passes 14 H2.box, by rw [e]; exact H2.ne, by rw [e]; exact H2.wid, by rw [e]; exact H2.mark, H2.cnt, by rw [e]; exact H2.rows, by rw [e]; exact H2.rpos, by rw [shs_len e]; exact H2.len, ?_⟩, ?_⟩
 ·rw [keyedF_ids]; exact H2.inn
 ·rw [keyedF_nodes]
  refine keys_ok H2.shp (fun y hy => ?_)
  have h1 := H2.shp.top_le _ (mem_shs hy)
  have h2 := H2.top
  rw [NodeT.sh_id] at h1
  omega
theorem withF_len : ∀ (l : List Int) (n : Int), (withF l n).length = l.length + 1
 | [], _ => rfl
 | x :: l, n => by
  unfold withF
  split
  ·rfl
  ·simp [withF_len l n]
theorem Tak.small {t : TreeT} {w : Int} {h rk : Int → Nat} (H : Tak t w h rk) : smallT t := ⟨by have := H.len; omega, fun x hx => by
  have := H.wid _ (mem_shs hx)
  simp only [NodeT.sh_ch, List.length_map] at this; omega⟩
set_option maxHeartbeats 2000000 in
theorem rTake (h : TkR P) (t : TreeT) (hI : Inv t) (row : Int) {ir : Nat} (hir : ir < t.nodes.length) (hfr : t.nodes.findIdx? (isRow row) = some ir) :
    PCalls P n_gazetteerref11_Take [.agg (cTree t), .int .u32 row] (fun r => ∃ g, r = .tup [.agg (cTree (takeF t t.nodes[ir] row)), vIs g]) := by
  refine A_gazetteerref11_Take h.take ?_
  unfold F_gazetteerref11_Take
  simp [st0]
  have hnd := hI.nodup
  have hsm : smallT t := ⟨by have := hI.len; omega, fun x hx => by
    have := hI.wid _ (mem_shs hx)
    simp only [NodeT.sh_ch, List.length_map] at this; omega⟩
  have hs1 := hsm.1
  obtain ⟨x, hx⟩ : ∃ x, x = t.nodes[ir] := ⟨_, rfl⟩
  rw [← hx]
  have hxm : x ∈ t.nodes := by rw [hx]; exact List.getElem_mem hir
  have hxl : x.leaf = true := by
    obtain ⟨_, _, h3⟩ := find_of_idx hfr
    rw [← hx] at h3
    cases hl : x.leaf with
    | true => rfl
    | false => rw [isRow_in hl] at h3; cases h3
  have hxw := hsm.2 x hxm
  refine inv_f0 (Copy_L h.toCpR t hsm (fun va nv0 => ?_))
  simp
  refine inv_look (rRow h.toRdR t row (by omega) (fun y hy => by have := hsm.2 y hy; omega)) (Bors.cons (tBor (by simp [St.get]) rfl) (Bors.cons (.refl _) Bors.nil)) (by simp [pureL, V.pure, pureLL]) ?_
  rintro _ rfl
  have hrp : rowP t.nodes row = .tup [.int .i64 ((ir : Nat) : Int), .int .i64 (idxI (x.es.findIdx? (hasC row)))] := by
    unfold rowP
    rw [hfr]
    simp [hir, ← hx]
  refine ⟨by rw [hrp]; rfl, ?_⟩
  rw [hrp]
  simp [hir, ← hx]
  refine inv_p (rDrop h.toRdR x.es row (by omega)) rfl (by simp [pureL, V.pure]) ?_
  rintro _ rfl
  simp [hir, ← hx]
  obtain ⟨x', hx'⟩ : ∃ x' : NodeT, x' = { x with es := dropE x.es row } := ⟨_, rfl⟩
  have hns0 : t.nodes.set ir x' = updN t.nodes x' := set_eq_updN hnd hir (by rw [hx', ← hx])
  obtain ⟨nsF, hnsF⟩ : ∃ nsF, nsF = upF 14 (updN t.nodes x') x.id := ⟨_, rfl⟩
  have hrow0 : (List.map cNode t.nodes).set ir [.int .u32 x.id, .bool x.leaf, .sl .unk 5 (List.map cLink (dropE x.es row)) [], .int .u64 x.mark, .int .u32 x.right] = (updN t.nodes x').map cNode := by
    rw [← hns0, List.map_set, hx']; rfl
  obtain ⟨h1, rk1, hT1, hh0⟩ := take_start hI hxm hxl row
  rw [← hx'] at hT1
  rw [hrow0]
  refine ⟨TkJ t nsF, ?_, ?_⟩
  · refine ⟨TkI2 t nsF, ⟨14, GhostV.le (LeVs.cons (LeV.nil 0 1) (LeVs.refl _)) ⟨0, va, nv0, updN t.nodes x', x.id, [], h1, rk1, by simp, by omega, by simp, rfl, rfl, by simp, hT1, hnsF.symm, by simp [updN]⟩⟩, ?_⟩
    rintro k2 v6 v9 v10 st ⟨n, va2, nv2, ns, w, g, h2, rk2, rfl, hn14, rfl, rfl, rfl, hgl, hT, hF, rfl⟩
    by_cases hn : n < 14
    · have hn' : (n : Int) < 14 := by omega
      have hsmT := hT.small
      obtain ⟨y, hyf⟩ := findN_ids hT.inn
      obtain ⟨hy, hyw⟩ := findN_some hyf
      dsimp only at hyf hy
      subst hyw
      obtain ⟨iy, hiy, hfy, hyi⟩ := findN_idx hyf
      simp [hn']
      refine inv_look (rAt h.toRdR ⟨ns, t.root, t.count⟩ y.id (by have := hsmT.1; dsimp only at this ⊢; omega)) (Bors.cons (tBor (t := ⟨ns, t.root, t.count⟩) (by simp [St.get]) rfl) (Bors.cons (.refl _) Bors.nil)) (by simp [pureL, V.pure, pureLL]) ?_
      rintro _ rfl
      refine ⟨rfl, ?_⟩
      rw [hfy, show idxI (some iy) = ((iy : Nat) : Int) from rfl]
      simp
      refine inv_look (rAbove h.toRdR ⟨ns, t.root, t.count⟩ y.id (by have := hsmT.1; dsimp only at this ⊢; omega) (fun z hz => by have := hsmT.2 z hz; omega)) (Bors.cons (tBor (t := ⟨ns, t.root, t.count⟩) (by simp [St.get]) rfl) (Bors.cons (.refl _) Bors.nil)) (by simp [pureL, V.pure, pureLL]) ?_
      rintro _ rfl
      refine ⟨rfl, ?_⟩
      obtain ⟨m, hm⟩ : ∃ m, 14 - n = m + 1 := ⟨13 - n, by omega⟩
      have hm' : m = 14 - (n + 1) := by omega
      rw [hm, upF, hyf] at hF
      have hy0 : 0 < y.es.length ↔ y.es ≠ [] := List.length_pos_iff
      cases hab : aboveN ns y.id with
      | none =>
        rw [hab] at hF
        dsimp only at hF
        have hix : ns.findIdx? (isUp y.id) = none := by
          rw [List.findIdx?_eq_none_iff]
          intro z hz
          have := List.find?_eq_none.1 hab z hz
          simpa [isUp] using this
        rw [hix, show idxI none = (-1 : Int) from rfl]
        simp [hiy, hyi]
        by_cases he : 0 < y.es.length
        · simp [he]
          exact GhostV.refl ⟨va2, nv2, g, rfl, by omega, by rw [hF]⟩
        · simp [he]
          exact GhostV.refl ⟨va2, nv2, g, rfl, by omega, by rw [hF]⟩
      | some p =>
        rw [hab] at hF
        dsimp only at hF
        obtain ⟨ip, hip, hix, hpe⟩ := find_idx_some (p := isUp y.id) hab
        obtain ⟨hp, hpk⟩ := aboveN_some hab
        have hip0 : ¬ ((ip : Nat) : Int) < 0 := by omega
        have hpw := hsmT.2 p hp
        rw [hix, show idxI (some ip) = ((ip : Nat) : Int) from rfl]
        simp [hiy, hyi]
        by_cases he : 0 < y.es.length
        · rw [if_neg (hy0.1 he)] at hF
          simp [he]
          exact GhostV.refl ⟨va2, nv2, g, rfl, by omega, by rw [hF]⟩
        · have hye : y.es = [] := by
            cases hq : y.es with
            | nil => rfl
            | cons a b => rw [hq] at he; simp at he
          rw [if_pos hye] at hF
          simp [he, hip0, hip, hpe]
          refine inv_p (rDrop h.toRdR p.es y.id (by omega)) rfl (by simp [pureL, V.pure]) ?_
          rintro _ rfl
          obtain ⟨p', hp'⟩ : ∃ p' : NodeT, p' = { p with es := dropE p.es y.id } := ⟨_, rfl⟩
          have hndn : (idsN ns).Nodup := hT.nodup
          have hrowp : (List.map cNode ns).set ip [.int .u32 p.id, .bool p.leaf, .sl .unk 5 (List.map cLink (dropE p.es y.id)) [], .int .u64 p.mark, .int .u32 p.right] = (updN ns p').map cNode := by
            rw [← set_eq_updN hndn hip (by rw [hp', hpe]), List.map_set, hp']; rfl
          simp [hip, hpe]
          rw [hrowp]
          refine inv_p (rWith h.toRdR g y.id (by omega)) rfl (by simp [pureL, V.pure]) ?_
          rintro _ rfl
          simp
          obtain ⟨hT2, hh2⟩ := hT.step hy hye hp hpk
          rw [← hp'] at hF hT2
          have hpy : y.id ≠ p.id := fun e => by rw [e] at hh2; omega
          have hyf2 : findN (updN ns p') y.id = some y := by rw [findN_updN (by rw [hp']; exact hpy)]; exact hyf
          have hsm2 : smallT ⟨updN ns p', t.root, t.count⟩ := ⟨by have := hsmT.1; simpa [updN] using this, fun z hz => by
            dsimp only at hz
            rcases mem_updN hz with rfl | ⟨hz, _⟩
            · have := dropE_len p.es y.id
              rw [hp']; dsimp only; omega
            · exact hsmT.2 z hz⟩
          refine inv_f0 (ACalls.gv (Wo_P h.toWoR ⟨updN ns p', t.root, t.count⟩ hsm2 hyf2).1 (GhostV.treek (L := [some (0, .mem 3 [[.msl 4 va2 0 ns.length, .int .u32 t.root, .int .u64 t.count]]), some (1, .mem 3 [zTree])]) (M := [none, none, some (va2, .mem 5 ((updN ns p').map cNode))]) (t := ⟨updN ns p', t.root, t.count⟩) (by simp) (by simp) (by simp [updN]) rfl rfl ?_))
          refine Wo_L h.toWoR ⟨updN ns p', t.root, t.count⟩ hsm2 hyf2 (fun va3 nv3 => ?_)
          simp
          rw [wadd1 (by omega)]
          exact ⟨14 - (n + 1), by omega, GhostV.refl ⟨n + 1, va3, nv3, remN (updN ns p') y, p.id, withF g y.id, h2, rk2, rfl, by omega, rfl, rfl, rfl, by rw [withF_len]; omega, hT2, by rw [← hm']; exact hF, rfl⟩⟩
    · obtain rfl : n = 14 := by omega
      have hF' : ns = nsF := hF
      simp
      exact GhostV.refl ⟨va2, nv2, g, rfl, by omega, by rw [hF']⟩
  rintro v6 st ⟨va3, nv3, g, rfl, hgl, rfl⟩
  have hU := upF_ok 14 hT1 (by have := hT1.top; dsimp only at this ⊢; omega)
  dsimp only at hU
  rw [← hnsF] at hU
  obtain ⟨tU, htU⟩ : ∃ tU : TreeT, tU = ⟨nsF, t.root, t.count⟩ := ⟨_, rfl⟩
  have hU' : Tak tU tU.root h1 rk1 := by rw [htU]; exact hU
  obtain ⟨hK1, hK2⟩ := hU'.keyed
  have htF : takeF t x row = rootF 14 (keyedF tU) := by
    unfold takeF
    rw [← hx', ← hnsF, htU]
  simp
  have hKy := rKeyed h.toKdR tU hU'.small hU'.shp
  refine inv_f0 (ACalls.gv hKy.1 (GhostV.treek (L := [some (0, .mem 3 [[.msl 4 va3 0 nsF.length, .int .u32 t.root, .int .u64 t.count]]), some (1, .mem 3 [zTree])]) (M := [none, none, some (va3, .mem 5 (nsF.map cNode))]) (t := tU) (by rw [htU]; simp) (by simp) (by rw [htU]) (by rw [htU]) (by rw [htU]) ?_))
  refine hKy.at (by simp [pureL, V.pure, pureLL]) ?_
  rintro _ rfl
  simp
  refine ⟨TkI3 (takeF t x row), ⟨14, GhostV.refl ⟨0, nv3, keyedF tU, g, h1, rk1, by omega, by omega, by simp, rfl, by omega, hK1, hK2, htF.symm, by simp⟩⟩, ?_⟩
  rintro k3 v6 v13 st ⟨n, nv4, tc, g4, h4, rk4, rfl, hn14, rfl, rfl, hg4, hT, hKc, hF, rfl⟩
  have hsc := hT.small
  have hsc1 := hsc.1
  by_cases hn : n < 14
  · have hn' : (n : Int) < 14 := by omega
    obtain ⟨y, hyf⟩ := findN_ids hT.inn
    obtain ⟨hy, hyr⟩ := findN_some hyf
    obtain ⟨iy, hiy, hfy, hyi⟩ := findN_idx hyf
    have hyw := hsc.2 y hy
    obtain ⟨m, hm⟩ : ∃ m, 14 - n = m + 1 := ⟨13 - n, by omega⟩
    have hm' : m = 14 - (n + 1) := by omega
    rw [hm, rootF, hyf] at hF
    dsimp only at hF
    simp [hn']
    refine inv_p (rAt h.toRdR tc tc.root (by omega)) rfl (by simp [pureL, V.pure, pureLL]) ?_
    rintro _ rfl
    rw [hfy, show idxI (some iy) = ((iy : Nat) : Int) from rfl]
    simp [hiy, hyi]
    by_cases hc : y.leaf = true ∨ 1 < y.es.length
    · rw [if_pos hc] at hF
      have hfin : GhostV [.agg [vNs tc.nodes, .int .u32 tc.root, .int .u64 tc.count], vIs g4] ⟨[some (0, .mem 3 [cTree tc]), some (1, .mem 3 [cTree tc]), some (nv4, .mem 5 [cNode y])], nv4 + 1⟩ (fun vs st => (mkres vs).pure = true ∧ ∃ g, mkres vs = .tup [.agg (cTree (takeF t x row)), vIs g]) :=
        GhostV.refl ⟨by simp [mkres, V.pure, pureL, pureLL], g4, by rw [← hF]; rfl⟩
      cases hyl : y.leaf
      · have h1y : 1 < y.es.length := by
          rcases hc with hc | hc
          · rw [hyl] at hc; cases hc
          · exact hc
        have h1z : (1 : Int) < y.es.length := by omega
        simp [h1z]
        simpa [hyl] using hfin
      · simp
        simpa [hyl] using hfin
    · rw [if_neg hc] at hF
      have hyl : y.leaf = false := by
        cases e : y.leaf with
        | false => rfl
        | true => exact absurd (.inl e) hc
      have h1y : ¬ 1 < y.es.length := fun e => hc (.inr e)
      have h1z : ¬ (1 : Int) < y.es.length := by omega
      simp [hyl, h1z]
      refine inv_p (rWith h.toRdR g4 y.id (by omega)) rfl (by simp [pureL, V.pure]) ?_
      rintro _ rfl
      cases hye : y.es with
      | nil =>
        rw [hye] at hF
        dsimp only at hF
        simp [hye]
        refine emptyG (by simp) ?_
        exact ⟨by simp [mkres, V.pure, pureL, pureLL, emptyF], withF g4 y.id, by rw [← hF]; rfl⟩
      | cons e l =>
        have hl0 : l = [] := by
          cases l with
          | nil => rfl
          | cons e2 l => rw [hye] at h1y; simp at h1y
        subst hl0
        rw [hye] at hF
        dsimp only at hF
        simp [hye]
        have hyf' : findN tc.nodes y.id = some y := by rw [hyr]; exact hyf
        refine inv_p (Wo_P h.toWoR tc hsc hyf') rfl (by simp [pureL, V.pure, pureLL]) ?_
        rintro _ rfl
        simp
        rw [wadd1 (by omega)]
        obtain ⟨k1, k2, k3⟩ := hT.shrink hKc hy hyr hyl hye
        exact ⟨14 - (n + 1), by omega, GhostV.keep (L := [_, _]) ⟨n + 1, nv4 + 1, ⟨remN tc.nodes y, e.child, tc.count⟩, withF g4 y.id, h4, rk4, rfl, by omega, rfl, rfl, by rw [withF_len]; omega, k1, k2, by rw [← hm']; exact hF, rfl⟩⟩
  · obtain rfl : n = 14 := by omega
    have hF' : tc = takeF t x row := hF
    simp
    exact GhostV.refl ⟨by simp [mkres, V.pure, pureL, pureLL], g4, by rw [← hF']; rfl⟩
end Go.Proofs.Ytmjnpfackanhlaa.AM

namespace Go.Proofs.Ytmjnpfackanhlaa.AM
open Go
set_option linter.unusedVariables false
set_option linter.unusedSimpArgs false
variable {P : Program}

structure PlR (P : Program) : Prop extends TkR P where
 walk : R_tree_grove_walk P
 plant : R_tree_plant P
 check : R_tree_Check P
 clone : R_slices_Clone_Link_Link P
def eM (l : List (Int × V)) : List (V × V) := l.map (fun p => (.int .u32 p.1, p.2))
theorem eM_none {x : Int} : ∀ {l : List (Int × V)} {i : Nat}, l.find? (fun p => decide (p.1 = x)) = none → mfind (.one .int) (.int .u32 x) (eM l) i = some none
  | [], i, _ => rfl
  | p :: l, i, h => by
    rw [List.find?_cons] at h
    by_cases e : p.1 = x
    · simp [e] at h
    · have h2 : l.find? (fun p => decide (p.1 = x)) = none := by simpa [e] using h
      have : keyEq (.one .int) (.int .u32 x) (.int .u32 p.1) = some false := by simp [keyEq, eqL]; exact fun e2 => e e2.symm
      have ih := eM_none (i := i + 1) h2
      simp only [eM, List.map_cons, mfind, this] at ih ⊢
      exact ih
theorem eM_some {x : Int} {q : Int × V} : ∀ {l : List (Int × V)} {i : Nat}, l.find? (fun p => decide (p.1 = x)) = some q → ∃ j, mfind (.one .int) (.int .u32 x) (eM l) i = some (some (j, q.2))
  | [], i, h => by simp at h
  | p :: l, i, h => by
    rw [List.find?_cons] at h
    by_cases e : p.1 = x
    · simp [e] at h
      subst h
      have : keyEq (.one .int) (.int .u32 x) (.int .u32 p.1) = some true := by simp [keyEq, eqL, e]
      exact ⟨i, by simp only [eM, List.map_cons, mfind, this]⟩
    · have h2 : l.find? (fun p => decide (p.1 = x)) = some q := by simpa [e] using h
      have : keyEq (.one .int) (.int .u32 x) (.int .u32 p.1) = some false := by simp [keyEq, eqL]; exact fun e2 => e e2.symm
      obtain ⟨j, hj⟩ := eM_some (i := i + 1) h2
      exact ⟨j, by simp only [eM, List.map_cons, mfind, this] at hj ⊢; exact hj⟩
def nodeE (b : Nat) : List NodeT → List Nat → List (Int × V)
 | x :: ns, v :: vs => (x.id, .ptr b v 0 0) :: nodeE (b + 1) ns vs
 | _, _ => []
theorem nodeE_none {id : Int} : ∀ {ns : List NodeT} {b : Nat} {vs : List Nat}, findN ns id = none → (nodeE b ns vs).find? (fun p => decide (p.1 = id)) = none
  | [], b, vs, _ => by simp [nodeE]
  | x :: ns, b, [], _ => by simp [nodeE]
  | x :: ns, b, v :: vs, h => by
    unfold findN at h
    rw [List.find?_cons] at h
    by_cases e : x.id = id
    · simp [e] at h
    · have h2 : findN ns id = none := by unfold findN; simpa [e] using h
      rw [nodeE, List.find?_cons]
      simp only [e, decide_false]
      exact nodeE_none h2
theorem nodeE_some {id : Int} {x : NodeT} : ∀ {ns : List NodeT} {b : Nat} {vs : List Nat}, vs.length = ns.length → findN ns id = some x → ∃ j v, ∃ h : j < ns.length, ns[j] = x ∧ vs[j]? = some v ∧ (nodeE b ns vs).find? (fun p => decide (p.1 = id)) = some (id, .ptr (b + j) v 0 0)
  | [], b, vs, _, h => by simp [findN] at h
  | y :: ns, b, [], hl, h => by simp at hl
  | y :: ns, b, v :: vs, hl, h => by
    unfold findN at h
    rw [List.find?_cons] at h
    by_cases e : y.id = id
    · simp [e] at h
      subst h
      exact ⟨0, v, by simp, rfl, rfl, by simp [nodeE, e]⟩
    · have h2 : findN ns id = some x := by unfold findN; simpa [e] using h
      obtain ⟨j, w, hj, h3, h4, h5⟩ := nodeE_some (b := b + 1) (vs := vs) (by simpa using hl) h2
      refine ⟨j + 1, w, by simp; omega, by simpa using h3, by simpa using h4, ?_⟩
      rw [nodeE, List.find?_cons]
      simp only [e, decide_false]
      rw [h5]
      congr 3; omega
theorem nodeE_snoc : ∀ {ns : List NodeT} {b : Nat} {vs : List Nat} {x : NodeT} {v : Nat}, vs.length = ns.length → nodeE b (ns ++ [x]) (vs ++ [v]) = nodeE b ns vs ++ [(x.id, .ptr (b + ns.length) v 0 0)]
 | [], b, [], x, v, _ => by simp [nodeE]
 | [], b, _ :: _, x, v, h => by simp at h
 | y :: ns, b, [], x, v, h => by simp at h
 | y :: ns, b, w :: vs, x, v, h => by
  have e : b + 1 + ns.length = b + (y :: ns).length := by rw [List.length_cons]; omega
  rw [List.cons_append, List.cons_append, nodeE, nodeE, nodeE_snoc (by simpa using h), List.cons_append, e]
def lvE (lv : List (Int × Nat)) : List (Int × V) := lv.map (fun p => (p.1, .int .i64 ((p.2 : Nat) : Int)))
def roE (rows : List Int) : List (Int × V) := rows.map (fun r => (r, .bool true))
theorem lvE_find (id : Int) (lv : List (Int × Nat)) : (lvE lv).find? (fun p => decide (p.1 = id)) = (lv.find? (fun p => decide (p.1 = id))).map (fun p => (p.1, .int .i64 ((p.2 : Nat) : Int))) := by
 unfold lvE
 rw [List.find?_map]
 rfl
theorem roE_none {r : Int} {rows : List Int} (h : ¬ r ∈ rows) : (roE rows).find? (fun p => decide (p.1 = r)) = none := by
 rw [List.find?_eq_none]
 intro p hp
 obtain ⟨q, hq, rfl⟩ := List.mem_map.1 hp
 simp only [decide_eq_true_eq]
 exact fun e => h (by rw [← e]; exact hq)
theorem roE_some {r : Int} {rows : List Int} (h : r ∈ rows) : ∃ q, (roE rows).find? (fun p => decide (p.1 = r)) = some (q, .bool true) := by
 cases hf : (roE rows).find? (fun p => decide (p.1 = r)) with
 | none =>
  have := List.find?_eq_none.1 hf (r, .bool true) (List.mem_map.2 ⟨r, h, rfl⟩)
  simp at this
 | some p =>
  obtain ⟨q, hq, rfl⟩ := List.mem_map.1 (List.mem_of_find?_eq_some hf)
  exact ⟨q, rfl⟩
structure GvSt (t : TreeT) (v1 v2 v3 v5 v6 : Nat) (most : Int) (vs : List Nat) (A : List (Option (Nat × Obj))) (s : WSt) : Prop where
 vl : vs.length = t.nodes.length
 nm : ∃ ep, A[1]? = some (some (v1, .map ep (eM (nodeE 4 t.nodes vs))))
 lm : ∃ ep, A[2]? = some (some (v2, .map ep (eM (lvE s.lv))))
 gv : A[3]? = some (some (v3, .mem 5 [[.map 1 v1, .map 2 v2, .int .u32 t.root, .int .u64 t.count, .int .u32 most]]))
 nd : ∀ i (h : i < t.nodes.length) v, vs[i]? = some v → A[4 + i]? = some (some (v, .mem 5 [cNode t.nodes[i]]))
 rm : ∃ ep, A[4 + t.nodes.length]? = some (some (v5, .map ep (eM (roE s.rows))))
 dp : A[5 + t.nodes.length]? = some (some (v6, .mem 1 [[.int .i64 ((s.depth : Nat) : Int)]]))
 lp : ∀ p ∈ s.lv, p.2 ≠ 0
def GvK (n : Nat) (A A' : List (Option (Nat × Obj))) : Prop := A.length ≤ A'.length ∧ ∀ id, id < A.length → id ≠ 2 → id ≠ 4 + n → id ≠ 5 + n → A'[id]? = A[id]?
theorem GvK.refl (n : Nat) (A : List (Option (Nat × Obj))) : GvK n A A := ⟨Nat.le_refl _, fun _ _ _ _ _ => rfl⟩
theorem GvK.trans {n : Nat} {A B C : List (Option (Nat × Obj))} (h : GvK n A B) (k : GvK n B C) : GvK n A C := ⟨Nat.le_trans h.1 k.1, fun id h1 h2 h3 h4 => (k.2 id (Nat.lt_of_lt_of_le h1 h.1) h2 h3 h4).trans (h.2 id h1 h2 h3 h4)⟩
theorem GvK.app (n : Nat) (A M : List (Option (Nat × Obj))) : GvK n A (A ++ M) := ⟨by simp, fun id hid _ _ _ => List.getElem?_append_left hid⟩
theorem GvK.set {n : Nat} {A B : List (Option (Nat × Obj))} (h : GvK n A B) {i : Nat} (hi : i = 2 ∨ i = 4 + n ∨ i = 5 + n) (x : Option (Nat × Obj)) : GvK n A (B.set i x) := ⟨by simpa using h.1, fun id h1 h2 h3 h4 => by rw [List.getElem?_set_ne (by omega)]; exact h.2 id h1 h2 h3 h4⟩
end Go.Proofs.Ytmjnpfackanhlaa.AM

namespace Go.Proofs.Ytmjnpfackanhlaa.AM
open Go
set_option linter.unusedVariables false
set_option linter.unusedSimpArgs false
variable {P : Program}

def WalkK (t : TreeT) (v1 v2 v3 v5 v6 : Nat) (most : Int) (vs : List Nat) (A : List (Option (Nat × Obj))) (r : Option WSt) (K : V → St → Prop) : Prop :=
 match r with
 | none => ∀ st, K (.bool false) st
 | some s' => ∀ A' nv', GvSt t v1 v2 v3 v5 v6 most vs A' s' → GvK t.nodes.length A A' → K (.bool true) ⟨A', nv'⟩
theorem GvSt.setD {t : TreeT} {v1 v2 v3 v5 v6 : Nat} {most : Int} {vs : List Nat} {A : List (Option (Nat × Obj))} {s : WSt} (h : GvSt t v1 v2 v3 v5 v6 most vs A s) (d : Nat) : GvSt t v1 v2 v3 v5 v6 most vs (A.set (5 + t.nodes.length) (some (v6, .mem 1 [[.int .i64 ((d : Nat) : Int)]]))) ⟨s.lv, d, s.rows⟩ := by
 refine ⟨h.vl, ?_, ?_, ?_, fun i hi v hv => ?_, ?_, ?_, h.lp⟩
 ·rw [List.getElem?_set_ne (by omega)]; exact h.nm
 ·rw [List.getElem?_set_ne (by omega)]; exact h.lm
 ·rw [List.getElem?_set_ne (by omega)]; exact h.gv
 ·rw [List.getElem?_set_ne (by omega)]; exact h.nd i hi v hv
 ·rw [List.getElem?_set_ne (by omega)]; exact h.rm
 ·rw [List.getElem?_set_self (List.getElem?_eq_some_iff.1 h.dp).1]
theorem GvSt.setR {t : TreeT} {v1 v2 v3 v5 v6 : Nat} {most : Int} {vs : List Nat} {A : List (Option (Nat × Obj))} {s : WSt} (h : GvSt t v1 v2 v3 v5 v6 most vs A s) (r : Int) (ep : Nat) : GvSt t v1 v2 v3 v5 v6 most vs (A.set (4 + t.nodes.length) (some (v5, .map ep (eM (roE (s.rows ++ [r])))))) ⟨s.lv, s.depth, s.rows ++ [r]⟩ := by
 refine ⟨h.vl, ?_, ?_, ?_, fun i hi v hv => ?_, ⟨ep, ?_⟩, ?_, h.lp⟩
 ·rw [List.getElem?_set_ne (by omega)]; exact h.nm
 ·rw [List.getElem?_set_ne (by omega)]; exact h.lm
 ·rw [List.getElem?_set_ne (by omega)]; exact h.gv
 ·rw [List.getElem?_set_ne (by omega)]; exact h.nd i hi v hv
 ·obtain ⟨e, he⟩ := h.rm
  rw [List.getElem?_set_self (List.getElem?_eq_some_iff.1 he).1]
 ·rw [List.getElem?_set_ne (by omega)]; exact h.dp
theorem GvSt.app {t : TreeT} {v1 v2 v3 v5 v6 : Nat} {most : Int} {vs : List Nat} {A : List (Option (Nat × Obj))} {s : WSt} (h : GvSt t v1 v2 v3 v5 v6 most vs A s) (M : List (Option (Nat × Obj))) : GvSt t v1 v2 v3 v5 v6 most vs (A ++ M) s := by
 have up : ∀ {i : Nat} {x : Option (Nat × Obj)}, A[i]? = some x → (A ++ M)[i]? = some x := fun {i x} e => by rw [List.getElem?_append_left (List.getElem?_eq_some_iff.1 e).1]; exact e
 obtain ⟨e1, h1⟩ := h.nm
 obtain ⟨e2, h2⟩ := h.lm
 obtain ⟨e3, h3⟩ := h.rm
 exact ⟨h.vl, ⟨e1, up h1⟩, ⟨e2, up h2⟩, up h.gv, fun i hi v hv => up (h.nd i hi v hv), ⟨e3, up h3⟩, up h.dp, h.lp⟩
def NoJ (st : St) : Prop := False
def WkJ (t : TreeT) (v1 v2 v3 v5 v6 : Nat) (most : Int) (vs : List Nat) (A : List (Option (Nat × Obj))) (s' : WSt) (st : St) : Prop := ∃ A4 nv4, GvSt t v1 v2 v3 v5 v6 most vs A4 s' ∧ GvK t.nodes.length A A4 ∧ st = ⟨A4, nv4⟩
def WkJ3 (L : List (Option (Nat × Obj))) (b : Bool) (v : V) (st : St) : Prop := ∃ nv, v = .bool b ∧ st = ⟨L, nv⟩
theorem lv_look (id : Int) (lv : List (Int × Nat)) (hp : ∀ p ∈ lv, p.2 ≠ 0) : (lvOf lv id = 0 ∧ mfind (.one .int) (.int .u32 id) (eM (lvE lv)) 0 = some none) ∨ (lvOf lv id ≠ 0 ∧ ∃ j, mfind (.one .int) (.int .u32 id) (eM (lvE lv)) 0 = some (some (j, .int .i64 ((lvOf lv id : Nat) : Int)))) := by
 have hf := lvE_find id lv
 cases h : lv.find? (fun p => decide (p.1 = id)) with
 | none =>
  rw [h] at hf
  exact .inl ⟨by simp [lvOf, h], eM_none hf⟩
 | some p =>
  rw [h] at hf
  obtain ⟨j, hj⟩ := eM_some (i := 0) hf
  have hl : lvOf lv id = p.2 := by simp [lvOf, h]
  exact .inr ⟨by rw [hl]; exact hp p (List.mem_of_find?_eq_some h), j, by rw [hj, hl]⟩
def WkI (t : TreeT) (v1 v2 v3 v5 v6 : Nat) (most : Int) (vs : List Nat) (A : List (Option (Nat × Obj))) (rec : Int → WSt → Option WSt) (x : NodeT) (R : Option WSt) (k : Nat) (v : V) (st : St) : Prop :=
 ∃ (i nv : Nat) (A1 : List (Option (Nat × Obj))) (s1 : WSt), k = x.es.length - i ∧ i ≤ x.es.length ∧ v = .int .i64 ((i : Nat) : Int) ∧ GvSt t v1 v2 v3 v5 v6 most vs A1 s1 ∧ GvK t.nodes.length A A1 ∧ entsF t.nodes rec x (x.es.drop i) s1 = R ∧ st = ⟨A1, nv⟩
set_option maxHeartbeats 2000000 in
theorem Walk_N (h : PlR P) (t : TreeT) (hs : smallT t) {v1 v2 v3 v5 v6 : Nat} {most : Int} {vs : List Nat} : ∀ (f : Nat) (id : Int) (level : Nat) (s : WSt) (A : List (Option (Nat × Obj))) (nv : Nat) (K : V → St → Prop), level + f = 13 → 0 < level →
    GvSt t v1 v2 v3 v5 v6 most vs A s → WalkK t v1 v2 v3 v5 v6 most vs A (walkF t.nodes t.root f id level s) K →
    ACalls P n_tree_grove_walk [.ptr 3 v3 0 0, .int .u32 id, .int .i64 ((level : Nat) : Int), .ptr (5 + t.nodes.length) v6 0 0, .map (4 + t.nodes.length) v5] ⟨A, nv⟩ K := by
  intro f
  induction f with
  | zero =>
    intro id level s A nv K hf h0 hG hK
    refine A_tree_grove_walk h.walk ?_
    unfold F_tree_grove_walk
    obtain ⟨ep1, hnm⟩ := hG.nm
    simp [hG.gv, hnm]
    cases hfx : findN t.nodes id with
    | none =>
      rw [eM_none (nodeE_none hfx)]
      simp [eqsV]
      refine GhostV.refl ?_
      exact hK _
    | some x =>
      obtain ⟨j, v, hj, hxj, hvj, hfd⟩ := nodeE_some (b := 4) hG.vl hfx
      obtain ⟨j', hm⟩ := eM_some (i := 0) hfd
      rw [hm]
      have hl : (12 : Int) < ((level : Nat) : Int) := by omega
      simp [hl, eqsV]
      refine GhostV.refl ?_
      exact hK _
  | succ f ih =>
    intro id level s A nv K hf h0 hG hK
    refine A_tree_grove_walk h.walk ?_
    unfold F_tree_grove_walk
    obtain ⟨ep1, hnm⟩ := hG.nm
    simp [hG.gv, hnm]
    cases hfx : findN t.nodes id with
    | none =>
      rw [eM_none (nodeE_none hfx)]
      rw [walkF, hfx] at hK
      simp [eqsV]
      refine GhostV.refl ?_
      exact hK _
    | some x =>
      obtain ⟨j, v, hj, hxj, hvj, hfd⟩ := nodeE_some (b := 4) hG.vl hfx
      obtain ⟨j', hm⟩ := eM_some (i := 0) hfd
      rw [hm]
      have hl : ¬ (12 : Int) < ((level : Nat) : Int) := by omega
      rw [walkF, hfx] at hK
      dsimp only at hK
      obtain ⟨ep2, hlm⟩ := hG.lm
      simp [hl, hG.gv, hlm, eqsV]
      rcases lv_look id s.lv hG.lp with ⟨hl0, hml⟩ | ⟨hl0, j2, hml⟩
      · rw [if_neg (by simp [hl0])] at hK
        rw [hml]
        simp [hG.gv, hlm, hml]
        have he : eM (lvE s.lv) ++ [(V.int IntKind.u32 id, V.int IntKind.i64 ((level : Nat) : Int))] = eM (lvE (s.lv ++ [(id, level)])) := by simp [eM, lvE]
        rw [he]
        obtain ⟨A2, hA2⟩ : ∃ A2, A2 = A.set 2 (some (v2, .map nv (eM (lvE (s.lv ++ [(id, level)]))))) := ⟨_, rfl⟩
        rw [← hA2]
        have h2l := (List.getElem?_eq_some_iff.1 hlm).1
        have hG2 : GvSt t v1 v2 v3 v5 v6 most vs A2 ⟨s.lv ++ [(id, level)], s.depth, s.rows⟩ := by
          rw [hA2]
          refine ⟨hG.vl, ?_, ⟨nv, List.getElem?_set_self h2l⟩, ?_, fun i hi v hv => ?_, ?_, ?_, fun p hp => ?_⟩
          · rw [List.getElem?_set_ne (by omega)]; exact hG.nm
          · rw [List.getElem?_set_ne (by omega)]; exact hG.gv
          · rw [List.getElem?_set_ne (by omega)]; exact hG.nd i hi v hv
          · rw [List.getElem?_set_ne (by omega)]; exact hG.rm
          · rw [List.getElem?_set_ne (by omega)]; exact hG.dp
          · rcases List.mem_append.1 hp with hp | hp
            · exact hG.lp p hp
            · rw [List.mem_singleton.1 hp]; dsimp only; omega
        have hK2 : GvK t.nodes.length A A2 := by rw [hA2]; exact (GvK.refl _ _).set (.inl rfl) _
        have hnd := hG2.nd j hj v hvj
        rw [hxj] at hnd
        have hxw := hs.2 x (findN_some hfx).1
        simp [hnd]
        by_cases hes : x.es = []
        · rw [if_pos hes] at hK
          simp [hes, hG2.dp]
          have hG3 := hG2.setD level
          have hK3 : GvK t.nodes.length A (A2.set (5 + t.nodes.length) (some (v6, .mem 1 [[.int .i64 ((level : Nat) : Int)]]))) := hK2.set (.inr (.inr rfl)) _
          obtain ⟨A3, hA3⟩ : ∃ A3, A3 = A2.set (5 + t.nodes.length) (some (v6, .mem 1 [[.int .i64 ((level : Nat) : Int)]])) := ⟨_, rfl⟩
          rw [← hA3] at hG3 hK3 ⊢
          have hnd3 := hG3.nd j hj v hvj
          rw [hxj] at hnd3
          simp [hnd3, hG3.gv]
          cases hxl : x.leaf
          · rw [if_neg (by simp [hxl])] at hK
            simp
            refine GhostV.refl ?_
            exact hK _
          · simp [hG3.gv]
            by_cases hr : id = t.root
            · rw [if_pos ⟨hxl, hr⟩] at hK
              simp [hr]
              refine GhostV.refl ?_
              exact hK _ _ hG3 hK3
            · rw [if_neg (by simp [hr])] at hK
              simp [hr]
              refine GhostV.refl ?_
              exact hK _
        · rw [if_neg hes] at hK
          simp [hes]
          by_cases hbad : x.leaf = true ∧ s.depth ≠ 0 ∧ s.depth ≠ level
          · rw [if_pos hbad] at hK
            obtain ⟨hxl, hd1, hd2⟩ := hbad
            have hd1' : ¬ ((s.depth : Nat) : Int) = 0 := by omega
            have hd2' : ¬ ((s.depth : Nat) : Int) = ((level : Nat) : Int) := by omega
            refine ⟨NoJ, ?_, fun st h => h.elim⟩
            simp [hnd, hxl, hG2.dp, hd1, hd2]
            refine GhostV.refl ?_
            exact hK _
          · rw [if_neg hbad] at hK
            refine ⟨WkJ t v1 v2 v3 v5 v6 most vs A ⟨s.lv ++ [(id, level)], if x.leaf = true then level else s.depth, s.rows⟩, ?_, ?_⟩
            · simp [hnd]
              cases hxl : x.leaf
              · simp
                exact GhostV.refl ⟨A2, _, by simpa [hxl] using hG2, hK2, rfl⟩
              · have hG3 := hG2.setD level
                have hK3 : GvK t.nodes.length A (A2.set (5 + t.nodes.length) (some (v6, .mem 1 [[.int .i64 ((level : Nat) : Int)]]))) := hK2.set (.inr (.inr rfl)) _
                by_cases hd1 : s.depth = 0
                · simp [hG2.dp, hd1]
                  exact GhostV.refl ⟨_, _, by simpa [hxl] using hG3, hK3, rfl⟩
                · have hd2 : s.depth = level := by
                    by_cases e : s.depth = level
                    · exact e
                    · exact absurd ⟨hxl, hd1, e⟩ hbad
                  have hlv0 : ¬ level = 0 := by omega
                  simp [hG2.dp, hd1, hd2, hlv0]
                  exact GhostV.refl ⟨_, _, by simpa [hxl] using hG3, hK3, rfl⟩
            rintro st ⟨A4, nv4, hG4, hK4, rfl⟩
            have hnd4 := hG4.nd j hj v hvj
            rw [hxj] at hnd4
            simp [hnd4]
            obtain ⟨R, hR⟩ : ∃ R, R = entsF t.nodes (fun c s => walkF t.nodes t.root f c (level + 1) s) x x.es ⟨s.lv ++ [(id, level)], if x.leaf = true then level else s.depth, s.rows⟩ := ⟨_, rfl⟩
            rw [← hR] at hK
            refine ⟨WkI t v1 v2 v3 v5 v6 most vs A (fun c s => walkF t.nodes t.root f c (level + 1) s) x R, ⟨x.es.length, GhostV.refl ⟨0, nv4, A4, _, by simp, by omega, by simp, hG4, hK4, by rw [List.drop_zero]; exact hR.symm, rfl⟩⟩, ?_⟩
            clear hG4 hK4 hnd4
            rintro k1 v87 st ⟨i, nv5, A5, s5, rfl, hi, rfl, hG5, hK5, hR5, rfl⟩
            have hnd5 := hG5.nd j hj v hvj
            rw [hxj] at hnd5
            by_cases hlt : i < x.es.length
            · obtain ⟨e, he⟩ : ∃ e, e = x.es[i] := ⟨_, rfl⟩
              have hde : x.es.drop i = e :: x.es.drop (i + 1) := by rw [he]; exact List.drop_eq_getElem_cons hlt
              rw [hde, entsF] at hR5
              simp [hlt, ← he]
              obtain ⟨A6, hA6⟩ : ∃ A6, A6 = A5 ++ [some (nv5, .mem 5 [[.int .i64 e.key.x0, .int .i64 e.key.x1, .int .i64 e.key.y0, .int .i64 e.key.y1, .int .u32 e.child]])] := ⟨_, rfl⟩
              rw [← hA6]
              have hG6 : GvSt t v1 v2 v3 v5 v6 most vs A6 s5 := by rw [hA6]; exact hG5.app _
              have hK6 : GvK t.nodes.length A A6 := by rw [hA6]; exact hK5.trans (GvK.app _ _ _)
              have hE6 : A6[A5.length]? = some (some (nv5, .mem 5 [[.int .i64 e.key.x0, .int .i64 e.key.x1, .int .i64 e.key.y0, .int .i64 e.key.y1, .int .u32 e.child]])) := by rw [hA6]; simp
              have hl6 := (List.getElem?_eq_some_iff.1 hG5.dp).1
              have hnd6 := hG6.nd j hj v hvj
              rw [hxj] at hnd6
              have hwr : IntKind.i64.wrap ((i : Int) + 1) = ((i + 1 : Nat) : Int) := wadd1 (by omega)
              obtain ⟨ep6, hrm⟩ := hG6.rm
              refine ⟨WkJ3 A6 (decide (e.child = 0) || !boxK e.key || (x.leaf && decide (e.child ∈ s5.rows))), ?_, ?_⟩
              · by_cases hc0 : e.child = 0
                · simp [hE6, hc0]
                  exact GhostV.refl ⟨_, by simp [hc0], rfl⟩
                · by_cases hx1 : e.key.x1 < e.key.x0
                  · simp [hE6, hc0, hx1]
                    exact GhostV.refl ⟨_, by simp [boxK, Int.not_le.2 hx1], rfl⟩
                  · by_cases hy1 : e.key.y1 < e.key.y0
                    · simp [hE6, hc0, hx1, hy1]
                      exact GhostV.refl ⟨_, by simp [boxK, Int.not_le.2 hy1], rfl⟩
                    · have hbx : boxK e.key = true := by simp [boxK, Int.not_lt.1 hx1, Int.not_lt.1 hy1]
                      simp [hE6, hc0, hx1, hy1, hnd6]
                      cases hxl : x.leaf
                      · simp
                        exact GhostV.refl ⟨_, by simp [hbx, hc0], rfl⟩
                      · by_cases hin : e.child ∈ s5.rows
                        · obtain ⟨q, hq⟩ := roE_some hin
                          obtain ⟨jq, hmq⟩ := eM_some (i := 0) hq
                          simp [hE6, hrm, hmq]
                          exact GhostV.refl ⟨_, by simp [hin], rfl⟩
                        · have hmq := eM_none (i := 0) (roE_none hin)
                          simp [hE6, hrm, hmq]
                          exact GhostV.refl ⟨_, by simp [hbx, hc0, hin], rfl⟩
              rintro v91 st ⟨nv6, rfl, rfl⟩
              by_cases hbd : e.child = 0 ∨ boxK e.key = false ∨ (x.leaf = true ∧ e.child ∈ s5.rows)
              · have hent : entF t.nodes (fun c s => walkF t.nodes t.root f c (level + 1) s) x s5 e = none := by
                  unfold entF; rw [if_pos hbd]
                rw [hent] at hR5
                have hb : (decide (e.child = 0) || !boxK e.key || (x.leaf && decide (e.child ∈ s5.rows))) = true := by
                  rcases hbd with h1 | h1 | ⟨h1, h2⟩
                  · simp [h1]
                  · simp [h1]
                  · simp [h1, h2]
                rw [hb]
                simp
                refine GhostV.refl ?_
                rw [← hR5] at hK
                exact hK _
              · have hb : (decide (e.child = 0) || !boxK e.key || (x.leaf && decide (e.child ∈ s5.rows))) = false := by
                  cases hq : (decide (e.child = 0) || !boxK e.key || (x.leaf && decide (e.child ∈ s5.rows))) with
                  | false => rfl
                  | true =>
                    refine absurd ?_ hbd
                    simp only [Bool.or_eq_true, decide_eq_true_eq, Bool.not_eq_true', Bool.and_eq_true] at hq
                    rcases hq with (h1 | h1) | h1
                    · exact .inl h1
                    · exact .inr (.inl h1)
                    · exact .inr (.inr h1)
                rw [hb]
                simp [hnd6]
                cases hxl : x.leaf
                · have hwl : IntKind.i64.wrap (((level : Nat) : Int) + 1) = ((level + 1 : Nat) : Int) := wadd1 (by omega)
                  simp [hE6]
                  rw [hwl]
                  refine inv_f0 (ih e.child (level + 1) s5 A6 nv6 _ (by omega) (by omega) hG6 ?_)
                  have hent0 : entF t.nodes (fun c s => walkF t.nodes t.root f c (level + 1) s) x s5 e = (match walkF t.nodes t.root f e.child (level + 1) s5 with
                      | none => none
                      | some s' => match findN t.nodes e.child with
                        | some c => if boundP c.es = e.key then some s' else none
                        | none => none) := by
                    unfold entF; rw [if_neg hbd, if_neg (by simp [hxl])]
                    rfl
                  rw [hent0] at hR5
                  cases hwk : walkF t.nodes t.root f e.child (level + 1) s5 with
                  | none =>
                    rw [hwk] at hR5
                    dsimp only at hR5
                    intro st
                    simp
                    refine GhostV.refl ?_
                    rw [← hR5] at hK
                    exact hK _
                  | some s7 =>
                    rw [hwk] at hR5
                    dsimp only at hR5
                    intro A7 nv7 hG7 hK7
                    have hE7 : A7[A5.length]? = some (some (nv5, .mem 5 [[.int .i64 e.key.x0, .int .i64 e.key.x1, .int .i64 e.key.y0, .int .i64 e.key.y1, .int .u32 e.child]])) := by
                      rw [hK7.2 A5.length (List.getElem?_eq_some_iff.1 hE6).1 (by omega) (by omega) (by omega)]; exact hE6
                    have hK67 := hK6.trans hK7
                    obtain ⟨c, hfc⟩ : ∃ c, findN t.nodes e.child = some c := by
                      cases f with
                      | zero => simp [walkF] at hwk
                      | succ f =>
                        rw [walkF] at hwk
                        cases hq : findN t.nodes e.child with
                        | none => rw [hq] at hwk; cases hwk
                        | some c => exact ⟨c, rfl⟩
                    rw [hfc] at hR5
                    dsimp only at hR5
                    obtain ⟨jc, vc, hjc, hxc, hvc, hfdc⟩ := nodeE_some (b := 4) hG.vl hfc
                    obtain ⟨jc', hmc⟩ := eM_some (i := 0) hfdc
                    obtain ⟨ep7, hnm7⟩ := hG7.nm
                    have hndc := hG7.nd jc hjc vc hvc
                    rw [hxc] at hndc
                    have hcw := hs.2 c (findN_some hfc).1
                    simp [hE7, hG7.gv, hnm7, hmc, hndc]
                    refine inv_p (tKeys h.toKyR c.es (by omega)) rfl (by simp [pureL, V.pure]) ?_
                    rintro _ rfl
                    refine inv_p (kBound h.toKyR c.es (by omega)) rfl (by simp [pureL, V.pure]) ?_
                    rintro _ rfl
                    have hM7 : ∀ M, (A7 ++ M)[A5.length]? = some (some (nv5, .mem 5 [[.int .i64 e.key.x0, .int .i64 e.key.x1, .int .i64 e.key.y0, .int .i64 e.key.y1, .int .u32 e.child]])) := fun M => by rw [List.getElem?_append_left (List.getElem?_eq_some_iff.1 hE7).1]; exact hE7
                    simp [hM7]
                    by_cases hq : boundP c.es = e.key
                    · rw [if_pos hq] at hR5
                      simp [hq]
                      rw [hwr]
                      exact ⟨x.es.length - (i + 1), by omega, GhostV.keep ⟨i + 1, _, A7, s7, rfl, by omega, rfl, hG7, hK67, hR5, rfl⟩⟩
                    · rw [if_neg hq] at hR5
                      have hb2 : (!decide ((boundP c.es).x0 = e.key.x0) || (!decide ((boundP c.es).x1 = e.key.x1) || (!decide ((boundP c.es).y0 = e.key.y0) || !decide ((boundP c.es).y1 = e.key.y1)))) = true := by
                        cases hz : (!decide ((boundP c.es).x0 = e.key.x0) || (!decide ((boundP c.es).x1 = e.key.x1) || (!decide ((boundP c.es).y0 = e.key.y0) || !decide ((boundP c.es).y1 = e.key.y1)))) with
                        | true => rfl
                        | false =>
                          refine absurd ?_ hq
                          simp only [Bool.or_eq_false_iff, Bool.not_eq_false', decide_eq_true_eq] at hz
                          obtain ⟨z1, z2, z3, z4⟩ := hz
                          cases hbp : boundP c.es
                          cases hbe : e.key
                          rw [hbp, hbe] at z1 z2 z3 z4
                          simp only at z1 z2 z3 z4
                          rw [z1, z2, z3, z4]
                      rw [hb2]
                      simp
                      refine GhostV.refl ?_
                      rw [← hR5] at hK
                      exact hK _
                · have hin : ¬ e.child ∈ s5.rows := fun h2 => hbd (.inr (.inr ⟨hxl, h2⟩))
                  have hmq := eM_none (i := 0) (roE_none hin)
                  have hent : entF t.nodes (fun c s => walkF t.nodes t.root f c (level + 1) s) x s5 e = some { s5 with rows := s5.rows ++ [e.child] } := by
                    unfold entF; rw [if_neg hbd, if_pos hxl]
                  rw [hent] at hR5
                  dsimp only at hR5
                  have her : eM (roE s5.rows) ++ [(V.int IntKind.u32 e.child, V.bool true)] = eM (roE (s5.rows ++ [e.child])) := by simp [eM, roE]
                  simp [hE6, hrm, hmq]
                  rw [her, hwr]
                  have hG7 := hG6.setR e.child nv6
                  have hK7 := hK6.set (.inr (.inl rfl)) (some (v5, .map nv6 (eM (roE (s5.rows ++ [e.child])))))
                  exact ⟨x.es.length - (i + 1), by omega, GhostV.refl ⟨i + 1, _, _, _, rfl, by omega, rfl, hG7, hK7, hR5, rfl⟩⟩
            · have hde : x.es.drop i = [] := List.drop_eq_nil_of_le (by omega)
              rw [hde, entsF] at hR5
              simp [hlt]
              refine GhostV.refl ?_
              rw [← hR5] at hK
              exact hK _ _ hG5 hK5
      · rw [if_pos hl0] at hK
        rw [hml]
        simp [hl0]
        refine GhostV.refl ?_
        exact hK _
end Go.Proofs.Ytmjnpfackanhlaa.AM

namespace Go.Proofs.Ytmjnpfackanhlaa.AM
open Go
set_option linter.unusedVariables false
set_option linter.unusedSimpArgs false
variable {P : Program}

theorem Clone_L (h : PlR P) (l : List LinkT) (hl : l.length < 2 ^ 30) : PCalls P n_slices_Clone_Link_Link [vEs l] (fun r => r = vEs l) := by
 refine A_slices_Clone_Link_Link h.clone ?_
 unfold F_slices_Clone_Link_Link
 have fin : ∀ {st : St}, GhostV [.sl .nil 0 [] []] st fun vs st => (mkres vs).pure = true ∧ mkres vs = V.sl .unk 5 [] [] := GhostV.le (LeVs.cons (.nil _ 5) (LeVs.refl _)) ⟨by simp [V.pure, pureLL], by simp⟩
 cases l with
 | nil =>
  simp [st0, vEs]
  exact ⟨GhostV.rowk (L := []) (sz := 5) (es := []) (by simp) (by simp) (by simp) ⟨by simp [V.pure, pureLL], by simp⟩, fin⟩
 | cons x l =>
  simp [st0, vEs]
  refine ⟨by simp at hl; omega, ?_⟩
  refine GhostV.rowk (L := []) (sz := 5) (es := (x :: l).map cLink) (by simp) (by simp) (by simp) ?_
  rw [List.drop_zero, List.take_of_length_le (by simp)]
  exact ⟨by simp only [mkres, V.pure, Bool.and_eq_true]; exact ⟨p_link (x :: l), rfl⟩, rfl⟩
def nodeO : List NodeT → List Nat → List (Option (Nat × Obj))
 | x :: ns, v :: vs => some (v, .mem 5 [cNode x]) :: nodeO ns vs
 | _, _ => []
theorem nodeO_snoc : ∀ {ns : List NodeT} {vs : List Nat} {x : NodeT} {v : Nat}, vs.length = ns.length → nodeO (ns ++ [x]) (vs ++ [v]) = nodeO ns vs ++ [some (v, .mem 5 [cNode x])]
 | [], [], x, v, _ => by simp [nodeO]
 | [], _ :: _, x, v, h => by simp at h
 | y :: ns, [], x, v, h => by simp at h
 | y :: ns, w :: vs, x, v, h => by
  rw [List.cons_append, List.cons_append, nodeO, nodeO, nodeO_snoc (by simpa using h), List.cons_append]
theorem nodeO_len : ∀ {ns : List NodeT} {vs : List Nat}, vs.length = ns.length → (nodeO ns vs).length = ns.length
 | [], [], _ => rfl
 | [], _ :: _, h => by simp at h
 | y :: ns, [], h => by simp at h
 | y :: ns, w :: vs, h => by rw [nodeO, List.length_cons, nodeO_len (by simpa using h), List.length_cons]
theorem nodeO_get : ∀ {ns : List NodeT} {vs : List Nat} (i : Nat) (h : i < ns.length) {v : Nat}, vs[i]? = some v → (nodeO ns vs)[i]? = some (some (v, .mem 5 [cNode ns[i]]))
 | [], _, i, h, v, _ => by simp at h
 | y :: ns, [], i, h, v, hv => by simp at hv
 | y :: ns, w :: vs, 0, h, v, hv => by
  simp at hv
  subst hv
  rfl
 | y :: ns, w :: vs, i + 1, h, v, hv => by
  rw [nodeO, List.getElem?_cons_succ]
  exact nodeO_get i (by simpa using h) (by simpa using hv)
theorem nodeE_len : ∀ {ns : List NodeT} {b : Nat} {vs : List Nat}, vs.length = ns.length → (nodeE b ns vs).length = ns.length
 | [], b, [], _ => rfl
 | [], b, _ :: _, h => by simp at h
 | y :: ns, b, [], h => by simp at h
 | y :: ns, b, w :: vs, h => by rw [nodeE, List.length_cons, nodeE_len (by simpa using h), List.length_cons]
theorem nodeE_get : ∀ {ns : List NodeT} {b : Nat} {vs : List Nat} (i : Nat) (h : i < ns.length) {v : Nat}, vs[i]? = some v → (nodeE b ns vs)[i]? = some (ns[i].id, .ptr (b + i) v 0 0)
 | [], b, _, i, h, v, _ => by simp at h
 | y :: ns, b, [], i, h, v, hv => by simp at hv
 | y :: ns, b, w :: vs, 0, h, v, hv => by
  simp at hv
  subst hv
  rfl
 | y :: ns, b, w :: vs, i + 1, h, v, hv => by
  rw [nodeE, List.getElem?_cons_succ, nodeE_get i (by simpa using h) (by simpa using hv)]
  have e : b + 1 + i = b + (i + 1) := by omega
  rw [e]; rfl
abbrev PlO (t : TreeT) (ep : Nat) (most : Int) (ns : List NodeT) (vs : List Nat) : List (Option (Nat × Obj)) := [some (0, .mem 3 [cTree t]), some (1, .map ep (eM (nodeE 4 ns vs))), some (3, .map 4 []), some (5, .mem 5 [[.map 1 1, .map 2 3, .int .u32 t.root, .int .u64 t.count, .int .u32 most]])]
def PlI1 (t : TreeT) (k : Nat) (v : V) (st : St) : Prop :=
 ∃ (i nv ep : Nat) (most : Int) (vs : List Nat), k = t.nodes.length - i ∧ i ≤ t.nodes.length ∧ v = .int .i64 ((i : Nat) : Int) ∧ vs.length = i ∧ (∀ y ∈ t.nodes.take i, y.id ≤ most) ∧ headsF t.count 0 t.nodes = headsF t.count most (t.nodes.drop i) ∧
  st = ⟨PlO t ep most (t.nodes.take i) vs ++ nodeO (t.nodes.take i) vs, nv⟩
theorem nd_le {seen : List Nat} {n : Nat} (hn : seen.Nodup) (hl : ∀ i ∈ seen, i < n) : seen.length ≤ n := by
 have := List.Nodup.length_le_of_subset hn (l₂ := List.range n) (fun i hi => List.mem_range.2 (hl i hi))
 simpa using this
def rOk (ns : List NodeT) (lv : List (Int × Nat)) (x : NodeT) : Prop := x.right = 0 ∨ ∃ y, findN ns x.right = some y ∧ lvOf lv x.right = lvOf lv x.id
def PlI2 (ns : List NodeT) (lv : List (Int × Nat)) (A : List (Option (Nat × Obj))) (vi ep : Nat) (k : Nat) (st : St) : Prop :=
 ∃ seen nv, k = ns.length - seen.length ∧ seen.Nodup ∧ (∀ j ∈ seen, j < ns.length) ∧ (∀ j ∈ seen, ∀ x, ns[j]? = some x → rOk ns lv x) ∧ st = ⟨A ++ [some (vi, .iter 1 1 ep seen)], nv⟩
theorem heads_srt {c : Int} : ∀ {l : List NodeT} {m : Int}, headsF c m l = true → (idsN l).Pairwise (· < ·) ∧ ∀ x ∈ l, m < x.id
 | [], m, _ => ⟨by simp [idsN], by simp⟩
 | x :: l, m, h => by
  simp only [headsF, Bool.and_eq_true, decide_eq_true_eq] at h
  obtain ⟨h1, h2⟩ := heads_srt h.2
  refine ⟨?_, fun y hy => ?_⟩
  ·simp only [idsN, List.map_cons, List.pairwise_cons]
   exact ⟨fun a ha => by
    obtain ⟨y, hy, rfl⟩ := List.mem_map.1 ha
    exact h2 y hy, h1⟩
  ·rcases List.mem_cons.1 hy with rfl | hy
   ·exact h.1.1.1
   ·have := h2 y hy
    have := h.1.1.1
    omega
theorem nd_ge {seen : List Nat} {n : Nat} (hall : ∀ i, i < n → i ∈ seen) : n ≤ seen.length := by
 have := List.Nodup.length_le_of_subset (l₁ := List.range n) (l₂ := seen) List.nodup_range (fun i hi => hall i (List.mem_range.1 hi))
 simpa using this
theorem steps_zero (ns : List NodeT) (n : Nat) : stepsF ns n 0 = 0 := by cases n <;> simp [stepsF]
def PlI3 (ns : List NodeT) (B : List (Option (Nat × Obj))) (vi ep : Nat) (k : Nat) (st : St) : Prop :=
 ∃ seen nv, k = ns.length - seen.length ∧ seen.Nodup ∧ (∀ j ∈ seen, j < ns.length) ∧ (∀ j ∈ seen, ∀ x, ns[j]? = some x → stepsF ns ns.length x.right = 0) ∧ st = ⟨B ++ [some (vi, .iter 1 1 ep seen)], nv⟩
def PlI4 (ns : List NodeT) (C : List (Option (Nat × Obj))) (vi ep : Nat) (a0 : Int) (k : Nat) (v : V) (st : St) : Prop :=
 ∃ (seen : List Nat) (nv : Nat) (at' : Int), k = ns.length - seen.length ∧ seen.Nodup ∧ (∀ j ∈ seen, j < ns.length) ∧ v = .int .u32 at' ∧ (at' = 0 ∨ at' ∈ idsN ns) ∧ stepsF ns ns.length a0 = stepsF ns (ns.length - seen.length) at' ∧ st = ⟨C ++ [some (vi, .iter 1 1 ep seen)], nv⟩
theorem chains_ok {ns : List NodeT} (h : ∀ x ∈ ns, stepsF ns ns.length x.right = 0) : chainsF ns = true := by
 unfold chainsF
 rw [List.all_eq_true]
 intro x hx
 simp [h x hx]
theorem chains_no {ns : List NodeT} {x : NodeT} (hx : x ∈ ns) (h : stepsF ns ns.length x.right ≠ 0) : chainsF ns = false := by
 cases hr : chainsF ns with
 | false => rfl
 | true =>
  unfold chainsF at hr
  rw [List.all_eq_true] at hr
  have := hr x hx
  exact absurd (by simpa using this) h
theorem rights_ok {ns : List NodeT} {lv : List (Int × Nat)} (h : ∀ x ∈ ns, rOk ns lv x) : rightsF ns lv = true := by
 unfold rightsF
 rw [List.all_eq_true]
 intro x hx
 rcases h x hx with h | ⟨y, h1, h2⟩
 ·simp [h]
 ·rw [h1]; simp [h2]
theorem rights_no {ns : List NodeT} {lv : List (Int × Nat)} {x : NodeT} (hx : x ∈ ns) (h : ¬ rOk ns lv x) : rightsF ns lv = false := by
 cases hr : rightsF ns lv with
 | false => rfl
 | true =>
  unfold rightsF at hr
  rw [List.all_eq_true] at hr
  have := hr x hx
  simp only [Bool.or_eq_true, decide_eq_true_eq] at this
  refine absurd ?_ h
  rcases this with h1 | h1
  ·exact .inl h1
  ·cases hf : findN ns x.right with
   | none => rw [hf] at h1; cases h1
   | some y => rw [hf] at h1; exact .inr ⟨y, hf, by simpa using h1⟩
set_option maxHeartbeats 2000000 in
theorem Plant_P (h : PlR P) (t : TreeT) (hs : smallT t) : PCalls P n_tree_plant [.agg (cTree t)] (fun r => r = .tup [.junk, .bool (plantF t)]) := by
  refine A_tree_plant h.plant ?_
  unfold F_tree_plant
  simp [st0]
  have hfin : ∀ {st : St} {v : V} {b : Bool}, plantF t = b → GhostV [v, .bool b] st (fun vs st => (mkres vs).pure = true ∧ mkres vs = .tup [.junk, .bool (plantF t)]) := fun {st v b} hb => GhostV.le (vs' := [.junk, .bool b]) (LeVs.cons (.junk _) (LeVs.refl _)) ⟨by simp [V.pure, pureL], by rw [hb]; rfl⟩
  have hs1 := hs.1
  by_cases h512 : (512 : Int) < t.nodes.length
  · simp [h512]
    exact hfin (by unfold plantF; simp; omega)
  · simp [h512]
    refine ⟨PlI1 t, ⟨t.nodes.length, GhostV.refl ⟨0, 6, 2, 0, [], by simp, by omega, by simp, rfl, by simp, by simp, by simp [nodeE, nodeO, eM]⟩⟩, ?_⟩
    rintro k1 v28 st ⟨i, nv, ep, most, vs, rfl, hi, rfl, hvl, hmost, hheads, rfl⟩
    have hnl : (nodeO (t.nodes.take i) vs).length = i := by rw [nodeO_len (by rw [List.length_take]; omega), List.length_take]; omega
    by_cases hlt : i < t.nodes.length
    · obtain ⟨x, hx⟩ : ∃ x, x = t.nodes[i] := ⟨_, rfl⟩
      have hde : t.nodes.drop i = x :: t.nodes.drop (i + 1) := by rw [hx]; exact List.drop_eq_getElem_cons hlt
      rw [hde, headsF] at hheads
      have hxm : x ∈ t.nodes := by rw [hx]; exact List.getElem_mem hlt
      have hxw := hs.2 x hxm
      simp [hlt, ← hx]
      by_cases hid : x.id ≤ most
      · simp [hid]
        exact hfin (by
          have : headsF t.count 0 t.nodes = false := by rw [hheads]; simp; omega
          unfold plantF; simp [this])
      · by_cases hwd : (4 : Int) < x.es.length
        · simp [hid, hwd]
          exact hfin (by
            have : headsF t.count 0 t.nodes = false := by
              rw [hheads]
              have : ¬ x.es.length ≤ 4 := by omega
              simp [this]
            unfold plantF; simp [this])
        · by_cases hmk : t.count < x.mark
          · simp [hid, hwd, hmk]
            exact hfin (by
              have : headsF t.count 0 t.nodes = false := by
                rw [hheads]
                have : ¬ x.mark ≤ t.count := by omega
                simp [this]
              unfold plantF; simp [this])
          · simp [hid, hwd, hmk]
            refine inv_p (Clone_L h x.es hxw) rfl (by simp [pureL, V.pure]) ?_
            rintro _ rfl
            have hfn : findN (t.nodes.take i) x.id = none := by
              unfold findN
              rw [List.find?_eq_none]
              intro y hy
              have := hmost y hy
              simp only [decide_eq_true_eq]; omega
            have hmf := eM_none (i := 0) (nodeE_none (b := 4) (vs := vs) hfn)
            simp [hmf]
            have htl : (t.nodes.take i).length = i := by rw [List.length_take]; omega
            have e1 : eM (nodeE 4 (t.nodes.take i) vs) ++ [(.int .u32 x.id, .ptr ((nodeO (t.nodes.take i) vs).length + 1 + 1 + 1 + 1) nv 0 0)] = eM (nodeE 4 (t.nodes.take (i + 1)) (vs ++ [nv])) := by
              rw [take_snoc hlt, ← hx, nodeE_snoc (by rw [htl, hvl]), hnl, htl]
              have e2 : i + 1 + 1 + 1 + 1 = 4 + i := by omega
              rw [e2]
              simp [eM]
            have e3 : nodeO (t.nodes.take i) vs ++ [some (nv, .mem 5 [[.int .u32 x.id, .bool x.leaf, .sl .unk 5 (List.map cLink x.es) [], .int .u64 x.mark, .int .u32 x.right]])] = nodeO (t.nodes.take (i + 1)) (vs ++ [nv]) := by
              rw [take_snoc hlt, ← hx, nodeO_snoc (by rw [htl, hvl])]; rfl
            rw [e1, e3, wadd1 (by omega)]
            refine ⟨t.nodes.length - (i + 1), by omega, GhostV.refl ⟨i + 1, nv + 2, nv + 1, x.id, vs ++ [nv], rfl, by omega, rfl, by simp [hvl], fun y hy => ?_, ?_, rfl⟩⟩
            · rw [take_snoc hlt, ← hx, List.mem_append] at hy
              rcases hy with hy | hy
              · have := hmost y hy; omega
              · rw [List.mem_singleton.1 hy]; exact Int.le_refl _
            · rw [hheads]
              have h1 : most < x.id := by omega
              have h2 : x.es.length ≤ 4 := by omega
              have h3 : x.mark ≤ t.count := by omega
              simp [h1, h2, h3]
    · have hin : i = t.nodes.length := by omega
      have ht : t.nodes.take i = t.nodes := List.take_of_length_le (by omega)
      have hdr : t.nodes.drop i = [] := List.drop_eq_nil_of_le (by omega)
      rw [hdr, headsF] at hheads
      rw [ht] at hnl hmost
      rw [ht]
      have hvl' : vs.length = t.nodes.length := by omega
      have hnl' : (nodeO t.nodes vs).length = t.nodes.length := nodeO_len hvl'
      simp [hlt]
      have e4 : (nodeO t.nodes vs).length + 1 + 1 + 1 + 1 = 4 + t.nodes.length := by omega
      have e5 : 4 + t.nodes.length + 1 = 5 + t.nodes.length := by omega
      rw [e4, e5]
      obtain ⟨A, hA⟩ : ∃ A, A = some (0, Obj.mem 3 [[vNs t.nodes, V.int IntKind.u32 t.root, V.int IntKind.u64 t.count]]) :: some (1, Obj.map ep (eM (nodeE 4 t.nodes vs))) :: some (3, Obj.map 4 []) :: some (5, Obj.mem 5 [[V.map 1 1, V.map 2 3, V.int IntKind.u32 t.root, V.int IntKind.u64 t.count, V.int IntKind.u32 most]]) :: (nodeO t.nodes vs ++ [some (nv, Obj.map (nv + 1) []), some (nv + 2, Obj.mem 1 [[V.int IntKind.i64 0]])]) := ⟨_, rfl⟩
      rw [← hA]
      have hG : GvSt t 1 3 5 nv (nv + 2) most vs A ⟨[], 0, []⟩ := by
        have a4 : ∀ k, A[4 + k]? = (nodeO t.nodes vs ++ [some (nv, Obj.map (nv + 1) []), some (nv + 2, Obj.mem 1 [[V.int IntKind.i64 0]])])[k]? := fun k => by
          have : 4 + k = k + 1 + 1 + 1 + 1 := by omega
          rw [hA, this]; simp
        refine ⟨hvl', ⟨ep, by rw [hA]; rfl⟩, ⟨4, by rw [hA]; rfl⟩, by rw [hA]; rfl, fun j hj v hv => ?_, ⟨nv + 1, ?_⟩, ?_, by simp⟩
        · rw [a4, List.getElem?_append_left (by rw [hnl']; exact hj)]
          exact nodeO_get j hj hv
        · rw [a4, List.getElem?_append_right (by omega), hnl']; simp [roE, eM]
        · have : 5 + t.nodes.length = 4 + (t.nodes.length + 1) := by omega
          rw [this, a4, List.getElem?_append_right (by omega), hnl']; simp
      refine inv_f0 (Walk_N h t hs 12 t.root 1 ⟨[], 0, []⟩ A (nv + 2 + 1) _ (by omega) (by omega) hG ?_)
      cases hwk : walkF t.nodes t.root 12 t.root 1 ⟨[], 0, []⟩ with
      | none =>
        intro st
        simp
        exact hfin (by unfold plantF; rw [hwk]; simp)
      | some s7 =>
        intro A7 nv7 hG7 hK7
        obtain ⟨ep1, hnm⟩ := hG7.nm
        obtain ⟨ep2, hlm⟩ := hG7.lm
        have hel : (eM (nodeE 4 t.nodes vs)).length = t.nodes.length := by unfold eM; rw [List.length_map, nodeE_len hvl']
        have hll : (eM (lvE s7.lv)).length = s7.lv.length := by simp [eM, lvE]
        simp [hG7.gv, hnm, hlm, hel, hll]
        by_cases hle : s7.lv.length = t.nodes.length
        · simp [hG7.gv, hnm, hlm, hel, hll, hle]
          refine ⟨PlI2 t.nodes s7.lv A7 nv7 ep1, ⟨t.nodes.length, GhostV.refl ⟨[], _, by simp, List.nodup_nil, by simp, by simp, rfl⟩⟩, ?_⟩
          rintro k2 st ⟨seen, nv8, rfl, hsn, hsl, hsok, rfl⟩
          have hM7 : ∀ {id : Nat} {x : Option (Nat × Obj)} (M), A7[id]? = some x → (A7 ++ M)[id]? = some x := fun {id x} M e => by rw [List.getElem?_append_left (List.getElem?_eq_some_iff.1 e).1]; exact e
          have hgM := fun M => hM7 M hG7.gv
          have hnM := fun M => hM7 M hnm
          have hlM := fun M => hM7 M hlm
          refine op_next (id := A7.length) (ver := nv7) (mid := 1) (mver := 1) (ep := ep1) (seen := seen) (es := eM (nodeE 4 t.nodes vs)) (by simp [St.get]) (by simp [St.get, hnM]) ?_ ?_
          · intro hall
            have hrall : rightsF t.nodes s7.lv = true := rights_ok (fun x hx => by
              obtain ⟨j, hj, e⟩ := List.getElem_of_mem hx
              exact hsok j (hall j (by rw [hel]; exact hj)) x (by rw [List.getElem?_eq_getElem hj, e]))
            have hR : ∀ x ∈ t.nodes, x.right = 0 ∨ x.right ∈ idsN t.nodes := fun x hx => by
              obtain ⟨j, hj, e⟩ := List.getElem_of_mem hx
              rcases hsok j (hall j (by rw [hel]; exact hj)) x (by rw [List.getElem?_eq_getElem hj, e]) with h1 | ⟨y, h1, _⟩
              · exact .inl h1
              · obtain ⟨h2, h3⟩ := findN_some h1
                exact .inr (by rw [← h3]; exact List.mem_map.2 ⟨y, h2, rfl⟩)
            simp [hgM, hnM]
            clear hsn hsl hsok
            obtain ⟨B, hB⟩ : ∃ B, B = A7 ++ [some (nv7, .iter 1 1 ep1 seen)] := ⟨_, rfl⟩
            have hMB : ∀ {id : Nat} {x : Option (Nat × Obj)} (M), A7[id]? = some x → (B ++ M)[id]? = some x := fun {id x} M e => by
              rw [hB, List.append_assoc]; exact hM7 _ e
            have hgB := fun M => hMB M hG7.gv
            have hnB := fun M => hMB M hnm
            have hBl : B.length = A7.length + 1 := by rw [hB]; simp
            rw [← hBl]
            refine ⟨PlI3 t.nodes B nv8 ep1, ⟨t.nodes.length, GhostV.refl ⟨[], nv8 + 1, by simp, List.nodup_nil, by simp, by simp, by rw [hB]; simp⟩⟩, ?_⟩
            rintro k3 st ⟨seen3, nv9, rfl, hsn, hsl, hsok, rfl⟩
            refine op_next (id := B.length) (ver := nv8) (mid := 1) (mver := 1) (ep := ep1) (seen := seen3) (es := eM (nodeE 4 t.nodes vs)) (by simp [St.get]) (by simp [St.get, hnB]) ?_ ?_
            · intro hall3
              have hch : chainsF t.nodes = true := chains_ok (fun x hx => by
                obtain ⟨j, hj, e⟩ := List.getElem_of_mem hx
                exact hsok j (hall3 j (by rw [hel]; exact hj)) x (by rw [List.getElem?_eq_getElem hj, e]))
              simp
              exact hfin (by
                unfold plantF
                rw [hwk]
                have : t.nodes.length ≤ 512 := by omega
                simp [this, hheads, hle, hrall, hch])
            · intro j hj hns
              rw [hel] at hj
              obtain ⟨v, hv⟩ : ∃ v, vs[j]? = some v := ⟨vs[j], List.getElem?_eq_getElem (by omega)⟩
              obtain ⟨x, hx⟩ : ∃ x, x = t.nodes[j] := ⟨_, rfl⟩
              have hxm : x ∈ t.nodes := by rw [hx]; exact List.getElem_mem hj
              have hge : (eM (nodeE 4 t.nodes vs)).getD j (.junk, .junk) = (.int .u32 x.id, .ptr (4 + j) v 0 0) := by
                unfold eM
                rw [List.getD, List.getElem?_map, nodeE_get j hj hv, ← hx]; rfl
              have hge' : (eM (nodeE 4 t.nodes vs))[j]? = some (.int .u32 x.id, .ptr (4 + j) v 0 0) := by
                unfold eM
                rw [List.getElem?_map, nodeE_get j hj hv, ← hx]; rfl
              have hle2 : (j :: seen3).length ≤ t.nodes.length := nd_le (List.nodup_cons.2 ⟨hns, hsn⟩) (fun q hq => by
                rcases List.mem_cons.1 hq with rfl | hq
                · exact hj
                · exact hsl q hq)
              rw [hge]
              simp [hgB, hnB, hge']
              have hids : (idsN t.nodes).Nodup := by
                rw [List.nodup_iff_pairwise_ne]
                exact (heads_srt hheads).1.imp (fun h => by omega)
              have hfx := findN_mem hids hxm
              obtain ⟨jx, vx, hjx, hxx, hvx, hfdx⟩ := nodeE_some (b := 4) hG7.vl hfx
              obtain ⟨jx', hmx⟩ := eM_some (i := 0) hfdx
              have hndx := fun M => hMB M (hG7.nd jx hjx vx hvx)
              rw [hxx] at hndx
              rw [hmx]
              simp [hndx, hgB, hnB]
              obtain ⟨C, hC⟩ : ∃ C, C = B ++ [some (nv8, .iter 1 1 ep1 (j :: seen3))] := ⟨_, rfl⟩
              have hMC : ∀ {id : Nat} {x : Option (Nat × Obj)} (M), A7[id]? = some x → (C ++ M)[id]? = some x := fun {id x} M e => by
                rw [hC, List.append_assoc]; exact hMB _ e
              have hgC := fun M => hMC M hG7.gv
              have hnC := fun M => hMC M hnm
              have hCl : C.length = B.length + 1 := by rw [hC]; simp
              rw [← hCl]
              have hnext : stepsF t.nodes t.nodes.length x.right = 0 → ∀ (M : List (Option (Nat × Obj))) (nvx : Nat), ∃ k', k' < t.nodes.length - seen3.length ∧ GhostV [] ⟨C ++ M, nvx⟩ (@app 0 (PlI3 t.nodes B nv8 ep1 k')) := fun hok M nvx => by
                rw [List.length_cons] at hle2
                refine ⟨t.nodes.length - (j :: seen3).length, by rw [List.length_cons]; omega, GhostV.keep ⟨j :: seen3, nvx, rfl, List.nodup_cons.2 ⟨hns, hsn⟩, fun q hq => ?_, fun q hq z hz => ?_, by rw [hC]⟩⟩
                · rcases List.mem_cons.1 hq with rfl | hq
                  · exact hj
                  · exact hsl q hq
                · rcases List.mem_cons.1 hq with rfl | hq
                  · rw [List.getElem?_eq_getElem hj, ← hx] at hz
                    rw [← Option.some.inj hz]; exact hok
                  · exact hsok q hq z hz
              have hbad : stepsF t.nodes t.nodes.length x.right ≠ 0 → plantF t = false := fun hno => by unfold plantF; rw [hwk]; simp [chains_no hxm hno]
              refine ⟨PlI4 t.nodes C nv9 ep1 x.right, ⟨t.nodes.length, GhostV.refl ⟨[], nv9 + 1, x.right, by simp, List.nodup_nil, by simp, rfl, hR x hxm, by simp, by rw [hC]; simp⟩⟩, ?_⟩
              rintro k4 v12 st ⟨seen4, nv10, at', rfl, hsn4, hsl4, rfl, hat, hst, rfl⟩
              refine op_next (id := C.length) (ver := nv9) (mid := 1) (mver := 1) (ep := ep1) (seen := seen4) (es := eM (nodeE 4 t.nodes vs)) (by simp [St.get]) (by simp [St.get, hnC]) ?_ ?_
              · intro hall4
                have hge4 := nd_ge (n := t.nodes.length) (seen := seen4) (fun i hi => hall4 i (by rw [hel]; exact hi))
                have h0 : t.nodes.length - seen4.length = 0 := by omega
                rw [h0, stepsF] at hst
                by_cases hz : at' = 0
                · simp [hz]
                  exact hnext (by rw [hst, hz]) _ _
                · simp [hz]
                  exact hfin (hbad (by rw [hst]; exact hz))
              · intro j4 hj4 hns4
                rw [hel] at hj4
                have hle4 : (j4 :: seen4).length ≤ t.nodes.length := nd_le (List.nodup_cons.2 ⟨hns4, hsn4⟩) (fun q hq => by
                  rcases List.mem_cons.1 hq with rfl | hq
                  · exact hj4
                  · exact hsl4 q hq)
                rw [List.length_cons] at hle4
                simp
                by_cases hz : at' = 0
                · simp [hz]
                  exact hnext (by rw [hst, hz, steps_zero]) _ _
                · simp [hz, hgC, hnC]
                  have hat' : at' ∈ idsN t.nodes := by
                    rcases hat with h1 | h1
                    · exact absurd h1 hz
                    · exact h1
                  obtain ⟨y, hfy⟩ := findN_ids hat'
                  obtain ⟨jy, vy, hjy, hxy, hvy, hfdy⟩ := nodeE_some (b := 4) hG7.vl hfy
                  obtain ⟨jy', hmy⟩ := eM_some (i := 0) hfdy
                  have hndy := fun M => hMC M (hG7.nd jy hjy vy hvy)
                  rw [hxy] at hndy
                  rw [hmy]
                  simp [hndy]
                  obtain ⟨m, hm⟩ : ∃ m, t.nodes.length - seen4.length = m + 1 := ⟨t.nodes.length - seen4.length - 1, by omega⟩
                  have hm' : m = t.nodes.length - (j4 :: seen4).length := by rw [List.length_cons]; omega
                  rw [hm, stepsF, if_neg hz] at hst
                  have hry : rightN t.nodes at' = y.right := by unfold rightN; rw [hfy]
                  rw [hry, hm'] at hst
                  refine ⟨t.nodes.length - (j4 :: seen4).length, by rw [List.length_cons]; omega, GhostV.refl ⟨j4 :: seen4, nv10, y.right, rfl, List.nodup_cons.2 ⟨hns4, hsn4⟩, fun q hq => ?_, rfl, hR y (findN_some hfy).1, hst, rfl⟩⟩
                  rcases List.mem_cons.1 hq with rfl | hq
                  · exact hj4
                  · exact hsl4 q hq
          · intro j hj hns
            rw [hel] at hj
            obtain ⟨v, hv⟩ : ∃ v, vs[j]? = some v := ⟨vs[j], List.getElem?_eq_getElem (by omega)⟩
            have hge : (eM (nodeE 4 t.nodes vs)).getD j (.junk, .junk) = (.int .u32 t.nodes[j].id, .ptr (4 + j) v 0 0) := by
              unfold eM
              rw [List.getD, List.getElem?_map, nodeE_get j hj hv]; rfl
            have hge' : (eM (nodeE 4 t.nodes vs))[j]? = some (.int .u32 t.nodes[j].id, .ptr (4 + j) v 0 0) := by
              unfold eM
              rw [List.getElem?_map, nodeE_get j hj hv]; rfl
            have hnd := fun M => hM7 M (hG7.nd j hj v hv)
            rw [hge]
            obtain ⟨x, hx⟩ : ∃ x, x = t.nodes[j] := ⟨_, rfl⟩
            have hxm : x ∈ t.nodes := by rw [hx]; exact List.getElem_mem hj
            rw [← hx] at hge' hnd
            rw [← hx]
            have hle2 : (j :: seen).length ≤ t.nodes.length := nd_le (List.nodup_cons.2 ⟨hns, hsn⟩) (fun q hq => by
              rcases List.mem_cons.1 hq with rfl | hq
              · exact hj
              · exact hsl q hq)
            have hnext : rOk t.nodes s7.lv x → ∃ k', k' < t.nodes.length - seen.length ∧ GhostV [] ⟨A7 ++ [some (nv7, .iter 1 1 ep1 (j :: seen))], nv8⟩ (@app 0 (PlI2 t.nodes s7.lv A7 nv7 ep1 k')) := fun hok => by
              rw [List.length_cons] at hle2
              refine ⟨t.nodes.length - (j :: seen).length, by rw [List.length_cons]; omega, GhostV.refl ⟨j :: seen, nv8, rfl, List.nodup_cons.2 ⟨hns, hsn⟩, fun q hq => ?_, fun q hq z hz => ?_, rfl⟩⟩
              · rcases List.mem_cons.1 hq with rfl | hq
                · exact hj
                · exact hsl q hq
              · rcases List.mem_cons.1 hq with rfl | hq
                · rw [List.getElem?_eq_getElem hj, ← hx] at hz
                  rw [← Option.some.inj hz]; exact hok
                · exact hsok q hq z hz
            have hbad : ¬ rOk t.nodes s7.lv x → plantF t = false := fun hno => by unfold plantF; rw [hwk]; simp [rights_no hxm hno]
            simp [hgM, hnM, hge', hnd]
            by_cases hr0 : x.right = 0
            · simp [hr0]
              exact hnext (.inl hr0)
            · simp [hr0, hgM, hnM, hnd]
              cases hfy : findN t.nodes x.right with
              | none =>
                rw [eM_none (nodeE_none hfy)]
                simp [eqsV, hr0]
                exact hfin (hbad (fun hok => by
                  rcases hok with h1 | ⟨y, h1, _⟩
                  · exact hr0 h1
                  · rw [hfy] at h1; cases h1))
              | some y =>
                obtain ⟨jy, vy, hjy, hxy, hvy, hfdy⟩ := nodeE_some (b := 4) hG7.vl hfy
                obtain ⟨jy', hmy⟩ := eM_some (i := 0) hfdy
                rw [hmy]
                simp [eqsV, hr0, hgM, hlM, hnd]
                have hokq : rOk t.nodes s7.lv x ↔ lvOf s7.lv x.right = lvOf s7.lv x.id := by
                  constructor
                  · rintro (h1 | ⟨z, _, h2⟩)
                    · exact absurd h1 hr0
                    · exact h2
                  · exact fun h2 => .inr ⟨y, hfy, h2⟩
                have hend : ∀ (a b : Nat), a = lvOf s7.lv x.right → b = lvOf s7.lv x.id → @cnd (.bool (!decide (a = b))) ⟨GhostV [.nilp, .bool false] ⟨A7 ++ [some (nv7, .iter 1 1 ep1 (j :: seen))], nv8⟩ (fun vs st => (mkres vs).pure = true ∧ mkres vs = .tup [.junk, .bool (plantF t)])⟩ ⟨∃ k', k' < t.nodes.length - seen.length ∧ GhostV [] ⟨A7 ++ [some (nv7, .iter 1 1 ep1 (j :: seen))], nv8⟩ (@app 0 (PlI2 t.nodes s7.lv A7 nv7 ep1 k'))⟩ := fun a b ha hb => by
                  by_cases hq : a = b
                  · simp [hq]
                    exact hnext (hokq.2 (by rw [← ha, ← hb, hq]))
                  · simp [hq]
                    exact hfin (hbad (fun h1 => hq (by rw [ha, hb]; exact hokq.1 h1)))
                rcases lv_look x.right s7.lv hG7.lp with ⟨ha, hma⟩ | ⟨ha, j1, hma⟩
                · rcases lv_look x.id s7.lv hG7.lp with ⟨hb, hmb⟩ | ⟨hb, j2, hmb⟩
                  · rw [hma]
                    simp [eqsV, hr0, hgM, hlM, hnd, hmb]
                    have := hend 0 0 ha.symm hb.symm
                    simpa using this
                  · rw [hma]
                    simp [eqsV, hr0, hgM, hlM, hnd, hmb]
                    have hz : ¬ ((0 : Int) = ((lvOf s7.lv x.id : Nat) : Int)) := by omega
                    simp [hz]
                    exact hfin (hbad (fun h1 => hb (by rw [← hokq.1 h1, ha])))
                · rcases lv_look x.id s7.lv hG7.lp with ⟨hb, hmb⟩ | ⟨hb, j2, hmb⟩
                  · rw [hma]
                    simp [eqsV, hr0, hgM, hlM, hnd, hmb]
                    have := hend (lvOf s7.lv x.right) 0 rfl hb.symm
                    simpa using this
                  · rw [hma]
                    simp [eqsV, hr0, hgM, hlM, hnd, hmb]
                    have := hend (lvOf s7.lv x.right) (lvOf s7.lv x.id) rfl rfl
                    simpa using this
        · simp [hle]
          exact hfin (by unfold plantF; rw [hwk]; simp [hle])
theorem tCheck (h : PlR P) (t : TreeT) (hs : smallT t) : PCalls P n_tree_Check [.agg (cTree t)] (fun r => r = .int .i64 (if plantF t then 0 else 210)) := by
 refine A_tree_Check h.check ?_
 unfold F_tree_Check
 simp [st0]
 refine inv_p (Plant_P h t hs) rfl (by simp [pureL, V.pure, pureLL]) ?_
 rintro _ rfl
 cases hp : plantF t <;> simp
 ·exact GhostV.refl ⟨rfl, by simp⟩
 ·exact GhostV.refl ⟨rfl, by simp⟩
end Go.Proofs.Ytmjnpfackanhlaa.AM

namespace Go.Proofs.Ytmjnpfackanhlaa.AM
open Go
set_option linter.unusedVariables false
set_option linter.unusedSimpArgs false
variable {P : Program}

structure SeenT where
 id : Int
 count : Int
 deriving DecidableEq
structure CurT where
 win : KeyT
 opn : List SeenT
 rows : List Int
 deriving DecidableEq
@[simp] def cSeen (s : SeenT) : List V := [.int .u32 s.id, .int .u64 s.count]
abbrev vSs (l : List SeenT) : V := .sl .unk 2 (l.map cSeen) []
@[simp] def cCur (c : CurT) : List V := [.int .i64 c.win.x0, .int .i64 c.win.x1, .int .i64 c.win.y0, .int .i64 c.win.y1, vSs c.opn, vIs c.rows]
@[simp] theorem p_seen (l : List SeenT) : pureLL (l.map cSeen) = true := pureLL_map (fun _ => rfl) l
theorem p_cur (c : CurT) : pureL (cCur c) = true := by simp [pureL, V.pure, pureLL]
structure CuR (P : Program) : Prop extends PlR P where
 idxS : R_slices_IndexFunc_Seen_Seen P
 conS : R_slices_ContainsFunc_Seen_Seen P
 chk1 : R_cursor_Check_1 P
 cchk : R_cursor_Check P
 over : R_cursor_Over P

def isNone (s : SeenT) : Bool := decide (s.id = 0)
theorem cChk1 (h : CuR P) (s : SeenT) : PCalls P n_cursor_Check_1 [.agg (cSeen s)] (fun r => r = .bool (isNone s)) := by
 refine A_cursor_Check_1 h.chk1 ?_
 unfold F_cursor_Check_1
 simp [st0]
 exact GhostV.refl ⟨rfl, by simp [isNone]⟩
def IdI {α : Type} (p : α → Bool) (l : List α) (k : Nat) (v : V) (st : St) : Prop := ScI p l k v st []
theorem idxSeen (h : CuR P) (l : List SeenT) (hb : l.length < 2 ^ 40) : PCalls P n_slices_IndexFunc_Seen_Seen [vSs l, .fn (.func n_cursor_Check_1) [] []] (fun r => r = .int .i64 (idxI (l.findIdx? isNone))) := by
 refine A_slices_IndexFunc_Seen_Seen h.idxS ?_
 unfold F_slices_IndexFunc_Seen_Seen
 simp [st0]
 refine ⟨IdI isNone l, ⟨l.length, GhostV.refl ⟨0, 0, by simp, by simp, by simp, by simp, by simp⟩⟩, ?_⟩
 rintro k1 v8 st ⟨i, nv, rfl, hi, rfl, rfl, hn⟩
 by_cases hlt : i < l.length
 ·simp [hlt]
  refine inv_p (cChk1 h l[i]) rfl rfl ?_
  rintro _ rfl
  cases hp : isNone l[i]
  ·simp
   exact ⟨l.length - (i + 1), by omega, GhostV.refl ⟨i + 1, nv, rfl, by omega, by rw [wadd1 (by omega)], rfl, sc_next hlt hn hp⟩⟩
  ·simp
   exact GhostV.refl ⟨rfl, by rw [sc_found hlt hn hp]; rfl⟩
 ·simp [hlt]
  exact GhostV.refl ⟨rfl, by rw [sc_none hlt hn]; rfl⟩
theorem conSeen (h : CuR P) (l : List SeenT) (hb : l.length < 2 ^ 40) : PCalls P n_slices_ContainsFunc_Seen_Seen [vSs l, .fn (.func n_cursor_Check_1) [] []] (fun r => r = .bool (l.any isNone)) := by
 refine A_slices_ContainsFunc_Seen_Seen h.conS ?_
 unfold F_slices_ContainsFunc_Seen_Seen
 simp [st0]
 refine inv_p (idxSeen h l hb) rfl (by simp [pureL, V.pure, pureLL]) ?_
 rintro _ rfl
 simp
 refine GhostV.refl ⟨rfl, ?_⟩
 cases hf : l.findIdx? isNone with
 | none =>
  rw [List.findIdx?_eq_none_iff] at hf
  have : l.any isNone = false := by rw [List.any_eq_false]; intro x hx; simp [hf x hx]
  simp [this, idxI]
 | some i =>
  obtain ⟨h1, h2, _⟩ := List.findIdx?_eq_some_iff_getElem.1 hf
  have : l.any isNone = true := List.any_eq_true.2 ⟨l[i], List.getElem_mem h1, h2⟩
  simp [this, idxI]
def upR : Int → List Int → Bool
 | _, [] => true
 | m, r :: l => decide (m < r) && upR r l
def curOk (c : CurT) : Bool := boxK c.win && decide (c.opn.length ≤ 128) && !c.opn.any isNone && upR 0 c.rows
def lastR0 (m : Int) (l : List Int) : Int := l.getLast?.getD m
theorem upR_snoc : ∀ (l : List Int) (m r : Int), upR m (l ++ [r]) = (upR m l && decide (lastR0 m l < r))
 | [], m, r => by simp [upR, lastR0]; rfl
 | x :: l, m, r => by
  rw [List.cons_append, upR, upR, upR_snoc l x r]
  have : lastR0 m (x :: l) = lastR0 x l := by
   unfold lastR0
   cases l with
   | nil => rfl
   | cons y l => simp [List.getLast?_cons]
  rw [this, Bool.and_assoc]
theorem upR_last : ∀ (l : List Int) (m : Int), upR m l = true → m ≤ lastR0 m l
 | [], m, _ => by simp [lastR0]
 | x :: l, m, h => by
  simp only [upR, Bool.and_eq_true, decide_eq_true_eq] at h
  have ih := upR_last l x h.2
  have : lastR0 m (x :: l) = lastR0 x l := by
   unfold lastR0
   cases l with
   | nil => rfl
   | cons y l => simp [List.getLast?_cons]
  rw [this]; omega
def ChI (c : CurT) (L : List (Option (Nat × Obj))) (k : Nat) (v3 v : V) (st : St) : Prop :=
 ∃ i nv, k = c.rows.length - i ∧ i ≤ c.rows.length ∧ v = .int .i64 ((i : Nat) : Int) ∧ v3 = .bool (boxK c.win && decide (c.opn.length ≤ 128) && !c.opn.any isNone && upR 0 (c.rows.take i)) ∧ st = ⟨L, nv⟩
set_option maxHeartbeats 1000000 in
theorem cCheck (h : CuR P) (c : CurT) (hb1 : c.opn.length < 2 ^ 40) (hb2 : c.rows.length < 2 ^ 40) : PCalls P n_cursor_Check [.agg (cCur c)] (fun r => r = .int .i64 (if curOk c then 0 else 230)) := by
  refine A_cursor_Check h.cchk ?_
  unfold F_cursor_Check
  simp [st0]
  refine inv_p (kCheck h.toKyR c.win) rfl rfl ?_
  rintro _ rfl
  have hloop : ∀ (b : Bool) (nv : Nat), b = (boxK c.win && decide (c.opn.length ≤ 128) && !c.opn.any isNone) → ChI c [some (0, .mem 6 [cCur c])] c.rows.length (.bool b) (.int .i64 0) ⟨[some (0, .mem 6 [cCur c])], nv⟩ := fun b nv hb => ⟨0, nv, by simp, by omega, by simp, by rw [hb]; simp [upR], rfl⟩
  rcases hbx : boxK c.win with _ | _
  simp
  refine ⟨ChI c [some (0, .mem 6 [cCur c])], ⟨c.rows.length, GhostV.refl (hloop false 1 (by simp [hbx]))⟩, ?_⟩
  rotate_left
  by_cases ho : (c.opn.length : Int) ≤ 128
  simp [ho]
  refine inv_p (conSeen h c.opn hb1) rfl (by simp [pureL, V.pure, pureLL]) ?_
  rintro _ rfl
  have ho' : c.opn.length ≤ 128 := by omega
  simp
  refine ⟨ChI c [some (0, .mem 6 [cCur c])], ⟨c.rows.length, GhostV.refl (hloop _ 1 (by simp [hbx, ho']))⟩, ?_⟩
  rotate_left
  have ho' : ¬ c.opn.length ≤ 128 := by omega
  simp [ho]
  refine ⟨ChI c [some (0, .mem 6 [cCur c])], ⟨c.rows.length, GhostV.refl (hloop false 1 (by simp [ho']))⟩, ?_⟩
  all_goals
    rintro k1 v3 v26 st ⟨i, nv, rfl, hi, rfl, rfl, rfl⟩
    obtain ⟨base, hbase⟩ : ∃ base, base = (boxK c.win && decide (c.opn.length ≤ 128) && !c.opn.any isNone) := ⟨_, rfl⟩
    rw [← hbase]
    by_cases hlt : i < c.rows.length
    · have hsn := upR_snoc (c.rows.take i) 0 c.rows[i]
      rw [← take_snoc hlt] at hsn
      have hfin : ∀ b, b = (base && upR 0 (c.rows.take (i + 1))) → ∃ j, j < c.rows.length - i ∧ GhostV [.bool b, .int .i64 (IntKind.i64.wrap ((i : Int) + 1))] ⟨[some (0, .mem 6 [cCur c])], nv⟩ (@app 2 (ChI c [some (0, .mem 6 [cCur c])] j)) := fun b hb =>
        ⟨c.rows.length - (i + 1), by omega, GhostV.refl ⟨i + 1, nv, rfl, by omega, by rw [wadd1 (by omega)], by rw [hb, hbase], rfl⟩⟩
      simp [hlt]
      cases hok : (base && upR 0 (c.rows.take i))
      · simp
        refine hfin false ?_
        rw [hsn, ← Bool.and_assoc, hok]; rfl
      · simp only [Bool.and_eq_true] at hok
        obtain ⟨hb1', hup⟩ := hok
        have hl0 := upR_last _ _ hup
        rw [hb1', hsn, hup] at hfin
        simp
        by_cases hr : 0 < c.rows[i]
        · by_cases h0 : i = 0
          · subst h0
            simp [hr]
            exact hfin true (by simp [lastR0, hr])
          · have hlast : lastR0 0 (c.rows.take i) = c.rows[i - 1] := by
              unfold lastR0
              rw [List.getLast?_eq_getElem?, List.length_take, Nat.min_eq_left hi, List.getElem?_take_of_lt (by omega), List.getElem?_eq_getElem (by omega)]
              rfl
            simp [hr, h0]
            rw [wsub1 (by omega) (by omega)]
            have hlt1 : i - 1 < c.rows.length := by omega
            simp [hlt1, hr, h0]
            exact hfin _ (by rw [hlast]; rfl)
        · simp [hr]
          exact hfin false (by
            have : ¬ lastR0 0 (c.rows.take i) < c.rows[i] := by omega
            simp [this])
    · have ht : c.rows.take i = c.rows := List.take_of_length_le (by omega)
      have hco : curOk c = (base && upR 0 c.rows) := by rw [hbase]; rfl
      rw [ht]
      simp [hlt]
      cases hq : (base && upR 0 c.rows)
      · rw [← Bool.not_and, hq]
        simp
        exact GhostV.refl ⟨rfl, by simp [hco, hq]⟩
      · rw [← Bool.not_and, hq]
        simp
        exact GhostV.refl ⟨rfl, by simp [hco, hq]⟩
theorem cOver (h : CuR P) (c : CurT) : PCalls P n_cursor_Over [.agg (cCur c)] (fun r => r = .bool (decide (c.opn = []))) := by
 refine A_cursor_Over h.over ?_
 unfold F_cursor_Over
 simp [st0]
 exact GhostV.refl ⟨rfl, by simp⟩
end Go.Proofs.Ytmjnpfackanhlaa.AM

namespace Go.Proofs.Ytmjnpfackanhlaa.AM
open Go
set_option linter.unusedVariables false
set_option linter.unusedSimpArgs false
variable {P : Program}

structure OpR (P : Program) : Prop extends CuR P where
 idxN : R_slices_IndexFunc_Node_Node P
 fnd1 : R_cursor_find_1 P
 fnd : R_cursor_find P
 opens : R_cursor_opens P
 ready : R_cursor_ready P
 start : R_cursor_Start P
theorem cFind1 (h : OpR P) (x : NodeT) (id : Int) : PCalls P n_cursor_find_1 [.agg (cNode x), .eptr [.int .u32 id] 0] (fun r => r = .bool (isId id x)) := by
 refine A_cursor_find_1 h.fnd1 ?_
 unfold F_cursor_find_1
 simp [st0]
 exact GhostV.refl ⟨rfl, by simp [isId]⟩
theorem idxNode (h : OpR P) (l : List NodeT) (id : Int) (hb : l.length < 2 ^ 40) : PCalls P n_slices_IndexFunc_Node_Node [vNs l, .fn (.func n_cursor_find_1) [] [.eptr [.int .u32 id] 0]] (fun r => r = .int .i64 (idxI (l.findIdx? (isId id)))) := by
 refine A_slices_IndexFunc_Node_Node h.idxN ?_
 unfold F_slices_IndexFunc_Node_Node
 simp [st0]
 refine ⟨IdI (isId id) l, ⟨l.length, GhostV.refl ⟨0, 0, by simp, by simp, by simp, by simp, by simp⟩⟩, ?_⟩
 rintro k1 v8 st ⟨i, nv, rfl, hi, rfl, rfl, hn⟩
 by_cases hlt : i < l.length
 ·simp [hlt]
  refine inv_p (cFind1 h l[i] id) rfl (by simp [pureL, V.pure, pureLL]) ?_
  rintro _ rfl
  cases hp : isId id l[i]
  ·simp
   exact ⟨l.length - (i + 1), by omega, GhostV.refl ⟨i + 1, nv, rfl, by omega, by rw [wadd1 (by omega)], rfl, sc_next hlt hn hp⟩⟩
  ·simp
   exact GhostV.refl ⟨rfl, by rw [sc_found hlt hn hp]; rfl⟩
 ·simp [hlt]
  exact GhostV.refl ⟨rfl, by rw [sc_none hlt hn]; rfl⟩
def zNode : NodeT := ⟨0, false, [], 0, 0⟩
def nodeOr (t : TreeT) (id : Int) : NodeT := (findN t.nodes id).getD zNode
theorem cFind (h : OpR P) (t : TreeT) (id : Int) (hb : t.nodes.length < 2 ^ 40) : PCalls P n_cursor_find [.agg (cTree t), .int .u32 id] (fun r => r = .agg (cNode (nodeOr t id))) := by
  refine A_cursor_find h.fnd ?_
  unfold F_cursor_find
  simp [st0]
  refine inv_look (idxNode h t.nodes id hb) (Bors.cons (.refl _) (Bors.cons (.fn _ [] [] _ _ rfl rfl (fun i hi => by simp at hi) (fun i hi => ?_)) Bors.nil)) (by simp [pureL, V.pure, pureLL]) ?_
  · obtain rfl : i = 0 := by simpa using hi
    exact Bor.box1 (by simp [St.get])
  rintro _ rfl
  refine ⟨rfl, ?_⟩
  cases hf : findN t.nodes id with
  | none =>
    have hi : t.nodes.findIdx? (isId id) = none := by
      rw [List.findIdx?_eq_none_iff]
      intro x hx
      have := List.find?_eq_none.1 hf x hx
      simpa [isId] using this
    rw [hi, show idxI none = (-1 : Int) from rfl]
    simp
    refine GhostV.le (LeVs.cons (LeV.aggs (bs := cNode zNode) (LeVs.cons (.refl _) (LeVs.cons (.refl _) (LeVs.cons (.nil 0 5) (LeVs.refl _))))) LeVs.nil) ⟨by simp [mkres, V.pure, pureL, pureLL], ?_⟩
    simp [nodeOr, hf]
  | some x =>
    obtain ⟨i, hi, hfi, hxi⟩ := findN_idx hf
    have h0 : ¬ ((i : Nat) : Int) < 0 := by omega
    rw [hfi, show idxI (some i) = ((i : Nat) : Int) from rfl]
    simp [h0, hi, hxi]
    exact GhostV.refl ⟨by simp [mkres, V.pure, pureL, pureLL], by simp [nodeOr, hf]⟩
def opensF (t : TreeT) (s : SeenT) (win : KeyT) (all : Bool) : List SeenT :=
 (if s.count < (nodeOr t s.id).mark ∧ (nodeOr t s.id).right ≠ 0 then [⟨(nodeOr t s.id).right, s.count⟩] else []) ++
  (if (nodeOr t s.id).leaf then [] else ((nodeOr t s.id).es.reverse.filter (fun e => all || meetsK e.key win)).map (fun e => ⟨e.child, t.count⟩))
abbrev OpO (t : TreeT) (s : SeenT) (win : KeyT) (x : NodeT) : List (Option (Nat × Obj)) := [some (0, .mem 3 [cTree t]), some (1, .mem 2 [cSeen s]), some (2, .mem 4 [cKey win]), some (3, .mem 5 [cNode x])]
def rightO (s : SeenT) (x : NodeT) : List SeenT := if s.count < x.mark ∧ x.right ≠ 0 then [⟨x.right, s.count⟩] else []
def kidO (t : TreeT) (win : KeyT) (all : Bool) (l : List LinkT) : List SeenT := (l.reverse.filter (fun e => all || meetsK e.key win)).map (fun e => ⟨e.child, t.count⟩)
theorem kidO_snoc (t : TreeT) (win : KeyT) (all : Bool) (l : List LinkT) (e : LinkT) : kidO t win all (l ++ [e]) = (if (all || meetsK e.key win) = true then [⟨e.child, t.count⟩] else []) ++ kidO t win all l := by
 unfold kidO
 rw [List.reverse_append, List.reverse_singleton, List.singleton_append, List.filter_cons]
 by_cases h : (all || meetsK e.key win) = true
 ·rw [if_pos h, if_pos h]; rfl
 ·rw [if_neg h, if_neg h]; rfl
def OpJ (t : TreeT) (s : SeenT) (win : KeyT) (x : NodeT) (v : V) (st : St) : Prop :=
 ∃ (m ver nv : Nat) (M : List (Option (Nat × Obj))) (out : List SeenT), v = .msl (m + 4) ver 0 out.length ∧ M[m]? = some (some (ver, .mem 2 (out.map cSeen))) ∧ out.length ≤ 1 ∧ out = rightO s x ∧ st = ⟨OpO t s win x ++ M, nv⟩
def OpI (t : TreeT) (s : SeenT) (win : KeyT) (x : NodeT) (all : Bool) (F : List SeenT) (k : Nat) (v10 v11 : V) (st : St) : Prop :=
 ∃ (n m ver nv : Nat) (M : List (Option (Nat × Obj))) (out : List SeenT), k = n ∧ n ≤ x.es.length ∧ v11 = .int .i64 ((n : Int) - 1) ∧ v10 = .msl (m + 4) ver 0 out.length ∧ M[m]? = some (some (ver, .mem 2 (out.map cSeen))) ∧ out.length ≤ 1 + (x.es.length - n) ∧
  out ++ (if x.leaf then [] else kidO t win all (x.es.take n)) = F ∧ st = ⟨OpO t s win x ++ M, nv⟩
set_option maxHeartbeats 1000000 in
theorem cOpens (h : OpR P) (t : TreeT) (hs : smallT t) (s : SeenT) (win : KeyT) (all : Bool) : PCalls P n_cursor_opens [.agg (cTree t), .agg (cSeen s), .agg (cKey win), .bool all] (fun r => r = vSs (opensF t s win all)) := by
 refine A_cursor_opens h.opens ?_
 unfold F_cursor_opens
 simp [st0]
 refine inv_p (cFind h t s.id (by have := hs.1; omega)) rfl (by simp [pureL, V.pure, pureLL]) ?_
 rintro _ rfl
 have hF : opensF t s win all = rightO s (nodeOr t s.id) ++ (if (nodeOr t s.id).leaf then [] else kidO t win all (nodeOr t s.id).es) := rfl
 obtain ⟨F, hFe⟩ : ∃ F, F = opensF t s win all := ⟨_, rfl⟩
 rw [← hFe] at hF ⊢
 have hxw : (nodeOr t s.id).es.length < 2 ^ 30 := by
  unfold nodeOr
  cases hf : findN t.nodes s.id with
  | none => decide
  | some y => exact hs.2 y (findN_some hf).1
 obtain ⟨x, hx⟩ : ∃ x, x = nodeOr t s.id := ⟨_, rfl⟩
 rw [← hx] at hF hxw
 rw [← hx]
 simp
 refine ⟨OpJ t s win x, ?_, ?_⟩
 ·simp
  have hnil : rightO s x = [] → GhostV [V.sl .nil 0 [] []] ⟨OpO t s win x, 4⟩ (@app 1 (OpJ t s win x)) := fun e => GhostV.nilr 2 (by decide) ⟨0, 4, 5, [some (4, .mem 2 [])], [], by simp [OpO], rfl, by simp, e.symm, by simp [OpO]⟩
  by_cases hm : s.count < x.mark
  ·simp [hm]
   by_cases hr : x.right = 0
   ·simp [hm, hr]
    simpa [OpO, hr] using hnil (by simp [rightO, hr])
   ·simp [hm, hr]
    exact GhostV.refl ⟨1, 5, 6, [_, _], [⟨x.right, s.count⟩], rfl, rfl, by simp, by simp [rightO, hm, hr], rfl⟩
  ·simp [hm]
   exact hnil (by simp [rightO, hm])
 rintro v10 st ⟨m, ver, nv, M, out, rfl, hM, hol, hout, rfl⟩
 simp
 have hw1 : IntKind.i64.wrap ((x.es.length : Int) - 1) = (x.es.length : Int) - 1 := wrap_i64 (by omega)
 refine ⟨OpI t s win x all F, ⟨x.es.length, GhostV.refl ⟨x.es.length, m, ver, nv, M, out, rfl, by omega, by rw [hw1], rfl, hM, by omega, by rw [hF, hout, List.take_length], rfl⟩⟩, ?_⟩
 clear hM hol hout M out ver nv m
 rintro n v10 v11 st ⟨_, m, ver, nv, M, out, rfl, hn, rfl, rfl, hM, hol, hout, rfl⟩
 have hml := (List.getElem?_eq_some_iff.1 hM).1
 have hfin : out = F → GhostV [V.msl (m + 4) ver 0 out.length] ⟨OpO t s win x ++ M, nv⟩ fun vs st => (mkres vs).pure = true ∧ mkres vs = vSs F := fun e =>
  GhostV.rowx (sz := 2) (es := out.map cSeen) (by simp [OpO, hM]) (by simp) (by rw [e]; exact ⟨by simp [mkres, V.pure, pureL, pureLL], by simp [mkres]⟩)
 have hMa : ∀ N, (M ++ N)[m]? = some (some (ver, .mem 2 (out.map cSeen))) := fun N => by rw [List.getElem?_append_left hml]; exact hM
 have hMs : ∀ N (z : Option (Nat × Obj)), (M ++ N).set m z = M.set m z ++ N := fun N z => List.set_append_left _ _ hml
 have hadd : ∀ (o : SeenT) (N : List (Option (Nat × Obj))), x.leaf = false → ∀ i, i + 1 = n → out ++ ([o] ++ kidO t win all (x.es.take i)) = F → (out.length + 1) * 16 ≤ 140737488355328 ∧ ∃ j, j < n ∧ GhostV [V.msl (m + 4) (nv + 1) 0 (out.length + 1), V.int IntKind.i64 (IntKind.i64.wrap (↑i - 1))] ⟨OpO t s win x ++ (M.set m (some (nv + 1, .mem 2 (out.map cSeen ++ [cSeen o]))) ++ N), nv + 1 + 1⟩ (@app 2 (OpI t s win x all F j)) := fun o N hl i hin he => ⟨by omega, i, by omega, GhostV.refl ⟨i, m, nv + 1, nv + 1 + 1, _, out ++ [o], rfl, by omega, by rw [wrap_i64 (by omega)], by simp, by rw [List.getElem?_append_left (by simpa using hml), List.getElem?_set_self hml]; simp, by simp; omega, by rw [hl]; simpa using he, rfl⟩⟩
 cases n with
 | zero =>
  have hne : ¬ (0 : Int) ≤ -1 := by decide
  have e0 : (((0 : Nat) : Int) - 1) = -1 := rfl
  simp only [e0]
  simp [hne]
  exact hfin (by simpa [kidO] using hout)
 | succ i =>
  have hi : i < x.es.length := by omega
  have hi0 : (0 : Int) ≤ (i : Int) := by omega
  have hstep : IntKind.i64.wrap ((i : Int) - 1) = (i : Int) - 1 := wrap_i64 (by omega)
  rw [show (((i + 1 : Nat) : Int) - 1) = (i : Int) by omega]
  simp [hi0]
  cases hl : x.leaf
  ·rw [hl, take_snoc hi, kidO_snoc] at hout
   simp only [Bool.false_eq_true, if_false] at hout
   cases all
   ·simp [hi0, hi]
    refine inv_p (kMeets h.toKyR x.es[i].key win) rfl rfl ?_
    rintro _ rfl
    cases hm : meetsK x.es[i].key win
    ·simp
     refine ⟨i, by omega, GhostV.refl ⟨i, m, ver, nv, M, out, rfl, by omega, by rw [hstep], rfl, hM, by omega, ?_, by simp [OpO, hl]⟩⟩
     simpa [hm, hl] using hout
    ·simp [hi, hM]
     simpa [OpO, hl] using hadd ⟨x.es[i].child, t.count⟩ _ hl i rfl (by simpa [hm] using hout)
   ·simp [hi0, hi, hMa]
    simp only [hMs]
    simpa [OpO, hl] using hadd ⟨x.es[i].child, t.count⟩ _ hl i rfl (by simpa using hout)
  ·simp [hi0]
   simpa [OpO, hl] using hfin (by simpa [hl] using hout)
end Go.Proofs.Ytmjnpfackanhlaa.AM

namespace Go.Proofs.Ytmjnpfackanhlaa.AM
open Go
set_option linter.unusedVariables false
set_option linter.unusedSimpArgs false
variable {P : Program}

structure StpR (P : Program) : Prop extends OpR P where
 cloS : R_slices_Clone_Seen_Seen P
 cloI : R_slices_Clone_uint32_uint32 P
 cnan : R_cmp_isNaN_uint32 P
 cless : R_cmp_Less_uint32 P
 snan : R_slices_isNaN_uint32 P
 bs : R_slices_BinarySearch_uint32_uint32 P
 cstep : R_cursor_Step P
 ins : ∃ info, InsW P 53 26 32 102 1 4 info [.int .u32 0]
theorem cReady (h : OpR P) (t : TreeT) (hs : smallT t) (c : CurT) (hb1 : c.opn.length < 2 ^ 40) (hb2 : c.rows.length < 2 ^ 40) : PCalls P n_cursor_ready [.agg (cTree t), .agg (cCur c)] (fun r => r = .int .i64 (if plantF t = true then (if curOk c then 0 else 230) else 210)) := by
 refine A_cursor_ready h.ready ?_
 unfold F_cursor_ready
 simp [st0]
 refine inv_p (tCheck h.toPlR t hs) rfl (by simp [pureL, V.pure, pureLL]) ?_
 rintro _ rfl
 cases hp : plantF t
 ·simp
  exact GhostV.refl ⟨rfl, by simp⟩
 ·simp
  refine inv_p (cCheck h.toCuR c hb1 hb2) rfl (by simp [pureL, V.pure, pureLL]) ?_
  rintro _ rfl
  exact GhostV.refl ⟨by simp [mkres], by simp [mkres]⟩
theorem CloS_D (h : StpR P) (l : List SeenT) (hl : l.length < 2 ^ 40) {L : List (Option (Nat × Obj))} {nv : Nat} {K : V → St → Prop}
  (hk : ∀ ver nv', K (.msl L.length ver 0 l.length) ⟨L ++ [some (ver, .mem 2 (l.map cSeen))], nv'⟩) :
  ACalls P n_slices_Clone_Seen_Seen [vSs l] ⟨L, nv⟩ K := by
 refine A_slices_Clone_Seen_Seen h.cloS ?_
 unfold F_slices_Clone_Seen_Seen
 cases l with
 | nil =>
  rw [show vSs [] = .sl .unk 2 [] [] from rfl]
  simp
  exact ⟨GhostV.refl (by simpa using hk (nv + 1) (nv + 2)), GhostV.nilr 2 (by decide) (by simpa using hk nv (nv + 1))⟩
 | cons x l =>
  rw [show vSs (x :: l) = .sl .unk 2 (cSeen x :: l.map cSeen) [] from rfl]
  simp
  refine ⟨by simp at hl; omega, ?_⟩
  exact GhostV.refl (by simpa using hk (nv + 1) (nv + 2))
theorem CloI_D (h : StpR P) (l : List Int) (hl : l.length < 2 ^ 40) {L : List (Option (Nat × Obj))} {nv : Nat} {K : V → St → Prop}
  (hk : ∀ ver nv', K (.msl L.length ver 0 l.length) ⟨L ++ [some (ver, .mem 1 (l.map cI))], nv'⟩) :
  ACalls P n_slices_Clone_uint32_uint32 [vIs l] ⟨L, nv⟩ K := by
 refine A_slices_Clone_uint32_uint32 h.cloI ?_
 unfold F_slices_Clone_uint32_uint32
 cases l with
 | nil =>
  rw [show vIs [] = .sl .unk 1 [] [] from rfl]
  simp
  exact ⟨GhostV.refl (by simpa using hk (nv + 1) (nv + 2)), GhostV.nilr 1 (by decide) (by simpa using hk nv (nv + 1))⟩
 | cons x l =>
  rw [show vIs (x :: l) = .sl .unk 1 (cI x :: l.map cI) [] from rfl]
  simp
  refine ⟨by simp at hl; omega, ?_⟩
  exact GhostV.refl (by simpa using hk (nv + 1) (nv + 2))
theorem cLess (h : StpR P) (a b : Int) : PCalls P n_cmp_Less_uint32 [.int .u32 a, .int .u32 b] (fun r => r = .bool (decide (a < b))) := by
 refine A_cmp_Less_uint32 h.cless ?_
 unfold F_cmp_Less_uint32
 have hn : ∀ x : Int, PCalls P n_cmp_isNaN_uint32 [.int .u32 x] (fun r => r = .bool false) := fun x => by
  refine A_cmp_isNaN_uint32 h.cnan ?_
  unfold F_cmp_isNaN_uint32
  simp [st0]
  exact GhostV.refl ⟨rfl, rfl⟩
 simp [st0]
 refine inv_p (hn a) rfl rfl ?_
 rintro _ rfl
 simp
 exact GhostV.refl ⟨by simp [mkres], by simp [mkres]⟩
def BsQ (l : List Int) (x : Int) (i : Nat) : Prop := i ≤ l.length ∧ (∀ q, (h : q < l.length) → q + 1 = i → l[q] < x) ∧ ∀ h : i < l.length, ¬ l[i] < x
def BsU (l : List Int) (x : Int) (k : Nat) (v9 v10 : V) (st : St) : Prop :=
 ∃ i j : Nat, k = j - i ∧ i ≤ j ∧ j ≤ l.length ∧ v9 = .int .i64 i ∧ v10 = .int .i64 j ∧ st = ⟨[], 0⟩ ∧ (∀ q, (h : q < l.length) → q + 1 = i → l[q] < x) ∧ ∀ h : j < l.length, ¬ l[j] < x
theorem bsU (h : StpR P) (l : List Int) (x : Int) (hl : l.length < 2 ^ 40) :
    PCalls P n_slices_BinarySearch_uint32_uint32 [vIs l, .int .u32 x] (fun r => ∃ i : Nat, BsQ l x i ∧ r = .tup [.int .i64 i, .bool (decide (l[i]? = some x))]) := by
  refine A_slices_BinarySearch_uint32_uint32 h.bs ?_
  unfold F_slices_BinarySearch_uint32_uint32
  have hn : ∀ x : Int, PCalls P n_slices_isNaN_uint32 [.int .u32 x] (fun r => r = .bool false) := fun x => by
    refine A_slices_isNaN_uint32 h.snan ?_
    unfold F_slices_isNaN_uint32
    simp [st0]
    exact GhostV.refl ⟨rfl, rfl⟩
  simp [st0]
  refine ⟨BsU l x, ⟨l.length, GhostV.refl ⟨0, l.length, by omega, by omega, by omega, by simp, by simp, rfl, by omega, by omega⟩⟩, ?_⟩
  rintro k1 v9 v10 st ⟨i, j, rfl, hij, hj, rfl, rfl, rfl, hlo, hhi⟩
  by_cases hlt : i < j
  · have e1 : IntKind.i64.wrap ((i : Int) + j) = (i : Int) + j := wrap_i64 (by omega)
    have e2 : IntKind.u64.wrap ((i : Int) + j) = (i : Int) + j := by simp [IntKind.wrap, IntKind.signed, IntKind.bits]; omega
    obtain ⟨m, hm0⟩ : ∃ m, m = (i + j) / 2 := ⟨_, rfl⟩
    have e3 : IntKind.i64.wrap (((i : Int) + j).fdiv 2) = m := by rw [Int.fdiv_eq_ediv_of_nonneg _ (by omega), wrap_i64 (by omega)]; omega
    have hm : m < l.length := by omega
    simp [hlt, e1, e2, e3, IntKind.bits, hm]
    refine inv_p (cLess h l[m] x) (by simp) (by simp [pureL]) ?_
    rintro _ rfl
    by_cases hc : l[m] < x
    · have e4 : IntKind.i64.wrap ((m : Int) + 1) = ((m + 1 : Nat) : Int) := by rw [wrap_i64 (by omega)]; omega
      simp [hc, e4]
      exact ⟨_, by omega, GhostV.refl ⟨m + 1, j, rfl, by omega, by omega, by simp, rfl, rfl, fun q hq hq' => by
        obtain rfl : q = m := by omega
        exact hc, hhi⟩⟩
    · simp [hc]
      exact ⟨_, by omega, GhostV.refl ⟨i, m, rfl, by omega, by omega, rfl, by simp, rfl, hlo, fun _ => hc⟩⟩
  · obtain rfl : i = j := by omega
    have fin : ∀ b : Bool, b = decide (l[i]? = some x) → GhostV [.int .i64 i, .bool b] ⟨[], 0⟩ fun vs st => (mkres vs).pure = true ∧ ∃ i, BsQ l x i ∧ mkres vs = .tup [.int .i64 i, .bool (decide (l[i]? = some x))] := by
      rintro _ rfl
      exact GhostV.refl ⟨by simp, i, ⟨hj, hlo, hhi⟩, by simp⟩
    by_cases hl2 : i < l.length
    · simp [hl2]
      by_cases he : l[i] = x
      · simp [hl2, he]
        exact fin _ (by simp [hl2, he])
      · simp [hl2, he]
        refine inv_p (hn l[i]) (by simp) (by simp [pureL]) ?_
        rintro _ rfl
        simp [hl2, he]
        exact fin _ (by simp [hl2, he])
    · simp [hl2]
      exact fin _ (by simp [hl2])
end Go.Proofs.Ytmjnpfackanhlaa.AM

namespace Go.Proofs.Ytmjnpfackanhlaa.AM
open Go
set_option linter.unusedVariables false
set_option linter.unusedSimpArgs false
variable {P : Program}

theorem upR_lt : ∀ {l : List Int} {m : Int}, upR m l = true → ∀ z ∈ l, m < z
 | [], _, _, z, hz => by simp at hz
 | x :: l, m, h, z, hz => by
  simp only [upR, Bool.and_eq_true, decide_eq_true_eq] at h
  rcases List.mem_cons.1 hz with rfl | hz
  ·exact h.1
  ·have := upR_lt h.2 z hz; omega
theorem upR_le : ∀ {l : List Int} {m k : Int}, upR m l = true → k ≤ m → upR k l = true
 | [], _, _, _, _ => rfl
 | x :: l, m, k, h, hk => by
  simp only [upR, Bool.and_eq_true, decide_eq_true_eq] at h ⊢
  exact ⟨by omega, h.2⟩
theorem upR_take : ∀ {l : List Int} {m : Int}, upR m l = true → ∀ i, upR m (l.take i) = true
 | [], _, _, i => by simp [upR]
 | x :: l, m, h, 0 => by simp [upR]
 | x :: l, m, h, i + 1 => by
  simp only [upR, Bool.and_eq_true, decide_eq_true_eq] at h
  rw [List.take_succ_cons]
  simp only [upR, Bool.and_eq_true, decide_eq_true_eq]
  exact ⟨h.1, upR_take h.2 i⟩
theorem BsQ.tail {y : Int} {l : List Int} {x : Int} {i : Nat} (h : BsQ (y :: l) x (i + 1)) : BsQ l x i := by
  refine ⟨by have := h.1; simp at this; omega, fun q hq e => ?_, fun hi => ?_⟩
  · have := h.2.1 (q + 1) (by simp; omega) (by omega)
    simpa using this
  · have := h.2.2 (by simp; omega)
    simpa using this
theorem BsQ.spec : ∀ {l : List Int} {m x : Int} {i : Nat}, upR m l = true → BsQ l x i → ((l[i]? = some x) ↔ x ∈ l) ∧ (x ∉ l → withF l x = l.take i ++ x :: l.drop i)
 | [], m, x, i, _, h => by
  obtain rfl : i = 0 := by have := h.1; simpa using this
  simp [withF]
 | y :: l, m, x, 0, hu, h => by
  simp only [upR, Bool.and_eq_true, decide_eq_true_eq] at hu
  have h0 : ¬ y < x := h.2.2 (by simp)
  have hnl : x ∉ l := fun hx => by have := upR_lt hu.2 x hx; omega
  refine ⟨by simp [hnl, eq_comm], fun hx => ?_⟩
  have : x ≠ y := fun e => hx (by simp [e])
  simp [withF, show x < y by omega]
 | y :: l, m, x, i + 1, hu, h => by
  simp only [upR, Bool.and_eq_true, decide_eq_true_eq] at hu
  have ht := h.tail
  have hyx : y < x := by
   cases i with
   | zero => exact h.2.1 0 (by simp) (by omega)
   | succ j =>
    have hj : j < l.length := by have := ht.1; omega
    have h1 := ht.2.1 j hj (by omega)
    have := upR_lt hu.2 l[j] (List.getElem_mem hj)
    omega
  obtain ⟨a, b⟩ := BsQ.spec hu.2 ht
  refine ⟨by simp [a, show x ≠ y by omega], fun hx => ?_⟩
  simp only [withF, show ¬ x < y by omega, if_false, List.take_succ_cons, List.drop_succ_cons, List.cons_append]
  rw [b (fun e => hx (by simp [e]))]
theorem withF_up : ∀ {l : List Int} {m x : Int}, upR m l = true → m < x → x ∉ l → upR m (withF l x) = true
  | [], m, x, _, h, _ => by simp [withF, upR, h]
  | y :: l, m, x, hu, h, hx => by
    simp only [upR, Bool.and_eq_true, decide_eq_true_eq] at hu
    have hne : x ≠ y := fun e => hx (by simp [e])
    by_cases e : x < y
    · simp [withF, e, upR, h, hu.2]
    · have := withF_up hu.2 (show y < x by omega) (fun q => hx (by simp [q]))
      simp [withF, e, upR, hu.1, this]
def rowsF (win : KeyT) : List Int → List LinkT → List Int
 | l, [] => l
 | l, e :: es => rowsF win (if meetsK e.key win = true ∧ e.child ∉ l then withF l e.child else l) es
theorem rowsF_snoc (win : KeyT) : ∀ (es : List LinkT) (l : List Int) (e : LinkT), rowsF win l (es ++ [e]) = if meetsK e.key win = true ∧ e.child ∉ rowsF win l es then withF (rowsF win l es) e.child else rowsF win l es
 | [], l, e => rfl
 | x :: es, l, e => by rw [List.cons_append, rowsF, rowsF_snoc win es]; rfl
theorem rowsF_up (win : KeyT) : ∀ (es : List LinkT) (l : List Int) (m : Int), upR m l = true → ∃ m', upR m' (rowsF win l es) = true
 | [], l, m, h => ⟨m, h⟩
 | e :: es, l, m, h => by
  rw [rowsF]
  split
  ·rename_i hc
   refine rowsF_up win es _ (min m (e.child - 1)) (withF_up (upR_le h (by omega)) (by omega) hc.2)
  ·exact rowsF_up win es l m h
theorem rowsF_len (win : KeyT) : ∀ (es : List LinkT) (l : List Int), (rowsF win l es).length ≤ l.length + es.length
 | [], l => by simp [rowsF]
 | e :: es, l => by
  rw [rowsF]
  refine Nat.le_trans (rowsF_len win es _) ?_
  split
  ·simp only [withF_len, List.length_cons]; omega
  ·simp only [List.length_cons]; omega
def lastS (c : CurT) : SeenT := c.opn.getLast?.getD ⟨0, 0⟩
def stepF (t : TreeT) (c : CurT) : CurT :=
 ⟨c.win, c.opn.dropLast ++ opensF t (lastS c) c.win false, if (nodeOr t (lastS c).id).leaf = true then rowsF c.win c.rows (nodeOr t (lastS c).id).es else c.rows⟩
def noCur : CurT := ⟨⟨0, 0, 0, 0⟩, [], []⟩
def stepR (t : TreeT) (c : CurT) : CurT × Int × Int :=
 if plantF t = true then
  if curOk c = true then
   if c.opn = [] then (c, 0, 0)
   else if (stepF t c).opn.length ≤ 128 then (stepF t c, (lastS c).id, 0) else (noCur, 0, 6)
  else (noCur, 0, 230)
 else (noCur, 0, 210)
theorem GhostV.curX {L : List (Option (Nat × Obj))} {nv i1 v1 i2 v2 n1 n2 : Nat} {T1 T2 : List (List V)} {opn : List SeenT} {rows : List Int} {win : KeyT} {rest : List V} {K : List V → St → Prop}
    (o1 : L[i1]? = some (some (v1, .mem 2 (opn.map cSeen ++ T1)))) (o2 : L[i2]? = some (some (v2, .mem 1 (rows.map cI ++ T2)))) (h12 : i1 ≠ i2) (hp2 : pureLL T2 = true) (hn1 : n1 = opn.length) (hn2 : n2 = rows.length) (hk : K (.agg (cCur ⟨win, opn, rows⟩) :: rest) ⟨[], nv⟩) :
    GhostV (.agg [.int .i64 win.x0, .int .i64 win.x1, .int .i64 win.y0, .int .i64 win.y1, .msl i1 v1 0 n1, .msl i2 v2 0 n2] :: rest) ⟨L, nv⟩ K := by
  subst hn1 hn2
  have hget : ∀ (id1 ver1 : Nat) (ob : Obj), (List.replicate i2 none ++ [some (v2, Obj.mem 1 (rows.map cI ++ T2))])[id1]? = some (some (ver1, ob)) → id1 = i2 ∧ ver1 = v2 ∧ ob = Obj.mem 1 (rows.map cI ++ T2) := fun id1 ver1 ob hh => by
    by_cases e : id1 < i2
    · rw [List.getElem?_append_left (by simpa using e), List.getElem?_replicate, if_pos e] at hh
      cases hh
    · rw [List.getElem?_append_right (by simpa using e), List.length_replicate] at hh
      by_cases e2 : id1 = i2
      · subst e2
        simp at hh
        exact ⟨rfl, hh.1.symm, hh.2.symm⟩
      · obtain ⟨d, hd⟩ : ∃ d, id1 - i2 = d + 1 := ⟨id1 - i2 - 1, by omega⟩
        rw [hd] at hh
        simp at hh
  refine GhostV.trans (K := fun vs st => vs = .agg [.int .i64 win.x0, .int .i64 win.x1, .int .i64 win.y0, .int .i64 win.y1, .sl .unk 2 (opn.map cSeen) T1, .msl i2 v2 0 rows.length] :: rest ∧ st = ⟨List.replicate i2 none ++ [some (v2, .mem 1 (rows.map cI ++ T2))], nv⟩) (GhostV.freeze (vs' := .agg [.int .i64 win.x0, .int .i64 win.x1, .int .i64 win.y0, .int .i64 win.y1, .sl .unk 2 (opn.map cSeen) T1, .msl i2 v2 0 rows.length] :: rest) (st' := ⟨List.replicate i2 none ++ [some (v2, .mem 1 (rows.map cI ++ T2))], nv⟩) (id := i1) (ver := v1) (sz := 2) (es := opn.map cSeen ++ T1) (by simp [St.get, o1]) rfl rfl (fun i => ?_) (fun id1 ver1 ob hh => ?_) ⟨rfl, rfl⟩) ?_
  · cases i with
    | zero =>
      refine .agg _ _ rfl (fun i hi => ?_)
      match i, hi with
      | 0, _ => exact .refl _
      | 1, _ => exact .refl _
      | 2, _ => exact .refl _
      | 3, _ => exact .refl _
      | 4, _ =>
        have := Frz.msl (ver := v1) (sz := 2) (es := opn.map cSeen ++ T1) i1 0 opn.length (by simp)
        simpa using this
      | 5, _ => exact .refl _
    | succ i => simpa using Frz.refl _
  · obtain ⟨rfl, rfl, rfl⟩ := hget _ _ _ hh
    exact ⟨fun e => h12 e.symm, _, o2, .inl rfl⟩
  rintro _ _ ⟨rfl, rfl⟩
  refine GhostV.trans (K := fun vs st => vs = .agg [.int .i64 win.x0, .int .i64 win.x1, .int .i64 win.y0, .int .i64 win.y1, .sl .unk 2 (opn.map cSeen) T1, .sl .unk 1 (rows.map cI) T2] :: rest ∧ st = ⟨[], nv⟩) (GhostV.freeze (vs' := .agg [.int .i64 win.x0, .int .i64 win.x1, .int .i64 win.y0, .int .i64 win.y1, .sl .unk 2 (opn.map cSeen) T1, .sl .unk 1 (rows.map cI) T2] :: rest) (st' := ⟨[], nv⟩) (id := i2) (ver := v2) (sz := 1) (es := rows.map cI ++ T2) (by simp only [St.get]; rw [List.getElem?_append_right (by simp)]; simp) rfl rfl (fun i => ?_) (fun id1 ver1 ob hh => by simp at hh) ⟨rfl, rfl⟩) ?_
  · cases i with
    | zero =>
      refine .agg _ _ rfl (fun i hi => ?_)
      match i, hi with
      | 0, _ => exact .refl _
      | 1, _ => exact .refl _
      | 2, _ => exact .refl _
      | 3, _ => exact .refl _
      | 4, _ => exact .refl _
      | 5, _ =>
        have := Frz.msl (ver := v2) (sz := 1) (es := rows.map cI ++ T2) i2 0 rows.length (by simp)
        simpa using this
    | succ i => simpa using Frz.refl _
  rintro _ _ ⟨rfl, rfl⟩
  exact GhostV.le (LeVs.cons (LeV.aggs (bs := cCur ⟨win, opn, rows⟩) (LeVs.cons (.refl _) (LeVs.cons (.refl _) (LeVs.cons (.refl _) (LeVs.cons (.refl _) (LeVs.cons LeV.slk (LeVs.cons LeV.slk LeVs.nil))))))) (LeVs.refl _)) hk
theorem GhostV.cur0 {st : St} {rest : List V} {K : List V → St → Prop} (hk : K (.agg (cCur noCur) :: rest) st) : GhostV (.agg [.int .i64 0, .int .i64 0, .int .i64 0, .int .i64 0, .sl .nil 0 [] [], .sl .nil 0 [] []] :: rest) st K :=
 GhostV.le (LeVs.cons (LeV.aggs (bs := cCur noCur) (LeVs.cons (.refl _) (LeVs.cons (.refl _) (LeVs.cons (.refl _) (LeVs.cons (.refl _) (LeVs.cons (.nil 0 2) (LeVs.cons (.nil 0 1) LeVs.nil))))))) (LeVs.refl _)) hk
theorem GhostV.curN {L : List (Option (Nat × Obj))} {nv i1 v1 n1 : Nat} {T1 : List (List V)} {opn : List SeenT} {rows : List Int} {win : KeyT} {rest : List V} {K : List V → St → Prop}
  (o1 : L[i1]? = some (some (v1, .mem 2 (opn.map cSeen ++ T1)))) (hn1 : n1 = opn.length) (hk : K (.agg (cCur ⟨win, opn, rows⟩) :: rest) ⟨[], nv⟩) :
  GhostV (.agg [.int .i64 win.x0, .int .i64 win.x1, .int .i64 win.y0, .int .i64 win.y1, .msl i1 v1 0 n1, vIs rows] :: rest) ⟨L, nv⟩ K := by
 subst hn1
 refine GhostV.trans (K := fun vs st => vs = .agg [.int .i64 win.x0, .int .i64 win.x1, .int .i64 win.y0, .int .i64 win.y1, .sl .unk 2 (opn.map cSeen) T1, vIs rows] :: rest ∧ st = ⟨[], nv⟩) (GhostV.freeze (vs' := .agg [.int .i64 win.x0, .int .i64 win.x1, .int .i64 win.y0, .int .i64 win.y1, .sl .unk 2 (opn.map cSeen) T1, vIs rows] :: rest) (st' := ⟨[], nv⟩) (id := i1) (ver := v1) (sz := 2) (es := opn.map cSeen ++ T1) (by simp [St.get, o1]) rfl rfl (fun i => ?_) (fun id1 ver1 ob hh => by simp at hh) ⟨rfl, rfl⟩) ?_
 ·cases i with
  | zero =>
   refine .agg _ _ rfl (fun i hi => ?_)
   match i, hi with
   | 0, _ => exact .refl _
   | 1, _ => exact .refl _
   | 2, _ => exact .refl _
   | 3, _ => exact .refl _
   | 4, _ =>
    have := Frz.msl (ver := v1) (sz := 2) (es := opn.map cSeen ++ T1) i1 0 opn.length (by simp)
    simpa using this
   | 5, _ => exact .refl _
  | succ i => simpa using Frz.refl _
 rintro _ _ ⟨rfl, rfl⟩
 exact GhostV.le (LeVs.cons (LeV.aggs (bs := cCur ⟨win, opn, rows⟩) (LeVs.cons (.refl _) (LeVs.cons (.refl _) (LeVs.cons (.refl _) (LeVs.cons (.refl _) (LeVs.cons LeV.slk (LeVs.cons (.refl _) LeVs.nil))))))) (LeVs.refl _)) hk
theorem cStart (h : StpR P) (t : TreeT) (hs : smallT t) (win : KeyT) : PCalls P n_cursor_Start [.agg (cTree t), .agg (cKey win)] (fun r => r = .tup (if plantF t = true then (if boxK win then [.agg (cCur ⟨win, [⟨t.root, t.count⟩], []⟩), .int .i64 0] else [.agg (cCur noCur), .int .i64 2]) else [.agg (cCur noCur), .int .i64 210])) := by
 refine A_cursor_Start h.start ?_
 unfold F_cursor_Start
 simp [st0]
 refine inv_p (tCheck h.toPlR t hs) rfl (by simp [pureL, V.pure, pureLL]) ?_
 rintro _ rfl
 cases hp : plantF t
 ·simp
  exact GhostV.cur0 ⟨by simp [mkres, V.pure, pureL, pureLL, noCur], by simp [mkres]⟩
 ·simp
  refine inv_p (kCheck h.toKyR win) rfl rfl ?_
  rintro _ rfl
  cases hb : boxK win
  ·simp
   exact GhostV.cur0 ⟨by simp [mkres, V.pure, pureL, pureLL, noCur], by simp [mkres]⟩
  ·simp
   refine GhostV.trans (K := fun vs st => vs = [.agg [.int .i64 win.x0, .int .i64 win.x1, .int .i64 win.y0, .int .i64 win.y1, .msl 3 3 0 1, vIs []], .int .i64 0] ∧ st.objs[3]? = some (some (3, .mem 2 [cSeen ⟨t.root, t.count⟩]))) ?_ ?_
   ·exact GhostV.le (LeVs.cons (LeV.aggs (LeVs.cons (.refl _) (LeVs.cons (.refl _) (LeVs.cons (.refl _) (LeVs.cons (.refl _) (LeVs.cons (.refl _) (LeVs.cons (.nil 0 1) LeVs.nil))))))) (LeVs.refl _)) ⟨rfl, rfl⟩
   ·rintro _ ⟨L, nv⟩ ⟨rfl, hL⟩
    exact GhostV.curN (opn := [⟨t.root, t.count⟩]) (rows := []) (win := win) (T1 := []) (i1 := 3) (v1 := 3) hL rfl ⟨by simp [mkres, V.pure, pureL, pureLL], by simp [mkres]⟩
theorem res_of {e : Option (V × St)} {K : Kont} {Q : V → St → Prop} (h : ∃ v st, e = some (v, st) ∧ Q v st) (hk : ∀ v st, Q v st → @res (some (v, st)) K) : @res e K := by
 obtain ⟨v, st, rfl, hq⟩ := h
 exact hk v st hq
theorem opensF_len {t : TreeT} (hs : smallT t) (s : SeenT) (win : KeyT) (all : Bool) : (opensF t s win all).length < 2 ^ 31 := by
 have hxw : (nodeOr t s.id).es.length < 2 ^ 30 := by
  unfold nodeOr
  cases hf : findN t.nodes s.id with
  | none => decide
  | some y => exact hs.2 y (findN_some hf).1
 have h2 := List.length_filter_le (fun e : LinkT => all || meetsK e.key win) (nodeOr t s.id).es.reverse
 rw [List.length_reverse] at h2
 unfold opensF
 rw [List.length_append]
 have h1 : (if s.count < (nodeOr t s.id).mark ∧ (nodeOr t s.id).right ≠ 0 then [(⟨(nodeOr t s.id).right, s.count⟩ : SeenT)] else []).length ≤ 1 := by split <;> simp
 have h3 : (if (nodeOr t s.id).leaf then [] else ((nodeOr t s.id).es.reverse.filter (fun e => all || meetsK e.key win)).map (fun e => (⟨e.child, t.count⟩ : SeenT))).length ≤ (nodeOr t s.id).es.length := by
  split
  ·simp
  ·rw [List.length_map]; exact h2
 omega
abbrev StepL (t : TreeT) (c : CurT) (v1 : Nat) (rs : List (List V)) (v2 : Nat) (rw' : List Int) (v5 : Nat) (out : List V) (v6 : Nat) (s : SeenT) : List (Option (Nat × Obj)) :=
 [some (0, .mem 3 [cTree t]), some (1, .mem 6 [cCur c]), some (2, .mem 6 [[.int .i64 0, .int .i64 0, .int .i64 0, .int .i64 0, .sl .nil 0 [] [], .sl .nil 0 [] []]]), some (v1, .mem 2 rs), some (v2, .mem 1 (rw'.map cI)), some (v5, .mem 6 [out]), some (v6, .mem 2 [cSeen s])]
def StepQ (t : TreeT) (c : CurT) (os more : List SeenT) (n : Nat) (v2 : Nat) (v5 : Nat) (out : List V) (v6 : Nat) (s : SeenT) (v : V) (st : St) : Prop :=
 ∃ v1 T nv, v = .msl 3 v1 0 n ∧ st = ⟨StepL t c v1 ((os ++ more).map cSeen ++ T) v2 c.rows v5 out v6 s, nv⟩
theorem Bor.rowG {α : Type} {st : St} {id ver sz : Nat} {l : List α} {c : α → List V} (hc : ∀ x, (c x).length = sz) {rows : List (List V)} (h : st.get id ver = some (.mem sz rows)) (ht : rows.take l.length = l.map c) (hl : l.length ≤ rows.length) : Bor st (.msl id ver 0 l.length) (.sl .unk sz (l.map c) []) :=
  .msl id ver 0 l.length sz rows (l.map c) h (by simpa using hl) (by simp) (fun i hi => by rw [getD_map _ _ _ hi]; exact hc _) (fun i j hi hj => by
    have : rows.getD i [] = (l.map c).getD i [] := by rw [← ht]; simp [List.getD, List.getElem?_take, hi]
    rw [Nat.zero_add, this]; exact .refl _)
theorem pure3 (c : CurT) (a b : V) (ha : a.pure = true := by rfl) (hb : b.pure = true := by rfl) : (mkres [.agg (cCur c), a, b]).pure = true := by
  have := p_cur c
  simp only [mkres, V.pure, pureL, this, ha, hb]; rfl
abbrev StepM (t : TreeT) (c : CurT) (v1 : Nat) (rs : List (List V)) (v2 : Nat) (rw' : List Int) (v5 n1 : Nat) (v6 : Nat) (s : SeenT) (v7 : Nat) (x : NodeT) : List (Option (Nat × Obj)) :=
 StepL t c v1 rs v2 rw' v5 [.int .i64 c.win.x0, .int .i64 c.win.x1, .int .i64 c.win.y0, .int .i64 c.win.y1, .msl 3 v1 0 n1, .msl 4 v2 0 rw'.length] v6 s ++ [some (v7, .mem 5 [cNode x])]
def StepI (t : TreeT) (c : CurT) (v1 : Nat) (rs : List (List V)) (v5 n1 : Nat) (v6 : Nat) (s : SeenT) (v7 : Nat) (x : NodeT) (k : Nat) (v : V) (st : St) : Prop :=
 ∃ i v2 nv, k = x.es.length - i ∧ i ≤ x.es.length ∧ v = .int .i64 ((i : Nat) : Int) ∧ st = ⟨StepM t c v1 rs v2 (rowsF c.win c.rows (x.es.take i)) v5 n1 v6 s v7 x, nv⟩
set_option maxHeartbeats 4000000 in
theorem cStep (h : StpR P) (t : TreeT) (hs : smallT t) (c : CurT) (hb1 : c.opn.length < 2 ^ 32) (hb2 : c.rows.length < 2 ^ 32) : PCalls P n_cursor_Step [.agg (cTree t), .agg (cCur c)] (fun r => r = .tup [.agg (cCur (stepR t c).1), .int .u32 (stepR t c).2.1, .int .i64 (stepR t c).2.2]) := by
  refine A_cursor_Step h.cstep ?_
  unfold F_cursor_Step
  simp [st0]
  refine inv_p (cReady h.toOpR t hs c (by omega) (by omega)) rfl (by simp [pureL, V.pure, pureLL]) ?_
  rintro _ rfl
  cases hp : plantF t
  · simp
    exact GhostV.cur0 ⟨by simp [mkres, V.pure, pureL, pureLL, noCur], by simp [mkres, stepR, hp]⟩
  cases hc : curOk c
  · simp
    exact GhostV.cur0 ⟨by simp [mkres, V.pure, pureL, pureLL, noCur], by simp [mkres, stepR, hp, hc]⟩
  simp
  refine inv_f0 (CloS_D h c.opn (by omega) (fun v1 nv1 => ?_))
  simp
  refine inv_f0 (CloI_D h c.rows (by omega) (fun v2 nv2 => ?_))
  simp
  refine inv_p (cOver h.toCuR c) rfl (by simp [pureL, V.pure, pureLL]) ?_
  rintro _ rfl
  by_cases ho : c.opn = []
  · simp [ho]
    refine GhostV.curX (opn := []) (rows := c.rows) (T1 := []) (T2 := []) (i1 := 3) (i2 := 4) (v1 := v1) (v2 := v2) (win := c.win) rfl (by simp) (by decide) rfl rfl rfl ⟨by simp [mkres, V.pure, pureL, pureLL], ?_⟩
    have : c = ⟨c.win, [], c.rows⟩ := by rw [← ho]
    rw [← this]
    simp [mkres, stepR, hp, hc, ho]
  obtain ⟨win, opn, rows⟩ := c
  obtain ⟨os, s, rfl⟩ : ∃ os s, opn = os ++ [s] := ⟨opn.dropLast, opn.getLast ho, (List.dropLast_concat_getLast ho).symm⟩
  have hls : lastS ⟨win, os ++ [s], rows⟩ = s := by simp [lastS]
  simp only at hb1 hb2
  have hosl : os.length < 2 ^ 32 := by simp at hb1; omega
  have hw1 : IntKind.i64.wrap ((os.length : Int) + 1 - 1) = os.length := by rw [wrap_i64 (by omega)]; omega
  have hw2 : IntKind.i64.wrap (os.length : Int) = os.length := wrap_i64 (by omega)
  simp [hw1, hw2]
  refine ⟨by omega, by omega, ?_⟩
  refine inv_p (cOpens h.toOpR t hs s win false) rfl (by simp [pureL, V.pure, pureLL]) ?_
  rintro _ rfl
  obtain ⟨more, hmore⟩ : ∃ more, more = opensF t s win false := ⟨_, rfl⟩
  have hml : more.length < 2 ^ 31 := by rw [hmore]; exact opensF_len hs _ _ _
  rw [← hmore]
  simp
  refine ⟨by omega, by omega, ?_⟩
  refine res_of (Q := StepQ t ⟨win, os ++ [s], rows⟩ os more (os.length + more.length) v2 nv2 [.int .i64 win.x0, .int .i64 win.x1, .int .i64 win.y0, .int .i64 win.y1, .msl 3 v1 0 (os.length + 1), .msl 4 v2 0 rows.length] (nv2 + 1) s) ?_ ?_
  · by_cases hm1 : more.length ≤ 1
    · rw [if_pos hm1]
      exact ⟨_, _, rfl, v1, List.drop (os.length + more.length) (List.map cSeen os ++ [cSeen s]), nv2 + 1 + 1, rfl, by simp [StepL]⟩
    · rw [if_neg hm1]
      exact ⟨_, _, rfl, nv2 + 1 + 1, [], nv2 + 1 + 1 + 1, rfl, by simp [StepL]⟩
  rintro _ _ ⟨v3, T, nv, rfl, rfl⟩
  simp
  have hso : (stepF t ⟨win, os ++ [s], rows⟩).opn = os ++ more := by unfold stepF; rw [hls, hmore]; simp
  by_cases hbig : (128 : Int) < (os.length : Int) + (more.length : Int)
  · simp [hbig]
    refine GhostV.cur0 ⟨by simp [mkres, V.pure, pureL, pureLL, noCur], ?_⟩
    have : ¬ (os.length + more.length ≤ 128) := by omega
    simp [mkres, stepR, hp, hc, hso, this]
  simp [hbig]
  refine inv_p (cFind h.toOpR t s.id (by have := hs.1; omega)) rfl (by simp [pureL, V.pure, pureLL]) ?_
  rintro _ rfl
  have hxw : (nodeOr t s.id).es.length < 2 ^ 30 := by
    unfold nodeOr
    cases hf : findN t.nodes s.id with
    | none => decide
    | some y => exact hs.2 y (findN_some hf).1
  obtain ⟨x, hx⟩ : ∃ x, x = nodeOr t s.id := ⟨_, rfl⟩
  rw [← hx] at hxw
  rw [← hx]
  simp
  have hle : os.length + more.length ≤ 128 := by omega
  cases hxl : x.leaf
  · have hst : stepF t ⟨win, os ++ [s], rows⟩ = ⟨win, os ++ more, rows⟩ := by unfold stepF; rw [hls, ← hmore, ← hx, hxl]; simp
    simp [hxl]
    refine GhostV.curX (opn := os ++ more) (rows := rows) (T1 := T) (T2 := []) (i1 := 3) (i2 := 4) (v1 := v3) (v2 := v2) (win := win) (by simp) (by simp) (by decide) rfl (by simp) rfl ⟨pure3 _ _ _, ?_⟩
    simp [mkres, stepR, hp, hc, hst, hle, hls]
  simp [hxl]
  have hst : stepF t ⟨win, os ++ [s], rows⟩ = ⟨win, os ++ more, rowsF win rows x.es⟩ := by unfold stepF; rw [hls, ← hmore, ← hx, hxl]; simp
  refine ⟨StepI t ⟨win, os ++ [s], rows⟩ v3 ((os ++ more).map cSeen ++ T) nv2 (os.length + more.length) (nv2 + 1) s nv x, ⟨x.es.length, GhostV.refl ⟨0, v2, nv + 1, by simp, by omega, by simp, by simp [StepM, StepL, rowsF, hxl]⟩⟩, ?_⟩
  rintro k1 v69 st ⟨i, v4, nv4, rfl, hi, rfl, rfl⟩
  have hrl := rowsF_len win (x.es.take i) rows
  obtain ⟨m0, hup0⟩ : ∃ m, upR m (rowsF win rows (x.es.take i)) = true := by
    have : upR 0 rows = true := by
      simp only [curOk, Bool.and_eq_true] at hc
      exact hc.2
    exact rowsF_up win _ _ 0 this
  obtain ⟨rw', hrw⟩ : ∃ rw', rw' = rowsF win rows (x.es.take i) := ⟨_, rfl⟩
  rw [List.length_take] at hrl
  by_cases hlt : i < x.es.length
  · have hsn := rowsF_snoc win (x.es.take i) rows x.es[i]
    rw [← take_snoc hlt] at hsn
    rw [← hrw] at hsn hup0 hrl ⊢
    simp [hlt]
    refine inv_look (bsU h rw' x.es[i].child (by omega)) (Bors.cons (a := .msl 4 v4 0 rw'.length) (Bor.rowG (sz := 1) (l := rw') (c := cI) (rows := rw'.map cI) (fun _ => rfl) (by simp [St.get]) (List.take_of_length_le (by rw [List.length_map]; exact Nat.le_refl _)) (by rw [List.length_map]; exact Nat.le_refl _)) (Bors.cons (.refl _) Bors.nil)) (by simp [pureL, pureLL]) ?_
    rintro _ ⟨j, hj, rfl⟩
    refine ⟨rfl, ?_⟩
    obtain ⟨hmem, hins⟩ := hj.spec hup0
    simp
    refine inv_p (kMeets h.toKyR x.es[i].key win) rfl rfl ?_
    rintro _ rfl
    have hb : decide (rw'[j]? = some x.es[i].child) = decide (x.es[i].child ∈ rw') := by rw [Bool.eq_iff_iff]; simp only [decide_eq_true_eq]; exact hmem
    rw [hb]
    have hw3 : IntKind.i64.wrap ((i : Int) + 1) = ((i + 1 : Nat) : Int) := wadd1 (by omega)
    cases hmt : meetsK x.es[i].key win
    · rw [hmt] at hsn
      simp
      refine ⟨x.es.length - (i + 1), by omega, GhostV.keep (L := [_, _, _, _, _, _, _, _]) (K := @app 1 (StepI _ _ _ _ _ _ _ _ _ _ _)) ⟨i + 1, v4, nv4 + 1, rfl, by omega, by rw [hw3], ?_⟩⟩
      simp [hsn, StepM, StepL]
    rw [hmt] at hsn
    by_cases hin : x.es[i].child ∈ rw'
    · simp [hin]
      rw [if_neg (fun e => e.2 hin)] at hsn
      refine ⟨x.es.length - (i + 1), by omega, GhostV.keep (L := [_, _, _, _, _, _, _, _]) (K := @app 1 (StepI _ _ _ _ _ _ _ _ _ _ _)) ⟨i + 1, v4, nv4 + 1, rfl, by omega, by rw [hw3], ?_⟩⟩
      simp [hsn, StepM, StepL]
    rw [if_pos ⟨rfl, hin⟩] at hsn
    simp [hin]
    obtain ⟨info, hI⟩ := h.ins
    refine inv_f0 (hI.calls (id := 4) (ver := v4) (n := rw'.length) (i := j) (idv := 9) (verv := nv4 + 1) (es := rw'.map cI) (x := cI x.es[i].child) (by simp [St.get]) (by simp) (by simp [St.get]) hj.1 (by omega) (by omega) ?_)
    have e1 : (withF rw' x.es[i].child).map cI = List.take j (rw'.map cI) ++ cI x.es[i].child :: List.drop j (rw'.map cI) := by rw [hins hin]; simp [List.map_take, List.map_drop]
    simp [St.renew]
    refine ⟨x.es.length - (i + 1), by omega, GhostV.keep (L := [_, _, _, _, _, _, _, _]) (K := @app 1 (StepI _ _ _ _ _ _ _ _ _ _ _)) ⟨i + 1, nv4 + 1 + 1, nv4 + 1 + 1 + 1, rfl, by omega, by rw [hw3], ?_⟩⟩
    simp only [StepM, StepL, hsn, withF_len, e1]
    simp
  · have ht : x.es.take i = x.es := List.take_of_length_le (by omega)
    rw [ht] at hrw
    rw [ht, ← hrw]
    rw [← hrw] at hst
    simp [hlt]
    refine GhostV.curX (opn := os ++ more) (rows := rw') (T1 := T) (T2 := []) (i1 := 3) (i2 := 4) (v1 := v3) (v2 := v4) (win := win) (by simp) (by simp) (by decide) rfl (by simp) rfl ⟨pure3 _ _ _, ?_⟩
    simp [mkres, stepR, hp, hc, hst, hle, hls]
end Go.Proofs.Ytmjnpfackanhlaa.AM

namespace Go.Proofs.Ytmjnpfackanhlaa.AM
open Go
set_option linter.unusedVariables false
set_option linter.unusedSimpArgs false
variable {P : Program}

structure RcR (P : Program) : Prop extends StpR P, RdR P where
 right13 : R_gazetteerref13_Right P
 same13 : R_gazetteerref13_Same P
 opens13 : R_gazetteerref13_Opens P
abbrev CurO (c : CurT) : List (Option (Nat × Obj)) := [some (0, .mem 6 [cCur c])]
def RgI (c : CurT) (k : Nat) (v : V) (st : St) : Prop := ∃ i, k = c.opn.length - i ∧ i ≤ c.opn.length ∧ v = .int .i64 ((i : Nat) : Int) ∧ st = ⟨CurO c, 1⟩ ∧ (c.opn.take i).any isNone = false
def RgJ (c : CurT) (k : Nat) (v : V) (st : St) : Prop := ∃ i, k = c.rows.length - i ∧ i ≤ c.rows.length ∧ v = .int .i64 ((i : Nat) : Int) ∧ st = ⟨CurO c, 1⟩ ∧ upR 0 (c.rows.take i) = true
set_option maxHeartbeats 1000000 in
theorem rRight (h : RcR P) (c : CurT) (hb1 : c.opn.length < 2 ^ 40) (hb2 : c.rows.length < 2 ^ 40) (h0 : ∀ r ∈ c.rows, 0 ≤ r) : PCalls P n_gazetteerref13_Right [.agg (cCur c)] (fun r => r = .bool (curOk c)) := by
  refine A_gazetteerref13_Right h.right13 ?_
  unfold F_gazetteerref13_Right
  simp [st0]
  refine inv_p (rBox h.toKyR c.win) rfl rfl ?_
  rintro _ rfl
  have bad : curOk c = false → ∀ {st : St}, GhostV [.bool false] st fun vs st => (mkres vs).pure = true ∧ mkres vs = .bool (curOk c) := fun hb st => GhostV.refl ⟨rfl, by simp [hb]⟩
  cases hbx : boxK c.win
  · simp
    exact bad (by simp [curOk, hbx])
  simp
  by_cases ho : (128 : Int) < c.opn.length
  · simp [ho]
    exact bad (by have : ¬ c.opn.length ≤ 128 := by omega
                  simp [curOk, this])
  simp [ho]
  have hle : c.opn.length ≤ 128 := by omega
  refine ⟨RgI c, ⟨c.opn.length, GhostV.refl ⟨0, by simp, by omega, by simp, rfl, by simp⟩⟩, ?_⟩
  rintro k1 v st ⟨i, rfl, hi, rfl, rfl, hany⟩
  by_cases hlt : i < c.opn.length
  · simp [hlt]
    by_cases hz : c.opn[i].id = 0
    · simp [hz]
      have : c.opn.any isNone = true := List.any_eq_true.2 ⟨c.opn[i], List.getElem_mem hlt, by simp [isNone, hz]⟩
      exact bad (by simp [curOk, this])
    · simp [hz]
      refine ⟨c.opn.length - (i + 1), by omega, GhostV.refl ⟨i + 1, rfl, by omega, by rw [wadd1 (by omega)], rfl, ?_⟩⟩
      rw [take_snoc hlt, List.any_append, hany]
      simp [isNone, hz]
  rw [List.take_of_length_le (by omega)] at hany
  simp [hlt]
  refine ⟨RgJ c, ⟨c.rows.length, GhostV.refl ⟨0, by simp, by omega, by simp, rfl, by simp [upR]⟩⟩, ?_⟩
  rintro k2 v4 st ⟨j, rfl, hj, rfl, rfl, hup⟩
  have hco : curOk c = upR 0 c.rows := by simp [curOk, hbx, hle, hany]
  by_cases hjl : j < c.rows.length
  · have hsn := upR_snoc (c.rows.take j) 0 c.rows[j]
    rw [← take_snoc hjl, hup, Bool.true_and] at hsn
    have hr0 := h0 c.rows[j] (List.getElem_mem hjl)
    have hneg : upR 0 (c.rows.take (j + 1)) = false → curOk c = false := fun hf => by
      rw [hco]
      rw [Bool.eq_false_iff]
      intro ht
      have := upR_take ht (j + 1)
      rw [hf] at this; cases this
    simp [hjl]
    by_cases hz : c.rows[j] = 0
    · simp [hz]
      refine bad (hneg ?_)
      have := upR_last _ _ hup
      rw [hsn, hz]
      simp; omega
    · by_cases hj0 : j = 0
      · subst hj0
        simp [hz, hjl]
        refine ⟨c.rows.length - 1, by omega, GhostV.refl ⟨1, rfl, by omega, by rw [wrap_i64 (by omega)]; rfl, rfl, ?_⟩⟩
        have hpos : (0 : Int) < c.rows[0] := by omega
        rw [hsn]
        exact decide_eq_true hpos
      · have hj1 : (0 : Int) < (j : Int) := by omega
        have hlast : lastR0 0 (c.rows.take j) = c.rows[j - 1] := by
          unfold lastR0
          rw [List.getLast?_eq_getElem?, List.length_take, Nat.min_eq_left hj, List.getElem?_take_of_lt (by omega), List.getElem?_eq_getElem (by omega)]
          rfl
        have hw := wsub1 (x := j) (by omega) (by omega)
        have hlt1 : j - 1 < c.rows.length := by omega
        simp [hz, hjl, hj1]
        have hj2 : 0 < j := by omega
        simp [hj2, hz, hjl, hw, hlt1]
        by_cases hle2 : c.rows[j] ≤ c.rows[j - 1]
        · simp [hle2]
          exact bad (hneg (by rw [hsn, hlast]; simpa using hle2))
        · simp [hle2]
          exact ⟨c.rows.length - (j + 1), by omega, GhostV.refl ⟨j + 1, rfl, by omega, by rw [wadd1 (by omega)], rfl, by rw [hsn, hlast]; simpa using hle2⟩⟩
  · rw [List.take_of_length_le (by omega)] at hup
    simp [hjl]
    exact GhostV.refl ⟨rfl, by rw [hco, hup]; rfl⟩
abbrev CuO2 (a b : CurT) : List (Option (Nat × Obj)) := [some (0, .mem 6 [cCur a]), some (1, .mem 6 [cCur b])]
def SmI (a b : CurT) (k : Nat) (v : V) (st : St) : Prop := ∃ i, k = a.opn.length - i ∧ i ≤ a.opn.length ∧ v = .int .i64 ((i : Nat) : Int) ∧ st = ⟨CuO2 a b, 2⟩ ∧ a.opn.take i = b.opn.take i
def SmJ (a b : CurT) (k : Nat) (v : V) (st : St) : Prop := ∃ i, k = a.rows.length - i ∧ i ≤ a.rows.length ∧ v = .int .i64 ((i : Nat) : Int) ∧ st = ⟨CuO2 a b, 2⟩ ∧ a.rows.take i = b.rows.take i
set_option maxHeartbeats 1000000 in
theorem rSame (h : RcR P) (a b : CurT) (hb1 : a.opn.length < 2 ^ 40) (hb2 : a.rows.length < 2 ^ 40) : PCalls P n_gazetteerref13_Same [.agg (cCur a), .agg (cCur b)] (fun r => r = .bool (decide (a = b))) := by
  refine A_gazetteerref13_Same h.same13 ?_
  unfold F_gazetteerref13_Same
  simp [st0]
  have hw : (!decide (a.win.x0 = b.win.x0) || (!decide (a.win.x1 = b.win.x1) || (!decide (a.win.y0 = b.win.y0) || !decide (a.win.y1 = b.win.y1)))) = !decide (a.win = b.win) := by
    rw [Bool.eq_iff_iff]
    simp only [Bool.or_eq_true, Bool.not_eq_true', decide_eq_false_iff_not]
    cases a.win; cases b.win
    simp
    omega
  rw [hw]
  have bad : a ≠ b → ∀ {st : St}, GhostV [.bool false] st fun vs st => (mkres vs).pure = true ∧ mkres vs = .bool (decide (a = b)) := fun hb st => GhostV.refl ⟨rfl, by simp [hb]⟩
  by_cases h3 : a.win = b.win
  case neg => simp [h3]; exact bad (fun e => h3 (by rw [e]))
  simp [h3]
  by_cases h4 : a.opn.length = b.opn.length
  case neg =>
    simp [h3, h4]; exact bad (fun e => h4 (by rw [e]))
  simp [h3, h4]
  by_cases h5 : a.rows.length = b.rows.length
  case neg =>
    simp [h3, h4, h5]; exact bad (fun e => h5 (by rw [e]))
  simp [h3, h4, h5]
  refine ⟨SmI a b, ⟨a.opn.length, GhostV.refl ⟨0, by simp, by omega, by simp, by simp [CuO2, h3], by simp⟩⟩, ?_⟩
  rintro k1 v st ⟨i, rfl, hi, rfl, rfl, he⟩
  by_cases hlt : i < a.opn.length
  · have hlt2 : i < b.opn.length := by omega
    have hq : (!decide (a.opn[i].id = b.opn[i].id) || !decide (a.opn[i].count = b.opn[i].count)) = !decide (a.opn[i] = b.opn[i]) := by
      rw [Bool.eq_iff_iff]
      simp only [Bool.or_eq_true, Bool.not_eq_true', decide_eq_false_iff_not]
      cases a.opn[i]; cases b.opn[i]
      simp
      omega
    simp [hlt, hlt2, hq]
    by_cases hx : a.opn[i] = b.opn[i]
    · simp [hx]
      exact ⟨a.opn.length - (i + 1), by omega, GhostV.refl ⟨i + 1, rfl, by omega, by rw [wadd1 (by omega)], rfl, by rw [take_snoc hlt, take_snoc hlt2, he, hx]⟩⟩
    · simp [hx]
      exact bad (fun e => hx (by subst e; rfl))
  have e1 : a.opn = b.opn := by
    rw [List.take_of_length_le (by omega), List.take_of_length_le (by omega)] at he
    exact he
  simp [hlt]
  refine ⟨SmJ a b, ⟨a.rows.length, GhostV.refl ⟨0, by simp, by omega, by simp, rfl, by simp⟩⟩, ?_⟩
  rintro k1 v st ⟨j, rfl, hj, rfl, rfl, hf⟩
  by_cases hjl : j < a.rows.length
  · have hjl2 : j < b.rows.length := by omega
    simp [hjl, hjl2]
    by_cases hx : a.rows[j] = b.rows[j]
    · simp [hx]
      exact ⟨a.rows.length - (j + 1), by omega, GhostV.refl ⟨j + 1, rfl, by omega, by rw [wadd1 (by omega)], rfl, by rw [take_snoc hjl, take_snoc hjl2, hf, hx]⟩⟩
    · simp [hx]
      exact bad (fun e => hx (by subst e; rfl))
  have e2 : a.rows = b.rows := by
    rw [List.take_of_length_le (by omega), List.take_of_length_le (by omega)] at hf
    exact hf
  simp [hjl]
  refine GhostV.refl ⟨rfl, ?_⟩
  have : a = b := by cases a; cases b; simp only at h3 e1 e2; rw [h3, e1, e2]
  simp [this]
end Go.Proofs.Ytmjnpfackanhlaa.AM

namespace Go.Proofs.Ytmjnpfackanhlaa.AM
open Go
set_option linter.unusedVariables false
set_option linter.unusedSimpArgs false
variable {P : Program}

set_option maxHeartbeats 1000000 in
theorem rOpens (h : RcR P) (t : TreeT) (hs : smallT t) (s : SeenT) (win : KeyT) (all : Bool) : PCalls P n_gazetteerref13_Opens [.agg (cTree t), .agg (cSeen s), .agg (cKey win), .bool all] (fun r => r = vSs (opensF t s win all)) := by
  refine A_gazetteerref13_Opens h.opens13 ?_
  unfold F_gazetteerref13_Opens
  simp [st0]
  refine inv_p (rAt h.toRdR t s.id (by have := hs.1; omega)) rfl (by simp [pureL, V.pure, pureLL]) ?_
  rintro _ rfl
  have hF : opensF t s win all = rightO s (nodeOr t s.id) ++ (if (nodeOr t s.id).leaf then [] else kidO t win all (nodeOr t s.id).es) := rfl
  obtain ⟨F, hFe⟩ : ∃ F, F = opensF t s win all := ⟨_, rfl⟩
  rw [← hFe] at hF ⊢
  have hxw : (nodeOr t s.id).es.length < 2 ^ 30 := by
    unfold nodeOr
    cases hf : findN t.nodes s.id with
    | none => decide
    | some y => exact hs.2 y (findN_some hf).1
  obtain ⟨x, hx⟩ : ∃ x, x = nodeOr t s.id := ⟨_, rfl⟩
  rw [← hx] at hF hxw
  cases hf : findN t.nodes s.id with
  | none =>
    have hi : t.nodes.findIdx? (isId s.id) = none := by
      rw [List.findIdx?_eq_none_iff]
      intro y hy
      have := List.find?_eq_none.1 hf y hy
      simpa [isId] using this
    have hxz : x = zNode := by rw [hx]; unfold nodeOr; rw [hf]; rfl
    rw [hi, show idxI none = (-1 : Int) from rfl]
    simp
    have hFn : F = [] := by rw [hF, hxz]; simp [rightO, zNode, kidO]
    refine GhostV.le (LeVs.cons (.nil 0 2) LeVs.nil) ⟨by simp [mkres, V.pure, pureLL], by simp [mkres, hFn]⟩
  | some y =>
  obtain ⟨ix, hix, hfi, hxi⟩ := findN_idx hf
  have hxy : t.nodes[ix] = x := by rw [hx]; unfold nodeOr; rw [hf]; exact hxi
  have hz0 : ¬ ((ix : Nat) : Int) < 0 := by omega
  rw [hfi, show idxI (some ix) = ((ix : Nat) : Int) from rfl]
  simp [hz0, hix, hxy]
  refine ⟨OpJ t s win x, ?_, ?_⟩
  · simp
    have hnil : rightO s x = [] → GhostV [V.sl .nil 0 [] []] ⟨OpO t s win x, 4⟩ (@app 1 (OpJ t s win x)) := fun e => GhostV.nilr 2 (by decide) ⟨0, 4, 5, [some (4, .mem 2 [])], [], by simp [OpO], rfl, by simp, e.symm, by simp [OpO]⟩
    by_cases hm : s.count < x.mark
    · simp [hm]
      by_cases hr : x.right = 0
      · simp [hm, hr]
        simpa [OpO, hr] using hnil (by simp [rightO, hr])
      · simp [hm, hr]
        exact GhostV.refl ⟨1, 5, 6, [_, _], [⟨x.right, s.count⟩], rfl, rfl, by simp, by simp [rightO, hm, hr], rfl⟩
    · simp [hm]
      exact hnil (by simp [rightO, hm])
  rintro v10 st ⟨m, ver, nv, M, out, rfl, hM, hol, hout, rfl⟩
  have hml := (List.getElem?_eq_some_iff.1 hM).1
  simp
  refine ⟨fun hlf => ?_, fun hlf => ?_⟩
  · have hFo : out = F := by rw [hF, hlf, hout]; simp
    simp
    exact GhostV.rowx (sz := 2) (es := out.map cSeen) (by simp [OpO, hM]) (by simp) (by rw [hFo]; exact ⟨by simp [mkres, V.pure, pureL, pureLL], by simp [mkres]⟩)
  simp
  have hw1 : IntKind.i64.wrap ((x.es.length : Int) - 1) = (x.es.length : Int) - 1 := wrap_i64 (by omega)
  refine ⟨OpI t s win x all F, ⟨x.es.length, GhostV.refl ⟨x.es.length, m, ver, nv, M, out, rfl, by omega, by rw [hw1], rfl, hM, by omega, by rw [hF, hout, List.take_length], rfl⟩⟩, ?_⟩
  clear hM hol hout hml M out ver nv m
  rintro n v10 v11 st ⟨_, m, ver, nv, M, out, rfl, hn, rfl, rfl, hM, hol, hout, rfl⟩
  have hml := (List.getElem?_eq_some_iff.1 hM).1
  have hfin : out = F → GhostV [V.msl (m + 4) ver 0 out.length] ⟨OpO t s win x ++ M, nv⟩ fun vs st => (mkres vs).pure = true ∧ mkres vs = vSs F := fun e =>
    GhostV.rowx (sz := 2) (es := out.map cSeen) (by simp [OpO, hM]) (by simp) (by rw [e]; exact ⟨by simp [mkres, V.pure, pureL, pureLL], by simp [mkres]⟩)
  have hMa : ∀ N, (M ++ N)[m]? = some (some (ver, .mem 2 (out.map cSeen))) := fun N => by rw [List.getElem?_append_left hml]; exact hM
  have hMs : ∀ N (z : Option (Nat × Obj)), (M ++ N).set m z = M.set m z ++ N := fun N z => List.set_append_left _ _ hml
  have hadd : ∀ (o : SeenT) (N : List (Option (Nat × Obj))), x.leaf = false → ∀ i, i + 1 = n → out ++ ([o] ++ kidO t win all (x.es.take i)) = F → (out.length + 1) * 16 ≤ 140737488355328 ∧ ∃ j, j < n ∧ GhostV [V.msl (m + 4) (nv + 1) 0 (out.length + 1), V.int IntKind.i64 (IntKind.i64.wrap (↑i - 1))] ⟨OpO t s win x ++ (M.set m (some (nv + 1, .mem 2 (out.map cSeen ++ [cSeen o]))) ++ N), nv + 1 + 1⟩ (@app 2 (OpI t s win x all F j)) := fun o N hl i hin he => ⟨by omega, i, by omega, GhostV.refl ⟨i, m, nv + 1, nv + 1 + 1, _, out ++ [o], rfl, by omega, by rw [wrap_i64 (by omega)], by simp, by rw [List.getElem?_append_left (by simpa using hml), List.getElem?_set_self hml]; simp, by simp; omega, by rw [hl]; simpa using he, rfl⟩⟩
  cases n with
  | zero =>
    have hne : ¬ (0 : Int) ≤ -1 := by decide
    have e0 : (((0 : Nat) : Int) - 1) = -1 := rfl
    simp only [e0]
    simp [hne]
    exact hfin (by simpa [kidO] using hout)
  | succ i =>
    have hi : i < x.es.length := by omega
    have hi0 : (0 : Int) ≤ (i : Int) := by omega
    have hstep : IntKind.i64.wrap ((i : Int) - 1) = (i : Int) - 1 := wrap_i64 (by omega)
    rw [show (((i + 1 : Nat) : Int) - 1) = (i : Int) by omega]
    simp [hi0]
    have hl := hlf
    · rw [hl, take_snoc hi, kidO_snoc] at hout
      simp only [Bool.false_eq_true, if_false] at hout
      cases all
      · simp [hi0, hi]
        refine inv_p (rMeets h.toKyR x.es[i].key win) rfl rfl ?_
        rintro _ rfl
        cases hm : meetsK x.es[i].key win
        · simp
          refine ⟨i, by omega, GhostV.refl ⟨i, m, ver, nv, M, out, rfl, by omega, by rw [hstep], rfl, hM, by omega, ?_, by simp [OpO, hl]⟩⟩
          simpa [hm, hl] using hout
        · simp [hi, hM]
          simpa [OpO, hl] using hadd ⟨x.es[i].child, t.count⟩ _ hl i rfl (by simpa [hm] using hout)
      · simp [hi0, hi, hMa]
        simp only [hMs]
        simpa [OpO, hl] using hadd ⟨x.es[i].child, t.count⟩ _ hl i rfl (by simpa using hout)
end Go.Proofs.Ytmjnpfackanhlaa.AM

namespace Go.Proofs.Ytmjnpfackanhlaa.AM
open Go
set_option linter.unusedVariables false
set_option linter.unusedSimpArgs false
variable {P : Program}

structure MoveT where
 row : Int
 key : KeyT
 out : Bool
@[simp] def cMove (m : MoveT) : List V := [.int .u32 m.row, .int .i64 m.key.x0, .int .i64 m.key.x1, .int .i64 m.key.y0, .int .i64 m.key.y1, .bool m.out]
abbrev vMs (l : List MoveT) : V := .sl .unk 6 (l.map cMove) []
structure LwR (P : Program) : Prop extends RcR P, TkR P, PuR P where
 large : R_gazetteerlaw13_large P
 copied : R_gazetteerlaw13_copied P
 four : R_gazetteerlaw13_four P
 grown : R_gazetteerlaw13_grown P
 wakes : R_gazetteerlaw13_wakes P
theorem wLarge (h : LwR P) (c : CurT) : PCalls P n_gazetteerlaw13_large [.agg (cCur c)] (fun r => r = .bool (decide (300 < c.opn.length) || decide (300 < c.rows.length))) := by
  refine A_gazetteerlaw13_large h.large ?_
  unfold F_gazetteerlaw13_large
  simp [st0]
  by_cases h1 : (300 : Int) < c.opn.length
  · have h1' : 300 < c.opn.length := by omega
    simp [h1]
    exact GhostV.refl ⟨rfl, by simp [h1']⟩
  · have h1' : ¬ 300 < c.opn.length := by omega
    simp [h1]
    refine GhostV.refl ⟨rfl, ?_⟩
    rw [Bool.eq_iff_iff.2 (show decide ((300 : Int) < c.rows.length) = true ↔ (decide (300 < c.opn.length) || decide (300 < c.rows.length)) = true by simp; omega)]
    rfl
theorem wCopied (h : LwR P) (c : CurT) (hb1 : c.opn.length < 2 ^ 32) (hb2 : c.rows.length < 2 ^ 32) : PCalls P n_gazetteerlaw13_copied [.agg (cCur c)] (fun r => r = .agg (cCur c)) := by
 refine A_gazetteerlaw13_copied h.copied ?_
 unfold F_gazetteerlaw13_copied
 simp [st0]
 exact ⟨by omega, by omega, GhostV.refl ⟨by simp [mkres, V.pure, pureL, pureLL], rfl⟩⟩
theorem GhostV.seed {z : Option (Nat × Obj)} {v1 v2 nv : Nat} {vs : List V} {K : List V → St → Prop} (hk : K vs ⟨[z, none, some (v2, .mem 3 [cTree (emptyF 0)]), none], nv + 1⟩) :
  GhostV vs ⟨[z, some (v1, .mem 5 [[.int .u32 1, .bool true, .sl .nil 0 [] [], .int .u64 0, .int .u32 0]]), some (v2, .mem 3 [[.msl 1 v1 0 1, .int .u32 1, .int .u64 0]])], nv⟩ K := by
 refine GhostV.trans (K := fun vs1 st1 => vs1 = vs ∧ st1 = ⟨[z, some (v1, .mem 5 [[.int .u32 1, .bool true, .msl 3 nv 0 0, .int .u64 0, .int .u32 0]]), some (v2, .mem 3 [[.msl 1 v1 0 1, .int .u32 1, .int .u64 0]]), some (nv, .mem 5 [])], nv + 1⟩) (GhostV.nilo (sz := 5) (j := 1) (verj := v1) (s := 5) (c := 2) (z := 0) (row := [.int .u32 1, .bool true, .sl .nil 0 [] [], .int .u64 0, .int .u32 0]) (by decide) rfl rfl ⟨rfl, rfl⟩) ?_
 rintro _ _ ⟨hv, rfl⟩
 rw [hv]
 refine GhostV.trans (K := fun vs1 st1 => vs1 = vs ∧ st1 = ⟨[z, some (v1, .mem 5 [cNode ⟨1, true, [], 0, 0⟩]), some (v2, .mem 3 [[.msl 1 v1 0 1, .int .u32 1, .int .u64 0]]), none], nv + 1⟩) (GhostV.frzo (id := 3) (ver := nv) (sz := 5) (es := []) (j := 1) (verj := v1) (o := .mem 5 [[.int .u32 1, .bool true, .msl 3 nv 0 0, .int .u64 0, .int .u32 0]]) (o' := .mem 5 [cNode ⟨1, true, [], 0, 0⟩]) rfl rfl (by decide) (OFrz.cell (r := 0) (c := 2) (w := 3) (n := 0) (row := [.int .u32 1, .bool true, .msl 3 nv 0 0, .int .u64 0, .int .u32 0]) rfl rfl rfl rfl) ⟨rfl, rfl⟩) ?_
 rintro _ _ ⟨hv, rfl⟩
 rw [hv]
 exact GhostV.frzo (id := 1) (ver := v1) (sz := 5) (es := [cNode ⟨1, true, [], 0, 0⟩]) (j := 2) (verj := v2) (o := .mem 3 [[.msl 1 v1 0 1, .int .u32 1, .int .u64 0]]) (o' := .mem 3 [cTree (emptyF 0)]) rfl rfl (by decide) (OFrz.cell (r := 0) (c := 0) (w := 1) (n := 1) (row := [.msl 1 v1 0 1, .int .u32 1, .int .u64 0]) rfl rfl rfl rfl) hk
abbrev GrL (t : TreeT) : List (Option (Nat × Obj)) := [some (0, .mem 3 [zTree]), none, some (2, .mem 3 [cTree t]), none]
def GrI (l : List MoveT) (k : Nat) (v : V) (st : St) : Prop :=
 ∃ i t nv, k = 61 - i ∧ i ≤ l.length ∧ i ≤ 60 ∧ v = .int .i64 ((i : Nat) : Int) ∧ Inv t ∧ st = ⟨GrL t, nv⟩
set_option maxHeartbeats 2000000 in
theorem wGrown (h : LwR P) (l : List MoveT) (hm : ∀ m ∈ l, 0 ≤ m.row ∧ m.row < 4294967296) : PCalls P n_gazetteerlaw13_grown [vMs l] (fun r => ∃ t, Inv t ∧ r = .agg (cTree t)) := by
  refine A_gazetteerlaw13_grown h.grown ?_
  unfold F_gazetteerlaw13_grown
  simp [st0]
  refine ⟨GrI l, ⟨61, GhostV.seed ⟨0, emptyF 0, 4, rfl, by omega, by omega, rfl, inv_empty (by omega), rfl⟩⟩, ?_⟩
  rintro k1 v st ⟨i, t, nv, rfl, hi, hi60, rfl, hI, rfl⟩
  have hsm : smallT t := ⟨by have := hI.len; omega, fun x hx => by
    have := hI.wid _ (mem_shs hx)
    simp only [NodeT.sh_ch, List.length_map] at this; omega⟩
  by_cases hlt : i < l.length
  · simp [hlt]
    by_cases h60 : (i : Int) = 60
    · simp [h60]
      exact GhostV.refl ⟨by simp [mkres, V.pure, p_tree t], t, hI, by simp [mkres]⟩
    · simp [h60]
      refine inv_p (rRow h.toRdR t l[i].row (by have := hsm.1; omega) (fun x hx => by have := hsm.2 x hx; omega)) rfl (by simp [pureL, V.pure, pureLL]) ?_
      rintro _ rfl
      have hw1 : IntKind.i64.wrap ((i : Int) + 1) = ((i + 1 : Nat) : Int) := wadd1 (by omega)
      have hgo : ∀ (t' : TreeT) (nvq : Nat) (M : List (Option (Nat × Obj))), Inv t' → ∃ j, j < 61 - i ∧ GhostV [V.int .i64 (IntKind.i64.wrap ((i : Int) + 1))] ⟨GrL t' ++ M, nvq⟩ (@app 1 (GrI l j)) := fun t' nvq M hI' => ⟨61 - (i + 1), by omega, GhostV.keep ⟨i + 1, t', nvq, rfl, by omega, by omega, by rw [hw1], hI', rfl⟩⟩
      obtain ⟨hm1, hm2⟩ := hm l[i] (List.getElem_mem hlt)
      cases hf : t.nodes.findIdx? (isRow l[i].row) with
      | none =>
        rw [show rowP t.nodes l[i].row = .tup [.int .i64 (-1), .int .i64 (-1)] from by unfold rowP; rw [hf]]
        have hneg : ¬ (0 : Int) ≤ -1 := by decide
        have hno : ¬ l[i].row ∈ rowsS (shs t.nodes) := fun hmem => by
          rw [List.findIdx?_eq_none_iff] at hf
          obtain ⟨y, hy, hyr⟩ := List.mem_flatMap.1 hmem
          obtain ⟨x, hx, rfl⟩ := List.mem_map.1 hy
          have := hf x hx
          simp only [isRow, decide_eq_false_iff_not] at this
          exact this hyr
        cases ho : l[i].out
        · simp
          by_cases hr0 : 0 < l[i].row
          · simp [hr0]
            refine inv_p (rBox h.toKyR l[i].key) rfl rfl ?_
            rintro _ rfl
            cases hb : boxK l[i].key
            · simp [hr0]
              simpa [GrL, ho] using hgo t (nv + 1) [some (nv, .mem 6 [cMove l[i]])] hI
            · simp [hr0]
              refine inv_p (rPut h.toPuR t hI l[i].row l[i].key hb ⟨hr0, hm2⟩ hno) rfl (by simp [pureL, V.pure, pureLL]) ?_
              rintro _ (⟨t', l', hI', _, rfl⟩ | ⟨_, rfl⟩)
              · simp
                simpa [GrL, ho] using hgo t' (nv + 1 + 1) [some (nv, .mem 6 [cMove l[i]]), some (nv + 1, .mem 3 [cTree t'])] hI'
              · simp
                simpa [GrL, ho] using hgo t (nv + 1 + 1) [some (nv, .mem 6 [cMove l[i]]), some (nv + 1, .mem 3 [zTree])] hI
          · simp [hr0]
            simpa [GrL, ho] using hgo t (nv + 1) [some (nv, .mem 6 [cMove l[i]])] hI
        · simp [hneg]
          simpa [GrL, ho] using hgo t (nv + 1) [some (nv, .mem 6 [cMove l[i]])] hI
      | some ir =>
        obtain ⟨hir, h2, h3⟩ := find_of_idx hf
        have hleaf : t.nodes[ir].leaf = true := by
          cases hl' : t.nodes[ir].leaf with
          | true => rfl
          | false => rw [isRow_in hl'] at h3; cases h3
        obtain ⟨q, hq⟩ : ∃ q, t.nodes[ir].es.findIdx? (hasC l[i].row) = some q := by
          rw [isRow_leaf hleaf] at h3
          cases hq : t.nodes[ir].es.findIdx? (hasC l[i].row) with
          | some q => exact ⟨q, rfl⟩
          | none =>
            rw [List.findIdx?_eq_none_iff] at hq
            obtain ⟨e, he, hec⟩ := List.any_eq_true.1 h3
            rw [hq e he] at hec; cases hec
        have hq0 : (0 : Int) ≤ ((q : Nat) : Int) := by omega
        have hqn : ¬ ((q : Nat) : Int) < 0 := by omega
        rw [show rowP t.nodes l[i].row = .tup [.int .i64 (ir : Int), .int .i64 (q : Int)] from by unfold rowP; rw [hf]; simp [hir, hq]; rfl]
        cases ho : l[i].out
        · simp [hqn]
          simpa [GrL, ho] using hgo t (nv + 1) [some (nv, .mem 6 [cMove l[i]])] hI
        · simp [hq0]
          refine inv_p (rTake h.toTkR t hI l[i].row hir hf) rfl (by simp [pureL, V.pure, pureLL]) ?_
          rintro _ ⟨g, rfl⟩
          simp
          simpa [GrL, ho] using hgo (takeF t t.nodes[ir] l[i].row) (nv + 1) [some (nv, .mem 6 [cMove l[i]])] (take_ok hI (List.getElem_mem hir) hleaf _)
  · simp [hlt]
    exact GhostV.refl ⟨by simp [mkres, V.pure, p_tree t], t, hI, by simp [mkres]⟩
end Go.Proofs.Ytmjnpfackanhlaa.AM

namespace Go.Proofs.Ytmjnpfackanhlaa.AM
open Go
set_option linter.unusedVariables false
set_option linter.unusedSimpArgs false
variable {P : Program}

theorem findN_updS {x y : NodeT} : ∀ {ns : List NodeT}, findN ns x.id = some y → findN (updN ns x) x.id = some x
  | [], h => by cases h
  | z :: ns, h => by
    by_cases e : z.id = x.id
    · simp [updN, findN, e]
    · have h' : findN ns x.id = some y := by simpa [findN, e] using h
      have := findN_updS h'
      simpa [updN, findN, e] using this
theorem keyS_leaf {ns : List NodeT} {id i : Int} {x : NodeT} (h : findN ns id = some x) (hl : x.leaf = true) : findN (keyS ns i) id = some x := by
 unfold keyS
 cases hy : findN ns i with
 | none => exact h
 | some y =>
  have hyid := (findN_some hy).2
  have hxid := (findN_some h).2
  by_cases e : i = id
  ·subst e
   rw [h] at hy
   cases hy
   have : keyN ns x = x := by simp [keyN, hl]
   simp only [this]
   rw [← hxid] at h ⊢
   exact findN_updS h
  ·simp only
   rw [findN_updN (by rw [keyN_id, hyid]; exact fun q => e q.symm)]
   exact h
theorem passN_leaf {ns : List NodeT} {id : Int} {x : NodeT} (h : findN ns id = some x) (hl : x.leaf = true) : findN (passN ns) id = some x := by
 unfold passN
 have : ∀ (l : List Int) (ns : List NodeT), findN ns id = some x → findN (l.foldl keyS ns) id = some x := fun l => by
  induction l with
  | nil => exact fun ns h => h
  | cons i l ih => exact fun ns h => ih _ (keyS_leaf h hl)
 exact this _ _ h
theorem passes_leaf : ∀ (n : Nat) {ns : List NodeT} {id : Int} {x : NodeT}, findN ns id = some x → x.leaf = true → findN (passes n ns) id = some x
 | 0, _, _, _, h, _ => h
 | n + 1, _, _, _, h, hl => passes_leaf n (passN_leaf h hl) hl
theorem keyed_leaf {t : TreeT} {id : Int} {x : NodeT} (h : findN t.nodes id = some x) (hl : x.leaf = true) : findN (keyedF t).nodes id = some x := by
 rw [keyedF_nodes]; exact passes_leaf 14 h hl
def esW (n : Nat) : List LinkT := (List.range n).map (fun j : Nat => (⟨⟨(j : Int), (j : Int), 0, 0⟩, (j : Int) + 1⟩ : LinkT))
def leafT (es : List LinkT) : TreeT := ⟨[⟨1, true, es, 0, 0⟩], 1, 0⟩
theorem keyed_leafT (es : List LinkT) : keyedF (leafT es) = leafT es := by
 have h1 := keyedF_ids (leafT es)
 have h2 : findN (keyedF (leafT es)).nodes 1 = some ⟨1, true, es, 0, 0⟩ := keyed_leaf rfl rfl
 have h3 : (keyedF (leafT es)).nodes = [⟨1, true, es, 0, 0⟩] := by
  cases hn : (keyedF (leafT es)).nodes with
  | nil => rw [hn] at h2; cases h2
  | cons y l =>
   rw [hn] at h1 h2
   cases l with
   | cons z l => simp [idsN, leafT] at h1
   | nil =>
    have : y.id = 1 := by simpa [idsN, leafT] using h1
    simp [findN, this] at h2
    rw [h2]
 show (⟨(keyedF (leafT es)).nodes, 1, 0⟩ : TreeT) = leafT es
 rw [h3]; rfl
theorem way_leafT {es : List LinkT} {w : List Int} (H : WayOk (leafT es) w) : w = [1] := by
 obtain ⟨h1, h2, h3, h4⟩ := H
 match w, h1, h2, h3 with
 | [a], _, h2, _ =>
  have : a = 1 := h2
  rw [this]
 | a :: b :: w, _, _, h3 =>
  obtain ⟨q, hq, _, hk⟩ := h3 0 (by simp)
  simp [leafT, shs] at hq
  subst hq
  simp [SN.kids] at hk
theorem no_leafT {es : List LinkT} (H : PutNo (leafT es)) : False := by
 obtain ⟨w, hw, h⟩ := H
 obtain rfl := way_leafT hw
 simp [leafT, greatN] at h
theorem put_leafT {es : List LinkT} {row : Int} {k : KeyT} {t' : TreeT} {l' : List SplitT} (hl : es.length < 4) (H : PutRel (leafT es) row k t' l') : t' = leafT (es ++ [⟨k, row⟩]) := by
 obtain ⟨w, x, hw, hx, hp⟩ := H
 obtain rfl := way_leafT hw
 have : x = ⟨1, true, es, 0, 0⟩ := by
  have : findN (leafT es).nodes 1 = some ⟨1, true, es, 0, 0⟩ := rfl
  rw [show ([(1 : Int)].getD ([(1 : Int)].length - 1) 0) = 1 from rfl, this] at hx
  exact (Option.some.inj hx).symm
 subst this
 have e1 : ({ leafT es with nodes := updN (leafT es).nodes ⟨1, true, es ++ [⟨k, row⟩], 0, 0⟩ } : TreeT) = leafT (es ++ [⟨k, row⟩]) := by simp [leafT, updN]
 rw [e1, keyed_leafT] at hp
 have hf : findN (leafT (es ++ [⟨k, row⟩])).nodes ([(1 : Int)].getD 0 0) = some ⟨1, true, es ++ [⟨k, row⟩], 0, 0⟩ := rfl
 cases hp with
 | skip x hx h k => cases k; rfl
 | split x left hx h hl' h1 h0 k =>
  rw [hf] at hx
  cases hx
  simp at h; omega
def k9 : KeyT := ⟨9, 9, 9, 9⟩
def es5 : List LinkT := esW 4 ++ [⟨k9, 5⟩]
theorem put_five {t' : TreeT} {l' : List SplitT} (H : PutRel (leafT (esW 4)) 5 k9 t' l') :
  ∃ left : List Bool, left.length = 5 ∧ t'.count = 1 ∧ findN t'.nodes 1 = some ⟨1, true, stayF es5 left, 1, 2⟩ ∧ findN t'.nodes 2 = some ⟨2, true, restF es5 left, 1, 0⟩ := by
 obtain ⟨w, x, hw, hx, hp⟩ := H
 obtain rfl := way_leafT hw
 have : x = ⟨1, true, esW 4, 0, 0⟩ := by
  have : findN (leafT (esW 4)).nodes 1 = some ⟨1, true, esW 4, 0, 0⟩ := rfl
  rw [show ([(1 : Int)].getD ([(1 : Int)].length - 1) 0) = 1 from rfl, this] at hx
  exact (Option.some.inj hx).symm
 subst this
 have e1 : ({ leafT (esW 4) with nodes := updN (leafT (esW 4)).nodes ⟨1, true, esW 4 ++ [⟨k9, 5⟩], 0, 0⟩ } : TreeT) = leafT es5 := by simp [leafT, updN, es5]
 rw [e1, keyed_leafT] at hp
 have hf : findN (leafT es5).nodes ([(1 : Int)].getD 0 0) = some ⟨1, true, es5, 0, 0⟩ := rfl
 cases hp with
 | skip x hx h k =>
  rw [hf] at hx
  cases hx
  exact absurd h (by decide)
 | split x left hx h hl' h1 h0 k =>
  rw [hf] at hx
  cases hx
  cases k
  have hab : aboveN (updN (leafT es5).nodes (stayN (leafT es5) ⟨1, true, es5, 0, 0⟩ left) ++ [goesN (leafT es5) ⟨1, true, es5, 0, 0⟩ left]) 1 = none := by
   simp [leafT, updN, stayN, goesN, aboveN, SN.kids]
  have hsp : (splitF (leafT es5) ⟨1, true, es5, 0, 0⟩ left).1 = ⟨[⟨1, true, stayF es5 left, 1, 2⟩, ⟨2, true, restF es5 left, 1, 0⟩, ⟨3, false, [⟨boundK (stayF es5 left), 1⟩, ⟨boundK (restF es5 left), 2⟩], 1, 0⟩], 3, 1⟩ := by
   unfold splitF
   simp only [hab]
   simp [leafT, updN, stayN, goesN, greatN]
  rw [hsp]
  exact ⟨left, hl', rfl, keyed_leaf rfl rfl, keyed_leaf rfl rfl⟩
def winW : KeyT := ⟨0, 9, 0, 9⟩
theorem bools5 {left : List Bool} (h : left.length = 5) : ∃ a b c d e, left = [a, b, c, d, e] := by
 match left, h with
 | [a, b, c, d, e], _ => exact ⟨a, b, c, d, e, rfl⟩
theorem rows_five : ∀ a b c d e : Bool, upR 0 (rowsF winW [] (stayF es5 [a, b, c, d, e])) = true ∧ (rowsF winW (rowsF winW [] (stayF es5 [a, b, c, d, e])) (restF es5 [a, b, c, d, e])).length = 5 ∧ (rowsF winW [] (stayF es5 [a, b, c, d, e])).length < 6 := by decide
theorem wake_steps {t' : TreeT} {l' : List SplitT} (H : PutRel (leafT (esW 4)) 5 k9 t' l') (hpl : plantF t' = true) :
  ∃ c1 c2, stepR t' ⟨winW, [⟨1, 0⟩], []⟩ = (c1, 1, 0) ∧ stepR t' c1 = (c2, 2, 0) ∧ c2.opn = [] ∧ c2.rows.length = 5 ∧ c1.opn.length < 5 ∧ c1.rows.length < 6 := by
 obtain ⟨left, hll, hc, h1, h2⟩ := put_five H
 obtain ⟨a, b, c, d, e, rfl⟩ := bools5 hll
 obtain ⟨hr1, hr2, hr3⟩ := rows_five a b c d e
 have n1 : nodeOr t' 1 = ⟨1, true, stayF es5 [a, b, c, d, e], 1, 2⟩ := by simp [nodeOr, h1]
 have n2 : nodeOr t' 2 = ⟨2, true, restF es5 [a, b, c, d, e], 1, 0⟩ := by simp [nodeOr, h2]
 have s1 : stepF t' ⟨winW, [⟨1, 0⟩], []⟩ = ⟨winW, [⟨2, 0⟩], rowsF winW [] (stayF es5 [a, b, c, d, e])⟩ := by
  simp [stepF, lastS, opensF, n1]
 have s2 : stepF t' ⟨winW, [⟨2, 0⟩], rowsF winW [] (stayF es5 [a, b, c, d, e])⟩ = ⟨winW, [], rowsF winW (rowsF winW [] (stayF es5 [a, b, c, d, e])) (restF es5 [a, b, c, d, e])⟩ := by
  simp [stepF, lastS, opensF, n2]
 have hk1 : curOk ⟨winW, [⟨1, 0⟩], []⟩ = true := by decide
 have hk2 : curOk ⟨winW, [⟨2, 0⟩], rowsF winW [] (stayF es5 [a, b, c, d, e])⟩ = true := by
  simp only [curOk, hr1, Bool.and_true]
  rfl
 refine ⟨⟨winW, [⟨2, 0⟩], rowsF winW [] (stayF es5 [a, b, c, d, e])⟩, ⟨winW, [], rowsF winW (rowsF winW [] (stayF es5 [a, b, c, d, e])) (restF es5 [a, b, c, d, e])⟩, ?_, ?_, rfl, hr2, by simp, hr3⟩
 ·simp [stepR, hpl, hk1, s1, lastS]
 ·simp [stepR, hpl, hk2, s2, lastS]
def FoI (k : Nat) (v : V) (st : St) : Prop :=
 ∃ i nv, k = 4 - i ∧ i ≤ 4 ∧ v = .int .i64 ((i : Nat) : Int) ∧ Inv (leafT (esW i)) ∧ st = ⟨GrL (leafT (esW i)), nv⟩
theorem esW_rows (i : Nat) : rowsS (shs (leafT (esW i)).nodes) = (List.range i).map (fun j : Nat => (j : Int) + 1) := by
 simp [rowsS, shs, leafT, SN.rows, esW, NodeT.sh, Function.comp_def]
theorem esW_next (i : Nat) : ¬ ((i : Int) + 1) ∈ rowsS (shs (leafT (esW i)).nodes) := by
 rw [esW_rows]
 simp
theorem esW_succ (i : Nat) : esW (i + 1) = esW i ++ [⟨⟨i, i, 0, 0⟩, (i : Int) + 1⟩] := by
 simp [esW, List.range_succ]
theorem wFour (h : LwR P) : PCalls P n_gazetteerlaw13_four [] (fun r => Inv (leafT (esW 4)) ∧ r = .agg (cTree (leafT (esW 4)))) := by
  refine A_gazetteerlaw13_four h.four ?_
  unfold F_gazetteerlaw13_four
  simp [st0]
  refine ⟨FoI, ⟨4, GhostV.seed ⟨0, 4, rfl, by omega, rfl, inv_empty (by omega), rfl⟩⟩, ?_⟩
  rintro k1 v st ⟨i, nv, rfl, hi, rfl, hI, rfl⟩
  by_cases hlt : i < 4
  · have hlt' : (i : Int) < 4 := by omega
    have hw1 : IntKind.i64.wrap ((i : Int) + 1) = (i : Int) + 1 := wrap_i64 (by omega)
    have hw2 : IntKind.u32.wrap ((i : Int) + 1) = (i : Int) + 1 := Go.IntWalk.u32_in _ (by omega)
    simp [hlt', hw1, hw2]
    refine inv_p (rPut h.toPuR (leafT (esW i)) hI ((i : Int) + 1) ⟨i, i, 0, 0⟩ (by simp [boxK]) ⟨by omega, by omega⟩ (esW_next i)) rfl (by simp [pureL, V.pure, pureLL]) ?_
    rintro _ (⟨t', l', hI', hpr, rfl⟩ | ⟨hno, rfl⟩)
    · obtain rfl := put_leafT (by simp [esW]; omega) hpr
      rw [← esW_succ] at hI' ⊢
      simp
      exact ⟨4 - (i + 1), by omega, GhostV.refl ⟨i + 1, nv, rfl, by omega, by rw [hw1]; rfl, hI', rfl⟩⟩
    · exact (no_leafT hno).elim
  · obtain rfl : i = 4 := by omega
    simp
    exact GhostV.refl ⟨by simp [mkres, V.pure, p_tree], hI, by simp [mkres]⟩
def WakI (t' : TreeT) (c0 c1 c2 : CurT) (k : Nat) (v : V) (st : St) : Prop :=
 ∃ i c nv, k = 2 - i ∧ v = .int .i64 ((i : Nat) : Int) ∧ ((i = 0 ∧ c = c0) ∨ (i = 1 ∧ c = c1) ∨ (i = 2 ∧ c = c2)) ∧ st = ⟨[some (0, .mem 3 [cTree t']), some (1, .mem 6 [cCur c])], nv⟩
set_option maxHeartbeats 1000000 in
theorem wWakes (h : LwR P) : PCalls P n_gazetteerlaw13_wakes [] (fun r => r = .bool true) := by
  refine A_gazetteerlaw13_wakes h.wakes ?_
  unfold F_gazetteerlaw13_wakes
  simp [st0]
  refine inv_p (wFour h) rfl rfl ?_
  rintro _ ⟨hI4, rfl⟩
  have hsm : ∀ {t : TreeT}, Inv t → smallT t := fun hI => ⟨by have := hI.len; omega, fun x hx => by
    have := hI.wid _ (mem_shs hx)
    simp only [NodeT.sh_ch, List.length_map] at this; omega⟩
  simp
  refine inv_p (cStart h.toStpR (leafT (esW 4)) (hsm hI4) winW) rfl (by simp [pureL, V.pure, pureLL]) ?_
  rintro _ rfl
  rw [if_pos hI4.plant, if_pos (show boxK winW = true from rfl)]
  simp
  refine inv_p (rPut h.toPuR (leafT (esW 4)) hI4 5 k9 rfl (by omega) (by rw [esW_rows]; decide)) rfl (by simp [pureL, V.pure, pureLL]) ?_
  rintro _ (⟨t', l', hI', hpr, rfl⟩ | ⟨hno, rfl⟩)
  rotate_left
  · exact (no_leafT hno).elim
  obtain ⟨c1, c2, e1, e2, e3, e4, e5, e6⟩ := wake_steps hpr hI'.plant
  simp
  refine ⟨WakI t' ⟨winW, [⟨1, 0⟩], []⟩ c1 c2, ⟨2, GhostV.refl ⟨0, ⟨winW, [⟨1, 0⟩], []⟩, 2, rfl, rfl, .inl ⟨rfl, rfl⟩, rfl⟩⟩, ?_⟩
  have hstep : ∀ c d s (nv : Nat), stepR t' c = (d, s, 0) → c.opn.length < 100 → c.rows.length < 100 → PCalls P n_cursor_Step [.agg (cTree t'), .agg (cCur c)] (fun r => r = .tup [.agg (cCur d), .int .u32 s, .int .i64 0]) := fun c d s nv he h1 h2 => by
    have := cStep h.toStpR t' (hsm hI') c (by omega) (by omega)
    rw [he] at this
    exact this
  rintro k1 v st ⟨i, c, nv, rfl, rfl, hc, rfl⟩
  rcases hc with ⟨rfl, rfl⟩ | ⟨rfl, rfl⟩ | ⟨rfl, rfl⟩
  · simp
    refine inv_p (hstep _ _ _ 0 e1 (by simp) (by simp)) rfl (by simp [pureL, V.pure, pureLL]) ?_
    rintro _ rfl
    simp
    exact ⟨1, by omega, GhostV.keep (L := [_, _]) ⟨1, c1, nv + 1, rfl, by rw [wrap_i64 (by omega)]; rfl, .inr (.inl ⟨rfl, rfl⟩), rfl⟩⟩
  · simp
    refine inv_p (hstep _ _ _ 0 e2 (by omega) (by omega)) rfl (by simp [pureL, V.pure, pureLL]) ?_
    rintro _ rfl
    simp
    exact GhostV.keep (L := [_, _]) ⟨2, c2, nv + 1, rfl, by rw [wrap_i64 (by omega)]; rfl, .inr (.inr ⟨rfl, rfl⟩), rfl⟩
  · simp
    refine inv_p (cOver h.toCuR c) rfl (by simp [pureL, V.pure, pureLL]) ?_
    rintro _ rfl
    simp [e3, e4]
    exact GhostV.refl ⟨rfl, rfl⟩
end Go.Proofs.Ytmjnpfackanhlaa.AM

namespace Go.Proofs.Ytmjnpfackanhlaa.AM
open Go
set_option linter.unusedVariables false
set_option linter.unusedSimpArgs false
variable {P : Program}

theorem Inv.small {t : TreeT} (hI : Inv t) : smallT t := ⟨by have := hI.len; omega, fun x hx => by
  have := hI.wid _ (mem_shs hx)
  simp only [NodeT.sh_ch, List.length_map] at this; omega⟩
theorem inv_le {k : FuncId} {args args' : List V} {R : V → Prop} (h : PCalls P k args' R) (hl : LeVs args args') (hp : pureL args' = true) {st : St} {K : V → St → Prop} (hk : ∀ r, R r → K r st) : @inv P (.fn (.func k) [] []) args st ⟨K⟩ :=
 inv_f0 (ACalls.gv h.1 (GhostV.le hl (h.at hp hk)))
theorem le_cur0 : LeV (.agg [.int .i64 0, .int .i64 0, .int .i64 0, .int .i64 0, .sl .nil 0 [] [], .sl .nil 0 [] []]) (.agg (cCur noCur)) :=
 LeV.aggs (LeVs.cons (.refl _) (LeVs.cons (.refl _) (LeVs.cons (.refl _) (LeVs.cons (.refl _) (LeVs.cons (.nil 0 2) (LeVs.cons (.nil 0 1) LeVs.nil))))))
theorem p_cur2 (a b : CurT) : pureL [.agg (cCur a), .agg (cCur b)] = true := by simp [pureL, V.pure, p_cur a, p_cur b]
theorem p_moves (l : List MoveT) : pureLL (l.map cMove) = true := pureLL_map (fun _ => rfl) l
end Go.Proofs.Ytmjnpfackanhlaa.AM

namespace Go.Proofs.Ytmjnpfackanhlaa.AM
open Go
set_option linter.unusedVariables false
set_option linter.unusedSimpArgs false

section
variable (t : TreeT) (win : KeyT) (gone : List Int)
def stillF : Nat → SeenT → List SeenT
 | 0, s => if s.id ∈ gone then [] else [s]
 | n + 1, s => if s.id ∈ gone then (opensF t s win true).flatMap (stillF n) else [s]
def sizeF : Nat → SeenT → Nat
 | 0, _ => 1
 | n + 1, s => if s.id ∈ gone then 1 + ((opensF t s win true).map (sizeF n)).sum else 1
end
section
variable {t : TreeT} {win : KeyT} {gone : List Int}
theorem still_size : ∀ (n : Nat) (s : SeenT), (stillF t win gone n s).length ≤ sizeF t win gone n s
 | 0, s => by unfold stillF sizeF; split <;> simp
 | n + 1, s => by
  unfold stillF sizeF
  split
  ·rw [List.length_flatMap]
   have : ∀ l : List SeenT, (l.map (fun a => (stillF t win gone n a).length)).sum ≤ (l.map (sizeF t win gone n)).sum := fun l => by
    induction l with
    | nil => simp
    | cons a l ih => simp only [List.map_cons, List.sum_cons]; have := still_size n a; omega
   have := this (opensF t s win true)
   omega
  ·simp
theorem opens_mem {s s' : SeenT} {all : Bool} (h : s' ∈ opensF t s win all) :
  ∃ x ∈ t.nodes, x.id = s.id ∧ ((s.count < x.mark ∧ x.right ≠ 0 ∧ s' = ⟨x.right, s.count⟩) ∨ (x.leaf = false ∧ ∃ e ∈ x.es, s' = ⟨e.child, t.count⟩)) := by
 unfold opensF at h
 cases hf : findN t.nodes s.id with
 | none =>
  have hx : nodeOr t s.id = zNode := by unfold nodeOr; rw [hf]; rfl
  rw [hx] at h
  simp [zNode] at h
 | some x =>
  have hx : nodeOr t s.id = x := by unfold nodeOr; rw [hf]; rfl
  rw [hx] at h
  obtain ⟨h1, h2⟩ := findN_some hf
  refine ⟨x, h1, h2, ?_⟩
  rcases List.mem_append.1 h with h | h
  ·by_cases e : s.count < x.mark ∧ x.right ≠ 0
   ·rw [if_pos e] at h
    exact .inl ⟨e.1, e.2, by simpa using h⟩
   ·rw [if_neg e] at h; cases h
  ·by_cases e : x.leaf = true
   ·rw [if_pos e] at h; cases h
   ·rw [if_neg e] at h
    obtain ⟨y, hy, rfl⟩ := List.mem_map.1 h
    have := (List.mem_filter.1 hy).1
    exact .inr ⟨by simpa using e, y, by simpa using this, rfl⟩
def rankF (t : TreeT) (rk : Int → Nat) (id : Int) : Nat := (t.nodes.filter (fun y => decide (rk y.id < rk id))).length
theorem rankF_le (t : TreeT) (rk : Int → Nat) (id : Int) : rankF t rk id ≤ t.nodes.length := List.length_filter_le _ _
theorem rankF_lt {t : TreeT} {rk : Int → Nat} {a b : Int} (ha : a ∈ idsN t.nodes) (h : rk a < rk b) : rankF t rk a < rankF t rk b := by
  obtain ⟨x, hx, rfl⟩ := List.mem_map.1 ha
  unfold rankF
  have : ∀ l : List NodeT, (l.filter (fun y => decide (rk y.id < rk x.id))).length ≤ (l.filter (fun y => decide (rk y.id < rk b))).length ∧ (x ∈ l → (l.filter (fun y => decide (rk y.id < rk x.id))).length < (l.filter (fun y => decide (rk y.id < rk b))).length) := fun l => by
    induction l with
    | nil => simp
    | cons y l ih =>
      obtain ⟨ih1, ih2⟩ := ih
      simp only [List.filter_cons]
      by_cases e1 : rk y.id < rk x.id
      · have e2 : rk y.id < rk b := by omega
        simp only [e1, e2, decide_true, if_true, List.length_cons]
        refine ⟨by omega, fun hm => ?_⟩
        rcases List.mem_cons.1 hm with rfl | hm
        · omega
        · have := ih2 hm; omega
      · simp only [e1, decide_false, Bool.false_eq_true, if_false]
        by_cases e2 : rk y.id < rk b
        · simp only [e2, decide_true, if_true, List.length_cons]
          exact ⟨by omega, fun _ => by omega⟩
        · simp only [e2, decide_false, Bool.false_eq_true, if_false]
          refine ⟨ih1, fun hm => ?_⟩
          rcases List.mem_cons.1 hm with rfl | hm
          · exact absurd h e2
          · exact ih2 hm
  exact (this t.nodes).2 hx
end
structure Gne (t : TreeT) (h rk : Int → Nat) : Prop where
 top : ∀ x ∈ t.nodes, h x.id ≤ 11
 wid : ∀ x ∈ t.nodes, x.es.length ≤ 4
 mark : ∀ x ∈ t.nodes, x.mark ≤ t.count
 kid : ∀ x ∈ t.nodes, x.leaf = false → ∀ e ∈ x.es, e.child ∈ idsN t.nodes ∧ h x.id = h e.child + 1
 rgt : ∀ x ∈ t.nodes, x.right ≠ 0 → x.right ∈ idsN t.nodes ∧ h x.right = h x.id ∧ rk x.right < rk x.id
 len : t.nodes.length ≤ 512
 nd : (idsN t.nodes).Nodup
theorem Inv.gne {t : TreeT} (H : Inv t) : ∃ h rk, Gne t h rk := by
  obtain ⟨h, rk, hS, htop⟩ := H.shp
  refine ⟨h, rk, ⟨fun x hx => ?_, fun x hx => ?_, fun x hx => ?_, fun x hx hl e he => ?_, fun x hx hr => ?_, H.len, H.nodup⟩⟩
  · have := hS.top_le _ (mem_shs hx)
    rw [NodeT.sh_id] at this; omega
  · have := H.wid _ (mem_shs hx)
    simpa using this
  · have := (H.mark _ (mem_shs hx)).2
    simpa [NodeT.sh] using this
  · have hk : e.child ∈ x.sh.kids := by simp [SN.kids, hl]; exact ⟨e, he, rfl⟩
    have h1 := hS.inn _ (mem_shs hx) _ hk
    rw [NodeT.sh_id] at h1
    refine ⟨?_, h1⟩
    have h2 := hS.kid e.child
    have h3 : 0 < (kidsS (shs t.nodes)).count e.child := List.count_pos_iff.2 (List.mem_flatMap.2 ⟨_, mem_shs hx, hk⟩)
    have h4 : 0 < (idsS (shs t.nodes)).count e.child := by omega
    simpa using List.count_pos_iff.1 h4
  · have := hS.rgt _ (mem_shs hx) (by simpa [NodeT.sh] using hr)
    simpa [NodeT.sh] using this
section
variable {t : TreeT} {win : KeyT} {gone : List Int} {h rk : Int → Nat}
def depthF (t : TreeT) (h rk : Int → Nat) (s : SeenT) : Nat := if s.id ∈ idsN t.nodes then h s.id + 1 + (if s.count < t.count then rankF t rk s.id + 1 else 0) else 1
theorem depth_pos (s : SeenT) : 1 ≤ depthF t h rk s := by unfold depthF; split <;> omega
theorem Gne.top' (G : Gne t h rk) {id : Int} (hi : id ∈ idsN t.nodes) : h id ≤ 11 := by
 obtain ⟨x, hx, rfl⟩ := List.mem_map.1 hi
 exact G.top x hx
theorem Gne.depth_le (G : Gne t h rk) (s : SeenT) : depthF t h rk s ≤ 600 := by
 unfold depthF
 split
 ·rename_i hi
  have h1 := G.top' hi
  have h2 := rankF_le t rk s.id
  have h3 := G.len
  split <;> omega
 ·omega
theorem Gne.depth_lt (G : Gne t h rk) {s s' : SeenT} {all : Bool} (hm : s' ∈ opensF t s win all) : depthF t h rk s' < depthF t h rk s := by
 obtain ⟨x, hx, hid, hc⟩ := opens_mem hm
 have hin : s.id ∈ idsN t.nodes := by rw [← hid]; exact List.mem_map.2 ⟨x, hx, rfl⟩
 rcases hc with ⟨hc1, hc2, rfl⟩ | ⟨hl, e, he, rfl⟩
 ·obtain ⟨r1, r2, r3⟩ := G.rgt x hx hc2
  have hm := G.mark x hx
  have hlt := rankF_lt r1 r3
  have hcc : s.count < t.count := by omega
  unfold depthF
  rw [if_pos r1, if_pos hin, if_pos hcc, if_pos hcc]
  dsimp only
  rw [r2, hid]
  rw [hid] at hlt
  omega
 ·obtain ⟨k1, k2⟩ := G.kid x hx hl e he
  unfold depthF
  rw [if_pos k1, if_pos hin, if_neg (by simp)]
  dsimp only
  rw [hid] at k2
  omega
theorem flatMap_congr' {α β : Type} {f g : α → List β} : ∀ {l : List α}, (∀ a ∈ l, f a = g a) → l.flatMap f = l.flatMap g
 | [], _ => rfl
 | a :: l, hh => by rw [List.flatMap_cons, List.flatMap_cons, hh a (by simp), flatMap_congr' (fun b hb => hh b (by simp [hb]))]
theorem Gne.still_stab (G : Gne t h rk) : ∀ (n m : Nat) (s : SeenT), depthF t h rk s ≤ n → depthF t h rk s ≤ m → stillF t win gone n s = stillF t win gone m s
 | 0, _, s, h1, _ => by have := depth_pos (t := t) (h := h) (rk := rk) s; omega
 | _ + 1, 0, s, _, h2 => by have := depth_pos (t := t) (h := h) (rk := rk) s; omega
 | n + 1, m + 1, s, h1, h2 => by
  unfold stillF
  split
  ·exact flatMap_congr' (fun a ha => G.still_stab n m a (by have := G.depth_lt ha; omega) (by have := G.depth_lt ha; omega))
  ·rfl
theorem Gne.size_stab (G : Gne t h rk) : ∀ (n m : Nat) (s : SeenT), depthF t h rk s ≤ n → depthF t h rk s ≤ m → sizeF t win gone n s = sizeF t win gone m s
 | 0, _, s, h1, _ => by have := depth_pos (t := t) (h := h) (rk := rk) s; omega
 | _ + 1, 0, s, _, h2 => by have := depth_pos (t := t) (h := h) (rk := rk) s; omega
 | n + 1, m + 1, s, h1, h2 => by
  unfold sizeF
  split
  ·rw [List.map_congr_left (fun a ha => G.size_stab n m a (by have := G.depth_lt ha; omega) (by have := G.depth_lt ha; omega))]
  ·rfl
theorem Gne.still_step (G : Gne t h rk) {s : SeenT} (hg : s.id ∈ gone) : stillF t win gone 1000 s = (opensF t s win true).flatMap (stillF t win gone 1000) := by
 have : stillF t win gone 1000 s = (opensF t s win true).flatMap (stillF t win gone 999) := by
  show stillF t win gone (999 + 1) s = _
  rw [stillF, if_pos hg]
 rw [this]
 exact flatMap_congr' (fun a _ => G.still_stab _ _ _ (by have := G.depth_le a; omega) (by have := G.depth_le a; omega))
theorem Gne.size_step (G : Gne t h rk) {s : SeenT} (hg : s.id ∈ gone) : sizeF t win gone 1000 s = 1 + ((opensF t s win true).map (sizeF t win gone 1000)).sum := by
 have : sizeF t win gone 1000 s = 1 + ((opensF t s win true).map (sizeF t win gone 999)).sum := by
  show sizeF t win gone (999 + 1) s = _
  rw [sizeF, if_pos hg]
 rw [this]
 rw [List.map_congr_left (fun a _ => G.size_stab 999 1000 a (by have := G.depth_le a; omega) (by have := G.depth_le a; omega))]
theorem size_pos : ∀ (n : Nat) (s : SeenT), 1 ≤ sizeF t win gone n s
 | 0, s => by simp [sizeF]
 | n + 1, s => by unfold sizeF; split <;> omega
theorem still_not {n : Nat} {s : SeenT} (hg : ¬ s.id ∈ gone) : stillF t win gone n s = [s] := by
 cases n <;> (unfold stillF; rw [if_neg hg])
theorem size_not {n : Nat} {s : SeenT} (hg : ¬ s.id ∈ gone) : sizeF t win gone n s = 1 := by
 cases n
 ·rfl
 ·unfold sizeF; rw [if_neg hg]
theorem sum_le {α : Type} {f : α → Nat} {K : Nat} : ∀ {l : List α}, (∀ a ∈ l, f a ≤ K) → (l.map f).sum ≤ l.length * K
 | [], _ => by simp
 | a :: l, hh => by
  have h1 := hh a (by simp)
  have h2 := sum_le (l := l) (fun b hb => hh b (by simp [hb]))
  simp only [List.map_cons, List.sum_cons, List.length_cons, Nat.add_mul]
  omega
def factF (t : TreeT) (rk : Int → Nat) (s : SeenT) : Nat := if s.count < t.count then rankF t rk s.id + 1 else 1
theorem Gne.size_bound (G : Gne t h rk) : ∀ (n : Nat) (s : SeenT), s.id ∈ idsN t.nodes → sizeF t win gone n s + 1 ≤ 2 * 4 ^ h s.id * factF t rk s
 | 0, s, _ => by
  have h1 : 1 ≤ 4 ^ h s.id := Nat.pow_pos (by decide)
  have h2 : 1 ≤ factF t rk s := by unfold factF; split <;> omega
  have := Nat.mul_le_mul (Nat.mul_le_mul (Nat.le_refl 2) h1) h2
  simp only [sizeF]; omega
 | n + 1, s, hin => by
  have h1 : 1 ≤ 4 ^ h s.id := Nat.pow_pos (by decide)
  have h2 : 1 ≤ factF t rk s := by unfold factF; split <;> omega
  have h3 := Nat.mul_le_mul (Nat.mul_le_mul (Nat.le_refl 2) h1) h2
  unfold sizeF
  split
  ·obtain ⟨x, hx, hid⟩ := List.mem_map.1 hin
   have hnd : nodeOr t s.id = x := by unfold nodeOr; rw [← hid, findN_mem G.nd hx]; rfl
   rw [show opensF t s win true = (if s.count < x.mark ∧ x.right ≠ 0 then [⟨x.right, s.count⟩] else []) ++ (if x.leaf then [] else (x.es.reverse.filter (fun e => true || meetsK e.key win)).map (fun e => ⟨e.child, t.count⟩)) from by unfold opensF; rw [hnd]]
   rw [List.map_append, List.sum_append]
   have hkids : (((if x.leaf then [] else (x.es.reverse.filter (fun e => true || meetsK e.key win)).map (fun e => (⟨e.child, t.count⟩ : SeenT)))).map (sizeF t win gone n)).sum + 2 ≤ 2 * 4 ^ h s.id := by
    cases hl : x.leaf with
    | true => simp; omega
    | false =>
     simp only [Bool.false_eq_true, if_false, Bool.true_or]
     rw [List.filter_eq_self.2 (fun _ _ => rfl)]
     cases hh : h s.id with
     | zero =>
      have : x.es = [] := by
       cases he : x.es with
       | nil => rfl
       | cons e l =>
        have := (G.kid x hx hl e (by simp [he])).2
        rw [hid] at this; omega
      rw [this]; simp
     | succ k =>
      have hb : ∀ a ∈ x.es.reverse.map (fun e => (⟨e.child, t.count⟩ : SeenT)), sizeF t win gone n a ≤ 2 * 4 ^ k - 1 := fun a ha => by
       obtain ⟨e, he, rfl⟩ := List.mem_map.1 ha
       obtain ⟨k1, k2⟩ := G.kid x hx hl e (by simpa using he)
       have := G.size_bound n ⟨e.child, t.count⟩ k1
       rw [hid] at k2
       have hk : h e.child = k := by omega
       simp only [factF, hk, if_neg (Int.lt_irrefl t.count)] at this
       omega
      have hs := sum_le hb
      rw [List.length_map, List.length_reverse] at hs
      have hw := G.wid x hx
      have hm : x.es.length * (2 * 4 ^ k - 1) ≤ 4 * (2 * 4 ^ k - 1) := Nat.mul_le_mul_right _ hw
      have hp : 1 ≤ 4 ^ k := Nat.pow_pos (by decide)
      rw [Nat.pow_succ]
      omega
   by_cases hr : s.count < x.mark ∧ x.right ≠ 0
   ·rw [if_pos hr]
    simp only [List.map_cons, List.map_nil, List.sum_cons, List.sum_nil, Nat.add_zero]
    obtain ⟨r1, r2, r3⟩ := G.rgt x hx hr.2
    have hmk := G.mark x hx
    have hcc : s.count < t.count := by omega
    have hrb := G.size_bound n ⟨x.right, s.count⟩ r1
    have hlt := rankF_lt r1 r3
    rw [hid] at hlt r2
    simp only [factF, hcc, if_true, r2] at hrb ⊢
    have hmul : 2 * 4 ^ h s.id * (rankF t rk x.right + 1) ≤ 2 * 4 ^ h s.id * rankF t rk s.id := Nat.mul_le_mul_left _ (by omega)
    rw [Nat.mul_add, Nat.mul_one]
    omega
   ·rw [if_neg hr]
    have hmul : 2 * 4 ^ h s.id * 1 ≤ 2 * 4 ^ h s.id * factF t rk s := Nat.mul_le_mul_left _ h2
    simp only [List.map_nil, List.sum_nil, Nat.zero_add]
    omega
  ·omega
theorem Gne.size_le (G : Gne t h rk) (n : Nat) (s : SeenT) : sizeF t win gone n s ≤ 2 ^ 33 := by
 by_cases hin : s.id ∈ idsN t.nodes
 ·have h1 := G.size_bound (win := win) (gone := gone) n s hin
  have h2 := G.top' hin
  have h3 : 4 ^ h s.id ≤ 4 ^ 11 := Nat.pow_le_pow_right (by decide) h2
  have h4 : factF t rk s ≤ 513 := by
   have := rankF_le t rk s.id
   have := G.len
   unfold factF; split <;> omega
  have h5 := Nat.mul_le_mul (Nat.mul_le_mul (Nat.le_refl 2) h3) h4
  omega
 ·have : opensF t s win true = [] := by
   cases ho : opensF t s win true with
   | nil => rfl
   | cons a l =>
    obtain ⟨x, hx, hid, _⟩ := opens_mem (show a ∈ opensF t s win true by rw [ho]; simp)
    exact absurd (by rw [← hid]; exact List.mem_map.2 ⟨x, hx, rfl⟩) hin
  cases n with
  | zero => simp [sizeF]
  | succ n => unfold sizeF; split <;> simp [this]
end
end Go.Proofs.Ytmjnpfackanhlaa.AM

namespace Go.Proofs.Ytmjnpfackanhlaa.AM
open Go
set_option linter.unusedVariables false
set_option linter.unusedSimpArgs false
variable {P : Program}

structure GoR (P : Program) : Prop extends RcR P where
 revS : R_slices_Reverse_Seen_Seen P
 conU : R_slices_Contains_uint32_uint32 P
 idxU : R_slices_Index_uint32_uint32 P
 has13 : R_gazetteerref13_has P
 gone : R_cursor_Gone P
 still13 : R_gazetteerref13_still P
 gone13 : R_gazetteerref13_Gone P
def isN (x : Int) (y : Int) : Bool := decide (x = y)
def IxI (l : List Int) (x : Int) (k : Nat) (v : V) (st : St) : Prop := ScI (isN x) l k v st []
theorem sIdxU (h : GoR P) (l : List Int) (x : Int) (hb : l.length < 2 ^ 40) : PCalls P n_slices_Index_uint32_uint32 [vIs l, .int .u32 x] (fun r => r = .int .i64 (idxI (l.findIdx? (isN x)))) := by
 refine A_slices_Index_uint32_uint32 h.idxU ?_
 unfold F_slices_Index_uint32_uint32
 simp [st0]
 refine ⟨IxI l x, ⟨l.length, GhostV.refl ⟨0, 0, by simp, by simp, by simp, by simp, by simp⟩⟩, ?_⟩
 rintro k1 v8 st ⟨i, nv, rfl, hi, rfl, rfl, hn⟩
 by_cases hlt : i < l.length
 ·simp [hlt]
  by_cases hp : x = l[i]
  ·simp [hp]
   exact GhostV.refl ⟨rfl, by rw [← hp, sc_found hlt hn (by simp [isN, hp])]; rfl⟩
  ·simp [hp]
   exact ⟨l.length - (i + 1), by omega, GhostV.refl ⟨i + 1, nv, rfl, by omega, by rw [wadd1 (by omega)], rfl, sc_next hlt hn (by simp [isN, hp])⟩⟩
 ·simp [hlt]
  exact GhostV.refl ⟨rfl, by rw [sc_none hlt hn]; rfl⟩
theorem sConU (h : GoR P) (l : List Int) (x : Int) (hb : l.length < 2 ^ 40) : PCalls P n_slices_Contains_uint32_uint32 [vIs l, .int .u32 x] (fun r => r = .bool (decide (x ∈ l))) := by
 refine A_slices_Contains_uint32_uint32 h.conU ?_
 unfold F_slices_Contains_uint32_uint32
 simp [st0]
 refine inv_p (sIdxU h l x hb) rfl (by simp [pureL, V.pure, pureLL]) ?_
 rintro _ rfl
 simp
 refine GhostV.refl ⟨rfl, ?_⟩
 cases hf : l.findIdx? (isN x) with
 | none =>
  rw [List.findIdx?_eq_none_iff] at hf
  have : ¬ x ∈ l := fun hx => by simpa [isN] using hf x hx
  simp [this, idxI]
 | some i =>
  obtain ⟨h1, h2, _⟩ := List.findIdx?_eq_some_iff_getElem.1 hf
  have hx : x = l[i] := by simpa [isN] using h2
  have : x ∈ l := by rw [hx]; exact List.getElem_mem h1
  simp [this, idxI]
def HsI (l : List Int) (x : Int) (k : Nat) (v : V) (st : St) : Prop := ScI (isN x) l k v st []
theorem rHas (h : GoR P) (l : List Int) (x : Int) (hb : l.length < 2 ^ 40) : PCalls P n_gazetteerref13_has [vIs l, .int .u32 x] (fun r => r = .bool (decide (x ∈ l))) := by
 refine A_gazetteerref13_has h.has13 ?_
 unfold F_gazetteerref13_has
 refine ⟨HsI l x, ⟨l.length, GhostV.refl ⟨0, 0, by simp, by simp, by simp, rfl, by simp⟩⟩, ?_⟩
 rintro k1 v8 st ⟨i, nv, rfl, hi, rfl, rfl, hn⟩
 by_cases hlt : i < l.length
 ·simp [hlt]
  by_cases hp : l[i] = x
  ·simp [hp]
   have : x ∈ l := by rw [← hp]; exact List.getElem_mem hlt
   exact GhostV.refl ⟨rfl, by simp [this]⟩
  ·simp [hp]
   exact ⟨l.length - (i + 1), by omega, GhostV.refl ⟨i + 1, nv, rfl, by omega, by rw [wadd1 (by omega)], rfl, sc_next hlt hn (by simpa [isN, eq_comm] using hp)⟩⟩
 ·simp [hlt]
  rw [List.take_of_length_le (by omega)] at hn
  have : ¬ x ∈ l := fun hx => by simpa [isN] using hn x hx
  exact GhostV.refl ⟨rfl, by simp [this]⟩
def RvI (L : List (Option (Nat × Obj))) (id ver : Nat) (l : List SeenT) (k : Nat) (v w : V) (st : St) : Prop :=
 ∃ (i nv : Nat) (cur : List SeenT), k = l.length - i ∧ 2 * i ≤ l.length + 1 ∧ v = .int .i64 ((i : Nat) : Int) ∧ w = .int .i64 ((l.length : Int) - 1 - i) ∧ cur.length = l.length ∧
  (∀ (q : Nat) (h : q < cur.length) (h2 : q < l.length), cur[q] = if q < i ∨ l.length < q + 1 + i then l[l.length - 1 - q] else l[q]) ∧ st = ⟨L.set id (some (ver, .mem 2 (cur.map cSeen))), nv⟩
set_option maxHeartbeats 1000000 in
theorem sRev_D (h : GoR P) (l : List SeenT) (hb : l.length < 2 ^ 60) {L : List (Option (Nat × Obj))} {id ver nv : Nat} (ho : L[id]? = some (some (ver, .mem 2 (l.map cSeen)))) {K : V → St → Prop}
    (hk : ∀ nv', K (mkres []) ⟨L.set id (some (ver, .mem 2 (l.reverse.map cSeen))), nv'⟩) : ACalls P n_slices_Reverse_Seen_Seen [.msl id ver 0 l.length] ⟨L, nv⟩ K := by
  refine A_slices_Reverse_Seen_Seen h.revS ?_
  unfold F_slices_Reverse_Seen_Seen
  have hid := (List.getElem?_eq_some_iff.1 ho).1
  have hself : L.set id (some (ver, .mem 2 (l.map cSeen))) = L := set_self ho
  have hw : IntKind.i64.wrap ((l.length : Int) - 1) = (l.length : Int) - 1 := wrap_i64 (by omega)
  simp [ho, hw]
  refine ⟨RvI L id ver l, ⟨l.length, GhostV.refl ⟨0, nv, l, by simp, by omega, rfl, by simp, rfl, fun q h1 h2 => by rw [if_neg (by omega)], by rw [hself]⟩⟩, ?_⟩
  rintro k1 v w st ⟨i, nv1, cur, rfl, hi, rfl, rfl, hcl, hcur, rfl⟩
  by_cases hlt : (i : Int) < (l.length : Int) - 1 - i
  · obtain ⟨j, hj⟩ : ∃ j : Nat, (l.length : Int) - 1 - i = j := ⟨l.length - 1 - i, by omega⟩
    have hjl : j < cur.length := by omega
    have hil : i < cur.length := by omega
    rw [hj] at hlt ⊢
    have hjl2 : j < l.length := by omega
    have hil2 : i < l.length := by omega
    have e1 : ∀ X (hx : j < ((cur.map cSeen).set i X).length), ((cur.map cSeen).set i X)[j]'hx = cSeen cur[j] := fun X hx => by
      rw [List.getElem_set_ne (by omega)]
      simp
    simp [hlt, hid, hjl, hil]
    simp only [e1]
    simp
    have hw2 : IntKind.i64.wrap ((j : Int) - 1) = (j : Int) - 1 := wrap_i64 (by omega)
    refine ⟨hjl2, hil2, hjl2, l.length - (i + 1), by omega, GhostV.refl ⟨i + 1, nv1, (cur.set i cur[j]).set j cur[i], rfl, by omega, by rw [wadd1 (by omega)], by rw [hw2]; congr 1; omega, by simp [hcl], fun q h1 h2 => ?_, ?_⟩⟩
    · have hq : q < cur.length := by omega
      rw [List.getElem_set]
      split
      · rename_i e
        subst e
        rw [hcur i hil hil2, if_neg (by omega), if_pos (by omega)]
        congr 1; omega
      · rw [List.getElem_set]
        split
        · rename_i e
          subst e
          rw [hcur j hjl hjl2, if_neg (by omega), if_pos (by omega)]
          congr 1; omega
        · rw [hcur q hq h2]
          by_cases hc : q < i ∨ l.length < q + 1 + i
          · rw [if_pos hc, if_pos (by omega)]
          · rw [if_neg hc, if_neg (by omega)]
    · simp
  · simp [hlt]
    have : cur = l.reverse := by
      refine List.ext_getElem (by simp [hcl]) (fun q h1 h2 => ?_)
      rw [hcur q h1 (by omega), List.getElem_reverse]
      split
      · rfl
      · congr 1; omega
    rw [this]
    exact GhostV.refl (hk _)
end Go.Proofs.Ytmjnpfackanhlaa.AM

namespace Go.Proofs.Ytmjnpfackanhlaa.AM
open Go
set_option linter.unusedVariables false
set_option linter.unusedSimpArgs false
variable {P : Program}

abbrev OqO (L : List (Option (Nat × Obj))) (nv : Nat) (t : TreeT) (s : SeenT) (win : KeyT) (x : NodeT) : List (Option (Nat × Obj)) := L ++ [some (nv, .mem 3 [cTree t]), some (nv + 1, .mem 2 [cSeen s]), some (nv + 2, .mem 4 [cKey win]), some (nv + 3, .mem 5 [cNode x])]
def OqJ (L : List (Option (Nat × Obj))) (n0 : Nat) (t : TreeT) (s : SeenT) (win : KeyT) (x : NodeT) (v : V) (st : St) : Prop :=
 ∃ (m ver nv : Nat) (M : List (Option (Nat × Obj))) (out : List SeenT), v = .msl (L.length + (m + 4)) ver 0 out.length ∧ M[m]? = some (some (ver, .mem 2 (out.map cSeen))) ∧ out.length ≤ 1 ∧ out = rightO s x ∧ st = ⟨OqO L n0 t s win x ++ M, nv⟩
def OqI (L : List (Option (Nat × Obj))) (n0 : Nat) (t : TreeT) (s : SeenT) (win : KeyT) (x : NodeT) (all : Bool) (F : List SeenT) (k : Nat) (v10 v11 : V) (st : St) : Prop :=
 ∃ (n m ver nv : Nat) (M : List (Option (Nat × Obj))) (out : List SeenT), k = n ∧ n ≤ x.es.length ∧ v11 = .int .i64 ((n : Int) - 1) ∧ v10 = .msl (L.length + (m + 4)) ver 0 out.length ∧ M[m]? = some (some (ver, .mem 2 (out.map cSeen))) ∧ out.length ≤ 1 + (x.es.length - n) ∧
  out ++ (if x.leaf then [] else kidO t win all (x.es.take n)) = F ∧ st = ⟨OqO L n0 t s win x ++ M, nv⟩
set_option maxHeartbeats 1000000 in
theorem cOpens_D (h : GoR P) (t : TreeT) (hs : smallT t) (s : SeenT) (win : KeyT) (all : Bool) {L : List (Option (Nat × Obj))} {n0 : Nat} {K : V → St → Prop}
  (hk : ∀ m ver nv M, M[m]? = some (some (ver, .mem 2 ((opensF t s win all).map cSeen))) → K (.msl (L.length + m) ver 0 (opensF t s win all).length) ⟨L ++ M, nv⟩) :
  ACalls P n_cursor_opens [.agg (cTree t), .agg (cSeen s), .agg (cKey win), .bool all] ⟨L, n0⟩ K := by
 refine A_cursor_opens h.opens ?_
 unfold F_cursor_opens
 simp
 refine inv_p (cFind h.toOpR t s.id (by have := hs.1; omega)) rfl (by simp [pureL, V.pure, pureLL]) ?_
 rintro _ rfl
 have hF : opensF t s win all = rightO s (nodeOr t s.id) ++ (if (nodeOr t s.id).leaf then [] else kidO t win all (nodeOr t s.id).es) := rfl
 obtain ⟨F, hFe⟩ : ∃ F, F = opensF t s win all := ⟨_, rfl⟩
 rw [← hFe] at hF hk
 have hxw : (nodeOr t s.id).es.length < 2 ^ 30 := by
  unfold nodeOr
  cases hf : findN t.nodes s.id with
  | none => decide
  | some y => exact hs.2 y (findN_some hf).1
 obtain ⟨x, hx⟩ : ∃ x, x = nodeOr t s.id := ⟨_, rfl⟩
 rw [← hx] at hF hxw
 rw [← hx]
 simp
 refine ⟨OqJ L n0 t s win x, ?_, ?_⟩
 ·simp
  have hnil : rightO s x = [] → GhostV [V.sl .nil 0 [] []] ⟨OqO L n0 t s win x, n0 + 4⟩ (@app 1 (OqJ L n0 t s win x)) := fun e => GhostV.nilr 2 (by decide) ⟨0, n0 + 4, n0 + 5, [some (n0 + 4, .mem 2 [])], [], by simp [OqO], rfl, by simp, e.symm, by simp [OqO]⟩
  by_cases hm : s.count < x.mark
  ·simp [hm]
   by_cases hr : x.right = 0
   ·simp [hm, hr]
    simpa [OqO, hr] using hnil (by simp [rightO, hr])
   ·simp [hm, hr]
    exact GhostV.refl ⟨1, n0 + 5, n0 + 6, [_, _], [⟨x.right, s.count⟩], by simp, rfl, by simp, by simp [rightO, hm, hr], by simp [OqO]; rfl⟩
  ·simp [hm]
   exact hnil (by simp [rightO, hm])
 rintro v10 st ⟨m, ver, nv, M, out, rfl, hM, hol, hout, rfl⟩
 simp
 have hw1 : IntKind.i64.wrap ((x.es.length : Int) - 1) = (x.es.length : Int) - 1 := wrap_i64 (by omega)
 refine ⟨OqI L n0 t s win x all F, ⟨x.es.length, GhostV.refl ⟨x.es.length, m, ver, nv, M, out, rfl, by omega, by rw [hw1], rfl, hM, by omega, by rw [hF, hout, List.take_length], by simp [OqO]⟩⟩, ?_⟩
 clear hM hol hout M out ver nv m
 rintro n v10 v11 st ⟨_, m, ver, nv, M, out, rfl, hn, rfl, rfl, hM, hol, hout, rfl⟩
 have hml := (List.getElem?_eq_some_iff.1 hM).1
 have hfin : out = F → GhostV [V.msl (L.length + (m + 4)) ver 0 out.length] ⟨OqO L n0 t s win x ++ M, nv⟩ fun vs st => K (mkres vs) st := fun e => by
  refine GhostV.refl ?_
  have := hk (m + 4) ver nv ([some (n0, .mem 3 [cTree t]), some (n0 + 1, .mem 2 [cSeen s]), some (n0 + 2, .mem 4 [cKey win]), some (n0 + 3, .mem 5 [cNode x])] ++ M) (by rw [← e]; simpa using hM)
  rw [← e] at this
  simpa [mkres, OqO] using this
 have hMa : ∀ N, (M ++ N)[m]? = some (some (ver, .mem 2 (out.map cSeen))) := fun N => by rw [List.getElem?_append_left hml]; exact hM
 have hMs : ∀ N (z : Option (Nat × Obj)), (M ++ N).set m z = M.set m z ++ N := fun N z => List.set_append_left _ _ hml
 have hadd : ∀ (o : SeenT) (N : List (Option (Nat × Obj))), x.leaf = false → ∀ i, i + 1 = n → out ++ ([o] ++ kidO t win all (x.es.take i)) = F → (out.length + 1) * 16 ≤ 140737488355328 ∧ ∃ j, j < n ∧ GhostV [V.msl (L.length + (m + 4)) (nv + 1) 0 (out.length + 1), V.int IntKind.i64 (IntKind.i64.wrap (↑i - 1))] ⟨OqO L n0 t s win x ++ (M.set m (some (nv + 1, .mem 2 (out.map cSeen ++ [cSeen o]))) ++ N), nv + 1 + 1⟩ (@app 2 (OqI L n0 t s win x all F j)) := fun o N hl i hin he => ⟨by omega, i, by omega, GhostV.refl ⟨i, m, nv + 1, nv + 1 + 1, _, out ++ [o], rfl, by omega, by rw [wrap_i64 (by omega)], by simp, by rw [List.getElem?_append_left (by simpa using hml), List.getElem?_set_self hml]; simp, by simp; omega, by rw [hl]; simpa using he, rfl⟩⟩
 cases n with
 | zero =>
  have hne : ¬ (0 : Int) ≤ -1 := by decide
  have e0 : (((0 : Nat) : Int) - 1) = -1 := rfl
  simp only [e0]
  simp [hne]
  simpa [OqO] using hfin (by simpa [kidO] using hout)
 | succ i =>
  have hi : i < x.es.length := by omega
  have hi0 : (0 : Int) ≤ (i : Int) := by omega
  have hstep : IntKind.i64.wrap ((i : Int) - 1) = (i : Int) - 1 := wrap_i64 (by omega)
  rw [show (((i + 1 : Nat) : Int) - 1) = (i : Int) by omega]
  simp [hi0]
  cases hl : x.leaf
  ·rw [hl, take_snoc hi, kidO_snoc] at hout
   simp only [Bool.false_eq_true, if_false] at hout
   cases all
   ·simp [hi0, hi]
    refine inv_p (kMeets h.toKyR x.es[i].key win) rfl rfl ?_
    rintro _ rfl
    cases hm : meetsK x.es[i].key win
    ·simp
     refine ⟨i, by omega, GhostV.refl ⟨i, m, ver, nv, M, out, rfl, by omega, by rw [hstep], rfl, hM, by omega, ?_, by simp [OqO, hl]⟩⟩
     simpa [hm, hl] using hout
    ·simp [hi, hM]
     simpa [OqO, hl] using hadd ⟨x.es[i].child, t.count⟩ _ hl i rfl (by simpa [hm] using hout)
   ·simp [hi0, hi, hMa]
    simp only [hMs]
    simpa [OqO, hl] using hadd ⟨x.es[i].child, t.count⟩ _ hl i rfl (by simpa using hout)
  ·simp [hi0]
   simpa [OqO, hl] using hfin (by simpa [hl] using hout)
end Go.Proofs.Ytmjnpfackanhlaa.AM
