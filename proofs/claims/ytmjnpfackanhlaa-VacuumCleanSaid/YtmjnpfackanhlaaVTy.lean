/- Go's data, as plain Lean data, and as cells. -/
import Derived.Test.YtmjnpfackanhlaaAmS2
import Derived.IntWalk
namespace Go.Proofs.Ytmjnpfackanhlaa.AM
open Go
set_option linter.unusedVariables false
set_option linter.unusedSimpArgs false

structure KeyT where
 (x0 x1 y0 y1 : Int)
 deriving DecidableEq
structure TupleT where
 (row xmin xmax : Nat)
 key : KeyT
 value : Int
 deriving DecidableEq
structure SpotT where
 (page slot : Int)
 deriving DecidableEq
structure StoredT where
 spot : SpotT
 tuple : TupleT
 deriving DecidableEq
structure FateT where
 (id number : Nat)
 deriving DecidableEq
structure FatesT where
 first : Nat
 list : List FateT
structure EyeT where
 own : Nat
 reads : Bool
 snap : Nat

@[simp] def cKey (k : KeyT) : List V := [.int .i64 k.x0, .int .i64 k.x1, .int .i64 k.y0, .int .i64 k.y1]
@[simp] def cTuple (t : TupleT) : List V := [.int .u32 t.row, .int .u64 t.xmin, .int .u64 t.xmax, .int .i64 t.key.x0, .int .i64 t.key.x1, .int .i64 t.key.y0, .int .i64 t.key.y1, .int .i64 t.value]
@[simp] def cSpot (s : SpotT) : List V := [.int .i64 s.page, .int .i64 s.slot]
@[simp] def cStored (x : StoredT) : List V := [.int .i64 x.spot.page, .int .i64 x.spot.slot, .int .u32 x.tuple.row, .int .u64 x.tuple.xmin, .int .u64 x.tuple.xmax, .int .i64 x.tuple.key.x0, .int .i64 x.tuple.key.x1, .int .i64 x.tuple.key.y0, .int .i64 x.tuple.key.y1, .int .i64 x.tuple.value]
@[simp] def cFate (x : FateT) : List V := [.int .u64 x.id, .int .u64 x.number]
@[simp] def cEye (x : EyeT) : List V := [.int .u64 x.own, .bool x.reads, .int .u64 x.snap]

theorem getD_map {α : Type} (f : α → List V) (l : List α) (i : Nat) (h : i < l.length) : (l.map f).getD i [] = f l[i] := by simp [List.getD, h]
@[simp] theorem getD_map' {α : Type} {f : α → List V} {l : List α} {i : Nat} (h : i < l.length) : (l.map f)[i]?.getD [] = f l[i] := by simp [h]

theorem pureLL_map {α : Type} {f : α → List V} (hf : ∀ x, pureL (f x) = true) : ∀ l : List α, pureLL (l.map f) = true
 | [] => rfl
 | x :: l => by simp only [List.map_cons, pureLL, hf x, pureLL_map hf l, Bool.and_self]
theorem pureL_append : ∀ {a b : List V}, pureL (a ++ b) = (pureL a && pureL b)
 | [], b => by simp [pureL]
 | v :: a, b => by simp [pureL, pureL_append, Bool.and_assoc]
@[simp] theorem p_fate (l : List FateT) : pureLL (l.map cFate) = true := pureLL_map (fun _ => rfl) l
@[simp] theorem p_stored (l : List StoredT) : pureLL (l.map cStored) = true := pureLL_map (fun _ => rfl) l
@[simp] theorem p_spot (l : List SpotT) : pureLL (l.map cSpot) = true := pureLL_map (fun _ => rfl) l

theorem wrap_i64 {x : Int} (h : -9223372036854775808 ≤ x ∧ x < 9223372036854775808) : IntKind.i64.wrap x = x := Go.IntWalk.i64_in _ (by omega)

@[simp] theorem cast_eq {a b : Nat} : ((a : Int) = b) = (a = b) := propext Int.ofNat_inj

/-! states whose first objects are not looked at -/
@[simp] theorem ap_get {α : Type} {L M : List α} {k : Nat} : (L ++ M)[L.length + k]? = M[k]? := by rw [List.getElem?_append_right (by omega)]; congr 1; omega
@[simp] theorem ap_get0 {α : Type} {L M : List α} : (L ++ M)[L.length]? = M[0]? := by rw [List.getElem?_append_right (by omega)]; congr 1; omega
@[simp] theorem ap_set {α : Type} {L M : List α} {k : Nat} {x : α} : (L ++ M).set (L.length + k) x = L ++ M.set k x := by rw [List.set_append_right _ _ (by omega)]; congr 2; omega
@[simp] theorem ap_set0 {α : Type} {L M : List α} {x : α} : (L ++ M).set L.length x = L ++ M.set 0 x := by rw [List.set_append_right _ _ (by omega)]; congr 2; omega
@[simp] theorem ap_old {L M : List (Option (Nat × Obj))} {k : Nat} (h : L[k]?.isSome = true) : (L ++ M)[k]? = L[k]? := by
 rw [List.getElem?_append_left]
 cases e : L[k]? with
 | none => rw [e] at h; cases h
 | some x => exact (List.getElem?_eq_some_iff.1 e).1
@[simp] theorem ap_setold {L M : List (Option (Nat × Obj))} {k : Nat} {x : Option (Nat × Obj)} (h : L[k]?.isSome = true) : (L ++ M).set k x = L.set k x ++ M := by
 rw [List.set_append_left]
 cases e : L[k]? with
 | none => rw [e] at h; cases h
 | some x => exact (List.getElem?_eq_some_iff.1 e).1
theorem inv_f0 {P : Program} {k : FuncId} {args : List V} {st : St} {K : V → St → Prop} (h : ACalls P k args st K) : @inv P (.fn (.func k) [] []) args st ⟨K⟩ := inv_fn (by simpa using h)
theorem GhostV.row1 {st : St} {K : List V → St → Prop} {id ver sz off len : Nat} {es : List (List V)} (ho : st.get id ver = some (.mem sz es)) (h : off + len ≤ es.length)
  (hk : K [.sl .unk sz ((es.drop off).take len) []] ⟨[], st.nv⟩) : GhostV [.msl id ver off len] st K :=
 GhostV.trans (GhostV.frozen1 (K := fun vs st' => vs = [.sl .unk sz ((es.drop off).take len) ((es.drop off).drop len)] ∧ st' = ⟨[], st.nv⟩) ho h ⟨rfl, rfl⟩) (by rintro _ _ ⟨rfl, rfl⟩; exact GhostV.le (LeVs.cons .slk LeVs.nil) hk)
theorem Bor.box1 {st : St} {id ver : Nat} {v : V} (h : st.get id ver = some (.mem 1 [[v]])) : Bor st (.ptr id ver 0 0) (.eptr [v] 0) :=
  .ptr id ver 0 0 1 [[v]] [v] h (by simp) rfl (fun j hj => by
    obtain rfl : j = 0 := by omega
    exact .refl _)
theorem GhostV.rowc {st : St} {K : List V → St → Prop} {id ver sz off len : Nat} {es : List (List V)} {rest : List V} (ho : st.get id ver = some (.mem sz es)) (h : off + len ≤ es.length)
  (hk : K (.sl .unk sz ((es.drop off).take len) [] :: rest) ⟨[], st.nv⟩) : GhostV (.msl id ver off len :: rest) st K :=
 GhostV.trans (GhostV.freeze (vs' := .sl .unk sz ((es.drop off).take len) ((es.drop off).drop len) :: rest) (st' := ⟨[], st.nv⟩) (K := fun vs st' => vs = .sl .unk sz ((es.drop off).take len) ((es.drop off).drop len) :: rest ∧ st' = ⟨[], st.nv⟩) ho rfl rfl (fun i => by
  cases i with
  | zero => exact .msl id off len h
  | succ i => simpa using Frz.refl _) (fun id1 ver1 o1 h => by simp at h) ⟨rfl, rfl⟩) (by rintro _ _ ⟨rfl, rfl⟩; exact GhostV.le (LeVs.cons .slk (LeVs.refl _)) hk)
theorem take_snoc {α : Type} {l : List α} {i : Nat} (h : i < l.length) : l.take (i + 1) = l.take i ++ [l[i]] := by
 rw [List.take_add_one, List.getElem?_eq_getElem h]; rfl
end Go.Proofs.Ytmjnpfackanhlaa.AM
