/- slices.Sort of whole numbers, walked against the kit's plain text of it. -/
import Derived.Test.YtmbhgjekjpkigaaRCodeB
import Derived.Test.YtmbhgjekjpkigaaAmG
import Derived.Sort.AssemblyPlain
namespace Go.Proofs.Ytmbhgjekjpkigaa.AM
open Go
set_option linter.unusedVariables false
set_option linter.unusedSimpArgs false
variable {P : Program}

def ltN (x y : Nat) : Bool := decide (x < y)
@[simp] def cN (n : Nat) : List V := [.int .u64 n]
def rowsN (d : Array Nat) : List (List V) := d.toList.map cN
@[simp] theorem rowsN_len {d : Array Nat} : (rowsN d).length = d.size := by simp [rowsN]
/-- What stands at a place. -/
def dg (d : Array Nat) (i : Nat) : Nat := d[i]!
@[simp] theorem rowsN_get {d : Array Nat} {i : Nat} (h : i < d.size) : (rowsN d)[i]? = some [.int .u64 (dg d i)] := by simp [rowsN, dg, h]
@[simp] theorem rowsN_getE {d : Array Nat} {i : Nat} (h : i < (rowsN d).length) : (rowsN d)[i] = [.int .u64 (dg d i)] := by
  have h' : i < d.size := by simpa using h
  simp [rowsN, dg, h']
@[simp] theorem rowsN_set {d : Array Nat} {i x : Nat} : (rowsN d).set i [.int .u64 x] = rowsN (d.setIfInBounds i x) := by simp [rowsN, List.map_set]
@[simp] theorem swp_def {d : Array Nat} {i j : Nat} : (d.setIfInBounds i (dg d j)).setIfInBounds j (dg d i) = Go.Sort.swp d i j := rfl
@[simp] theorem swp_size {d : Array Nat} {i j : Nat} : (Go.Sort.swp d i j).size = d.size := by simp [Go.Sort.swp]
theorem isNaN_N (h : R_cmp_isNaN_uint64 P) (x : Nat) : PCalls P n_cmp_isNaN_uint64 [.int .u64 x] (fun r => r = .bool false) := by
  refine A_cmp_isNaN_uint64 h ?_
  unfold F_cmp_isNaN_uint64
  simp [st0]
  exact GhostV.refl ⟨rfl, by simp⟩
structure LessR (P : Program) : Prop where
  nan : R_cmp_isNaN_uint64 P
  less : R_cmp_Less_uint64 P
theorem Less_N (h : LessR P) (x y : Nat) : PCalls P n_cmp_Less_uint64 [.int .u64 x, .int .u64 y] (fun r => r = .bool (ltN x y)) := by
  refine A_cmp_Less_uint64 h.less ?_
  unfold F_cmp_Less_uint64
  simp [st0]
  refine inv_p (isNaN_N h.nan x) rfl rfl ?_
  rintro _ rfl
  simp
  exact GhostV.refl ⟨rfl, by simp [ltN]⟩

/-! ### insertion -/
def InsO (L : List (Option (Nat × Obj))) (id ver nv a b : Nat) (fin : Array Nat) (sz : Nat) (k : Nat) (v : V) (st : St) : Prop :=
  ∃ i d, k = b - i ∧ v = .int .i64 i ∧ a + 1 ≤ i ∧ i ≤ max b (a + 1) ∧ d.size = sz ∧ Go.Sort.insOuter ltN a b i d = fin ∧ st = ⟨L.set id (some (ver, .mem 1 (rowsN d))), nv⟩
def InsI (L : List (Option (Nat × Obj))) (id ver nv a i : Nat) (fin : Array Nat) (sz : Nat) (k : Nat) (v : V) (st : St) : Prop :=
  ∃ j d, j = k ∧ v = .int .i64 j ∧ j ≤ i ∧ d.size = sz ∧ Go.Sort.insInner ltN a j d = fin ∧ st = ⟨L.set id (some (ver, .mem 1 (rowsN d))), nv⟩
theorem insInner_size {a : Nat} : ∀ (j : Nat) (d : Array Nat), (Go.Sort.insInner ltN a j d).size = d.size
  | 0, d => rfl
  | j + 1, d => by
    unfold Go.Sort.insInner
    split
    · rw [insInner_size j]; simp
    · rfl

theorem insertionSort_N (hL : LessR P) (hR : R_slices_insertionSortOrdered_uint64 P) {L : List (Option (Nat × Obj))} {nv id ver : Nat} (hid : id < L.length) (d : Array Nat) (a b : Nat) (hab : a ≤ b) (hb : b ≤ d.size) (hsz : d.size < 2 ^ 60)
    {K : V → St → Prop} (hk : K (.tup []) ⟨L.set id (some (ver, .mem 1 (rowsN (Go.Sort.insertionSort ltN d a b)))), nv⟩) :
    ACalls P n_slices_insertionSortOrdered_uint64 [.msl id ver 0 d.size, .int .i64 a, .int .i64 b] ⟨L.set id (some (ver, .mem 1 (rowsN d))), nv⟩ K := by
  refine A_slices_insertionSortOrdered_uint64 hR ?_
  unfold F_slices_insertionSortOrdered_uint64
  simp [wadd1 (show a < 2 ^ 62 by omega)]
  refine ⟨InsO L id ver nv a b (Go.Sort.insertionSort ltN d a b) d.size, ⟨b - (a + 1), GhostV.refl ⟨a + 1, d, rfl, by simp, by omega, by omega, rfl, rfl, rfl⟩⟩, ?_⟩
  rintro k v st ⟨i, d1, rfl, rfl, hi1, hi2, hd1, hfin, rfl⟩
  by_cases hlt : i < b
  · simp [hlt]
    refine ⟨InsI L id ver nv a i (Go.Sort.insInner ltN a i d1) d.size, ⟨i, GhostV.refl ⟨i, d1, rfl, rfl, Nat.le_refl _, hd1, rfl, rfl⟩⟩, ?_⟩
    rintro k v st ⟨j, d2, rfl, rfl, hj1, hd2, hfin2, rfl⟩
    have next : ∀ d3, Go.Sort.insInner ltN a i d1 = d3 → ∃ j', j' < b - i ∧ GhostV [.int .i64 (IntKind.i64.wrap ((i : Int) + 1))] ⟨L.set id (some (ver, .mem 1 (rowsN d3))), nv⟩ (app (n := 1) (InsO L id ver nv a b (Go.Sort.insertionSort ltN d a b) d.size j')) := by
      rintro d3 rfl
      refine ⟨b - (i + 1), by omega, GhostV.refl ⟨i + 1, Go.Sort.insInner ltN a i d1, rfl, by rw [wadd1 (by omega)], by omega, by omega, by rw [insInner_size, hd1], ?_, rfl⟩⟩
      rw [← hfin]
      conv => rhs; rw [Go.Sort.insOuter]
      simp [hlt]
    by_cases hja : a < j
    · obtain ⟨j, rfl⟩ : ∃ m, j = m + 1 := ⟨j - 1, by omega⟩
      have e1 : IntKind.i64.wrap (j : Int) = (j : Int) := wrap_i64 (by omega)
      have h1 : j + 1 < d2.size := by omega
      have h2 : j < d2.size := by omega
      have h3 : j + 1 < d.size := by omega
      have h4 : j < d.size := by omega
      have e0 : (a : Int) < (j : Int) + 1 := by omega
      have e2 : (j : Int) + 1 < (d.size : Int) := by omega
      have e3 : ((j : Int) + 1).toNat = j + 1 := by omega
      have e4 : (0 : Int) ≤ (j : Int) + 1 := by omega
      simp [e0, e1, e2, e3, e4, h1, h2, h4, hid]
      refine inv_p (Less_N hL (dg d2 (j + 1)) (dg d2 j)) rfl rfl ?_
      rintro _ rfl
      cases hc : ltN (dg d2 (j + 1)) (dg d2 j)
      · simp
        refine next _ ?_
        rw [← hfin2, Go.Sort.insInner, if_neg]
        show ¬ (_ && ltN (dg d2 (j + 1)) (dg d2 j)) = true
        simp [hc]
      · simp [e0, e1, e2, e3, e4, h1, h2, h4, hid]
        refine ⟨j, by omega, GhostV.refl ⟨j, Go.Sort.swp d2 (j + 1) j, rfl, rfl, by omega, by simp [hd2], ?_, by simp⟩⟩
        rw [← hfin2]
        conv => rhs; rw [Go.Sort.insInner]
        rw [if_pos]
        show (_ && ltN (dg d2 (j + 1)) (dg d2 j)) = true
        simp [hc, show a < j + 1 by omega]
    · have e0 : ¬ (a : Int) < (j : Int) := by omega
      simp [hja]
      refine next _ ?_
      rw [← hfin2]
      cases j with
      | zero => rfl
      | succ j => simp [Go.Sort.insInner, show ¬ (j + 1 > a) from hja]
  · simp [hlt]
    refine GhostV.refl ?_
    have : d1 = Go.Sort.insertionSort ltN d a b := by
      rw [← hfin, Go.Sort.insOuter]; simp [hlt]
    subst this
    simpa using hk
end Go.Proofs.Ytmbhgjekjpkigaa.AM

namespace Go.Proofs.Ytmbhgjekjpkigaa.AM
open Go
set_option linter.unusedVariables false
set_option linter.unusedSimpArgs false
variable {P : Program}

def SiftI (L : List (Option (Nat × Obj))) (id ver nv hi first : Nat) (fin : Array Nat) (sz : Nat) (k : Nat) (v : V) (st : St) : Prop :=
  ∃ r d, k = hi - r ∧ v = .int .i64 r ∧ r ≤ max hi sz ∧ d.size = sz ∧ Go.Sort.siftDown ltN hi first r d = fin ∧ st = ⟨L.set id (some (ver, .mem 1 (rowsN d))), nv⟩
def SiftJ (L : List (Option (Nat × Obj))) (id ver nv hi first r : Nat) (d : Array Nat) (v : V) (st : St) : Prop :=
  ∃ c : Nat, v = .int .i64 c ∧ r < c ∧ c < hi ∧ st = ⟨L.set id (some (ver, .mem 1 (rowsN d))), nv⟩ ∧
    Go.Sort.siftDown ltN hi first r d = if ltN (dg d (first + r)) (dg d (first + c)) then Go.Sort.siftDown ltN hi first c (Go.Sort.swp d (first + r) (first + c)) else d

theorem siftDown_N (hL : LessR P) (hR : R_slices_siftDownOrdered_uint64 P) {L : List (Option (Nat × Obj))} {nv id ver : Nat} (hid : id < L.length) (d : Array Nat) (lo hi first : Nat) (hlo : lo ≤ d.size) (hb : first + hi ≤ d.size) (hsz : d.size < 2 ^ 60)
    {K : V → St → Prop} (hk : K (.tup []) ⟨L.set id (some (ver, .mem 1 (rowsN (Go.Sort.siftDown ltN hi first lo d)))), nv⟩) :
    ACalls P n_slices_siftDownOrdered_uint64 [.msl id ver 0 d.size, .int .i64 lo, .int .i64 hi, .int .i64 first] ⟨L.set id (some (ver, .mem 1 (rowsN d))), nv⟩ K := by
  refine A_slices_siftDownOrdered_uint64 hR ?_
  unfold F_slices_siftDownOrdered_uint64
  refine ⟨SiftI L id ver nv hi first (Go.Sort.siftDown ltN hi first lo d) d.size, ⟨hi - lo, GhostV.refl ⟨lo, d, rfl, rfl, by omega, rfl, rfl, rfl⟩⟩, ?_⟩
  rintro k v st ⟨r, d1, rfl, rfl, hr, hd1, hfin, rfl⟩
  obtain ⟨c, hc⟩ : ∃ c, c = 2 * r + 1 := ⟨_, rfl⟩
  have e1 : IntKind.i64.wrap (2 * (r : Int)) = 2 * (r : Int) := wrap_i64 (by omega)
  have e2 : IntKind.i64.wrap (2 * (r : Int) + 1) = (c : Int) := by rw [wrap_i64 (by omega)]; omega
  have fini : ∀ d2, d2 = Go.Sort.siftDown ltN hi first lo d → GhostV [] ⟨L.set id (some (ver, .mem 1 (rowsN d2))), nv⟩ (fun vs st => K (mkres vs) st) := by
    rintro _ rfl
    exact GhostV.refl (by simpa using hk)
  by_cases hge : hi ≤ c
  · simp [e1, e2, hge]
    refine fini _ ?_
    rw [← hfin, Go.Sort.siftDown, dif_pos (by omega)]
  · simp [e1, e2, hge]
    obtain ⟨c2, hc2⟩ : ∃ c2, c2 = c + 1 := ⟨_, rfl⟩
    have e3 : IntKind.i64.wrap ((c : Int) + 1) = (c2 : Int) := by rw [wrap_i64 (by omega)]; omega
    refine ⟨SiftJ L id ver nv hi first r d1, ?_, ?_⟩
    · obtain ⟨p, hp⟩ : ∃ p, p = first + c := ⟨_, rfl⟩
      have e4 : IntKind.i64.wrap ((first : Int) + (c : Int)) = (p : Int) := by rw [wrap_i64 (by omega)]; omega
      have body : Go.Sort.siftDown ltN hi first r d1 = if c2 < hi ∧ ltN (dg d1 (first + c)) (dg d1 (first + c2)) = true then (if ltN (dg d1 (first + r)) (dg d1 (first + c2)) then Go.Sort.siftDown ltN hi first c2 (Go.Sort.swp d1 (first + r) (first + c2)) else d1)
          else (if ltN (dg d1 (first + r)) (dg d1 (first + c)) then Go.Sort.siftDown ltN hi first c (Go.Sort.swp d1 (first + r) (first + c)) else d1) := by
        show Go.Sort.siftDown ltN hi first r d1 = if c2 < hi ∧ ltN d1[first + c]! d1[first + c2]! = true then (if ltN d1[first + r]! d1[first + c2]! then Go.Sort.siftDown ltN hi first c2 (Go.Sort.swp d1 (first + r) (first + c2)) else d1)
          else (if ltN d1[first + r]! d1[first + c]! then Go.Sort.siftDown ltN hi first c (Go.Sort.swp d1 (first + r) (first + c)) else d1)
        subst hc hc2
        rw [Go.Sort.siftDown, dif_neg (by omega)]
        simp only [Bool.and_eq_true, decide_eq_true_eq, Bool.not_eq_true']
        have q1 : 2 * r + 1 + 1 = 2 * r + 2 := rfl
        have q2 : first + (2 * r + 1) + 1 = first + (2 * r + 2) := by omega
        rw [q1, q2]
        by_cases hx : 2 * r + 2 < hi ∧ ltN d1[first + (2 * r + 1)]! d1[first + (2 * r + 2)]! = true
        · rw [if_pos hx, if_pos hx, dif_pos hx.1]
          cases ltN d1[first + r]! d1[first + (2 * r + 2)]! <;> simp
        · rw [if_neg hx, if_neg hx]
          cases ltN d1[first + r]! d1[first + (2 * r + 1)]! <;> simp
      by_cases hlt : c2 < hi
      · obtain ⟨q, hq⟩ : ∃ q, q = p + 1 := ⟨_, rfl⟩
        have e5 : IntKind.i64.wrap ((p : Int) + 1) = (q : Int) := by rw [wrap_i64 (by omega)]; omega
        have h1 : p < d1.size := by omega
        have h2 : q < d1.size := by omega
        have h3 : p < d.size := by omega
        have h4 : q < d.size := by omega
        simp [e3, e4, e5, hlt, h1, h2, h3, h4, hid]
        refine inv_p (Less_N hL (dg d1 p) (dg d1 q)) rfl rfl ?_
        rintro _ rfl
        cases hcmp : ltN (dg d1 p) (dg d1 q)
        · simp
          refine GhostV.refl ⟨c, rfl, by omega, by omega, rfl, ?_⟩
          rw [body, if_neg]
          rw [show first + c = p by omega, show first + c2 = q by omega, hcmp]; simp
        · simp [e3]
          refine GhostV.refl ⟨c2, rfl, by omega, by omega, rfl, ?_⟩
          rw [body, if_pos]
          rw [show first + c = p by omega, show first + c2 = q by omega, hcmp]; exact ⟨hlt, rfl⟩
      · simp [e3, hlt]
        refine GhostV.refl ⟨c, rfl, by omega, by omega, rfl, ?_⟩
        rw [body, if_neg (fun h => hlt h.1)]
    · rintro v st ⟨x, rfl, hx1, hx2, rfl, hx3⟩
      obtain ⟨p, hp⟩ : ∃ p, p = first + r := ⟨_, rfl⟩
      obtain ⟨q, hq⟩ : ∃ q, q = first + x := ⟨_, rfl⟩
      have e4 : IntKind.i64.wrap ((first : Int) + (r : Int)) = (p : Int) := by rw [wrap_i64 (by omega)]; omega
      have e5 : IntKind.i64.wrap ((first : Int) + (x : Int)) = (q : Int) := by rw [wrap_i64 (by omega)]; omega
      have h1 : p < d1.size := by omega
      have h2 : q < d1.size := by omega
      have h3 : p < d.size := by omega
      have h4 : q < d.size := by omega
      simp [e4, e5, h1, h2, h3, h4, hid]
      refine inv_p (Less_N hL (dg d1 p) (dg d1 q)) rfl rfl ?_
      rintro _ rfl
      rw [show first + r = p by omega, show first + x = q by omega] at hx3
      cases hcmp : ltN (dg d1 p) (dg d1 q)
      · simp
        refine fini _ ?_
        rw [← hfin, hx3, hcmp]; rfl
      · simp [e4, e5, h1, h2, h3, h4, hid]
        refine ⟨hi - x, by omega, GhostV.refl ⟨x, Go.Sort.swp d1 p q, rfl, rfl, by omega, by simp [hd1], ?_, rfl⟩⟩
        rw [← hfin, hx3, hcmp]; rfl

theorem siftDown_size {hi first : Nat} : ∀ (r : Nat) (d : Array Nat), (Go.Sort.siftDown ltN hi first r d).size = d.size := by
  intro r d
  induction r, d using Go.Sort.siftDown.induct (lt := ltN) (hi := hi) (first := first) with
  | case1 r d h => rw [Go.Sort.siftDown, dif_pos h]
  | case2 r d h h1 h2 => rw [Go.Sort.siftDown, dif_neg h, if_pos h1, if_pos h2]
  | case3 r d h h1 h2 h3 ih => rw [Go.Sort.siftDown, dif_neg h, if_pos h1, if_neg h2, dif_pos h3, ih]; simp
  | case4 r d h h1 h2 h3 => rw [Go.Sort.siftDown, dif_neg h, if_pos h1, if_neg h2, dif_neg h3]
  | case5 r d h h1 h2 => rw [Go.Sort.siftDown, dif_neg h, if_neg h1, if_pos h2]
  | case6 r d h h1 h2 ih => rw [Go.Sort.siftDown, dif_neg h, if_neg h1, if_neg h2, ih]; simp

theorem heapBuild_size {hi first : Nat} : ∀ (k : Nat) (d : Array Nat), (Go.Sort.heapBuild ltN hi first k d).size = d.size
  | 0, d => rfl
  | k + 1, d => by rw [Go.Sort.heapBuild, heapBuild_size k, siftDown_size]

def HeapI (L : List (Option (Nat × Obj))) (id ver nv hi first : Nat) (fin : Array Nat) (sz : Nat) (k : Nat) (v : V) (st : St) : Prop :=
  ∃ m d, m = k ∧ v = .int .i64 ((m : Int) - 1) ∧ m ≤ sz ∧ d.size = sz ∧ Go.Sort.heapBuild ltN hi first m d = fin ∧ st = ⟨L.set id (some (ver, .mem 1 (rowsN d))), nv⟩
def PopI (L : List (Option (Nat × Obj))) (id ver nv first : Nat) (fin : Array Nat) (sz : Nat) (k : Nat) (v : V) (st : St) : Prop :=
  ∃ m d, m = k ∧ v = .int .i64 ((m : Int) - 1) ∧ first + m ≤ sz ∧ d.size = sz ∧ Go.Sort.heapPop ltN first m d = fin ∧ st = ⟨L.set id (some (ver, .mem 1 (rowsN d))), nv⟩

theorem heapSort_N (hL : LessR P) (hS : R_slices_siftDownOrdered_uint64 P) (hR : R_slices_heapSortOrdered_uint64 P) {L : List (Option (Nat × Obj))} {nv id ver : Nat} (hid : id < L.length) (d : Array Nat) (a b : Nat) (hab : a < b) (hb : b ≤ d.size) (hsz : d.size < 2 ^ 60)
    {K : V → St → Prop} (hk : K (.tup []) ⟨L.set id (some (ver, .mem 1 (rowsN (Go.Sort.heapSort ltN d a b)))), nv⟩) :
    ACalls P n_slices_heapSortOrdered_uint64 [.msl id ver 0 d.size, .int .i64 a, .int .i64 b] ⟨L.set id (some (ver, .mem 1 (rowsN d))), nv⟩ K := by
  refine A_slices_heapSortOrdered_uint64 hR ?_
  unfold F_slices_heapSortOrdered_uint64
  obtain ⟨hi, hhi⟩ : ∃ hi, hi = b - a := ⟨_, rfl⟩
  have e1 : IntKind.i64.wrap ((b : Int) - (a : Int)) = (hi : Int) := by rw [wrap_i64 (by omega)]; omega
  have e2 : IntKind.i64.wrap ((hi : Int) - 1) = (hi : Int) - 1 := wrap_i64 (by omega)
  obtain ⟨m0, hm0⟩ : ∃ m0, m0 = (hi - 1) / 2 + 1 := ⟨_, rfl⟩
  have e3 : IntKind.i64.wrap (((hi : Int) - 1).tdiv 2) = (m0 : Int) - 1 := by
    have : ((hi : Int) - 1).tdiv 2 = (((hi - 1) / 2 : Nat) : Int) := by
      rw [show (hi : Int) - 1 = ((hi - 1 : Nat) : Int) by omega]; rfl
    rw [this, wrap_i64 (by omega)]; omega
  simp [e1, e2, e3]
  refine ⟨HeapI L id ver nv hi a (Go.Sort.heapBuild ltN hi a m0 d) d.size, ⟨m0, GhostV.refl ⟨m0, d, rfl, rfl, by omega, rfl, rfl, rfl⟩⟩, ?_⟩
  rintro k v st ⟨m, d1, rfl, rfl, hm, hd1, hfin, rfl⟩
  by_cases hpos : 0 < m
  · obtain ⟨m, rfl⟩ : ∃ j, m = j + 1 := ⟨m - 1, by omega⟩
    have e4 : ((m + 1 : Nat) : Int) - 1 = (m : Int) := by omega
    rw [e4]
    have e5 : IntKind.i64.wrap ((m : Int) - 1) = (m : Int) - 1 := wrap_i64 (by omega)
    simp [e5]
    refine inv_f0 ?_
    rw [← hd1]
    refine siftDown_N hL hS hid d1 m hi a (by omega) (by omega) (by omega) ?_
    simp [e5]
    refine ⟨m, by omega, GhostV.refl ⟨m, Go.Sort.siftDown ltN hi a m d1, rfl, rfl, by omega, by rw [siftDown_size], ?_, rfl⟩⟩
    rw [← hfin]; rfl
  · obtain rfl : m = 0 := by omega
    simp [e2]
    have hd1' : d1 = Go.Sort.heapBuild ltN hi a m0 d := hfin
    refine ⟨PopI L id ver nv a (Go.Sort.heapSort ltN d a b) d.size, ⟨hi, GhostV.refl ⟨hi, d1, rfl, rfl, by omega, hd1, ?_, rfl⟩⟩, ?_⟩
    · rw [hd1', Go.Sort.heapSort, hm0, hhi]
    rintro k v st ⟨m, d2, rfl, rfl, hm2, hd2, hfin2, rfl⟩
    by_cases hpos : 0 < m
    · obtain ⟨m, rfl⟩ : ∃ j, m = j + 1 := ⟨m - 1, by omega⟩
      have e4 : ((m + 1 : Nat) : Int) - 1 = (m : Int) := by omega
      rw [e4]
      have e5 : IntKind.i64.wrap ((m : Int) - 1) = (m : Int) - 1 := wrap_i64 (by omega)
      obtain ⟨p, hp⟩ : ∃ p, p = a + m := ⟨_, rfl⟩
      have e6 : IntKind.i64.wrap ((a : Int) + (m : Int)) = (p : Int) := by rw [wrap_i64 (by omega)]; omega
      have h1 : p < d2.size := by omega
      have h2 : a < d2.size := by omega
      have h3 : p < d.size := by omega
      have h4 : a < d.size := by omega
      simp [e5, e6, h1, h2, h3, h4, hid]
      refine inv_f0 ?_
      have hsz2 : (Go.Sort.swp d2 a p).size = d.size := by simp [hd2]
      rw [← hsz2]
      refine siftDown_N hL hS hid (Go.Sort.swp d2 a p) 0 m a (by omega) (by rw [hsz2]; omega) (by rw [hsz2]; exact hsz) ?_
      simp [e5]
      refine ⟨m, by omega, GhostV.refl ⟨m, Go.Sort.siftDown ltN m a 0 (Go.Sort.swp d2 a p), rfl, rfl, by omega, by rw [siftDown_size, swp_size], ?_, rfl⟩⟩
      rw [← hfin2, hp]; rfl
    · obtain rfl : m = 0 := by omega
      simp
      have : d2 = Go.Sort.heapSort ltN d a b := hfin2
      subst this
      exact GhostV.refl (by simpa using hk)
end Go.Proofs.Ytmbhgjekjpkigaa.AM

namespace Go.Proofs.Ytmbhgjekjpkigaa.AM
open Go
set_option linter.unusedVariables false
set_option linter.unusedSimpArgs false
variable {P : Program}

theorem len8tab : ∀ n : Fin 256, ((#[0, 1, 2, 2, 3, 3, 3, 3, 4, 4, 4, 4, 4, 4, 4, 4, 5, 5, 5, 5, 5, 5, 5, 5, 5, 5, 5, 5, 5, 5, 5, 5, 6, 6, 6, 6, 6, 6, 6, 6, 6, 6, 6, 6, 6, 6, 6, 6, 6, 6, 6, 6, 6, 6, 6, 6, 6, 6, 6, 6, 6, 6, 6, 6, 7, 7, 7, 7, 7, 7, 7, 7, 7, 7, 7, 7, 7, 7, 7, 7, 7, 7, 7, 7, 7, 7, 7, 7, 7, 7, 7, 7, 7, 7, 7, 7, 7, 7, 7, 7, 7, 7, 7, 7, 7, 7, 7, 7, 7, 7, 7, 7, 7, 7, 7, 7, 7, 7, 7, 7, 7, 7, 7, 7, 7, 7, 7, 7, 8, 8, 8, 8, 8, 8, 8, 8, 8, 8, 8, 8, 8, 8, 8, 8, 8, 8, 8, 8, 8, 8, 8, 8, 8, 8, 8, 8, 8, 8, 8, 8, 8, 8, 8, 8, 8, 8, 8, 8, 8, 8, 8, 8, 8, 8, 8, 8, 8, 8, 8, 8, 8, 8, 8, 8, 8, 8, 8, 8, 8, 8, 8, 8, 8, 8, 8, 8, 8, 8, 8, 8, 8, 8, 8, 8, 8, 8, 8, 8, 8, 8, 8, 8, 8, 8, 8, 8, 8, 8, 8, 8, 8, 8, 8, 8, 8, 8, 8, 8, 8, 8, 8, 8, 8, 8, 8, 8, 8, 8, 8, 8, 8, 8, 8, 8, 8, 8, 8, 8, 8, 8, 8, 8, 8, 8, 8, 8] : Array UInt8).getD n.val 0).toNat = Go.Sort.bitsLen n.val := by decide +kernel
theorem bitsLen_8 {x : Nat} (h : 256 ≤ x) : Go.Sort.bitsLen x = 8 + Go.Sort.bitsLen (x / 256) := by
  have h1 : x / 256 ≠ 0 := by omega
  simp only [Go.Sort.bitsLen, show x ≠ 0 by omega, h1, if_false]
  have : Nat.log2 x = 8 + Nat.log2 (x / 256) := by
    have e : ∀ y : Nat, 2 ≤ y → Nat.log2 y = Nat.log2 (y / 2) + 1 := fun y hy => by rw [Nat.log2_def, if_pos hy]
    have q : ∀ k : Nat, x / 2 ^ k / 2 = x / 2 ^ (k + 1) := fun k => by rw [Nat.div_div_eq_div_mul, Nat.pow_succ]
    have l : ∀ k : Nat, k ≤ 7 → 2 ≤ x / 2 ^ k := by
      intro k hk
      refine (Nat.le_div_iff_mul_le (Nat.two_pow_pos k)).2 (Nat.le_trans ?_ h)
      have : 2 ^ k ≤ 2 ^ 7 := Nat.pow_le_pow_right (by omega) hk
      omega
    have s : ∀ k : Nat, k ≤ 8 → Nat.log2 x = k + Nat.log2 (x / 2 ^ k) := by
      intro k
      induction k with
      | zero => intro _; simp
      | succ k ih =>
        intro hk
        rw [ih (by omega), e _ (l k (by omega)), q]; omega
    exact s 8 (by omega)
  omega
structure BitsR (P : Program) : Prop where
  len : R_math_bits_Len P
  len64 : R_math_bits_Len64 P
def LenJ (x y : Nat) (v w : V) (st : St) : Prop := v = .int .u64 x ∧ w = .int .i64 y ∧ st = st0
set_option maxRecDepth 100000 in
theorem bits_Len (h : BitsR P) (x : Nat) (hx : x < 65536) : PCalls P n_math_bits_Len [.int .u64 x] (fun r => r = .int .i64 (Go.Sort.bitsLen x)) := by
  have h64 : PCalls P n_math_bits_Len64 [.int .u64 x] (fun r => r = .int .i64 (Go.Sort.bitsLen x)) := by
    refine A_math_bits_Len64 h.len64 ?_
    unfold F_math_bits_Len64
    refine ⟨LenJ x 0, ?_, ?_⟩
    · simp [show ¬ (4294967296 : Int) ≤ x by omega]
      exact GhostV.refl ⟨rfl, rfl, rfl⟩
    rintro _ _ _ ⟨rfl, rfl, rfl⟩
    refine ⟨LenJ x 0, ?_, ?_⟩
    · simp [show ¬ (65536 : Int) ≤ x by omega]
      exact GhostV.refl ⟨rfl, rfl, rfl⟩
    rintro _ _ _ ⟨rfl, rfl, rfl⟩
    by_cases h8 : 256 ≤ x
    · obtain ⟨y, hy⟩ : ∃ y, y = x / 256 := ⟨_, rfl⟩
      have e1 : (x : Int).fdiv 256 = (y : Int) := by rw [hy, Int.fdiv_eq_ediv_of_nonneg _ (by omega)]; omega
      have e2 : IntKind.u8.wrap (y : Int) = (y : Int) := by show (y : Int) % 256 = y; omega
      have e3 : IntKind.i64.wrap (0 + 8) = 8 := by decide
      have hy' : y < 256 := by omega
      have ht := len8tab ⟨y, hy'⟩
      have hb : Go.Sort.bitsLen y ≤ 16 := by unfold Go.Sort.bitsLen; split <;> first | omega | (have := Nat.log2_lt (n := y) (k := 8) (by omega); omega)
      simp only [op_bin, aop_bin, binV_int, intBin_geq, ne_eq, reduceCtorEq, not_false_eq_true, Option.map_some, res_some, cnd_true, show decide ((256 : Int) ≤ x) = true by simp; omega]
      simp only [op_bin, aop_bin, binV_shr, binV_int, intBin_add, ne_eq, reduceCtorEq, not_false_eq_true, op_conv, aop_conv, Option.map_some, res_some, show ¬ ((8 : Int) < 0) by omega, if_false, show min (Int.toNat 8) IntKind.u64.bits = 8 by decide, show ((2 : Int) ^ 8) = 256 by decide, e1, e2, e3]
      rw [op_idxS, aop_idxS, if_pos ⟨by omega, by show (y : Int) < ((256 : Nat) : Int); omega⟩]
      simp only [res_some, op_conv, aop_conv, Int.toNat_natCast, op_bin, aop_bin, binV_int, intBin_add, ne_eq, reduceCtorEq, not_false_eq_true, Option.map_some]
      refine GhostV.refl ⟨rfl, ?_⟩
      simp only [mkres1]
      erw [ht]
      rw [bitsLen_8 h8, ← hy]
      congr 1
      show IntKind.i64.wrap (IntKind.i64.wrap (((0 : Nat) : Int) + 8) + IntKind.i64.wrap ((Go.Sort.bitsLen y : Nat) : Int)) = _
      rw [show IntKind.i64.wrap (((0 : Nat) : Int) + 8) = 8 by decide, wrap_i64 (x := ((Go.Sort.bitsLen y : Nat) : Int)) (by omega), wrap_i64 (by omega)]; omega
    · have e2 : IntKind.u8.wrap (x : Int) = (x : Int) := by show (x : Int) % 256 = x; omega
      have ht := len8tab ⟨x, by omega⟩
      have hb : Go.Sort.bitsLen x ≤ 16 := by unfold Go.Sort.bitsLen; split <;> first | omega | (have := Nat.log2_lt (n := x) (k := 8) (by omega); omega)
      simp only [op_bin, aop_bin, binV_int, intBin_geq, ne_eq, reduceCtorEq, not_false_eq_true, Option.map_some, res_some, cnd_false, show decide ((256 : Int) ≤ x) = false by simp; omega]
      simp only [op_conv, aop_conv, res_some, e2]
      rw [op_idxS, aop_idxS, if_pos ⟨by omega, by show (x : Int) < ((256 : Nat) : Int); omega⟩]
      simp only [res_some, op_conv, aop_conv, Int.toNat_natCast, op_bin, aop_bin, binV_int, intBin_add, ne_eq, reduceCtorEq, not_false_eq_true, Option.map_some]
      refine GhostV.refl ⟨rfl, ?_⟩
      simp only [mkres1]
      erw [ht]
      congr 1
      show IntKind.i64.wrap (((0 : Nat) : Int) + IntKind.i64.wrap ((Go.Sort.bitsLen x : Nat) : Int)) = _
      rw [wrap_i64 (x := ((Go.Sort.bitsLen x : Nat) : Int)) (by omega), wrap_i64 (by omega)]; omega
  refine A_math_bits_Len h.len ?_
  unfold F_math_bits_Len
  simp [st0]
  refine inv_p h64 rfl rfl ?_
  rintro _ rfl
  exact GhostV.refl ⟨rfl, rfl⟩
end Go.Proofs.Ytmbhgjekjpkigaa.AM

namespace Go.Proofs.Ytmbhgjekjpkigaa.AM
open Go
set_option linter.unusedVariables false
set_option linter.unusedSimpArgs false
variable {P : Program}

/-! ### the other way round -/
def RevI (L : List (Option (Nat × Obj))) (id ver nv : Nat) (fin : Array Nat) (sz : Nat) (k : Nat) (v w : V) (st : St) : Prop :=
  ∃ i j d, k = j - i ∧ v = .int .i64 i ∧ w = .int .i64 ((j : Nat) : Int) ∧ j < sz ∧ i ≤ sz ∧ d.size = sz ∧ Go.Sort.reverseLoop i j d = fin ∧ st = ⟨L.set id (some (ver, .mem 1 (rowsN d))), nv⟩
theorem reverseRange_N (hR : R_slices_reverseRangeOrdered_uint64 P) {L : List (Option (Nat × Obj))} {nv id ver : Nat} (hid : id < L.length) (d : Array Nat) (a b : Nat) (hab : a < b) (hb : b ≤ d.size) (hsz : d.size < 2 ^ 60)
    {K : V → St → Prop} (hk : K (.tup []) ⟨L.set id (some (ver, .mem 1 (rowsN (Go.Sort.reverseRange d a b)))), nv⟩) :
    ACalls P n_slices_reverseRangeOrdered_uint64 [.msl id ver 0 d.size, .int .i64 a, .int .i64 b] ⟨L.set id (some (ver, .mem 1 (rowsN d))), nv⟩ K := by
  refine A_slices_reverseRangeOrdered_uint64 hR ?_
  unfold F_slices_reverseRangeOrdered_uint64
  simp [wsub1 (show b < 2 ^ 63 by omega) (by omega)]
  refine ⟨RevI L id ver nv (Go.Sort.reverseRange d a b) d.size, ⟨b - 1 - a, GhostV.refl ⟨a, b - 1, d, rfl, rfl, by simp, by omega, by omega, rfl, rfl, rfl⟩⟩, ?_⟩
  rintro k v w st ⟨i, j, d1, rfl, rfl, rfl, hj, hi, hd1, hfin, rfl⟩
  by_cases hlt : i < j
  · have h1 : i < d1.size := by omega
    have h2 : j < d1.size := by omega
    have h3 : i < d.size := by omega
    simp [hlt, h1, h2, h3, hj, hid]
    refine ⟨j - 1 - (i + 1), by omega, GhostV.refl ⟨i + 1, j - 1, Go.Sort.swp d1 i j, rfl, by rw [wadd1 (by omega)], by rw [wsub1 (by omega) (by omega)], by omega, by omega, by simp [hd1], ?_, rfl⟩⟩
    rw [← hfin]
    conv => rhs; rw [Go.Sort.reverseLoop]
    rw [if_pos hlt]
  · simp [hlt]
    have : d1 = Go.Sort.reverseRange d a b := by rw [← hfin, Go.Sort.reverseLoop, if_neg hlt]
    subst this
    exact GhostV.refl (by simpa using hk)

/-! ### the median -/
theorem order2_N (hL : LessR P) (hR : R_slices_order2Ordered_uint64 P) {L : List (Option (Nat × Obj))} {nv id ver sid sver s : Nat} (d : Array Nat) (hA : L[id]? = some (some (ver, .mem 1 (rowsN d)))) (hS : L[sid]? = some (some (sver, .mem 1 [[.int .i64 s]])))
    (a b : Nat) (ha : a < d.size) (hb : b < d.size) (hs : s < 2 ^ 60)
    {K : V → St → Prop} (hk : K (.tup [.int .i64 (Go.Sort.order2 ltN d a b s).1, .int .i64 (Go.Sort.order2 ltN d a b s).2.1]) ⟨L.set sid (some (sver, .mem 1 [[.int .i64 (Go.Sort.order2 ltN d a b s).2.2]])), nv⟩) :
    ACalls P n_slices_order2Ordered_uint64 [.msl id ver 0 d.size, .int .i64 a, .int .i64 b, .ptr sid sver 0 0] ⟨L, nv⟩ K := by
  refine A_slices_order2Ordered_uint64 hR ?_
  unfold F_slices_order2Ordered_uint64
  have hsl : sid < L.length := (List.getElem?_eq_some_iff.1 hS).1
  simp [hA, ha, hb]
  refine inv_p (Less_N hL (dg d b) (dg d a)) rfl rfl ?_
  rintro _ rfl
  have e : Go.Sort.order2 ltN d a b s = if ltN (dg d b) (dg d a) then (b, a, s + 1) else (a, b, s) := rfl
  rw [e] at hk
  cases hc : ltN (dg d b) (dg d a)
  · simp
    rw [hc] at hk
    simp [set_self hS] at hk
    exact GhostV.refl (by simpa using hk)
  · simp [hS]
    rw [hc] at hk
    simp at hk
    refine GhostV.refl ?_
    rw [wadd1 (by omega)]
    simpa using hk

theorem order2_lt {d : Array Nat} {a b s n : Nat} (ha : a < n) (hb : b < n) : (Go.Sort.order2 ltN d a b s).1 < n ∧ (Go.Sort.order2 ltN d a b s).2.1 < n ∧ (Go.Sort.order2 ltN d a b s).2.2 ≤ s + 1 := by
  unfold Go.Sort.order2
  split
  · exact ⟨hb, ha, Nat.le_refl _⟩
  · exact ⟨ha, hb, by simp⟩
structure MedR (P : Program) : Prop extends LessR P where
  ord : R_slices_order2Ordered_uint64 P
  med : R_slices_medianOrdered_uint64 P
  adj : R_slices_medianAdjacentOrdered_uint64 P
  cho : R_slices_choosePivotOrdered_uint64 P
theorem median_N (h : MedR P) {L : List (Option (Nat × Obj))} {nv id ver sid sver s : Nat} (d : Array Nat) (hA : L[id]? = some (some (ver, .mem 1 (rowsN d)))) (hS : L[sid]? = some (some (sver, .mem 1 [[.int .i64 s]]))) (hne : sid ≠ id)
    (a b c : Nat) (ha : a < d.size) (hb : b < d.size) (hc : c < d.size) (hs : s < 1000)
    {K : V → St → Prop} (hk : K (.int .i64 (Go.Sort.median ltN d a b c s).1) ⟨L.set sid (some (sver, .mem 1 [[.int .i64 (Go.Sort.median ltN d a b c s).2]])), nv⟩) :
    ACalls P n_slices_medianOrdered_uint64 [.msl id ver 0 d.size, .int .i64 a, .int .i64 b, .int .i64 c, .ptr sid sver 0 0] ⟨L, nv⟩ K := by
  refine A_slices_medianOrdered_uint64 h.med ?_
  unfold F_slices_medianOrdered_uint64
  have hsl : sid < L.length := (List.getElem?_eq_some_iff.1 hS).1
  obtain ⟨r1, hr1⟩ : ∃ r1, r1 = Go.Sort.order2 ltN d a b s := ⟨_, rfl⟩
  obtain ⟨q1, q2, q3⟩ := order2_lt (d := d) (s := s) ha hb
  rw [← hr1] at q1 q2 q3
  obtain ⟨r2, hr2⟩ : ∃ r2, r2 = Go.Sort.order2 ltN d r1.2.1 c r1.2.2 := ⟨_, rfl⟩
  obtain ⟨p1, p2, p3⟩ := order2_lt (d := d) (s := r1.2.2) q2 hc
  rw [← hr2] at p1 p2 p3
  obtain ⟨r3, hr3⟩ : ∃ r3, r3 = Go.Sort.order2 ltN d r1.1 r2.1 r2.2.2 := ⟨_, rfl⟩
  have hm : Go.Sort.median ltN d a b c s = (r3.2.1, r3.2.2) := by subst hr1 hr2 hr3; rfl
  rw [hm] at hk
  simp
  refine inv_f0 (order2_N h.toLessR h.ord d hA hS a b ha hb (by omega) ?_)
  rw [← hr1]
  simp
  refine inv_f0 (order2_N h.toLessR h.ord (s := r1.2.2) d (by rw [List.getElem?_set_ne hne]; exact hA) (by simp [hsl]) r1.2.1 c q2 hc (by omega) ?_)
  rw [← hr2]
  simp
  refine inv_f0 (order2_N h.toLessR h.ord (s := r2.2.2) d (by rw [List.getElem?_set_ne hne]; exact hA) (by simp [hsl]) r1.1 r2.1 q1 p1 (by omega) ?_)
  rw [← hr3]
  simp
  exact GhostV.refl (by simpa using hk)

theorem median_lt {d : Array Nat} {a b c s n : Nat} (ha : a < n) (hb : b < n) (hc : c < n) : (Go.Sort.median ltN d a b c s).1 < n ∧ (Go.Sort.median ltN d a b c s).2 ≤ s + 3 := by
  obtain ⟨r1, hr1⟩ : ∃ r1, r1 = Go.Sort.order2 ltN d a b s := ⟨_, rfl⟩
  obtain ⟨q1, q2, q3⟩ := order2_lt (d := d) (s := s) ha hb
  rw [← hr1] at q1 q2 q3
  obtain ⟨r2, hr2⟩ : ∃ r2, r2 = Go.Sort.order2 ltN d r1.2.1 c r1.2.2 := ⟨_, rfl⟩
  obtain ⟨p1, p2, p3⟩ := order2_lt (d := d) (s := r1.2.2) q2 hc
  rw [← hr2] at p1 p2 p3
  obtain ⟨r3, hr3⟩ : ∃ r3, r3 = Go.Sort.order2 ltN d r1.1 r2.1 r2.2.2 := ⟨_, rfl⟩
  obtain ⟨o1, o2, o3⟩ := order2_lt (d := d) (s := r2.2.2) q1 p1
  rw [← hr3] at o1 o2 o3
  have hm : Go.Sort.median ltN d a b c s = (r3.2.1, r3.2.2) := by subst hr1 hr2 hr3; rfl
  rw [hm]
  exact ⟨o2, by simp only; omega⟩
theorem medianAdjacent_N (h : MedR P) {L : List (Option (Nat × Obj))} {nv id ver sid sver s : Nat} (d : Array Nat) (hA : L[id]? = some (some (ver, .mem 1 (rowsN d)))) (hS : L[sid]? = some (some (sver, .mem 1 [[.int .i64 s]]))) (hne : sid ≠ id)
    (a : Nat) (h0 : 0 < a) (ha : a + 1 < d.size) (hsz : d.size < 2 ^ 60) (hs : s < 1000)
    {K : V → St → Prop} (hk : K (.int .i64 (Go.Sort.medianAdjacent ltN d a s).1) ⟨L.set sid (some (sver, .mem 1 [[.int .i64 (Go.Sort.medianAdjacent ltN d a s).2]])), nv⟩) :
    ACalls P n_slices_medianAdjacentOrdered_uint64 [.msl id ver 0 d.size, .int .i64 a, .ptr sid sver 0 0] ⟨L, nv⟩ K := by
  refine A_slices_medianAdjacentOrdered_uint64 h.adj ?_
  unfold F_slices_medianAdjacentOrdered_uint64
  simp [wsub1 (show a < 2 ^ 63 by omega) h0, wadd1 (show a < 2 ^ 62 by omega)]
  refine inv_f0 ?_
  have e : ((a : Int) + 1) = ((a + 1 : Nat) : Int) := by omega
  rw [e]
  exact median_N h d hA hS hne (a - 1) a (a + 1) (by omega) (by omega) ha hs (GhostV.refl (by simpa [Go.Sort.medianAdjacent] using hk))

def hintN : Go.Sort.Hint → Nat
  | .unknown => 0 | .increasing => 1 | .decreasing => 2
def ChoJ (L : List (Option (Nat × Obj))) (nv p s : Nat) (v : V) (st : St) : Prop := v = .int .i64 p ∧ s < 1000 ∧ st = ⟨L ++ [some (nv, .mem 1 [[.int .i64 s]])], nv + 1⟩
set_option maxHeartbeats 4000000 in
theorem choosePivot_N (h : MedR P) {L : List (Option (Nat × Obj))} {nv id ver : Nat} (d : Array Nat) (hA : L[id]? = some (some (ver, .mem 1 (rowsN d)))) (a b : Nat) (hab : a < b) (hb : b ≤ d.size) (hsz : d.size < 2 ^ 50)
    {K : V → St → Prop} (hk : ∀ nv', K (.tup [.int .i64 (Go.Sort.choosePivot ltN d a b).1, .int .i64 (hintN (Go.Sort.choosePivot ltN d a b).2)]) ⟨L, nv'⟩) :
    ACalls P n_slices_choosePivotOrdered_uint64 [.msl id ver 0 d.size, .int .i64 a, .int .i64 b] ⟨L, nv⟩ K := by
  refine A_slices_choosePivotOrdered_uint64 h.cho ?_
  unfold F_slices_choosePivotOrdered_uint64
  have hil : id < L.length := (List.getElem?_eq_some_iff.1 hA).1
  obtain ⟨l, hl⟩ : ∃ l, l = b - a := ⟨_, rfl⟩
  obtain ⟨i, hi⟩ : ∃ i, i = a + l / 4 * 1 := ⟨_, rfl⟩
  obtain ⟨j, hj⟩ : ∃ j, j = a + l / 4 * 2 := ⟨_, rfl⟩
  obtain ⟨k, hk'⟩ : ∃ k, k = a + l / 4 * 3 := ⟨_, rfl⟩
  have e1 : IntKind.i64.wrap ((b : Int) - (a : Int)) = (l : Int) := by rw [wrap_i64 (by omega)]; omega
  have e2 : IntKind.i64.wrap ((l : Int).tdiv 4) = ((l / 4 : Nat) : Int) := by
    have : (l : Int).tdiv 4 = ((l / 4 : Nat) : Int) := rfl
    rw [this, wrap_i64 (by omega)]
  have e3 : ∀ q : Nat, q ≤ 3 → IntKind.i64.wrap (((l / 4 : Nat) : Int) * (q : Int)) = ((l / 4 * q : Nat) : Int) := by
    intro q hq
    have : ((l / 4 : Nat) : Int) * (q : Int) = ((l / 4 * q : Nat) : Int) := by simp
    have hle : l / 4 * q ≤ l / 4 * 3 := Nat.mul_le_mul_left _ hq
    rw [this, wrap_i64 (by omega)]
  have e31 := e3 1 (by omega)
  have e32 := e3 2 (by omega)
  have e33 := e3 3 (by omega)
  have e41 : IntKind.i64.wrap ((a : Int) + ((l / 4 * 1 : Nat) : Int)) = (i : Int) := by rw [wrap_i64 (by omega)]; omega
  have e42 : IntKind.i64.wrap ((a : Int) + ((l / 4 * 2 : Nat) : Int)) = (j : Int) := by rw [wrap_i64 (by omega)]; omega
  have e43 : IntKind.i64.wrap ((a : Int) + ((l / 4 * 3 : Nat) : Int)) = (k : Int) := by rw [wrap_i64 (by omega)]; omega
  have c1 : ((1 : Nat) : Int) = 1 := rfl
  have c2 : ((2 : Nat) : Int) = 2 := rfl
  have c3 : ((3 : Nat) : Int) = 3 := rfl
  rw [c1] at e31; rw [c2] at e32; rw [c3] at e33
  simp only [op_bin, aop_bin, binV_int, intBin_sub, intBin_quo, intBin_mul, intBin_add, ne_eq, reduceCtorEq, not_false_eq_true, Option.map_some, res_some, op_alloc, aop_alloc, e1, e2, show ¬ ((4 : Int) = 0) by omega, if_false, e31, e32, e33, e41, e42, e43]
  obtain ⟨r, hr⟩ : ∃ r : Nat × Nat, r = if l ≥ 8 then (if l ≥ 50 then
        let ri := Go.Sort.medianAdjacent ltN d i 0
        let rj := Go.Sort.medianAdjacent ltN d j ri.2
        let rk := Go.Sort.medianAdjacent ltN d k rj.2
        Go.Sort.median ltN d ri.1 rj.1 rk.1 rk.2
      else Go.Sort.median ltN d i j k 0) else (j, 0) := ⟨_, rfl⟩
  have hcp : Go.Sort.choosePivot ltN d a b = (r.1, if r.2 = 0 then .increasing else if r.2 = 12 then .decreasing else .unknown) := by
    subst hr hi hj hk' hl; rfl
  have hne : L.length ≠ id := by omega
  have hA' : ∀ x, (L ++ [x])[id]? = some (some (ver, .mem 1 (rowsN d))) := fun x => by rw [List.getElem?_append_left hil]; exact hA
  refine ⟨ChoJ L nv r.1 r.2, ?_, ?_⟩
  · by_cases h8 : 8 ≤ l
    · have h8' : (8 : Int) ≤ (l : Int) := by omega
      have hl4 : 2 ≤ l / 4 := by omega
      by_cases h50 : 50 ≤ l
      · have h50' : (50 : Int) ≤ (l : Int) := by omega
        simp [h8', h50']
        have hd1 := median_lt (d := d) (s := 0) (n := d.size) (a := i - 1) (b := i) (c := i + 1) (by omega) (by omega) (by omega)
        refine inv_f0 (medianAdjacent_N h (s := 0) d (hA' _) (by simp) hne i (by omega) (by omega) (by omega) (by omega) ?_)
        obtain ⟨ri, hri⟩ : ∃ ri, ri = Go.Sort.medianAdjacent ltN d i 0 := ⟨_, rfl⟩
        have hd1 : ri.1 < d.size ∧ ri.2 ≤ 0 + 3 := by rw [hri]; exact hd1
        rw [← hri]
        simp
        have hd2 := median_lt (d := d) (s := ri.2) (n := d.size) (a := j - 1) (b := j) (c := j + 1) (by omega) (by omega) (by omega)
        refine inv_f0 (medianAdjacent_N h (s := ri.2) d (hA' _) (by simp) hne j (by omega) (by omega) (by omega) (by omega) ?_)
        obtain ⟨rj, hrj⟩ : ∃ rj, rj = Go.Sort.medianAdjacent ltN d j ri.2 := ⟨_, rfl⟩
        have hd2 : rj.1 < d.size ∧ rj.2 ≤ ri.2 + 3 := by rw [hrj]; exact hd2
        rw [← hrj]
        simp
        have hd3 := median_lt (d := d) (s := rj.2) (n := d.size) (a := k - 1) (b := k) (c := k + 1) (by omega) (by omega) (by omega)
        refine inv_f0 (medianAdjacent_N h (s := rj.2) d (hA' _) (by simp) hne k (by omega) (by omega) (by omega) (by omega) ?_)
        obtain ⟨rk, hrk⟩ : ∃ rk, rk = Go.Sort.medianAdjacent ltN d k rj.2 := ⟨_, rfl⟩
        have hd3 : rk.1 < d.size ∧ rk.2 ≤ rj.2 + 3 := by rw [hrk]; exact hd3
        rw [← hrk]
        simp
        have hd4 := median_lt (d := d) (s := rk.2) hd1.1 hd2.1 hd3.1
        refine inv_f0 (median_N h (s := rk.2) d (hA' _) (by simp) hne ri.1 rj.1 rk.1 hd1.1 hd2.1 hd3.1 (by omega) ?_)
        have hr' : r = Go.Sort.median ltN d ri.1 rj.1 rk.1 rk.2 := by
          rw [hr, if_pos h8, if_pos h50]; subst hri hrj hrk; rfl
        rw [← hr']
        rw [← hr'] at hd4
        exact GhostV.refl ⟨rfl, by omega, by simp⟩
      · have h50' : ¬ (50 : Int) ≤ (l : Int) := by omega
        simp [h8', h50']
        have hd4 := median_lt (d := d) (s := 0) (n := d.size) (a := i) (b := j) (c := k) (by omega) (by omega) (by omega)
        refine inv_f0 (median_N h (s := 0) d (hA' _) (by simp) hne i j k (by omega) (by omega) (by omega) (by omega) ?_)
        have hr' : r = Go.Sort.median ltN d i j k 0 := by rw [hr, if_pos h8, if_neg h50]
        rw [← hr']
        rw [← hr'] at hd4
        exact GhostV.refl ⟨rfl, by omega, by simp⟩
    · have h8' : ¬ (8 : Int) ≤ (l : Int) := by omega
      simp [h8']
      have hr' : r = (j, 0) := by rw [hr, if_neg h8]
      rw [hr']
      exact GhostV.refl ⟨rfl, by omega, rfl⟩
  · rintro v st ⟨rfl, hs, rfl⟩
    rw [hcp] at hk
    have fini : ∀ n : Nat, K (.tup [.int .i64 r.1, .int .i64 n]) ⟨L, nv + 1⟩ → GhostV [.int .i64 r.1, .int .i64 n] ⟨L ++ [some (nv, .mem 1 [[.int .i64 r.2]])], nv + 1⟩ (fun vs st => K (mkres vs) st) := by
      intro n hK
      refine GhostV.take L.length ?_
      simpa using hK
    simp
    by_cases h0 : r.2 = 0
    · simp [h0]
      have := hk (nv + 1)
      simp only [h0, if_true] at this
      have h := fini 1 this
      rw [h0] at h
      exact h
    · have h0' : ¬ ((r.2 : Int) = 0) := by omega
      simp [h0]
      by_cases h12 : r.2 = 12
      · simp [h12]
        have := hk (nv + 1)
        simp only [h12, if_true] at this
        have h := fini 2 this
        rw [h12] at h
        exact h
      · have h12' : ¬ ((r.2 : Int) = 12) := by omega
        simp [h12']
        have := hk (nv + 1)
        simp only [h0, h12, if_false] at this
        exact fini 0 this
end Go.Proofs.Ytmbhgjekjpkigaa.AM

namespace Go.Proofs.Ytmbhgjekjpkigaa.AM
open Go
set_option linter.unusedVariables false
set_option linter.unusedSimpArgs false
variable {P : Program}

def ScU (L : List (Option (Nat × Obj))) (id ver nv : Nat) (d : Array Nat) (p : Nat → Bool) (j lo fin : Nat) (k : Nat) (v : V) (st : St) : Prop :=
  ∃ i, k = j + 1 - i ∧ v = .int .i64 ((i : Nat) : Int) ∧ lo ≤ i ∧ i ≤ max (j + 1) lo ∧ Go.Sort.scanUp p d j i = fin ∧ st = ⟨L.set id (some (ver, .mem 1 (rowsN d))), nv⟩
def ScD (L : List (Option (Nat × Obj))) (id ver nv : Nat) (d : Array Nat) (p : Nat → Bool) (i hi fin : Nat) (k : Nat) (v : V) (st : St) : Prop :=
  ∃ j, j = k ∧ v = .int .i64 ((j : Nat) : Int) ∧ j ≤ hi ∧ Go.Sort.scanDown p d i j = fin ∧ st = ⟨L.set id (some (ver, .mem 1 (rowsN d))), nv⟩
def ScJ (L : List (Option (Nat × Obj))) (id ver nv : Nat) (d : Array Nat) (fin : Nat) (v : V) (st : St) : Prop :=
  v = .int .i64 ((fin : Nat) : Int) ∧ st = ⟨L.set id (some (ver, .mem 1 (rowsN d))), nv⟩
theorem scanUp_step {p : Nat → Bool} {d : Array Nat} {j i : Nat} (h : i ≤ j) (hp : p (dg d i) = true) : Go.Sort.scanUp p d j (i + 1) = Go.Sort.scanUp p d j i := by
  conv => rhs; rw [Go.Sort.scanUp]
  rw [if_pos]; simp only [dg] at hp; simp [h, hp]
theorem scanUp_stop {p : Nat → Bool} {d : Array Nat} {j i : Nat} (h : ¬ i ≤ j ∨ p (dg d i) = false) : Go.Sort.scanUp p d j i = i := by
  rw [Go.Sort.scanUp, if_neg]
  simp only [dg] at h
  rcases h with h | h <;> simp [h]
theorem scanDown_step {p : Nat → Bool} {d : Array Nat} {i j : Nat} (h : i ≤ j + 1) (hp : p (dg d (j + 1)) = true) : Go.Sort.scanDown p d i j = Go.Sort.scanDown p d i (j + 1) := by
  conv => rhs; rw [Go.Sort.scanDown]
  rw [if_pos]; simp only [dg] at hp; simp [h, hp]
theorem scanDown_stop {p : Nat → Bool} {d : Array Nat} {i j : Nat} (h : ¬ i ≤ j ∨ p (dg d j) = false) : Go.Sort.scanDown p d i j = j := by
  cases j with
  | zero => rfl
  | succ j =>
    rw [Go.Sort.scanDown, if_neg]
    simp only [dg] at h
    rcases h with h | h <;> simp [h]

def PeJ (L : List (Option (Nat × Obj))) (id ver nv : Nat) (r : Nat × Array Nat) (v : V) (st : St) : Prop :=
  v = .int .i64 ((r.1 : Nat) : Int) ∧ st = ⟨L.set id (some (ver, .mem 1 (rowsN r.2))), nv⟩
def PeI (L : List (Option (Nat × Obj))) (id ver nv a b sz : Nat) (fin : Nat × Array Nat) (k : Nat) (v w : V) (st : St) : Prop :=
  ∃ i j d, k = j + 1 - i ∧ v = .int .i64 ((i : Nat) : Int) ∧ w = .int .i64 ((j : Nat) : Int) ∧ a < i ∧ i ≤ b ∧ j < b ∧ d.size = sz ∧ Go.Sort.partEqLoop ltN a i j d = fin ∧ st = ⟨L.set id (some (ver, .mem 1 (rowsN d))), nv⟩
theorem partitionEqual_N (hL : LessR P) (hR : R_slices_partitionEqualOrdered_uint64 P) {L : List (Option (Nat × Obj))} {nv id ver : Nat} (hid : id < L.length) (d : Array Nat) (a b p : Nat) (hap : a ≤ p) (hpb : p < b) (hb : b ≤ d.size) (hsz : d.size < 2 ^ 60)
    {K : V → St → Prop} (hk : K (.int .i64 (Go.Sort.partitionEqual ltN d a b p).1) ⟨L.set id (some (ver, .mem 1 (rowsN (Go.Sort.partitionEqual ltN d a b p).2))), nv⟩) :
    ACalls P n_slices_partitionEqualOrdered_uint64 [.msl id ver 0 d.size, .int .i64 a, .int .i64 b, .int .i64 p] ⟨L.set id (some (ver, .mem 1 (rowsN d))), nv⟩ K := by
  refine A_slices_partitionEqualOrdered_uint64 hR ?_
  unfold F_slices_partitionEqualOrdered_uint64
  have h1 : a < d.size := by omega
  have h2 : p < d.size := by omega
  simp [h1, h2, hid, wadd1 (show a < 2 ^ 62 by omega), wsub1 (show b < 2 ^ 63 by omega) (by omega)]
  refine ⟨PeJ L id ver nv (Go.Sort.partitionEqual ltN d a b p), ?_, ?_⟩
  · refine ⟨PeI L id ver nv a b d.size (Go.Sort.partitionEqual ltN d a b p), ⟨b - 1 + 1 - (a + 1), GhostV.refl ⟨a + 1, b - 1, Go.Sort.swp d a p, rfl, by simp, by rfl, by omega, by omega, by omega, by simp, rfl, rfl⟩⟩, ?_⟩
    rintro k v w st ⟨i, j, d1, rfl, rfl, rfl, hai, hib, hjb, hd1, hfin, rfl⟩
    rw [Go.Sort.partEqLoop_eq] at hfin
    obtain ⟨i2, hi2⟩ : ∃ i2, i2 = Go.Sort.scanUp (fun x => !ltN d1[a]! x) d1 j i := ⟨_, rfl⟩
    have hge := Go.Sort.scanUp_ge (fun x => !ltN d1[a]! x) d1 j i
    rw [← hi2] at hfin hge
    have ha1 : a < d1.size := by omega
    refine ⟨ScJ L id ver nv d1 i2, ?_, ?_⟩
    · refine ⟨ScU L id ver nv d1 (fun x => !ltN d1[a]! x) j i i2, ⟨j + 1 - i, GhostV.refl ⟨i, rfl, rfl, Nat.le_refl _, by omega, hi2.symm, rfl⟩⟩, ?_⟩
      rintro k v st ⟨q, rfl, rfl, hq1, hq2, hq3, rfl⟩
      by_cases hij : q ≤ j
      · have q1 : q < d1.size := by omega
        have q2 : q < d.size := by omega
        simp [hij, q1, q2, h1, ha1, hid]
        refine inv_p (Less_N hL (dg d1 a) (dg d1 q)) rfl rfl ?_
        rintro _ rfl
        cases hc : ltN (dg d1 a) (dg d1 q)
        · simp
          refine ⟨j + 1 - (q + 1), by omega, GhostV.refl ⟨q + 1, rfl, by rw [wadd1 (by omega)], by omega, by omega, ?_, rfl⟩⟩
          rw [← hq3]; exact scanUp_step hij (by show (!ltN (dg d1 a) (dg d1 q)) = true; rw [hc]; rfl)
        · simp
          have : i2 = q := by rw [← hq3]; exact scanUp_stop (.inr (by show (!ltN (dg d1 a) (dg d1 q)) = false; rw [hc]; rfl))
          subst this
          exact GhostV.refl ⟨rfl, rfl⟩
      · simp [hij]
        have : i2 = q := by rw [← hq3]; exact scanUp_stop (.inl hij)
        subst this
        exact GhostV.refl ⟨rfl, rfl⟩
    rintro v st ⟨rfl, rfl⟩
    obtain ⟨j2, hj2⟩ : ∃ j2, j2 = Go.Sort.scanDown (fun x => ltN d1[a]! x) d1 i2 j := ⟨_, rfl⟩
    have hle := Go.Sort.scanDown_le (fun x => ltN d1[a]! x) d1 i2 j
    rw [← hj2] at hfin hle
    refine ⟨ScJ L id ver nv d1 j2, ?_, ?_⟩
    · refine ⟨ScD L id ver nv d1 (fun x => ltN d1[a]! x) i2 j j2, ⟨j, GhostV.refl ⟨j, rfl, rfl, Nat.le_refl _, hj2.symm, rfl⟩⟩, ?_⟩
      rintro k v st ⟨q, rfl, rfl, hq1, hq3, rfl⟩
      by_cases hij : i2 ≤ q
      · have q1 : q < d1.size := by omega
        have q2 : q < d.size := by omega
        simp [hij, q1, q2, h1, ha1, hid]
        refine inv_p (Less_N hL (dg d1 a) (dg d1 q)) rfl rfl ?_
        rintro _ rfl
        cases hc : ltN (dg d1 a) (dg d1 q)
        · simp
          have : j2 = q := by rw [← hq3]; exact scanDown_stop (.inr hc)
          subst this
          exact GhostV.refl ⟨rfl, rfl⟩
        · simp
          obtain ⟨q', rfl⟩ : ∃ m, q = m + 1 := ⟨q - 1, by omega⟩
          refine ⟨q', by omega, GhostV.refl ⟨q', rfl, by rw [wsub1 (by omega) (by omega)]; rfl, by omega, ?_, rfl⟩⟩
          rw [← hq3]; exact scanDown_step hij hc
      · simp [hij]
        have : j2 = q := by rw [← hq3]; exact scanDown_stop (.inl hij)
        subst this
        exact GhostV.refl ⟨rfl, rfl⟩
    rintro v st ⟨rfl, rfl⟩
    by_cases hgt : j2 < i2
    · simp [hgt]
      rw [if_pos hgt] at hfin
      rw [← hfin]
      exact GhostV.refl ⟨rfl, rfl⟩
    · have q1 : i2 < d1.size := by omega
      have q2 : j2 < d1.size := by omega
      have q3 : i2 < d.size := by omega
      have q4 : j2 < d.size := by omega
      rw [if_neg hgt] at hfin
      simp [hgt, q1, q2, q3, q4, hid]
      exact ⟨j2 - 1 + 1 - (i2 + 1), by omega, GhostV.refl ⟨i2 + 1, j2 - 1, Go.Sort.swp d1 i2 j2, rfl, by rw [wadd1 (by omega)], by rw [wsub1 (by omega) (by omega)], by omega, by omega, by omega, by simp [hd1], hfin, rfl⟩⟩
  · rintro v st ⟨rfl, rfl⟩
    exact GhostV.refl hk

def PaI (L : List (Option (Nat × Obj))) (id ver nv a b sz : Nat) (fin : Nat × Array Nat) (k : Nat) (v w : V) (st : St) : Prop :=
  ∃ i j d, k = j + 1 - i ∧ v = .int .i64 ((i : Nat) : Int) ∧ w = .int .i64 ((j : Nat) : Int) ∧ a < i ∧ i ≤ b ∧ j < b ∧ d.size = sz ∧ Go.Sort.partLoop ltN a i j d = fin ∧ st = ⟨L.set id (some (ver, .mem 1 (rowsN d))), nv⟩
theorem partition_eq (d : Array Nat) (a b p : Nat) : Go.Sort.partition ltN d a b p =
    if Go.Sort.scanDown (fun x => !ltN x (Go.Sort.swp d a p)[a]!) (Go.Sort.swp d a p) (Go.Sort.scanUp (fun x => ltN x (Go.Sort.swp d a p)[a]!) (Go.Sort.swp d a p) (b - 1) (a + 1)) (b - 1) < Go.Sort.scanUp (fun x => ltN x (Go.Sort.swp d a p)[a]!) (Go.Sort.swp d a p) (b - 1) (a + 1)
    then (Go.Sort.scanDown (fun x => !ltN x (Go.Sort.swp d a p)[a]!) (Go.Sort.swp d a p) (Go.Sort.scanUp (fun x => ltN x (Go.Sort.swp d a p)[a]!) (Go.Sort.swp d a p) (b - 1) (a + 1)) (b - 1), true, Go.Sort.swp (Go.Sort.swp d a p) (Go.Sort.scanDown (fun x => !ltN x (Go.Sort.swp d a p)[a]!) (Go.Sort.swp d a p) (Go.Sort.scanUp (fun x => ltN x (Go.Sort.swp d a p)[a]!) (Go.Sort.swp d a p) (b - 1) (a + 1)) (b - 1)) a)
    else ((Go.Sort.partLoop ltN a (Go.Sort.scanUp (fun x => ltN x (Go.Sort.swp d a p)[a]!) (Go.Sort.swp d a p) (b - 1) (a + 1) + 1) (Go.Sort.scanDown (fun x => !ltN x (Go.Sort.swp d a p)[a]!) (Go.Sort.swp d a p) (Go.Sort.scanUp (fun x => ltN x (Go.Sort.swp d a p)[a]!) (Go.Sort.swp d a p) (b - 1) (a + 1)) (b - 1) - 1) (Go.Sort.swp (Go.Sort.swp d a p) (Go.Sort.scanUp (fun x => ltN x (Go.Sort.swp d a p)[a]!) (Go.Sort.swp d a p) (b - 1) (a + 1)) (Go.Sort.scanDown (fun x => !ltN x (Go.Sort.swp d a p)[a]!) (Go.Sort.swp d a p) (Go.Sort.scanUp (fun x => ltN x (Go.Sort.swp d a p)[a]!) (Go.Sort.swp d a p) (b - 1) (a + 1)) (b - 1)))).1, false,
      Go.Sort.swp (Go.Sort.partLoop ltN a (Go.Sort.scanUp (fun x => ltN x (Go.Sort.swp d a p)[a]!) (Go.Sort.swp d a p) (b - 1) (a + 1) + 1) (Go.Sort.scanDown (fun x => !ltN x (Go.Sort.swp d a p)[a]!) (Go.Sort.swp d a p) (Go.Sort.scanUp (fun x => ltN x (Go.Sort.swp d a p)[a]!) (Go.Sort.swp d a p) (b - 1) (a + 1)) (b - 1) - 1) (Go.Sort.swp (Go.Sort.swp d a p) (Go.Sort.scanUp (fun x => ltN x (Go.Sort.swp d a p)[a]!) (Go.Sort.swp d a p) (b - 1) (a + 1)) (Go.Sort.scanDown (fun x => !ltN x (Go.Sort.swp d a p)[a]!) (Go.Sort.swp d a p) (Go.Sort.scanUp (fun x => ltN x (Go.Sort.swp d a p)[a]!) (Go.Sort.swp d a p) (b - 1) (a + 1)) (b - 1)))).2
        (Go.Sort.partLoop ltN a (Go.Sort.scanUp (fun x => ltN x (Go.Sort.swp d a p)[a]!) (Go.Sort.swp d a p) (b - 1) (a + 1) + 1) (Go.Sort.scanDown (fun x => !ltN x (Go.Sort.swp d a p)[a]!) (Go.Sort.swp d a p) (Go.Sort.scanUp (fun x => ltN x (Go.Sort.swp d a p)[a]!) (Go.Sort.swp d a p) (b - 1) (a + 1)) (b - 1) - 1) (Go.Sort.swp (Go.Sort.swp d a p) (Go.Sort.scanUp (fun x => ltN x (Go.Sort.swp d a p)[a]!) (Go.Sort.swp d a p) (b - 1) (a + 1)) (Go.Sort.scanDown (fun x => !ltN x (Go.Sort.swp d a p)[a]!) (Go.Sort.swp d a p) (Go.Sort.scanUp (fun x => ltN x (Go.Sort.swp d a p)[a]!) (Go.Sort.swp d a p) (b - 1) (a + 1)) (b - 1)))).1 a) := by
  unfold Go.Sort.partition
  rfl
theorem partLoop_le (a : Nat) : ∀ (n i j : Nat) (d : Array Nat), j + 1 - i ≤ n → (Go.Sort.partLoop ltN a i j d).1 ≤ j ∧ (Go.Sort.partLoop ltN a i j d).2.size = d.size := by
  intro n
  induction n with
  | zero =>
    intro i j d hn
    rw [Go.Sort.partLoop_eq]
    have h1 := Go.Sort.scanUp_ge (fun x => ltN x d[a]!) d j i
    generalize Go.Sort.scanUp (fun x => ltN x d[a]!) d j i = i2 at *
    have h2 := Go.Sort.scanDown_le (fun x => !ltN x d[a]!) d i2 j
    generalize Go.Sort.scanDown (fun x => !ltN x d[a]!) d i2 j = j2 at *
    rw [if_pos (by omega)]
    exact ⟨h2, rfl⟩
  | succ n ih =>
    intro i j d hn
    rw [Go.Sort.partLoop_eq]
    have h1 := Go.Sort.scanUp_ge (fun x => ltN x d[a]!) d j i
    generalize Go.Sort.scanUp (fun x => ltN x d[a]!) d j i = i2 at *
    have h2 := Go.Sort.scanDown_le (fun x => !ltN x d[a]!) d i2 j
    generalize Go.Sort.scanDown (fun x => !ltN x d[a]!) d i2 j = j2 at *
    split
    · exact ⟨h2, rfl⟩
    · have := ih (i2 + 1) (j2 - 1) (Go.Sort.swp d i2 j2) (by omega)
      exact ⟨by omega, by rw [this.2]; simp⟩
theorem partition_N (hL : LessR P) (hR : R_slices_partitionOrdered_uint64 P) {L : List (Option (Nat × Obj))} {nv id ver : Nat} (hid : id < L.length) (d : Array Nat) (a b p : Nat) (hap : a ≤ p) (hpb : p < b) (hb : b ≤ d.size) (hsz : d.size < 2 ^ 60)
    {K : V → St → Prop} (hk : K (.tup [.int .i64 (Go.Sort.partition ltN d a b p).1, .bool (Go.Sort.partition ltN d a b p).2.1]) ⟨L.set id (some (ver, .mem 1 (rowsN (Go.Sort.partition ltN d a b p).2.2))), nv⟩) :
    ACalls P n_slices_partitionOrdered_uint64 [.msl id ver 0 d.size, .int .i64 a, .int .i64 b, .int .i64 p] ⟨L.set id (some (ver, .mem 1 (rowsN d))), nv⟩ K := by
  refine A_slices_partitionOrdered_uint64 hR ?_
  unfold F_slices_partitionOrdered_uint64
  have h1 : a < d.size := by omega
  have h2 : p < d.size := by omega
  obtain ⟨b1, hb1⟩ : ∃ b1, b1 = b - 1 := ⟨_, rfl⟩
  have eb : IntKind.i64.wrap ((b : Int) - 1) = (b1 : Int) := by rw [wrap_i64 (by omega)]; omega
  simp [h1, h2, hid, wadd1 (show a < 2 ^ 62 by omega), eb]
  rw [partition_eq, ← hb1] at hk
  obtain ⟨d1, hd1'⟩ : ∃ d1, d1 = Go.Sort.swp d a p := ⟨_, rfl⟩
  have hd1 : d1.size = d.size := by rw [hd1']; simp
  rw [← hd1'] at hk ⊢
  have ha1 : a < d1.size := by omega
  obtain ⟨i2, hi2⟩ : ∃ i2, i2 = Go.Sort.scanUp (fun x => ltN x d1[a]!) d1 b1 (a + 1) := ⟨_, rfl⟩
  have hge := Go.Sort.scanUp_ge (fun x => ltN x d1[a]!) d1 b1 (a + 1)
  have hub := (Go.Sort.scanUp_spec (fun x => ltN x d1[a]!) d1 b1 _ (a + 1) rfl).2
  rw [← hi2] at hk hge
  have up : ∀ (d1 : Array Nat) (j lo : Nat), d1.size = d.size → j < b → a < lo → ∀ (fin : Nat) (k : Nat) (q : Nat), k = j + 1 - q → lo ≤ q → q ≤ max (j + 1) lo → Go.Sort.scanUp (fun x => ltN x d1[a]!) d1 j q = fin → True := fun _ _ _ _ _ _ _ _ _ _ _ _ _ => trivial
  refine ⟨ScJ L id ver nv d1 i2, ?_, ?_⟩
  · refine ⟨ScU L id ver nv d1 (fun x => ltN x d1[a]!) b1 (a + 1) i2, ⟨b1 + 1 - (a + 1), GhostV.refl ⟨a + 1, rfl, by simp, Nat.le_refl _, by omega, hi2.symm, rfl⟩⟩, ?_⟩
    rintro k v st ⟨q, rfl, rfl, hq1, hq2, hq3, rfl⟩
    by_cases hij : q ≤ b1
    · have q1 : q < d1.size := by omega
      have q2 : q < d.size := by omega
      simp [hij, q1, q2, h1, ha1, hid]
      refine inv_p (Less_N hL (dg d1 q) (dg d1 a)) rfl rfl ?_
      rintro _ rfl
      cases hc : ltN (dg d1 q) (dg d1 a)
      · simp
        have : i2 = q := by rw [← hq3]; exact scanUp_stop (.inr hc)
        subst this
        exact GhostV.refl ⟨rfl, rfl⟩
      · simp
        refine ⟨b1 + 1 - (q + 1), by omega, GhostV.refl ⟨q + 1, rfl, by rw [wadd1 (by omega)], by omega, by omega, ?_, rfl⟩⟩
        rw [← hq3]; exact scanUp_step hij hc
    · simp [hij]
      have : i2 = q := by rw [← hq3]; exact scanUp_stop (.inl hij)
      subst this
      exact GhostV.refl ⟨rfl, rfl⟩
  rintro v st ⟨rfl, rfl⟩
  obtain ⟨j2, hj2⟩ : ∃ j2, j2 = Go.Sort.scanDown (fun x => !ltN x d1[a]!) d1 i2 b1 := ⟨_, rfl⟩
  have hle := Go.Sort.scanDown_le (fun x => !ltN x d1[a]!) d1 i2 b1
  rw [← hj2] at hk hle
  refine ⟨ScJ L id ver nv d1 j2, ?_, ?_⟩
  · refine ⟨ScD L id ver nv d1 (fun x => !ltN x d1[a]!) i2 b1 j2, ⟨b1, GhostV.refl ⟨b1, rfl, rfl, Nat.le_refl _, hj2.symm, rfl⟩⟩, ?_⟩
    rintro k v st ⟨q, rfl, rfl, hq1, hq3, rfl⟩
    by_cases hij : i2 ≤ q
    · have q1 : q < d1.size := by omega
      have q2 : q < d.size := by omega
      simp [hij, q1, q2, h1, ha1, hid]
      refine inv_p (Less_N hL (dg d1 q) (dg d1 a)) rfl rfl ?_
      rintro _ rfl
      cases hc : ltN (dg d1 q) (dg d1 a)
      · simp
        obtain ⟨q', rfl⟩ : ∃ m, q = m + 1 := ⟨q - 1, by omega⟩
        refine ⟨q', by omega, GhostV.refl ⟨q', rfl, by rw [wsub1 (by omega) (by omega)]; rfl, by omega, ?_, rfl⟩⟩
        rw [← hq3]; exact scanDown_step hij (by show (!ltN (dg d1 (q' + 1)) (dg d1 a)) = true; rw [hc]; rfl)
      · simp
        have : j2 = q := by rw [← hq3]; exact scanDown_stop (.inr (by show (!ltN (dg d1 q) (dg d1 a)) = false; rw [hc]; rfl))
        subst this
        exact GhostV.refl ⟨rfl, rfl⟩
    · simp [hij]
      have : j2 = q := by rw [← hq3]; exact scanDown_stop (.inl hij)
      subst this
      exact GhostV.refl ⟨rfl, rfl⟩
  rintro v st ⟨rfl, rfl⟩
  by_cases hgt : j2 < i2
  · have q1 : j2 < d1.size := by omega
    have q2 : j2 < d.size := by omega
    simp [hgt, q1, q2, h1, ha1, hid]
    rw [if_pos hgt] at hk
    exact GhostV.refl (by simpa using hk)
  · have q1 : i2 < d1.size := by omega
    have q2 : j2 < d1.size := by omega
    have q3 : i2 < d.size := by omega
    have q4 : j2 < d.size := by omega
    rw [if_neg hgt] at hk
    simp [hgt, q1, q2, q3, q4, hid]
    obtain ⟨r, hr⟩ : ∃ r, r = Go.Sort.partLoop ltN a (i2 + 1) (j2 - 1) (Go.Sort.swp d1 i2 j2) := ⟨_, rfl⟩
    obtain ⟨hr1, hr2⟩ := partLoop_le a _ (i2 + 1) (j2 - 1) (Go.Sort.swp d1 i2 j2) (Nat.le_refl _)
    rw [← hr] at hk hr1 hr2
    refine ⟨PeJ L id ver nv r, ?_, ?_⟩
    · refine ⟨PaI L id ver nv a b d.size r, ⟨j2 - 1 + 1 - (i2 + 1), GhostV.refl ⟨i2 + 1, j2 - 1, Go.Sort.swp d1 i2 j2, rfl, by rw [wadd1 (by omega)], by rw [wsub1 (by omega) (by omega)], by omega, by omega, by omega, by simp [hd1], hr.symm, rfl⟩⟩, ?_⟩
      clear hr hk hj2 hi2
      rintro k v w st ⟨i, j, d3, rfl, rfl, rfl, hai, hib, hjb, hd3, hfin, rfl⟩
      rw [Go.Sort.partLoop_eq] at hfin
      obtain ⟨i2, hi2⟩ : ∃ i2, i2 = Go.Sort.scanUp (fun x => ltN x d3[a]!) d3 j i := ⟨_, rfl⟩
      have hge := Go.Sort.scanUp_ge (fun x => ltN x d3[a]!) d3 j i
      rw [← hi2] at hfin hge
      have ha3 : a < d3.size := by omega
      refine ⟨ScJ L id ver nv d3 i2, ?_, ?_⟩
      · refine ⟨ScU L id ver nv d3 (fun x => ltN x d3[a]!) j i i2, ⟨j + 1 - i, GhostV.refl ⟨i, rfl, rfl, Nat.le_refl _, by omega, hi2.symm, rfl⟩⟩, ?_⟩
        rintro k v st ⟨q, rfl, rfl, hq1, hq2, hq3, rfl⟩
        by_cases hij : q ≤ j
        · have q1 : q < d3.size := by omega
          have q2 : q < d.size := by omega
          simp [hij, q1, q2, h1, ha3, hid]
          refine inv_p (Less_N hL (dg d3 q) (dg d3 a)) rfl rfl ?_
          rintro _ rfl
          cases hc : ltN (dg d3 q) (dg d3 a)
          · simp
            have : i2 = q := by rw [← hq3]; exact scanUp_stop (.inr hc)
            subst this
            exact GhostV.refl ⟨rfl, rfl⟩
          · simp
            refine ⟨j + 1 - (q + 1), by omega, GhostV.refl ⟨q + 1, rfl, by rw [wadd1 (by omega)], by omega, by omega, ?_, rfl⟩⟩
            rw [← hq3]; exact scanUp_step hij hc
        · simp [hij]
          have : i2 = q := by rw [← hq3]; exact scanUp_stop (.inl hij)
          subst this
          exact GhostV.refl ⟨rfl, rfl⟩
      rintro v st ⟨rfl, rfl⟩
      obtain ⟨j2, hj2⟩ : ∃ j2, j2 = Go.Sort.scanDown (fun x => !ltN x d3[a]!) d3 i2 j := ⟨_, rfl⟩
      have hle := Go.Sort.scanDown_le (fun x => !ltN x d3[a]!) d3 i2 j
      rw [← hj2] at hfin hle
      refine ⟨ScJ L id ver nv d3 j2, ?_, ?_⟩
      · refine ⟨ScD L id ver nv d3 (fun x => !ltN x d3[a]!) i2 j j2, ⟨j, GhostV.refl ⟨j, rfl, rfl, Nat.le_refl _, hj2.symm, rfl⟩⟩, ?_⟩
        rintro k v st ⟨q, rfl, rfl, hq1, hq3, rfl⟩
        by_cases hij : i2 ≤ q
        · have q1 : q < d3.size := by omega
          have q2 : q < d.size := by omega
          simp [hij, q1, q2, h1, ha3, hid]
          refine inv_p (Less_N hL (dg d3 q) (dg d3 a)) rfl rfl ?_
          rintro _ rfl
          cases hc : ltN (dg d3 q) (dg d3 a)
          · simp
            obtain ⟨q', rfl⟩ : ∃ m, q = m + 1 := ⟨q - 1, by omega⟩
            refine ⟨q', by omega, GhostV.refl ⟨q', rfl, by rw [wsub1 (by omega) (by omega)]; rfl, by omega, ?_, rfl⟩⟩
            rw [← hq3]; exact scanDown_step hij (by show (!ltN (dg d3 (q' + 1)) (dg d3 a)) = true; rw [hc]; rfl)
          · simp
            have : j2 = q := by rw [← hq3]; exact scanDown_stop (.inr (by show (!ltN (dg d3 q) (dg d3 a)) = false; rw [hc]; rfl))
            subst this
            exact GhostV.refl ⟨rfl, rfl⟩
        · simp [hij]
          have : j2 = q := by rw [← hq3]; exact scanDown_stop (.inl hij)
          subst this
          exact GhostV.refl ⟨rfl, rfl⟩
      rintro v st ⟨rfl, rfl⟩
      by_cases hgt : j2 < i2
      · simp [hgt]
        rw [if_pos hgt] at hfin
        rw [← hfin]
        exact GhostV.refl ⟨rfl, rfl⟩
      · have q1 : i2 < d3.size := by omega
        have q2 : j2 < d3.size := by omega
        have q3 : i2 < d.size := by omega
        have q4 : j2 < d.size := by omega
        rw [if_neg hgt] at hfin
        simp [hgt, q1, q2, q3, q4, hid]
        exact ⟨j2 - 1 + 1 - (i2 + 1), by omega, GhostV.refl ⟨i2 + 1, j2 - 1, Go.Sort.swp d3 i2 j2, rfl, by rw [wadd1 (by omega)], by rw [wsub1 (by omega) (by omega)], by omega, by omega, by omega, by simp [hd3], hfin, rfl⟩⟩
    · rintro v st ⟨rfl, rfl⟩
      have q5 : r.1 < r.2.size := by rw [hr2]; simp; omega
      have q6 : a < r.2.size := by rw [hr2]; simp; omega
      have q7 : r.1 < d.size := by omega
      simp [q5, q6, q7, h1, hid]
      exact GhostV.refl (by simpa using hk)
end Go.Proofs.Ytmbhgjekjpkigaa.AM

namespace Go.Proofs.Ytmbhgjekjpkigaa.AM
open Go
set_option linter.unusedVariables false
set_option linter.unusedSimpArgs false
variable {P : Program}

/-! ### a few steps of insertion -/
theorem scanSorted_ge (d : Array Nat) (b : Nat) : ∀ (n i : Nat), b - i ≤ n → i ≤ Go.Sort.scanSorted ltN d b i ∧ (i ≤ b → Go.Sort.scanSorted ltN d b i ≤ b)
  | 0, i, h => by
    rw [Go.Sort.scanSorted, if_neg (by simp; omega)]; exact ⟨Nat.le_refl _, id⟩
  | n + 1, i, h => by
    rw [Go.Sort.scanSorted]
    split
    · rename_i hc
      simp only [Bool.and_eq_true, decide_eq_true_eq] at hc
      have := scanSorted_ge d b n (i + 1) (by omega)
      exact ⟨by omega, fun hb => this.2 (by omega)⟩
    · exact ⟨Nat.le_refl _, id⟩
theorem shiftDown_size : ∀ (j : Nat) (d : Array Nat), (Go.Sort.shiftDown ltN j d).size = d.size
  | 0, d => rfl
  | j + 1, d => by
    unfold Go.Sort.shiftDown
    split
    · rfl
    · rw [shiftDown_size j]; simp
theorem shiftUp_size (b : Nat) : ∀ (n j : Nat) (d : Array Nat), b - j ≤ n → (Go.Sort.shiftUp ltN b j d).size = d.size
  | 0, j, d, h => by rw [Go.Sort.shiftUp, if_neg (by omega)]
  | n + 1, j, d, h => by
    rw [Go.Sort.shiftUp]
    split
    · split
      · rfl
      · rw [shiftUp_size b n (j + 1) _ (by omega)]; simp
    · rfl
def PiI (L : List (Option (Nat × Obj))) (id ver nv a b sz : Nat) (fin : Array Nat × Bool) (k : Nat) (v w : V) (st : St) : Prop :=
  ∃ i t d, k = 5 - t ∧ v = .int .i64 ((i : Nat) : Int) ∧ w = .int .i64 ((t : Nat) : Int) ∧ a < i ∧ i ≤ b ∧ t ≤ 5 ∧ d.size = sz ∧ Go.Sort.partialIns ltN a b (5 - t) i d = fin ∧ st = ⟨L.set id (some (ver, .mem 1 (rowsN d))), nv⟩
def SsI (L : List (Option (Nat × Obj))) (id ver nv : Nat) (d : Array Nat) (lo b fin : Nat) (k : Nat) (v : V) (st : St) : Prop :=
  ∃ i, k = b - i ∧ v = .int .i64 ((i : Nat) : Int) ∧ lo ≤ i ∧ i ≤ b ∧ Go.Sort.scanSorted ltN d b i = fin ∧ st = ⟨L.set id (some (ver, .mem 1 (rowsN d))), nv⟩
def SdI (L : List (Option (Nat × Obj))) (id ver nv hi sz : Nat) (fin : Array Nat) (k : Nat) (v : V) (st : St) : Prop :=
  ∃ j d, j = k ∧ v = .int .i64 ((j : Nat) : Int) ∧ j ≤ hi ∧ d.size = sz ∧ Go.Sort.shiftDown ltN j d = fin ∧ st = ⟨L.set id (some (ver, .mem 1 (rowsN d))), nv⟩
def SuI (L : List (Option (Nat × Obj))) (id ver nv lo b sz : Nat) (fin : Array Nat) (k : Nat) (v : V) (st : St) : Prop :=
  ∃ j d, k = b - j ∧ v = .int .i64 ((j : Nat) : Int) ∧ lo ≤ j ∧ j ≤ b ∧ d.size = sz ∧ Go.Sort.shiftUp ltN b j d = fin ∧ st = ⟨L.set id (some (ver, .mem 1 (rowsN d))), nv⟩
def StJ (L : List (Option (Nat × Obj))) (id ver nv : Nat) (d : Array Nat) (st : St) : Prop := st = ⟨L.set id (some (ver, .mem 1 (rowsN d))), nv⟩
theorem partialInsertionSort_N (hL : LessR P) (hR : R_slices_partialInsertionSortOrdered_uint64 P) {L : List (Option (Nat × Obj))} {nv id ver : Nat} (hid : id < L.length) (d : Array Nat) (a b : Nat) (hab : a < b) (hb : b ≤ d.size) (hsz : d.size < 2 ^ 60)
    {K : V → St → Prop} (hk : K (.bool (Go.Sort.partialInsertionSort ltN d a b).2) ⟨L.set id (some (ver, .mem 1 (rowsN (Go.Sort.partialInsertionSort ltN d a b).1))), nv⟩) :
    ACalls P n_slices_partialInsertionSortOrdered_uint64 [.msl id ver 0 d.size, .int .i64 a, .int .i64 b] ⟨L.set id (some (ver, .mem 1 (rowsN d))), nv⟩ K := by
  refine A_slices_partialInsertionSortOrdered_uint64 hR ?_
  unfold F_slices_partialInsertionSortOrdered_uint64
  simp [wadd1 (show a < 2 ^ 62 by omega)]
  refine ⟨PiI L id ver nv a b d.size (Go.Sort.partialInsertionSort ltN d a b), ⟨5, GhostV.refl ⟨a + 1, 0, d, rfl, by simp, by rfl, by omega, by omega, by omega, rfl, rfl, rfl⟩⟩, ?_⟩
  rintro k v w st ⟨i, t, d1, rfl, rfl, rfl, hai, hib, ht, hd1, hfin, rfl⟩
  by_cases h5 : t < 5
  · have h5' : (t : Int) < 5 := by omega
    simp [h5']
    obtain ⟨s, hs⟩ : ∃ s, 5 - t = s + 1 := ⟨5 - t - 1, by omega⟩
    rw [hs, Go.Sort.partialIns] at hfin
    obtain ⟨i2, hi2⟩ : ∃ i2, i2 = Go.Sort.scanSorted ltN d1 b i := ⟨_, rfl⟩
    obtain ⟨hge, hle⟩ := scanSorted_ge d1 b _ i (Nat.le_refl _)
    have hle := hle hib
    rw [← hi2] at hge hle
    simp only [← hi2] at hfin
    refine ⟨ScJ L id ver nv d1 i2, ?_, ?_⟩
    · refine ⟨SsI L id ver nv d1 i b i2, ⟨b - i, GhostV.refl ⟨i, rfl, rfl, Nat.le_refl _, hib, hi2.symm, rfl⟩⟩, ?_⟩
      rintro k v st ⟨q, rfl, rfl, hq1, hq2, hq3, rfl⟩
      by_cases hqb : q < b
      · obtain ⟨q0, hq0⟩ : ∃ q0, q0 = q - 1 := ⟨_, rfl⟩
        have e0 : IntKind.i64.wrap ((q : Int) - 1) = (q0 : Int) := by rw [wrap_i64 (by omega)]; omega
        have q1 : q < d1.size := by omega
        have q2 : q < d.size := by omega
        have q3 : q0 < d1.size := by omega
        have q4 : q0 < d.size := by omega
        simp [hqb, e0, q1, q2, q3, q4, hid]
        refine inv_p (Less_N hL (dg d1 q) (dg d1 q0)) rfl rfl ?_
        rintro _ rfl
        cases hc : ltN (dg d1 q) (dg d1 q0)
        · simp
          refine ⟨b - (q + 1), by omega, GhostV.refl ⟨q + 1, rfl, by rw [wadd1 (by omega)], by omega, by omega, ?_, rfl⟩⟩
          rw [← hq3]
          conv => rhs; rw [Go.Sort.scanSorted]
          rw [if_pos]
          show (_ && !ltN (dg d1 q) (dg d1 (q - 1))) = true
          rw [← hq0, hc]; simp [hqb]
        · simp
          have : i2 = q := by
            rw [← hq3, Go.Sort.scanSorted, if_neg]
            show ¬ (_ && !ltN (dg d1 q) (dg d1 (q - 1))) = true
            rw [← hq0, hc]; simp
          subst this
          exact GhostV.refl ⟨rfl, rfl⟩
      · simp [hqb]
        have : i2 = q := by rw [← hq3, Go.Sort.scanSorted, if_neg (by simp [hqb])]
        subst this
        exact GhostV.refl ⟨rfl, rfl⟩
    rintro v st ⟨rfl, rfl⟩
    by_cases hib2 : i2 = b
    · rw [if_pos hib2] at hfin
      simp [hib2]
      rw [← hfin] at hk
      exact GhostV.refl hk
    · rw [if_neg hib2] at hfin
      have e1 : IntKind.i64.wrap ((b : Int) - (a : Int)) = ((b - a : Nat) : Int) := by rw [wrap_i64 (by omega)]; omega
      simp [hib2, e1]
      by_cases h50 : b - a < 50
      · rw [if_pos h50] at hfin
        have h50' : ((b - a : Nat) : Int) < 50 := by omega
        simp [h50']
        rw [← hfin] at hk
        exact GhostV.refl hk
      · rw [if_neg h50] at hfin
        have h50' : ¬ ((b - a : Nat) : Int) < 50 := by omega
        obtain ⟨i3, hi3⟩ : ∃ i3, i3 = i2 - 1 := ⟨_, rfl⟩
        have e0 : IntKind.i64.wrap ((i2 : Int) - 1) = (i3 : Int) := by rw [wrap_i64 (by omega)]; omega
        have q1 : i2 < d1.size := by omega
        have q2 : i2 < d.size := by omega
        have q3 : i3 < d1.size := by omega
        have q4 : i3 < d.size := by omega
        simp [h50', e0, q1, q2, q3, q4, hid]
        obtain ⟨d2, hd2'⟩ : ∃ d2, d2 = Go.Sort.swp d1 i2 i3 := ⟨_, rfl⟩
        have hd2 : d2.size = d.size := by rw [hd2']; simp [hd1]
        obtain ⟨d3, hd3'⟩ : ∃ d3, d3 = if i2 - a ≥ 2 then Go.Sort.shiftDown ltN i3 d2 else d2 := ⟨_, rfl⟩
        have hd3 : d3.size = d.size := by rw [hd3']; split <;> simp [shiftDown_size, hd2]
        obtain ⟨d4, hd4'⟩ : ∃ d4, d4 = if b - i2 ≥ 2 then Go.Sort.shiftUp ltN b (i2 + 1) d3 else d3 := ⟨_, rfl⟩
        have hd4 : d4.size = d.size := by rw [hd4']; split <;> simp [shiftUp_size b _ _ _ (Nat.le_refl _), hd3]
        have hfin4 : Go.Sort.partialIns ltN a b s i2 d4 = Go.Sort.partialInsertionSort ltN d a b := by
          rw [← hfin, hd4', hd3', hd2', hi3]
        rw [← hd2']
        refine ⟨StJ L id ver nv d3, ?_, ?_⟩
        · have e2 : IntKind.i64.wrap ((i2 : Int) - (a : Int)) = ((i2 - a : Nat) : Int) := by rw [wrap_i64 (by omega)]; omega
          by_cases h2 : 2 ≤ i2 - a
          · have h2' : (2 : Int) ≤ ((i2 - a : Nat) : Int) := by omega
            rw [if_pos h2] at hd3'
            simp [e2, h2', e0]
            refine ⟨SdI L id ver nv i3 d.size d3, ⟨i3, GhostV.refl ⟨i3, d2, rfl, rfl, Nat.le_refl _, hd2, hd3'.symm, rfl⟩⟩, ?_⟩
            rintro k v st ⟨j, d5, rfl, rfl, hj, hd5, hfd, rfl⟩
            by_cases hj1 : 1 ≤ j
            · obtain ⟨j0, hj0⟩ : ∃ j0, j = j0 + 1 := ⟨j - 1, by omega⟩
              have hj1' : (1 : Int) ≤ (j : Int) := by omega
              have e3 : IntKind.i64.wrap ((j : Int) - 1) = (j0 : Int) := by rw [wrap_i64 (by omega)]; omega
              have r1 : j < d5.size := by omega
              have r2 : j < d.size := by omega
              have r3 : j0 < d5.size := by omega
              have r4 : j0 < d.size := by omega
              simp [hj1', e3, r1, r2, r3, r4, hid]
              refine inv_p (Less_N hL (dg d5 j) (dg d5 j0)) rfl rfl ?_
              rintro _ rfl
              have step : Go.Sort.shiftDown ltN j d5 = if !ltN (dg d5 j) (dg d5 j0) then d5 else Go.Sort.shiftDown ltN j0 (Go.Sort.swp d5 j j0) := by subst hj0; rfl
              rw [hfd] at step
              cases hc : ltN (dg d5 j) (dg d5 j0)
              · simp
                rw [hc] at step
                have : d3 = d5 := step
                subst this
                exact GhostV.refl rfl
              · simp [e3, r1, r2, r3, r4, hid]
                rw [hc] at step
                exact ⟨j0, by omega, GhostV.refl ⟨j0, Go.Sort.swp d5 j j0, rfl, rfl, by omega, by simp [hd5], step.symm, rfl⟩⟩
            · obtain rfl : j = 0 := by omega
              simp
              have : d3 = d5 := hfd.symm
              subst this
              exact GhostV.refl rfl
          · have h2' : ¬ (2 : Int) ≤ ((i2 - a : Nat) : Int) := by omega
            rw [if_neg h2] at hd3'
            simp [e2, h2']
            subst hd3'
            exact GhostV.refl rfl
        rintro st rfl
        have e2 : IntKind.i64.wrap ((b : Int) - (i2 : Int)) = ((b - i2 : Nat) : Int) := by rw [wrap_i64 (by omega)]; omega
        have et : IntKind.i64.wrap ((t : Int) + 1) = ((t + 1 : Nat) : Int) := wadd1 (by omega)
        have next : ∃ j, j < 5 - t ∧ GhostV [.int .i64 (i2 : Int), .int .i64 (IntKind.i64.wrap ((t : Int) + 1))] ⟨L.set id (some (ver, .mem 1 (rowsN d4))), nv⟩ (app (n := 2) (PiI L id ver nv a b d.size (Go.Sort.partialInsertionSort ltN d a b) j)) :=
          ⟨5 - (t + 1), by omega, GhostV.refl ⟨i2, t + 1, d4, rfl, rfl, by rw [et], by omega, by omega, by omega, hd4, by rw [show 5 - (t + 1) = s by omega]; exact hfin4, rfl⟩⟩
        by_cases h2 : 2 ≤ b - i2
        · have h2' : (2 : Int) ≤ ((b - i2 : Nat) : Int) := by omega
          rw [if_pos h2] at hd4'
          simp [e2, h2', wadd1 (show i2 < 2 ^ 62 by omega)]
          refine ⟨SuI L id ver nv (i2 + 1) b d.size d4, ⟨b - (i2 + 1), GhostV.refl ⟨i2 + 1, d3, rfl, by simp, Nat.le_refl _, by omega, hd3, hd4'.symm, rfl⟩⟩, ?_⟩
          rintro k v st ⟨j, d5, rfl, rfl, hj, hjb, hd5, hfd, rfl⟩
          by_cases hj1 : j < b
          · obtain ⟨j0, hj0⟩ : ∃ j0, j = j0 + 1 := ⟨j - 1, by omega⟩
            have e3 : IntKind.i64.wrap ((j : Int) - 1) = (j0 : Int) := by rw [wrap_i64 (by omega)]; omega
            have r1 : j < d5.size := by omega
            have r2 : j < d.size := by omega
            have r3 : j0 < d5.size := by omega
            have r4 : j0 < d.size := by omega
            simp [hj1, e3, r1, r2, r3, r4, hid]
            refine inv_p (Less_N hL (dg d5 j) (dg d5 j0)) rfl rfl ?_
            rintro _ rfl
            have step : Go.Sort.shiftUp ltN b j d5 = if !ltN (dg d5 j) (dg d5 j0) then d5 else Go.Sort.shiftUp ltN b (j + 1) (Go.Sort.swp d5 j j0) := by
              conv => lhs; rw [Go.Sort.shiftUp]
              rw [if_pos hj1]; subst hj0; rfl
            rw [hfd] at step
            cases hc : ltN (dg d5 j) (dg d5 j0)
            · simp
              rw [hc] at step
              have : d4 = d5 := step
              subst this
              simpa using next
            · simp [e3, r1, r2, r3, r4, hid]
              rw [hc] at step
              exact ⟨b - (j + 1), by omega, GhostV.refl ⟨j + 1, Go.Sort.swp d5 j j0, rfl, by rw [wadd1 (by omega)], by omega, by omega, by simp [hd5], step.symm, rfl⟩⟩
          · simp [hj1]
            have : d4 = d5 := by rw [← hfd, Go.Sort.shiftUp, if_neg hj1]
            subst this
            simpa using next
        · have h2' : ¬ (2 : Int) ≤ ((b - i2 : Nat) : Int) := by omega
          rw [if_neg h2] at hd4'
          simp [e2, h2']
          subst hd4'
          simpa using next
  · have h5' : ¬ (t : Int) < 5 := by omega
    simp [h5']
    rw [show 5 - t = 0 by omega] at hfin
    have : Go.Sort.partialInsertionSort ltN d a b = (d1, false) := hfin.symm
    rw [this] at hk
    exact GhostV.refl hk
theorem partialIns_size (a b : Nat) : ∀ (s i : Nat) (d : Array Nat), (Go.Sort.partialIns ltN a b s i d).1.size = d.size
  | 0, _, d => rfl
  | s + 1, i, d => by
    rw [Go.Sort.partialIns]
    simp only
    split
    · rfl
    · split
      · rfl
      · rw [partialIns_size a b s]
        split <;> split <;> simp [shiftUp_size b _ _ _ (Nat.le_refl _), shiftDown_size]

/-! ### patterns broken -/
theorem bvxor {x y : Nat} (hx : x < 2 ^ 64) (hy : y < 2 ^ 64) : IntKind.u64.wrap (((BitVec.ofInt IntKind.u64.bits (x : Int) ^^^ BitVec.ofInt IntKind.u64.bits (y : Int)).toNat : Nat) : Int) = ((x ^^^ y : Nat) : Int) := by
  have e : ∀ z : Nat, z < 2 ^ 64 → (BitVec.ofInt IntKind.u64.bits (z : Int)).toNat = z := by
    intro z hz
    rw [BitVec.toNat_ofInt]
    show ((z : Int) % ((2 ^ 64 : Nat) : Int)).toNat = z
    omega
  rw [BitVec.toNat_xor, e x hx, e y hy]
  have : x ^^^ y < 2 ^ 64 := Nat.xor_lt_two_pow hx hy
  show ((x ^^^ y : Nat) : Int) % 18446744073709551616 = _
  omega
theorem bvand {x y : Nat} (hx : x < 2 ^ 64) (hy : y < 2 ^ 64) : IntKind.u64.wrap (((BitVec.ofInt IntKind.u64.bits (x : Int) &&& BitVec.ofInt IntKind.u64.bits (y : Int)).toNat : Nat) : Int) = ((x &&& y : Nat) : Int) := by
  have e : ∀ z : Nat, z < 2 ^ 64 → (BitVec.ofInt IntKind.u64.bits (z : Int)).toNat = z := by
    intro z hz
    rw [BitVec.toNat_ofInt]
    show ((z : Int) % ((2 ^ 64 : Nat) : Int)).toNat = z
    omega
  rw [BitVec.toNat_and, e x hx, e y hy]
  have : x &&& y < 2 ^ 64 := Nat.and_lt_two_pow x hy
  show ((x &&& y : Nat) : Int) % 18446744073709551616 = _
  omega
theorem u64_shl (r u : UInt64) (n : Nat) (hn : u.toNat % 64 = n) : IntKind.u64.wrap ((r.toNat : Int) * 2 ^ n) = ((r <<< u).toNat : Int) := by
  rw [UInt64.toNat_shiftLeft, hn, Nat.shiftLeft_eq]
  show ((r.toNat : Int) * 2 ^ n) % ((2 ^ 64 : Nat) : Int) = _
  rw [Int.natCast_emod, Int.natCast_mul, Int.natCast_pow]
  rfl
theorem u64_shr (r u : UInt64) (n : Nat) (hn : u.toNat % 64 = n) : (r.toNat : Int).fdiv (2 ^ n) = ((r >>> u).toNat : Int) := by
  rw [UInt64.toNat_shiftRight, hn, Nat.shiftRight_eq_div_pow, Int.fdiv_eq_ediv_of_nonneg _ (by have : (0 : Int) < 2 ^ n := Int.pow_pos (by omega); omega), Int.natCast_ediv, Int.natCast_pow]
  rfl

theorem xor_lt (r : UInt64) : r.toNat < 2 ^ 64 := UInt64.toNat_lt r
theorem xorNext_N (hR : R_slices_xorshift_Next P) {L : List (Option (Nat × Obj))} {nv id ver : Nat} (r : UInt64) (hA : L[id]? = some (some (ver, .mem 1 [[.int .u64 r.toNat]])))
    {K : V → St → Prop} (hk : K (.int .u64 (Go.Sort.xorNext r).toNat) ⟨L.set id (some (ver, .mem 1 [[.int .u64 (Go.Sort.xorNext r).toNat]])), nv⟩) :
    ACalls P n_slices_xorshift_Next [.ptr id ver 0 0] ⟨L, nv⟩ K := by
  refine A_slices_xorshift_Next hR ?_
  unfold F_slices_xorshift_Next
  have hil : id < L.length := (List.getElem?_eq_some_iff.1 hA).1
  obtain ⟨r1, hr1⟩ : ∃ r1, r1 = r ^^^ (r <<< 13) := ⟨_, rfl⟩
  obtain ⟨r2, hr2⟩ : ∃ r2, r2 = r1 ^^^ (r1 >>> 7) := ⟨_, rfl⟩
  obtain ⟨r3, hr3⟩ : ∃ r3, r3 = r2 ^^^ (r2 <<< 17) := ⟨_, rfl⟩
  have hx : Go.Sort.xorNext r = r3 := by subst hr1 hr2 hr3; rfl
  have e1 : IntKind.u64.wrap ((r.toNat : Int) * 2 ^ min 13 IntKind.u64.bits) = ((r <<< 13).toNat : Int) := u64_shl r 13 _ (by decide)
  have x1 : IntKind.u64.wrap (((BitVec.ofInt IntKind.u64.bits (r.toNat : Int) ^^^ BitVec.ofInt IntKind.u64.bits ((r <<< 13).toNat : Int)).toNat : Nat) : Int) = (r1.toNat : Int) := by
    rw [bvxor (xor_lt _) (xor_lt _), hr1, UInt64.toNat_xor]
  have e2 : (r1.toNat : Int).fdiv (2 ^ min 7 IntKind.u64.bits) = ((r1 >>> 7).toNat : Int) := u64_shr r1 7 _ (by decide)
  have x2 : IntKind.u64.wrap (((BitVec.ofInt IntKind.u64.bits (r1.toNat : Int) ^^^ BitVec.ofInt IntKind.u64.bits ((r1 >>> 7).toNat : Int)).toNat : Nat) : Int) = (r2.toNat : Int) := by
    rw [bvxor (xor_lt _) (xor_lt _), hr2, UInt64.toNat_xor]
  have e3 : IntKind.u64.wrap ((r2.toNat : Int) * 2 ^ min 17 IntKind.u64.bits) = ((r2 <<< 17).toNat : Int) := u64_shl r2 17 _ (by decide)
  have x3 : IntKind.u64.wrap (((BitVec.ofInt IntKind.u64.bits (r2.toNat : Int) ^^^ BitVec.ofInt IntKind.u64.bits ((r2 <<< 17).toNat : Int)).toNat : Nat) : Int) = (r3.toNat : Int) := by
    rw [bvxor (xor_lt _) (xor_lt _), hr3, UInt64.toNat_xor]
  rw [hx] at hk
  have t1 : ((13 : Int)).toNat = 13 := rfl
  have t2 : ((7 : Int)).toNat = 7 := rfl
  have t3 : ((17 : Int)).toNat = 17 := rfl
  have iso : ∀ a b : Int, intBin .xor .u64 a b = some (.int .u64 (IntKind.u64.wrap (((BitVec.ofInt IntKind.u64.bits a ^^^ BitVec.ofInt IntKind.u64.bits b).toNat : Nat) : Int))) := fun _ _ => rfl
  simp only [opD_nilchk, aop_nilchk_ptr, res_some, opD_ld, aop_ld, St.cellsAt, get_mk, hA, if_true, List.getElem?_cons_zero, Option.map_some, partV, opD_bin, aop_bin, binV_shl, binV_shr, binV_int, ne_eq, reduceCtorEq, not_false_eq_true, iso, show ¬ ((13 : Int) < 0) by omega, show ¬ ((7 : Int) < 0) by omega, show ¬ ((17 : Int) < 0) by omega, if_false, t1, t2, t3, e1, x1, opD_st, aop_st, cells_int, List.length_cons, List.length_nil, store_ptr, set_mk, splice, List.set_cons_zero, Nat.zero_add, Nat.le_refl, List.take_zero, List.nil_append, List.drop_succ_cons, List.drop_zero, List.append_nil,
    List.getElem?_set_self hil, e2, x2, List.set_set, e3, x3, op_nilchk, op_ld]
  exact GhostV.refl (by simpa using hk)
end Go.Proofs.Ytmbhgjekjpkigaa.AM

namespace Go.Proofs.Ytmbhgjekjpkigaa.AM
open Go
set_option linter.unusedVariables false
set_option linter.unusedSimpArgs false
variable {P : Program}

structure SortR (P : Program) : Prop extends MedR P, BitsR P where
  ins : R_slices_insertionSortOrdered_uint64 P
  sift : R_slices_siftDownOrdered_uint64 P
  heap : R_slices_heapSortOrdered_uint64 P
  xor : R_slices_xorshift_Next P
  pow : R_slices_nextPowerOfTwo P
  brk : R_slices_breakPatternsOrdered_uint64 P
  rev : R_slices_reverseRangeOrdered_uint64 P
  part : R_slices_partitionOrdered_uint64 P
  eq : R_slices_partitionEqualOrdered_uint64 P
  few : R_slices_partialInsertionSortOrdered_uint64 P
  pdq : R_slices_pdqsortOrdered_uint64 P
  sort : R_slices_Sort_uint64_uint64 P

theorem bitsLen_le16 {x : Nat} (h : x < 65536) : Go.Sort.bitsLen x ≤ 16 := (Go.Sort.bitsLen_le_iff x 16).2 (by omega)
theorem nextPow (h : SortR P) (x : Nat) (hx : x < 65536) : PCalls P n_slices_nextPowerOfTwo [.int .i64 x] (fun r => r = .int .u64 ((1 <<< Go.Sort.bitsLen x : Nat))) := by
  refine A_slices_nextPowerOfTwo h.pow ?_
  unfold F_slices_nextPowerOfTwo
  have e1 : IntKind.u64.wrap (x : Int) = (x : Int) := by show (x : Int) % 18446744073709551616 = x; omega
  simp [st0, e1]
  refine inv_p (bits_Len h.toBitsR x hx) rfl rfl ?_
  rintro _ rfl
  have hb := bitsLen_le16 hx
  have e2 : IntKind.u64.wrap (2 ^ min (Go.Sort.bitsLen x) IntKind.u64.bits) = ((1 <<< Go.Sort.bitsLen x : Nat) : Int) := by
    have : min (Go.Sort.bitsLen x) IntKind.u64.bits = Go.Sort.bitsLen x := Nat.min_eq_left (by show _ ≤ 64; omega)
    rw [this, Nat.shiftLeft_eq, Nat.one_mul]
    have hp : 2 ^ Go.Sort.bitsLen x ≤ 2 ^ 16 := Nat.pow_le_pow_right (by omega) hb
    show ((2 : Int) ^ Go.Sort.bitsLen x) % 18446744073709551616 = _
    rw [Int.natCast_pow]
    have : ((2 ^ Go.Sort.bitsLen x : Nat) : Int) = (2 : Int) ^ Go.Sort.bitsLen x := by rw [Int.natCast_pow]; rfl
    have h2 : ((2 : Nat) : Int) = 2 := rfl
    rw [h2]
    have : (2 : Int) ^ Go.Sort.bitsLen x ≤ 65536 := by rw [← this]; omega
    have : (0 : Int) < 2 ^ Go.Sort.bitsLen x := Int.pow_pos (by omega)
    omega
  simp [e2]
  exact GhostV.refl ⟨rfl, by simp⟩

def brkN (a length modulus : Nat) : Nat → Nat → UInt64 × Array Nat → UInt64 × Array Nat
  | 0, _, s => s
  | m + 1, idx, s => brkN a length modulus m (idx + 1) (Go.Sort.breakStep a length modulus s idx)
def BrkI (L : List (Option (Nat × Obj))) (id ver nv a l mo idx0 sz : Nat) (fin : UInt64 × Array Nat) (k : Nat) (v : V) (st : St) : Prop :=
  ∃ m r d, m = k ∧ m ≤ 3 ∧ v = .int .i64 ((idx0 + (3 - m) : Nat) : Int) ∧ d.size = sz ∧ brkN a l mo m (idx0 + (3 - m)) (r, d) = fin ∧ st = ⟨L.set id (some (ver, .mem 1 (rowsN d))) ++ [some (nv, .mem 1 [[.int .u64 ((r : UInt64).toNat : Nat)]])], nv + 1⟩
def BrkJ (L : List (Option (Nat × Obj))) (id ver nv : Nat) (d : Array Nat) (r : UInt64) (o : Nat) (v : V) (st : St) : Prop :=
  v = .int .i64 (o : Nat) ∧ st = ⟨L.set id (some (ver, .mem 1 (rowsN d))) ++ [some (nv, .mem 1 [[.int .u64 (r.toNat : Nat)]])], nv + 1⟩
theorem breakPatterns_N (h : SortR P) {L : List (Option (Nat × Obj))} {nv id ver : Nat} (hid : id < L.length) (d : Array Nat) (a b : Nat) (hab : a < b) (hb : b ≤ d.size) (hsz : d.size < 65536)
    {K : V → St → Prop} (hk : ∀ nv', K (.tup []) ⟨L.set id (some (ver, .mem 1 (rowsN (Go.Sort.breakPatterns d a b)))), nv'⟩) :
    ACalls P n_slices_breakPatternsOrdered_uint64 [.msl id ver 0 d.size, .int .i64 a, .int .i64 b] ⟨L.set id (some (ver, .mem 1 (rowsN d))), nv⟩ K := by
  refine A_slices_breakPatternsOrdered_uint64 h.brk ?_
  unfold F_slices_breakPatternsOrdered_uint64
  obtain ⟨l, hl⟩ : ∃ l, l = b - a := ⟨_, rfl⟩
  have e1 : IntKind.i64.wrap ((b : Int) - (a : Int)) = (l : Int) := by rw [wrap_i64 (by omega)]; omega
  by_cases h8 : 8 ≤ l
  · have h8' : (8 : Int) ≤ (l : Int) := by omega
    have e2 : IntKind.u64.wrap (l : Int) = (l : Int) := by show (l : Int) % 18446744073709551616 = l; omega
    simp [e1, e2, h8', hid]
    refine inv_p (nextPow h l (by omega)) rfl rfl ?_
    rintro _ rfl
    obtain ⟨mo, hmo⟩ : ∃ mo, mo = 1 <<< Go.Sort.bitsLen l := ⟨_, rfl⟩
    have hmo2 : mo = 2 ^ Go.Sort.bitsLen l := by rw [hmo, Nat.shiftLeft_eq, Nat.one_mul]
    have hmo1 : mo ≤ 2 * l := by rw [hmo2]; exact Go.Sort.two_pow_bitsLen_le (by omega)
    have hmo0 : 0 < mo := by rw [hmo2]; exact Nat.two_pow_pos _
    rw [← hmo]
    obtain ⟨q, hq⟩ : ∃ q, q = l / 4 * 2 := ⟨_, rfl⟩
    obtain ⟨idx, hidx⟩ : ∃ idx, idx = a + q - 1 := ⟨_, rfl⟩
    have e3 : IntKind.i64.wrap ((l : Int).tdiv 4) = ((l / 4 : Nat) : Int) := by
      have : (l : Int).tdiv 4 = ((l / 4 : Nat) : Int) := rfl
      rw [this, wrap_i64 (by omega)]
    have e4 : IntKind.i64.wrap (((l / 4 : Nat) : Int) * 2) = (q : Int) := by rw [wrap_i64 (by omega)]; omega
    have e5 : IntKind.i64.wrap ((a : Int) + (q : Int)) = ((a + q : Nat) : Int) := by rw [wrap_i64 (by omega)]; omega
    have e6 : IntKind.i64.wrap (((a + q : Nat) : Int) - 1) = (idx : Int) := by rw [wrap_i64 (by omega)]; omega
    have e7 : IntKind.i64.wrap (((a + q : Nat) : Int) + 1) = ((idx + 2 : Nat) : Int) := by rw [wrap_i64 (by omega)]; omega
    simp only [op_bin, aop_bin, binV_int, intBin_quo, intBin_mul, intBin_add, intBin_sub, ne_eq, reduceCtorEq, not_false_eq_true, show ¬ ((4 : Int) = 0) by omega, if_false, Option.map_some, res_some, e3, e4, e5, e6]
    obtain ⟨fin, hfin⟩ : ∃ fin, fin = brkN a l mo 3 idx (UInt64.ofNat l, d) := ⟨_, rfl⟩
    have hbp : Go.Sort.breakPatterns d a b = fin.2 := by
      rw [hfin, hidx, hq, hmo, hl]
      unfold Go.Sort.breakPatterns
      simp only [show b - a ≥ 8 by omega, if_true]
      rfl
    refine ⟨BrkI L id ver nv a l mo idx d.size fin, ⟨3, GhostV.refl ⟨3, UInt64.ofNat l, d, rfl, Nat.le_refl _, rfl, rfl, hfin.symm, ?_⟩⟩, ?_⟩
    · have : (UInt64.ofNat l).toNat = l := by rw [UInt64.toNat_ofNat']; exact Nat.mod_eq_of_lt (by omega)
      rw [this]
    rintro k v st ⟨m, r, d1, rfl, hm, rfl, hd1, hf, rfl⟩
    simp only [op_bin, aop_bin, binV_int, intBin_quo, intBin_mul, intBin_add, intBin_leq, ne_eq, reduceCtorEq, not_false_eq_true, show ¬ ((4 : Int) = 0) by omega, if_false, Option.map_some, res_some, e3, e4, e5, e7]
    cases m with
    | zero =>
      have hc : decide (((idx + (3 - 0) : Nat) : Int) ≤ ((idx + 2 : Nat) : Int)) = false := by simp
      rw [hc]
      simp only [cnd_false]
      have : d1 = Go.Sort.breakPatterns d a b := by rw [hbp, ← hf]; rfl
      subst this
      refine GhostV.take L.length ?_
      simpa using hk (nv + 1)
    | succ m =>
      obtain ⟨i, hi⟩ : ∃ i, i = idx + (3 - (m + 1)) := ⟨_, rfl⟩
      rw [← hi] at hf ⊢
      have hc : decide ((i : Int) ≤ ((idx + 2 : Nat) : Int)) = true := by simp; omega
      rw [hc]
      simp only [cnd_true]
      have hg : (L.set id (some (ver, Obj.mem 1 (rowsN d1))) ++ [some (nv, Obj.mem 1 [[V.int .u64 (r.toNat : Nat)]])])[L.length]? = some (some (nv, .mem 1 [[.int .u64 (r.toNat : Nat)]])) := by
        rw [List.getElem?_append_right (by simp)]; simp
      rw [op_call]
      refine inv_f0 ?_
      simp only [List.length_set, List.map_cons, List.map_nil, ev_c]
      refine xorNext_N h.xor r hg ?_
      obtain ⟨r1, hr1⟩ : ∃ r1, r1 = Go.Sort.xorNext r := ⟨_, rfl⟩
      rw [← hr1]
      have e8 : IntKind.u64.wrap ((mo : Int) - 1) = ((mo - 1 : Nat) : Int) := by show ((mo : Int) - 1) % 18446744073709551616 = _; omega
      have e9 : IntKind.u64.wrap (((BitVec.ofInt IntKind.u64.bits (r1.toNat : Int) &&& BitVec.ofInt IntKind.u64.bits ((mo - 1 : Nat) : Int)).toNat : Nat) : Int) = ((r1.toNat &&& (mo - 1) : Nat) : Int) := bvand (xor_lt _) (by omega)
      have iand : ∀ a b : Int, intBin .and .u64 a b = some (.int .u64 (IntKind.u64.wrap (((BitVec.ofInt IntKind.u64.bits a &&& BitVec.ofInt IntKind.u64.bits b).toNat : Nat) : Int))) := fun _ _ => rfl
      obtain ⟨o, ho⟩ : ∃ o, o = r1.toNat &&& (mo - 1) := ⟨_, rfl⟩
      have hole : o ≤ mo - 1 := by rw [ho]; exact Nat.and_le_right
      have e10 : IntKind.i64.wrap (o : Int) = (o : Int) := wrap_i64 (by omega)
      simp only [op_bin, aop_bin, binV_int, intBin_sub, ne_eq, reduceCtorEq, not_false_eq_true, Option.map_some, res_some, e8, iand, e9, op_conv, aop_conv, ← ho, e10]
      obtain ⟨o2, ho2⟩ : ∃ o2, o2 = if o ≥ l then o - l else o := ⟨_, rfl⟩
      have ho2l : o2 < l := by rw [ho2]; split <;> omega
      refine ⟨BrkJ L id ver nv d1 r1 o2, ?_, ?_⟩
      · by_cases hol : l ≤ o
        · have e11 : IntKind.i64.wrap ((o : Int) - (l : Int)) = (o2 : Int) := by rw [wrap_i64 (by omega), ho2, if_pos hol]; omega
          simp [hol, e11]
          exact GhostV.refl ⟨rfl, by simp⟩
        · simp [hol]
          have : o2 = o := by rw [ho2, if_neg hol]
          subst this
          exact GhostV.refl ⟨rfl, by simp⟩
      · rintro v st ⟨rfl, rfl⟩
        obtain ⟨p, hp⟩ : ∃ p, p = a + o2 := ⟨_, rfl⟩
        have e12 : IntKind.i64.wrap ((a : Int) + (o2 : Int)) = (p : Int) := by rw [wrap_i64 (by omega)]; omega
        have e13 : IntKind.i64.wrap ((i : Int) + 1) = ((i + 1 : Nat) : Int) := wadd1 (by omega)
        have q1 : i < d1.size := by omega
        have q2 : i < d.size := by omega
        have q3 : p < d1.size := by omega
        have q4 : p < d.size := by omega
        have hg2 : ∀ x : Array Nat, (L.set id (some (ver, Obj.mem 1 (rowsN x))) ++ [some (nv, Obj.mem 1 [[V.int .u64 (r1.toNat : Nat)]])])[id]? = some (some (ver, .mem 1 (rowsN x))) := fun x => by
          rw [List.getElem?_append_left (by simpa using hid)]; simp [hid]
        have hs2 : ∀ (x : Array Nat) (y : List (List V)), (L.set id (some (ver, Obj.mem 1 (rowsN x))) ++ [some (nv, Obj.mem 1 [[V.int .u64 (r1.toNat : Nat)]])]).set id (some (ver, .mem 1 y)) = L.set id (some (ver, .mem 1 y)) ++ [some (nv, .mem 1 [[.int .u64 (r1.toNat : Nat)]])] := fun x y => by
          rw [List.set_append_left _ _ (by simpa using hid), List.set_set]
        simp [e12, e13, q1, q2, q3, q4, hg2, hs2]
        refine ⟨m, by omega, GhostV.refl ⟨m, r1, Go.Sort.swp d1 i p, rfl, by omega, ?_, by simp [hd1], ?_, rfl⟩⟩
        · congr 2; omega
        · rw [← hf]
          have : idx + (3 - m) = i + 1 := by omega
          rw [this]
          show _ = brkN a l mo m (i + 1) (Go.Sort.breakStep a l mo (r, d1) i)
          congr 1
          unfold Go.Sort.breakStep
          simp only [← hr1, ← ho, ← ho2, ← hp]
  · have h8' : ¬ (8 : Int) ≤ (l : Int) := by omega
    simp [e1, h8']
    have : Go.Sort.breakPatterns d a b = d := by
      unfold Go.Sort.breakPatterns
      simp only
      rw [if_neg (by omega)]
    rw [this] at hk
    exact GhostV.refl (by simpa using hk nv)
end Go.Proofs.Ytmbhgjekjpkigaa.AM

namespace Go.Proofs.Ytmbhgjekjpkigaa.AM
open Go
set_option linter.unusedVariables false
set_option linter.unusedSimpArgs false
variable {P : Program}

theorem swoN : Go.Sort.SWO ltN where
  irrefl := fun x => by simp [ltN]
  trans := fun x y z h1 h2 => by simp only [ltN, decide_eq_true_eq] at *; omega
  ntrans := fun x y z h1 h2 => by simp only [ltN, decide_eq_false_iff_not] at *; omega

theorem partEqLoop_le (a b : Nat) : ∀ (n i j : Nat) (d : Array Nat), j + 1 - i ≤ n → i ≤ b → j < b → i ≤ (Go.Sort.partEqLoop ltN a i j d).1 ∧ (Go.Sort.partEqLoop ltN a i j d).1 ≤ b ∧ (Go.Sort.partEqLoop ltN a i j d).2.size = d.size := by
  intro n
  induction n with
  | zero =>
    intro i j d hn hib hjb
    rw [Go.Sort.partEqLoop_eq]
    have h1 := Go.Sort.scanUp_ge (fun x => !ltN d[a]! x) d j i
    have h3 : Go.Sort.scanUp (fun x => !ltN d[a]! x) d j i ≤ b := by rw [Go.Sort.scanUp, if_neg (by simp; omega)]; exact hib
    generalize Go.Sort.scanUp (fun x => !ltN d[a]! x) d j i = i2 at *
    have h2 := Go.Sort.scanDown_le (fun x => ltN d[a]! x) d i2 j
    generalize Go.Sort.scanDown (fun x => ltN d[a]! x) d i2 j = j2 at *
    rw [if_pos (by omega)]
    exact ⟨h1, h3, rfl⟩
  | succ n ih =>
    intro i j d hn hib hjb
    rw [Go.Sort.partEqLoop_eq]
    have h1 := Go.Sort.scanUp_ge (fun x => !ltN d[a]! x) d j i
    have h3 : Go.Sort.scanUp (fun x => !ltN d[a]! x) d j i ≤ b := by
      have up : ∀ (m i : Nat), j + 1 - i ≤ m → i ≤ b → Go.Sort.scanUp (fun x => !ltN d[a]! x) d j i ≤ b := by
        intro m
        induction m with
        | zero => intro i hm hi; rw [Go.Sort.scanUp, if_neg (by simp; omega)]; exact hi
        | succ m ihm =>
          intro i hm hi
          rw [Go.Sort.scanUp]
          split
          · rename_i hc
            simp only [Bool.and_eq_true, decide_eq_true_eq] at hc
            exact ihm (i + 1) (by omega) (by omega)
          · exact hi
      exact up _ i (Nat.le_refl _) hib
    generalize Go.Sort.scanUp (fun x => !ltN d[a]! x) d j i = i2 at *
    have h2 := Go.Sort.scanDown_le (fun x => ltN d[a]! x) d i2 j
    generalize Go.Sort.scanDown (fun x => ltN d[a]! x) d i2 j = j2 at *
    split
    · exact ⟨h1, h3, rfl⟩
    · have := ih (i2 + 1) (j2 - 1) (Go.Sort.swp d i2 j2) (by omega) (by omega) (by omega)
      exact ⟨by omega, this.2.1, by rw [this.2.2]; simp⟩

def PdI (L : List (Option (Nat × Obj))) (id ver n sz : Nat) (fin : Array Nat) (k : Nat) (v1 v2 v3 v8 v9 : V) (st : St) : Prop :=
  ∃ a b limit wb wp d nv, k = b - a ∧ v1 = .int .i64 ((a : Nat) : Int) ∧ v2 = .int .i64 ((b : Nat) : Int) ∧ v3 = .int .i64 ((limit : Nat) : Int) ∧ v8 = .bool wb ∧ v9 = .bool wp ∧ a ≤ b ∧ b ≤ sz ∧ b - a ≤ n ∧ limit ≤ 64 ∧ d.size = sz ∧
    Go.Sort.pdq ltN d a b limit wb wp = fin ∧ st = ⟨L.set id (some (ver, .mem 1 (rowsN d))), nv⟩
def PdJ1 (L : List (Option (Nat × Obj))) (id ver limit : Nat) (d : Array Nat) (v : V) (st : St) : Prop :=
  v = .int .i64 ((limit : Nat) : Int) ∧ ∃ nv, st = ⟨L.set id (some (ver, .mem 1 (rowsN d))), nv⟩
def PdJ2 (L : List (Option (Nat × Obj))) (id ver p h : Nat) (d : Array Nat) (v w : V) (st : St) : Prop :=
  v = .int .i64 ((p : Nat) : Int) ∧ w = .int .i64 ((h : Nat) : Int) ∧ ∃ nv, st = ⟨L.set id (some (ver, .mem 1 (rowsN d))), nv⟩
def PdJ3 (L : List (Option (Nat × Obj))) (id ver : Nat) (r : Array Nat × Bool) (st : St) : Prop :=
  r.2 = false ∧ ∃ nv, st = ⟨L.set id (some (ver, .mem 1 (rowsN r.1))), nv⟩

/-- One round of pdqsort, in parts. -/
theorem pdq_round (d : Array Nat) (a b limit : Nat) (wb wp : Bool) (h12 : ¬ b - a ≤ 12) (hl : ¬ limit = 0) :
    ∀ d1 l1 c d2 p hint pi, d1 = (if !wb then Go.Sort.breakPatterns d a b else d) → l1 = (if !wb then limit - 1 else limit) → c = Go.Sort.choosePivot ltN d1 a b → d2 = (if c.2 = .decreasing then Go.Sort.reverseRange d1 a b else d1) →
    p = (if c.2 = .decreasing then (b - 1) - (c.1 - a) else c.1) → hint = (if c.2 = .decreasing then Go.Sort.Hint.increasing else c.2) → pi = (if wb && wp && hint = .increasing then Go.Sort.partialInsertionSort ltN d2 a b else (d2, false)) →
    Go.Sort.pdq ltN d a b limit wb wp = if pi.2 then pi.1 else
      if a > 0 && !ltN (dg pi.1 (a - 1)) (dg pi.1 p) then
        (if a < (Go.Sort.partitionEqual ltN pi.1 a b p).1 ∧ (Go.Sort.partitionEqual ltN pi.1 a b p).1 ≤ b then Go.Sort.pdq ltN (Go.Sort.partitionEqual ltN pi.1 a b p).2 (Go.Sort.partitionEqual ltN pi.1 a b p).1 b l1 wb wp else (Go.Sort.partitionEqual ltN pi.1 a b p).2)
      else
        (if a ≤ (Go.Sort.partition ltN pi.1 a b p).1 ∧ (Go.Sort.partition ltN pi.1 a b p).1 < b then
          (if (Go.Sort.partition ltN pi.1 a b p).1 - a < b - (Go.Sort.partition ltN pi.1 a b p).1 then
            Go.Sort.pdq ltN (Go.Sort.pdq ltN (Go.Sort.partition ltN pi.1 a b p).2.2 a (Go.Sort.partition ltN pi.1 a b p).1 l1 true true) ((Go.Sort.partition ltN pi.1 a b p).1 + 1) b l1 (decide ((Go.Sort.partition ltN pi.1 a b p).1 - a ≥ (b - a) / 8)) (Go.Sort.partition ltN pi.1 a b p).2.1
          else
            Go.Sort.pdq ltN (Go.Sort.pdq ltN (Go.Sort.partition ltN pi.1 a b p).2.2 ((Go.Sort.partition ltN pi.1 a b p).1 + 1) b l1 true true) a (Go.Sort.partition ltN pi.1 a b p).1 l1 (decide (b - (Go.Sort.partition ltN pi.1 a b p).1 ≥ (b - a) / 8)) (Go.Sort.partition ltN pi.1 a b p).2.1)
        else (Go.Sort.partition ltN pi.1 a b p).2.2) := by
  intro d1 l1 c d2 p hint pi h1 h2 h3 h4 h5 h6 h7
  conv => lhs; rw [Go.Sort.pdq, if_neg h12, if_neg hl]
  simp only [← h1, ← h2, ← h3, ← h4, ← h5, ← h6, ← h7]
  simp only [dite_eq_ite]
  rfl

theorem pdq_size : ∀ (n : Nat) (d : Array Nat) (a b limit : Nat) (wb wp : Bool), b - a ≤ n → a ≤ b → b ≤ d.size → (Go.Sort.pdq ltN d a b limit wb wp).size = d.size := by
  intro n
  induction n using Nat.strongRecOn with
  | ind n ih =>
  intro d0 a b limit wb wp hn hab hb
  by_cases h12 : b - a ≤ 12
  · rw [Go.Sort.pdq, if_pos h12]
    exact (Go.Sort.insertionSort_holds swoN d0 a b hab hb).1.1
  by_cases hl0 : limit = 0
  · rw [Go.Sort.pdq, if_neg h12, if_pos hl0]
    exact (Go.Sort.heapSort_holds swoN d0 a b hab hb).1.1
  obtain ⟨d1, hd1'⟩ : ∃ d1, d1 = (if !wb then Go.Sort.breakPatterns d0 a b else d0) := ⟨_, rfl⟩
  obtain ⟨l1, hl1'⟩ : ∃ l1, l1 = (if !wb then limit - 1 else limit) := ⟨_, rfl⟩
  obtain ⟨c, hc'⟩ : ∃ c, c = Go.Sort.choosePivot ltN d1 a b := ⟨_, rfl⟩
  obtain ⟨d2, hd2'⟩ : ∃ d2, d2 = (if c.2 = .decreasing then Go.Sort.reverseRange d1 a b else d1) := ⟨_, rfl⟩
  obtain ⟨p, hp'⟩ : ∃ p, p = (if c.2 = .decreasing then (b - 1) - (c.1 - a) else c.1) := ⟨_, rfl⟩
  obtain ⟨hint, hh'⟩ : ∃ hint, hint = (if c.2 = .decreasing then Go.Sort.Hint.increasing else c.2) := ⟨_, rfl⟩
  obtain ⟨pi, hpi'⟩ : ∃ pi, pi = (if wb && wp && hint = .increasing then Go.Sort.partialInsertionSort ltN d2 a b else (d2, false)) := ⟨_, rfl⟩
  rw [pdq_round d0 a b limit wb wp h12 hl0 d1 l1 c d2 p hint pi hd1' hl1' hc' hd2' hp' hh' hpi']
  have hd1 : d1.size = d0.size := by
    rw [hd1']; split
    · exact (Go.Sort.breakPatterns_holds d0 a b hab (by omega)).1
    · rfl
  have hd2 : d2.size = d0.size := by
    rw [hd2']; split
    · rw [(Go.Sort.reverseRange_holds d1 a b hab (by omega)).1, hd1]
    · exact hd1
  have hcr := Go.Sort.choosePivot_holds ltN d1 a b (by omega)
  rw [← hc'] at hcr
  have hpr : a ≤ p ∧ p < b := by rw [hp']; split <;> omega
  have hpi : pi.1.size = d0.size := by
    rw [hpi']; split
    · rw [Go.Sort.partialInsertionSort, partialIns_size, hd2]
    · exact hd2
  split
  · exact hpi
  · split
    · have hr := partEqLoop_le a b _ (a + 1) (b - 1) (Go.Sort.swp pi.1 a p) (Nat.le_refl _) (by omega) (by omega)
      have hr : a + 1 ≤ (Go.Sort.partitionEqual ltN pi.1 a b p).1 ∧ (Go.Sort.partitionEqual ltN pi.1 a b p).1 ≤ b ∧ (Go.Sort.partitionEqual ltN pi.1 a b p).2.size = pi.1.size := by
        have := hr
        simp only [swp_size] at this
        exact this
      rw [if_pos ⟨by omega, hr.2.1⟩, ih (b - (Go.Sort.partitionEqual ltN pi.1 a b p).1) (by omega) _ _ _ _ _ _ (Nat.le_refl _) hr.2.1 (by omega)]
      omega
    · obtain ⟨hr1, hr2, hr3, _⟩ := Go.Sort.partition_holds ltN swoN pi.1 a b p hpr.1 hpr.2 (by omega)
      have hr3 := hr3.1
      rw [if_pos ⟨hr1, hr2⟩]
      generalize Go.Sort.partition ltN pi.1 a b p = r at *
      split
      · have h1 := ih (r.1 - a) (by omega) r.2.2 a r.1 l1 true true (Nat.le_refl _) hr1 (by omega)
        rw [ih (b - (r.1 + 1)) (by omega) _ _ _ _ _ _ (Nat.le_refl _) (by omega) (by omega)]
        omega
      · have h1 := ih (b - (r.1 + 1)) (by omega) r.2.2 (r.1 + 1) b l1 true true (Nat.le_refl _) (by omega) (by omega)
        rw [ih (r.1 - a) (by omega) _ _ _ _ _ _ (Nat.le_refl _) (by omega) (by omega)]
        omega

theorem pdq_N (h : SortR P) {id ver : Nat} : ∀ (n : Nat) (L : List (Option (Nat × Obj))) (nv : Nat), id < L.length → ∀ (d : Array Nat) (a b limit : Nat), b - a ≤ n → a ≤ b → b ≤ d.size → d.size < 65536 → limit ≤ 64 → ∀ {K : V → St → Prop}, (∀ nv', K (.tup []) ⟨L.set id (some (ver, .mem 1 (rowsN (Go.Sort.pdq ltN d a b limit true true)))), nv'⟩) →
    ACalls P n_slices_pdqsortOrdered_uint64 [.msl id ver 0 d.size, .int .i64 a, .int .i64 b, .int .i64 limit] ⟨L.set id (some (ver, .mem 1 (rowsN d))), nv⟩ K := by
  intro n
  induction n using Nat.strongRecOn with
  | ind n ih =>
  intro L nv hid d a b limit hn hab hb hsz hlim K hk
  refine A_slices_pdqsortOrdered_uint64 h.pdq ?_
  unfold F_slices_pdqsortOrdered_uint64
  obtain ⟨FIN, hFIN⟩ : ∃ F, F = Go.Sort.pdq ltN d a b limit true true := ⟨_, rfl⟩
  rw [← hFIN] at hk
  refine ⟨PdI L id ver n d.size FIN, ⟨b - a, GhostV.refl ⟨a, b, limit, true, true, d, nv, rfl, rfl, rfl, rfl, rfl, rfl, hab, hb, hn, hlim, rfl, hFIN.symm, rfl⟩⟩, ?_⟩
  clear hFIN
  rintro k v1 v2 v3 v8 v9 st ⟨a, b, limit, wb, wp, d0, nv, rfl, rfl, rfl, rfl, rfl, rfl, hab, hb, hn, hlim, hd0, hfin, rfl⟩
  have ret : ∀ d', d' = FIN → ∀ nv', GhostV [] ⟨L.set id (some (ver, .mem 1 (rowsN d'))), nv'⟩ (fun vs st => K (mkres vs) st) := fun d' hd' nv' => by
    subst hd'; exact GhostV.refl (hk nv')
  rw [← hd0]
  have e1 : IntKind.i64.wrap ((b : Int) - (a : Int)) = ((b - a : Nat) : Int) := by rw [wrap_i64 (by omega)]; omega
  by_cases h12 : b - a ≤ 12
  · have h12' : ((b - a : Nat) : Int) ≤ 12 := by omega
    simp [e1, h12']
    refine inv_f0 (insertionSort_N h.toLessR h.ins hid d0 a b hab (by omega) (by omega) ?_)
    refine ret _ ?_ _
    rw [← hfin, Go.Sort.pdq, if_pos h12]
  · have h12' : ¬ ((b - a : Nat) : Int) ≤ 12 := by omega
    simp [e1, h12']
    by_cases hl0 : limit = 0
    · subst hl0
      simp
      refine inv_f0 (heapSort_N h.toLessR h.sift h.heap hid d0 a b (by omega) (by omega) (by omega) ?_)
      refine ret _ ?_ _
      rw [← hfin, Go.Sort.pdq, if_neg h12, if_pos rfl]
    · have hl0' : ¬ ((limit : Int) = 0) := by omega
      simp [hl0]
      obtain ⟨d1, hd1'⟩ : ∃ d1, d1 = (if !wb then Go.Sort.breakPatterns d0 a b else d0) := ⟨_, rfl⟩
      obtain ⟨l1, hl1'⟩ : ∃ l1, l1 = (if !wb then limit - 1 else limit) := ⟨_, rfl⟩
      obtain ⟨c, hc'⟩ : ∃ c, c = Go.Sort.choosePivot ltN d1 a b := ⟨_, rfl⟩
      obtain ⟨d2, hd2'⟩ : ∃ d2, d2 = (if c.2 = .decreasing then Go.Sort.reverseRange d1 a b else d1) := ⟨_, rfl⟩
      obtain ⟨p, hp'⟩ : ∃ p, p = (if c.2 = .decreasing then (b - 1) - (c.1 - a) else c.1) := ⟨_, rfl⟩
      obtain ⟨hint, hh'⟩ : ∃ hint, hint = (if c.2 = .decreasing then Go.Sort.Hint.increasing else c.2) := ⟨_, rfl⟩
      obtain ⟨pi, hpi'⟩ : ∃ pi, pi = (if wb && wp && hint = .increasing then Go.Sort.partialInsertionSort ltN d2 a b else (d2, false)) := ⟨_, rfl⟩
      have round := pdq_round d0 a b limit wb wp h12 hl0 d1 l1 c d2 p hint pi hd1' hl1' hc' hd2' hp' hh' hpi'
      rw [hfin] at round
      have hd1 : d1.size = d0.size := by
        rw [hd1']; split
        · exact (Go.Sort.breakPatterns_holds d0 a b hab (by omega)).1
        · rfl
      have hd2 : d2.size = d0.size := by
        rw [hd2']; split
        · rw [(Go.Sort.reverseRange_holds d1 a b hab (by omega)).1, hd1]
        · exact hd1
      have hcr := Go.Sort.choosePivot_holds ltN d1 a b (by omega)
      rw [← hc'] at hcr
      have hpr : a ≤ p ∧ p < b := by rw [hp']; split <;> omega
      have hpi : pi.1.size = d0.size := by
        rw [hpi']; split
        · rw [Go.Sort.partialInsertionSort, partialIns_size, hd2]
        · exact hd2
      have hl1 : l1 ≤ 64 := by rw [hl1']; split <;> omega
      have sz : ∀ x : Array Nat, x.size = d0.size → d0.size = x.size := fun _ h => h.symm
      refine ⟨PdJ1 L id ver l1 d1, ?_, ?_⟩
      · cases wb
        · simp
          refine inv_f0 (breakPatterns_N h hid d0 a b (by omega) (by omega) (by omega) ?_)
          intro nv'
          have e2 : IntKind.i64.wrap ((limit : Int) - 1) = (l1 : Int) := by rw [wrap_i64 (by omega), hl1']; simp; omega
          simp [e2]
          have : d1 = Go.Sort.breakPatterns d0 a b := by rw [hd1']; rfl
          rw [← this]
          exact GhostV.refl ⟨rfl, nv', rfl⟩
        · simp
          have q1 : d1 = d0 := by rw [hd1']; rfl
          have q2 : l1 = limit := by rw [hl1']; rfl
          rw [q1, q2]
          exact GhostV.refl ⟨rfl, nv, rfl⟩
      rintro v st ⟨rfl, nv1, rfl⟩
      rw [← hd1]
      simp
      refine inv_f0 (choosePivot_N h.toMedR d1 (by simp [hid]) a b (by omega) (by omega) (by omega) ?_)
      intro nv2
      rw [← hc']
      simp
      refine ⟨PdJ2 L id ver p (hintN hint) d2, ?_, ?_⟩
      · by_cases hdec : c.2 = .decreasing
        · simp [hdec, hintN]
          refine inv_f0 (reverseRange_N h.rev hid d1 a b (by omega) (by omega) (by omega) ?_)
          have e2 : IntKind.i64.wrap ((b : Int) - 1) = ((b - 1 : Nat) : Int) := by rw [wrap_i64 (by omega)]; omega
          have e3 : IntKind.i64.wrap ((c.1 : Int) - (a : Int)) = ((c.1 - a : Nat) : Int) := by rw [wrap_i64 (by omega)]; omega
          have e4 : IntKind.i64.wrap (((b - 1 : Nat) : Int) - ((c.1 - a : Nat) : Int)) = (p : Int) := by rw [wrap_i64 (by omega), hp', if_pos hdec]; omega
          simp only [op_bin, aop_bin, binV_int, intBin_sub, ne_eq, reduceCtorEq, not_false_eq_true, Option.map_some, res_some, e2, e3, e4]
          have q1 : d2 = Go.Sort.reverseRange d1 a b := by rw [hd2', if_pos hdec]
          have q2 : hint = .increasing := by rw [hh', if_pos hdec]
          rw [← q1]
          exact GhostV.refl ⟨rfl, by rw [q2]; rfl, nv2, rfl⟩
        · have hne : ¬ (((hintN c.2 : Nat) : Int) = 2) := by
            cases hc2 : c.2 <;> simp [hintN]
            exact absurd hc2 hdec
          have q1 : d2 = d1 := by rw [hd2', if_neg hdec]
          have q2 : hint = c.2 := by rw [hh', if_neg hdec]
          have q3 : p = c.1 := by rw [hp', if_neg hdec]
          simp [hne]
          rw [q1, q2, q3]
          exact GhostV.refl ⟨rfl, rfl, nv2, rfl⟩
      rintro v w st ⟨rfl, rfl, nv3, rfl⟩
      rw [hd1, ← hd2]
      refine ⟨PdJ3 L id ver pi, ?_, ?_⟩
      · have hi : (((hintN hint : Nat) : Int) = 1) ↔ hint = .increasing := by cases hint <;> simp [hintN]
        by_cases hall : (wb && wp && decide (hint = .increasing)) = true
        · have hall' := hall
          simp only [Bool.and_eq_true, decide_eq_true_eq] at hall'
          obtain ⟨⟨rfl, rfl⟩, hinc⟩ := hall'
          simp [hi.2 hinc]
          refine inv_f0 (partialInsertionSort_N h.toLessR h.few hid d2 a b (by omega) (by omega) (by omega) ?_)
          have q1 : pi = Go.Sort.partialInsertionSort ltN d2 a b := by rw [hpi', if_pos hall]
          rw [← q1]
          cases hpb : pi.2
          · simp
            exact GhostV.refl ⟨hpb, nv3, rfl⟩
          · simp
            rw [hpb] at round
            exact ret _ round.symm _
        · have q1 : pi = (d2, false) := by rw [hpi', if_neg hall]
          have fini : GhostV [] ⟨L.set id (some (ver, .mem 1 (rowsN d2))), nv3⟩ (app (n := 0) (PdJ3 L id ver pi)) := GhostV.refl ⟨by rw [q1], nv3, by rw [q1]⟩
          cases wb
          · simpa using fini
          · cases wp
            · simpa using fini
            · have : ¬ hint = .increasing := by simpa using hall
              have hne : ¬ (((hintN hint : Nat) : Int) = 1) := fun e => this (hi.1 e)
              simpa [hne] using fini
      rintro st ⟨hpb, nv4, rfl⟩
      rw [hpb] at round
      simp only [Bool.false_eq_true, if_false] at round
      obtain ⟨d3, hd3'⟩ : ∃ d3, d3 = pi.1 := ⟨_, rfl⟩
      rw [← hd3'] at round hpi ⊢
      rw [hd2, ← hpi]
      have hp1 : p < d3.size := by omega
      -- the two ways on
      by_cases hle : 0 < a ∧ ltN (dg d3 (a - 1)) (dg d3 p) = false
      · obtain ⟨ha0, hc0⟩ := hle
        obtain ⟨a1, ha1⟩ : ∃ a1, a1 = a - 1 := ⟨_, rfl⟩
        have e2 : IntKind.i64.wrap ((a : Int) - 1) = (a1 : Int) := by rw [wrap_i64 (by omega)]; omega
        have h1 : a1 < d3.size := by omega
        simp [ha0, e2, h1, hp1, hid]
        refine inv_p (Less_N h.toLessR (dg d3 a1) (dg d3 p)) rfl rfl ?_
        rintro _ rfl
        rw [ha1, hc0]
        simp
        rw [if_pos (by simp [ha0, hc0])] at round
        refine inv_f0 (partitionEqual_N h.toLessR h.eq hid d3 a b p hpr.1 hpr.2 (by omega) (by omega) ?_)
        have hr := partEqLoop_le a b _ (a + 1) (b - 1) (Go.Sort.swp d3 a p) (Nat.le_refl _) (by omega) (by omega)
        have hr : a + 1 ≤ (Go.Sort.partitionEqual ltN d3 a b p).1 ∧ (Go.Sort.partitionEqual ltN d3 a b p).1 ≤ b ∧ (Go.Sort.partitionEqual ltN d3 a b p).2.size = d3.size := by
          have := hr
          simp only [swp_size] at this
          exact this
        rw [if_pos ⟨by omega, hr.2.1⟩] at round
        exact ⟨b - (Go.Sort.partitionEqual ltN d3 a b p).1, by omega, GhostV.refl ⟨_, b, l1, wb, wp, _, nv4, rfl, rfl, rfl, rfl, rfl, rfl, hr.2.1, by omega, by omega, hl1, by omega, round.symm, rfl⟩⟩
      · rw [if_neg (by simpa using hle)] at round
        have hr := Go.Sort.partition_holds ltN swoN d3 a b p hpr.1 hpr.2 (by omega)
        obtain ⟨r, hr'⟩ : ∃ r, r = Go.Sort.partition ltN d3 a b p := ⟨_, rfl⟩
        rw [← hr'] at hr
        obtain ⟨hr1, hr2, hr3, _⟩ := hr
        have hr3 := hr3.1
        rw [← hr', if_pos ⟨hr1, hr2⟩] at round
        have main : ∀ nv4, inv P (.fn (.func n_slices_partitionOrdered_uint64) [] []) [.msl id ver 0 d3.size, .int .i64 a, .int .i64 b, .int .i64 p] ⟨L.set id (some (ver, .mem 1 (rowsN d3))), nv4⟩ (K := ⟨fun v99 st =>
                @stp P (.ext 0 (.c v99)) st ⟨fun v100 st =>
                @stp P (.ext 1 (.c v99)) st ⟨fun v101 st =>
                @stp P (.bin .sub (.c v100) (.c (.int .i64 a))) st ⟨fun v105 st =>
                @stp P (.bin .sub (.c (.int .i64 b)) (.c v100)) st ⟨fun v108 st =>
                @stp P (.bin .quo (.c (.int .i64 ((b - a : Nat) : Int))) (.c (.int .i64 8))) st ⟨fun v110 st =>
                @stp P (.bin .lss (.c v105) (.c v108)) st ⟨fun v113 st =>
                @cnd v113 ⟨
                  @stp P (.bin .geq (.c v105) (.c v110)) st ⟨fun v116 st =>
                  @stp P (.call (.c (.fn (.func n_slices_pdqsortOrdered_uint64) [] [])) [(.c (.msl id ver 0 d3.size)), (.c (.int .i64 a)), (.c v100), (.c (.int .i64 l1))]) st ⟨fun v121 st =>
                  @stp P (.bin .add (.c v100) (.c (.int .i64 1))) st ⟨fun v123 st =>
                  ∃ j, j < b - a ∧ GhostV [v123, .int .i64 b, .int .i64 l1, v116, v101] st (app (n := 5) (PdI L id ver n d3.size FIN j))⟩⟩⟩⟩
                ⟨
                  @stp P (.bin .geq (.c v108) (.c v110)) st ⟨fun v126 st =>
                  @stp P (.bin .add (.c v100) (.c (.int .i64 1))) st ⟨fun v129 st =>
                  @stp P (.call (.c (.fn (.func n_slices_pdqsortOrdered_uint64) [] [])) [(.c (.msl id ver 0 d3.size)), (.c v129), (.c (.int .i64 b)), (.c (.int .i64 l1))]) st ⟨fun v132 st =>
                  ∃ j, j < b - a ∧ GhostV [.int .i64 a, v100, .int .i64 l1, v126, v101] st (app (n := 5) (PdI L id ver n d3.size FIN j))⟩⟩⟩⟩⟩⟩⟩⟩⟩⟩⟩) := by
          intro nv4
          refine inv_f0 (partition_N h.toLessR h.part hid d3 a b p hpr.1 hpr.2 (by omega) (by omega) ?_)
          rw [← hr']
          have e2 : IntKind.i64.wrap ((r.1 : Int) - (a : Int)) = ((r.1 - a : Nat) : Int) := by rw [wrap_i64 (by omega)]; omega
          have e3 : IntKind.i64.wrap ((b : Int) - (r.1 : Int)) = ((b - r.1 : Nat) : Int) := by rw [wrap_i64 (by omega)]; omega
          have e4 : IntKind.i64.wrap (((b - a : Nat) : Int).tdiv 8) = (((b - a) / 8 : Nat) : Int) := by
            have : ((b - a : Nat) : Int).tdiv 8 = (((b - a) / 8 : Nat) : Int) := rfl
            rw [this, wrap_i64 (by omega)]
          have e5 : IntKind.i64.wrap ((r.1 : Int) + 1) = ((r.1 + 1 : Nat) : Int) := wadd1 (by omega)
          have hrs : d3.size = r.2.2.size := hr3.symm
          simp only [op_ext, aop_ext, List.getElem?_cons_zero, List.getElem?_cons_succ, Option.map_some, res_some, op_bin, aop_bin, binV_int, intBin_sub, intBin_quo, intBin_lss, ne_eq, reduceCtorEq, not_false_eq_true, show ¬ ((8 : Int) = 0) by omega, if_false, e2, e3, e4]
          by_cases hlt : r.1 - a < b - r.1
          · have hlt' : decide (((r.1 - a : Nat) : Int) < ((b - r.1 : Nat) : Int)) = true := by simp; omega
            rw [if_pos hlt] at round
            rw [hlt']
            simp only [cnd_true, op_bin, aop_bin, binV_int, intBin_geq, ne_eq, reduceCtorEq, not_false_eq_true, Option.map_some, res_some, op_call, List.map_cons, List.map_nil, ev_c]
            refine inv_f0 ?_
            rw [hrs]
            refine ih (r.1 - a) (by omega) L nv4 hid r.2.2 a r.1 l1 (Nat.le_refl _) hr1 (by omega) (by omega) hl1 ?_
            intro nv5
            simp only [op_bin, aop_bin, binV_int, intBin_add, ne_eq, reduceCtorEq, not_false_eq_true, Option.map_some, res_some, e5]
            refine ⟨b - (r.1 + 1), by omega, GhostV.refl ⟨r.1 + 1, b, l1, _, r.2.1, Go.Sort.pdq ltN r.2.2 a r.1 l1 true true, nv5, rfl, rfl, rfl, rfl, ?_, rfl, by omega, by omega, by omega, hl1, ?_, round.symm, rfl⟩⟩
            · congr 1
              simp only [ge_iff_le]
              congr 1
              apply propext
              omega
            · rw [pdq_size _ _ _ _ _ _ _ (Nat.le_refl _) hr1 (by omega)]
          · have hlt' : decide (((r.1 - a : Nat) : Int) < ((b - r.1 : Nat) : Int)) = false := by simp; omega
            rw [if_neg hlt] at round
            rw [hlt']
            simp only [cnd_false, op_bin, aop_bin, binV_int, intBin_geq, intBin_add, ne_eq, reduceCtorEq, not_false_eq_true, Option.map_some, res_some, op_call, List.map_cons, List.map_nil, ev_c, e5]
            refine inv_f0 ?_
            rw [hrs]
            refine ih (b - (r.1 + 1)) (by omega) L nv4 hid r.2.2 (r.1 + 1) b l1 (Nat.le_refl _) (by omega) (by omega) (by omega) hl1 ?_
            intro nv5
            refine ⟨r.1 - a, by omega, GhostV.refl ⟨a, r.1, l1, _, r.2.1, Go.Sort.pdq ltN r.2.2 (r.1 + 1) b l1 true true, nv5, rfl, rfl, rfl, rfl, ?_, rfl, by omega, by omega, by omega, hl1, ?_, round.symm, rfl⟩⟩
            · congr 1
              simp only [ge_iff_le]
              congr 1
              apply propext
              omega
            · rw [pdq_size _ _ _ _ _ _ _ (Nat.le_refl _) (by omega) (by omega)]
        by_cases ha0 : 0 < a
        · obtain ⟨a1, ha1⟩ : ∃ a1, a1 = a - 1 := ⟨_, rfl⟩
          have e2 : IntKind.i64.wrap ((a : Int) - 1) = (a1 : Int) := by rw [wrap_i64 (by omega)]; omega
          have h1 : a1 < d3.size := by omega
          simp [ha0, e2, h1, hp1, hid]
          refine inv_p (Less_N h.toLessR (dg d3 a1) (dg d3 p)) rfl rfl ?_
          rintro _ rfl
          have hc1 : ltN (dg d3 a1) (dg d3 p) = true := by
            rw [ha1]
            cases hq : ltN (dg d3 (a - 1)) (dg d3 p)
            · exact absurd ⟨ha0, hq⟩ hle
            · rfl
          rw [hc1]
          simp
          exact main nv4
        · simp [ha0]
          exact main nv4

theorem Sort_N (h : SortR P) {L : List (Option (Nat × Obj))} {nv id ver : Nat} (hid : id < L.length) (d : Array Nat) (hsz : d.size < 65536) {K : V → St → Prop}
    (hk : ∀ nv', K (.tup []) ⟨L.set id (some (ver, .mem 1 (rowsN (Go.Sort.sort ltN d)))), nv'⟩) :
    ACalls P n_slices_Sort_uint64_uint64 [.msl id ver 0 d.size] ⟨L.set id (some (ver, .mem 1 (rowsN d))), nv⟩ K := by
  refine A_slices_Sort_uint64_uint64 h.sort ?_
  unfold F_slices_Sort_uint64_uint64
  have e2 : IntKind.u64.wrap (d.size : Int) = (d.size : Int) := by show (d.size : Int) % 18446744073709551616 = _; omega
  simp [e2]
  refine inv_p (bits_Len h.toBitsR d.size hsz) rfl rfl ?_
  rintro _ rfl
  simp
  refine inv_f0 ?_
  have := pdq_N h d.size L nv hid d 0 d.size (Go.Sort.bitsLen d.size) (by omega) (by omega) (Nat.le_refl _) hsz (by have := bitsLen_le16 hsz; omega) (K := fun v st => GhostV [] st fun vs st => K (mkres vs) st) (fun nv' => GhostV.refl (hk nv'))
  exact this

/-- What slices.Sort makes of a row. -/
def sortL (l : List Nat) : List Nat := (Go.Sort.sort ltN l.toArray).toList
theorem sortL_eq (l : List Nat) : sortL l = l.mergeSort (fun x y => decide (x ≤ y)) := by
  have h := Go.Sort.sort_sorts ltN swoN l.toArray
  have := Go.Sort.sorted_unique_holds swoN (fun x y h1 h2 => by simp only [ltN, decide_eq_false_iff_not] at h1 h2; omega) l.toArray _ h.1 h.2
  unfold sortL
  rw [this]
  congr 1
  funext x y
  simp only [ltN]
  by_cases hxy : x ≤ y <;> simp [hxy] <;> omega
theorem sortL_perm (l : List Nat) : (sortL l).Perm l := by rw [sortL_eq]; exact List.mergeSort_perm _ _
theorem sortL_sorted (l : List Nat) : (sortL l).Pairwise (· ≤ ·) := by
  rw [sortL_eq]
  have := List.pairwise_mergeSort (le := fun x y : Nat => decide (x ≤ y)) (fun a b c h1 h2 => by simp only [decide_eq_true_eq] at *; omega) (fun a b => by simp only [Bool.or_eq_true, decide_eq_true_eq]; omega) l
  simpa using this
@[simp] theorem sortL_len (l : List Nat) : (sortL l).length = l.length := (sortL_perm l).length_eq
end Go.Proofs.Ytmbhgjekjpkigaa.AM
