/- pred: the functions, walked. -/
import Derived.Test.YtmgkjbphlbpbfaaPCodeB
import Derived.Test.YtmgkjbphlbpbfaaAmG
import Derived.Test.YtmgkjbphlbpbfaaAmIns
namespace Go.Proofs.Ytmgkjbphlbpbfaa.AM
open Go
set_option linter.unusedVariables false
set_option linter.unusedSimpArgs false
variable {P : Program}

structure PredT where
  (node txn : Nat)
  k : KeyT
  deriving DecidableEq
@[simp] def cPred (x : PredT) : List V := [.int .u32 x.node, .int .u64 x.txn, .int .i64 x.k.x0, .int .i64 x.k.x1, .int .i64 x.k.y0, .int .i64 x.k.y1]
@[simp] theorem p_pred (l : List PredT) : pureLL (l.map cPred) = true := pureLL_map (fun _ => rfl) l

def cmpN (a b : Nat) : Int := if a < b then -1 else if b < a then 1 else 0
def cmpI (a b : Int) : Int := if a < b then -1 else if b < a then 1 else 0
def orI : List Int → Int
  | [] => 0
  | x :: r => if x ≠ 0 then x else orI r
def ordL (a b : PredT) : List Int := [cmpN a.node b.node, cmpN a.txn b.txn, cmpI a.k.x0 b.k.x0, cmpI a.k.x1 b.k.x1, cmpI a.k.y0 b.k.y0, cmpI a.k.y1 b.k.y1]
def ordP (a b : PredT) : Int := orI (ordL a b)
def lessP (a b : PredT) : Bool := decide (ordP a b < 0)

theorem cmpN_lt {a b : Nat} : cmpN a b < 0 ↔ a < b := by unfold cmpN; repeat' split; all_goals omega
theorem cmpN_eq {a b : Nat} : cmpN a b = 0 ↔ a = b := by unfold cmpN; repeat' split; all_goals omega
theorem cmpI_lt {a b : Int} : cmpI a b < 0 ↔ a < b := by unfold cmpI; repeat' split; all_goals omega
theorem cmpI_eq {a b : Int} : cmpI a b = 0 ↔ a = b := by unfold cmpI; repeat' split; all_goals omega
theorem cmpN_neg {a b : Nat} : cmpN b a = - cmpN a b := by unfold cmpN; repeat' split; all_goals omega
theorem cmpI_neg {a b : Int} : cmpI b a = - cmpI a b := by unfold cmpI; repeat' split; all_goals omega

theorem orI_lt {x : Int} {r : List Int} : orI (x :: r) < 0 ↔ x < 0 ∨ x = 0 ∧ orI r < 0 := by
  simp only [orI]; split <;> omega
theorem orI_eq {x : Int} {r : List Int} : orI (x :: r) = 0 ↔ x = 0 ∧ orI r = 0 := by
  simp only [orI]; split <;> omega
theorem orI_nil : orI [] = 0 := rfl
/-- The order, spelt out. -/
theorem lessP_iff {a b : PredT} : lessP a b = true ↔ a.node < b.node ∨ a.node = b.node ∧ (a.txn < b.txn ∨ a.txn = b.txn ∧ (a.k.x0 < b.k.x0 ∨ a.k.x0 = b.k.x0 ∧ (a.k.x1 < b.k.x1 ∨ a.k.x1 = b.k.x1 ∧ (a.k.y0 < b.k.y0 ∨ a.k.y0 = b.k.y0 ∧ a.k.y1 < b.k.y1)))) := by
  simp only [lessP, ordP, ordL, orI_lt, decide_eq_true_eq, cmpN_lt, cmpN_eq, cmpI_lt, cmpI_eq, orI_nil, Int.lt_irrefl, and_false, or_false]
theorem ordP_eq {a b : PredT} : ordP a b = 0 ↔ a = b := by
  simp only [ordP, ordL, orI_eq, cmpN_eq, cmpI_eq, orI_nil, and_true]
  obtain ⟨an, at', ⟨ax, ax', ay, ay'⟩⟩ := a
  obtain ⟨bn, bt, ⟨bx, bx', by', by''⟩⟩ := b
  simp only [PredT.mk.injEq, KeyT.mk.injEq]
theorem lessP_irrefl {a : PredT} : lessP a a = false := by
  have : ordP a a = 0 := ordP_eq.2 rfl
  simp [lessP, this]
theorem lessP_trans {a b c : PredT} (h1 : lessP a b = true) (h2 : lessP b c = true) : lessP a c = true := by
  simp only [lessP_iff] at *
  omega
theorem ordP_pos {a b : PredT} (h1 : ¬ ordP a b < 0) (h2 : a ≠ b) : lessP b a = true := by
  have h1' : ¬ lessP a b = true := by simpa [lessP] using h1
  rw [lessP_iff] at h1' ⊢
  have h3 : ¬ (a.node = b.node ∧ a.txn = b.txn ∧ a.k.x0 = b.k.x0 ∧ a.k.x1 = b.k.x1 ∧ a.k.y0 = b.k.y0 ∧ a.k.y1 = b.k.y1) := by
    rintro ⟨e1, e2, e3, e4, e5, e6⟩
    apply h2
    obtain ⟨an, at', ⟨ax, ax', ay, ay'⟩⟩ := a
    obtain ⟨bn, bt, ⟨bx, bx', by', by''⟩⟩ := b
    simp_all
  omega
theorem lessP_asymm {a b : PredT} (h : lessP a b = true) : lessP b a = false := by
  cases h2 : lessP b a with
  | false => rfl
  | true => have := lessP_trans h h2; rw [lessP_irrefl] at this; cases this
theorem lessP_total {a b : PredT} (h : lessP a b = false) (hne : a ≠ b) : lessP b a = true := ordP_pos (by simpa [lessP] using h) hne

structure OrdR (P : Program) : Prop where
  n32 : R_cmp_isNaN_uint32 P
  n64 : R_cmp_isNaN_uint64 P
  i64 : R_cmp_isNaN_int64 P
  c32 : R_cmp_Compare_uint32 P
  c64 : R_cmp_Compare_uint64 P
  ci : R_cmp_Compare_int64 P
  or : R_cmp_Or_int P
  ord : R_pred_order P

theorem isNaN_u32 (hR : R_cmp_isNaN_uint32 P) (a : Nat) : PCalls P n_cmp_isNaN_uint32 [.int .u32 a] (fun r => r = .bool false) := by
  refine A_cmp_isNaN_uint32 hR ?_
  unfold F_cmp_isNaN_uint32
  simp
  exact GhostV.refl (by simp)
theorem isNaN_u64 (hR : R_cmp_isNaN_uint64 P) (a : Nat) : PCalls P n_cmp_isNaN_uint64 [.int .u64 a] (fun r => r = .bool false) := by
  refine A_cmp_isNaN_uint64 hR ?_
  unfold F_cmp_isNaN_uint64
  simp
  exact GhostV.refl (by simp)
theorem isNaN_i64 (hR : R_cmp_isNaN_int64 P) (a : Int) : PCalls P n_cmp_isNaN_int64 [.int .i64 a] (fun r => r = .bool false) := by
  refine A_cmp_isNaN_int64 hR ?_
  unfold F_cmp_isNaN_int64
  simp
  exact GhostV.refl (by simp)

theorem Compare_u32 (h : OrdR P) (a b : Nat) : PCalls P n_cmp_Compare_uint32 [.int .u32 a, .int .u32 b] (fun r => r = .int .i64 (cmpN a b)) := by
  refine A_cmp_Compare_uint32 h.c32 ?_
  unfold F_cmp_Compare_uint32
  simp
  refine inv_p (isNaN_u32 h.n32 a) rfl rfl ?_
  rintro _ rfl
  simp
  refine inv_p (isNaN_u32 h.n32 b) rfl rfl ?_
  rintro _ rfl
  simp
  repeat' ((first | refine cd (fun h => ?_) (fun h => ?_)); all_goals simp [h])
  all_goals (refine GhostV.refl ?_; simp_all [cmpN])
  all_goals omega
theorem Compare_u64 (h : OrdR P) (a b : Nat) : PCalls P n_cmp_Compare_uint64 [.int .u64 a, .int .u64 b] (fun r => r = .int .i64 (cmpN a b)) := by
  refine A_cmp_Compare_uint64 h.c64 ?_
  unfold F_cmp_Compare_uint64
  simp
  refine inv_p (isNaN_u64 h.n64 a) rfl rfl ?_
  rintro _ rfl
  simp
  refine inv_p (isNaN_u64 h.n64 b) rfl rfl ?_
  rintro _ rfl
  simp
  repeat' ((first | refine cd (fun h => ?_) (fun h => ?_)); all_goals simp [h])
  all_goals (refine GhostV.refl ?_; simp_all [cmpN])
  all_goals omega
theorem Compare_i64 (h : OrdR P) (a b : Int) : PCalls P n_cmp_Compare_int64 [.int .i64 a, .int .i64 b] (fun r => r = .int .i64 (cmpI a b)) := by
  refine A_cmp_Compare_int64 h.ci ?_
  unfold F_cmp_Compare_int64
  simp
  refine inv_p (isNaN_i64 h.i64 a) rfl rfl ?_
  rintro _ rfl
  simp
  refine inv_p (isNaN_i64 h.i64 b) rfl rfl ?_
  rintro _ rfl
  simp
  repeat' ((first | refine cd (fun h => ?_) (fun h => ?_)); all_goals simp [h])
  all_goals (refine GhostV.refl ?_; simp_all [cmpI])
  all_goals omega

theorem Bor.rowG {α : Type} {st : St} {id ver sz : Nat} {l : List α} {c : α → List V} (hc : ∀ x, (c x).length = sz) {rows : List (List V)} (h : st.get id ver = some (.mem sz rows)) (ht : rows.take l.length = l.map c) (hl : l.length ≤ rows.length) : Bor st (.msl id ver 0 l.length) (.sl .unk sz (l.map c) []) :=
  .msl id ver 0 l.length sz rows (l.map c) h (by simpa using hl) (by simp) (fun i hi => by rw [getD_map _ _ _ hi]; exact hc _) (fun i j hi hj => by
    have : rows.getD i [] = (l.map c).getD i [] := by rw [← ht]; simp [List.getD, List.getElem?_take, hi]
    rw [Nat.zero_add, this]; exact .refl _)

@[simp] def cI (n : Int) : List V := [.int .i64 n]
def OrI (l : List Int) (k : Nat) (v : V) (st : St) : Prop := ∃ i nv, k = l.length - i ∧ i ≤ l.length ∧ v = .int .i64 i ∧ st = ⟨[], nv⟩ ∧ orI l = orI (l.drop i)
theorem Or_int (h : OrdR P) (l : List Int) (hl : l.length < 2 ^ 40) : PCalls P n_cmp_Or_int [.sl .unk 1 (l.map cI) []] (fun r => r = .int .i64 (orI l)) := by
  refine A_cmp_Or_int h.or ?_
  unfold F_cmp_Or_int
  simp [st0]
  refine ⟨OrI l, ⟨l.length, GhostV.refl ⟨0, 0, by simp, by simp, by simp, by simp, by simp⟩⟩, ?_⟩
  rintro k1 v8 st ⟨i, nv, rfl, hi, rfl, rfl, hn⟩
  by_cases hlt : i < l.length
  · have hd : l.drop i = l[i] :: l.drop (i + 1) := List.drop_eq_getElem_cons hlt
    simp [hlt]
    by_cases h0 : l[i] = 0
    · have e2 : IntKind.i64.wrap ((i : Int) + 1) = ((i + 1 : Nat) : Int) := by rw [wrap_i64 (by omega)]; omega
      simp [h0]
      exact ⟨l.length - (i + 1), by omega, GhostV.refl ⟨i + 1, nv, rfl, by omega, by rw [e2], rfl, by rw [hn, hd]; simp [orI, h0]⟩⟩
    · simp [h0]
      refine GhostV.refl ⟨rfl, ?_⟩
      rw [hn, hd]; simp [orI, h0]
  · simp [hlt]
    refine GhostV.refl ⟨rfl, ?_⟩
    rw [hn, List.drop_of_length_le (by omega)]; rfl

set_option maxHeartbeats 1000000 in
theorem order_P (h : OrdR P) (a b : PredT) : PCalls P n_pred_order [.agg (cPred a), .agg (cPred b)] (fun r => r = .int .i64 (ordP a b)) := by
  refine A_pred_order h.ord ?_
  unfold F_pred_order
  simp [st0]
  refine inv_p (Compare_u32 h a.node b.node) rfl rfl ?_
  rintro _ rfl
  simp
  refine inv_p (Compare_u64 h a.txn b.txn) rfl rfl ?_
  rintro _ rfl
  simp
  refine inv_p (Compare_i64 h a.k.x0 b.k.x0) rfl rfl ?_
  rintro _ rfl
  simp
  refine inv_p (Compare_i64 h a.k.x1 b.k.x1) rfl rfl ?_
  rintro _ rfl
  simp
  refine inv_p (Compare_i64 h a.k.y0 b.k.y0) rfl rfl ?_
  rintro _ rfl
  simp
  refine inv_p (Compare_i64 h a.k.y1 b.k.y1) rfl rfl ?_
  rintro _ rfl
  simp
  refine inv_look (Or_int h (ordL a b) (by simp [ordL])) (Bors.cons (a := .msl _ _ 0 (ordL a b).length) (Bor.rowG (sz := 1) (l := ordL a b) (c := cI) (rows := (ordL a b).map cI) (fun _ => rfl) (by simp [St.get, ordL]) (List.take_of_length_le (by rw [List.length_map]; exact Nat.le_refl _)) (by rw [List.length_map]; exact Nat.le_refl _)) Bors.nil) (by simp [pureL, pureLL, ordL]) ?_
  rintro _ rfl
  refine ⟨rfl, ?_⟩
  refine GhostV.refl ?_
  simp [ordP]
end Go.Proofs.Ytmgkjbphlbpbfaa.AM

namespace Go.Proofs.Ytmgkjbphlbpbfaa.AM
open Go
set_option linter.unusedVariables false
set_option linter.unusedSimpArgs false
variable {P : Program}

def boxK (k : KeyT) : Bool := decide (k.x0 ≤ k.x1) && decide (k.y0 ≤ k.y1)
def markP (x : PredT) : Bool := decide (0 < x.node) && decide (0 < x.txn) && boxK x.k
def meetsK (a b : KeyT) : Bool := boxK a && boxK b && decide (a.x0 ≤ b.x1) && decide (b.x0 ≤ a.x1) && decide (a.y0 ≤ b.y1) && decide (b.y0 ≤ a.y1)

structure BoxR (P : Program) : Prop extends OrdR P where
  kbox : R_key_box P
  kchk : R_key_Check P
  kmeets : R_key_Meets P
  pbox : R_pred_box P
  pmark : R_pred_mark P
  rbox : R_gazetteerref09_Box P
  rin : R_gazetteerref09_inside P
  rmeets : R_gazetteerref09_Meets P
  rmark : R_gazetteerref15_Mark P
  rless : R_gazetteerref15_Less P
  rright : R_gazetteerref15_Right P
  check : R_pred_Check P

theorem kBox (h : BoxR P) (k : KeyT) : PCalls P n_key_box [.agg (cKey k)] (fun r => r = .bool (boxK k)) := by
  refine A_key_box h.kbox ?_
  unfold F_key_box
  simp [st0]
  by_cases h1 : k.x0 ≤ k.x1 <;> simp [h1]
  · by_cases h2 : k.y0 ≤ k.y1 <;> simp [h2]
    · exact GhostV.refl ⟨rfl, by simp [boxK, h1, h2]⟩
    · exact GhostV.refl ⟨rfl, by simp [boxK, h1, h2]⟩
  · exact GhostV.refl ⟨rfl, by simp [boxK, h1]⟩
theorem rBox (h : BoxR P) (k : KeyT) : PCalls P n_gazetteerref09_Box [.agg (cKey k)] (fun r => r = .bool (boxK k)) := by
  refine A_gazetteerref09_Box h.rbox ?_
  unfold F_gazetteerref09_Box
  simp [st0]
  by_cases h1 : k.x0 ≤ k.x1 <;> simp [h1]
  · by_cases h2 : k.y0 ≤ k.y1 <;> simp [h2]
    · exact GhostV.refl ⟨rfl, by simp [boxK, h1, h2]⟩
    · exact GhostV.refl ⟨rfl, by simp [boxK, h1, h2]⟩
  · exact GhostV.refl ⟨rfl, by simp [boxK, h1]⟩
def ChkJ (b : Bool) (v : V) (st : St) : Prop := ∃ nv, v = .bool b ∧ st = ⟨[], nv⟩
theorem kCheck (h : BoxR P) (k : KeyT) : PCalls P n_key_Check [.int .i64 1, .agg (cKey k)] (fun r => r = .int .i64 (if boxK k then 0 else 2)) := by
  refine A_key_Check h.kchk ?_
  unfold F_key_Check
  simp [st0]
  refine inv_p (kBox h k) rfl rfl ?_
  rintro _ rfl
  refine ⟨ChkJ (boxK k), by simp; exact GhostV.bare ⟨_, rfl, rfl⟩, ?_⟩
  rintro v st ⟨nv, rfl, rfl⟩
  cases hb : boxK k <;> simp
  · exact GhostV.refl ⟨rfl, by simp⟩
  · exact GhostV.refl ⟨rfl, by simp⟩
theorem pBox (h : BoxR P) (k : KeyT) : PCalls P n_pred_box [.agg (cKey k)] (fun r => r = .bool (boxK k)) := by
  refine A_pred_box h.pbox ?_
  unfold F_pred_box
  simp [st0]
  refine inv_p (kCheck h k) rfl rfl ?_
  rintro _ rfl
  cases hb : boxK k <;> simp
  · exact GhostV.refl ⟨rfl, by simp⟩
  · exact GhostV.refl ⟨rfl, by simp⟩
theorem pMark (h : BoxR P) (x : PredT) : PCalls P n_pred_mark [.agg (cPred x)] (fun r => r = .bool (markP x)) := by
  refine A_pred_mark h.pmark ?_
  unfold F_pred_mark
  simp [st0]
  by_cases h1 : 0 < x.node <;> simp [h1]
  · by_cases h2 : 0 < x.txn <;> simp [h2]
    · refine inv_p (pBox h x.k) rfl rfl ?_
      rintro _ rfl
      simp
      exact GhostV.refl ⟨rfl, by simp [markP, h1, h2]⟩
    · exact GhostV.refl ⟨rfl, by simp [markP, h1, h2]⟩
  · exact GhostV.refl ⟨rfl, by simp [markP, h1]⟩
theorem rMark (h : BoxR P) (x : PredT) : PCalls P n_gazetteerref15_Mark [.agg (cPred x)] (fun r => r = .bool (markP x)) := by
  refine A_gazetteerref15_Mark h.rmark ?_
  unfold F_gazetteerref15_Mark
  simp [st0]
  by_cases h1 : 0 < x.node <;> simp [h1]
  · by_cases h2 : 0 < x.txn <;> simp [h2]
    · refine inv_p (rBox h x.k) rfl rfl ?_
      rintro _ rfl
      simp
      exact GhostV.refl ⟨rfl, by simp [markP, h1, h2]⟩
    · exact GhostV.refl ⟨rfl, by simp [markP, h1, h2]⟩
  · exact GhostV.refl ⟨rfl, by simp [markP, h1]⟩

theorem lessB {a b : PredT} {c : Prop} [Decidable c] (h : lessP a b = true ↔ c) : decide c = lessP a b := by
  cases h2 : lessP a b with
  | true => simpa using h.1 h2
  | false =>
    have : ¬ c := fun hc => by rw [h.2 hc] at h2; cases h2
    simpa using this
set_option maxHeartbeats 1000000 in
theorem rLess (h : BoxR P) (a b : PredT) : PCalls P n_gazetteerref15_Less [.agg (cPred a), .agg (cPred b)] (fun r => r = .bool (lessP a b)) := by
  refine A_gazetteerref15_Less h.rless ?_
  unfold F_gazetteerref15_Less
  have L := @lessP_iff a b
  simp [st0]
  by_cases h1 : a.node = b.node
  · by_cases h2 : a.txn = b.txn
    · simp [h1, h2]
      by_cases h3 : a.k.x0 = b.k.x0
      · by_cases h4 : a.k.x1 = b.k.x1
        · by_cases h5 : a.k.y0 = b.k.y0
          · simp [h3, h4, h5]
            exact GhostV.refl ⟨rfl, by simp; exact lessB (L.trans (by omega))⟩
          · simp [h3, h4, h5]
            exact GhostV.refl ⟨rfl, by simp; exact lessB (L.trans (by omega))⟩
        · simp [h3, h4]
          exact GhostV.refl ⟨rfl, by simp; exact lessB (L.trans (by omega))⟩
      · simp [h3]
        exact GhostV.refl ⟨rfl, by simp; exact lessB (L.trans (by omega))⟩
    · simp [h1, h2]
      exact GhostV.refl ⟨rfl, by simp; exact lessB (L.trans (by omega))⟩
  · simp [h1]
    exact GhostV.refl ⟨rfl, by simp; exact lessB (L.trans (by omega))⟩

theorem kMeets (h : BoxR P) (a b : KeyT) : PCalls P n_key_Meets [.agg (cKey a), .agg (cKey b)] (fun r => r = .bool (meetsK a b)) := by
  refine A_key_Meets h.kmeets ?_
  unfold F_key_Meets
  simp [st0]
  refine inv_p (kBox h a) rfl rfl ?_
  rintro _ rfl
  cases ha : boxK a <;> simp
  · exact GhostV.refl ⟨rfl, by simp [meetsK, ha]⟩
  · refine inv_p (kBox h b) rfl rfl ?_
    rintro _ rfl
    cases hb : boxK b <;> simp
    · exact GhostV.refl ⟨rfl, by simp [meetsK, ha, hb]⟩
    · by_cases h1 : a.x0 ≤ b.x1 <;> simp [h1]
      · by_cases h2 : b.x0 ≤ a.x1 <;> simp [h2]
        · by_cases h3 : a.y0 ≤ b.y1 <;> simp [h3]
          · exact GhostV.refl ⟨rfl, by simp [meetsK, ha, hb, h1, h2, h3]⟩
          · exact GhostV.refl ⟨rfl, by simp [meetsK, ha, hb, h1, h2, h3]⟩
        · exact GhostV.refl ⟨rfl, by simp [meetsK, ha, hb, h1, h2]⟩
      · exact GhostV.refl ⟨rfl, by simp [meetsK, ha, hb, h1]⟩
def insI (a b x : Int) : Bool := decide (a ≤ x) && decide (x ≤ b)
theorem rInside (h : BoxR P) (a b x : Int) : PCalls P n_gazetteerref09_inside [.int .i64 a, .int .i64 b, .int .i64 x] (fun r => r = .bool (insI a b x)) := by
  refine A_gazetteerref09_inside h.rin ?_
  unfold F_gazetteerref09_inside
  simp [st0]
  by_cases h1 : a ≤ x <;> simp [h1]
  · exact GhostV.refl ⟨rfl, by simp [insI, h1]⟩
  · exact GhostV.refl ⟨rfl, by simp [insI, h1]⟩
def MeJ (x : Int) (a b : KeyT) (v : V) (st : St) : Prop := v = .int .i64 x ∧ ∃ nv M, st = ⟨[some (0, .mem 4 [cKey a]), some (1, .mem 4 [cKey b])] ++ M, nv⟩
theorem rMeets (h : BoxR P) (a b : KeyT) : PCalls P n_gazetteerref09_Meets [.agg (cKey a), .agg (cKey b)] (fun r => r = .bool (meetsK a b)) := by
  refine A_gazetteerref09_Meets h.rmeets ?_
  unfold F_gazetteerref09_Meets
  simp [st0]
  refine inv_p (rBox h a) rfl rfl ?_
  rintro _ rfl
  cases ha : boxK a <;> simp
  · exact GhostV.refl ⟨rfl, by simp [meetsK, ha]⟩
  · refine inv_p (rBox h b) rfl rfl ?_
    rintro _ rfl
    cases hb : boxK b <;> simp
    · exact GhostV.refl ⟨rfl, by simp [meetsK, ha, hb]⟩
    · refine ⟨MeJ (max a.x0 b.x0) a b, ?_, ?_⟩
      · by_cases hx : a.x0 < b.x0 <;> simp [hx]
        · exact GhostV.refl ⟨by rw [Int.max_eq_right (by omega)], _, [], rfl⟩
        · exact GhostV.refl ⟨by rw [Int.max_eq_left (by omega)], _, [], rfl⟩
      rintro v5 st ⟨rfl, nv, M, rfl⟩
      refine ⟨MeJ (max a.y0 b.y0) a b, ?_, ?_⟩
      · simp
        by_cases hx : a.y0 < b.y0 <;> simp [hx]
        · exact GhostV.refl ⟨by rw [Int.max_eq_right (by omega)], _, M, rfl⟩
        · exact GhostV.refl ⟨by rw [Int.max_eq_left (by omega)], _, M, rfl⟩
      rintro v6 st ⟨rfl, nv, M, rfl⟩
      obtain ⟨X, hX⟩ : ∃ X, X = max a.x0 b.x0 := ⟨_, rfl⟩
      obtain ⟨Y, hY⟩ : ∃ Y, Y = max a.y0 b.y0 := ⟨_, rfl⟩
      rw [← hX, ← hY]
      simp
      have fin : ∀ c : Bool, c = (insI a.x0 a.x1 X && insI b.x0 b.x1 X && insI a.y0 a.y1 Y && insI b.y0 b.y1 Y) → c = meetsK a b := by
        rintro c rfl
        have ha' := ha; have hb' := hb
        simp only [boxK, Bool.and_eq_true, decide_eq_true_eq] at ha' hb'
        rw [Bool.eq_iff_iff]
        simp only [meetsK, ha, hb, insI, Bool.and_eq_true, decide_eq_true_eq, true_and]
        omega
      refine inv_p (rInside h a.x0 a.x1 X) rfl rfl ?_
      rintro _ rfl
      cases c1 : insI a.x0 a.x1 X <;> simp
      · exact GhostV.refl ⟨rfl, by simp; exact (fin false (by simp [c1])).symm⟩
      · refine inv_p (rInside h b.x0 b.x1 X) rfl rfl ?_
        rintro _ rfl
        cases c2 : insI b.x0 b.x1 X <;> simp
        · exact GhostV.refl ⟨rfl, by simp; exact (fin false (by simp [c1, c2])).symm⟩
        · refine inv_p (rInside h a.y0 a.y1 Y) rfl rfl ?_
          rintro _ rfl
          cases c3 : insI a.y0 a.y1 Y <;> simp
          · exact GhostV.refl ⟨rfl, by simp; exact (fin false (by simp [c1, c2, c3])).symm⟩
          · refine inv_p (rInside h b.y0 b.y1 Y) rfl rfl ?_
            rintro _ rfl
            simp
            exact GhostV.refl ⟨rfl, by simp; exact fin _ (by simp [c1, c2, c3])⟩

/-! ### which marks may be -/
def Srt (l : List PredT) : Prop := l.Pairwise fun a b => lessP a b = true
instance (l : List PredT) : Decidable (Srt l) := inferInstanceAs (Decidable (List.Pairwise _ _))
def RightP (l : List PredT) : Prop := l.length ≤ 512 ∧ (∀ x ∈ l, markP x = true) ∧ Srt l
instance (l : List PredT) : Decidable (RightP l) := inferInstanceAs (Decidable (_ ∧ _))
def rightP (l : List PredT) : Bool := decide (RightP l)
theorem rightP_iff {l : List PredT} : rightP l = true ↔ RightP l := by simp [rightP]
theorem rightP_false {l : List PredT} : rightP l = false ↔ ¬ RightP l := by simp [rightP]

def OkTo (l : List PredT) (i : Nat) : Prop := (∀ x ∈ l.take i, markP x = true) ∧ Srt (l.take i)
theorem OkTo.zero {l : List PredT} : OkTo l 0 := ⟨by simp, by simp [Srt]⟩
theorem OkTo.step {l : List PredT} {i : Nat} (h : OkTo l i) (hi : i < l.length) (hm : markP l[i] = true) (hl : ∀ h0 : 0 < i, lessP l[i - 1] l[i] = true) : OkTo l (i + 1) := by
  refine ⟨fun x hx => ?_, ?_⟩
  · rw [take_snoc hi, List.mem_append] at hx
    rcases hx with hx | hx
    · exact h.1 x hx
    · obtain rfl : x = l[i] := by simpa using hx
      exact hm
  · unfold Srt
    rw [take_snoc hi, List.pairwise_append]
    refine ⟨h.2, by simp, fun a ha b hb => ?_⟩
    obtain rfl : b = l[i] := by simpa using hb
    by_cases h0 : 0 < i
    · have h1 := hl h0
      obtain ⟨j, hj, rfl⟩ := List.mem_take_iff_getElem.1 ha
      by_cases hji : j = i - 1
      · subst hji; exact h1
      · have h2 := h.2
        unfold Srt at h2
        rw [List.pairwise_iff_getElem] at h2
        have := h2 j (i - 1) (by simp; omega) (by simp; omega) (by omega)
        simp only [List.getElem_take] at this
        exact lessP_trans this h1
    · obtain rfl : i = 0 := by omega
      simp at ha
theorem OkTo.all {l : List PredT} (h : OkTo l l.length) (hl : l.length ≤ 512) : RightP l := by
  unfold OkTo at h
  rw [List.take_length] at h
  exact ⟨hl, h.1, h.2⟩
theorem Srt.get {l : List PredT} (h : Srt l) {i j : Nat} (hij : i < j) (hj : j < l.length) : lessP l[i] l[j] = true := by
  unfold Srt at h
  rw [List.pairwise_iff_getElem] at h
  exact h i j (by omega) hj hij

def CkI (l : List PredT) (k : Nat) (v : V) (st : St) : Prop := ∃ i nv M, k = l.length - i ∧ i ≤ l.length ∧ v = .int .i64 ((i : Nat) : Int) ∧ OkTo l i ∧ st = ⟨[some (0, .mem 1 [[.sl .unk 6 (l.map cPred) []]])] ++ M, nv⟩

theorem ordB {a b : PredT} : (decide (0 ≤ ordP a b)) = !lessP a b := by
  simp only [lessP]
  by_cases h : ordP a b < 0 <;> simp [h] <;> omega
set_option maxHeartbeats 1000000 in
theorem pCheck (h : BoxR P) (l : List PredT) (hl : l.length < 2 ^ 40) : PCalls P n_pred_Check [.agg [.sl .unk 6 (l.map cPred) []]] (fun r => r = .int .i64 (if rightP l then 0 else 250)) := by
  refine A_pred_Check h.check ?_
  unfold F_pred_Check
  simp [st0]
  by_cases h0 : (512 : Int) < (l.length : Int)
  · have : rightP l = false := rightP_false.2 (fun hr => by have := hr.1; omega)
    simp [h0]
    exact GhostV.refl ⟨rfl, by simp [this]⟩
  simp [h0]
  refine ⟨CkI l, ⟨l.length, GhostV.refl ⟨0, _, [], by simp, by simp, by simp, .zero, rfl⟩⟩, ?_⟩
  rintro k1 v3 st ⟨i, nv, M, rfl, hi, rfl, hok, rfl⟩
  by_cases hlt : i < l.length
  · simp [hlt]
    refine inv_p (pMark h l[i]) (by simp) (by simp [pureL]) ?_
    rintro _ rfl
    cases hm : markP l[i]
    · simp
      have : rightP l = false := rightP_false.2 (fun hr => by have := hr.2.1 l[i] (List.getElem_mem hlt); rw [hm] at this; cases this)
      exact GhostV.refl ⟨rfl, by simp [this]⟩
    · by_cases h1 : 0 < i
      · have hw := wsub1 (x := i) (by omega) h1
        simp [h1, hw, show i - 1 < l.length by omega]
        refine inv_p (order_P h.toOrdR l[i - 1] l[i]) (by simp) (by simp [pureL]) ?_
        rintro _ rfl
        simp
        cases hls : lessP l[i - 1] l[i]
        · have : 0 ≤ ordP l[i - 1] l[i] := by simp [lessP] at hls; exact hls
          simp [this]
          have : rightP l = false := rightP_false.2 (fun hr => by have := hr.2.2.get (i := i - 1) (j := i) (by omega) hlt; rw [hls] at this; cases this)
          exact GhostV.refl ⟨rfl, by simp [this]⟩
        · have : ¬ 0 ≤ ordP l[i - 1] l[i] := by simp [lessP] at hls; omega
          simp [this]
          exact ⟨l.length - (i + 1), by omega, GhostV.refl ⟨i + 1, _, _, rfl, by omega, by rw [wadd1 (by omega)], hok.step hlt hm (fun _ => hls), rfl⟩⟩
      · obtain rfl : i = 0 := by omega
        simp
        exact ⟨l.length - 1, by omega, GhostV.refl ⟨1, _, _, rfl, by omega, by rw [wrap_i64 (by omega)]; rfl, hok.step hlt hm (fun h => by omega), rfl⟩⟩
  · simp [hlt]
    obtain rfl : i = l.length := by omega
    have : rightP l = true := rightP_iff.2 (hok.all (by omega))
    exact GhostV.refl ⟨rfl, by simp [this]⟩
def RiI (l : List PredT) (k : Nat) (v : V) (st : St) : Prop := ∃ i nv, k = l.length - i ∧ i ≤ l.length ∧ i ≤ 512 ∧ v = .int .i64 ((i : Nat) : Int) ∧ OkTo l i ∧ st = ⟨[some (0, .mem 1 [[.sl .unk 6 (l.map cPred) []]])], nv⟩
set_option maxHeartbeats 1000000 in
theorem rRight (h : BoxR P) (l : List PredT) (hl : l.length < 2 ^ 40) : PCalls P n_gazetteerref15_Right [.agg [.sl .unk 6 (l.map cPred) []]] (fun r => r = .bool (rightP l)) := by
  refine A_gazetteerref15_Right h.rright ?_
  unfold F_gazetteerref15_Right
  simp [st0]
  refine ⟨RiI l, ⟨l.length, GhostV.refl ⟨0, _, by simp, by simp, by simp, by simp, .zero, rfl⟩⟩, ?_⟩
  rintro k1 v3 st ⟨i, nv, rfl, hi, hi2, rfl, hok, rfl⟩
  by_cases hlt : i < l.length
  · by_cases h5 : (i : Int) = 512
    · simp [hlt, h5, show (512 : Int) < (l.length : Int) by omega]
      have : rightP l = false := rightP_false.2 (fun hr => by have := hr.1; omega)
      exact GhostV.refl ⟨rfl, by simp [this]⟩
    simp [hlt, h5]
    refine inv_p (rMark h l[i]) (by simp) (by simp [pureL]) ?_
    rintro _ rfl
    cases hm : markP l[i]
    · simp
      have : rightP l = false := rightP_false.2 (fun hr => by have := hr.2.1 l[i] (List.getElem_mem hlt); rw [hm] at this; cases this)
      exact GhostV.refl ⟨rfl, by simp [this]⟩
    · by_cases h1 : 0 < i
      · have hw := wsub1 (x := i) (by omega) h1
        simp [h1, hw, hlt, show i - 1 < l.length by omega]
        refine inv_p (rLess h l[i - 1] l[i]) (by simp) (by simp [pureL]) ?_
        rintro _ rfl
        cases hls : lessP l[i - 1] l[i]
        · simp
          have : rightP l = false := rightP_false.2 (fun hr => by have := hr.2.2.get (i := i - 1) (j := i) (by omega) hlt; rw [hls] at this; cases this)
          exact GhostV.refl ⟨rfl, by simp [this]⟩
        · simp
          exact ⟨l.length - (i + 1), by omega, GhostV.refl ⟨i + 1, _, rfl, by omega, by omega, by rw [wadd1 (by omega)], hok.step hlt hm (fun _ => hls), rfl⟩⟩
      · obtain rfl : i = 0 := by omega
        simp
        exact ⟨l.length - 1, by omega, GhostV.refl ⟨1, _, rfl, by omega, by omega, by rw [wrap_i64 (by omega)]; rfl, hok.step hlt hm (fun h => by omega), rfl⟩⟩
  · simp [hlt]
    obtain rfl : i = l.length := by omega
    have : rightP l = true := rightP_iff.2 (hok.all (by omega))
    exact GhostV.refl ⟨rfl, by simp [this]⟩
end Go.Proofs.Ytmgkjbphlbpbfaa.AM

namespace Go.Proofs.Ytmgkjbphlbpbfaa.AM
open Go
set_option linter.unusedVariables false
set_option linter.unusedSimpArgs false
variable {P : Program}

/-! ### rows of marks -/
def withP (l : List PredT) (x : PredT) : List PredT := if x ∈ l then l else l.takeWhile (fun y => lessP y x) ++ x :: l.dropWhile (fun y => lessP y x)
theorem mem_withP {l : List PredT} {x y : PredT} : y ∈ withP l x ↔ y = x ∨ y ∈ l := by
  unfold withP
  split
  · rename_i h
    exact ⟨.inr, fun h2 => h2.elim (fun e => e ▸ h) id⟩
  · have : y ∈ l ↔ y ∈ l.takeWhile (fun y => lessP y x) ∨ y ∈ l.dropWhile (fun y => lessP y x) := by
      rw [← List.mem_append, List.takeWhile_append_dropWhile]
    rw [List.mem_append, List.mem_cons, this]
    constructor
    · rintro (h | h | h)
      · exact .inr (.inl h)
      · exact .inl h
      · exact .inr (.inr h)
    · rintro (h | h | h)
      · exact .inr (.inl h)
      · exact .inl h
      · exact .inr (.inr h)
theorem Srt.ext : ∀ {a b : List PredT}, Srt a → Srt b → (∀ x, x ∈ a ↔ x ∈ b) → a = b
  | [], [], _, _, _ => rfl
  | [], y :: b, _, _, h => by have := (h y).2 (by simp); cases this
  | x :: a, [], _, _, h => by have := (h x).1 (by simp); cases this
  | x :: a, y :: b, ha, hb, h => by
    unfold Srt at ha hb
    rw [List.pairwise_cons] at ha hb
    have hxy : x = y := by
      by_cases e : x = y
      · exact e
      have h1 := (h x).1 (by simp)
      have h2 := (h y).2 (by simp)
      simp only [List.mem_cons, e, false_or] at h1
      simp only [List.mem_cons, Ne.symm e, false_or] at h2
      have q1 := hb.1 x h1
      have q2 := ha.1 y h2
      rw [lessP_asymm q1] at q2; cases q2
    subst hxy
    congr 1
    refine Srt.ext ha.2 hb.2 (fun z => ?_)
    have := h z
    simp only [List.mem_cons] at this
    constructor
    · intro hz
      rcases this.1 (.inr hz) with e | h2
      · subst e
        have := ha.1 z hz
        rw [lessP_irrefl] at this; cases this
      · exact h2
    · intro hz
      rcases this.2 (.inr hz) with e | h2
      · subst e
        have := hb.1 z hz
        rw [lessP_irrefl] at this; cases this
      · exact h2
theorem lower_split : ∀ {l : List PredT} {x : PredT} {i : Nat}, Srt l → i ≤ l.length → (∀ q, (h : q < l.length) → q + 1 = i → lessP l[q] x = true) → (∀ h : i < l.length, lessP l[i] x = false) →
    l.takeWhile (fun y => lessP y x) = l.take i ∧ l.dropWhile (fun y => lessP y x) = l.drop i
  | [], x, i, _, hi, _, _ => by simp
  | y :: l, x, 0, hs, hi, h1, h2 => by
    have := h2 (by simp)
    simp only [List.getElem_cons_zero] at this
    simp [this]
  | y :: l, x, i + 1, hs, hi, h1, h2 => by
    have hy : lessP y x = true := by
      cases i with
      | zero => exact h1 0 (by simp) rfl
      | succ i =>
        have h3 := h1 (i + 1) (by simp at hi ⊢; omega) rfl
        have h4 := hs.get (i := 0) (j := i + 1) (by omega) (by simp at hi ⊢; omega)
        exact lessP_trans h4 h3
    have ih := lower_split (l := l) (x := x) (i := i) (by unfold Srt at hs ⊢; exact (List.pairwise_cons.1 hs).2) (by simpa using hi) (fun q hq e => by have := h1 (q + 1) (by simpa using hq) (by omega); simpa using this) (fun h => by have := h2 (by simpa using h); simpa using this)
    simp [hy, ih.1, ih.2]
theorem Srt.withP {l : List PredT} {x : PredT} (h : Srt l) : Srt (withP l x) := by
  unfold AM.withP
  split
  · exact h
  · rename_i hx
    have h' := h
    rw [← List.takeWhile_append_dropWhile (p := fun y => lessP y x) (l := l)] at h'
    unfold Srt at h' ⊢
    rw [List.pairwise_append] at h' ⊢
    have hd : ∀ z ∈ l.dropWhile (fun y => lessP y x), lessP x z = true := by
      intro z hz
      have hne : z ≠ x := fun e => hx (e ▸ (List.dropWhile_sublist _).subset hz)
      cases hdw : l.dropWhile (fun y => lessP y x) with
      | nil => rw [hdw] at hz; cases hz
      | cons y r =>
        have hy : lessP y x = false := by
          have := List.head_dropWhile_not (p := fun y => lessP y x) (l := l) (by rw [hdw]; simp)
          simpa [hdw] using this
        have hne' : y ≠ x := fun e => hx (e ▸ (List.dropWhile_sublist (fun y => lessP y x)).subset (by rw [hdw]; simp))
        have hyx := lessP_total hy hne'
        rw [hdw] at hz
        rcases List.mem_cons.1 hz with rfl | hz
        · exact hyx
        · have := h'.2.1
          rw [hdw, List.pairwise_cons] at this
          exact lessP_trans hyx (this.1 z hz)
    have ht : ∀ z ∈ l.takeWhile (fun y => lessP y x), lessP z x = true := fun z hz => by
      have := List.all_takeWhile (p := fun y => lessP y x) (l := l)
      rw [List.all_eq_true] at this
      exact this z hz
    refine ⟨h'.1, List.pairwise_cons.2 ⟨hd, h'.2.1⟩, fun a ha b hb => ?_⟩
    rcases List.mem_cons.1 hb with rfl | hb
    · exact ht a ha
    · exact h'.2.2 a ha b hb
theorem withP_len {l : List PredT} {x : PredT} : (withP l x).length ≤ l.length + 1 := by
  unfold withP
  split
  · omega
  · have : (l.takeWhile (fun y => lessP y x) ++ l.dropWhile (fun y => lessP y x)).length = l.length := by rw [List.takeWhile_append_dropWhile]
    simp only [List.length_append, List.length_cons] at this ⊢
    omega
theorem withP_le {l : List PredT} {x : PredT} : l.length ≤ (withP l x).length := by
  unfold withP
  split
  · omega
  · have : (l.takeWhile (fun y => lessP y x) ++ l.dropWhile (fun y => lessP y x)).length = l.length := by rw [List.takeWhile_append_dropWhile]
    simp only [List.length_append, List.length_cons] at this ⊢
    omega

/-! ### the search -/
structure AttR (P : Program) : Prop extends BoxR P where
  bs : R_slices_BinarySearchFunc_Pred_Pred_Pred P
  ch1 : R_pred_change_1 P
  ins : ∃ info, InsW P 107 70 84 119 6 48 info [.int .u32 0, .int .u64 0, .int .i64 0, .int .i64 0, .int .i64 0, .int .i64 0]

def BsP (l : List PredT) (x : PredT) (i : Nat) : Prop := i ≤ l.length ∧ (∀ q, (h : q < l.length) → q + 1 = i → lessP l[q] x = true) ∧ ∀ h : i < l.length, lessP l[i] x = false
def fndP (l : List PredT) (i : Nat) (x : PredT) : Bool := match l[i]? with | some y => decide (y = x) | none => false
def BsI (l : List PredT) (x : PredT) (k : Nat) (v9 v10 : V) (st : St) : Prop :=
  ∃ i j : Nat, k = j - i ∧ i ≤ j ∧ j ≤ l.length ∧ v9 = .int .i64 i ∧ v10 = .int .i64 j ∧ st = ⟨[some (0, .mem 6 [cPred x])], 1⟩ ∧ (∀ q, (h : q < l.length) → q + 1 = i → lessP l[q] x = true) ∧ ∀ h : j < l.length, lessP l[j] x = false
theorem bsP (h : AttR P) (l : List PredT) (x : PredT) (hl : l.length < 2 ^ 40) :
    PCalls P n_slices_BinarySearchFunc_Pred_Pred_Pred [.sl .unk 6 (l.map cPred) [], .agg (cPred x), .fn (.func n_pred_order) [] []] (fun r => ∃ i : Nat, BsP l x i ∧ r = .tup [.int .i64 i, .bool (fndP l i x)]) := by
  refine A_slices_BinarySearchFunc_Pred_Pred_Pred h.bs ?_
  unfold F_slices_BinarySearchFunc_Pred_Pred_Pred
  simp [st0]
  refine ⟨BsI l x, ⟨l.length, GhostV.refl ⟨0, l.length, by omega, by omega, by omega, by simp, by simp, rfl, by omega, by omega⟩⟩, ?_⟩
  rintro k1 v9 v10 st ⟨i, j, rfl, hij, hj, rfl, rfl, rfl, hlo, hhi⟩
  by_cases hlt : i < j
  · have e1 : IntKind.i64.wrap ((i : Int) + j) = (i : Int) + j := wrap_i64 (by omega)
    have e2 : IntKind.u64.wrap ((i : Int) + j) = (i : Int) + j := by simp [IntKind.wrap, IntKind.signed, IntKind.bits]; omega
    obtain ⟨m, hm0⟩ : ∃ m, m = (i + j) / 2 := ⟨_, rfl⟩
    have e3 : IntKind.i64.wrap (((i : Int) + j).fdiv 2) = m := by rw [Int.fdiv_eq_ediv_of_nonneg _ (by omega), wrap_i64 (by omega)]; omega
    have hm : m < l.length := by omega
    simp [hlt, e1, e2, e3, IntKind.bits, hm]
    refine inv_p (order_P h.toOrdR l[m] x) (by simp) (by simp [pureL]) ?_
    rintro _ rfl
    by_cases hc : ordP l[m] x < 0
    · have e4 : IntKind.i64.wrap ((m : Int) + 1) = ((m + 1 : Nat) : Int) := by rw [wrap_i64 (by omega)]; omega
      simp [hc, e4]
      exact ⟨_, by omega, GhostV.refl ⟨m + 1, j, rfl, by omega, by omega, by simp, rfl, rfl, fun q hq hq' => by
        obtain rfl : q = m := by omega
        simpa [lessP] using hc, hhi⟩⟩
    · simp [hc]
      exact ⟨_, by omega, GhostV.refl ⟨i, m, rfl, by omega, by omega, rfl, by simp, rfl, hlo, fun _ => by simpa [lessP] using hc⟩⟩
  · obtain rfl : i = j := by omega
    have fin : ∀ b : Bool, b = fndP l i x → GhostV [.int .i64 i, .bool b] ⟨[some (0, .mem 6 [cPred x])], 1⟩ fun vs st => (mkres vs).pure = true ∧ ∃ i, BsP l x i ∧ mkres vs = .tup [.int .i64 i, .bool (fndP l i x)] := by
      rintro _ rfl
      exact GhostV.refl ⟨by simp, i, ⟨hj, hlo, hhi⟩, by simp⟩
    by_cases hl2 : i < l.length
    · simp [hl2]
      refine inv_p (order_P h.toOrdR l[i] x) (by simp) (by simp [pureL]) ?_
      rintro _ rfl
      simp
      refine fin _ ?_
      rw [Bool.eq_iff_iff]
      simp [fndP, hl2, ordP_eq]
    · simp [hl2]
      exact fin _ (by simp [fndP, hl2])
theorem BsP.found {l : List PredT} {x : PredT} {i : Nat} (hs : Srt l) (h : BsP l x i) : fndP l i x = decide (x ∈ l) := by
  rw [Bool.eq_iff_iff]
  obtain ⟨h1, h2, h3⟩ := h
  simp only [fndP, decide_eq_true_eq]
  constructor
  · intro hf
    split at hf
    · rename_i y hy
      have := List.mem_of_getElem? hy
      simp at hf; rw [← hf]; exact this
    · cases hf
  · intro hx
    obtain ⟨j, hj, rfl⟩ := List.getElem_of_mem hx
    have hji : j = i := by
      rcases Nat.lt_trichotomy j i with hlt | he | hgt
      · exfalso
        have a := h2 (i - 1) (by omega) (by omega)
        by_cases e : j = i - 1
        · subst e; rw [lessP_irrefl] at a; cases a
        · have b := hs.get (i := j) (j := i - 1) (by omega) (by omega)
          rw [lessP_asymm a] at b; cases b
      · exact he
      · exfalso
        have a := h3 (by omega)
        have b := hs.get (i := i) (j := j) (by omega) hj
        rw [a] at b; cases b
    subst hji
    simp [hj]
theorem BsP.with {l : List PredT} {x : PredT} {i : Nat} (hs : Srt l) (h : BsP l x i) (hx : x ∉ l) : withP l x = l.take i ++ x :: l.drop i := by
  obtain ⟨h1, h2⟩ := lower_split hs h.1 h.2.1 h.2.2
  rw [withP, if_neg hx, h1, h2]

theorem attach_ok (h : AttR P) {M : List (Option (Nat × Obj))} {nv i o va vo : Nat} {l : List PredT} {x : PredT} (hM1 : M[o]? = some (some (vo, .mem 1 [[.msl i va 0 l.length]]))) (hM2 : M[i]? = some (some (va, .mem 6 (l.map cPred)))) (hio : i ≠ o) (hs : Srt l) (hlen : l.length < 2 ^ 40) {K : V → St → Prop}
    (hk : ∀ va' nv', K (.tup []) ⟨(M.set i (some (va', .mem 6 ((withP l x).map cPred)))).set o (some (vo, .mem 1 [[.msl i va' 0 (withP l x).length]])), nv'⟩) :
    ACalls P n_pred_change_1 [.agg (cPred x), .ptr o vo 0 0] ⟨M, nv⟩ K := by
  have hol : o < M.length := (List.getElem?_eq_some_iff.1 hM1).1
  have hil : i < M.length := (List.getElem?_eq_some_iff.1 hM2).1
  have gM1 : ∀ R, (M ++ R)[o]? = some (some (vo, .mem 1 [[.msl i va 0 l.length]])) := fun R => by rw [List.getElem?_append_left hol]; exact hM1
  have gM2 : ∀ R, (M ++ R)[i]? = some (some (va, .mem 6 (l.map cPred))) := fun R => by rw [List.getElem?_append_left hil]; exact hM2
  refine A_pred_change_1 h.ch1 ?_
  unfold F_pred_change_1
  simp [gM1]
  refine inv_look (bsP h l x hlen) (Bors.cons (a := .msl i va 0 l.length) (Bor.rowG (sz := 6) (l := l) (c := cPred) (rows := l.map cPred) (fun _ => rfl) (by simp [St.get, gM2]) (List.take_of_length_le (by rw [List.length_map]; exact Nat.le_refl _)) (by rw [List.length_map]; exact Nat.le_refl _)) (Bors.cons (.refl _) (Bors.cons (.refl _) Bors.nil))) (by simp [pureL, pureLL]) ?_
  rintro _ ⟨j, hj, rfl⟩
  refine ⟨rfl, ?_⟩
  rw [hj.found hs]
  by_cases hx : x ∈ l
  · simp [hx]
    refine GhostV.keep ?_
    have := hk va (nv + 1)
    rw [show withP l x = l by simp [withP, hx], set_self hM2, set_self hM1] at this
    simpa using this
  · simp [hx, gM1]
    obtain ⟨info, hI⟩ := h.ins
    refine inv_f0 (hI.calls (id := i) (ver := va) (n := l.length) (i := j) (idv := M.length + 1) (verv := nv + 1) (es := l.map cPred) (x := cPred x) (by simp [St.get, gM2]) (by simp) (by simp [St.get]) hj.1 (by omega) (by omega) ?_)
    have hMo : M[o]'hol = some (vo, .mem 1 [[.msl i va 0 l.length]]) := by
      have := hM1
      rw [List.getElem?_eq_getElem hol] at this
      exact Option.some.inj this
    simp [St.renew, hol, hil, hio, hMo, List.getElem?_set_ne, Ne.symm hio]
    refine GhostV.keep ?_
    have hw := hj.with hs hx
    have hlw : (withP l x).length = l.length + 1 := by rw [hw]; have := hj.1; simp; omega
    have := hk (nv + 1 + 1) (nv + 1 + 1 + 1)
    rw [hlw, hw] at this
    simpa using this
end Go.Proofs.Ytmgkjbphlbpbfaa.AM

namespace Go.Proofs.Ytmgkjbphlbpbfaa.AM
open Go
set_option linter.unusedVariables false
set_option linter.unusedSimpArgs false
variable {P : Program}

/-- The objects, with the marks of 'out' in them. -/
def outB (B : List (Option (Nat × Obj))) (i o vo va : Nat) (l : List PredT) : List (Option (Nat × Obj)) :=
  (B.set i (some (va, .mem 6 (l.map cPred)))).set o (some (vo, .mem 1 [[.msl i va 0 l.length]]))
@[simp] theorem outB_len {B : List (Option (Nat × Obj))} {i o vo va : Nat} {l : List PredT} : (outB B i o vo va l).length = B.length := by simp [outB]
theorem outB_i {B : List (Option (Nat × Obj))} {i o vo va : Nat} {l : List PredT} (hi : i < B.length) (hio : i ≠ o) : (outB B i o vo va l)[i]? = some (some (va, .mem 6 (l.map cPred))) := by
  unfold outB
  rw [List.getElem?_set_ne (Ne.symm hio), List.getElem?_set_self hi]
theorem outB_o {B : List (Option (Nat × Obj))} {i o vo va : Nat} {l : List PredT} (ho : o < B.length) : (outB B i o vo va l)[o]? = some (some (vo, .mem 1 [[.msl i va 0 l.length]])) := by
  simp [outB, ho]
theorem outB_j {B : List (Option (Nat × Obj))} {i o vo va j : Nat} {l : List PredT} (hi : i ≠ j) (ho : o ≠ j) : (outB B i o vo va l)[j]? = B[j]? := by
  simp [outB, List.getElem?_set_ne hi, List.getElem?_set_ne ho]
theorem outB_again {B R : List (Option (Nat × Obj))} {i o vo va va' : Nat} {l l' : List PredT} (hi : i < B.length) (ho : o < B.length) (hio : i ≠ o) :
    ((outB B i o vo va l ++ R).set i (some (va', .mem 6 (l'.map cPred)))).set o (some (vo, .mem 1 [[.msl i va' 0 l'.length]])) = outB B i o vo va' l' ++ R := by
  rw [List.set_append_left _ _ (by simpa using hi), List.set_append_left _ _ (by simpa using ho)]
  congr 1
  unfold outB
  rw [List.set_comm _ _ hio, List.set_set, List.set_comm _ _ (Ne.symm hio), List.set_set]

/-- A mark is put in, behind whatever. -/
theorem attach_out (h : AttR P) {B R : List (Option (Nat × Obj))} {nv i o va vo : Nat} {l : List PredT} {x : PredT} (hi : i < B.length) (ho : o < B.length) (hio : i ≠ o) (hs : Srt l) (hlen : l.length < 2 ^ 40) {K : V → St → Prop}
    (hk : ∀ va' nv', K (.tup []) ⟨outB B i o vo va' (withP l x) ++ R, nv'⟩) :
    ACalls P n_pred_change_1 [.agg (cPred x), .ptr o vo 0 0] ⟨outB B i o vo va l ++ R, nv⟩ K := by
  refine attach_ok h (i := i) (va := va) (l := l) (by rw [List.getElem?_append_left (by simpa using ho)]; exact outB_o ho) (by rw [List.getElem?_append_left (by simpa using hi)]; exact outB_i hi hio) hio hs hlen (fun va' nv' => ?_)
  rw [outB_again hi ho hio]
  exact hk va' nv'

/-- What a change does. -/
def DoesOk (P : Program) (k : FuncId) (cap : List V) (L : List (Option (Nat × Obj))) (l l' : List PredT) : Prop :=
  ∀ (B : List (Option (Nat × Obj))) (vo va nv : Nat) (K : V → St → Prop), B.length = L.length + 4 → (∀ j, j < L.length → B[j]? = L[j]?) → (∀ va' nv', K (.tup []) ⟨outB B (L.length + 2) (L.length + 3) vo va' l', nv'⟩) →
    ACalls P k ([.fn (.func n_pred_change_1) [] [.ptr (L.length + 3) vo 0 0], .ptr (L.length + 3) vo 0 0] ++ cap) ⟨outB B (L.length + 2) (L.length + 3) vo va l, nv⟩ K

/-- A struct with an array that is written no more, behind others. -/
theorem GhostV.rowa {L M : List (Option (Nat × Obj))} {nv id ver sz off len : Nat} {es : List (List V)} {rest : List V} {K : List V → St → Prop} (hid : L.length ≤ id) (ho : (L ++ M)[id]? = some (some (ver, .mem sz es))) (h : off + len ≤ es.length)
    (hk : K (.agg [.sl .unk sz ((es.drop off).take len) []] :: rest) ⟨L, nv⟩) : GhostV (.agg [.msl id ver off len] :: rest) ⟨L ++ M, nv⟩ K :=
  GhostV.trans (GhostV.freeze (vs' := .agg [.sl .unk sz ((es.drop off).take len) ((es.drop off).drop len)] :: rest) (st' := ⟨L, nv⟩) (K := fun vs st' => vs = .agg [.sl .unk sz ((es.drop off).take len) ((es.drop off).drop len)] :: rest ∧ st' = ⟨L, nv⟩) (id := id) (ver := ver) (sz := sz) (es := es) (by simp [St.get, ho]) rfl rfl (fun i => by
    cases i with
    | zero => exact .agg _ _ rfl (fun i hi => by
        obtain rfl : i = 0 := by simpa using hi
        exact .msl id off len h)
    | succ i => simpa using Frz.refl _) (fun id1 ver1 o1 h1 => by
      have hlt : id1 < L.length := (List.getElem?_eq_some_iff.1 h1).1
      exact ⟨by omega, o1, by show (L ++ M)[id1]? = _; rw [List.getElem?_append_left hlt]; exact h1, .inl rfl⟩) ⟨rfl, rfl⟩) (by
    rintro _ _ ⟨rfl, rfl⟩
    refine GhostV.le (LeVs.cons ?_ (LeVs.refl _)) hk
    exact .agg _ _ rfl (fun i => by
      cases i with
      | zero => exact LeV.slk
      | succ i => exact .refl _))

structure ChgR (P : Program) : Prop extends AttR P where
  clone : R_slices_Clone_Pred_Pred P
  chg : R_pred_change P
  at1 : R_pred_Attach_1 P
  att : R_pred_Attach P

theorem GhostV.nilr {vs : List V} {st : St} {K : List V → St → Prop} (sz : Nat) (h0 : 0 < sz) (hk : K (.msl st.objs.length st.nv 0 0 :: vs) ⟨st.objs ++ [some (st.nv, .mem sz [])], st.nv + 1⟩) : GhostV (.sl .nil 0 [] [] :: vs) st K :=
  GhostV.nils (vs' := .msl st.objs.length st.nv 0 0 :: vs) (st' := st.push (.mem sz [])) h0 rfl rfl (fun i => by
    cases i with
    | zero => exact .nil _
    | succ i => simpa using Nz.refl _) hk

theorem Clone_P (hR : R_slices_Clone_Pred_Pred P) (l : List PredT) (hl : l.length < 2 ^ 40) {L : List (Option (Nat × Obj))} {nv : Nat} {K : V → St → Prop}
    (hk : ∀ ver nv', K (.msl L.length ver 0 l.length) ⟨L ++ [some (ver, .mem 6 (l.map cPred))], nv'⟩) :
    ACalls P n_slices_Clone_Pred_Pred [.sl .unk 6 (l.map cPred) []] ⟨L, nv⟩ K := by
  refine A_slices_Clone_Pred_Pred hR ?_
  unfold F_slices_Clone_Pred_Pred
  cases l with
  | nil =>
    simp
    exact ⟨GhostV.refl (by simpa using hk (nv + 1) (nv + 2)), GhostV.nilr 6 (by decide) (by simpa using hk nv (nv + 1))⟩
  | cons x l =>
    simp
    refine ⟨by simp at hl; omega, ?_⟩
    exact GhostV.refl (by simpa using hk (nv + 1) (nv + 2))

def vP (l : List PredT) : V := .agg [.sl .unk 6 (l.map cPred) []]
theorem change_ok (h : ChgR P) {L : List (Option (Nat × Obj))} {nv : Nat} {l l' : List PredT} {k : FuncId} {cap : List V} (hl : l.length < 2 ^ 40) (hd : DoesOk P k cap L l l') {K : V → St → Prop}
    (hk : ∀ nv', K (.tup (if 512 < l'.length then [vP [], .int .i64 6] else [vP l', .int .i64 0])) ⟨L, nv'⟩) :
    ACalls P n_pred_change [vP l, .fn (.func k) [] cap] ⟨L, nv⟩ K := by
  refine A_pred_change h.chg ?_
  unfold F_pred_change
  simp [vP]
  refine inv_f0 (Clone_P h.clone l hl (fun ver nv' => ?_))
  simp
  obtain ⟨B, hB⟩ : ∃ B, B = L ++ [some (nv, Obj.mem 1 [[.sl .unk 6 (l.map cPred) []]]), some (nv + 1, Obj.mem 1 [[.sl .nil 0 [] []]]), some (ver, Obj.mem 6 (l.map cPred)), some (nv', Obj.mem 1 [[.msl (L.length + 2) ver 0 l.length]])] := ⟨_, rfl⟩
  have hBl : B.length = L.length + 4 := by rw [hB]; simp
  have hBj : ∀ j, j < L.length → B[j]? = L[j]? := fun j hj => by rw [hB, List.getElem?_append_left hj]
  have hBo : outB B (L.length + 2) (L.length + 3) nv' ver l = B := by
    unfold outB
    rw [set_self (by rw [hB]; simp), set_self (by rw [hB]; simp)]
  have := hd B nv' ver (nv' + 1)
  rw [hBo] at this
  rw [← hB]
  refine inv_fn (first := []) (this _ hBl hBj (fun va' nv2 => ?_))
  have hf : outB B (L.length + 2) (L.length + 3) nv' va' l' = L ++ [some (nv, Obj.mem 1 [[.sl .unk 6 (l.map cPred) []]]), some (nv + 1, Obj.mem 1 [[.sl .nil 0 [] []]]), some (va', Obj.mem 6 (l'.map cPred)), some (nv', Obj.mem 1 [[.msl (L.length + 2) va' 0 l'.length]])] := by
    rw [hB]; simp [outB]
  rw [hf]
  by_cases hc : (512 : Int) < (l'.length : Int)
  · simp [hc]
    have hk := hk nv2
    rw [if_pos (by omega)] at hk
    refine GhostV.trans (K := fun vs st => vs = [.agg [.sl .nil 0 [] []], .int .i64 6] ∧ st = ⟨L, nv2⟩) (GhostV.keep ⟨rfl, rfl⟩) ?_
    rintro _ _ ⟨rfl, rfl⟩
    refine GhostV.le (LeVs.cons (.agg _ [.sl .unk 6 [] []] rfl (fun i => ?_)) (LeVs.refl _)) (by simpa [vP] using hk)
    cases i with
    | zero => exact .nil _ _
    | succ i => exact .refl _
  · simp [hc]
    have hk := hk nv2
    rw [if_neg (by omega)] at hk
    refine GhostV.rowa (sz := 6) (es := l'.map cPred) (by omega) (by simp) (by simp) ?_
    rw [List.drop_zero, List.take_of_length_le (by simp)]
    simpa [vP] using hk
theorem Attach_1 (h : ChgR P) {L : List (Option (Nat × Obj))} {j vj : Nat} {l : List PredT} {x : PredT} (hj : L[j]? = some (some (vj, .mem 6 [cPred x]))) (hs : Srt l) (hl : l.length < 2 ^ 40) : DoesOk P n_pred_Attach_1 [.ptr j vj 0 0] L l (withP l x) := by
  intro B vo va nv K hB hBj hk
  have hjl : j < L.length := (List.getElem?_eq_some_iff.1 hj).1
  refine A_pred_Attach_1 h.at1 ?_
  unfold F_pred_Attach_1
  have g : (outB B (L.length + 2) (L.length + 3) vo va l)[j]? = some (some (vj, .mem 6 [cPred x])) := by rw [outB_j (by omega) (by omega), hBj j hjl]; exact hj
  simp at g
  simp [g]
  have := attach_out h.toAttR (B := B) (R := []) (nv := nv) (i := L.length + 2) (o := L.length + 3) (va := va) (vo := vo) (l := l) (x := x) (by omega) (by omega) (by omega) hs hl (K := fun r st => ∃ va' nv', r = .tup [] ∧ st = ⟨outB B (L.length + 2) (L.length + 3) vo va' (withP l x), nv'⟩) (fun va' nv' => ⟨va', nv', rfl, by simp⟩)
  rw [List.append_nil] at this
  refine inv_fn (first := []) (ACalls.mono ?_ this)
  rintro _ _ ⟨va', nv', rfl, rfl⟩
  exact GhostV.refl (hk va' nv')
def changeR (l' : List PredT) : V := .tup (if 512 < l'.length then [vP [], .int .i64 6] else [vP l', .int .i64 0])
theorem nilG {e : Int} {M : List (Option (Nat × Obj))} {nv : Nat} : GhostV [.agg [.sl .nil 0 [] []], .int .i64 e] ⟨M, nv⟩ fun vs st => (mkres vs).pure = true ∧ mkres vs = .tup [.agg [.sl .unk 6 [] []], .int .i64 e] := by
  refine GhostV.le (LeVs.cons (.agg _ [.sl .unk 6 [] []] rfl (fun i => ?_)) (LeVs.refl _)) ⟨by simp [V.pure, pureL, pureLL], by simp⟩
  cases i with
  | zero => exact .nil _ _
  | succ i => exact .refl _
theorem Attach_P (h : ChgR P) (l : List PredT) (x : PredT) (hl : l.length < 2 ^ 40) :
    PCalls P n_pred_Attach [vP l, .agg (cPred x)] (fun r => r = if rightP l then (if markP x then changeR (withP l x) else .tup [vP [], .int .i64 2]) else .tup [vP [], .int .i64 250]) := by
  refine A_pred_Attach h.att ?_
  unfold F_pred_Attach
  simp [st0, vP]
  refine inv_p (pCheck h.toBoxR l hl) rfl (by simp [pureL, pureLL]) ?_
  rintro _ rfl
  cases hr : rightP l
  · simp
    exact nilG
  · simp
    refine inv_p (pMark h.toBoxR x) rfl rfl ?_
    rintro _ rfl
    cases hm : markP x
    · simp
      exact nilG
    · simp
      refine inv_f0 (change_ok h hl (Attach_1 h (x := x) (by simp) (rightP_iff.1 hr).2.2 hl) (fun nv' => ?_))
      by_cases hc : 512 < (withP l x).length
      · simp [hc, vP]
        exact GhostV.refl ⟨by simp [V.pure, pureL, pureLL], by simp [changeR, hc, vP]⟩
      · simp [hc, vP]
        exact GhostV.refl ⟨by simp [V.pure, pureL, pureLL], by simp [changeR, hc, vP]⟩
end Go.Proofs.Ytmgkjbphlbpbfaa.AM

namespace Go.Proofs.Ytmgkjbphlbpbfaa.AM
open Go
set_option linter.unusedVariables false
set_option linter.unusedSimpArgs false
variable {P : Program}

def fIdx (p : PredT → Bool) (l : List PredT) : Int := match l.findIdx? p with | some i => i | none => -1
def IdxI (p : PredT → Bool) (l : List PredT) (k : Nat) (v : V) (st : St) : Prop := ∃ i nv, k = l.length - i ∧ i ≤ l.length ∧ v = .int .i64 i ∧ st = ⟨[], nv⟩ ∧ ∀ x ∈ l.take i, p x = false

theorem IndexFunc (hR : R_slices_IndexFunc_Pred_Pred P) {k : FuncId} {first cap : List V} {p : PredT → Bool} (l : List PredT) (hl : l.length < 2 ^ 43) (h1 : pureL first = true) (h2 : pureL cap = true)
    (hf : ∀ x, PCalls P k (first ++ [.agg (cPred x)] ++ cap) (fun r => r = .bool (p x))) : PCalls P n_slices_IndexFunc_Pred_Pred [.sl .unk 6 (l.map cPred) [], .fn (.func k) first cap] (fun r => r = .int .i64 (fIdx p l)) := by
  refine A_slices_IndexFunc_Pred_Pred hR ?_
  unfold F_slices_IndexFunc_Pred_Pred
  simp [st0]
  refine ⟨IdxI p l, ⟨l.length, GhostV.refl ⟨0, 0, by simp, by simp, by simp, by simp, by simp⟩⟩, ?_⟩
  rintro k1 v8 st ⟨i, nv, rfl, hi, rfl, rfl, hn⟩
  by_cases hlt : i < l.length
  · simp [hlt]
    refine inv_p (hf l[i]) (by simp) (by simp [pureL_append, h1, h2, pureL]) ?_
    rintro _ rfl
    cases hp : p l[i]
    · have e2 : IntKind.i64.wrap ((i : Int) + 1) = ((i + 1 : Nat) : Int) := by rw [wrap_i64 (by omega)]; omega
      simp
      exact ⟨l.length - (i + 1), by omega, GhostV.refl ⟨i + 1, nv, rfl, by omega, by rw [e2], rfl, fun x hx => by
        rw [take_snoc hlt, List.mem_append] at hx
        rcases hx with hx | hx
        · exact hn x hx
        · obtain rfl : x = l[i] := by simpa using hx
          exact hp⟩⟩
    · simp
      refine GhostV.refl ⟨rfl, ?_⟩
      have : l.findIdx? p = some i := by
        rw [List.findIdx?_eq_some_iff_getElem]
        exact ⟨hlt, hp, fun j hj => by
          have := hn l[j] (List.mem_take_iff_getElem.2 ⟨j, by omega, rfl⟩)
          simp [this]⟩
      simp [fIdx, this]
  · simp [hlt]
    refine GhostV.refl ⟨rfl, ?_⟩
    have : l.findIdx? p = none := by
      rw [List.findIdx?_eq_none_iff]
      rwa [List.take_of_length_le (by omega)] at hn
    simp [fIdx, this]

/-- The rows while some are struck out: what is kept, what is left over, what is to come. -/
structure DelRows (p : PredT → Bool) (l : List PredT) (i j : Nat) (rows : List (List V)) : Prop where
  jl : j ≤ l.length
  ij : i < j
  kept : ((l.take j).filter (fun x => !p x)).length = i
  len : rows.length = l.length
  ten : ∀ e ∈ rows, e.length = 6
  lo : rows.take i = ((l.take j).filter (fun x => !p x)).map cPred
  hi : rows.drop j = (l.drop j).map cPred

theorem DelRows.get {p : PredT → Bool} {l : List PredT} {i j : Nat} {rows : List (List V)} (h : DelRows p l i j rows) (hj : j < l.length) : rows[j]? = some (cPred l[j]) := by
  have := congrArg (fun x => x[0]?) h.hi
  simp [hj] at this
  simpa using this

theorem DelRows.drop {p : PredT → Bool} {l : List PredT} {i j : Nat} {rows : List (List V)} (h : DelRows p l i j rows) (hj : j < l.length) (hp : p l[j] = true) : DelRows p l i (j + 1) rows where
  jl := hj
  ij := by have := h.ij; omega
  kept := by rw [take_snoc hj, List.filter_append]; simp [hp, h.kept]
  len := h.len
  ten := h.ten
  lo := by rw [take_snoc hj, List.filter_append]; simp [hp, h.lo]
  hi := by
    have := congrArg (List.drop 1) h.hi
    simpa [List.drop_drop, ← List.map_drop] using this

theorem DelRows.keep {p : PredT → Bool} {l : List PredT} {i j : Nat} {rows : List (List V)} (h : DelRows p l i j rows) (hj : j < l.length) (hp : p l[j] = false) : DelRows p l (i + 1) (j + 1) (rows.set i (cPred l[j])) where
  jl := hj
  ij := by have := h.ij; omega
  kept := by rw [take_snoc hj, List.filter_append]; simp [hp, h.kept]
  len := by simp [h.len]
  ten := by
    intro e he
    rcases List.mem_or_eq_of_mem_set he with h' | rfl
    · exact h.ten e h'
    · rfl
  lo := by
    have hi : i < rows.length := by have := h.ij; have := h.len; omega
    rw [take_snoc hj, List.filter_append, List.map_append, ← h.lo]
    have : (rows.set i (cPred l[j])).take (i + 1) = rows.take i ++ [cPred l[j]] := by
      rw [take_snoc (by simpa using hi), List.take_set_of_le (by omega)]; simp
    rw [this]; simp [hp]
  hi := by
    rw [List.drop_set_of_lt (by have := h.ij; omega)]
    have := congrArg (List.drop 1) h.hi
    simpa [List.drop_drop, ← List.map_drop] using this

def DelI (p : PredT → Bool) (l : List PredT) (L : List (Option (Nat × Obj))) (id ver : Nat) (k : Nat) (v5 v6 : V) (st : St) : Prop :=
  ∃ (i j nv : Nat) (rows : List (List V)), k = l.length - j ∧ v5 = .int .i64 i ∧ v6 = .int .i64 j ∧ st = ⟨L.set id (some (ver, .mem 6 rows)), nv⟩ ∧ DelRows p l i j rows

theorem DeleteFunc (hI : R_slices_IndexFunc_Pred_Pred P) (hR : R_slices_DeleteFunc_Pred_Pred P) {k : FuncId} {cap cap' : List V} {p : PredT → Bool} (l : List PredT) (hl : l.length < 2 ^ 43)
    (hpc : pureL cap' = true) (hf : ∀ x, PCalls P k ([.agg (cPred x)] ++ cap') (fun r => r = .bool (p x)))
    {L : List (Option (Nat × Obj))} {nv id ver : Nat} (hL : L[id]? = some (some (ver, .mem 6 (l.map cPred)))) (hcap : ∀ L' nv', (∀ j, j ≠ id → j < L.length → L'[j]? = L[j]?) → Bors ⟨L', nv'⟩ cap cap')
    {K : V → St → Prop} (hk : ∀ nv' rows, rows.take ((l.filter fun x => !p x).length) = (l.filter fun x => !p x).map cPred → (l.filter fun x => !p x).length ≤ rows.length → K (.msl id ver 0 (l.filter fun x => !p x).length) ⟨L.set id (some (ver, .mem 6 rows)), nv'⟩) :
    ACalls P n_slices_DeleteFunc_Pred_Pred [.msl id ver 0 l.length, .fn (.func k) [] cap] ⟨L, nv⟩ K := by
  have hid : id < L.length := (List.getElem?_eq_some_iff.1 hL).1
  have hrow : ∀ i, i < l.length → ((l.map cPred).getD i []).length = 6 := fun i hi => by rw [getD_map _ _ _ hi]; rfl
  have bslice : ∀ (st : St) rows, st.get id ver = some (.mem 6 rows) → rows = l.map cPred → Bor st (.msl id ver 0 l.length) (.sl .unk 6 (l.map cPred) []) := by
    intro st rows ho hr
    subst hr
    exact .msl id ver 0 l.length 6 _ _ ho (by simp) (by simp) (fun i hi => hrow i hi) (fun i j hi hj => by rw [Nat.zero_add]; exact .refl _)
  refine A_slices_DeleteFunc_Pred_Pred hR ?_
  unfold F_slices_DeleteFunc_Pred_Pred
  simp
  refine inv_look (IndexFunc hI (first := []) (cap := cap') (p := p) l hl rfl hpc (fun x => hf x)) ?_ (by simp [pureL, pureLL, hpc]) ?_
  · refine Bors.cons (bslice _ _ (by simp [St.get, hL]) rfl) (Bors.cons (.fn _ _ _ _ _ rfl (hcap L nv (fun _ _ _ => rfl)).1 (fun i hi => by simp at hi) (hcap L nv (fun _ _ _ => rfl)).2) Bors.nil)
  intro r hr
  refine ⟨by subst hr; rfl, ?_⟩
  cases hfi : l.findIdx? p with
  | none =>
    have hall : l.filter (fun x => !p x) = l := by
      rw [List.filter_eq_self]; rw [List.findIdx?_eq_none_iff] at hfi; intro x hx; simp [hfi x hx]
    have hr' : r = .int .i64 (-1) := by rw [hr]; simp [fIdx, hfi]
    clear hr; subst hr'
    simp
    refine GhostV.refl ?_
    have := hk nv (l.map cPred)
    rw [hall] at this
    have := this (by rw [List.take_of_length_le (by simp)]) (by simp)
    have e : L.set id (some (ver, .mem 6 (l.map cPred))) = L := by
      apply List.ext_getElem?
      intro j
      by_cases h : id = j
      · subst h; rw [List.getElem?_set_self hid, hL]
      · rw [List.getElem?_set_ne h]
    rw [e] at this
    simpa using this
  | some i0 =>
    obtain ⟨hi0, hp0, hlt0⟩ := List.findIdx?_eq_some_iff_getElem.1 hfi
    have hne : ¬ ((i0 : Int) = -1) := by omega
    have e1 : IntKind.i64.wrap ((i0 : Int) + 1) = ((i0 + 1 : Nat) : Int) := by rw [wrap_i64 (by omega)]; omega
    have hr' : r = .int .i64 i0 := by rw [hr]; simp [fIdx, hfi]
    clear hr; subst hr'
    simp [hne, e1]
    have htk : (l.take (i0 + 1)).filter (fun x => !p x) = l.take i0 := by
      rw [take_snoc hi0, List.filter_append]
      simp [hp0]
      intro x hx
      obtain ⟨j, hj, rfl⟩ := List.mem_take_iff_getElem.1 hx
      simpa using hlt0 j (by omega)
    have hLs : L.set id (some (ver, .mem 6 (l.map cPred))) = L := by
      apply List.ext_getElem?
      intro j
      by_cases h : id = j
      · subst h; rw [List.getElem?_set_self hid, hL]
      · rw [List.getElem?_set_ne h]
    refine ⟨DelI p l L id ver, ⟨l.length - (i0 + 1), GhostV.refl ⟨i0, i0 + 1, nv, l.map cPred, rfl, rfl, by simp, by rw [hLs], ⟨hi0, by omega, by rw [htk]; simp; omega, by simp, ?_, by rw [htk, List.map_take], by rw [List.map_drop]⟩⟩⟩, ?_⟩
    · intro e he
      obtain ⟨x, _, rfl⟩ := List.mem_map.1 he
      rfl
    rintro k1 v5 v6 st ⟨i, j, nv1, rows, rfl, rfl, rfl, rfl, hd⟩
    by_cases hj : j < l.length
    · have hir : i < rows.length := by have := hd.ij; have := hd.len; omega
      have hri : rows[i]? = some rows[i] := List.getElem?_eq_getElem hir
      have hr6 : rows[i].length = 6 := hd.ten _ (List.getElem_mem hir)
      have hjr : j < rows.length := by have := hd.len; omega
      have hrj : rows[j] = cPred l[j] := by have := hd.get hj; rw [List.getElem?_eq_getElem hjr] at this; simpa using this
      simp [hj, hid, hjr, hrj, hd.len]
      refine inv_look (hf l[j]) (Bors.cons (.refl _) (hcap _ _ (fun q hq hq' => ?_))) (by simp [pureL_append, pureL, hpc]) ?_
      · rw [List.getElem?_append_left (by simpa using hq'), List.getElem?_set_ne (Ne.symm hq)]
      rintro _ rfl
      refine ⟨rfl, ?_⟩
      have e2 : IntKind.i64.wrap ((i : Int) + 1) = ((i + 1 : Nat) : Int) := by rw [wrap_i64 (by have := hd.ij; omega)]; omega
      have e3 : IntKind.i64.wrap ((j : Int) + 1) = ((j + 1 : Nat) : Int) := by rw [wrap_i64 (by omega)]; omega
      have hil : i < l.length := by have := hd.ij; omega
      have hdr : List.drop 6 rows[i] = [] := List.drop_eq_nil_of_le (by omega)
      cases hp : p l[j]
      · simp [hid, hil, hir, hr6, hd.len, splice, hdr]
        have hk2 := hd.keep hj hp
        refine ⟨l.length - (j + 1), by omega, GhostV.take L.length ?_⟩
        simp
        show DelI p l L id ver _ _ _ _
        exact ⟨i + 1, j + 1, _, rows.set i (cPred l[j]), rfl, by rw [e2], by rw [e3], rfl, hk2⟩
      · simp
        have hk2 := hd.drop hj hp
        refine ⟨l.length - (j + 1), by omega, GhostV.take L.length ?_⟩
        simp
        show DelI p l L id ver _ _ _ _
        exact ⟨i, j + 1, _, rows, rfl, rfl, by rw [e3], rfl, hk2⟩
    · have hjl : j = l.length := by have := hd.jl; omega
      subst hjl
      have hlo := hd.lo
      have hkept := hd.kept
      rw [List.take_length] at hlo hkept
      have hij := hd.ij
      have hle : i ≤ l.length := by omega
      have hs : i + (l.length - i) = l.length := by omega
      simp [hid, hd.len, hle, hs]
      refine GhostV.refl ?_
      simp only [mkres1]
      rw [← hkept]
      refine hk _ _ ?_ ?_
      · rw [hkept, List.take_append_of_le_length (by simp [hd.len]; omega), List.take_take, Nat.min_self]; exact hlo
      · rw [hkept]; simp [hd.len]; omega

structure RelR (P : Program) : Prop extends ChgR P where
  idxf : R_slices_IndexFunc_Pred_Pred P
  del : R_slices_DeleteFunc_Pred_Pred P
  rel1 : R_pred_Release_1 P
  rel : R_pred_Release P
def withoutP (l : List PredT) (t : Nat) : List PredT := l.filter fun x => !decide (x.txn = t)
theorem Release_1 (h : RelR P) (x : PredT) (t : Nat) : PCalls P n_pred_Release_1 ([.agg (cPred x)] ++ [.eptr [.int .u64 t] 0]) (fun r => r = .bool (decide (x.txn = t))) := by
  refine A_pred_Release_1 h.rel1 ?_
  unfold F_pred_Release_1
  simp [st0]
  exact GhostV.refl (by simp)
theorem GhostV.rowaI {L M : List (Option (Nat × Obj))} {nv id ver n : Nat} {l : List PredT} {rows : List (List V)} {rest : List V} {K : List V → St → Prop} (hid : L.length ≤ id) (ho : (L ++ M)[id]? = some (some (ver, .mem 6 rows))) (hr : rows.take n = l.map cPred) (hl : n ≤ rows.length)
    (hk : K (vP l :: rest) ⟨L, nv⟩) : GhostV (.agg [.msl id ver 0 n] :: rest) ⟨L ++ M, nv⟩ K := by
  refine GhostV.rowa (sz := 6) (es := rows) hid ho (by simpa using hl) ?_
  rw [List.drop_zero, hr]; exact hk
theorem Release_P (h : RelR P) (l : List PredT) (t : Nat) (hl : l.length < 2 ^ 40) :
    PCalls P n_pred_Release [vP l, .int .u64 t] (fun r => r = if rightP l then (if t = 0 then .tup [vP [], .int .i64 2] else .tup [vP (withoutP l t), .int .i64 0]) else .tup [vP [], .int .i64 250]) := by
  refine A_pred_Release h.rel ?_
  unfold F_pred_Release
  simp [st0, vP]
  refine inv_p (pCheck h.toBoxR l hl) rfl (by simp [pureL, pureLL]) ?_
  rintro _ rfl
  cases hr : rightP l
  · simp
    exact nilG
  · by_cases ht : t = 0
    · simp [ht]
      exact nilG
    · simp [ht]
      refine inv_f0 (Clone_P h.clone l hl (fun ver nv' => ?_))
      simp
      refine inv_f0 (DeleteFunc h.idxf h.del (cap' := [.eptr [.int .u64 t] 0]) (p := fun x => decide (x.txn = t)) l (by omega) (by simp [pureL, pureLL]) (fun x => Release_1 h x t) (by simp) ?_ ?_)
      · intro L' nv2 hL'
        have := hL' 1 (by decide) (by simp)
        exact Bors.cons (.box1 (by simp [St.get, this])) Bors.nil
      · intro nv2 rows h1 h2
        simp
        refine GhostV.rowaI (L := []) (l := withoutP l t) (by simp) (by simp) h1 (by simpa using h2) ?_
        exact ⟨by simp [V.pure, pureL, pureLL, vP], by simp [vP, ht]⟩
end Go.Proofs.Ytmgkjbphlbpbfaa.AM

namespace Go.Proofs.Ytmgkjbphlbpbfaa.AM
open Go
set_option linter.unusedVariables false
set_option linter.unusedSimpArgs false
variable {P : Program}

structure IterPR (P : Program) : Prop extends RelR P where
  at0 : R_pred_at P
  at1i : R_pred_at_1 P
  app : R_slices_AppendSeq_Pred_Pred P
  coll : R_slices_Collect_Pred P

def aP (x : PredT) : List V := [.agg (cPred x)]
def atN (l : List PredT) (n : Nat) : List PredT := l.filter fun x => decide (x.node = n)
theorem atN_snoc {l : List PredT} {n i : Nat} (h : i < l.length) : atN (l.take (i + 1)) n = if l[i].node = n then atN (l.take i) n ++ [l[i]] else atN (l.take i) n := by
  unfold atN
  rw [take_snoc h, List.filter_append]
  by_cases e : l[i].node = n <;> simp [e]
def AtI (l : List PredT) (n : Nat) (J : List PredT → List (Option (Nat × Obj)) → Prop) (k : Nat) (v : V) (st : St) : Prop :=
  ∃ i L' nv, k = l.length - i ∧ i ≤ l.length ∧ v = .int .i64 ((i : Nat) : Int) ∧ J (atN (l.take i) n) L' ∧ st = ⟨L', nv⟩
theorem at_rest {l : List PredT} {n i : Nat} (h : i < l.length) (e : l[i].node = n) : ∃ rest, atN (l.take i) n ++ l[i] :: rest = atN l n := by
  refine ⟨atN (l.drop (i + 1)) n, ?_⟩
  unfold atN
  have : l = l.take i ++ l[i] :: l.drop (i + 1) := by rw [List.getElem_cons_drop, List.take_append_drop]
  conv => rhs; rw [this, List.filter_append, List.filter_cons]
  simp [e]
set_option maxHeartbeats 400000 in
theorem at_iterS (h : IterPR P) (l : List PredT) (n : Nat) (hl : l.length < 2 ^ 40) {b bv c cv : Nat} :
    IterC P aP (.fn (.func n_pred_at_1) [] [.ptr b bv 0 0, .ptr c cv 0 0]) (fun L => L[b]? = some (some (bv, .mem 1 [[.sl .unk 6 (l.map cPred) []]])) ∧ L[c]? = some (some (cv, .mem 1 [[.int .u32 n]]))) (· = atN l n) := by
  intro yv N J S L0 nv0 K hJ hS hy h0 hk hks
  refine AInvE_fn (first := []) ?_
  refine A_pred_at_1 h.at1i ?_
  unfold F_pred_at_1
  have hbJ : ∀ ys L', J ys L' → ∀ R, (L' ++ R)[b]? = some (some (bv, .mem 1 [[.sl .unk 6 (l.map cPred) []]])) := fun ys L' h R => by
    have := (hJ ys L' h).2.1
    rw [List.getElem?_append_left (List.getElem?_eq_some_iff.1 this).1]; exact this
  have hcJ : ∀ ys L', J ys L' → ∀ R, (L' ++ R)[c]? = some (some (cv, .mem 1 [[.int .u32 n]])) := fun ys L' h R => by
    have := (hJ ys L' h).2.2
    rw [List.getElem?_append_left (List.getElem?_eq_some_iff.1 this).1]; exact this
  have hb0 : L0[b]? = some (some (bv, .mem 1 [[.sl .unk 6 (l.map cPred) []]])) := by simpa using hbJ _ _ h0 []
  simp [hb0]
  refine ⟨AtI l n J, ⟨l.length, GhostV.refl ⟨0, L0, nv0, rfl, by omega, by simp, by simpa [atN] using h0, rfl⟩⟩, ?_⟩
  rintro k v st ⟨i, L', nv, rfl, hi, rfl, hJi, rfl⟩
  by_cases hlt : i < l.length
  · have g := hcJ _ _ hJi
    simp [hlt, g]
    have hsn := atN_snoc (n := n) hlt
    by_cases he : l[i].node = n
    · simp [he]
      have hx := hy (atN (l.take i) n) l[i] L' [some (nv, .mem 6 [cPred l[i]])] (nv + 1)
      rw [if_pos he] at hsn
      have hxx : aP l[i] = [.agg [.int .u32 n, .int .u64 l[i].txn, .int .i64 l[i].k.x0, .int .i64 l[i].k.x1, .int .i64 l[i].k.y0, .int .i64 l[i].k.y1]] := by simp [aP, he]
      have hG : [some (nv, Obj.mem 6 [cPred l[i]])] = [some (nv, Obj.mem 6 [[.int .u32 n, .int .u64 l[i].txn, .int .i64 l[i].k.x0, .int .i64 l[i].k.x1, .int .i64 l[i].k.y0, .int .i64 l[i].k.y1]])] := by simp [he]
      rw [hxx, hG] at hx
      refine hx _ hJi (at_rest hlt he) ?_ ?_
      · intro L'' H nv' hJ'
        simp [he]
        rw [← hsn] at hJ'
        refine ⟨l.length - (i + 1), by omega, GhostV.keep ⟨i + 1, L'', nv', rfl, by omega, by rw [wadd1 (by omega)], hJ', rfl⟩⟩
      · intro L'' H nv' hS'
        simp [he]
        exact GhostV.keep (hks _ _ _ hS')
    · simp [he]
      rw [if_neg he] at hsn
      rw [← hsn] at hJi
      refine ⟨l.length - (i + 1), by omega, GhostV.keep ⟨i + 1, L', _, rfl, by omega, by rw [wadd1 (by omega)], hJi, rfl⟩⟩
  · simp [hlt]
    have e : l.take i = l := List.take_of_length_le (by omega)
    rw [e] at hJi
    exact GhostV.refl (hk _ _ _ hJi rfl)
set_option maxHeartbeats 400000 in
theorem at_iterM (h : IterPR P) (l : List PredT) (n : Nat) (hl : l.length < 2 ^ 40) {b bv c cv d va : Nat} :
    IterC P aP (.fn (.func n_pred_at_1) [] [.ptr b bv 0 0, .ptr c cv 0 0]) (fun L => L[b]? = some (some (bv, .mem 1 [[.msl d va 0 l.length]])) ∧ L[c]? = some (some (cv, .mem 1 [[.int .u32 n]])) ∧ L[d]? = some (some (va, .mem 6 (l.map cPred)))) (· = atN l n) := by
  intro yv N J S L0 nv0 K hJ hS hy h0 hk hks
  refine AInvE_fn (first := []) ?_
  refine A_pred_at_1 h.at1i ?_
  unfold F_pred_at_1
  have hbJ : ∀ ys L', J ys L' → ∀ R, (L' ++ R)[b]? = some (some (bv, .mem 1 [[.msl d va 0 l.length]])) := fun ys L' h R => by
    have := (hJ ys L' h).2.1
    rw [List.getElem?_append_left (List.getElem?_eq_some_iff.1 this).1]; exact this
  have hcJ : ∀ ys L', J ys L' → ∀ R, (L' ++ R)[c]? = some (some (cv, .mem 1 [[.int .u32 n]])) := fun ys L' h R => by
    have := (hJ ys L' h).2.2.1
    rw [List.getElem?_append_left (List.getElem?_eq_some_iff.1 this).1]; exact this
  have hdJ : ∀ ys L', J ys L' → L'[d]? = some (some (va, .mem 6 (l.map cPred))) := fun ys L' h => (hJ ys L' h).2.2.2
  have hb0 : L0[b]? = some (some (bv, .mem 1 [[.msl d va 0 l.length]])) := by simpa using hbJ _ _ h0 []
  simp [hb0]
  refine ⟨AtI l n J, ⟨l.length, GhostV.refl ⟨0, L0, nv0, rfl, by omega, by simp, by simpa [atN] using h0, rfl⟩⟩, ?_⟩
  rintro k v st ⟨i, L', nv, rfl, hi, rfl, hJi, rfl⟩
  by_cases hlt : i < l.length
  · have g := hcJ _ _ hJi
    have g2 := hdJ _ _ hJi
    simp [hlt, g, g2]
    have hsn := atN_snoc (n := n) hlt
    by_cases he : l[i].node = n
    · simp [he]
      have hx := hy (atN (l.take i) n) l[i] L' [some (nv, .mem 6 [cPred l[i]])] (nv + 1)
      rw [if_pos he] at hsn
      have hxx : aP l[i] = [.agg [.int .u32 n, .int .u64 l[i].txn, .int .i64 l[i].k.x0, .int .i64 l[i].k.x1, .int .i64 l[i].k.y0, .int .i64 l[i].k.y1]] := by simp [aP, he]
      have hG : [some (nv, Obj.mem 6 [cPred l[i]])] = [some (nv, Obj.mem 6 [[.int .u32 n, .int .u64 l[i].txn, .int .i64 l[i].k.x0, .int .i64 l[i].k.x1, .int .i64 l[i].k.y0, .int .i64 l[i].k.y1]])] := by simp [he]
      rw [hxx, hG] at hx
      refine hx _ hJi (at_rest hlt he) ?_ ?_
      · intro L'' H nv' hJ'
        simp [he]
        rw [← hsn] at hJ'
        refine ⟨l.length - (i + 1), by omega, GhostV.keep ⟨i + 1, L'', nv', rfl, by omega, by rw [wadd1 (by omega)], hJ', rfl⟩⟩
      · intro L'' H nv' hS'
        simp [he]
        exact GhostV.keep (hks _ _ _ hS')
    · simp [he]
      rw [if_neg he] at hsn
      rw [← hsn] at hJi
      refine ⟨l.length - (i + 1), by omega, GhostV.keep ⟨i + 1, L', _, rfl, by omega, by rw [wadd1 (by omega)], hJi, rfl⟩⟩
  · simp [hlt]
    have e : l.take i = l := List.take_of_length_le (by omega)
    rw [e] at hJi
    exact GhostV.refl (hk _ _ _ hJi rfl)

theorem at_P (h : IterPR P) {rv : V} {n : Nat} {L : List (Option (Nat × Obj))} {nv : Nat} {K : V → St → Prop} (hc : rv.cells = some [rv])
    (hk : K (.fn (.func n_pred_at_1) [] [.ptr L.length nv 0 0, .ptr (L.length + 1) (nv + 1) 0 0]) ⟨L ++ [some (nv, .mem 1 [[rv]]), some (nv + 1, .mem 1 [[.int .u32 n]])], nv + 2⟩) :
    ACalls P n_pred_at [.agg [rv], .int .u32 n] ⟨L, nv⟩ K := by
  refine A_pred_at h.at0 ?_
  unfold F_pred_at
  simp
  exact GhostV.refl (by simpa using hk)

/-! ### slices.Collect -/
def AppP (L : List (Option (Nat × Obj))) (LP : LSt → Obj) (nv : Nat) (ys : List PredT) (L' : List (Option (Nat × Obj))) : Prop :=
  ∃ va, L' = L ++ [some (nv, .mem 1 [[.msl (L.length + 2) va 0 ys.length]]), some (nv + 1, LP .ready), some (va, .mem 6 (ys.map cPred))]
theorem AppendSeq_P (h : IterPR P) {sq : V} {L : List (Option (Nat × Obj))} {Q : List (Option (Nat × Obj)) → Prop} (hQ : ∀ M, Q (L ++ M)) {dom : List PredT → Prop} (hi : IterC P aP sq Q dom) (hb : ∀ ys rest, dom (ys ++ rest) → ys.length < 2 ^ 40) {nv : Nat} {K : V → St → Prop}
    (hk : ∀ ys va nv' M, dom ys → M.length = 3 → M[2]? = some (some (va, .mem 6 (ys.map cPred))) → K (.msl (L.length + 2) va 0 ys.length) ⟨L ++ M, nv'⟩) :
    ACalls P n_slices_AppendSeq_Pred_Pred [.sl .nil 0 [] [], sq] ⟨L, nv⟩ K := by
  refine A_slices_AppendSeq_Pred_Pred h.app ?_
  unfold F_slices_AppendSeq_Pred_Pred
  simp
  intro LP HY
  simp only [List.length_append, List.length_cons, List.length_nil, Nat.zero_add] at HY
  simp
  refine AInvE.ghost (ghost_nilbox (j := L.length) (ver := nv) (s := 0) (sz := 6) (by decide) (by simp)) ?_
  simp
  refine hi _ (L.length + 3) (AppP L LP nv) (fun _ _ => False) _ _ _ ?_ (fun _ _ h => h.elim) ?_ ?_ ?_ (fun _ _ _ h => h.elim)
  · rintro ys L' ⟨va, rfl⟩
    exact ⟨by simp, hQ _⟩
  · rintro ys x L' G nv2 ⟨K'⟩ ⟨va, rfl⟩ ⟨rest, hd⟩ h1 _
    have hlen := hb (ys ++ [x]) rest (by simpa using hd)
    simp only [List.length_append, List.length_cons, List.length_nil] at hlen
    refine HY ⟨(L ++ [some (nv, .mem 1 [[.msl (L.length + 2) va 0 ys.length]]), some (nv + 1, LP .ready), some (va, .mem 6 (ys.map cPred))]) ++ G, nv2⟩ K' (.agg (cPred x)) (by simp) ?_
    have key := h1 (L ++ [some (nv, .mem 1 [[.msl (L.length + 2) (nv2 + 2) 0 (ys.length + 1)]]), some (nv + 1, LP .ready), some (nv2 + 2, .mem 6 ((ys ++ [x]).map cPred))]) [some (nv2, .mem 6 [cPred x]), some (nv2 + 1, .mem 6 [cPred x])] (nv2 + 1 + 1 + 1) ⟨nv2 + 2, by simp⟩
    simp
    simp at key
    exact ⟨by omega, key⟩
  · exact ⟨nv + 1 + 1, by simp⟩
  · rintro ys L' nv2 ⟨va, rfl⟩ hd
    refine ⟨.ready, by simp, ?_⟩
    simp [hend]
    have := hk ys va nv2 [some (nv, .mem 1 [[.msl (L.length + 2) va 0 ys.length]]), none, some (va, .mem 6 (ys.map cPred))] hd rfl rfl
    exact GhostV.refl (by simpa using this)
theorem Collect_P (h : IterPR P) {sq : V} {L : List (Option (Nat × Obj))} {Q : List (Option (Nat × Obj)) → Prop} (hQ : ∀ M, Q (L ++ M)) {dom : List PredT → Prop} (hi : IterC P aP sq Q dom) (hb : ∀ ys rest, dom (ys ++ rest) → ys.length < 2 ^ 40) {nv : Nat} {K : V → St → Prop}
    (hk : ∀ ys va nv' M, dom ys → M.length = 3 → M[2]? = some (some (va, .mem 6 (ys.map cPred))) → K (.msl (L.length + 2) va 0 ys.length) ⟨L ++ M, nv'⟩) :
    ACalls P n_slices_Collect_Pred [sq] ⟨L, nv⟩ K := by
  refine A_slices_Collect_Pred h.coll ?_
  unfold F_slices_Collect_Pred
  simp
  refine inv_f0 (AppendSeq_P h hQ hi hb (fun ys va nv' M h1 h2 h3 => ?_))
  exact GhostV.refl (by simpa using hk ys va nv' M h1 h2 h3)
end Go.Proofs.Ytmgkjbphlbpbfaa.AM

namespace Go.Proofs.Ytmgkjbphlbpbfaa.AM
open Go
set_option linter.unusedVariables false
set_option linter.unusedSimpArgs false
variable {P : Program}

@[simp] def cN (n : Nat) : List V := [.int .u64 n]
@[simp] theorem p_N (l : List Nat) : pureLL (l.map cN) = true := pureLL_map (fun _ => rfl) l
def stepC (acc : List Nat) (x : Nat) : List Nat := if acc.getLast? = some x then acc else acc ++ [x]
def compN (l : List Nat) : List Nat := l.foldl stepC []
theorem compN_snoc {l : List Nat} {x : Nat} : compN (l ++ [x]) = stepC (compN l) x := by simp [compN]
theorem snocRec {α : Type} {p : List α → Prop} (h0 : p []) (h1 : ∀ l x, p l → p (l ++ [x])) (l : List α) : p l := by
  rw [← List.reverse_reverse l]
  induction l.reverse with
  | nil => simpa using h0
  | cons x r ih => rw [List.reverse_cons]; exact h1 _ _ ih
theorem compN_last (l : List Nat) : (compN l).getLast? = l.getLast? := by
  refine snocRec (p := fun l => (compN l).getLast? = l.getLast?) rfl (fun l x ih => ?_) l
  rw [compN_snoc, stepC]
  split
  · rename_i h; rw [h]; simp
  · simp
theorem compN_le (l : List Nat) : (compN l).length ≤ l.length := by
  refine snocRec (p := fun l => (compN l).length ≤ l.length) (Nat.le_refl _) (fun l x ih => ?_) l
  rw [compN_snoc, stepC]
  split <;> simp <;> omega
theorem compN_take {l : List Nat} {i : Nat} (h1 : 1 ≤ i) (h : i < l.length) : compN (l.take (i + 1)) = if l[i - 1] = l[i] then compN (l.take i) else compN (l.take i) ++ [l[i]] := by
  rw [take_snoc h, compN_snoc, stepC, compN_last]
  obtain ⟨p, rfl⟩ : ∃ p, i = p + 1 := ⟨i - 1, by omega⟩
  have : (l.take (p + 1)).getLast? = some l[p] := by rw [take_snoc (show p < l.length by omega), List.getLast?_concat]
  rw [this]
  simp only [Option.some.injEq, Nat.add_sub_cancel]

def CmpI (l : List Nat) (L : List (Option (Nat × Obj))) (nv : Nat) (k : Nat) (v : V) (st : St) : Prop := ∃ i, k = l.length - i ∧ 1 ≤ i ∧ i ≤ l.length ∧ v = .int .i64 ((i : Nat) : Int) ∧ compN (l.take i) = l.take i ∧ st = ⟨L, nv⟩
def CmpJ (l : List Nat) (L : List (Option (Nat × Obj))) (id va k0 nv : Nat) (k : Nat) (v3 v5 : V) (st : St) : Prop :=
  ∃ kk j rows, k = l.length - (k0 + j) ∧ 1 ≤ j ∧ k0 + j ≤ l.length ∧ kk + 1 ≤ k0 + j ∧ v3 = .int .i64 ((kk : Nat) : Int) ∧ v5 = .int .i64 ((j : Nat) : Int) ∧ rows.length = l.length ∧ (compN (l.take (k0 + j))).length = kk ∧
    rows.take kk = (compN (l.take (k0 + j))).map cN ∧ rows.drop (k0 + j - 1) = (l.drop (k0 + j - 1)).map cN ∧ (∀ e ∈ rows, e.length = 1) ∧ st = ⟨L.set id (some (va, .mem 1 rows)), nv⟩
set_option maxHeartbeats 1000000 in
theorem Compact_N (h : R_slices_Compact_uint64_uint64 P) {l : List Nat} (hl : l.length < 2 ^ 40) {L : List (Option (Nat × Obj))} {id va nv : Nat} (hL : L[id]? = some (some (va, .mem 1 (l.map cN)))) {K : V → St → Prop}
    (hk : ∀ rows nv', rows.take (compN l).length = (compN l).map cN → (compN l).length ≤ rows.length → K (.msl id va 0 (compN l).length) ⟨L.set id (some (va, .mem 1 rows)), nv'⟩) :
    ACalls P n_slices_Compact_uint64_uint64 [.msl id va 0 l.length] ⟨L, nv⟩ K := by
  have hid : id < L.length := (List.getElem?_eq_some_iff.1 hL).1
  have same : ∀ nv', compN l = l → K (.msl id va 0 l.length) ⟨L, nv'⟩ := fun nv' hc => by
    have := hk (l.map cN) nv'
    rw [hc] at this
    have := this (List.take_of_length_le (by simp)) (by simp)
    rwa [set_self hL] at this
  refine A_slices_Compact_uint64_uint64 h ?_
  unfold F_slices_Compact_uint64_uint64
  simp
  by_cases h2 : (l.length : Int) < 2
  · simp [h2]
    refine GhostV.refl (same nv ?_)
    rcases l with _ | ⟨a, _ | ⟨b, l⟩⟩
    · rfl
    · rfl
    · simp at h2; omega
  · simp [h2]
    refine ⟨CmpI l L nv, ⟨l.length - 1, GhostV.refl ⟨1, rfl, by omega, by omega, by simp, by
      rcases l with _ | ⟨a, l⟩
      · rfl
      · rfl, rfl⟩⟩, ?_⟩
    rintro k v st ⟨i, rfl, hi1, hi, rfl, hc, rfl⟩
    by_cases hlt : i < l.length
    · have hw := wsub1 (x := i) (by omega) (by omega)
      have hi' : i - 1 < l.length := by omega
      simp [hlt, hw, hL, hi']
      by_cases he : l[i] = l[i - 1]
      · simp [he, hL, hi, List.getElem?_eq_getElem]
        have hct := compN_take (l := l) hi1 hlt
        rw [if_pos he.symm, hc] at hct
        refine ⟨CmpJ l L id va i nv, ⟨l.length - (i + 1), GhostV.refl ⟨i, 1, l.map cN, rfl, by omega, by omega, by omega, rfl, by simp, by simp, by rw [hct]; simp; omega, by rw [hct, List.map_take], by rw [Nat.add_sub_cancel, List.map_drop], by simp, by rw [set_self hL]⟩⟩, ?_⟩
        rintro k2 v3 v5 st ⟨kk, j, rows, rfl, hj1, hj, hkk, rfl, rfl, hrl, hcl, hlo, hhi, h1, rfl⟩
        by_cases hjl : i + j < l.length
        · have hw2 := wsub1 (x := j) (by omega) (by omega)
          have r1 : rows[i + j - 1]? = some (cN l[i + j - 1]) := by
            have := congrArg (fun x => x[0]?) hhi
            simpa [show i + j - 1 < l.length by omega] using this
          have r2 : rows[i + j]? = some (cN l[i + j]) := by
            have := congrArg (fun x => x[1]?) hhi
            simpa [show i + j - 1 + 1 = i + j by omega, hjl] using this
          have r1' : rows[i + (j - 1)]? = some (cN l[i + j - 1]) := by rw [show i + (j - 1) = i + j - 1 by omega]; exact r1
          have hkr : kk < rows.length := by omega
          have hj' : (j : Int) < ((l.length - i : Nat) : Int) := by omega
          have hj2 : j < l.length - i := by omega
          have hj3 : j - 1 < l.length - i := by omega
          simp [hj', hj2, hj3, hw2, hid, r2, r1']
          have hct := compN_take (l := l) (i := i + j) (by omega) hjl
          by_cases he2 : l[i + j] = l[i + j - 1]
          · simp [he2]
            rw [if_pos he2.symm] at hct
            refine ⟨l.length - (i + (j + 1)), by omega, GhostV.refl ⟨kk, j + 1, rows, rfl, by omega, by omega, by omega, rfl, by rw [wadd1 (by omega)], hrl, by rw [← Nat.add_assoc, hct]; exact hcl, by rw [← Nat.add_assoc, hct]; exact hlo, ?_, h1, rfl⟩⟩
            rw [show i + (j + 1) - 1 = (i + j - 1) + 1 by omega, ← List.drop_drop, ← List.drop_drop, hhi, List.map_drop, List.map_drop, List.map_drop]
          · have hkl : kk < l.length := by omega
            have hrk : rows[kk]? = some rows[kk] := List.getElem?_eq_getElem hkr
            have hr1 : (rows[kk]).length = 1 := h1 _ (List.getElem_mem hkr)
            simp [he2, hkl, hkr, hid, hr1, splice, r2, hj2]
            rw [if_neg (fun e => he2 e.symm)] at hct
            refine ⟨l.length - (i + (j + 1)), by omega, GhostV.refl ⟨kk + 1, j + 1, rows.set kk (cN l[i + j]), rfl, by omega, by omega, by omega, by rw [wadd1 (by omega)], by rw [wadd1 (by omega)], by simpa using hrl, ?_, ?_, ?_, ?_, ?_⟩⟩
            · rw [← Nat.add_assoc, hct]; simp [hcl]
            · rw [← Nat.add_assoc, hct, take_snoc (by simpa using hkr), List.take_set_of_le (Nat.le_refl _), hlo]; simp
            · rw [List.drop_set_of_lt (by omega), show i + (j + 1) - 1 = (i + j - 1) + 1 by omega, ← List.drop_drop, ← List.drop_drop, hhi, List.map_drop, List.map_drop, List.map_drop]
            · intro e he
              rcases List.mem_or_eq_of_mem_set he with h' | rfl
              · exact h1 e h'
              · rfl
            · have ht : rows[kk].tail = [] := by
                match rows[kk], hr1 with
                | [_], _ => rfl
              simp [ht]
        · have hjn : ¬ (j : Int) < ((l.length - i : Nat) : Int) := by omega
          have hkl : kk ≤ l.length := by omega
          have hall : l.take (i + j) = l := List.take_of_length_le (by omega)
          rw [hall] at hcl hlo
          simp [hjn, hid, hrl, hkl, show kk + (l.length - kk) = l.length by omega]
          refine GhostV.refl ?_
          have := hk (splice rows kk (List.replicate (l.length - kk) [.int .u64 0])) nv
          rw [hcl] at this
          simp only [splice, List.length_replicate, show kk + (l.length - kk) = l.length by omega, List.append_assoc] at this
          refine this ?_ ?_
          · rw [List.take_append_of_le_length (by simp; omega), List.take_take, Nat.min_self]; exact hlo
          · simp; omega
      · simp [he]
        have hct := compN_take (l := l) hi1 hlt
        rw [if_neg (fun e => he e.symm), hc, ← take_snoc hlt] at hct
        refine ⟨l.length - (i + 1), by omega, GhostV.refl ⟨i + 1, rfl, by omega, by omega, by rw [wadd1 (by omega)], hct, rfl⟩⟩
    · simp [hlt]
      refine GhostV.refl (same nv ?_)
      rwa [List.take_of_length_le (by omega)] at hc
end Go.Proofs.Ytmgkjbphlbpbfaa.AM

namespace Go.Proofs.Ytmgkjbphlbpbfaa.AM
open Go
set_option linter.unusedVariables false
set_option linter.unusedSimpArgs false
variable {P : Program}

structure MeetR (P : Program) : Prop extends IterPR P where
  comp : R_slices_Compact_uint64_uint64 P
  meets : R_pred_Meets P
  rmts : R_gazetteerref15_Meets P

def hitP (k : KeyT) (own : Nat) (x : PredT) : Bool := !decide (x.txn = own) && meetsK x.k k
def hits (k : KeyT) (own : Nat) (l : List PredT) : List Nat := (l.filter (hitP k own)).map (·.txn)
def metS (l : List PredT) (n : Nat) (k : KeyT) (own : Nat) : List Nat := compN (hits k own (atN l n))
theorem hits_snoc {k : KeyT} {own : Nat} {ys : List PredT} {x : PredT} : hits k own (ys ++ [x]) = if hitP k own x then hits k own ys ++ [x.txn] else hits k own ys := by
  unfold hits
  rw [List.filter_append]
  cases h : hitP k own x <;> simp [h]
theorem hits_le {k : KeyT} {own : Nat} {ys : List PredT} : (hits k own ys).length ≤ ys.length := by unfold hits; simp; exact List.length_filter_le _ _
theorem atN_le {l : List PredT} {n : Nat} : (atN l n).length ≤ l.length := List.length_filter_le _ _
def MeL (l : List PredT) (n : Nat) (k : KeyT) (own : Nat) (LP : LSt → Obj) (ys : List PredT) (L' : List (Option (Nat × Obj))) : Prop :=
  ∃ va, L' = [some (0, .mem 1 [[.sl .unk 6 (l.map cPred) []]]), some (1, .mem 4 [cKey k]), some (2, .mem 1 [[.int .u64 own]]), some (3, .mem 1 [[.msl 7 va 0 (hits k own ys).length]]), some (4, .mem 1 [[.sl .unk 6 (l.map cPred) []]]), some (5, .mem 1 [[.int .u32 n]]), some (6, LP .ready), some (va, .mem 1 ((hits k own ys).map cN))]
theorem nilN {e : Int} {M : List (Option (Nat × Obj))} {nv : Nat} : GhostV [.sl .nil 0 [] [], .int .i64 e] ⟨M, nv⟩ fun vs st => (mkres vs).pure = true ∧ mkres vs = .tup [.sl .unk 1 [] [], .int .i64 e] := by
  refine GhostV.le (LeVs.cons (.nil 0 1) (LeVs.refl _)) ⟨by simp [V.pure, pureL, pureLL], by simp⟩
def metR (l : List PredT) (n : Nat) (k : KeyT) (own : Nat) : V :=
  if rightP l then (if boxK k && decide (n ≠ 0) && decide (own ≠ 0) then .tup [.sl .unk 1 ((metS l n k own).map cN) [], .int .i64 0] else .tup [.sl .unk 1 [] [], .int .i64 2]) else .tup [.sl .unk 1 [] [], .int .i64 250]
set_option maxHeartbeats 1000000 in
theorem Meets_P (h : MeetR P) (l : List PredT) (n : Nat) (k : KeyT) (own : Nat) (hl : l.length < 2 ^ 40) :
    PCalls P n_pred_Meets [vP l, .int .u32 n, .agg (cKey k), .int .u64 own] (fun r => r = metR l n k own) := by
  refine A_pred_Meets h.meets ?_
  unfold F_pred_Meets
  simp [st0, vP]
  refine inv_p (pCheck h.toBoxR l hl) rfl (by simp [pureL, pureLL]) ?_
  rintro _ rfl
  cases hr : rightP l
  · simp [metR, hr]
    exact nilN
  simp
  refine inv_p (pBox h.toBoxR k) rfl rfl ?_
  rintro _ rfl
  cases hb : boxK k
  · simp [metR, hr, hb]
    exact nilN
  by_cases hn : n = 0
  · simp [metR, hr, hb, hn]
    exact nilN
  by_cases ho : own = 0
  · simp [metR, hr, hb, hn, ho]
    exact nilN
  simp [hn, ho]
  refine inv_f0 (at_P h.toIterPR (rv := .sl .unk 6 (l.map cPred) []) rfl ?_)
  intro LP HY
  refine AInvE.ghost (ghost_nilbox (j := 3) (ver := 3) (s := 0) (sz := 1) (by decide) (by simp)) ?_
  simp
  refine at_iterS h.toIterPR l n hl _ 8 (MeL l n k own LP) (fun _ _ => False) _ _ _ ?_ (fun _ _ h => h.elim) ?_ ?_ ?_ (fun _ _ _ h => h.elim)
  · rintro ys L' ⟨va, rfl⟩
    exact ⟨rfl, rfl, rfl⟩
  · rintro ys x L' G nv2 ⟨K'⟩ ⟨va, rfl⟩ ⟨rest, hd⟩ h1 _
    have hlen : (ys ++ [x]).length ≤ l.length := by
      have h2 := atN_le (l := l) (n := n)
      rw [← hd] at h2; simp at h2 ⊢; omega
    have hlh := hits_le (k := k) (own := own) (ys := ys)
    simp at hlen
    refine HY ⟨_, nv2⟩ K' (.agg (cPred x)) (by simp) ?_
    have hsn := hits_snoc (k := k) (own := own) (ys := ys) (x := x)
    simp
    by_cases h2 : x.txn = own
    · simp [h2]
      rw [if_neg (by simp [hitP, h2])] at hsn
      have q := h1 _ [some (nv2, .mem 6 [[.int .u32 x.node, .int .u64 own, .int .i64 x.k.x0, .int .i64 x.k.x1, .int .i64 x.k.y0, .int .i64 x.k.y1]])] (nv2 + 1) ⟨va, rfl⟩
      rw [hsn] at q
      simpa using q
    · simp [h2]
      refine inv_p (kMeets h.toBoxR x.k k) rfl rfl ?_
      rintro _ rfl
      cases h3 : meetsK x.k k
      · simp
        rw [if_neg (by simp [hitP, h3])] at hsn
        have q := h1 _ [some (nv2, .mem 6 [cPred x])] (nv2 + 1) ⟨va, rfl⟩
        rw [hsn] at q
        simpa using q
      · simp [h2]
        rw [if_pos (by simp [hitP, h2, h3])] at hsn
        have q := h1 _ [some (nv2, .mem 6 [cPred x]), some (nv2 + 1, .mem 1 [[.int .u64 x.txn]])] (nv2 + 1 + 1 + 1) ⟨nv2 + 1 + 1, rfl⟩
        rw [hsn] at q
        refine ⟨by omega, ?_⟩
        simpa using q
  · exact ⟨7, by simp [hits]⟩
  · rintro ys L' nv2 ⟨va, rfl⟩ hd
    refine ⟨.ready, by simp, ?_⟩
    simp [hend]
    have hlh := hits_le (k := k) (own := own) (ys := ys)
    have hlen : ys.length ≤ l.length := by rw [hd]; exact atN_le
    refine inv_f0 (Compact_N h.comp (l := hits k own ys) (by omega) (id := 7) (va := va) (by simp) ?_)
    intro rows nv' q1 q2
    simp
    refine GhostV.rowx (id := 7) (ver := va) (sz := 1) (es := rows) (by simp) (by simpa using q2) ?_
    rw [List.drop_zero, q1]
    have e : compN (hits k own ys) = metS l n k own := by rw [hd]; rfl
    rw [e]
    exact ⟨by simp [V.pure, pureL, pureLL], by simp [metR, hr, hb, hn, ho]⟩
end Go.Proofs.Ytmgkjbphlbpbfaa.AM

namespace Go.Proofs.Ytmgkjbphlbpbfaa.AM
open Go
set_option linter.unusedVariables false
set_option linter.unusedSimpArgs false
variable {P : Program}

theorem metS_step {l : List PredT} {n own i : Nat} {k : KeyT} (h : i < l.length) : metS (l.take (i + 1)) n k own = if l[i].node = n ∧ hitP k own l[i] = true then stepC (metS (l.take i) n k own) l[i].txn else metS (l.take i) n k own := by
  unfold metS
  rw [atN_snoc h]
  by_cases h1 : l[i].node = n
  · rw [if_pos h1, hits_snoc]
    cases h2 : hitP k own l[i]
    · simp [h1]
    · simp [h1, compN_snoc]
  · simp [h1]
theorem metS_le {l : List PredT} {n own : Nat} {k : KeyT} : (metS l n k own).length ≤ l.length :=
  Nat.le_trans (compN_le _) (Nat.le_trans hits_le atN_le)
def RmI (l : List PredT) (n : Nat) (k : KeyT) (own : Nat) (kk : Nat) (v9 v10 : V) (st : St) : Prop :=
  ∃ i va nv out, kk = l.length - i ∧ i ≤ l.length ∧ v10 = .int .i64 ((i : Nat) : Int) ∧ out = metS (l.take i) n k own ∧ v9 = .msl 2 va 0 out.length ∧
    st = ⟨[some (0, .mem 1 [[.sl .unk 6 (l.map cPred) []]]), some (1, .mem 4 [cKey k]), some (va, .mem 1 (out.map cN))], nv⟩
set_option maxHeartbeats 1000000 in
theorem rMeetsP (h : MeetR P) (l : List PredT) (n : Nat) (k : KeyT) (own : Nat) (hl : l.length < 2 ^ 40) :
    PCalls P n_gazetteerref15_Meets [vP l, .int .u32 n, .agg (cKey k), .int .u64 own] (fun r => r = .sl .unk 1 ((metS l n k own).map cN) []) := by
  refine A_gazetteerref15_Meets h.rmts ?_
  unfold F_gazetteerref15_Meets
  simp [st0, vP]
  refine ⟨RmI l n k own, ⟨l.length, GhostV.nilr 1 (by decide) ⟨0, 2, 3, _, by simp, by simp, by simp, rfl, by simp [metS, hits, atN, compN], by simp [metS, hits, atN, compN]⟩⟩, ?_⟩
  rintro kk v9 v10 st ⟨i, va, nv, out, rfl, hi, rfl, hout, rfl, rfl⟩
  by_cases hlt : i < l.length
  · have hs := metS_step (n := n) (own := own) (k := k) hlt
    have hol : out.length ≤ l.length := by rw [hout]; exact Nat.le_trans metS_le (by simp; omega)
    have next : ∀ M nv', ¬ (l[i].node = n ∧ hitP k own l[i] = true ∧ ¬ out.getLast? = some l[i].txn) → ∃ j, j < l.length - i ∧ GhostV [.msl 2 va 0 out.length, .int .i64 (IntKind.i64.wrap ((i : Int) + 1))] ⟨[some (0, .mem 1 [[.sl .unk 6 (l.map cPred) []]]), some (1, .mem 4 [cKey k]), some (va, .mem 1 (out.map cN))] ++ M, nv'⟩ (app (n := 2) (RmI l n k own j)) := by
      intro M nv' hc
      refine ⟨l.length - (i + 1), by omega, GhostV.keep ⟨i + 1, va, nv', out, rfl, by omega, by rw [wadd1 (by omega)], ?_, rfl, rfl⟩⟩
      rw [hs, ← hout]
      split
      · rename_i hq
        unfold stepC
        split
        · rfl
        · rename_i hq2; exact absurd ⟨hq.1, hq.2, hq2⟩ hc
      · rfl
    simp [hlt]
    by_cases h1 : l[i].node = n
    · by_cases h2 : l[i].txn = own
      · simp [h1, h2]
        have := next [some (nv, .mem 6 [[.int .u32 n, .int .u64 own, .int .i64 l[i].k.x0, .int .i64 l[i].k.x1, .int .i64 l[i].k.y0, .int .i64 l[i].k.y1]])] (nv + 1) (by simp [hitP, h2])
        simpa using this
      · simp [h1, h2]
        refine inv_p (rMeets h.toBoxR l[i].k k) (by simp) (by simp [pureL]) ?_
        rintro _ rfl
        cases h3 : meetsK l[i].k k
        · simp [h1, h2]
          have := next [some (nv, .mem 6 [[.int .u32 n, .int .u64 l[i].txn, .int .i64 l[i].k.x0, .int .i64 l[i].k.x1, .int .i64 l[i].k.y0, .int .i64 l[i].k.y1]])] (nv + 1) (by simp [hitP, h3])
          simpa using this
        · by_cases h4 : out = []
          · subst h4
            simp [h1, h2]
            have hq : metS (l.take (i + 1)) n k own = [l[i].txn] := by
              rw [hs, if_pos ⟨h1, by simp [hitP, h2, h3]⟩, ← hout]; simp [stepC]
            exact ⟨l.length - (i + 1), by omega, GhostV.keep (L := [_, _, _]) ⟨i + 1, nv + 1 + 1, _, [l[i].txn], rfl, by omega, by rw [wadd1 (by omega)], hq.symm, rfl, rfl⟩⟩
          · have hpos : 0 < out.length := by cases out with | nil => exact absurd rfl h4 | cons a b => simp
            have hw := wsub1 (x := out.length) (by omega) hpos
            have h4' : ¬ out.length = 0 := by omega
            have hl1 : out.length - 1 < out.length := by omega
            have hlast : out.getLast? = some out[out.length - 1] := by rw [List.getLast?_eq_getElem?, List.getElem?_eq_getElem]
            simp [h1, h2, h4, h4', hw, hpos, hl1]
            by_cases he : out[out.length - 1] = l[i].txn
            · simp [he, h4']
              have := next [some (nv, .mem 6 [[.int .u32 n, .int .u64 l[i].txn, .int .i64 l[i].k.x0, .int .i64 l[i].k.x1, .int .i64 l[i].k.y0, .int .i64 l[i].k.y1]])] (nv + 1) (by rw [hlast, he]; simp)
              simpa using this
            · simp [he, h4']
              have hq : metS (l.take (i + 1)) n k own = out ++ [l[i].txn] := by
                rw [hs, if_pos ⟨h1, by simp [hitP, h2, h3]⟩, ← hout, stepC, hlast, if_neg (by simpa using he)]
              refine ⟨by omega, l.length - (i + 1), by omega, GhostV.keep (L := [_, _, _]) ⟨i + 1, nv + 1 + 1, nv + 1 + 1 + 1, out ++ [l[i].txn], rfl, by omega, by rw [wadd1 (by omega)], hq.symm, by simp, by simp⟩⟩
    · simp [h1]
      have := next [some (nv, .mem 6 [cPred l[i]])] (nv + 1) (by simp [h1])
      simpa using this
  · simp [hlt]
    rw [List.take_of_length_le (by omega)] at hout
    subst hout
    refine GhostV.rowx (id := 2) (ver := va) (sz := 1) (es := (metS l n k own).map cN) (by simp) (by simp) ?_
    rw [List.drop_zero, List.take_of_length_le (by simp)]
    exact ⟨by simp [V.pure, pureL, pureLL], by simp⟩
end Go.Proofs.Ytmgkjbphlbpbfaa.AM
