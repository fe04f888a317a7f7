/- The tree and the cursor, walked, part 3. -/
import Derived.Test.YtmjnpfackanhlaaTBm
namespace Go.Proofs.Ytmjnpfackanhlaa.AM
open Go
set_option linter.unusedVariables false
set_option linter.unusedSimpArgs false
variable {P : Program}

def totF (t : TreeT) (c : CurT) (gone : List Int) : List SeenT := c.opn.flatMap (stillF t c.win gone 1000)
def goneR (t : TreeT) (c : CurT) (gone : List Int) : CurT × Int :=
 if plantF t = true then
  if curOk c = true then
   if (totF t c gone).length ≤ 128 then (⟨c.win, totF t c gone, c.rows⟩, 0) else (noCur, 6)
  else (noCur, 230)
 else (noCur, 210)
def sumS (t : TreeT) (win : KeyT) (gone : List Int) (l : List SeenT) : Nat := (l.map (sizeF t win gone 1000)).sum
theorem sumS_app (t : TreeT) (win : KeyT) (gone : List Int) (a b : List SeenT) : sumS t win gone (a ++ b) = sumS t win gone a + sumS t win gone b := by simp [sumS]
theorem sumS_rev (t : TreeT) (win : KeyT) (gone : List Int) (a : List SeenT) : sumS t win gone a.reverse = sumS t win gone a := by
 induction a with
 | nil => rfl
 | cons x a ih => rw [List.reverse_cons, sumS_app, ih]; simp [sumS]; omega
theorem sumS_len (t : TreeT) (win : KeyT) (gone : List Int) : ∀ l : List SeenT, l.length ≤ sumS t win gone l
 | [] => by simp
 | x :: l => by
  have h1 := sumS_len t win gone l
  have h2 := size_pos (t := t) (win := win) (gone := gone) 1000 x
  simp only [sumS, List.map_cons, List.sum_cons, List.length_cons] at h1 ⊢
  omega
abbrev GnL (t : TreeT) (c : CurT) (vr : Nat) (v4 : Nat) (v5 : Nat) (rs : List (List V)) (v6 : Nat) (out : List SeenT) : List (Option (Nat × Obj)) :=
 [some (0, .mem 3 [cTree t]), some (1, .mem 6 [cCur c]), some (2, .mem 6 [[.int .i64 0, .int .i64 0, .int .i64 0, .int .i64 0, .sl .nil 0 [] [], .sl .nil 0 [] []]]), some (vr, .mem 1 (c.rows.map cI)),
  some (v4, .mem 6 [[.int .i64 c.win.x0, .int .i64 c.win.x1, .int .i64 c.win.y0, .int .i64 c.win.y1, .msl 6 v6 0 out.length, .msl 3 vr 0 c.rows.length]]), some (v5, .mem 2 rs), some (v6, .mem 2 (out.map cSeen))]
def GnI (t : TreeT) (c : CurT) (gone : List Int) (vr v4 : Nat) (k : Nat) (v10 : V) (st : St) : Prop :=
 ∃ (out rest : List SeenT) (v5 v6 nv : Nat) (T : List (List V)), k = sumS t c.win gone rest ∧ k ≤ 2 ^ 41 ∧ v10 = .msl 5 v5 0 rest.length ∧ out.length ≤ 128 ∧ out ++ rest.reverse.flatMap (stillF t c.win gone 1000) = totF t c gone ∧
  st = ⟨GnL t c vr v4 v5 (rest.map cSeen ++ T) v6 out, nv⟩
def GnQ (t : TreeT) (c : CurT) (vr v4 : Nat) (l : List SeenT) (v6 : Nat) (out : List SeenT) (v : V) (st : St) : Prop :=
 ∃ (v5 nv : Nat) (T : List (List V)) (M : List (Option (Nat × Obj))), v = .msl 5 v5 0 l.length ∧ st = ⟨GnL t c vr v4 v5 (l.map cSeen ++ T) v6 out ++ M, nv⟩
theorem pure2 (c : CurT) (a : V) (ha : a.pure = true := by rfl) : (mkres [.agg (cCur c), a]).pure = true := by
  have := p_cur c
  simp only [mkres, V.pure, pureL, this, ha]; rfl
set_option maxHeartbeats 4000000 in
theorem cGone (h : GoR P) (t : TreeT) (hs : smallT t) {ht rk : Int → Nat} (G : Gne t ht rk) (c : CurT) (hb1 : c.opn.length ≤ 2 ^ 16) (hb2 : c.rows.length < 2 ^ 32) (gone : List Int) (hg : gone.length < 2 ^ 40) :
  PCalls P n_cursor_Gone [.agg (cTree t), .agg (cCur c), vIs gone] (fun r => r = .tup [.agg (cCur (goneR t c gone).1), .int .i64 (goneR t c gone).2]) := by
 refine A_cursor_Gone h.gone ?_
 unfold F_cursor_Gone
 simp [st0]
 refine inv_p (cReady h.toOpR t hs c (by omega) (by omega)) rfl (by simp [pureL, V.pure, pureLL]) ?_
 rintro _ rfl
 cases hp : plantF t
 ·simp
  exact GhostV.cur0 ⟨by simp [mkres, V.pure, pureL, pureLL, noCur], by simp [mkres, goneR, hp]⟩
 cases hc : curOk c
 ·simp
  exact GhostV.cur0 ⟨by simp [mkres, V.pure, pureL, pureLL, noCur], by simp [mkres, goneR, hp, hc]⟩
 simp
 have hc128 : c.opn.length ≤ 128 := by
  simp only [curOk, Bool.and_eq_true, decide_eq_true_eq] at hc
  exact hc.1.1.2
 refine inv_f0 (CloI_D h.toStpR c.rows (by omega) (fun vr nvr => ?_))
 simp
 refine inv_f0 (CloS_D h.toStpR c.opn (by omega) (fun v5 nv5 => ?_))
 simp
 refine inv_f0 (sRev_D h c.opn (by omega) (by simp) (fun nv6 => ?_))
 have hsum0 : sumS t c.win gone c.opn ≤ 2 ^ 41 := by
  have := sum_le (f := sizeF t c.win gone 1000) (K := 2 ^ 33) (l := c.opn) (fun a _ => G.size_le 1000 a)
  have h2 : c.opn.length * 2 ^ 33 ≤ 128 * 2 ^ 33 := Nat.mul_le_mul_right _ hc128
  simp only [sumS]; omega
 refine ⟨GnI t c gone vr nvr, ⟨sumS t c.win gone c.opn, ?_⟩, ?_⟩
 ·simp
  refine GhostV.nilo (sz := 2) (j := 4) (verj := nvr) (s := 6) (c := 4) (z := 0) (row := [.int .i64 c.win.x0, .int .i64 c.win.x1, .int .i64 c.win.y0, .int .i64 c.win.y1, .sl .nil 0 [] [], .msl 3 vr 0 c.rows.length]) (by decide) rfl rfl ⟨[], c.opn.reverse, v5, nv6, nv6 + 1, [], (sumS_rev _ _ _ _).symm, hsum0, by simp, by simp, by simp [totF], by simp [GnL]⟩
 rintro k v10 st ⟨out, rest, v5', v6, nv, T, rfl, hk41, rfl, hol, htot, rfl⟩
 have hrl := sumS_len t c.win gone rest
 by_cases hr : rest = []
 ·subst hr
  simp
  have he : out = totF t c gone := by simpa using htot
  refine GhostV.curX (opn := out) (rows := c.rows) (T1 := []) (T2 := []) (i1 := 6) (i2 := 3) (v1 := v6) (v2 := vr) (win := c.win) (by simp) (by simp) (by decide) rfl rfl rfl ⟨pure2 _ _, ?_⟩
  have hl : (totF t c gone).length ≤ 128 := by rw [← he]; exact hol
  simp [mkres, goneR, hp, hc, hl, he]
 obtain ⟨r, s, rfl⟩ : ∃ r s, rest = r ++ [s] := ⟨rest.dropLast, rest.getLast hr, (List.dropLast_concat_getLast hr).symm⟩
 rw [List.length_append, List.length_singleton] at hrl
 have hw1 : IntKind.i64.wrap ((r.length : Int) + 1 - 1) = r.length := by rw [wrap_i64 (by omega)]; omega
 have hw2 : IntKind.i64.wrap (r.length : Int) = r.length := wrap_i64 (by omega)
 have hpos : (0 : Int) < (r.length : Int) + 1 := by omega
 have hss : sumS t c.win gone (r ++ [s]) = sumS t c.win gone r + sizeF t c.win gone 1000 s := by rw [sumS_app]; simp [sumS]
 rw [List.reverse_append, List.reverse_singleton, List.singleton_append, List.flatMap_cons] at htot
 simp [hw1, hw2, hpos]
 refine ⟨by omega, by omega, ?_⟩
 refine inv_p (sConU h gone s.id hg) rfl (by simp [pureL, V.pure, pureLL]) ?_
 rintro _ rfl
 by_cases hin : s.id ∈ gone
 rotate_left
 ·rw [still_not hin] at htot
  rw [size_not hin] at hss
  simp [hin]
  by_cases h128 : (128 : Int) < (out.length : Int) + 1
  ·simp [h128]
   refine ⟨by omega, GhostV.cur0 ⟨by simp [mkres, V.pure, pureL, pureLL, noCur], ?_⟩⟩
   have hl : ¬ (totF t c gone).length ≤ 128 := by rw [← htot]; simp; omega
   simp [mkres, goneR, hp, hc, hl]
  ·simp [h128]
   refine ⟨by omega, sumS t c.win gone r, by omega, GhostV.keep (L := [_, _, _, _, _, _, _]) (K := @app 1 (GnI _ _ _ _ _ _)) ⟨out ++ [s], r, v5', nv + 1 + 1, nv + 1 + 1 + 1, cSeen s :: T, rfl, by omega, rfl, by simp; omega, by rw [← htot]; simp, ?_⟩⟩
   simp [GnL]
 simp [hin]
 have hop : (opensF t s c.win true).length < 2 ^ 31 := opensF_len hs _ _ _
 refine inv_f0 (cOpens_D h t hs s c.win true (fun m ver nv2 M hM => ?_))
 have hml := (List.getElem?_eq_some_iff.1 hM).1
 simp
 rw [Nat.add_comm 8 m]
 refine inv_f0 (sRev_D h (opensF t s c.win true) (by omega) (by simpa using hM) (fun nv3 => ?_))
 obtain ⟨l, hl⟩ : ∃ l, l = (opensF t s c.win true).reverse := ⟨_, rfl⟩
 have hll : (opensF t s c.win true).length = l.length := by rw [hl]; simp
 rw [hll, ← hl]
 have hM3 : (M.set m (some (ver, .mem 2 (l.map cSeen))))[m]? = some (some (ver, .mem 2 (l.map cSeen))) := by rw [List.getElem?_set_self hml]
 have hM4 : (M.set m (some (ver, .mem 2 (l.map cSeen)))).length = M.length := by simp
 simp
 rw [Nat.add_comm 8 m]
 have hlm : l.length ≤ sizeF t c.win gone 1000 s := by
  have h1 := sumS_len t c.win gone (opensF t s c.win true)
  have h2 := G.size_step (win := c.win) hin
  rw [← hll]
  simp only [sumS] at h1; omega
 simp [hM3, hml]
 refine ⟨by omega, ?_⟩
 refine res_of (Q := GnQ t c vr nvr (r ++ l) v6 out) ?_ ?_
 ·by_cases hm1 : l.length ≤ T.length + 1
  ·rw [if_pos hm1]
   exact ⟨_, _, rfl, v5', nv3, List.drop (r.length + l.length) (r.map cSeen ++ cSeen s :: T), _, by simp, by simp [GnL]; rfl⟩
  ·rw [if_neg hm1]
   exact ⟨_, _, rfl, nv3, nv3 + 1, [], _, by simp, by simp [GnL]; rfl⟩
 rintro _ _ ⟨v7, nv7, T7, M7, rfl, rfl⟩
 simp
 have hsz := G.size_step (win := c.win) hin
 have hl2 : sumS t c.win gone (r ++ l) = sumS t c.win gone r + sumS t c.win gone (opensF t s c.win true) := by rw [sumS_app, hl, sumS_rev]
 have hsd : sumS t c.win gone (opensF t s c.win true) = ((opensF t s c.win true).map (sizeF t c.win gone 1000)).sum := rfl
 refine ⟨sumS t c.win gone (r ++ l), by omega, GhostV.keep (L := [_, _, _, _, _, _, _]) (K := @app 1 (GnI _ _ _ _ _ _)) ⟨out, r ++ l, v7, v6, nv7, T7, rfl, by omega, by simp, hol, ?_, by simp [GnL]⟩⟩
 rw [← htot, G.still_step hin, List.reverse_append, List.flatMap_append, hl, List.reverse_reverse]
end Go.Proofs.Ytmjnpfackanhlaa.AM

namespace Go.Proofs.Ytmjnpfackanhlaa.AM
open Go
set_option linter.unusedVariables false
set_option linter.unusedSimpArgs false
variable {P : Program}

theorem flat_take {α : Type} {f : α → List SeenT} {l : List α} {i : Nat} (h : i < l.length) : (l.take (i + 1)).flatMap f = (l.take i).flatMap f ++ f l[i] := by
 rw [take_snoc h, List.flatMap_append]; simp
theorem flat_take_len {α : Type} {f : α → List SeenT} {l : List α} (i : Nat) : ((l.take i).flatMap f).length ≤ (l.flatMap f).length := by
 have : l.flatMap f = (l.take i).flatMap f ++ (l.drop i).flatMap f := by rw [← List.flatMap_append, List.take_append_drop]
 rw [this, List.length_append]; omega
abbrev SlL (t : TreeT) (s : SeenT) (win : KeyT) (ver : Nat) (out : List SeenT) : List (Option (Nat × Obj)) := [some (0, .mem 3 [cTree t]), some (1, .mem 2 [cSeen s]), some (2, .mem 4 [cKey win]), some (ver, .mem 2 (out.map cSeen))]
def SlI (t : TreeT) (s : SeenT) (win : KeyT) (f : SeenT → List SeenT) (l : List SeenT) (k : Nat) (v w : V) (st : St) : Prop :=
 ∃ i ver nv, k = l.length - i ∧ i ≤ l.length ∧ v = .msl 3 ver 0 ((l.take i).flatMap f).length ∧ w = .int .i64 ((i : Nat) : Int) ∧ st = ⟨SlL t s win ver ((l.take i).flatMap f), nv⟩
def SlJ (t : TreeT) (s : SeenT) (win : KeyT) (out l : List SeenT) (k : Nat) (v w : V) (st : St) : Prop :=
 ∃ i ver nv, k = l.length - i ∧ i ≤ l.length ∧ v = .msl 3 ver 0 (out.length + i) ∧ w = .int .i64 ((i : Nat) : Int) ∧ st = ⟨SlL t s win ver (out ++ l.take i), nv⟩
set_option maxHeartbeats 2000000 in
theorem rStill (h : GoR P) (t : TreeT) (hs : smallT t) {ht rk : Int → Nat} (G : Gne t ht rk) (win : KeyT) (gone : List Int) (hg : gone.length < 2 ^ 40) : ∀ (n : Nat) (hn : n ≤ 1000) (s : SeenT),
    PCalls P n_gazetteerref13_still [.agg (cTree t), .agg (cSeen s), .agg (cKey win), vIs gone, .int .i64 (n : Int)] (fun r => r = vSs (stillF t win gone n s)) := by
  intro n
  induction n with
  | zero =>
    intro hn s
    refine A_gazetteerref13_still h.still13 ?_
    unfold F_gazetteerref13_still
    simp [st0]
    refine inv_p (rHas h gone s.id hg) rfl (by simp [pureL, V.pure, pureLL]) ?_
    rintro _ rfl
    by_cases hin : s.id ∈ gone
    · simp [hin]
      refine GhostV.le (LeVs.cons (.nil 0 2) LeVs.nil) ⟨by simp [mkres, V.pure, pureLL], by simp [mkres, stillF, hin]⟩
    · simp [hin]
      refine GhostV.rowx (sz := 2) (es := [cSeen s]) (by simp) (by simp) ⟨by simp [mkres, V.pure, pureL, pureLL], by simp [mkres, stillF, hin]⟩
  | succ n ih =>
    intro hn s
    have hih := ih (by omega)
    refine A_gazetteerref13_still h.still13 ?_
    unfold F_gazetteerref13_still
    simp [st0]
    refine inv_p (rHas h gone s.id hg) rfl (by simp [pureL, V.pure, pureLL]) ?_
    rintro _ rfl
    by_cases hin : s.id ∈ gone
    rotate_left
    · simp [hin]
      refine GhostV.rowx (sz := 2) (es := [cSeen s]) (by simp) (by simp) ⟨by simp [mkres, V.pure, pureL, pureLL], by simp [mkres, stillF, hin]⟩
    have hne : ¬ ((n : Int) + 1 = 0) := by omega
    have hw0 : IntKind.i64.wrap (n : Int) = n := wrap_i64 (by omega)
    simp [hin, hne]
    refine inv_p (rOpens h.toRcR t hs s win true) rfl (by simp [pureL, V.pure, pureLL]) ?_
    rintro _ rfl
    have hlen : ((opensF t s win true).flatMap (stillF t win gone n)).length ≤ 2 ^ 33 := by
      have h1 := still_size (t := t) (win := win) (gone := gone) (n + 1) s
      have h2 := G.size_le (win := win) (gone := gone) (n + 1) s
      rw [stillF, if_pos hin] at h1
      omega
    have hst : stillF t win gone (n + 1) s = (opensF t s win true).flatMap (stillF t win gone n) := by rw [stillF, if_pos hin]
    obtain ⟨l, hl⟩ : ∃ l, l = opensF t s win true := ⟨_, rfl⟩
    have hll : l.length < 2 ^ 31 := by rw [hl]; exact opensF_len hs _ _ _
    rw [← hl] at hlen hst ⊢
    refine ⟨SlI t s win (stillF t win gone n) l, ⟨l.length, GhostV.nilr 2 (by decide) ⟨0, 3, 4, by simp, by omega, by simp, by simp, by simp [SlL]⟩⟩, ?_⟩
    rintro k v w st ⟨i, ver, nv, rfl, hi, rfl, rfl, rfl⟩
    have hpl := flat_take_len (f := stillF t win gone n) (l := l) i
    obtain ⟨out, hout⟩ : ∃ out, out = (l.take i).flatMap (stillF t win gone n) := ⟨_, rfl⟩
    by_cases hlt : i < l.length
    · have hsn := flat_take (f := stillF t win gone n) hlt
      have hpl2 := flat_take_len (f := stillF t win gone n) (l := l) (i + 1)
      rw [hsn] at hpl2
      rw [← hout] at hsn hpl hpl2 ⊢
      simp [hlt, hw0]
      refine inv_p (hih l[i]) rfl (by simp [pureL, V.pure, pureLL]) ?_
      rintro _ rfl
      obtain ⟨l2, hl2⟩ : ∃ l2, l2 = stillF t win gone n l[i] := ⟨_, rfl⟩
      rw [← hl2] at hsn hpl2 ⊢
      rw [List.length_append] at hpl2
      refine ⟨SlJ t s win out l2, ⟨l2.length, GhostV.refl ⟨0, ver, nv, by simp, by omega, by simp, by simp, by simp [SlL]⟩⟩, ?_⟩
      rintro k2 v w st ⟨j, ver2, nv2, rfl, hj, rfl, rfl, rfl⟩
      by_cases hjl : j < l2.length
      · have hmn : min j l2.length = j := by omega
        simp [hjl, hmn]
        refine ⟨by omega, l2.length - (j + 1), by omega, GhostV.keep (L := [_, _, _, _]) (K := @app 2 (SlJ _ _ _ _ _ _)) ⟨j + 1, nv2 + 1, nv2 + 1 + 1, rfl, by omega, by simp; omega, by rw [wadd1 (by omega)], ?_⟩⟩
        simp only [SlL]
        simp
        rw [List.take_add_one]
        simp [hjl]
      · obtain rfl : j = l2.length := by omega
        simp
        refine ⟨l.length - (i + 1), by omega, GhostV.refl ⟨i + 1, ver2, nv2, rfl, by omega, ?_, by rw [wadd1 (by omega)], ?_⟩⟩
        · rw [hsn]; simp
        · rw [hsn]
    · rw [List.take_of_length_le (by omega)]
      obtain ⟨o2, ho2⟩ : ∃ o2, o2 = l.flatMap (stillF t win gone n) := ⟨_, rfl⟩
      rw [← ho2] at hst ⊢
      simp [hlt]
      refine GhostV.rowx (sz := 2) (es := o2.map cSeen) (by simp) (by simp) ?_
      rw [hst]
      exact ⟨by simp [mkres, V.pure, pureL, pureLL], by simp [mkres]⟩
abbrev RgL (t : TreeT) (c : CurT) (v1 : Nat) (out : List SeenT) : List (Option (Nat × Obj)) :=
 [some (0, .mem 3 [cTree t]), some (1, .mem 6 [cCur c]), some (2, .mem 6 [[.int .i64 0, .int .i64 0, .int .i64 0, .int .i64 0, .sl .nil 0 [] [], .sl .nil 0 [] []]]), some (3, .mem 6 [[.int .i64 c.win.x0, .int .i64 c.win.x1, .int .i64 c.win.y0, .int .i64 c.win.y1, .msl 4 v1 0 out.length, vIs c.rows]]), some (v1, .mem 2 (out.map cSeen))]
def RoneI (t : TreeT) (c : CurT) (f : SeenT → List SeenT) (k : Nat) (v : V) (st : St) : Prop :=
 ∃ i v1 nv, k = c.opn.length - i ∧ i ≤ c.opn.length ∧ v = .int .i64 ((i : Nat) : Int) ∧ st = ⟨RgL t c v1 ((c.opn.take i).flatMap f), nv⟩
def RoneJ (t : TreeT) (c : CurT) (out l : List SeenT) (k : Nat) (v : V) (st : St) : Prop :=
 ∃ i v1 nv, k = l.length - i ∧ i ≤ l.length ∧ v = .int .i64 ((i : Nat) : Int) ∧ st = ⟨RgL t c v1 (out ++ l.take i), nv⟩
set_option maxHeartbeats 2000000 in
theorem rGone (h : GoR P) (t : TreeT) (hs : smallT t) {ht rk : Int → Nat} (G : Gne t ht rk) (c : CurT) (hb1 : c.opn.length ≤ 300) (gone : List Int) (hg : gone.length < 2 ^ 40) :
    PCalls P n_gazetteerref13_Gone [.agg (cTree t), .agg (cCur c), vIs gone] (fun r => r = .tup [.agg (cCur ⟨c.win, totF t c gone, c.rows⟩), .bool (decide ((totF t c gone).length ≤ 128))]) := by
  refine A_gazetteerref13_Gone h.gone13 ?_
  unfold F_gazetteerref13_Gone
  simp [st0]
  have hlen : (c.opn.flatMap (stillF t c.win gone 1000)).length ≤ 2 ^ 42 := by
    rw [List.length_flatMap]
    have := sum_le (f := fun a => (stillF t c.win gone 1000 a).length) (K := 2 ^ 33) (l := c.opn) (fun a _ => by
      have h1 := still_size (t := t) (win := c.win) (gone := gone) 1000 a
      have h2 := G.size_le (win := c.win) (gone := gone) 1000 a
      omega)
    have h2 : c.opn.length * 2 ^ 33 ≤ 300 * 2 ^ 33 := Nat.mul_le_mul_right _ hb1
    omega
  have htot : totF t c gone = c.opn.flatMap (stillF t c.win gone 1000) := rfl
  refine ⟨RoneI t c (stillF t c.win gone 1000), ⟨c.opn.length, GhostV.nilo (sz := 2) (j := 3) (verj := 3) (s := 6) (c := 4) (z := 0) (row := [.int .i64 c.win.x0, .int .i64 c.win.x1, .int .i64 c.win.y0, .int .i64 c.win.y1, .sl .nil 0 [] [], vIs c.rows]) (by decide) rfl rfl ⟨0, 4, 5, by simp, by omega, by simp, by simp [RgL]⟩⟩, ?_⟩
  rintro k v st ⟨i, v1, nv, rfl, hi, rfl, rfl⟩
  have hpl := flat_take_len (f := stillF t c.win gone 1000) (l := c.opn) i
  obtain ⟨out, hout⟩ : ∃ out, out = (c.opn.take i).flatMap (stillF t c.win gone 1000) := ⟨_, rfl⟩
  by_cases hlt : i < c.opn.length
  · have hsn := flat_take (f := stillF t c.win gone 1000) hlt
    have hpl2 := flat_take_len (f := stillF t c.win gone 1000) (l := c.opn) (i + 1)
    rw [hsn] at hpl2
    rw [← hout] at hsn hpl hpl2 ⊢
    simp [hlt]
    refine inv_p (rStill h t hs G c.win gone hg 1000 (by omega) c.opn[i]) rfl (by simp [pureL, V.pure, pureLL]) ?_
    rintro _ rfl
    obtain ⟨l2, hl2⟩ : ∃ l2, l2 = stillF t c.win gone 1000 c.opn[i] := ⟨_, rfl⟩
    rw [← hl2] at hsn hpl2 ⊢
    rw [List.length_append] at hpl2
    refine ⟨RoneJ t c out l2, ⟨l2.length, GhostV.refl ⟨0, v1, nv, by simp, by omega, by simp, by simp [RgL]⟩⟩, ?_⟩
    rintro k2 v st ⟨j, ver2, nv2, rfl, hj, rfl, rfl⟩
    by_cases hjl : j < l2.length
    · have hmn : min j l2.length = j := by omega
      simp [hjl, hmn]
      refine ⟨by omega, l2.length - (j + 1), by omega, GhostV.keep (L := [_, _, _, _, _]) (K := @app 1 (RoneJ _ _ _ _ _)) ⟨j + 1, nv2 + 1, nv2 + 1 + 1, rfl, by omega, by rw [wadd1 (by omega)], ?_⟩⟩
      simp only [RgL]
      simp
      rw [List.take_add_one]
      simp [hjl]
      omega
    · obtain rfl : j = l2.length := by omega
      simp
      refine ⟨c.opn.length - (i + 1), by omega, GhostV.refl ⟨i + 1, ver2, nv2, rfl, by omega, by rw [wadd1 (by omega)], ?_⟩⟩
      rw [hsn]
  · have ht2 : c.opn.take i = c.opn := List.take_of_length_le (by omega)
    rw [ht2, ← htot] at hout
    rw [ht2, ← htot, ← hout]
    simp [hlt]
    refine GhostV.curN (opn := out) (rows := c.rows) (win := c.win) (T1 := []) (i1 := 4) (v1 := v1) (by simp) rfl ⟨pure2 _ _, ?_⟩
    have : decide ((out.length : Int) ≤ 128) = decide (out.length ≤ 128) := by rw [Bool.eq_iff_iff]; simp; omega
    simp [mkres, this]
end Go.Proofs.Ytmjnpfackanhlaa.AM

namespace Go.Proofs.Ytmjnpfackanhlaa.AM
open Go
set_option linter.unusedVariables false
set_option linter.unusedSimpArgs false
variable {P : Program}

structure LgR (P : Program) : Prop extends LwR P, GoR P
set_option maxHeartbeats 4000000 in
theorem lGoes (h : LgR P) (hl : R_gazetteerlaw13_CursorGoes P) (l : List MoveT) (hm : ∀ m ∈ l, 0 ≤ m.row ∧ m.row < 4294967296) (c : CurT) (h0 : ∀ r ∈ c.rows, 0 ≤ r) (gone : List Int) :
    PCalls P n_gazetteerlaw13_CursorGoes [vMs l, .agg (cCur c), vIs gone] (fun r => r = .bool true) := by
  refine A_gazetteerlaw13_CursorGoes hl ?_
  unfold F_gazetteerlaw13_CursorGoes
  simp [st0]
  refine inv_p (wWakes h.toLwR) rfl rfl ?_
  rintro _ rfl
  simp
  refine inv_p (wLarge h.toLwR c) rfl (by simp [pureL, V.pure, pureLL]) ?_
  rintro _ rfl
  cases hlg : (decide (300 < c.opn.length) || decide (300 < c.rows.length))
  rotate_left
  · simp
    exact GhostV.refl ⟨rfl, rfl⟩
  have hc1 : c.opn.length ≤ 300 ∧ c.rows.length ≤ 300 := by
    simp only [Bool.or_eq_false_iff, decide_eq_false_iff_not] at hlg
    omega
  by_cases hgl : (100 : Int) < gone.length
  · simp [hgl]
    exact GhostV.refl ⟨rfl, rfl⟩
  simp [hgl]
  have hg : gone.length < 2 ^ 40 := by omega
  refine inv_p (wGrown h.toLwR l hm) rfl (by simp [pureL, V.pure, p_moves]) ?_
  rintro _ ⟨t, hI, rfl⟩
  obtain ⟨ht, rk, G⟩ := hI.gne
  simp
  refine inv_p (wCopied h.toLwR c (by omega) (by omega)) rfl (by simp [pureL, V.pure, pureLL]) ?_
  rintro _ rfl
  simp
  refine ⟨by omega, ?_⟩
  refine inv_p (cGone h.toGoR t hI.small G c (by omega) (by omega) gone hg) rfl (by simp [pureL, V.pure, pureLL]) ?_
  rintro _ rfl
  simp
  refine inv_p (rRight h.toRcR c (by omega) (by omega) h0) rfl (by simp [pureL, V.pure, pureLL]) ?_
  rintro _ rfl
  have hgR : goneR t c gone = if curOk c = true then (if (totF t c gone).length ≤ 128 then (⟨c.win, totF t c gone, c.rows⟩, 0) else (noCur, 6)) else (noCur, 230) := by unfold goneR; rw [if_pos hI.plant]
  cases hok : curOk c
  · have hs1 : goneR t c gone = (noCur, 230) := by rw [hgR, hok]; rfl
    rw [hs1]
    simp
    refine inv_le (rSame h.toRcR noCur noCur (by decide) (by decide)) (LeVs.cons (.refl _) (LeVs.cons le_cur0 LeVs.nil)) (p_cur2 _ _) ?_
    rintro _ rfl
    simp
    exact GhostV.refl ⟨rfl, rfl⟩
  simp
  refine inv_p (rGone h.toGoR t hI.small G c (by omega) gone hg) rfl (by simp [pureL, V.pure, pureLL]) ?_
  rintro _ rfl
  by_cases h128 : (totF t c gone).length ≤ 128
  · have hs1 : goneR t c gone = (⟨c.win, totF t c gone, c.rows⟩, 0) := by rw [hgR, hok, if_pos rfl, if_pos h128]
    rw [hs1]
    simp [h128]
    refine inv_p (rSame h.toRcR ⟨c.win, totF t c gone, c.rows⟩ ⟨c.win, totF t c gone, c.rows⟩ (by simp only; omega) (by simp only; omega)) rfl (p_cur2 _ _) ?_
    rintro _ rfl
    simp
    exact GhostV.refl ⟨rfl, rfl⟩
  · have hs1 : goneR t c gone = (noCur, 6) := by rw [hgR, hok, if_pos rfl, if_neg h128]
    rw [hs1]
    simp [h128]
    refine inv_le (rSame h.toRcR noCur noCur (by decide) (by decide)) (LeVs.cons (.refl _) (LeVs.cons le_cur0 LeVs.nil)) (p_cur2 _ _) ?_
    rintro _ rfl
    simp
    exact GhostV.refl ⟨rfl, rfl⟩
end Go.Proofs.Ytmjnpfackanhlaa.AM
