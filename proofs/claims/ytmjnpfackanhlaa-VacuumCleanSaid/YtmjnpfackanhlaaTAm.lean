/- The tree and the cursor, walked, part 1. -/
import Derived.Test.YtmjnpfackanhlaaTCodeA
import Derived.Test.YtmjnpfackanhlaaAmG
import Derived.Test.YtmjnpfackanhlaaVTy
set_option maxRecDepth 60000
namespace Go.Proofs.Ytmjnpfackanhlaa.AM
open Go
set_option linter.unusedVariables false
set_option linter.unusedSimpArgs false

structure SN where
 id : Int
 leaf : Bool
 ch : List Int
 mark : Int
 right : Int

def SN.kids (x : SN) : List Int := if x.leaf then [] else x.ch
def SN.rows (x : SN) : List Int := if x.leaf then x.ch else []
def kidsS (ns : List SN) : List Int := ns.flatMap SN.kids
def rowsS (ns : List SN) : List Int := ns.flatMap SN.rows
def idsS (ns : List SN) : List Int := ns.map (·.id)
def updS (ns : List SN) (x : SN) : List SN := ns.map (fun z => if z.id = x.id then x else z)
def remS (ns : List SN) (z : SN) : List SN := (ns.filter (fun w => w.id != z.id)).map (fun w => if w.right = z.id then { w with right := z.right } else w)

structure Shp (ns : List SN) (R : List Int) (h rk : Int → Nat) : Prop where
 srt : (idsS ns).Pairwise (· < ·)
 pos : ∀ x ∈ ns, 0 < x.id ∧ x.id < 4294967296
 kid : ∀ a, R.count a + (kidsS ns).count a = (idsS ns).count a
 lf : ∀ x ∈ ns, x.leaf = true → h x.id = 0
 inn : ∀ x ∈ ns, ∀ c ∈ x.kids, h x.id = h c + 1
 rgt : ∀ x ∈ ns, x.right ≠ 0 → x.right ∈ idsS ns ∧ h x.right = h x.id ∧ rk x.right < rk x.id

variable {ns : List SN} {R R' : List Int} {h rk : Int → Nat}

theorem Shp.nodup (H : Shp ns R h rk) : (idsS ns).Nodup := by
 rw [List.nodup_iff_pairwise_ne]
 exact H.srt.imp (fun h => by omega)
theorem mem_ids {x : SN} (hx : x ∈ ns) : x.id ∈ idsS ns := List.mem_map.2 ⟨x, hx, rfl⟩
theorem of_ids {a : Int} (ha : a ∈ idsS ns) : ∃ x ∈ ns, x.id = a := by
 obtain ⟨x, hx, e⟩ := List.mem_map.1 ha
 exact ⟨x, hx, e⟩
theorem inj_of_nodup : ∀ {ns : List SN}, (idsS ns).Nodup → ∀ {x y : SN}, x ∈ ns → y ∈ ns → x.id = y.id → x = y
 | [], _, _, _, hx, _, _ => by simp at hx
 | z :: ns, hn, x, y, hx, hy, e => by
  simp only [idsS, List.map_cons, List.nodup_cons] at hn
  rcases List.mem_cons.1 hx with e1 | h1
  ·rcases List.mem_cons.1 hy with e2 | h2
   ·rw [e1, e2]
   ·exact absurd (by rw [← e1, e]; exact mem_ids h2) hn.1
  ·rcases List.mem_cons.1 hy with e2 | h2
   ·exact absurd (by rw [← e2, ← e]; exact mem_ids h1) hn.1
   ·exact inj_of_nodup hn.2 h1 h2 e
theorem Shp.inj (H : Shp ns R h rk) {x y : SN} (hx : x ∈ ns) (hy : y ∈ ns) (e : x.id = y.id) : x = y := inj_of_nodup H.nodup hx hy e
theorem mem_kids {x : SN} (hx : x ∈ ns) {c : Int} (hc : c ∈ x.kids) : c ∈ kidsS ns := List.mem_flatMap.2 ⟨x, hx, hc⟩
theorem Shp.kid_mem (H : Shp ns R h rk) {c : Int} (hc : c ∈ kidsS ns) : c ∈ idsS ns := by
 have h1 := H.kid c
 have h2 := List.count_pos_iff.2 hc
 exact List.count_pos_iff.1 (by omega)
theorem Shp.root_mem (H : Shp ns R h rk) {c : Int} (hc : c ∈ R) : c ∈ idsS ns := by
 have h1 := H.kid c
 have h2 := List.count_pos_iff.2 hc
 exact List.count_pos_iff.1 (by omega)
theorem Shp.cnt (H : Shp ns R h rk) (c : Int) : (idsS ns).count c ≤ 1 := List.nodup_iff_count.1 H.nodup c
theorem Shp.root_kid (H : Shp ns R h rk) {c : Int} (hc : c ∈ R) : ¬ c ∈ kidsS ns := fun hk => by
 have h1 := H.kid c
 have h2 := List.count_pos_iff.2 hc
 have h3 := List.count_pos_iff.2 hk
 have := H.cnt c
 omega
theorem Shp.root_or (H : Shp ns R h rk) {c : Int} (hc : c ∈ idsS ns) : c ∈ R ∨ c ∈ kidsS ns := by
 have h1 := H.kid c
 have h2 := List.count_pos_iff.2 hc
 rcases Nat.eq_zero_or_pos (R.count c) with e | e
 ·exact .inr (List.count_pos_iff.1 (by omega))
 ·exact .inl (List.count_pos_iff.1 e)

theorem updS_ids {x : SN} : idsS (updS ns x) = idsS ns := by
 unfold idsS updS
 rw [List.map_map]
 refine List.map_congr_left (fun z hz => ?_)
 simp only [Function.comp]
 split
 ·rename_i e; exact e.symm
 ·rfl
theorem mem_updS {x z : SN} (hz : z ∈ updS ns x) : z = x ∨ (z ∈ ns ∧ z.id ≠ x.id) := by
 obtain ⟨w, hw, e⟩ := List.mem_map.1 hz
 split at e
 ·exact .inl e.symm
 ·exact .inr (by subst e; exact ⟨hw, by assumption⟩)
theorem updS_split {x x' : SN} (hn : (idsS ns).Nodup) (hx : x ∈ ns) (hid : x'.id = x.id) : ∃ A B, ns = A ++ x :: B ∧ updS ns x' = A ++ x' :: B := by
 obtain ⟨A, B, rfl⟩ := List.append_of_mem hx
 refine ⟨A, B, rfl, ?_⟩
 simp only [idsS, List.map_append, List.map_cons] at hn
 rw [List.nodup_append] at hn
 obtain ⟨h1, h2, h3⟩ := hn
 rw [List.nodup_cons] at h2
 simp only [updS, List.map_append, List.map_cons, hid, if_true]
 congr 1
 ·conv => rhs; rw [← List.map_id A]
  refine List.map_congr_left (fun z hz => ?_)
  have : z.id ≠ x.id := h3 _ (List.mem_map.2 ⟨z, hz, rfl⟩) _ (by simp)
  simp [this]
 ·congr 1
  conv => rhs; rw [← List.map_id B]
  refine List.map_congr_left (fun z hz => ?_)
  have : z.id ≠ x.id := fun e => h2.1 (by rw [← e]; exact List.mem_map.2 ⟨z, hz, rfl⟩)
  simp [this]
theorem updS_kids {x x' : SN} (hn : (idsS ns).Nodup) (hx : x ∈ ns) (hid : x'.id = x.id) (a : Int) :
  (kidsS (updS ns x')).count a + x.kids.count a = (kidsS ns).count a + x'.kids.count a := by
 obtain ⟨A, B, e1, e2⟩ := updS_split hn hx hid
 rw [e2, e1]
 simp only [kidsS, List.flatMap_append, List.flatMap_cons, List.count_append]
 omega
theorem updS_rows {x x' : SN} (hn : (idsS ns).Nodup) (hx : x ∈ ns) (hid : x'.id = x.id) (a : Int) :
  (rowsS (updS ns x')).count a + x.rows.count a = (rowsS ns).count a + x'.rows.count a := by
 obtain ⟨A, B, e1, e2⟩ := updS_split hn hx hid
 rw [e2, e1]
 simp only [rowsS, List.flatMap_append, List.flatMap_cons, List.count_append]
 omega

theorem Shp.kidsd (H : Shp ns R h rk) {p p' : SN} (hp : p ∈ ns) (hid : p'.id = p.id) (hlf : p'.leaf = p.leaf) (hr : p'.right = p.right)
  (hk : ∀ a, R'.count a + p'.kids.count a = R.count a + p.kids.count a) (hin : ∀ c ∈ p'.kids, h p.id = h c + 1) : Shp (updS ns p') R' h rk := by
 refine ⟨by rw [updS_ids]; exact H.srt, fun x hx => ?_, fun a => ?_, fun x hx hl => ?_, fun x hx c hc => ?_, fun x hx hr' => ?_⟩
 ·rcases mem_updS hx with rfl | ⟨hx, _⟩
  ·rw [hid]; exact H.pos p hp
  ·exact H.pos x hx
 ·rw [updS_ids]
  have h1 := H.kid a
  have h2 := updS_kids H.nodup hp hid a
  have h3 := hk a
  omega
 ·rcases mem_updS hx with rfl | ⟨hx, _⟩
  ·rw [hid]; exact H.lf p hp (by rw [← hlf]; exact hl)
  ·exact H.lf x hx hl
 ·rcases mem_updS hx with rfl | ⟨hx, _⟩
  ·rw [hid]; exact hin c hc
  ·exact H.inn x hx c hc
 ·rw [updS_ids]
  rcases mem_updS hx with rfl | ⟨hx, _⟩
  ·rw [hr] at hr' ⊢; rw [hid]; exact H.rgt p hp hr'
  ·exact H.rgt x hx hr'

theorem Shp.split (H : Shp ns R h rk) {x x' y : SN} (hx : x ∈ ns) (hy : ∀ z ∈ ns, z.id < y.id) (hy2 : y.id < 4294967296) (hid : x'.id = x.id) (hlf : x'.leaf = x.leaf) (hylf : y.leaf = x.leaf)
  (hr : x'.right = y.id) (hyr : y.right = x.right) (hk : ∀ a, x'.kids.count a + y.kids.count a = x.kids.count a) :
  Shp (updS ns x' ++ [y]) (y.id :: R) (fun z => if z = y.id then h x.id else h z) (fun z => if z = y.id then 2 * rk x.id else 2 * rk z + 1) := by
 have hxn : ∀ z, z ∈ idsS ns → z ≠ y.id := fun z hz e => by
  obtain ⟨w, hw, e2⟩ := of_ids hz
  have := hy w hw
  omega
 have hids : idsS (updS ns x' ++ [y]) = idsS ns ++ [y.id] := by simp only [idsS, List.map_append]; rw [show (updS ns x').map (·.id) = _ from updS_ids]; rfl
 have hkm : ∀ c, c ∈ x'.kids ∨ c ∈ y.kids → c ∈ x.kids := fun c hc => by
  have := hk c
  refine List.count_pos_iff.1 ?_
  rcases hc with hc | hc
  ·have := List.count_pos_iff.2 hc; omega
  ·have := List.count_pos_iff.2 hc; omega
 have hxy : x.id ≠ y.id := hxn _ (mem_ids hx)
 have hmem : ∀ z, z ∈ updS ns x' ++ [y] → z = y ∨ z = x' ∨ (z ∈ ns ∧ z.id ≠ x'.id) := fun z hz => by
  rcases List.mem_append.1 hz with hz | hz
  ·exact .inr (mem_updS hz)
  ·exact .inl (by simpa using hz)
 refine ⟨?_, fun z hz => ?_, fun a => ?_, fun z hz hl => ?_, fun z hz c hc => ?_, fun z hz hr' => ?_⟩
 ·rw [hids, List.pairwise_append]
  refine ⟨H.srt, by simp, fun a ha b hb => ?_⟩
  obtain ⟨w, hw, rfl⟩ := of_ids ha
  rw [List.mem_singleton.1 hb]
  exact hy w hw
 ·rcases hmem z hz with rfl | rfl | ⟨hz, _⟩
  ·have := hy x hx; have := (H.pos x hx).1; exact ⟨by omega, hy2⟩
  ·rw [hid]; exact H.pos x hx
  ·exact H.pos z hz
 ·rw [hids]
  have h1 := H.kid a
  have h2 := updS_kids H.nodup hx hid a
  have h3 := hk a
  have e : kidsS (updS ns x' ++ [y]) = kidsS (updS ns x') ++ y.kids := by simp [kidsS]
  rw [e, List.count_append, List.count_append, List.count_cons, List.count_singleton]
  omega
 ·rcases hmem z hz with rfl | rfl | ⟨hz, _⟩
  ·simp only [if_true]; exact H.lf x hx (by rw [← hylf]; exact hl)
  ·rw [hid, if_neg hxy]; exact H.lf x hx (by rw [← hlf]; exact hl)
  ·rw [if_neg (hxn _ (mem_ids hz))]; exact H.lf z hz hl
 ·rcases hmem z hz with rfl | rfl | ⟨hz, _⟩
  ·have hc' := hkm c (.inr hc)
   rw [if_pos rfl, if_neg (hxn _ (H.kid_mem (mem_kids hx hc')))]; exact H.inn x hx c hc'
  ·have hc' := hkm c (.inl hc)
   rw [hid, if_neg hxy, if_neg (hxn _ (H.kid_mem (mem_kids hx hc')))]; exact H.inn x hx c hc'
  ·rw [if_neg (hxn _ (mem_ids hz)), if_neg (hxn _ (H.kid_mem (mem_kids hz hc)))]; exact H.inn z hz c hc
 ·rw [hids]
  rcases hmem z hz with rfl | rfl | ⟨hz, _⟩
  ·rw [hyr] at hr' ⊢
   obtain ⟨h1, h2, h3⟩ := H.rgt x hx hr'
   have := hxn _ h1
   refine ⟨List.mem_append_left _ h1, ?_, ?_⟩
   ·rw [if_neg this, if_pos rfl]; exact h2
   ·rw [if_neg this, if_pos rfl]; omega
  ·rw [hr] at hr' ⊢
   refine ⟨by simp, ?_, ?_⟩
   ·rw [if_pos rfl, hid, if_neg hxy]
   ·rw [if_pos rfl, hid, if_neg hxy]; omega
  ·obtain ⟨h1, h2, h3⟩ := H.rgt z hz hr'
   have h4 := hxn _ h1
   have h5 := hxn _ (mem_ids hz)
   refine ⟨List.mem_append_left _ h1, ?_, ?_⟩
   ·rw [if_neg h4, if_neg h5]; exact h2
   ·rw [if_neg h4, if_neg h5]; omega

theorem Shp.top (H : Shp ns R h rk) {r : SN} (hr : ∀ z ∈ ns, z.id < r.id) (hr2 : r.id < 4294967296) (hr1 : 0 < r.id) (hlf : r.leaf = false) (hrr : r.right = 0) (hk : ∀ a, r.ch.count a = R.count a) {m : Nat} (hm : ∀ c ∈ R, h c = m) :
  Shp (ns ++ [r]) [r.id] (fun z => if z = r.id then m + 1 else h z) rk := by
 have hxn : ∀ z, z ∈ idsS ns → z ≠ r.id := fun z hz e => by
  obtain ⟨w, hw, e2⟩ := of_ids hz
  have := hr w hw
  omega
 have hrk : r.kids = r.ch := by simp [SN.kids, hlf]
 have hids : idsS (ns ++ [r]) = idsS ns ++ [r.id] := by simp [idsS]
 have hmem : ∀ z, z ∈ ns ++ [r] → z = r ∨ z ∈ ns := fun z hz => by
  rcases List.mem_append.1 hz with hz | hz
  ·exact .inr hz
  ·exact .inl (by simpa using hz)
 have hkR : ∀ c ∈ r.kids, c ∈ R := fun c hc => List.count_pos_iff.1 (by rw [← hk c, ← hrk]; exact List.count_pos_iff.2 hc)
 refine ⟨?_, fun z hz => ?_, fun a => ?_, fun z hz hl => ?_, fun z hz c hc => ?_, fun z hz hr' => ?_⟩
 ·rw [hids, List.pairwise_append]
  refine ⟨H.srt, by simp, fun a ha b hb => ?_⟩
  obtain ⟨w, hw, rfl⟩ := of_ids ha
  rw [List.mem_singleton.1 hb]
  exact hr w hw
 ·rcases hmem z hz with rfl | hz
  ·exact ⟨hr1, hr2⟩
  ·exact H.pos z hz
 ·rw [hids]
  have h1 := H.kid a
  have e : kidsS (ns ++ [r]) = kidsS ns ++ r.ch := by simp [kidsS, hrk]
  rw [e, List.count_append, List.count_append, hk a]
  omega
 ·rcases hmem z hz with rfl | hz
  ·rw [hlf] at hl; cases hl
  ·rw [if_neg (hxn _ (mem_ids hz))]; exact H.lf z hz hl
 ·rcases hmem z hz with rfl | hz
  ·have := hkR c hc
   rw [if_pos rfl, if_neg (hxn _ (H.root_mem this)), hm c this]
  ·rw [if_neg (hxn _ (mem_ids hz)), if_neg (hxn _ (H.kid_mem (mem_kids hz hc)))]; exact H.inn z hz c hc
 ·rw [hids]
  rcases hmem z hz with rfl | hz
  ·exact absurd hrr hr'
  ·obtain ⟨h1, h2, h3⟩ := H.rgt z hz hr'
   exact ⟨List.mem_append_left _ h1, by rw [if_neg (hxn _ h1), if_neg (hxn _ (mem_ids hz))]; exact h2, h3⟩

theorem Shp.rem (H : Shp ns R h rk) {z : SN} (hz : z ∈ ns) (hk0 : z.kids = []) (hR : ∀ a, R.count a = R'.count a + if z.id = a then 1 else 0) : Shp (remS ns z) R' h rk := by
  have hmem : ∀ w, w ∈ remS ns z → ∃ v ∈ ns, v.id ≠ z.id ∧ w.id = v.id ∧ w.leaf = v.leaf ∧ w.kids = v.kids ∧ ((v.right = z.id ∧ w.right = z.right) ∨ (v.right ≠ z.id ∧ w.right = v.right)) := fun w hw => by
    obtain ⟨v, hv, e⟩ := List.mem_map.1 hw
    rw [List.mem_filter] at hv
    refine ⟨v, hv.1, by simpa using hv.2, ?_⟩
    split at e
    · subst e; exact ⟨rfl, rfl, rfl, .inl ⟨by assumption, rfl⟩⟩
    · subst e; exact ⟨rfl, rfl, rfl, .inr ⟨by assumption, rfl⟩⟩
  obtain ⟨A, B, rfl⟩ := List.append_of_mem hz
  have hn := H.nodup
  simp only [idsS, List.map_append, List.map_cons] at hn
  rw [List.nodup_append] at hn
  obtain ⟨n1, n2, n3⟩ := hn
  rw [List.nodup_cons] at n2
  have hA : A.filter (fun w => w.id != z.id) = A := List.filter_eq_self.2 (fun w hw => by
    have := n3 _ (List.mem_map.2 ⟨w, hw, rfl⟩) z.id (by simp)
    simpa using this)
  have hB : B.filter (fun w => w.id != z.id) = B := List.filter_eq_self.2 (fun w hw => by
    have : w.id ≠ z.id := fun e => n2.1 (by rw [← e]; exact List.mem_map.2 ⟨w, hw, rfl⟩)
    simpa using this)
  have hf : (A ++ z :: B).filter (fun w => w.id != z.id) = A ++ B := by simp [List.filter_append, hA, hB]
  have hids : idsS (remS (A ++ z :: B) z) = idsS (A ++ B) := by
    unfold remS idsS
    rw [hf, List.map_map]
    refine List.map_congr_left (fun w hw => ?_)
    simp only [Function.comp]; split <;> rfl
  have hkids : kidsS (remS (A ++ z :: B) z) = kidsS (A ++ B) := by
    unfold remS kidsS
    rw [hf, List.flatMap_map]
    congr 1
    funext w
    split <;> rfl
  have hidz : ∀ a, (idsS (A ++ z :: B)).count a = (idsS (A ++ B)).count a + if z.id = a then 1 else 0 := fun a => by
    simp only [idsS, List.map_append, List.map_cons, List.count_append, List.count_cons, beq_iff_eq]; omega
  have hkz : kidsS (A ++ z :: B) = kidsS (A ++ B) := by simp [kidsS, hk0]
  have hin : ∀ a, a ∈ idsS (A ++ z :: B) → a ≠ z.id → a ∈ idsS (A ++ B) := fun a ha hne => by
    have h1 := hidz a
    rw [if_neg (fun e => hne e.symm)] at h1
    exact List.count_pos_iff.1 (by have := List.count_pos_iff.2 ha; omega)
  refine ⟨?_, fun w hw => ?_, fun a => ?_, fun w hw hl => ?_, fun w hw c hc => ?_, fun w hw hr' => ?_⟩
  · rw [hids]
    have := H.srt
    refine List.Pairwise.sublist ?_ this
    exact List.Sublist.map _ (List.Sublist.append_left (List.sublist_cons_self _ _) _)
  · obtain ⟨v, hv, h1, h2, h3, h4, h5⟩ := hmem w hw
    rw [h2]; exact H.pos v hv
  · have h1 := H.kid a
    have h2 := hidz a
    have h3 := hR a
    rw [hids, hkids, ← hkz]
    omega
  · obtain ⟨v, hv, h1, h2, h3, h4, h5⟩ := hmem w hw
    rw [h2]; exact H.lf v hv (by rw [← h3]; exact hl)
  · obtain ⟨v, hv, h1, h2, h3, h4, h5⟩ := hmem w hw
    rw [h2]; exact H.inn v hv c (by rw [← h4]; exact hc)
  · obtain ⟨v, hv, h1, h2, h3, h4, h5⟩ := hmem w hw
    rw [hids, h2]
    rcases h5 with ⟨h5, h6⟩ | ⟨h5, h6⟩
    · obtain ⟨k1, k2, k3⟩ := H.rgt v hv (by rw [h5]; have := (H.pos z hz).1; omega)
      rw [h6] at hr' ⊢
      obtain ⟨m1, m2, m3⟩ := H.rgt z hz hr'
      rw [h5] at k2 k3
      refine ⟨hin _ m1 (fun e => ?_), by omega, by omega⟩
      rw [e] at m3; omega
    · rw [h6] at hr' ⊢
      obtain ⟨k1, k2, k3⟩ := H.rgt v hv hr'
      exact ⟨hin _ k1 h5, k2, k3⟩
end Go.Proofs.Ytmjnpfackanhlaa.AM

namespace Go.Proofs.Ytmjnpfackanhlaa.AM
open Go
set_option linter.unusedVariables false
set_option linter.unusedSimpArgs false

def boxK (k : KeyT) : Bool := decide (k.x0 ≤ k.x1) && decide (k.y0 ≤ k.y1)
def unionK (a b : KeyT) : KeyT := if boxK a && boxK b then ⟨min a.x0 b.x0, max a.x1 b.x1, min a.y0 b.y0, max a.y1 b.y1⟩ else ⟨0, 0, 0, 0⟩

structure LinkT where
 key : KeyT
 child : Int
 deriving DecidableEq
structure NodeT where
 id : Int
 leaf : Bool
 es : List LinkT
 mark : Int
 right : Int
structure TreeT where
 nodes : List NodeT
 root : Int
 count : Int
def NodeT.sh (x : NodeT) : SN := ⟨x.id, x.leaf, x.es.map (·.child), x.mark, x.right⟩
def shs (ns : List NodeT) : List SN := ns.map NodeT.sh
def idsN (ns : List NodeT) : List Int := ns.map (·.id)
@[simp] theorem idsS_shs (ns : List NodeT) : idsS (shs ns) = idsN ns := by simp [idsS, shs, idsN, List.map_map, Function.comp_def, NodeT.sh]
@[simp] theorem NodeT.sh_id (x : NodeT) : x.sh.id = x.id := rfl
@[simp] theorem NodeT.sh_leaf (x : NodeT) : x.sh.leaf = x.leaf := rfl
@[simp] theorem NodeT.sh_right (x : NodeT) : x.sh.right = x.right := rfl
@[simp] theorem NodeT.sh_mark (x : NodeT) : x.sh.mark = x.mark := rfl
@[simp] theorem NodeT.sh_ch (x : NodeT) : x.sh.ch = x.es.map (·.child) := rfl
theorem mem_shs {ns : List NodeT} {x : NodeT} (hx : x ∈ ns) : x.sh ∈ shs ns := List.mem_map.2 ⟨x, hx, rfl⟩
theorem of_shs {ns : List NodeT} {y : SN} (hy : y ∈ shs ns) : ∃ x ∈ ns, x.sh = y := by
 obtain ⟨x, hx, e⟩ := List.mem_map.1 hy
 exact ⟨x, hx, e⟩
def updN (ns : List NodeT) (x : NodeT) : List NodeT := ns.map (fun z => if z.id = x.id then x else z)
theorem shs_updN (ns : List NodeT) (x : NodeT) : shs (updN ns x) = updS (shs ns) x.sh := by
 simp only [shs, updN, updS, List.map_map]
 refine List.map_congr_left (fun z hz => ?_)
 show NodeT.sh (if z.id = x.id then x else z) = if z.sh.id = x.sh.id then x.sh else z.sh
 by_cases e : z.id = x.id
 ·rw [if_pos e, if_pos (show z.sh.id = x.sh.id from e)]
 ·rw [if_neg e, if_neg (show ¬ z.sh.id = x.sh.id from e)]
theorem idsN_updN (ns : List NodeT) (x : NodeT) : idsN (updN ns x) = idsN ns := by
 unfold idsN updN
 rw [List.map_map]
 refine List.map_congr_left (fun z hz => ?_)
 simp only [Function.comp]
 split
 ·rename_i e; exact e.symm
 ·rfl
theorem mem_updN {ns : List NodeT} {x z : NodeT} (hz : z ∈ updN ns x) : z = x ∨ (z ∈ ns ∧ z.id ≠ x.id) := by
 obtain ⟨w, hw, e⟩ := List.mem_map.1 hz
 split at e
 ·exact .inl e.symm
 ·exact .inr (by subst e; exact ⟨hw, by assumption⟩)
theorem updN_mem {ns : List NodeT} {x z : NodeT} (hx : x ∈ ns) : x.id = z.id → z ∈ updN ns z := fun e => List.mem_map.2 ⟨x, hx, by rw [if_pos e]⟩
theorem updN_old {ns : List NodeT} {x z : NodeT} (hx : x ∈ ns) (h : x.id ≠ z.id) : x ∈ updN ns z := List.mem_map.2 ⟨x, hx, by rw [if_neg h]⟩
def findN (ns : List NodeT) (id : Int) : Option NodeT := ns.find? (fun x => decide (x.id = id))
theorem findN_some {ns : List NodeT} {id : Int} {x : NodeT} (h : findN ns id = some x) : x ∈ ns ∧ x.id = id := by
 have h1 := List.find?_some h
 exact ⟨List.mem_of_find?_eq_some h, by simpa using h1⟩
theorem findN_none {ns : List NodeT} {id : Int} (h : findN ns id = none) : ¬ id ∈ idsN ns := fun hm => by
 obtain ⟨x, hx, e⟩ := List.mem_map.1 hm
 have := List.find?_eq_none.1 h x hx
 simp [e] at this
theorem findN_mem {ns : List NodeT} (hn : (idsN ns).Nodup) {x : NodeT} (hx : x ∈ ns) : findN ns x.id = some x := by
 cases h : findN ns x.id with
 | none => exact absurd (List.mem_map.2 ⟨x, hx, rfl⟩) (findN_none h)
 | some y =>
  obtain ⟨h1, h2⟩ := findN_some h
  congr 1
  have : ∀ (l : List NodeT), (l.map (·.id)).Nodup → ∀ {a b : NodeT}, a ∈ l → b ∈ l → a.id = b.id → a = b := by
   intro l
   induction l with
   | nil => intro _ a b ha; simp at ha
   | cons c l ih =>
    intro hl a b ha hb e
    simp only [List.map_cons, List.nodup_cons] at hl
    rcases List.mem_cons.1 ha with e1 | h1
    ·rcases List.mem_cons.1 hb with e2 | h2
     ·rw [e1, e2]
     ·exact absurd (List.mem_map.2 ⟨b, h2, by rw [← e, e1]⟩) hl.1
    ·rcases List.mem_cons.1 hb with e2 | h2
     ·exact absurd (List.mem_map.2 ⟨a, h1, by rw [e, e2]⟩) hl.1
     ·exact ih hl.2 h1 h2 e
  exact this ns hn h1 hx h2
theorem findN_ids {ns : List NodeT} {id : Int} (h : id ∈ idsN ns) : ∃ x, findN ns id = some x := by
 cases e : findN ns id with
 | none => exact absurd h (findN_none e)
 | some x => exact ⟨x, rfl⟩
theorem findN_updN {ns : List NodeT} {x : NodeT} {id : Int} (h : id ≠ x.id) : findN (updN ns x) id = findN ns id := by
 unfold findN updN
 induction ns with
 | nil => rfl
 | cons z ns ih =>
  simp only [List.map_cons, List.find?_cons]
  by_cases e : z.id = x.id
  ·rw [if_pos e]
   have h1 : ¬ x.id = id := fun e2 => h e2.symm
   have h2 : ¬ z.id = id := fun e2 => h1 (by rw [← e, e2])
   simp only [h1, h2, decide_false]
   exact ih
  ·rw [if_neg e]
   cases decide (z.id = id) with
   | true => rfl
   | false => exact ih
theorem updN_self {ns : List NodeT} (hn : (idsN ns).Nodup) {x : NodeT} (hx : x ∈ ns) : updN ns x = ns := by
 unfold updN
 conv => rhs; rw [← List.map_id ns]
 refine List.map_congr_left (fun z hz => ?_)
 split
 ·rename_i e
  have h1 := findN_mem hn hx
  have h2 := findN_mem hn hz
  rw [e, h1] at h2
  exact Option.some.inj h2
 ·rfl

/-! ### keys from below -/
def boundK : List LinkT → KeyT
 | [] => ⟨0, 0, 0, 0⟩
 | e :: l => l.foldl (fun k e => unionK k e.key) e.key
def keyE (ns : List NodeT) (e : LinkT) : LinkT := match findN ns e.child with
 | some c => if c.es = [] then e else { e with key := boundK c.es }
 | none => e
def keyN (ns : List NodeT) (x : NodeT) : NodeT := if x.leaf then x else { x with es := x.es.map (keyE ns) }
@[simp] theorem keyE_child (ns : List NodeT) (e : LinkT) : (keyE ns e).child = e.child := by
 unfold keyE
 split
 ·split <;> rfl
 ·rfl
@[simp] theorem keyN_sh (ns : List NodeT) (x : NodeT) : (keyN ns x).sh = x.sh := by
 unfold keyN
 split
 ·rfl
 ·simp [NodeT.sh, List.map_map, Function.comp_def]
@[simp] theorem keyN_id (ns : List NodeT) (x : NodeT) : (keyN ns x).id = x.id := by
 unfold keyN; split <;> rfl
@[simp] theorem keyN_leaf (ns : List NodeT) (x : NodeT) : (keyN ns x).leaf = x.leaf := by
 unfold keyN; split <;> rfl
def keyS (ns : List NodeT) (id : Int) : List NodeT := match findN ns id with
 | some x => updN ns (keyN ns x)
 | none => ns
@[irreducible] def passN (ns : List NodeT) : List NodeT := (idsN ns).foldl keyS ns
def passes : Nat → List NodeT → List NodeT
 | 0, ns => ns
 | n + 1, ns => passes n (passN ns)

theorem shs_keyS (ns : List NodeT) (id : Int) : (idsN ns).Nodup → shs (keyS ns id) = shs ns := fun hn => by
 unfold keyS
 cases h : findN ns id with
 | none => rfl
 | some x =>
  dsimp only
  rw [shs_updN, keyN_sh, ← shs_updN, updN_self hn (findN_some h).1]
theorem keyS_ids (ns : List NodeT) (id : Int) : idsN (keyS ns id) = idsN ns := by
 unfold keyS
 cases h : findN ns id with
 | none => rfl
 | some x => exact idsN_updN _ _
theorem shs_keyL : ∀ (l : List Int) (ns : List NodeT), (idsN ns).Nodup → shs (l.foldl keyS ns) = shs ns
 | [], ns, _ => rfl
 | id :: l, ns, hn => by
  rw [List.foldl_cons, shs_keyL l _ (by rw [keyS_ids]; exact hn), shs_keyS ns id hn]
theorem keyL_ids : ∀ (l : List Int) (ns : List NodeT), idsN (l.foldl keyS ns) = idsN ns
 | [], ns => rfl
 | id :: l, ns => by rw [List.foldl_cons, keyL_ids l, keyS_ids]
theorem shs_passN (ns : List NodeT) (hn : (idsN ns).Nodup) : shs (passN ns) = shs ns := by
 unfold passN; exact shs_keyL _ _ hn
theorem shs_passes : ∀ (n : Nat) (ns : List NodeT), (idsN ns).Nodup → shs (passes n ns) = shs ns
 | 0, ns, _ => rfl
 | n + 1, ns, hn => by
  rw [passes, shs_passes n _ (by unfold passN; rw [keyL_ids]; exact hn), shs_passN ns hn]

def KO (h : Int → Nat) (ns : List NodeT) (m : Nat) (D : List Int) : Prop := ∀ x ∈ ns, h x.id ≤ m ∨ (h x.id = m + 1 ∧ x.id ∈ D) → keyN ns x = x

theorem keyN_congr {ns ns' : List NodeT} {x : NodeT} (h : ∀ c ∈ x.sh.kids, findN ns' c = findN ns c) : keyN ns' x = keyN ns x := by
 unfold keyN
 split
 ·rfl
 ·rename_i hl
  congr 1
  refine List.map_congr_left (fun e he => ?_)
  unfold keyE
  rw [h e.child (by simp only [SN.kids, NodeT.sh_leaf, hl, NodeT.sh_ch]; exact List.mem_map.2 ⟨e, he, rfl⟩)]
theorem keyE_idem (ns : List NodeT) (e : LinkT) : keyE ns (keyE ns e) = keyE ns e := by
 unfold keyE
 cases h : findN ns e.child with
 | none => simp [h]
 | some c =>
  by_cases h2 : c.es = []
  ·simp [h, h2]
  ·simp [h, h2]
theorem keyN_idem (ns : List NodeT) (x : NodeT) : keyN ns (keyN ns x) = keyN ns x := by
 unfold keyN
 cases hl : x.leaf with
 | true => simp [hl]
 | false => simp [hl, List.map_map, Function.comp_def, keyE_idem]

theorem KO.step {h rk : Int → Nat} {R : List Int} {ns : List NodeT} {m : Nat} {D : List Int} (H : Shp (shs ns) R h rk) (hk : KO h ns m D) (id : Int) : KO h (keyS ns id) m (id :: D) := by
 have hn : (idsN ns).Nodup := by have := H.nodup; simpa using this
 unfold keyS
 cases hf : findN ns id with
 | none =>
  intro x hx hc
  refine hk x hx ?_
  rcases hc with hc | ⟨h1, h2⟩
  ·exact .inl hc
  ·rcases List.mem_cons.1 h2 with e | h2
   ·exact absurd (List.mem_map.2 ⟨x, hx, e⟩) (findN_none hf)
   ·exact .inr ⟨h1, h2⟩
 | some x =>
  obtain ⟨hx, rfl⟩ := findN_some hf
  dsimp only
  have hself : ∀ c ∈ x.sh.kids, c ≠ x.id := fun c hc e => by
   have := H.inn _ (mem_shs hx) c hc
   rw [e] at this; simp only [NodeT.sh_id] at this; omega
  by_cases hm : h x.id ≤ m
  ·rw [hk x hx (.inl hm), updN_self hn hx]
   intro y hy hc
   refine hk y hy ?_
   rcases hc with hc | ⟨h1, h2⟩
   ·exact .inl hc
   ·rcases List.mem_cons.1 h2 with e | h2
    ·rw [e] at h1; omega
    ·exact .inr ⟨h1, h2⟩
  ·intro y hy hc
   rcases mem_updN hy with rfl | ⟨hy, hne⟩
   ·rw [keyN_congr (ns := ns), keyN_idem]
    intro c hc
    rw [keyN_sh] at hc
    exact findN_updN (by rw [keyN_id]; exact hself c hc)
   ·rw [keyN_id] at hne
    rw [keyN_congr (ns := ns)]
    ·refine hk y hy ?_
     rcases hc with hc | ⟨h1, h2⟩
     ·exact .inl hc
     ·rcases List.mem_cons.1 h2 with e | h2
      ·exact absurd e hne
      ·exact .inr ⟨h1, h2⟩
    ·intro c hc2
     refine findN_updN (fun e => ?_)
     rw [keyN_id] at e
     have := H.inn _ (mem_shs hy) c hc2
     rw [e, NodeT.sh_id] at this
     omega

theorem KO.steps {h rk : Int → Nat} {R : List Int} {m : Nat} : ∀ (l : List Int) {ns : List NodeT} {D : List Int} (H : Shp (shs ns) R h rk) (hk : KO h ns m D), KO h (l.foldl keyS ns) m (l.reverse ++ D)
 | [], ns, D, H, hk => by simpa using hk
 | id :: l, ns, D, H, hk => by
  have hn : (idsN ns).Nodup := by have := H.nodup; simpa using this
  have := KO.steps l (ns := keyS ns id) (D := id :: D) (by rw [shs_keyS ns id hn]; exact H) (hk.step H id)
  simpa using this
theorem KO.pass {h rk : Int → Nat} {R : List Int} {m : Nat} {ns : List NodeT} (H : Shp (shs ns) R h rk) (hk : KO h ns m []) : KO h (passN ns) (m + 1) [] := by
  intro x hx hc
  have hc : h x.id ≤ m + 1 := by
    rcases hc with hc | ⟨_, h2⟩
    · exact hc
    · simp at h2
  unfold passN at hx ⊢
  refine KO.steps (idsN ns) H hk x hx ?_
  rcases Nat.lt_or_ge m (h x.id) with h1 | h1
  · refine .inr ⟨by omega, ?_⟩
    rw [List.append_nil, List.mem_reverse]
    have : x.id ∈ idsN ((idsN ns).foldl keyS ns) := List.mem_map.2 ⟨x, hx, rfl⟩
    rwa [keyL_ids] at this
  · exact .inl h1
theorem KO.passes {h rk : Int → Nat} {R : List Int} : ∀ (n : Nat) {m : Nat} {ns : List NodeT} (H : Shp (shs ns) R h rk) (hk : KO h ns m []), KO h (passes n ns) (m + n) []
 | 0, m, ns, H, hk => hk
 | n + 1, m, ns, H, hk => by
  have hn : (idsN ns).Nodup := by have := H.nodup; simpa using this
  have := KO.passes n (m := m + 1) (ns := passN ns) (by rw [shs_passN ns hn]; exact H) (hk.pass H)
  rw [Nat.add_right_comm] at this
  exact this
theorem KO.zero {h rk : Int → Nat} {R : List Int} {ns : List NodeT} (H : Shp (shs ns) R h rk) : KO h ns 0 [] := by
 intro x hx hc
 have hc : h x.id = 0 := by
  rcases hc with hc | ⟨_, h2⟩
  ·omega
  ·simp at h2
 unfold keyN
 cases hl : x.leaf with
 | true => rfl
 | false =>
  have : x.es = [] := by
   cases he : x.es with
   | nil => rfl
   | cons e l =>
    have := H.inn _ (mem_shs hx) e.child (by simp [SN.kids, hl, he])
    rw [NodeT.sh_id] at this; omega
  cases x
  simp only at this hl
  subst this hl
  rfl
def KeysOk (ns : List NodeT) : Prop := ∀ x ∈ ns, keyN ns x = x
theorem keys_ok {h rk : Int → Nat} {R : List Int} {ns : List NodeT} (H : Shp (shs ns) R h rk) (hh : ∀ x ∈ ns, h x.id ≤ 14) : KeysOk (passes 14 ns) := by
 intro x hx
 refine KO.passes 14 H (KO.zero H) x hx (.inl ?_)
 have hn : (idsN ns).Nodup := by have := H.nodup; simpa using this
 have h1 : x.id ∈ idsN (passes 14 ns) := List.mem_map.2 ⟨x, hx, rfl⟩
 rw [← idsS_shs, shs_passes 14 ns hn, idsS_shs] at h1
 obtain ⟨y, hy, e⟩ := List.mem_map.1 h1
 have := hh y hy
 rw [← e]; omega

/-! ### boxes -/
theorem unionK_box {a b : KeyT} (ha : boxK a = true) (hb : boxK b = true) : boxK (unionK a b) = true := by
 simp only [boxK, unionK, Bool.and_eq_true, decide_eq_true_eq] at ha hb ⊢
 simp only [ha.1, ha.2, hb.1, hb.2, and_self, if_true]
 omega
theorem foldK_box : ∀ (l : List LinkT) (k : KeyT), boxK k = true → (∀ e ∈ l, boxK e.key = true) → boxK (l.foldl (fun k e => unionK k e.key) k) = true
 | [], k, hk, _ => hk
 | e :: l, k, hk, h => foldK_box l _ (unionK_box hk (h e (by simp))) (fun e he => h e (by simp [he]))
theorem boundK_box {l : List LinkT} (h : ∀ e ∈ l, boxK e.key = true) : boxK (boundK l) = true := by
 cases l with
 | nil => rfl
 | cons e l => exact foldK_box l _ (h e (by simp)) (fun e he => h e (by simp [he]))
def BoxesOk (ns : List NodeT) : Prop := ∀ x ∈ ns, ∀ e ∈ x.es, boxK e.key = true
theorem keyN_box {ns : List NodeT} (hb : BoxesOk ns) {x : NodeT} (hx : x ∈ ns) : ∀ e ∈ (keyN ns x).es, boxK e.key = true := by
 unfold keyN
 split
 ·exact hb x hx
 ·intro e he
  obtain ⟨e0, h0, rfl⟩ := List.mem_map.1 he
  unfold keyE
  split
  ·rename_i c hc
   split
   ·exact hb x hx e0 h0
   ·exact boundK_box (hb c (findN_some hc).1)
  ·exact hb x hx e0 h0
theorem BoxesOk.keyS {ns : List NodeT} (hb : BoxesOk ns) (id : Int) : BoxesOk (keyS ns id) := by
 unfold AM.keyS
 split
 ·rename_i x hx
  intro y hy
  rcases mem_updN hy with rfl | ⟨hy, _⟩
  ·exact keyN_box hb (findN_some hx).1
  ·exact hb y hy
 ·exact hb
theorem BoxesOk.keyL : ∀ (l : List Int) {ns : List NodeT}, BoxesOk ns → BoxesOk (l.foldl AM.keyS ns)
 | [], _, h => h
 | id :: l, _, h => BoxesOk.keyL l (h.keyS id)
theorem BoxesOk.passes : ∀ (n : Nat) {ns : List NodeT}, BoxesOk ns → BoxesOk (passes n ns)
 | 0, _, h => h
 | n + 1, _, h => BoxesOk.passes n (by unfold passN; exact BoxesOk.keyL _ h)
end Go.Proofs.Ytmjnpfackanhlaa.AM

namespace Go.Proofs.Ytmjnpfackanhlaa.AM
open Go
set_option linter.unusedVariables false
set_option linter.unusedSimpArgs false

theorem Shp.top_le {ns : List SN} {root : Int} {h rk : Int → Nat} (H : Shp ns [root] h rk) : ∀ x ∈ ns, h x.id ≤ h root := by
 have hM : ∃ M, ∀ x ∈ ns, h x.id ≤ M := by
  clear H
  induction ns with
  | nil => exact ⟨0, by simp⟩
  | cons y ns ih =>
   obtain ⟨M, hM⟩ := ih
   refine ⟨max M (h y.id), fun x hx => ?_⟩
   rcases List.mem_cons.1 hx with rfl | hx
   ·omega
   ·have := hM x hx; omega
 obtain ⟨M, hM⟩ := hM
 have : ∀ d, ∀ x ∈ ns, M - h x.id ≤ d → h x.id ≤ h root := by
  intro d
  induction d with
  | zero =>
   intro x hx hd
   rcases H.root_or (mem_ids hx) with hr | hk
   ·rw [List.mem_singleton.1 hr]; exact Nat.le_refl _
   ·obtain ⟨p, hp, hc⟩ := List.mem_flatMap.1 hk
    have h1 := H.inn p hp _ hc
    have h2 := hM p hp
    omega
  | succ d ih =>
   intro x hx hd
   rcases H.root_or (mem_ids hx) with hr | hk
   ·rw [List.mem_singleton.1 hr]; exact Nat.le_refl _
   ·obtain ⟨p, hp, hc⟩ := List.mem_flatMap.1 hk
    have h1 := H.inn p hp _ hc
    have h2 := hM p hp
    have := ih p hp (by omega)
    omega
 exact fun x hx => this _ x hx (Nat.le_refl _)

def greatN (ns : List NodeT) : Int := match ns.getLast? with
 | some x => x.id
 | none => 0
theorem great_le {ns : List NodeT} (hs : (idsN ns).Pairwise (· < ·)) : ∀ x ∈ ns, x.id ≤ greatN ns := by
 intro x hx
 unfold greatN
 cases hl : ns.getLast? with
 | none => rw [List.getLast?_eq_none_iff] at hl; subst hl; simp at hx
 | some z =>
  obtain ⟨ys, rfl⟩ := List.getLast?_eq_some_iff.1 hl
  dsimp only
  simp only [idsN, List.map_append, List.map_cons, List.map_nil, List.pairwise_append] at hs
  rcases List.mem_append.1 hx with hx | hx
  ·have := hs.2.2 _ (List.mem_map.2 ⟨x, hx, rfl⟩) z.id (by simp); omega
  ·rw [List.mem_singleton.1 hx]; exact Int.le_refl _

def stayF : List LinkT → List Bool → List LinkT
 | e :: es, b :: bs => if b then e :: stayF es bs else stayF es bs
 | _, _ => []
def restF : List LinkT → List Bool → List LinkT
 | e :: es, b :: bs => if b then restF es bs else e :: restF es bs
 | _, _ => []
theorem bool_count (l : List Bool) : l.count true + l.count false = l.length := by
 induction l with
 | nil => rfl
 | cons b l ih => cases b <;> simp <;> omega
theorem part_count : ∀ (es : List LinkT) (bs : List Bool), bs.length = es.length → ∀ a, ((stayF es bs).map (·.child)).count a + ((restF es bs).map (·.child)).count a = (es.map (·.child)).count a
 | [], [], _, a => rfl
 | [], _ :: _, h, _ => by simp at h
 | _ :: _, [], h, _ => by simp at h
 | e :: es, b :: bs, h, a => by
  have ih := part_count es bs (by simpa using h) a
  cases b with
  | true => simp only [stayF, restF, if_true, List.map_cons, List.count_cons]; omega
  | false => simp only [stayF, restF, if_false, List.map_cons, List.count_cons, Bool.false_eq_true]; omega
theorem part_len : ∀ (es : List LinkT) (bs : List Bool), bs.length = es.length → (stayF es bs).length = bs.count true ∧ (restF es bs).length = bs.count false
 | [], [], _ => ⟨rfl, rfl⟩
 | [], _ :: _, h => by simp at h
 | _ :: _, [], h => by simp at h
 | e :: es, b :: bs, h => by
  have ih := part_len es bs (by simpa using h)
  cases b with
  | true => simp [stayF, restF, ih]
  | false => simp [stayF, restF, ih]
theorem stay_mem : ∀ (es : List LinkT) (bs : List Bool), ∀ e ∈ stayF es bs, e ∈ es
 | [], _, e, h => by cases ‹List Bool› <;> simp [stayF] at h
 | _ :: _, [], e, h => by simp [stayF] at h
 | x :: es, b :: bs, e, h => by
  have ih := stay_mem es bs e
  cases b with
  | true =>
   simp only [stayF, if_true, List.mem_cons] at h ⊢
   rcases h with h | h
   ·exact .inl h
   ·exact .inr (ih h)
  | false =>
   simp only [stayF, Bool.false_eq_true, if_false, List.mem_cons] at h ⊢
   exact .inr (ih h)
theorem rest_mem : ∀ (es : List LinkT) (bs : List Bool), ∀ e ∈ restF es bs, e ∈ es
 | [], _, e, h => by cases ‹List Bool› <;> simp [restF] at h
 | _ :: _, [], e, h => by simp [restF] at h
 | x :: es, b :: bs, e, h => by
  have ih := rest_mem es bs e
  cases b with
  | true =>
   simp only [restF, if_true, List.mem_cons] at h ⊢
   exact .inr (ih h)
  | false =>
   simp only [restF, Bool.false_eq_true, if_false, List.mem_cons] at h ⊢
   rcases h with h | h
   ·exact .inl h
   ·exact .inr (ih h)

structure SplitT where
 old : Int
 new : Int
 root : Bool
def aboveN (ns : List NodeT) (id : Int) : Option NodeT := ns.find? (fun x => decide (id ∈ x.sh.kids))
theorem aboveN_some {ns : List NodeT} {id : Int} {p : NodeT} (h : aboveN ns id = some p) : p ∈ ns ∧ id ∈ p.sh.kids := by
 have h1 := List.find?_some h
 exact ⟨List.mem_of_find?_eq_some h, by simpa using h1⟩
theorem aboveN_none {ns : List NodeT} {id : Int} (h : aboveN ns id = none) : ¬ id ∈ kidsS (shs ns) := fun hm => by
 obtain ⟨y, hy, hc⟩ := List.mem_flatMap.1 hm
 obtain ⟨x, hx, rfl⟩ := of_shs hy
 have := List.find?_eq_none.1 h x hx
 simp [hc] at this

def stayN (t : TreeT) (x : NodeT) (left : List Bool) : NodeT := { x with es := stayF x.es left, mark := t.count + 1, right := greatN t.nodes + 1 }
def goesN (t : TreeT) (x : NodeT) (left : List Bool) : NodeT := ⟨greatN t.nodes + 1, x.leaf, restF x.es left, t.count + 1, x.right⟩
def withE (es : List LinkT) (id : Int) (e' : LinkT) : List LinkT := es.flatMap (fun e => if e.child = id then [e, e'] else [e])
def splitF (t : TreeT) (x : NodeT) (left : List Bool) : TreeT × SplitT :=
 match aboveN (updN t.nodes (stayN t x left) ++ [goesN t x left]) x.id with
 | none => (⟨updN t.nodes (stayN t x left) ++ [goesN t x left, ⟨greatN t.nodes + 1 + 1, false, [⟨boundK (stayF x.es left), x.id⟩, ⟨boundK (restF x.es left), greatN t.nodes + 1⟩], t.count + 1, 0⟩], greatN t.nodes + 1 + 1, t.count + 1⟩, ⟨x.id, greatN t.nodes + 1, true⟩)
 | some p => (⟨updN (updN t.nodes (stayN t x left) ++ [goesN t x left]) { p with es := withE p.es x.id ⟨boundK (restF x.es left), greatN t.nodes + 1⟩ }, t.root, t.count + 1⟩, ⟨x.id, greatN t.nodes + 1, false⟩)
def keyedF (t : TreeT) : TreeT := { t with nodes := passes 14 t.nodes }

theorem withE_count (es : List LinkT) (id : Int) (e' : LinkT) (a : Int) : ((withE es id e').map (·.child)).count a = (es.map (·.child)).count a + if e'.child = a then (es.map (·.child)).count id else 0 := by
 induction es with
 | nil => simp [withE]
 | cons e es ih =>
  have e1 : withE (e :: es) id e' = (if e.child = id then [e, e'] else [e]) ++ withE es id e' := by simp [withE]
  rw [e1, List.map_append, List.count_append, ih]
  by_cases h1 : e.child = id
  ·rw [if_pos h1]
   simp only [List.map_cons, List.map_nil, List.count_cons, List.count_nil, beq_iff_eq, h1, if_true]
   split <;> split <;> omega
  ·rw [if_neg h1]
   simp only [List.map_cons, List.map_nil, List.count_cons, List.count_nil, beq_iff_eq, h1, if_false]
   split <;> split <;> omega
theorem withE_len (es : List LinkT) (id : Int) (e' : LinkT) : (withE es id e').length = es.length + (es.map (·.child)).count id := by
 induction es with
 | nil => simp [withE]
 | cons e es ih =>
  have e1 : withE (e :: es) id e' = (if e.child = id then [e, e'] else [e]) ++ withE es id e' := by simp [withE]
  rw [e1, List.length_append, ih]
  simp only [List.map_cons, List.count_cons, List.length_cons]
  by_cases h1 : e.child = id
  ·simp [h1]; omega
  ·simp [h1]; omega
theorem withE_mem {es : List LinkT} {id : Int} {e' e : LinkT} (h : e ∈ withE es id e') : e ∈ es ∨ e = e' := by
 obtain ⟨e0, h0, h1⟩ := List.mem_flatMap.1 h
 split at h1
 ·simp only [List.mem_cons, List.not_mem_nil, or_false] at h1
  rcases h1 with rfl | rfl
  ·exact .inl h0
  ·exact .inr rfl
 ·exact .inl (by rw [List.mem_singleton.1 h1]; exact h0)

structure Mid (B : Prop) (t : TreeT) (w : Int) (hr b : Nat) (h rk : Int → Nat) : Prop where
 shp : Shp (shs t.nodes) [t.root] h rk
 top : h t.root ≤ hr
 keys : KeysOk t.nodes
 box : B → BoxesOk t.nodes
 ne : ∀ x ∈ shs t.nodes, x.ch ≠ []
 wid : ∀ x ∈ shs t.nodes, x.ch.length ≤ 4 ∨ x.id = w ∧ x.ch.length ≤ 5
 mark : ∀ x ∈ shs t.nodes, 0 ≤ x.mark ∧ x.mark ≤ t.count
 cnt : 0 ≤ t.count ∧ t.count < 18446744073709551616
 rows : ∀ a, (rowsS (shs t.nodes)).count a ≤ 1
 rpos : ∀ a ∈ rowsS (shs t.nodes), 0 < a ∧ a < 4294967296
 len : t.nodes.length ≤ b

theorem Mid.nodup {B : Prop} {t : TreeT} {w : Int} {hr b : Nat} {h rk : Int → Nat} (H : Mid B t w hr b h rk) : (idsN t.nodes).Nodup := by have := H.shp.nodup; simpa using this

theorem keyedF_nodes (t : TreeT) : (keyedF t).nodes = passes 14 t.nodes := by simp only [keyedF]
theorem keyed_shs {t : TreeT} (hn : (idsN t.nodes).Nodup) : shs (keyedF t).nodes = shs t.nodes := by
 rw [keyedF_nodes]; exact shs_passes 14 t.nodes hn
theorem shs_len {ns ns' : List NodeT} (h : shs ns = shs ns') : ns.length = ns'.length := by
 have := congrArg List.length h
 simpa [shs] using this

structure MidS (B : Prop) (t : TreeT) (w : Int) (hr b : Nat) (h rk : Int → Nat) : Prop where
 shp : Shp (shs t.nodes) [t.root] h rk
 top : h t.root ≤ hr
 box : B → BoxesOk t.nodes
 ne : ∀ x ∈ shs t.nodes, x.ch ≠ []
 wid : ∀ x ∈ shs t.nodes, x.ch.length ≤ 4 ∨ x.id = w ∧ x.ch.length ≤ 5
 mark : ∀ x ∈ shs t.nodes, 0 ≤ x.mark ∧ x.mark ≤ t.count
 cnt : 0 ≤ t.count ∧ t.count < 18446744073709551616
 rows : ∀ a, (rowsS (shs t.nodes)).count a ≤ 1
 rpos : ∀ a ∈ rowsS (shs t.nodes), 0 < a ∧ a < 4294967296
 len : t.nodes.length ≤ b
theorem MidS.keyed {B : Prop} {t : TreeT} {w : Int} {hr b : Nat} {h rk : Int → Nat} (H : MidS B t w hr b h rk) (h14 : hr ≤ 14) : Mid B (keyedF t) w hr b h rk := by
 have hn : (idsN t.nodes).Nodup := by have := H.shp.nodup; simpa using this
 have e := keyed_shs hn
 refine ⟨by rw [e]; exact H.shp, H.top, ?_, by rw [keyedF_nodes]; exact fun hB => BoxesOk.passes 14 (H.box hB), by rw [e]; exact H.ne, by rw [e]; exact H.wid, by rw [e]; exact H.mark, H.cnt, by rw [e]; exact H.rows, by rw [e]; exact H.rpos, by rw [shs_len e]; exact H.len⟩
 rw [keyedF_nodes]
 refine keys_ok H.shp (fun x hx => ?_)
 have := H.shp.top_le _ (mem_shs hx)
 have := H.top
 simp only [NodeT.sh_id] at *
 omega

theorem mem_rows {ns : List SN} {x : SN} (hx : x ∈ ns) {c : Int} (hc : c ∈ x.rows) : c ∈ rowsS ns := List.mem_flatMap.2 ⟨x, hx, hc⟩

theorem Mid.split_in {B : Prop} {t : TreeT} {hr b : Nat} {h rk : Int → Nat} {x : NodeT} (H : Mid B t x.id hr b h rk) (hx : x ∈ t.nodes) (h5 : x.es.length = 5) {left : List Bool} (hl : left.length = 5) (h1 : true ∈ left) (h0 : false ∈ left)
    (hc : t.count + 1 < 18446744073709551616) (hg : greatN t.nodes ≤ 4294967293) (h14 : hr ≤ 14) (hroot : x.id ≠ t.root) :
    ∃ p ∈ t.nodes, x.id ∈ p.sh.kids ∧ aboveN (updN t.nodes (stayN t x left) ++ [goesN t x left]) x.id = some p ∧ ∃ h' rk', Mid B (keyedF (splitF t x left).1) p.id hr (b + 1) h' rk' ∧ (splitF t x left).1.root = t.root ∧ (splitF t x left).2.root = false ∧
      ∀ c d, c ≠ x.id → (∃ q ∈ shs t.nodes, q.id = c ∧ d ∈ q.kids) → ∃ q ∈ shs (keyedF (splitF t x left).1).nodes, q.id = c ∧ d ∈ q.kids := by
  have hn := H.nodup
  have hsrt : (idsN t.nodes).Pairwise (· < ·) := by have := H.shp.srt; simpa using this
  have hgt := great_le hsrt
  have hgs : ∀ z ∈ shs t.nodes, z.id ≤ greatN t.nodes := fun z hz => by
    obtain ⟨w, hw, rfl⟩ := of_shs hz
    exact hgt w hw
  have hle : left.length = x.es.length := by omega
  have hpl := part_len x.es left hle
  have hcc := bool_count left
  have hp1 := List.count_pos_iff.2 h1
  have hp0 := List.count_pos_iff.2 h0
  have hpc := part_count x.es left hle
  have hxpos := H.shp.pos _ (mem_shs hx)
  have hxg := hgt x hx
  simp only [NodeT.sh_id] at hxpos
  have hS := H.shp.split (x := x.sh) (x' := (stayN t x left).sh) (y := (goesN t x left).sh) (mem_shs hx) (fun z hz => by
      have := hgs z hz
      simp only [NodeT.sh_id, goesN]; omega) (by simp only [NodeT.sh_id, goesN]; omega) rfl rfl rfl rfl rfl (fun a => by
      cases hlf : x.leaf with
      | true => simp [SN.kids, stayN, goesN, hlf]
      | false => simpa [SN.kids, stayN, goesN, hlf] using hpc a)
  obtain ⟨ns1, hns1⟩ : ∃ ns1, ns1 = updN t.nodes (stayN t x left) ++ [goesN t x left] := ⟨_, rfl⟩
  have hsh1 : shs ns1 = updS (shs t.nodes) (stayN t x left).sh ++ [(goesN t x left).sh] := by
    rw [hns1, ← shs_updN]; simp [shs]
  rw [← hsh1] at hS
  have hn1 : (idsN ns1).Nodup := by have := hS.nodup; simpa using this
  have hkx : x.id ∈ kidsS (shs t.nodes) := by
    rcases H.shp.root_or (mem_ids (mem_shs hx)) with hr | hk
    · exact absurd (List.mem_singleton.1 hr) hroot
    · exact hk
  obtain ⟨q0, hq0, hqk⟩ := List.mem_flatMap.1 hkx
  obtain ⟨q, hq, rfl⟩ := of_shs hq0
  have hxx : ∀ z ∈ t.nodes, x.id ∈ z.sh.kids → z.id ≠ x.id := fun z hz hk e => by
    have := H.shp.inn _ (mem_shs hz) _ hk
    simp only [NodeT.sh_id, e] at this; omega
  have hkk : ∀ c, c ∈ (stayN t x left).sh.kids ∨ c ∈ (goesN t x left).sh.kids → c ∈ x.sh.kids := fun c hc => by
    cases hlf : x.leaf with
    | true => simp [SN.kids, stayN, goesN, hlf] at hc
    | false =>
      simp only [SN.kids, stayN, goesN, NodeT.sh_leaf, hlf, NodeT.sh_ch, Bool.false_eq_true, if_false, List.mem_map] at hc ⊢
      rcases hc with ⟨e, he, h⟩ | ⟨e, he, h⟩
      · exact ⟨e, stay_mem _ _ e he, h⟩
      · exact ⟨e, rest_mem _ _ e he, h⟩
  cases ha : aboveN ns1 x.id with
  | none =>
    refine absurd ?_ (aboveN_none ha)
    have hq1 : q ∈ ns1 := by
      rw [hns1]
      exact List.mem_append_left _ (updN_old hq (hxx q hq hqk))
    exact mem_kids (mem_shs hq1) hqk
  | some p =>
    obtain ⟨hp1', hpk⟩ := aboveN_some ha
    have hpt : p ∈ t.nodes := by
      rw [hns1] at hp1'
      rcases List.mem_append.1 hp1' with hp2 | hp2
      · rcases mem_updN hp2 with rfl | ⟨hp2, _⟩
        · exact absurd rfl (hxx x hx (hkk _ (.inl hpk)))
        · exact hp2
      · rw [List.mem_singleton.1 hp2] at hpk
        exact absurd rfl (hxx x hx (hkk _ (.inr hpk)))
    have hpx : p.id ≠ x.id := hxx p hpt hpk
    have hpy : p.id ≠ greatN t.nodes + 1 := by have := hgt p hpt; omega
    have hpl0 : p.leaf = false := by
      cases e : p.leaf with
      | false => rfl
      | true => simp [SN.kids, e] at hpk
    have hpc1 : (p.es.map (·.child)).count x.id = 1 := by
      have h1 := List.count_pos_iff.2 hpk
      have h2 := H.shp.kid x.id
      have h3 := H.shp.cnt x.id
      have h4 : p.sh.kids.count x.id ≤ (kidsS (shs t.nodes)).count x.id := by
        obtain ⟨A, B, e⟩ := List.append_of_mem (mem_shs hpt)
        rw [e]
        simp only [kidsS, List.flatMap_append, List.flatMap_cons, List.count_append]
        omega
      have h5 : p.sh.kids = p.es.map (·.child) := by simp [SN.kids, hpl0]
      rw [h5] at h1 h4
      omega
    obtain ⟨p', hp'⟩ : ∃ p' : NodeT, p' = { p with es := withE p.es x.id ⟨boundK (restF x.es left), greatN t.nodes + 1⟩ } := ⟨_, rfl⟩
    have hf : (splitF t x left) = (⟨updN ns1 p', t.root, t.count + 1⟩, ⟨x.id, greatN t.nodes + 1, false⟩) := by
      unfold splitF
      rw [← hns1, ha, hp']
    have hp'k : p'.sh.kids = (withE p.es x.id ⟨boundK (restF x.es left), greatN t.nodes + 1⟩).map (·.child) := by rw [hp']; simp [SN.kids, hpl0]
    have hpkk : p.sh.kids = p.es.map (·.child) := by simp [SN.kids, hpl0]
    have hhp : h p.id = h x.id + 1 := H.shp.inn _ (mem_shs hpt) _ hpk
    have hS2 := hS.kidsd (R' := [t.root]) (p := p.sh) (p' := p'.sh) (mem_shs hp1') (by rw [hp']; rfl) (by rw [hp']; rfl) (by rw [hp']; rfl) (fun a => by
        rw [hp'k, hpkk, withE_count, hpc1]
        simp only [goesN, NodeT.sh_id, List.count_cons, List.count_nil, beq_iff_eq]
        split <;> split <;> omega) (fun c hc => by
        rw [hp'k] at hc
        obtain ⟨e, he, rfl⟩ := List.mem_map.1 hc
        simp only [goesN, NodeT.sh_id]
        simp only [hpy, if_false]
        rcases withE_mem he with he | rfl
        · have hk : e.child ∈ p.sh.kids := by rw [hpkk]; exact List.mem_map.2 ⟨e, he, rfl⟩
          obtain ⟨w, hw, hwi⟩ := of_ids (H.shp.kid_mem (mem_kids (mem_shs hpt) hk))
          have := hgs w hw
          have hne : ¬ e.child = greatN t.nodes + 1 := by omega
          simp only [hne, if_false]
          exact H.shp.inn _ (mem_shs hpt) _ hk
        · simp only [if_true]; exact hhp)
    rw [← shs_updN] at hS2
    have hmem : ∀ z ∈ shs (updN ns1 p'), z = p'.sh ∨ z = (stayN t x left).sh ∨ z = (goesN t x left).sh ∨ (z ∈ shs t.nodes ∧ z.id ≠ x.id ∧ z.id ≠ p.id) := fun z hz => by
      rw [shs_updN] at hz
      rcases mem_updS hz with e | ⟨hz, hne⟩
      · exact .inl e
      · rw [hsh1] at hz
        have hne' : z.id ≠ p.id := by rw [hp'] at hne; exact hne
        rcases List.mem_append.1 hz with hz | hz
        · rcases mem_updS hz with e | ⟨hz, hne2⟩
          · exact .inr (.inl e)
          · exact .inr (.inr (.inr ⟨hz, hne2, hne'⟩))
        · exact .inr (.inr (.inl (List.mem_singleton.1 hz)))
    have hrows : ∀ a, (rowsS (shs (updN ns1 p'))).count a = (rowsS (shs t.nodes)).count a := fun a => by
      have e1 := updS_rows (ns := shs ns1) (x := p.sh) (x' := p'.sh) (by simpa using hn1) (mem_shs hp1') (by rw [hp']; rfl) a
      have e2 := updS_rows (ns := shs t.nodes) (x := x.sh) (x' := (stayN t x left).sh) (by simpa using hn) (mem_shs hx) rfl a
      rw [← shs_updN] at e1
      have e3 : p'.sh.rows = [] := by rw [hp']; simp [SN.rows, hpl0]
      have e4 : p.sh.rows = [] := by simp [SN.rows, hpl0]
      have e5 : (rowsS (shs ns1)).count a = (rowsS (updS (shs t.nodes) (stayN t x left).sh)).count a + (goesN t x left).sh.rows.count a := by
        rw [hsh1]; simp [rowsS, List.count_append]
      have e6 : (stayN t x left).sh.rows.count a + (goesN t x left).sh.rows.count a = x.sh.rows.count a := by
        cases hlf : x.leaf with
        | false => simp [SN.rows, stayN, goesN, hlf]
        | true => simpa [SN.rows, stayN, goesN, hlf] using hpc a
      rw [e3, e4] at e1
      omega
    have hboxx : B → ∀ e ∈ x.es, boxK e.key = true := fun hB => H.box hB x hx
    have hM : MidS B (splitF t x left).1 p.id hr (b + 1) (fun z => if z = (goesN t x left).sh.id then h x.sh.id else h z) (fun z => if z = (goesN t x left).sh.id then 2 * rk x.sh.id else 2 * rk z + 1) := by
      rw [hf]
      refine ⟨hS2, ?_, ?_, ?_, ?_, ?_, ⟨by have := H.cnt; dsimp only; omega, hc⟩, ?_, ?_, ?_⟩
      · have hrm := H.shp.root_mem (List.mem_singleton.2 rfl)
        obtain ⟨w, hw, hwi⟩ := of_ids hrm
        have := hgs w hw
        have hne : ¬ t.root = greatN t.nodes + 1 := by omega
        simp only [goesN, NodeT.sh_id, hne, if_false]
        exact H.top
      · intro hB z hz e he
        rcases mem_updN hz with rfl | ⟨hz, _⟩
        · rw [hp'] at he
          rcases withE_mem he with he | rfl
          · exact H.box hB p hpt e he
          · exact boundK_box (fun e he => hboxx hB e (rest_mem _ _ e he))
        · rw [hns1] at hz
          rcases List.mem_append.1 hz with hz | hz
          · rcases mem_updN hz with rfl | ⟨hz, _⟩
            · exact hboxx hB e (stay_mem _ _ e he)
            · exact H.box hB z hz e he
          · rw [List.mem_singleton.1 hz] at he
            exact hboxx hB e (rest_mem _ _ e he)
      · intro z hz
        rcases hmem z hz with rfl | rfl | rfl | ⟨hz, _⟩
        · rw [hp']
          intro e
          have := congrArg List.length e
          simp only [NodeT.sh_ch, List.length_map, withE_len, hpc1, List.length_nil] at this
          omega
        · intro e
          have := congrArg List.length e
          simp only [NodeT.sh_ch, List.length_map, stayN, hpl.1, List.length_nil] at this
          omega
        · intro e
          have := congrArg List.length e
          simp only [NodeT.sh_ch, List.length_map, goesN, hpl.2, List.length_nil] at this
          omega
        · exact H.ne z hz
      · intro z hz
        rcases hmem z hz with rfl | rfl | rfl | ⟨hz, hne, _⟩
        · refine .inr ⟨by rw [hp']; rfl, ?_⟩
          have := H.wid _ (mem_shs hpt)
          rw [hp']
          simp only [NodeT.sh_ch, List.length_map, withE_len, hpc1, NodeT.sh_id] at this ⊢
          omega
        · refine .inl ?_
          simp only [NodeT.sh_ch, List.length_map, stayN, hpl.1]
          omega
        · refine .inl ?_
          simp only [NodeT.sh_ch, List.length_map, goesN, hpl.2]
          omega
        · rcases H.wid z hz with h | ⟨h, _⟩
          · exact .inl h
          · exact absurd h hne
      · intro z hz
        have hc0 := H.cnt
        rcases hmem z hz with rfl | rfl | rfl | ⟨hz, hne, _⟩
        · have := H.mark _ (mem_shs hpt)
          rw [hp']
          simp only [NodeT.sh_mark] at this ⊢
          omega
        · simp only [NodeT.sh_mark, stayN]; omega
        · simp only [NodeT.sh_mark, goesN]; omega
        · have := H.mark z hz; dsimp only; omega
      · intro a; rw [hrows]; exact H.rows a
      · intro a ha
        refine H.rpos a (List.count_pos_iff.1 ?_)
        rw [← hrows]; exact List.count_pos_iff.2 ha
      · have := H.len
        dsimp only
        rw [hns1]
        simp only [updN, List.length_map, List.length_append, List.length_singleton]
        omega
    refine ⟨p, hpt, hpk, by rw [← hns1]; exact ha, _, _, hM.keyed h14, by rw [hf], by rw [hf], ?_⟩
    intro c d hcx ⟨q0, hq0, hqc, hqd⟩
    have hn2 : (idsN (splitF t x left).1.nodes).Nodup := by have := hM.shp.nodup; simpa using this
    rw [keyed_shs hn2, hf]
    dsimp only
    obtain ⟨q, hq, rfl⟩ := of_shs hq0
    simp only [NodeT.sh_id] at hqc
    have hq1 : q ∈ ns1 := by rw [hns1]; exact List.mem_append_left _ (updN_old hq (by rw [hqc]; exact hcx))
    by_cases e : q.id = p.id
    · have hqp : q = p := by
        have h1 := findN_mem hn hq
        have h2 := findN_mem hn hpt
        rw [e, h2] at h1
        exact (Option.some.inj h1).symm
      refine ⟨p'.sh, mem_shs (updN_mem hp1' (by rw [hp'])), by rw [← hqc, hqp, hp']; rfl, ?_⟩
      rw [hqp] at hqd
      rw [hp'k]
      refine List.count_pos_iff.1 ?_
      rw [withE_count]
      have := List.count_pos_iff.2 hqd
      rw [hpkk] at this
      omega
    · exact ⟨q.sh, mem_shs (updN_old hq1 (by rw [hp']; exact e)), hqc, hqd⟩

theorem Mid.split_top {B : Prop} {t : TreeT} {hr b : Nat} {h rk : Int → Nat} {x : NodeT} (H : Mid B t x.id hr b h rk) (hx : x ∈ t.nodes) (h5 : x.es.length = 5) {left : List Bool} (hl : left.length = 5) (h1 : true ∈ left) (h0 : false ∈ left)
    (hc : t.count + 1 < 18446744073709551616) (hg : greatN t.nodes ≤ 4294967293) (h14 : hr + 1 ≤ 14) (hroot : x.id = t.root) :
    aboveN (updN t.nodes (stayN t x left) ++ [goesN t x left]) x.id = none ∧ ∃ h' rk', Mid B (keyedF (splitF t x left).1) 0 (h t.root + 1) (b + 2) h' rk' ∧ (splitF t x left).2.root = true := by
  have hn := H.nodup
  have hsrt : (idsN t.nodes).Pairwise (· < ·) := by have := H.shp.srt; simpa using this
  have hgt := great_le hsrt
  have hgs : ∀ z ∈ shs t.nodes, z.id ≤ greatN t.nodes := fun z hz => by
    obtain ⟨w, hw, rfl⟩ := of_shs hz
    exact hgt w hw
  have hle : left.length = x.es.length := by omega
  have hpl := part_len x.es left hle
  have hcc := bool_count left
  have hp1 := List.count_pos_iff.2 h1
  have hp0 := List.count_pos_iff.2 h0
  have hpc := part_count x.es left hle
  have hxpos := H.shp.pos _ (mem_shs hx)
  have hxg := hgt x hx
  simp only [NodeT.sh_id] at hxpos
  have hS := H.shp.split (x := x.sh) (x' := (stayN t x left).sh) (y := (goesN t x left).sh) (mem_shs hx) (fun z hz => by
      have := hgs z hz
      simp only [NodeT.sh_id, goesN]; omega) (by simp only [NodeT.sh_id, goesN]; omega) rfl rfl rfl rfl rfl (fun a => by
      cases hlf : x.leaf with
      | true => simp [SN.kids, stayN, goesN, hlf]
      | false => simpa [SN.kids, stayN, goesN, hlf] using hpc a)
  obtain ⟨ns1, hns1⟩ : ∃ ns1, ns1 = updN t.nodes (stayN t x left) ++ [goesN t x left] := ⟨_, rfl⟩
  have hsh1 : shs ns1 = updS (shs t.nodes) (stayN t x left).sh ++ [(goesN t x left).sh] := by
    rw [hns1, ← shs_updN]; simp [shs]
  rw [← hsh1] at hS
  have hn1 : (idsN ns1).Nodup := by have := hS.nodup; simpa using this
  have ha : aboveN ns1 x.id = none := by
    cases ha : aboveN ns1 x.id with
    | none => rfl
    | some p =>
      obtain ⟨hp, hpk⟩ := aboveN_some ha
      exact absurd (mem_kids (mem_shs hp) hpk) (hS.root_kid (by simp [hroot]))
  obtain ⟨r, hr'⟩ : ∃ r : NodeT, r = ⟨greatN t.nodes + 1 + 1, false, [⟨boundK (stayF x.es left), x.id⟩, ⟨boundK (restF x.es left), greatN t.nodes + 1⟩], t.count + 1, 0⟩ := ⟨_, rfl⟩
  have hf : (splitF t x left) = (⟨ns1 ++ [r], greatN t.nodes + 1 + 1, t.count + 1⟩, ⟨x.id, greatN t.nodes + 1, true⟩) := by
    unfold splitF
    rw [← hns1, ha, hr', hns1]
    simp
  have hmem1 : ∀ z ∈ shs ns1, z = (stayN t x left).sh ∨ z = (goesN t x left).sh ∨ (z ∈ shs t.nodes ∧ z.id ≠ x.id) := fun z hz => by
    rw [hsh1] at hz
    rcases List.mem_append.1 hz with hz | hz
    · rcases mem_updS hz with e | ⟨hz, hne2⟩
      · exact .inl e
      · exact .inr (.inr ⟨hz, hne2⟩)
    · exact .inr (.inl (List.mem_singleton.1 hz))
  have hS2 := hS.top (r := r.sh) (m := h x.id) (fun z hz => by
      rw [hr']
      simp only [NodeT.sh_id]
      rcases hmem1 z hz with rfl | rfl | ⟨hz, _⟩
      · simp only [stayN, NodeT.sh_id]; omega
      · simp only [goesN, NodeT.sh_id]; omega
      · have := hgs z hz
        omega) (by rw [hr']; simp only [NodeT.sh_id]; omega) (by rw [hr']; simp only [NodeT.sh_id]; omega) (by rw [hr']; rfl) (by rw [hr']; rfl) (fun a => by
      rw [hr']
      simp only [NodeT.sh_ch, List.map_cons, List.map_nil, List.count_cons, List.count_nil, goesN, NodeT.sh_id, hroot]
      omega) (fun c hc => by
      simp only [goesN, NodeT.sh_id, List.mem_cons, List.not_mem_nil, or_false] at hc ⊢
      rcases hc with rfl | rfl
      · simp only [if_true]
      · have hne : ¬ t.root = greatN t.nodes + 1 := by omega
        simp only [hne, if_false, hroot])
  have hshr : shs (ns1 ++ [r]) = shs ns1 ++ [r.sh] := by simp [shs]
  rw [← hshr] at hS2
  have hrows : ∀ a, (rowsS (shs (ns1 ++ [r]))).count a = (rowsS (shs t.nodes)).count a := fun a => by
    have e2 := updS_rows (ns := shs t.nodes) (x := x.sh) (x' := (stayN t x left).sh) (by simpa using hn) (mem_shs hx) rfl a
    have e5 : (rowsS (shs (ns1 ++ [r]))).count a = (rowsS (updS (shs t.nodes) (stayN t x left).sh)).count a + (goesN t x left).sh.rows.count a := by
      rw [hshr, hsh1, hr']; simp [rowsS, List.count_append, SN.rows]
    have e6 : (stayN t x left).sh.rows.count a + (goesN t x left).sh.rows.count a = x.sh.rows.count a := by
      cases hlf : x.leaf with
      | false => simp [SN.rows, stayN, goesN, hlf]
      | true => simpa [SN.rows, stayN, goesN, hlf] using hpc a
    omega
  have hboxx : B → ∀ e ∈ x.es, boxK e.key = true := fun hB => H.box hB x hx
  have hmem : ∀ z ∈ shs (ns1 ++ [r]), z = r.sh ∨ z = (stayN t x left).sh ∨ z = (goesN t x left).sh ∨ (z ∈ shs t.nodes ∧ z.id ≠ x.id) := fun z hz => by
    rw [hshr] at hz
    rcases List.mem_append.1 hz with hz | hz
    · exact .inr (hmem1 z hz)
    · exact .inl (List.mem_singleton.1 hz)
  have hS3 : ∃ h' rk', Shp (shs (ns1 ++ [r])) [r.sh.id] h' rk' ∧ h' r.sh.id = h x.id + 1 := ⟨_, _, hS2, by simp only [if_true]⟩
  obtain ⟨h', rk', hS4, htop⟩ := hS3
  have hrid : r.sh.id = greatN t.nodes + 1 + 1 := by rw [hr']; rfl
  rw [hrid] at hS4 htop
  refine ⟨by rw [← hns1]; exact ha, h', rk', MidS.keyed (t := (splitF t x left).1) (w := 0) (hr := h t.root + 1) (b := b + 2) ?_ (by have := H.top; omega), by rw [hf]⟩
  rw [hf]
  refine ⟨hS4, ?_, ?_, ?_, ?_, ?_, ⟨by have := H.cnt; dsimp only; omega, hc⟩, ?_, ?_, ?_⟩
  · dsimp only; rw [htop, hroot]; exact Nat.le_refl _
  · intro hB z hz e he
    rcases List.mem_append.1 hz with hz | hz
    · rw [hns1] at hz
      rcases List.mem_append.1 hz with hz | hz
      · rcases mem_updN hz with rfl | ⟨hz, _⟩
        · exact hboxx hB e (stay_mem _ _ e he)
        · exact H.box hB z hz e he
      · rw [List.mem_singleton.1 hz] at he
        exact hboxx hB e (rest_mem _ _ e he)
    · rw [List.mem_singleton.1 hz, hr'] at he
      simp only [List.mem_cons, List.not_mem_nil, or_false] at he
      rcases he with rfl | rfl
      · exact boundK_box (fun e he => hboxx hB e (stay_mem _ _ e he))
      · exact boundK_box (fun e he => hboxx hB e (rest_mem _ _ e he))
  · intro z hz
    rcases hmem z hz with rfl | rfl | rfl | ⟨hz, _⟩
    · rw [hr']; simp
    · intro e
      have := congrArg List.length e
      simp only [NodeT.sh_ch, List.length_map, stayN, hpl.1, List.length_nil] at this
      omega
    · intro e
      have := congrArg List.length e
      simp only [NodeT.sh_ch, List.length_map, goesN, hpl.2, List.length_nil] at this
      omega
    · exact H.ne z hz
  · intro z hz
    refine .inl ?_
    rcases hmem z hz with rfl | rfl | rfl | ⟨hz, hne⟩
    · rw [hr']; simp
    · simp only [NodeT.sh_ch, List.length_map, stayN, hpl.1]; omega
    · simp only [NodeT.sh_ch, List.length_map, goesN, hpl.2]; omega
    · rcases H.wid z hz with h | ⟨h, _⟩
      · exact h
      · exact absurd h hne
  · intro z hz
    have hc0 := H.cnt
    rcases hmem z hz with rfl | rfl | rfl | ⟨hz, hne⟩
    · rw [hr']; simp only [NodeT.sh_mark]; omega
    · simp only [NodeT.sh_mark, stayN]; omega
    · simp only [NodeT.sh_mark, goesN]; omega
    · have := H.mark z hz; dsimp only; omega
  · intro a; rw [hrows]; exact H.rows a
  · intro a ha
    refine H.rpos a (List.count_pos_iff.1 ?_)
    rw [← hrows]; exact List.count_pos_iff.2 ha
  · have := H.len
    dsimp only
    rw [hns1]
    simp only [updN, List.length_map, List.length_append, List.length_singleton]
    omega
end Go.Proofs.Ytmjnpfackanhlaa.AM

namespace Go.Proofs.Ytmjnpfackanhlaa.AM
open Go
set_option linter.unusedVariables false
set_option linter.unusedSimpArgs false

structure Inv (t : TreeT) : Prop where
 shp : ∃ h rk, Shp (shs t.nodes) [t.root] h rk ∧ h t.root ≤ 11
 keys : KeysOk t.nodes
 box : BoxesOk t.nodes
 ne : ∀ x ∈ shs t.nodes, x.ch = [] → x.leaf = true ∧ x.id = t.root
 wid : ∀ x ∈ shs t.nodes, x.ch.length ≤ 4
 mark : ∀ x ∈ shs t.nodes, 0 ≤ x.mark ∧ x.mark ≤ t.count
 cnt : 0 ≤ t.count ∧ t.count < 18446744073709551616
 rows : ∀ a, (rowsS (shs t.nodes)).count a ≤ 1
 rpos : ∀ a ∈ rowsS (shs t.nodes), 0 < a ∧ a < 4294967296
 len : t.nodes.length ≤ 512

theorem Inv.nodup {t : TreeT} (H : Inv t) : (idsN t.nodes).Nodup := by
 obtain ⟨h, rk, hS, _⟩ := H.shp
 have := hS.nodup; simpa using this
theorem Shp.one {ns : List SN} {R : List Int} {h rk : Int → Nat} (H : Shp ns R h rk) {p q : SN} (hp : p ∈ ns) (hq : q ∈ ns) {c : Int} (h1 : c ∈ p.kids) (h2 : c ∈ q.kids) : p.id = q.id := by
 by_cases e : p = q
 ·rw [e]
 ·exfalso
  have h3 := H.kid c
  have h4 := H.cnt c
  have h5 := List.count_pos_iff.2 h1
  have h6 := List.count_pos_iff.2 h2
  obtain ⟨A, B, rfl⟩ := List.append_of_mem hp
  have h7 : q ∈ A ∨ q ∈ B := by
   rcases List.mem_append.1 hq with hq | hq
   ·exact .inl hq
   ·rcases List.mem_cons.1 hq with hq | hq
    ·exact absurd hq.symm e
    ·exact .inr hq
  have h8 : 2 ≤ (kidsS (A ++ p :: B)).count c := by
   simp only [kidsS, List.flatMap_append, List.flatMap_cons, List.count_append]
   rcases h7 with h7 | h7
   ·obtain ⟨C, D, rfl⟩ := List.append_of_mem h7
    simp only [List.flatMap_append, List.flatMap_cons, List.count_append]
    omega
   ·obtain ⟨C, D, rfl⟩ := List.append_of_mem h7
    simp only [List.flatMap_append, List.flatMap_cons, List.count_append]
    omega
  omega

/-! ### putting in -/
def Pth (ns : List NodeT) (w : List Int) (n : Nat) : Prop := ∀ j, j + 1 < n → ∃ q ∈ shs ns, q.id = w.getD j 0 ∧ w.getD (j + 1) 0 ∈ q.kids
structure WayOk (t : TreeT) (w : List Int) : Prop where
 ne : w ≠ []
 head : w.getD 0 0 = t.root
 pth : Pth t.nodes w w.length
 leaf : ∃ x ∈ t.nodes, x.id = w.getD (w.length - 1) 0 ∧ x.leaf = true
def atW (w : List Int) (n : Nat) : Int := if n = 0 then 0 else w.getD (n - 1) 0
structure PutL (B : Prop) (w : List Int) (n : Nat) (t : TreeT) (l : List SplitT) : Prop where
 mid : ∃ h rk b, Mid B t (atW w n) (w.length - 1) b h rk ∧ b + n ≤ 512 + w.length
 root : t.root = w.getD 0 0
 pth : Pth t.nodes w n
 ls : ∀ s ∈ l, s.root = false
 wlen : w.length ≤ 12
 nle : n ≤ w.length
 inn : ∀ j, j < n → w.getD j 0 ∈ idsN t.nodes

theorem pth_height {ns : List NodeT} {R : List Int} {h rk : Int → Nat} (H : Shp (shs ns) R h rk) {w : List Int} {n : Nat} (hp : Pth ns w n) : ∀ j, j < n → h (w.getD j 0) + j = h (w.getD 0 0) := by
 intro j
 induction j with
 | zero => intro _; rfl
 | succ j ih =>
  intro hj
  obtain ⟨q, hq, e, hc⟩ := hp j hj
  have := H.inn q hq _ hc
  have := ih (by omega)
  rw [e] at *
  omega
theorem put_start {B : Prop} {t : TreeT} (H : Inv t) {w : List Int} (hw : WayOk t w) {x : NodeT} (hx : x ∈ t.nodes) (hxw : x.id = w.getD (w.length - 1) 0) {k : KeyT} {row : Int} (hk : B → boxK k = true) (hr : 0 < row ∧ row < 4294967296) (hno : ¬ row ∈ rowsS (shs t.nodes)) :
    PutL B w w.length (keyedF { t with nodes := updN t.nodes { x with es := x.es ++ [⟨k, row⟩] } }) [] := by
  obtain ⟨h, rk, hS, htop⟩ := H.shp
  have hn := H.nodup
  have hwl : 0 < w.length := List.length_pos_iff.2 hw.ne
  obtain ⟨x0, hx0, hx0w, hlf⟩ := hw.leaf
  have hxl : x.leaf = true := by
    have h1 := findN_mem hn hx
    have h2 := findN_mem hn hx0
    rw [hxw, ← hx0w, h2] at h1
    rw [← Option.some.inj h1]; exact hlf
  have hh := pth_height hS hw.pth (w.length - 1) (by omega)
  rw [← hxw, hw.head] at hh
  have h0 := hS.lf _ (mem_shs hx) hxl
  rw [NodeT.sh_id] at h0
  obtain ⟨x', hx'⟩ : ∃ x' : NodeT, x' = { x with es := x.es ++ [⟨k, row⟩] } := ⟨_, rfl⟩
  rw [← hx']
  have hxk : x.sh.kids = [] := by simp [SN.kids, hxl]
  have hxk' : x'.sh.kids = [] := by rw [hx']; simp [SN.kids, hxl]
  have hS2 := hS.kidsd (R' := [t.root]) (p := x.sh) (p' := x'.sh) (mem_shs hx) (by rw [hx']; rfl) (by rw [hx']; rfl) (by rw [hx']; rfl) (fun a => by rw [hxk, hxk']) (fun c hc => by rw [hxk'] at hc; simp at hc)
  rw [← shs_updN] at hS2
  have hmem : ∀ z ∈ shs (updN t.nodes x'), z = x'.sh ∨ (z ∈ shs t.nodes ∧ z.id ≠ x.id) := fun z hz => by
    rw [shs_updN] at hz
    rcases mem_updS hz with e | ⟨hz, hne⟩
    · exact .inl e
    · exact .inr ⟨hz, by rw [hx'] at hne; exact hne⟩
  have hrows : ∀ a, (rowsS (shs (updN t.nodes x'))).count a = (rowsS (shs t.nodes)).count a + if row = a then 1 else 0 := fun a => by
    have e2 := updS_rows (ns := shs t.nodes) (x := x.sh) (x' := x'.sh) (by simpa using hn) (mem_shs hx) (by rw [hx']; rfl) a
    have e3 : x'.sh.rows.count a = x.sh.rows.count a + if row = a then 1 else 0 := by
      rw [hx']; simp [SN.rows, hxl, List.count_append, List.count_cons]
    rw [shs_updN]; omega
  have hnor : (rowsS (shs t.nodes)).count row = 0 := List.count_eq_zero.2 hno
  have hM : MidS B { t with nodes := updN t.nodes x' } (atW w w.length) (w.length - 1) 512 h rk := by
    have hat : atW w w.length = x.id := by unfold atW; rw [if_neg (by omega), hxw]
    refine ⟨hS2, ?_, ?_, ?_, ?_, ?_, H.cnt, ?_, ?_, by simpa [updN] using H.len⟩
    · dsimp only; omega
    · intro hB z hz e he
      rcases mem_updN hz with rfl | ⟨hz, _⟩
      · rw [hx'] at he
        rcases List.mem_append.1 he with he | he
        · exact H.box x hx e he
        · rw [List.mem_singleton.1 he]; exact hk hB
      · exact H.box z hz e he
    · intro z hz
      rcases hmem z hz with rfl | ⟨hz, hne⟩
      · rw [hx']; simp
      · intro e
        obtain ⟨e1, e2⟩ := H.ne z hz e
        have hz0 := hS.lf z hz e1
        rw [e2] at hz0
        -- the root is a leaf: then it is the way's last
        refine hne ?_
        have : w.length = 1 := by omega
        rw [e2, ← hw.head, hxw, this]
    · intro z hz
      rcases hmem z hz with rfl | ⟨hz, hne⟩
      · refine .inr ⟨by rw [hat, hx']; rfl, ?_⟩
        have := H.wid _ (mem_shs hx)
        rw [hx']
        simp only [NodeT.sh_ch, List.length_map, List.length_append, List.length_singleton] at this ⊢
        omega
      · exact .inl (H.wid z hz)
    · intro z hz
      rcases hmem z hz with rfl | ⟨hz, hne⟩
      · have := H.mark _ (mem_shs hx); rw [hx']; exact this
      · exact H.mark z hz
    · intro a
      rw [hrows]
      have := H.rows a
      split
      · rename_i e; rw [← e, hnor]; omega
      · omega
    · intro a ha
      have h1 := List.count_pos_iff.2 ha
      rw [hrows] at h1
      by_cases e : row = a
      · rw [← e]; exact hr
      · rw [if_neg e] at h1; exact H.rpos a (List.count_pos_iff.1 (by omega))
  have hn2 : (idsN (updN t.nodes x')).Nodup := by rw [idsN_updN]; exact hn
  have hkd : ∀ q ∈ shs t.nodes, ∃ q' ∈ shs (updN t.nodes x'), q'.id = q.id ∧ q'.kids = q.kids := fun q hq => by
    obtain ⟨q, hq', rfl⟩ := of_shs hq
    by_cases e : q.id = x.id
    · have hqx : q = x := by
        have h1 := findN_mem hn hq'
        have h2 := findN_mem hn hx
        rw [e, h2] at h1
        exact (Option.some.inj h1).symm
      exact ⟨x'.sh, mem_shs (updN_mem hx (by rw [hx'])), by rw [hqx, hx']; rfl, by rw [hqx, hxk, hxk']⟩
    · exact ⟨q.sh, mem_shs (updN_old hq' (by rw [hx']; exact e)), rfl, rfl⟩
  have hpth : Pth (keyedF { t with nodes := updN t.nodes x' }).nodes w w.length := by
    intro j hj
    rw [keyed_shs hn2]
    obtain ⟨q, hq, e, hc⟩ := hw.pth j hj
    obtain ⟨q', hq', e1, e2⟩ := hkd q hq
    exact ⟨q', hq', by rw [e1, e], by rw [e2]; exact hc⟩
  refine ⟨⟨h, rk, 512, hM.keyed (by omega), by omega⟩, hw.head.symm, hpth, by simp, by omega, Nat.le_refl _, fun j hj => ?_⟩
  have e0 : idsN (keyedF { t with nodes := updN t.nodes x' }).nodes = idsN t.nodes := by
    rw [← idsS_shs, keyed_shs hn2, idsS_shs]; exact idsN_updN _ _
  rw [e0]
  cases j with
  | zero =>
    rw [hw.head]
    have := hS.root_mem (c := t.root) (by simp)
    simpa using this
  | succ j =>
    obtain ⟨q, hq, e, hc⟩ := hw.pth j hj
    have := hS.kid_mem (mem_kids hq hc)
    simpa using this

theorem PutL.skip {B : Prop} {w : List Int} {n : Nat} {t : TreeT} {l : List SplitT} (H : PutL B w (n + 1) t l) {x : NodeT} (hx : x ∈ t.nodes) (hxw : x.id = w.getD n 0) (h4 : x.es.length ≤ 4) : PutL B w n t l := by
 obtain ⟨h, rk, b, hM, hb⟩ := H.mid
 refine ⟨⟨h, rk, b, ⟨hM.shp, hM.top, hM.keys, hM.box, hM.ne, fun z hz => ?_, hM.mark, hM.cnt, hM.rows, hM.rpos, hM.len⟩, by omega⟩, H.root, fun j hj => H.pth j (by omega), H.ls, H.wlen, by have := H.nle; omega, fun j hj => H.inn j (by omega)⟩
 rcases hM.wid z hz with h | ⟨h1, h2⟩
 ·exact .inl h
 ·refine .inl ?_
  have e1 : atW w (n + 1) = w.getD n 0 := by simp [atW]
  rw [e1, ← hxw] at h1
  have : z = x.sh := hM.shp.inj hz (mem_shs hx) h1
  rw [this]; simpa using h4
theorem PutL.split {B : Prop} {w : List Int} {n : Nat} {t : TreeT} {l : List SplitT} (H : PutL B w (n + 2) t l) {x : NodeT} (hx : x ∈ t.nodes) (hxw : x.id = w.getD (n + 1) 0) (h5 : 4 < x.es.length) {left : List Bool} (hl : left.length = x.es.length) (h1 : true ∈ left) (h0 : false ∈ left)
  (hc : t.count + 1 < 18446744073709551616) (hg : greatN t.nodes ≤ 4294967293) : PutL B w (n + 1) (keyedF (splitF t x left).1) (l ++ [(splitF t x left).2]) := by
 obtain ⟨h, rk, b, hM, hb⟩ := H.mid
 have hat : atW w (n + 2) = x.id := by simp [atW, hxw]
 rw [hat] at hM
 have hlen : x.es.length = 5 := by
  rcases hM.wid _ (mem_shs hx) with h | ⟨_, h⟩ <;> simp at h <;> omega
 obtain ⟨q, hq, hqe, hqc⟩ := H.pth n (by omega)
 have hxr : x.id ≠ t.root := fun e => hM.shp.root_kid (c := t.root) (by simp) (by rw [← e, hxw]; exact mem_kids hq hqc)
 have hwl := H.wlen
 obtain ⟨p, hp, hpk, _, h', rk', hM', hr1, hr2, hkeep⟩ := hM.split_in hx hlen (by omega) h1 h0 hc hg (by omega) hxr
 have hpq : p.id = w.getD n 0 := by rw [← hqe]; exact hM.shp.one (mem_shs hp) hq hpk (by rw [hxw]; exact hqc)
 have hhx := pth_height hM.shp H.pth (n + 1) (by omega)
 have hpth : Pth (keyedF (splitF t x left).1).nodes w (n + 1) := by
  intro j hj
  obtain ⟨q, hq, e, hc⟩ := H.pth j (by omega)
  refine hkeep _ _ (fun e2 => ?_) ⟨q, hq, e, hc⟩
  have := pth_height hM.shp H.pth j (by omega)
  rw [e2, hxw] at this
  omega
 refine ⟨⟨h', rk', b + 1, by simpa [atW, hpq] using hM', by omega⟩, by rw [← H.root]; exact hr1, hpth, fun s hs => ?_, H.wlen, by have := H.nle; omega, fun j hj => ?_⟩
 ·rcases List.mem_append.1 hs with hs | hs
  ·exact H.ls s hs
  ·rw [List.mem_singleton.1 hs]; exact hr2
 ·cases j with
  | zero =>
   have h9 := hM'.shp.root_mem (c := (keyedF (splitF t x left).1).root) (by simp)
   have h8 : (keyedF (splitF t x left).1).root = t.root := hr1
   rw [h8, H.root] at h9
   simpa using h9
  | succ j =>
   obtain ⟨q, hq, e, hc⟩ := hpth j (by omega)
   have := hM'.shp.kid_mem (mem_kids hq hc)
   simpa using this
theorem PutL.last {B : Prop} {w : List Int} {t : TreeT} {l : List SplitT} (H : PutL B w 1 t l) {x : NodeT} (hx : x ∈ t.nodes) (hxw : x.id = w.getD 0 0) (h5 : 4 < x.es.length) {left : List Bool} (hl : left.length = x.es.length) (h1 : true ∈ left) (h0 : false ∈ left)
  (hc : t.count + 1 < 18446744073709551616) (hg : greatN t.nodes ≤ 4294967293) : (splitF t x left).2.root = true ∧ ∃ h rk b, Mid B (keyedF (splitF t x left).1) 0 w.length b h rk ∧ b ≤ 513 + w.length := by
 obtain ⟨h, rk, b, hM, hb⟩ := H.mid
 have hat : atW w 1 = x.id := by simp [atW, hxw]
 rw [hat] at hM
 have hlen : x.es.length = 5 := by
  rcases hM.wid _ (mem_shs hx) with h | ⟨_, h⟩ <;> simp at h <;> omega
 have hwl := H.wlen
 have hn := H.nle
 obtain ⟨_, h', rk', hM', hr⟩ := hM.split_top hx hlen (by omega) h1 h0 hc hg (by omega) (by rw [hxw, H.root])
 refine ⟨hr, h', rk', b + 2, ⟨hM'.shp, ?_, hM'.keys, hM'.box, hM'.ne, hM'.wid, hM'.mark, hM'.cnt, hM'.rows, hM'.rpos, hM'.len⟩, by omega⟩
 have h1 := hM'.top
 have h2 := hM.top
 omega
theorem Mid.inv {B : Prop} {t : TreeT} {hr b : Nat} {h rk : Int → Nat} (H : Mid B t 0 hr b h rk) (hB : B) (h11 : hr ≤ 11) (hl : t.nodes.length ≤ 512) : Inv t :=
  ⟨⟨h, rk, H.shp, by have := H.top; omega⟩, H.keys, H.box hB, fun x hx e => absurd e (H.ne x hx), fun x hx => by
    rcases H.wid x hx with h | ⟨h, _⟩
    · exact h
    · have := (H.shp.pos x hx).1; omega, H.mark, H.cnt, H.rows, H.rpos, hl⟩

/-! ### taking out -/
def dropE (es : List LinkT) (c : Int) : List LinkT := es.filter (fun e => e.child != c)
def remN (ns : List NodeT) (z : NodeT) : List NodeT := (ns.filter (fun w => w.id != z.id)).map (fun w => if w.right = z.id then { w with right := z.right } else w)
theorem shs_remN (ns : List NodeT) (z : NodeT) : shs (remN ns z) = remS (shs ns) z.sh := by
 simp only [shs, remN, remS, List.map_map, List.filter_map]
 have : ((fun w : SN => w.id != z.sh.id) ∘ NodeT.sh) = (fun w : NodeT => w.id != z.id) := by funext w; rfl
 rw [this]
 refine List.map_congr_left (fun w hw => ?_)
 show NodeT.sh (if w.right = z.id then { w with right := z.right } else w) = if w.sh.right = z.sh.id then { w.sh with right := z.sh.right } else w.sh
 by_cases e : w.right = z.id
 ·rw [if_pos e, if_pos (show w.sh.right = z.sh.id from e)]; rfl
 ·rw [if_neg e, if_neg (show ¬ w.sh.right = z.sh.id from e)]
theorem dropE_count (es : List LinkT) (c a : Int) : ((dropE es c).map (·.child)).count a = if c = a then 0 else (es.map (·.child)).count a := by
  induction es with
  | nil => simp [dropE]
  | cons e es ih =>
    unfold dropE at ih ⊢
    rw [List.filter_cons]
    by_cases h : e.child = c
    · simp only [h, bne_self_eq_false, Bool.false_eq_true, if_false, ih, List.map_cons, List.count_cons]
      by_cases h2 : c = a <;> simp [h2]
    · have h' : (e.child != c) = true := by simpa using h
      simp only [h', if_true, List.map_cons, List.count_cons, ih]
      by_cases h2 : c = a
      · have : ¬ e.child = a := by rw [← h2]; exact h
        simp [h2, this]
      · simp [h2]
theorem dropE_mem {es : List LinkT} {c : Int} {e : LinkT} (h : e ∈ dropE es c) : e ∈ es := (List.mem_filter.1 h).1
theorem dropE_len (es : List LinkT) (c : Int) : (dropE es c).length ≤ es.length := List.length_filter_le _ _
def upF : Nat → List NodeT → Int → List NodeT
 | 0, ns, _ => ns
 | n + 1, ns, at' => match findN ns at', aboveN ns at' with
  | some x, some p => if x.es = [] then upF n (remN (updN ns { p with es := dropE p.es at' }) x) p.id else ns
  | _, _ => ns
structure Tak (t : TreeT) (w : Int) (h rk : Int → Nat) : Prop where
 shp : Shp (shs t.nodes) [t.root] h rk
 top : h t.root ≤ 11
 box : BoxesOk t.nodes
 ne : ∀ x ∈ shs t.nodes, x.ch = [] → x.id = w
 wid : ∀ x ∈ shs t.nodes, x.ch.length ≤ 4
 mark : ∀ x ∈ shs t.nodes, 0 ≤ x.mark ∧ x.mark ≤ t.count
 cnt : 0 ≤ t.count ∧ t.count < 18446744073709551616
 rows : ∀ a, (rowsS (shs t.nodes)).count a ≤ 1
 rpos : ∀ a ∈ rowsS (shs t.nodes), 0 < a ∧ a < 4294967296
 len : t.nodes.length ≤ 512
 inn : w ∈ idsN t.nodes
theorem Tak.nodup {t : TreeT} {w : Int} {h rk : Int → Nat} (H : Tak t w h rk) : (idsN t.nodes).Nodup := by have := H.shp.nodup; simpa using this
theorem take_start {t : TreeT} (H : Inv t) {x : NodeT} (hx : x ∈ t.nodes) (hl : x.leaf = true) (row : Int) : ∃ h rk, Tak { t with nodes := updN t.nodes { x with es := dropE x.es row } } x.id h rk ∧ h x.id = 0 := by
 obtain ⟨h, rk, hS, htop⟩ := H.shp
 have hn := H.nodup
 obtain ⟨x', hx'⟩ : ∃ x' : NodeT, x' = { x with es := dropE x.es row } := ⟨_, rfl⟩
 rw [← hx']
 have hxk : x.sh.kids = [] := by simp [SN.kids, hl]
 have hxk' : x'.sh.kids = [] := by rw [hx']; simp [SN.kids, hl]
 have hS2 := hS.kidsd (R' := [t.root]) (p := x.sh) (p' := x'.sh) (mem_shs hx) (by rw [hx']; rfl) (by rw [hx']; rfl) (by rw [hx']; rfl) (fun a => by rw [hxk, hxk']) (fun c hc => by rw [hxk'] at hc; simp at hc)
 rw [← shs_updN] at hS2
 have hmem : ∀ z ∈ shs (updN t.nodes x'), z = x'.sh ∨ (z ∈ shs t.nodes ∧ z.id ≠ x.id) := fun z hz => by
  rw [shs_updN] at hz
  rcases mem_updS hz with e | ⟨hz, hne⟩
  ·exact .inl e
  ·exact .inr ⟨hz, by rw [hx'] at hne; exact hne⟩
 have hrows : ∀ a, (rowsS (shs (updN t.nodes x'))).count a ≤ (rowsS (shs t.nodes)).count a := fun a => by
  have e2 := updS_rows (ns := shs t.nodes) (x := x.sh) (x' := x'.sh) (by simpa using hn) (mem_shs hx) (by rw [hx']; rfl) a
  have e3 : x'.sh.rows.count a ≤ x.sh.rows.count a := by
   have := dropE_count x.es row a
   rw [hx']; simp only [SN.rows, NodeT.sh_leaf, hl, if_true, NodeT.sh_ch, this]
   split <;> omega
  rw [shs_updN]; omega
 refine ⟨h, rk, ⟨hS2, htop, ?_, ?_, ?_, ?_, H.cnt, fun a => Nat.le_trans (hrows a) (H.rows a), fun a ha => H.rpos a (List.count_pos_iff.1 (Nat.lt_of_lt_of_le (List.count_pos_iff.2 ha) (hrows a))), by simpa [updN] using H.len, ?_⟩, hS.lf _ (mem_shs hx) hl⟩
 ·intro z hz e he
  rcases mem_updN hz with rfl | ⟨hz, _⟩
  ·rw [hx'] at he; exact H.box x hx e (dropE_mem he)
  ·exact H.box z hz e he
 ·intro z hz e
  rcases hmem z hz with rfl | ⟨hz, hne⟩
  ·rw [hx']; rfl
  ·obtain ⟨e1, e2⟩ := H.ne z hz e
   -- the root is an empty leaf: then it is the only one
   have h0 := hS.lf z hz e1
   have := hS.top_le _ (mem_shs hx)
   rcases hS.root_or (mem_ids (mem_shs hx)) with hr | hk
   ·rw [e2, ← List.mem_singleton.1 hr]; rfl
   ·obtain ⟨p, hp, hc⟩ := List.mem_flatMap.1 hk
    have h1 := hS.inn p hp _ hc
    have h2 := hS.top_le p hp
    rw [e2] at h0
    omega
 ·intro z hz
  rcases hmem z hz with rfl | ⟨hz, hne⟩
  ·have := H.wid _ (mem_shs hx)
   have h2 := dropE_len x.es row
   rw [hx']
   simp only [NodeT.sh_ch, List.length_map] at this ⊢
   omega
  ·exact H.wid z hz
 ·intro z hz
  rcases hmem z hz with rfl | ⟨hz, hne⟩
  ·have := H.mark _ (mem_shs hx); rw [hx']; exact this
  ·exact H.mark z hz
 ·dsimp only; rw [idsN_updN]; exact List.mem_map.2 ⟨x, hx, rfl⟩

theorem remN_ids {ns : List NodeT} {z : NodeT} : idsN (remN ns z) = (idsN ns).filter (fun a => a != z.id) := by
 unfold idsN remN
 rw [List.map_map, List.filter_map]
 have : ((fun a : Int => a != z.id) ∘ fun x : NodeT => x.id) = (fun w : NodeT => w.id != z.id) := rfl
 rw [this]
 refine List.map_congr_left (fun w hw => ?_)
 simp only [Function.comp]
 split <;> rfl
theorem mem_remN {ns : List NodeT} {z w : NodeT} (hw : w ∈ remN ns z) : ∃ v ∈ ns, v.id ≠ z.id ∧ w.id = v.id ∧ w.es = v.es ∧ w.leaf = v.leaf ∧ w.mark = v.mark := by
 obtain ⟨v, hv, e⟩ := List.mem_map.1 hw
 rw [List.mem_filter] at hv
 refine ⟨v, hv.1, by simpa using hv.2, ?_⟩
 split at e <;> subst e <;> exact ⟨rfl, rfl, rfl, rfl⟩

theorem filter_count {α : Type} (p : α → Bool) (f : α → List Int) (l : List α) (a : Int) : ((l.filter p).flatMap f).count a ≤ (l.flatMap f).count a := by
 induction l with
 | nil => exact Nat.le_refl _
 | cons x l ih =>
  rw [List.filter_cons]
  split
  ·simp only [List.flatMap_cons, List.count_append]; omega
  ·simp only [List.flatMap_cons, List.count_append]; omega
theorem Tak.step {t : TreeT} {h rk : Int → Nat} {x p : NodeT} (H : Tak t x.id h rk) (hx : x ∈ t.nodes) (he : x.es = []) (hp : p ∈ t.nodes) (hpk : x.id ∈ p.sh.kids) :
    Tak { t with nodes := remN (updN t.nodes { p with es := dropE p.es x.id }) x } p.id h rk ∧ h p.id = h x.id + 1 := by
  have hn := H.nodup
  have hpl : p.leaf = false := by
    cases e : p.leaf with
    | false => rfl
    | true => simp [SN.kids, e] at hpk
  have hpkk : p.sh.kids = p.es.map (·.child) := by simp [SN.kids, hpl]
  have hh : h p.id = h x.id + 1 := H.shp.inn _ (mem_shs hp) _ hpk
  have hxp : x.id ≠ p.id := fun e => by rw [e] at hh; omega
  have hc1 : (p.es.map (·.child)).count x.id = 1 := by
    have h1 := List.count_pos_iff.2 hpk
    have h2 := H.shp.kid x.id
    have h3 := H.shp.cnt x.id
    have h4 : p.sh.kids.count x.id ≤ (kidsS (shs t.nodes)).count x.id := by
      obtain ⟨A, B, e⟩ := List.append_of_mem (mem_shs hp)
      rw [e]
      simp only [kidsS, List.flatMap_append, List.flatMap_cons, List.count_append]
      omega
    rw [hpkk] at h1 h4
    omega
  obtain ⟨p', hp'⟩ : ∃ p' : NodeT, p' = { p with es := dropE p.es x.id } := ⟨_, rfl⟩
  rw [← hp']
  have hp'k : p'.sh.kids = (dropE p.es x.id).map (·.child) := by rw [hp']; simp [SN.kids, hpl]
  have hS1 := H.shp.kidsd (R' := [x.id, t.root]) (p := p.sh) (p' := p'.sh) (mem_shs hp) (by rw [hp']; rfl) (by rw [hp']; rfl) (by rw [hp']; rfl) (fun a => by
      rw [hp'k, hpkk, dropE_count]
      simp only [List.count_cons, List.count_nil, beq_iff_eq]
      by_cases e : x.id = a
      · rw [if_pos e, if_pos e, ← e, hc1]
      · rw [if_neg e, if_neg e]; omega) (fun c hc => by
      rw [hp'k] at hc
      obtain ⟨e, he, rfl⟩ := List.mem_map.1 hc
      refine H.shp.inn _ (mem_shs hp) _ ?_
      rw [hpkk]; exact List.mem_map.2 ⟨e, dropE_mem he, rfl⟩)
  rw [← shs_updN] at hS1
  have hx1 : x ∈ updN t.nodes p' := updN_old hx (by rw [hp']; exact hxp)
  have hS2 := hS1.rem (R' := [t.root]) (z := x.sh) (mem_shs hx1) (by simp [SN.kids, he]) (fun a => by
    show List.count a [x.id, t.root] = List.count a [t.root] + if x.id = a then 1 else 0
    simp only [List.count_cons, List.count_nil, beq_iff_eq])
  rw [← shs_remN] at hS2
  have hmem : ∀ w ∈ remN (updN t.nodes p') x, (w.id = p.id ∧ w.es = p'.es ∧ w.leaf = p.leaf ∧ w.mark = p.mark) ∨ ∃ v ∈ t.nodes, v.id ≠ x.id ∧ v.id ≠ p.id ∧ w.id = v.id ∧ w.es = v.es ∧ w.leaf = v.leaf ∧ w.mark = v.mark := fun w hw => by
    obtain ⟨v, hv, h1, h2, h3, h4, h5⟩ := mem_remN hw
    rcases mem_updN hv with rfl | ⟨hv, hne⟩
    · exact .inl ⟨by rw [h2, hp'], h3, by rw [h4, hp'], by rw [h5, hp']⟩
    · exact .inr ⟨v, hv, h1, by rw [hp'] at hne; exact hne, h2, h3, h4, h5⟩
  have hrows : ∀ a, (rowsS (shs (remN (updN t.nodes p') x))).count a ≤ (rowsS (shs t.nodes)).count a := fun a => by
    have e2 := updS_rows (ns := shs t.nodes) (x := p.sh) (x' := p'.sh) (by simpa using hn) (mem_shs hp) (by rw [hp']; rfl) a
    have e3 : p'.sh.rows = [] := by rw [hp']; simp [SN.rows, hpl]
    have e4 : p.sh.rows = [] := by simp [SN.rows, hpl]
    rw [e3, e4, ← shs_updN] at e2
    have e5 : (rowsS (shs (remN (updN t.nodes p') x))).count a ≤ (rowsS (shs (updN t.nodes p'))).count a := by
      rw [shs_remN]
      unfold remS rowsS
      rw [List.flatMap_map]
      have e6 : (fun w : SN => SN.rows (if w.right = x.sh.id then { w with right := x.sh.right } else w)) = SN.rows := by
        funext w; split <;> rfl
      rw [e6]
      exact filter_count _ _ _ a
    omega
  refine ⟨⟨hS2, H.top, ?_, ?_, ?_, ?_, H.cnt, fun a => Nat.le_trans (hrows a) (H.rows a), fun a ha => H.rpos a (List.count_pos_iff.1 (Nat.lt_of_lt_of_le (List.count_pos_iff.2 ha) (hrows a))), ?_, ?_⟩, hh⟩
  · intro z hz e hee
    rcases hmem z hz with ⟨_, h2, _⟩ | ⟨v, hv, _, _, _, h2, _⟩
    · rw [h2, hp'] at hee; exact H.box p hp e (dropE_mem hee)
    · rw [h2] at hee; exact H.box v hv e hee
  · intro z hz e
    obtain ⟨z, hz', rfl⟩ := of_shs hz
    rcases hmem z hz' with ⟨h1, _⟩ | ⟨v, hv, h1, h1', h2, h3, _⟩
    · exact h1
    · exfalso
      refine h1 (H.ne _ (mem_shs hv) ?_)
      simpa [h3] using e
  · intro z hz
    obtain ⟨z, hz', rfl⟩ := of_shs hz
    rcases hmem z hz' with ⟨_, h2, _⟩ | ⟨v, hv, _, _, _, h2, _⟩
    · have := H.wid _ (mem_shs hp)
      have h3 := dropE_len p.es x.id
      simp only [NodeT.sh_ch, List.length_map, h2, hp'] at this ⊢
      omega
    · have := H.wid _ (mem_shs hv)
      simpa [h2] using this
  · intro z hz
    obtain ⟨z, hz', rfl⟩ := of_shs hz
    rcases hmem z hz' with ⟨_, _, _, h2⟩ | ⟨v, hv, _, _, _, _, _, h2⟩
    · have := H.mark _ (mem_shs hp); simpa [h2] using this
    · have := H.mark _ (mem_shs hv); simpa [h2] using this
  · have := H.len
    have h3 : (remN (updN t.nodes p') x).length ≤ (updN t.nodes p').length := by
      unfold remN; rw [List.length_map]; exact List.length_filter_le _ _
    simp only [updN, List.length_map] at h3
    simp only [updN]
    omega
  · dsimp only
    rw [remN_ids, idsN_updN, List.mem_filter]
    exact ⟨List.mem_map.2 ⟨p, hp, rfl⟩, by simpa using fun e => hxp e.symm⟩
end Go.Proofs.Ytmjnpfackanhlaa.AM

namespace Go.Proofs.Ytmjnpfackanhlaa.AM
open Go
set_option linter.unusedVariables false
set_option linter.unusedSimpArgs false

def emptyF (count : Int) : TreeT := ⟨[⟨1, true, [], 0, 0⟩], 1, count⟩
theorem inv_empty {c : Int} (hc : 0 ≤ c ∧ c < 18446744073709551616) : Inv (emptyF c) := by
 refine ⟨⟨fun _ => 0, fun _ => 0, ⟨?_, ?_, ?_, ?_, ?_, ?_⟩, by simp⟩, ?_, ?_, ?_, ?_, ?_, hc, ?_, ?_, by simp [emptyF]⟩
 ·simp [emptyF, shs, idsS]
 ·intro x hx; simp [emptyF, shs, NodeT.sh] at hx; subst hx; simp
 ·intro a; simp [emptyF, shs, idsS, kidsS, SN.kids, NodeT.sh]
 ·intro x hx _; rfl
 ·intro x hx c hc; simp [emptyF, shs, NodeT.sh] at hx; subst hx; simp [SN.kids] at hc
 ·intro x hx hr; simp [emptyF, shs, NodeT.sh] at hx; subst hx; simp at hr
 ·intro x hx; simp [emptyF] at hx; subst hx; rfl
 ·intro x hx e he; simp [emptyF] at hx; subst hx; simp at he
 ·intro x hx _; simp [emptyF, shs, NodeT.sh] at hx; subst hx; simp [emptyF]
 ·intro x hx; simp [emptyF, shs, NodeT.sh] at hx; subst hx; simp
 ·intro x hx; simp [emptyF, shs, NodeT.sh] at hx; subst hx; simpa [emptyF] using hc.1
 ·intro a; simp [emptyF, shs, NodeT.sh, rowsS, SN.rows]
 ·intro a ha; simp [emptyF, shs, NodeT.sh, rowsS, SN.rows] at ha

theorem Tak.atroot {t : TreeT} {w : Int} {h rk : Int → Nat} (H : Tak t w h rk) (hw : w = t.root ∨ ∀ x ∈ t.nodes, x.id = w → x.es ≠ []) : Tak t t.root h rk := by
  refine ⟨H.shp, H.top, H.box, fun x hx e => ?_, H.wid, H.mark, H.cnt, H.rows, H.rpos, H.len, ?_⟩
  · rcases hw with hw | hw
    · rw [← hw]; exact H.ne x hx e
    · obtain ⟨y, hy, rfl⟩ := of_shs hx
      exact absurd (by simpa using e) (hw y hy (H.ne _ hx e))
  · have := H.shp.root_mem (c := t.root) (by simp)
    simpa using this
theorem upF_ok : ∀ (n : Nat) {t : TreeT} {w : Int} {h rk : Int → Nat}, Tak t w h rk → h t.root < n + h w → Tak { t with nodes := upF n t.nodes w } t.root h rk
 | 0, t, w, h, rk, H, hn => by
  obtain ⟨x, hx⟩ := findN_ids H.inn
  obtain ⟨hx, e⟩ := findN_some hx
  have := H.shp.top_le _ (mem_shs hx)
  rw [NodeT.sh_id, e] at this
  omega
 | n + 1, t, w, h, rk, H, hn => by
  obtain ⟨x, hxf⟩ := findN_ids H.inn
  obtain ⟨hx, e⟩ := findN_some hxf
  unfold upF
  rw [hxf]
  cases ha : aboveN t.nodes w with
  | none =>
   dsimp only
   refine H.atroot (.inl ?_)
   rcases H.shp.root_or (c := w) (by simpa using H.inn) with h1 | h1
   ·exact List.mem_singleton.1 h1
   ·exact absurd h1 (aboveN_none ha)
  | some p =>
   obtain ⟨hp, hpk⟩ := aboveN_some ha
   dsimp only
   subst e
   by_cases he : x.es = []
   ·rw [if_pos he]
    obtain ⟨h1, h2⟩ := H.step hx he hp hpk
    have := upF_ok n h1 (by dsimp only; omega)
    exact this
   ·rw [if_neg he]
    refine H.atroot (.inr fun y hy hyx => ?_)
    have h1 := findN_mem H.nodup hy
    rw [hyx, hxf] at h1
    rw [← Option.some.inj h1]; exact he

theorem keyE_congr {ns ns' : List NodeT} {e : LinkT} (h : (findN ns' e.child).map (·.es) = (findN ns e.child).map (·.es)) : keyE ns' e = keyE ns e := by
 unfold keyE
 cases h1 : findN ns' e.child with
 | none =>
  cases h2 : findN ns e.child with
  | none => rfl
  | some c => rw [h1, h2] at h; cases h
 | some c' =>
  cases h2 : findN ns e.child with
  | none => rw [h1, h2] at h; cases h
  | some c =>
   rw [h1, h2] at h
   have : c'.es = c.es := Option.some.inj h
   dsimp only
   rw [this]
theorem findN_remN {ns : List NodeT} {z : NodeT} {id : Int} (h : id ≠ z.id) : (findN (remN ns z) id).map (·.es) = (findN ns id).map (·.es) := by
  unfold findN remN
  induction ns with
  | nil => rfl
  | cons w ns ih =>
    rw [List.filter_cons]
    by_cases e : w.id = z.id
    · have h1 : (w.id != z.id) = false := by simp [e]
      have h2 : ¬ w.id = id := fun e2 => h (by rw [← e2, e])
      rw [h1, if_neg (by simp), List.find?_cons]
      simp only [h2, decide_false]
      exact ih
    · have h1 : (w.id != z.id) = true := by simpa using e
      rw [h1, if_pos rfl, List.map_cons, List.find?_cons, List.find?_cons]
      by_cases e3 : w.right = z.id
      · rw [if_pos e3]
        cases decide (w.id = id) with
        | true => rfl
        | false => exact ih
      · rw [if_neg e3]
        cases decide (w.id = id) with
        | true => rfl
        | false => exact ih
theorem remN_updN {ns : List NodeT} {x' x : NodeT} (hid : x'.id = x.id) : remN (updN ns x') x = remN ns x := by
  unfold remN updN
  induction ns with
  | nil => rfl
  | cons w ns ih =>
    rw [List.map_cons, List.filter_cons, List.filter_cons]
    by_cases e : w.id = x'.id
    · have h1 : (w.id != x.id) = false := by simp [e, hid]
      have h2 : (x'.id != x.id) = false := by simp [hid]
      rw [if_pos e, h1, h2]
      simpa using ih
    · have h1 : (w.id != x.id) = true := by rw [← hid]; simpa using e
      rw [if_neg e, h1, if_pos rfl, if_pos rfl, List.map_cons, List.map_cons, ih]

def rootF : Nat → TreeT → TreeT
 | 0, t => t
 | n + 1, t => match findN t.nodes t.root with
  | none => t
  | some x => if x.leaf = true ∨ 1 < x.es.length then t else match x.es with
   | [] => emptyF t.count
   | e :: _ => rootF n ⟨remN t.nodes x, e.child, t.count⟩
theorem Tak.shrink {t : TreeT} {h rk : Int → Nat} (H : Tak t t.root h rk) (hk : KeysOk t.nodes) {x : NodeT} (hx : x ∈ t.nodes) (hxr : x.id = t.root) (hl : x.leaf = false) {e : LinkT} (he : x.es = [e]) :
    Tak ⟨remN t.nodes x, e.child, t.count⟩ e.child h rk ∧ KeysOk (remN t.nodes x) ∧ ∀ z ∈ remN t.nodes x, z.es ≠ [] := by
  have hn := H.nodup
  have hxk : x.sh.kids = [e.child] := by simp [SN.kids, hl, he]
  have hh := H.shp.inn _ (mem_shs hx) e.child (by rw [hxk]; simp)
  rw [NodeT.sh_id] at hh
  obtain ⟨x', hx'⟩ : ∃ x' : NodeT, x' = { x with es := [] } := ⟨_, rfl⟩
  have hxk' : x'.sh.kids = [] := by rw [hx']; simp [SN.kids, hl]
  have hS1 := H.shp.kidsd (R' := [e.child, t.root]) (p := x.sh) (p' := x'.sh) (mem_shs hx) (by rw [hx']; rfl) (by rw [hx']; rfl) (by rw [hx']; rfl) (fun a => by
      rw [hxk, hxk']
      simp only [List.count_cons, List.count_nil]; omega) (fun c hc => by rw [hxk'] at hc; simp at hc)
  rw [← shs_updN] at hS1
  have hS2 := hS1.rem (R' := [e.child]) (z := x'.sh) (mem_shs (updN_mem hx (by rw [hx']))) hxk' (fun a => by
    show List.count a [e.child, t.root] = List.count a [e.child] + if x'.id = a then 1 else 0
    have : x'.id = t.root := by rw [hx']; exact hxr
    rw [this]
    simp only [List.count_cons, List.count_nil, beq_iff_eq]; omega)
  rw [← shs_remN] at hS2
  have hrem : remN (updN t.nodes x') x' = remN t.nodes x := by
    have h1 : ∀ l, remN l x' = remN l x := fun l => by unfold remN; rw [hx']
    rw [h1, remN_updN (by rw [hx'])]
  rw [hrem] at hS2
  have hne : ∀ z ∈ remN t.nodes x, z.es ≠ [] := fun z hz e => by
    obtain ⟨v, hv, h1, h2, h3, _⟩ := mem_remN hz
    have := H.ne _ (mem_shs hv) (by simpa [h3] using e)
    exact h1 (by rw [hxr]; exact this)
  have hrows : ∀ a, (rowsS (shs (remN t.nodes x))).count a ≤ (rowsS (shs t.nodes)).count a := fun a => by
    rw [shs_remN]
    unfold remS rowsS
    rw [List.flatMap_map]
    have e6 : (fun w : SN => SN.rows (if w.right = x.sh.id then { w with right := x.sh.right } else w)) = SN.rows := by
      funext w; split <;> rfl
    rw [e6]
    exact filter_count _ _ _ a
  refine ⟨⟨hS2, ?_, ?_, ?_, ?_, ?_, H.cnt, fun a => Nat.le_trans (hrows a) (H.rows a), fun a ha => H.rpos a (List.count_pos_iff.1 (Nat.lt_of_lt_of_le (List.count_pos_iff.2 ha) (hrows a))), ?_, ?_⟩, ?_, hne⟩
  · have := H.top
    rw [hxr] at hh
    dsimp only; omega
  · intro z hz e hee
    obtain ⟨v, hv, h1, h2, h3, _⟩ := mem_remN hz
    rw [h3] at hee; exact H.box v hv e hee
  · intro z hz e
    obtain ⟨z, hz', rfl⟩ := of_shs hz
    exact absurd (by simpa using e) (hne z hz')
  · intro z hz
    obtain ⟨z, hz', rfl⟩ := of_shs hz
    obtain ⟨v, hv, h1, h2, h3, _⟩ := mem_remN hz'
    have := H.wid _ (mem_shs hv)
    simpa [h3] using this
  · intro z hz
    obtain ⟨z, hz', rfl⟩ := of_shs hz
    obtain ⟨v, hv, h1, h2, h3, h4, h5⟩ := mem_remN hz'
    have := H.mark _ (mem_shs hv)
    simpa [h5] using this
  · have := H.len
    have h3 : (remN t.nodes x).length ≤ t.nodes.length := by
      unfold remN; rw [List.length_map]; exact List.length_filter_le _ _
    dsimp only; omega
  · have := hS2.root_mem (c := e.child) (by simp)
    simpa using this
  · intro z hz
    obtain ⟨v, hv, h1, h2, h3, h4, h5⟩ := mem_remN hz
    have hkv := hk v hv
    unfold keyN at hkv ⊢
    cases hlv : v.leaf with
    | true => rw [if_pos (h4.trans hlv)]
    | false =>
      rw [hlv] at hkv
      simp only [Bool.false_eq_true, if_false] at hkv
      have h6 : ¬ z.leaf = true := by rw [h4, hlv]; simp
      rw [if_neg h6]
      have hes : v.es.map (keyE t.nodes) = v.es := congrArg NodeT.es hkv
      have : z.es.map (keyE (remN t.nodes x)) = z.es := by
        rw [h3]
        conv => rhs; rw [← hes]
        refine List.map_congr_left (fun e1 he1 => ?_)
        refine keyE_congr (findN_remN (fun e2 => ?_))
        refine H.shp.root_kid (c := t.root) (by simp) ?_
        rw [← hxr, ← e2]
        refine mem_kids (mem_shs hv) ?_
        simp only [SN.kids, NodeT.sh_leaf, hlv, NodeT.sh_ch, Bool.false_eq_true, if_false]
        exact List.mem_map.2 ⟨e1, he1, rfl⟩
      rw [this]

theorem Tak.inv {t : TreeT} {h rk : Int → Nat} (H : Tak t t.root h rk) (hk : KeysOk t.nodes) (hne : ∀ x ∈ t.nodes, x.id = t.root → x.es = [] → x.leaf = true) : Inv t :=
 ⟨⟨h, rk, H.shp, H.top⟩, hk, H.box, fun x hx e => by
  obtain ⟨y, hy, rfl⟩ := of_shs hx
  have h1 := H.ne _ hx e
  exact ⟨hne y hy h1 (by simpa using e), h1⟩, H.wid, H.mark, H.cnt, H.rows, H.rpos, H.len⟩
theorem rootF_ok : ∀ (n : Nat) {t : TreeT} {h rk : Int → Nat}, Tak t t.root h rk → KeysOk t.nodes → (0 < n ∨ ∀ z ∈ t.nodes, z.es ≠ []) → Inv (rootF n t)
 | 0, t, h, rk, H, hk, hn => H.inv hk (fun x hx _ e => by
  rcases hn with h | h
  ·omega
  ·exact absurd e (h x hx))
 | n + 1, t, h, rk, H, hk, hn => by
  obtain ⟨x, hxf⟩ := findN_ids H.inn
  obtain ⟨hx, e⟩ := findN_some hxf
  have huniq : ∀ y ∈ t.nodes, y.id = t.root → y = x := fun y hy hyr => by
   have h1 := findN_mem H.nodup hy
   rw [hyr, hxf] at h1
   exact (Option.some.inj h1).symm
  unfold rootF
  rw [hxf]
  dsimp only
  split
  ·rename_i hc
   refine H.inv hk (fun y hy hyr hye => ?_)
   rw [huniq y hy hyr] at hye ⊢
   rcases hc with hc | hc
   ·exact hc
   ·rw [hye] at hc; simp at hc
  ·rename_i hc
   have hl : x.leaf = false := by
    cases e2 : x.leaf with
    | false => rfl
    | true => exact absurd (.inl e2) hc
   cases he : x.es with
   | nil => exact inv_empty H.cnt
   | cons e1 l =>
    have hl2 : l = [] := by
     cases l with
     | nil => rfl
     | cons e2 l => exact absurd (.inr (by rw [he]; simp)) hc
    subst hl2
    obtain ⟨h1, h2, h3⟩ := H.shrink hk hx e hl he
    exact rootF_ok n h1 h2 (.inr h3)

def takeF (t : TreeT) (x : NodeT) (row : Int) : TreeT := rootF 14 (keyedF { t with nodes := upF 14 (updN t.nodes { x with es := dropE x.es row }) x.id })
theorem take_ok {t : TreeT} (H : Inv t) {x : NodeT} (hx : x ∈ t.nodes) (hl : x.leaf = true) (row : Int) : Inv (takeF t x row) := by
 obtain ⟨h, rk, H1, h0⟩ := take_start H hx hl row
 have H2 := upF_ok 14 H1 (by have := H1.top; omega)
 dsimp only at H2
 have hn := H2.nodup
 have e := keyed_shs hn
 unfold takeF
 refine rootF_ok 14 (h := h) (rk := rk) ⟨by rw [e]; exact H2.shp, H2.top, by rw [keyedF_nodes]; exact BoxesOk.passes 14 H2.box, by rw [e]; exact H2.ne, by rw [e]; exact H2.wid, by rw [e]; exact H2.mark, H2.cnt, by rw [e]; exact H2.rows, by rw [e]; exact H2.rpos, by rw [shs_len e]; exact H2.len, ?_⟩ ?_ (.inl (by omega))
 ·rw [← idsS_shs, e, idsS_shs]; exact H2.inn
 ·rw [keyedF_nodes]
  refine keys_ok H2.shp (fun y hy => ?_)
  have h1 := H2.shp.top_le _ (mem_shs hy)
  have h2 := H2.top
  rw [NodeT.sh_id] at h1
  dsimp only at h1 h2
  omega
end Go.Proofs.Ytmjnpfackanhlaa.AM

namespace Go.Proofs.Ytmjnpfackanhlaa.AM
open Go
set_option linter.unusedVariables false
set_option linter.unusedSimpArgs false

def foldB : KeyT → List LinkT → KeyT
 | k, [] => k
 | k, e :: l => if boxK e.key then foldB (unionK k e.key) l else ⟨0, 0, 0, 0⟩
def boundP : List LinkT → KeyT
 | [] => ⟨0, 0, 0, 0⟩
 | e :: l => foldB e.key (e :: l)
theorem unionK_self {k : KeyT} (h : boxK k = true) : unionK k k = k := by
 cases k
 unfold unionK
 rw [h]
 simp
theorem foldB_eq : ∀ (l : List LinkT) (k : KeyT), (∀ e ∈ l, boxK e.key = true) → foldB k l = l.foldl (fun k e => unionK k e.key) k
 | [], k, _ => rfl
 | e :: l, k, h => by
  rw [foldB, if_pos (h e (by simp)), List.foldl_cons]
  exact foldB_eq l _ (fun e he => h e (by simp [he]))
theorem boundP_eq {l : List LinkT} (h : ∀ e ∈ l, boxK e.key = true) : boundP l = boundK l := by
 cases l with
 | nil => rfl
 | cons e l =>
  rw [boundP, foldB, if_pos (h e (by simp)), unionK_self (h e (by simp)), foldB_eq l _ (fun e he => h e (by simp [he]))]
  rfl

structure WSt where
 lv : List (Int × Nat)
 depth : Nat
 rows : List Int
def lvOf (lv : List (Int × Nat)) (id : Int) : Nat := ((lv.find? (fun p => decide (p.1 = id))).map (·.2)).getD 0
def entF (ns : List NodeT) (rec : Int → WSt → Option WSt) (x : NodeT) (s : WSt) (e : LinkT) : Option WSt :=
 if e.child = 0 ∨ boxK e.key = false ∨ (x.leaf = true ∧ e.child ∈ s.rows) then none
 else if x.leaf then some { s with rows := s.rows ++ [e.child] }
 else match rec e.child s with
  | none => none
  | some s' => match findN ns e.child with
   | some c => if boundP c.es = e.key then some s' else none
   | none => none
def entsF (ns : List NodeT) (rec : Int → WSt → Option WSt) (x : NodeT) : List LinkT → WSt → Option WSt
 | [], s => some s
 | e :: l, s => match entF ns rec x s e with
  | none => none
  | some s' => entsF ns rec x l s'
def walkF (ns : List NodeT) (root : Int) : Nat → Int → Nat → WSt → Option WSt
 | 0, _, _, _ => none
 | f + 1, id, level, s => match findN ns id with
  | none => none
  | some x => if lvOf s.lv id ≠ 0 then none
   else if x.es = [] then (if x.leaf = true ∧ id = root then some ⟨s.lv ++ [(id, level)], level, s.rows⟩ else none)
   else if x.leaf = true ∧ s.depth ≠ 0 ∧ s.depth ≠ level then none
   else entsF ns (fun c s => walkF ns root f c (level + 1) s) x x.es ⟨s.lv ++ [(id, level)], if x.leaf then level else s.depth, s.rows⟩
def headsF (count : Int) : Int → List NodeT → Bool
 | _, [] => true
 | most, x :: l => decide (most < x.id) && decide (x.es.length ≤ 4) && decide (x.mark ≤ count) && headsF count x.id l
def rightsF (ns : List NodeT) (lv : List (Int × Nat)) : Bool := ns.all (fun x => decide (x.right = 0) || (match findN ns x.right with
 | some _ => decide (lvOf lv x.right = lvOf lv x.id)
 | none => false))
def rightN (ns : List NodeT) (at' : Int) : Int := match findN ns at' with
 | some x => x.right
 | none => 0
def stepsF (ns : List NodeT) : Nat → Int → Int
 | 0, at' => at'
 | n + 1, at' => if at' = 0 then 0 else stepsF ns n (rightN ns at')
def chainsF (ns : List NodeT) : Bool := ns.all (fun x => decide (stepsF ns ns.length x.right = 0))
def plantF (t : TreeT) : Bool := decide (t.nodes.length ≤ 512) && headsF t.count 0 t.nodes && (match walkF t.nodes t.root 12 t.root 1 ⟨[], 0, []⟩ with
 | some s => decide (s.lv.length = t.nodes.length) && rightsF t.nodes s.lv && chainsF t.nodes
 | none => false)

/-! ### what is beneath a node -/
def kidsOf (ns : List NodeT) (id : Int) : List Int := match findN ns id with
 | some x => x.sh.kids
 | none => []
def rowsOf (ns : List NodeT) (id : Int) : List Int := match findN ns id with
 | some x => x.sh.rows
 | none => []
def descF (ns : List NodeT) : Nat → Int → List Int
 | 0, id => [id]
 | n + 1, id => id :: (kidsOf ns id).flatMap (descF ns n)

theorem sub_count (f : Int → List Int) (a : Int) : ∀ (xs l : List Int), xs.Nodup → (∀ x ∈ xs, x ∈ l) → (xs.flatMap f).count a ≤ (l.flatMap f).count a
 | [], l, _, _ => by simp
 | x :: xs, l, hn, hs => by
  obtain ⟨A, B, rfl⟩ := List.append_of_mem (hs x (by simp))
  rw [List.nodup_cons] at hn
  have := sub_count f a xs (A ++ B) hn.2 (fun y hy => by
   have h1 := hs y (by simp [hy])
   rcases List.mem_append.1 h1 with h1 | h1
   ·exact List.mem_append_left _ h1
   ·rcases List.mem_cons.1 h1 with e | h1
    ·exact absurd (by rw [← e]; exact hy) hn.1
    ·exact List.mem_append_right _ h1)
  simp only [List.flatMap_append, List.flatMap_cons, List.count_append] at this ⊢
  omega
theorem flat_ids {ns : List NodeT} (hn : (idsN ns).Nodup) (f : NodeT → List Int) (g : Int → List Int) (hg : ∀ x ∈ ns, g x.id = f x) : (idsN ns).flatMap g = ns.flatMap f := by
 unfold idsN
 rw [List.flatMap_map]
 have : ∀ l : List NodeT, (∀ x ∈ l, g x.id = f x) → l.flatMap (fun x => g x.id) = l.flatMap f := by
  intro l
  induction l with
  | nil => intro _; rfl
  | cons x l ih =>
   intro h
   rw [List.flatMap_cons, List.flatMap_cons, h x (by simp), ih (fun y hy => h y (by simp [hy]))]
 exact this ns hg
theorem kids_flat {ns : List NodeT} (hn : (idsN ns).Nodup) : (idsN ns).flatMap (kidsOf ns) = kidsS (shs ns) := by
 rw [flat_ids hn (fun x => x.sh.kids) (kidsOf ns) (fun x hx => by unfold kidsOf; rw [findN_mem hn hx])]
 unfold kidsS shs
 rw [List.flatMap_map]
theorem rows_flat {ns : List NodeT} (hn : (idsN ns).Nodup) : (idsN ns).flatMap (rowsOf ns) = rowsS (shs ns) := by
 rw [flat_ids hn (fun x => x.sh.rows) (rowsOf ns) (fun x hx => by unfold rowsOf; rw [findN_mem hn hx])]
 unfold rowsS shs
 rw [List.flatMap_map]
theorem flat_desc (ns : List NodeT) (n : Nat) (a : Int) : ∀ (xs : List Int), (xs.flatMap (descF ns (n + 1))).count a = xs.count a + ((xs.flatMap (kidsOf ns)).flatMap (descF ns n)).count a
 | [] => rfl
 | x :: xs => by
  have := flat_desc ns n a xs
  rw [List.flatMap_cons, List.flatMap_cons, List.count_append, this, List.flatMap_append, List.count_append, descF, List.count_cons, List.count_cons]
  omega
theorem Shp.kidsOf_in {ns : List NodeT} {R : List Int} {h rk : Int → Nat} (H : Shp (shs ns) R h rk) {id c : Int} (hc : c ∈ kidsOf ns id) : id ∈ idsN ns ∧ c ∈ idsN ns ∧ h id = h c + 1 := by
 unfold kidsOf at hc
 cases hf : findN ns id with
 | none => rw [hf] at hc; simp at hc
 | some x =>
  rw [hf] at hc
  obtain ⟨hx, rfl⟩ := findN_some hf
  exact ⟨List.mem_map.2 ⟨x, hx, rfl⟩, by simpa using H.kid_mem (mem_kids (mem_shs hx) hc), H.inn _ (mem_shs hx) c hc⟩
theorem Shp.desc_nodup {ns : List NodeT} {R : List Int} {h rk : Int → Nat} (H : Shp (shs ns) R h rk) : ∀ (n : Nat) (xs : List Int), xs.Nodup → (∀ x ∈ xs, x ∈ idsN ns ∧ h x = n) →
    (xs.flatMap (descF ns n)).Nodup ∧ ∀ c ∈ xs.flatMap (descF ns n), c ∈ idsN ns ∧ h c ≤ n
  | 0, xs, hn, hx => by
    have e : xs.flatMap (descF ns 0) = xs := by
      have : descF ns 0 = fun id => [id] := by funext id; rfl
      rw [this]; simp
    rw [e]
    exact ⟨hn, fun c hc => ⟨(hx c hc).1, by rw [(hx c hc).2]; exact Nat.le_refl _⟩⟩
  | n + 1, xs, hn, hx => by
    have hnd : (idsN ns).Nodup := by have := H.nodup; simpa using this
    have hk : (xs.flatMap (kidsOf ns)).Nodup := List.nodup_iff_count.2 (fun a => by
      have h1 := sub_count (kidsOf ns) a xs (idsN ns) hn (fun x hx2 => (hx x hx2).1)
      rw [kids_flat hnd] at h1
      have h2 := H.kid a
      have h3 := H.cnt a
      omega)
    have ih := H.desc_nodup n (xs.flatMap (kidsOf ns)) hk (fun c hc => by
      obtain ⟨x, hx2, hc2⟩ := List.mem_flatMap.1 hc
      obtain ⟨h1, h2, h3⟩ := H.kidsOf_in hc2
      have := (hx x hx2).2
      exact ⟨h2, by omega⟩)
    have hcount := fun a => flat_desc ns n a xs
    refine ⟨List.nodup_iff_count.2 (fun a => ?_), fun c hc => ?_⟩
    · rw [hcount]
      have h1 := List.nodup_iff_count.1 hn a
      have h2 := List.nodup_iff_count.1 ih.1 a
      rcases Nat.eq_zero_or_pos (xs.count a) with e | e
      · omega
      · rcases Nat.eq_zero_or_pos (((xs.flatMap (kidsOf ns)).flatMap (descF ns n)).count a) with e2 | e2
        · omega
        · have h3 := (hx a (List.count_pos_iff.1 e)).2
          have h4 := (ih.2 a (List.count_pos_iff.1 e2)).2
          omega
    · have h1 := List.count_pos_iff.2 hc
      rw [hcount] at h1
      rcases Nat.eq_zero_or_pos (xs.count c) with e | e
      · have := ih.2 c (List.count_pos_iff.1 (by omega))
        exact ⟨this.1, by omega⟩
      · have := hx c (List.count_pos_iff.1 e)
        exact ⟨this.1, by omega⟩
theorem Shp.desc_kid {ns : List NodeT} {R : List Int} {h rk : Int → Nat} (H : Shp (shs ns) R h rk) : ∀ (n : Nat) {id p c : Int}, h id = n → p ∈ descF ns n id → c ∈ kidsOf ns p → c ∈ descF ns n id
 | 0, id, p, c, hn, hp, hc => by
  rw [descF, List.mem_singleton] at hp
  rw [hp] at hc
  have := (H.kidsOf_in hc).2.2
  omega
 | n + 1, id, p, c, hn, hp, hc => by
  rw [descF, List.mem_cons] at hp ⊢
  refine .inr ?_
  rcases hp with rfl | hp
  ·refine List.mem_flatMap.2 ⟨c, hc, ?_⟩
   cases n <;> simp [descF]
  ·obtain ⟨q, hq, hpq⟩ := List.mem_flatMap.1 hp
   have := (H.kidsOf_in hq).2.2
   exact List.mem_flatMap.2 ⟨q, hq, H.desc_kid n (by omega) hpq hc⟩
theorem Shp.desc_all {ns : List NodeT} {root : Int} {h rk : Int → Nat} (H : Shp (shs ns) [root] h rk) : ∀ (d : Nat) (x : NodeT), x ∈ ns → h root - h x.id ≤ d → x.id ∈ descF ns (h root) root := by
 have hnd : (idsN ns).Nodup := by have := H.nodup; simpa using this
 intro d
 induction d with
 | zero =>
  intro x hx hd
  rcases H.root_or (mem_ids (mem_shs hx)) with hr | hk
  ·rw [NodeT.sh_id] at hr
   rw [List.mem_singleton.1 hr]
   cases h root <;> simp [descF]
  ·obtain ⟨p, hp, hc⟩ := List.mem_flatMap.1 hk
   have h1 := H.inn p hp _ hc
   have h2 := H.top_le p hp
   rw [NodeT.sh_id] at h1
   omega
 | succ d ih =>
  intro x hx hd
  rcases H.root_or (mem_ids (mem_shs hx)) with hr | hk
  ·rw [NodeT.sh_id] at hr
   rw [List.mem_singleton.1 hr]
   cases h root <;> simp [descF]
  ·obtain ⟨p, hp, hc⟩ := List.mem_flatMap.1 hk
   have h1 := H.inn p hp _ hc
   have h2 := H.top_le p hp
   obtain ⟨p, hp', rfl⟩ := of_shs hp
   simp only [NodeT.sh_id] at h1 h2 hc
   have := ih p hp' (by omega)
   refine H.desc_kid (h root) rfl this ?_
   unfold kidsOf
   rw [findN_mem hnd hp']
   exact hc

/-! ### the walk -/
def keysW (s : WSt) : List Int := s.lv.map (·.1)
theorem lvOf_none {lv : List (Int × Nat)} {id : Int} (h : ¬ id ∈ lv.map (·.1)) : lvOf lv id = 0 := by
 unfold lvOf
 have : lv.find? (fun p => decide (p.1 = id)) = none := List.find?_eq_none.2 (fun p hp => by
  simp only [decide_eq_true_eq]
  exact fun e => h (List.mem_map.2 ⟨p, hp, e⟩))
 rw [this]; rfl
theorem leaf_fold {ns : List NodeT} {rec : Int → WSt → Option WSt} {x : NodeT} (hl : x.leaf = true) : ∀ (l : List LinkT) (s : WSt), (∀ e ∈ l, e.child ≠ 0 ∧ boxK e.key = true) → (l.map (·.child)).Nodup → (∀ e ∈ l, ¬ e.child ∈ s.rows) →
    entsF ns rec x l s = some { s with rows := s.rows ++ l.map (·.child) }
  | [], s, _, _, _ => by simp [entsF]
  | e :: l, s, h1, h2, h3 => by
    have h4 := h1 e (by simp)
    have h5 := h3 e (by simp)
    simp only [List.map_cons, List.nodup_cons] at h2
    have e1 : entF ns rec x s e = some { s with rows := s.rows ++ [e.child] } := by
      unfold entF
      rw [if_neg (by simp [h4, h5, hl]), hl]
      rfl
    unfold entsF
    rw [e1]
    dsimp only
    rw [leaf_fold hl l _ (fun e he => h1 e (by simp [he])) h2.2 (fun e2 he2 => by
      dsimp only
      rw [List.mem_append, List.mem_singleton]
      rintro (h6 | h6)
      · exact h3 e2 (by simp [he2]) h6
      · exact h2.1 (by rw [← h6]; exact List.mem_map.2 ⟨e2, he2, rfl⟩))]
    simp
def WOk (ns : List NodeT) (root : Int) (h : Int → Nat) (n level fuel : Nat) (id : Int) : Prop := ∀ s : WSt, (s.depth = 0 ∨ s.depth = level + n) → (∀ c ∈ descF ns n id, ¬ c ∈ keysW s) → (descF ns n id).Nodup →
 (∀ r ∈ (descF ns n id).flatMap (rowsOf ns), ¬ r ∈ s.rows) → ((descF ns n id).flatMap (rowsOf ns)).Nodup →
 ∃ s', walkF ns root fuel id level s = some s' ∧ s'.depth = level + n ∧ keysW s' = keysW s ++ descF ns n id ∧ s'.rows = s.rows ++ (descF ns n id).flatMap (rowsOf ns) ∧ ∀ p ∈ s'.lv, p ∈ s.lv ∨ p.2 + h p.1 = level + n
theorem inner_fold {ns : List NodeT} {root : Int} {h : Int → Nat} {n level fuel : Nat} {x : NodeT} (hl : x.leaf = false) (hb : BoxesOk ns) : ∀ (l : List LinkT) (s : WSt),
    (∀ e ∈ l, e.child ≠ 0 ∧ boxK e.key = true ∧ WOk ns root h n (level + 1) fuel e.child ∧ ∃ c, findN ns e.child = some c ∧ boundK c.es = e.key) →
    (s.depth = 0 ∨ s.depth = level + 1 + n) → (∀ c ∈ (l.map (·.child)).flatMap (descF ns n), ¬ c ∈ keysW s) → ((l.map (·.child)).flatMap (descF ns n)).Nodup →
    (∀ r ∈ ((l.map (·.child)).flatMap (descF ns n)).flatMap (rowsOf ns), ¬ r ∈ s.rows) → (((l.map (·.child)).flatMap (descF ns n)).flatMap (rowsOf ns)).Nodup →
    ∃ s', entsF ns (fun c s => walkF ns root fuel c (level + 1) s) x l s = some s' ∧ (l = [] ∧ s'.depth = s.depth ∨ s'.depth = level + 1 + n) ∧ keysW s' = keysW s ++ (l.map (·.child)).flatMap (descF ns n) ∧
      s'.rows = s.rows ++ ((l.map (·.child)).flatMap (descF ns n)).flatMap (rowsOf ns) ∧ ∀ p ∈ s'.lv, p ∈ s.lv ∨ p.2 + h p.1 = level + 1 + n
  | [], s, _, _, _, _, _, _ => ⟨s, rfl, .inl ⟨rfl, rfl⟩, by simp, by simp, fun p hp => .inl hp⟩
  | e :: l, s, h1, h2, h3, h4, h5, h6 => by
    obtain ⟨g1, g2, g3, c, g4, g5⟩ := h1 e (by simp)
    simp only [List.map_cons, List.flatMap_cons, List.flatMap_append] at h3 h4 h5 h6 ⊢
    rw [List.nodup_append] at h4 h6
    obtain ⟨s1, k1, k2, k3, k4, k5⟩ := g3 s h2 (fun c hc => h3 c (List.mem_append_left _ hc)) h4.1 (fun r hr => h5 r (List.mem_append_left _ hr)) h6.1
    have e1 : entF ns (fun c s => walkF ns root fuel c (level + 1) s) x s e = some s1 := by
      unfold entF
      rw [if_neg (by simp [g1, g2, hl]), hl]
      simp only [Bool.false_eq_true, if_false]
      rw [k1, g4]
      dsimp only
      rw [boundP_eq (fun e he => hb c (findN_some g4).1 e he), g5, if_pos rfl]
    obtain ⟨s2, m1, m2, m3, m4, m5⟩ := inner_fold hl hb l s1 (fun e he => h1 e (by simp [he])) (.inr k2) (fun c hc => by
        rw [k3, List.mem_append]
        rintro (h7 | h7)
        · exact h3 c (List.mem_append_right _ hc) h7
        · exact h4.2.2 c h7 c hc rfl) h4.2.1 (fun r hr => by
        rw [k4, List.mem_append]
        rintro (h7 | h7)
        · exact h5 r (List.mem_append_right _ hr) h7
        · exact h6.2.2 r h7 r hr rfl) h6.2.1
    refine ⟨s2, ?_, ?_, ?_, ?_, ?_⟩
    · unfold entsF
      rw [e1]
      exact m1
    · rcases m2 with ⟨_, m2⟩ | m2
      · exact .inr (by rw [m2, k2])
      · exact .inr m2
    · rw [m3, k3, List.append_assoc]
    · rw [m4, k4, List.append_assoc]
    · intro p hp
      rcases m5 p hp with h7 | h7
      · exact k5 p h7
      · exact .inr h7

theorem Inv.walk {t : TreeT} (H : Inv t) {h rk : Int → Nat} (hS : Shp (shs t.nodes) [t.root] h rk) : ∀ (n level fuel : Nat) (x : NodeT), x ∈ t.nodes → h x.id = n → n < fuel → 0 < level → WOk t.nodes t.root h n level fuel x.id := by
  have hnd := H.nodup
  intro n
  induction n with
  | zero =>
    intro level fuel x hx hn hf hlev s h1 h2 h3 h4 h5
    obtain ⟨f, rfl⟩ : ∃ f, fuel = f + 1 := ⟨fuel - 1, by omega⟩
    have hfx := findN_mem hnd hx
    have hrow : rowsOf t.nodes x.id = x.sh.rows := by unfold rowsOf; rw [hfx]
    have hlv : lvOf s.lv x.id = 0 := lvOf_none (h2 x.id (by simp [descF]))
    have hd0 : (descF t.nodes 0 x.id).flatMap (rowsOf t.nodes) = x.sh.rows := by simp [descF, hrow]
    have hkey : ∀ (d : Nat) (r : List Int), keysW ⟨s.lv ++ [(x.id, level)], d, r⟩ = keysW s ++ descF t.nodes 0 x.id := fun d r => by simp [keysW, descF]
    have hlvs : ∀ p ∈ s.lv ++ [(x.id, level)], p ∈ s.lv ∨ p.2 + h p.1 = level + 0 := fun p hp => by
      rcases List.mem_append.1 hp with hp | hp
      · exact .inl hp
      · rw [List.mem_singleton.1 hp]; exact .inr (by dsimp only; omega)
    by_cases he : x.es = []
    · obtain ⟨hl, hr⟩ := H.ne _ (mem_shs hx) (by simp [he])
      rw [NodeT.sh_leaf] at hl
      rw [NodeT.sh_id] at hr
      have hr0 : x.sh.rows = [] := by simp [SN.rows, he]
      refine ⟨⟨s.lv ++ [(x.id, level)], level, s.rows⟩, ?_, rfl, hkey _ _, by rw [hd0, hr0]; simp, hlvs⟩
      unfold walkF
      rw [hfx]
      dsimp only
      rw [if_neg (by simp [hlv]), if_pos he, if_pos ⟨hl, hr⟩]
    · have hl : x.leaf = true := by
        cases e : x.leaf with
        | true => rfl
        | false =>
          obtain ⟨e1, l, he1⟩ := List.exists_cons_of_ne_nil he
          have := hS.inn _ (mem_shs hx) e1.child (by simp [SN.kids, e, he1])
          rw [NodeT.sh_id] at this; omega
      have hr0 : x.sh.rows = x.es.map (·.child) := by simp [SN.rows, hl]
      rw [hd0, hr0] at h4 h5
      have hpos : ∀ e ∈ x.es, e.child ≠ 0 ∧ boxK e.key = true := fun e he => ⟨fun e0 => by
        have := H.rpos e.child (mem_rows (mem_shs hx) (by rw [hr0]; exact List.mem_map.2 ⟨e, he, rfl⟩))
        omega, H.box x hx e he⟩
      refine ⟨⟨s.lv ++ [(x.id, level)], level, s.rows ++ x.es.map (·.child)⟩, ?_, rfl, hkey _ _, by rw [hd0, hr0], hlvs⟩
      unfold walkF
      rw [hfx]
      dsimp only
      rw [if_neg (by simp [hlv]), if_neg he, if_neg (by omega), hl]
      simp only [if_true]
      rw [leaf_fold hl x.es ⟨s.lv ++ [(x.id, level)], level, s.rows⟩ hpos h5 (fun e he => h4 _ (List.mem_map.2 ⟨e, he, rfl⟩))]
  | succ n ih =>
    intro level fuel x hx hn hf hlev s h1 h2 h3 h4 h5
    obtain ⟨f, rfl⟩ : ∃ f, fuel = f + 1 := ⟨fuel - 1, by omega⟩
    have hfx := findN_mem hnd hx
    have hlv : lvOf s.lv x.id = 0 := lvOf_none (h2 x.id (by simp [descF]))
    have hl : x.leaf = false := by
      cases e : x.leaf with
      | false => rfl
      | true => have := hS.lf _ (mem_shs hx) e; rw [NodeT.sh_id] at this; omega
    have he : ¬ x.es = [] := fun e => by
      have := (H.ne _ (mem_shs hx) (by simp [e])).1
      rw [NodeT.sh_leaf, hl] at this; cases this
    have hkids : kidsOf t.nodes x.id = x.es.map (·.child) := by unfold kidsOf; rw [hfx]; simp [SN.kids, hl]
    have hrow : rowsOf t.nodes x.id = [] := by unfold rowsOf; rw [hfx]; simp [SN.rows, hl]
    have hd : descF t.nodes (n + 1) x.id = x.id :: (x.es.map (·.child)).flatMap (descF t.nodes n) := by rw [descF, hkids]
    have hdr : (descF t.nodes (n + 1) x.id).flatMap (rowsOf t.nodes) = ((x.es.map (·.child)).flatMap (descF t.nodes n)).flatMap (rowsOf t.nodes) := by rw [hd, List.flatMap_cons, hrow]; rfl
    rw [hd] at h2 h3
    rw [hdr] at h4 h5
    rw [List.nodup_cons] at h3
    have hents : ∀ e ∈ x.es, e.child ≠ 0 ∧ boxK e.key = true ∧ WOk t.nodes t.root h n (level + 1) f e.child ∧ ∃ c, findN t.nodes e.child = some c ∧ boundK c.es = e.key := fun e he => by
      have hk : e.child ∈ kidsOf t.nodes x.id := by rw [hkids]; exact List.mem_map.2 ⟨e, he, rfl⟩
      obtain ⟨_, hc, hhc⟩ := hS.kidsOf_in hk
      obtain ⟨c, hfc⟩ := findN_ids hc
      obtain ⟨hc1, hc2⟩ := findN_some hfc
      have hp := hS.pos _ (mem_shs hc1)
      rw [NodeT.sh_id, hc2] at hp
      have hcne : ¬ c.es = [] := fun e0 => by
        have := (H.ne _ (mem_shs hc1) (by simp [e0])).2
        rw [NodeT.sh_id, hc2] at this
        refine hS.root_kid (c := t.root) (by simp) ?_
        rw [← this, ← kids_flat hnd]
        exact List.mem_flatMap.2 ⟨x.id, List.mem_map.2 ⟨x, hx, rfl⟩, hk⟩
      refine ⟨by omega, H.box x hx e he, ?_, c, hfc, ?_⟩
      · have := ih (level + 1) f c hc1 (by rw [hc2]; omega) (by omega) (by omega)
        rw [hc2] at this; exact this
      · have hkx := H.keys x hx
        unfold keyN at hkx
        rw [hl] at hkx
        have hes : x.es.map (keyE t.nodes) = x.es := congrArg NodeT.es hkx
        have he2 : keyE t.nodes e = e := by
          obtain ⟨i, hi, rfl⟩ := List.getElem_of_mem he
          have := congrArg (fun l => l[i]?) hes
          simpa [hi] using this
        have h9 : (keyE t.nodes e).key = e.key := by rw [he2]
        unfold keyE at h9
        rw [hfc] at h9
        dsimp only at h9
        rw [if_neg hcne] at h9
        exact h9
    obtain ⟨s', k1, k2, k3, k4, k5⟩ := inner_fold (root := t.root) (h := h) (level := level) (fuel := f) hl H.box x.es ⟨s.lv ++ [(x.id, level)], s.depth, s.rows⟩ hents (by dsimp only; omega) (fun c hc => by
        simp only [keysW, List.map_append, List.map_cons, List.map_nil, List.mem_append, List.mem_singleton]
        rintro (h7 | h7)
        · exact h2 c (List.mem_cons_of_mem _ hc) h7
        · exact h3.1 (by rw [← h7]; exact hc)) h3.2 h4 h5
    refine ⟨s', ?_, ?_, ?_, ?_, ?_⟩
    · unfold walkF
      rw [hfx]
      dsimp only
      rw [if_neg (by simp [hlv]), if_neg he, if_neg (by simp [hl]), hl]
      exact k1
    · rcases k2 with ⟨k2, _⟩ | k2
      · exact absurd k2 he
      · omega
    · rw [k3, hd]
      simp [keysW]
    · rw [k4, hdr]
    · intro p hp
      rcases k5 p hp with h7 | h7
      · dsimp only at h7
        rcases List.mem_append.1 h7 with h7 | h7
        · exact .inl h7
        · rw [List.mem_singleton.1 h7]; exact .inr (by dsimp only; omega)
      · exact .inr (by omega)

theorem heads_ok (count : Int) : ∀ (l : List NodeT) (most : Int), (idsN l).Pairwise (· < ·) → (∀ x ∈ l, most < x.id ∧ x.es.length ≤ 4 ∧ x.mark ≤ count) → headsF count most l = true
 | [], _, _, _ => rfl
 | x :: l, most, hs, h => by
  simp only [idsN, List.map_cons, List.pairwise_cons] at hs
  have h1 := h x (by simp)
  have := heads_ok count l x.id hs.2 (fun y hy => ⟨hs.1 _ (List.mem_map.2 ⟨y, hy, rfl⟩), (h y (by simp [hy])).2⟩)
  simp [headsF, h1, this]
theorem chain_list {ns : List NodeT} {R : List Int} {h rk : Int → Nat} (H : Shp (shs ns) R h rk) : ∀ (n : Nat) (a : Int), (a = 0 ∨ a ∈ idsN ns) → stepsF ns n a ≠ 0 → ∃ l : List Int, l.length = n + 1 ∧ l.Nodup ∧ (∀ c ∈ l, c ∈ idsN ns) ∧ ∀ c ∈ l, rk c ≤ rk a
 | 0, a, ha, hs => by
  rw [stepsF] at hs
  rcases ha with ha | ha
  ·exact absurd ha hs
  ·exact ⟨[a], rfl, by simp, by simpa using ha, by simp⟩
 | n + 1, a, ha, hs => by
  rw [stepsF] at hs
  by_cases e : a = 0
  ·rw [if_pos e] at hs; exact absurd rfl hs
  ·rw [if_neg e] at hs
   rcases ha with ha | ha
   ·exact absurd ha e
   ·obtain ⟨x, hf⟩ := findN_ids ha
    obtain ⟨hx, hxe⟩ := findN_some hf
    have hr : rightN ns a = x.right := by unfold rightN; rw [hf]
    rw [hr] at hs
    have hn0 : x.right ≠ 0 := fun e0 => by
     rw [e0] at hs
     apply hs
     cases n <;> simp [stepsF]
    obtain ⟨h1, h2, h3⟩ := H.rgt _ (mem_shs hx) hn0
    simp only [NodeT.sh_right, NodeT.sh_id, idsS_shs] at h1 h3
    obtain ⟨l, k1, k2, k3, k4⟩ := chain_list H n x.right (.inr h1) hs
    rw [hxe] at h3
    refine ⟨a :: l, by simp [k1], List.nodup_cons.2 ⟨fun hm => ?_, k2⟩, fun c hc => ?_, fun c hc => ?_⟩
    ·have := k4 a hm; omega
    ·rcases List.mem_cons.1 hc with rfl | hc
     ·exact ha
     ·exact k3 c hc
    ·rcases List.mem_cons.1 hc with rfl | hc
     ·exact Nat.le_refl _
     ·have := k4 c hc; omega
theorem Inv.plant {t : TreeT} (H : Inv t) : plantF t = true := by
 obtain ⟨h, rk, hS, htop⟩ := H.shp
 have hnd := H.nodup
 have hroot : t.root ∈ idsN t.nodes := by have := hS.root_mem (c := t.root) (by simp); simpa using this
 obtain ⟨r, hrf⟩ := findN_ids hroot
 obtain ⟨hr, hre⟩ := findN_some hrf
 have hD := hS.desc_nodup (h t.root) [t.root] (by simp) (fun x hx => by rw [List.mem_singleton.1 hx]; exact ⟨hroot, rfl⟩)
 simp only [List.flatMap_cons, List.flatMap_nil, List.append_nil] at hD
 have hrows : ((descF t.nodes (h t.root) t.root).flatMap (rowsOf t.nodes)).Nodup := List.nodup_iff_count.2 (fun a => by
  have h1 := sub_count (rowsOf t.nodes) a _ (idsN t.nodes) hD.1 (fun x hx => (hD.2 x hx).1)
  rw [rows_flat hnd] at h1
  have := H.rows a
  omega)
 obtain ⟨s, k1, k2, k3, k4, k5⟩ := H.walk hS (h t.root) 1 12 r hr (by rw [hre]) (by omega) (by omega) ⟨[], 0, []⟩ (.inl rfl) (fun c _ => by simp [keysW]) (by rw [hre]; exact hD.1) (fun r _ => by simp) (by rw [hre]; exact hrows)
 rw [hre] at k1 k3
 have hkeys : keysW s = descF t.nodes (h t.root) t.root := by rw [k3]; simp [keysW]
 have hmem : ∀ x ∈ t.nodes, x.id ∈ keysW s := fun x hx => by rw [hkeys]; exact hS.desc_all _ x hx (Nat.le_refl _)
 have hlen : s.lv.length = t.nodes.length := by
  have e1 : s.lv.length = (keysW s).length := by simp [keysW]
  have e2 : t.nodes.length = (idsN t.nodes).length := by simp [idsN]
  rw [e1, e2]
  refine Nat.le_antisymm (List.Nodup.length_le_of_subset (by rw [hkeys]; exact hD.1) (fun x hx => by rw [hkeys] at hx; exact (hD.2 x hx).1)) (List.Nodup.length_le_of_subset hnd (fun x hx => ?_))
  obtain ⟨y, hy, rfl⟩ := List.mem_map.1 hx
  exact hmem y hy
 have hlv : ∀ id, id ∈ keysW s → lvOf s.lv id + h id = 1 + h t.root := fun id hid => by
  unfold lvOf
  cases hf : s.lv.find? (fun p => decide (p.1 = id)) with
  | none =>
   obtain ⟨p, hp, e⟩ := List.mem_map.1 hid
   have := List.find?_eq_none.1 hf p hp
   simp [e] at this
  | some p =>
   have h1 := List.find?_some hf
   have h2 := List.mem_of_find?_eq_some hf
   have h3 : p.1 = id := by simpa using h1
   rcases k5 p h2 with h4 | h4
   ·simp at h4
   ·rw [h3] at h4
    exact h4
 have hsrt : (idsN t.nodes).Pairwise (· < ·) := by have := hS.srt; simpa using this
 have hheads := heads_ok t.count t.nodes 0 hsrt (fun x hx => ⟨(hS.pos _ (mem_shs hx)).1, by simpa using H.wid _ (mem_shs hx), (H.mark _ (mem_shs hx)).2⟩)
 have hrights : rightsF t.nodes s.lv = true := by
  unfold rightsF
  rw [List.all_eq_true]
  intro x hx
  by_cases e : x.right = 0
  ·simp [e]
  ·obtain ⟨h1, h2, h3⟩ := hS.rgt _ (mem_shs hx) e
   simp only [NodeT.sh_right, NodeT.sh_id, idsS_shs] at h1 h2
   obtain ⟨y, hy⟩ := findN_ids h1
   obtain ⟨hy1, hy2⟩ := findN_some hy
   rw [hy]
   have g1 := hlv x.id (hmem x hx)
   have g2 := hlv y.id (hmem y hy1)
   rw [hy2] at g2
   have : lvOf s.lv x.right = lvOf s.lv x.id := by omega
   simp [this]
 have hchains : chainsF t.nodes = true := by
  unfold chainsF
  rw [List.all_eq_true]
  intro x hx
  rw [decide_eq_true_eq]
  by_cases e : stepsF t.nodes t.nodes.length x.right = 0
  ·exact e
  ·exfalso
   have hin : x.right = 0 ∨ x.right ∈ idsN t.nodes := by
    by_cases e0 : x.right = 0
    ·exact .inl e0
    ·have := (hS.rgt _ (mem_shs hx) e0).1
     simp only [NodeT.sh_right, idsS_shs] at this
     exact .inr this
   obtain ⟨l, g1, g2, g3, g4⟩ := chain_list hS _ _ hin e
   have := List.Nodup.length_le_of_subset g2 g3
   rw [g1] at this
   simp [idsN] at this
   omega
 unfold plantF
 rw [k1]
 simp [H.len, hheads, hlen, hrights, hchains]
end Go.Proofs.Ytmjnpfackanhlaa.AM

namespace Go.Proofs.Ytmjnpfackanhlaa.AM
open Go
set_option linter.unusedVariables false
set_option linter.unusedSimpArgs false

structure TyT (t : TreeT) : Prop where
 cnt : 0 ≤ t.count ∧ t.count < 18446744073709551616
 ids : ∀ x ∈ t.nodes, 0 ≤ x.id ∧ x.id < 4294967296 ∧ 0 ≤ x.mark
 kid : ∀ x ∈ t.nodes, ∀ e ∈ x.es, 0 ≤ e.child ∧ e.child < 4294967296

/-! ### numbers on the way to the right -/
def rkF (ns : List NodeT) : Nat → Int → Nat
 | 0, _ => 0
 | n + 1, a => if a = 0 then 0 else rkF ns n (rightN ns a) + 1
theorem stepsF_zero (ns : List NodeT) : ∀ n, stepsF ns n 0 = 0
 | 0 => rfl
 | n + 1 => by simp [stepsF]
theorem rkF_more (ns : List NodeT) : ∀ (n : Nat) (a : Int), stepsF ns n a = 0 → rkF ns (n + 1) a = rkF ns n a
 | 0, a, h => by
  rw [stepsF] at h
  simp [rkF, h]
 | n + 1, a, h => by
  rw [stepsF] at h
  show (if a = 0 then 0 else rkF ns (n + 1) (rightN ns a) + 1) = (if a = 0 then 0 else rkF ns n (rightN ns a) + 1)
  by_cases e : a = 0
  ·rw [if_pos e, if_pos e]
  ·rw [if_neg e] at h
   rw [if_neg e, if_neg e, rkF_more ns n _ h]
theorem rank_ok {ns : List NodeT} (hn : (idsN ns).Nodup) (hc : ∀ x ∈ ns, stepsF ns ns.length x.right = 0) {x : NodeT} (hx : x ∈ ns) (hp : x.id ≠ 0) : rkF ns (ns.length + 1) x.right < rkF ns (ns.length + 1) x.id := by
 have e : rightN ns x.id = x.right := by unfold rightN; rw [findN_mem hn hx]
 rw [rkF_more ns _ _ (hc x hx)]
 conv => rhs; rw [rkF, if_neg hp, e]
 exact Nat.lt_succ_self _

theorem lev_down {ns : List NodeT} (lv : Int → Nat) (D B : Nat) (hb : ∀ x ∈ ns, lv x.id ≤ B) (hl : ∀ x ∈ ns, x.leaf = true → lv x.id = D) (hi : ∀ x ∈ ns, x.leaf = false → ∃ y ∈ ns, lv y.id = lv x.id + 1) :
  ∀ x ∈ ns, lv x.id ≤ D ∧ D ≤ B := by
 have : ∀ (k : Nat) (x : NodeT), x ∈ ns → B - lv x.id ≤ k → lv x.id ≤ D ∧ D ≤ B := by
  intro k
  induction k with
  | zero =>
   intro x hx hk
   cases e : x.leaf with
   | true => have := hl x hx e; have := hb x hx; omega
   | false =>
    obtain ⟨y, hy, h1⟩ := hi x hx e
    have := hb x hx; have := hb y hy; omega
  | succ k ih =>
   intro x hx hk
   cases e : x.leaf with
   | true => have := hl x hx e; have := hb x hx; omega
   | false =>
    obtain ⟨y, hy, h1⟩ := hi x hx e
    have h2 := hb x hx; have h3 := hb y hy
    have := ih y hy (by omega)
    omega
 exact fun x hx => this _ x hx (Nat.le_refl _)

/-! ### the walk's words -/
def keysL (L : List (Int × Nat)) : List Int := L.map (·.1)
def kidsL (ns : List NodeT) (L : List (Int × Nat)) : List Int := (keysL L).flatMap (kidsOf ns)
def rowsL (ns : List NodeT) (L : List (Int × Nat)) : List Int := (keysL L).flatMap (rowsOf ns)
structure WG (ns : List NodeT) (root : Int) (lo hi D : Nat) (L : List (Int × Nat)) : Prop where
 node : ∀ p ∈ L, ∃ x, findN ns p.1 = some x ∧ (x.es = [] → x.leaf = true ∧ x.id = root) ∧ (x.leaf = true → p.2 = D) ∧ (∀ e ∈ x.es, e.child ≠ 0 ∧ boxK e.key = true) ∧
  (x.leaf = false → ∀ e ∈ x.es, (e.child, p.2 + 1) ∈ L ∧ ∃ c, findN ns e.child = some c ∧ boundP c.es = e.key)
 lev : ∀ p ∈ L, lo ≤ p.2 ∧ p.2 < hi
theorem WG.app {ns : List NodeT} {root : Int} {lo hi D : Nat} {L M : List (Int × Nat)} (h1 : WG ns root lo hi D L) (h2 : WG ns root lo hi D M) : WG ns root lo hi D (L ++ M) := by
 refine ⟨fun p hp => ?_, fun p hp => ?_⟩
 ·rcases List.mem_append.1 hp with hp | hp
  ·obtain ⟨x, a, b, c, d, e⟩ := h1.node p hp
   exact ⟨x, a, b, c, d, fun hl y hy => ⟨List.mem_append_left _ (e hl y hy).1, (e hl y hy).2⟩⟩
  ·obtain ⟨x, a, b, c, d, e⟩ := h2.node p hp
   exact ⟨x, a, b, c, d, fun hl y hy => ⟨List.mem_append_right _ (e hl y hy).1, (e hl y hy).2⟩⟩
 ·rcases List.mem_append.1 hp with hp | hp
  ·exact h1.lev p hp
  ·exact h2.lev p hp
theorem lvOf_pos {lv : List (Int × Nat)} (hp : ∀ p ∈ lv, 0 < p.2) {id : Int} (h : lvOf lv id = 0) : ¬ id ∈ keysL lv := fun hm => by
 unfold lvOf at h
 obtain ⟨p, hp1, e⟩ := List.mem_map.1 hm
 cases hf : lv.find? (fun p => decide (p.1 = id)) with
 | none => have := List.find?_eq_none.1 hf p hp1; simp [e] at this
 | some q =>
  rw [hf] at h
  have := hp q (List.mem_of_find?_eq_some hf)
  simp at h
  omega
theorem lvOf_mem {lv : List (Int × Nat)} (hn : (keysL lv).Nodup) {p : Int × Nat} (hp : p ∈ lv) : lvOf lv p.1 = p.2 := by
  unfold lvOf
  induction lv with
  | nil => simp at hp
  | cons q lv ih =>
    simp only [keysL, List.map_cons, List.nodup_cons] at hn
    rw [List.find?_cons]
    rcases List.mem_cons.1 hp with rfl | hp
    · simp
    · have : ¬ q.1 = p.1 := fun e => hn.1 (by rw [e]; exact List.mem_map.2 ⟨p, hp, rfl⟩)
      simp only [this, decide_false]
      exact ih hn.2 hp

structure WS (ns : List NodeT) (root : Int) (lo hi : Nat) (top : List Int) (s s' : WSt) (L : List (Int × Nat)) : Prop where
 lv : s'.lv = s.lv ++ L
 nd : (keysL s'.lv).Nodup
 pos : ∀ p ∈ s'.lv, 0 < p.2
 good : WG ns root lo hi s'.depth L
 cnt : ∀ a, top.count a + (kidsL ns L).count a = (keysL L).count a
 rows : s.rows.Nodup → s'.rows.Nodup
 rws : s'.rows = s.rows ++ rowsL ns L
 keep : s.depth ≠ 0 → s'.depth = s.depth
theorem leaf_sound {ns : List NodeT} {rec : Int → WSt → Option WSt} {x : NodeT} (hl : x.leaf = true) : ∀ (l : List LinkT) (s s' : WSt), entsF ns rec x l s = some s' →
  s'.lv = s.lv ∧ s'.depth = s.depth ∧ s'.rows = s.rows ++ l.map (·.child) ∧ (s.rows.Nodup → s'.rows.Nodup) ∧ ∀ e ∈ l, e.child ≠ 0 ∧ boxK e.key = true
 | [], s, s', h => by
  rw [entsF] at h
  cases h
  exact ⟨rfl, rfl, by simp, id, by simp⟩
 | e :: l, s, s', h => by
  rw [entsF] at h
  cases h1 : entF ns rec x s e with
  | none => rw [h1] at h; cases h
  | some s1 =>
   rw [h1] at h
   obtain ⟨g1, g2, g3, g4, g5⟩ := leaf_sound hl l s1 s' h
   unfold entF at h1
   split at h1
   ·cases h1
   ·rename_i hc
    simp only [not_or] at hc
    cases h1
    refine ⟨g1, g2, by rw [g3]; simp, fun hn => g4 ?_, fun y hy => ?_⟩
    ·rw [List.nodup_append]
     refine ⟨hn, by simp, fun a ha b hb => ?_⟩
     rw [List.mem_singleton.1 hb]
     rintro rfl
     exact hc.2.2 ⟨hl, ha⟩
    ·rcases List.mem_cons.1 hy with rfl | hy
     ·exact ⟨hc.1, by simpa using hc.2.1⟩
     ·exact g5 y hy
theorem inner_sound {ns : List NodeT} {root : Int} {f level : Nat} {x : NodeT} (hl : x.leaf = false)
  (ih : ∀ (id : Int) (s s' : WSt), walkF ns root f id (level + 1) s = some s' → root ∈ keysL s.lv → (keysL s.lv).Nodup → (∀ p ∈ s.lv, 0 < p.2) → ∃ L, WS ns root (level + 1) (level + 1 + f) [id] s s' L ∧ (id, level + 1) ∈ L ∧ s'.depth ≠ 0) :
  ∀ (l : List LinkT) (s s' : WSt), entsF ns (fun c s => walkF ns root f c (level + 1) s) x l s = some s' → root ∈ keysL s.lv → (keysL s.lv).Nodup → (∀ p ∈ s.lv, 0 < p.2) →
  ∃ L, WS ns root (level + 1) (level + 1 + f) (l.map (·.child)) s s' L ∧ (l ≠ [] → s'.depth ≠ 0) ∧ ∀ e ∈ l, (e.child ≠ 0 ∧ boxK e.key = true) ∧ (e.child, level + 1) ∈ L ∧ ∃ c, findN ns e.child = some c ∧ boundP c.es = e.key
 | [], s, s', h, hro, hn, hp => by
  rw [entsF] at h
  cases h
  exact ⟨[], ⟨by simp, hn, hp, ⟨by simp, by simp⟩, by simp [kidsL, keysL], id, by simp [rowsL, keysL], fun _ => rfl⟩, by simp, by simp⟩
 | e :: l, s, s', h, hro, hn, hp => by
  rw [entsF] at h
  cases h1 : entF ns (fun c s => walkF ns root f c (level + 1) s) x s e with
  | none => rw [h1] at h; cases h
  | some s1 =>
   rw [h1] at h
   unfold entF at h1
   split at h1
   ·cases h1
   ·rename_i hc
    simp only [not_or] at hc
    rw [if_neg (by simp [hl])] at h1
    cases hw : walkF ns root f e.child (level + 1) s with
    | none => dsimp only at h1; rw [hw] at h1; cases h1
    | some s2 =>
     dsimp only at h1
     rw [hw] at h1
     dsimp only at h1
     cases hf : findN ns e.child with
     | none => rw [hf] at h1; cases h1
     | some c =>
      rw [hf] at h1
      dsimp only at h1
      by_cases hb : boundP c.es = e.key
      ·rw [if_pos hb] at h1
       obtain rfl : s2 = s1 := Option.some.inj h1
       obtain ⟨L1, W1, m1, d1⟩ := ih e.child s s2 hw hro hn hp
       obtain ⟨L2, W2, d2, m2⟩ := inner_sound hl ih l s2 s' h (by rw [W1.lv]; simp only [keysL, List.map_append, List.mem_append]; exact .inl hro) W1.nd W1.pos
       have hd : s'.depth = s2.depth := W2.keep d1
       refine ⟨L1 ++ L2, ⟨by rw [W2.lv, W1.lv, List.append_assoc], W2.nd, W2.pos, ?_, fun a => ?_, fun hr => W2.rows (W1.rows hr), by rw [W2.rws, W1.rws]; simp [rowsL, keysL], fun h0 => by rw [hd, W1.keep h0]⟩, fun _ => by rw [hd]; exact d1, fun y hy => ?_⟩
       ·exact WG.app (by rw [hd]; exact W1.good) W2.good
       ·have e1 := W1.cnt a
        have e2 := W2.cnt a
        simp only [kidsL, keysL, List.map_append, List.flatMap_append, List.count_append, List.map_cons, List.count_cons, List.count_nil] at e1 e2 ⊢
        omega
       ·rcases List.mem_cons.1 hy with rfl | hy
        ·exact ⟨⟨hc.1, by simpa using hc.2.1⟩, List.mem_append_left _ m1, c, hf, hb⟩
        ·obtain ⟨a, b, c⟩ := m2 y hy
         exact ⟨a, List.mem_append_right _ b, c⟩
      ·rw [if_neg hb] at h1
       cases h1
theorem walk_sound (ns : List NodeT) (root : Int) : ∀ (f : Nat) (id : Int) (level : Nat) (s s' : WSt), 0 < level → walkF ns root f id level s = some s' → (root ∈ keysL s.lv ∨ (id = root ∧ s.depth = 0)) → (keysL s.lv).Nodup → (∀ p ∈ s.lv, 0 < p.2) →
  ∃ L, WS ns root level (level + f) [id] s s' L ∧ (id, level) ∈ L ∧ s'.depth ≠ 0
 | 0, id, level, s, s', _, h, _, _, _ => by rw [walkF] at h; cases h
 | f + 1, id, level, s, s', hlv, h, hro, hn, hp => by
  rw [walkF] at h
  cases hf : findN ns id with
  | none => rw [hf] at h; cases h
  | some x =>
   rw [hf] at h
   dsimp only at h
   obtain ⟨hx, hxi⟩ := findN_some hf
   by_cases h0 : lvOf s.lv id ≠ 0
   ·rw [if_pos h0] at h; cases h
   ·rw [if_neg h0] at h
    have hni := lvOf_pos hp (Nat.eq_zero_of_not_pos (by omega : ¬ 0 < lvOf s.lv id))
    have hn1 : (keysL (s.lv ++ [(id, level)])).Nodup := by
     simp only [keysL, List.map_append, List.map_cons, List.map_nil]
     rw [List.nodup_append]
     exact ⟨hn, by simp, fun a ha b hb => by rw [List.mem_singleton.1 hb]; rintro rfl; exact hni ha⟩
    have hp1 : ∀ p ∈ s.lv ++ [(id, level)], 0 < p.2 := fun p hpm => by
     rcases List.mem_append.1 hpm with hpm | hpm
     ·exact hp p hpm
     ·rw [List.mem_singleton.1 hpm]; exact hlv
    have hko : kidsOf ns id = x.sh.kids := by unfold kidsOf; rw [hf]
    have hro' : rowsOf ns id = x.sh.rows := by unfold rowsOf; rw [hf]
    by_cases he : x.es = []
    ·rw [if_pos he] at h
     by_cases hr : x.leaf = true ∧ id = root
     ·rw [if_pos hr] at h
      cases h
      have hk0 : x.sh.kids = [] := by simp [SN.kids, he]
      refine ⟨[(id, level)], ⟨rfl, hn1, hp1, ⟨fun p hpm => ?_, fun p hpm => ?_⟩, fun a => ?_, fun hr => hr, by simp [rowsL, keysL, hro', SN.rows, he], fun hd => ?_⟩, by simp, by dsimp only; omega⟩
      ·rw [List.mem_singleton.1 hpm]
       exact ⟨x, hf, fun _ => ⟨hr.1, by rw [hxi]; exact hr.2⟩, fun _ => rfl, by simp [he], by simp [he]⟩
      ·rw [List.mem_singleton.1 hpm]; dsimp only; omega
      ·simp [kidsL, keysL, hko, hk0]
      ·rcases hro with hro | hro
       ·rw [← hr.2] at hro; exact absurd hro hni
       ·exact absurd hro.2 hd
     ·rw [if_neg hr] at h; cases h
    ·rw [if_neg he] at h
     by_cases hd : x.leaf = true ∧ s.depth ≠ 0 ∧ s.depth ≠ level
     ·rw [if_pos hd] at h; cases h
     ·rw [if_neg hd] at h
      have hro1 : root ∈ keysL (s.lv ++ [(id, level)]) := by
       simp only [keysL, List.map_append, List.map_cons, List.map_nil, List.mem_append, List.mem_singleton]
       rcases hro with hro | hro
       ·exact .inl hro
       ·exact .inr hro.1.symm
      cases hl : x.leaf with
      | true =>
       rw [hl] at h
       obtain ⟨g1, g2, g3, g4, g5⟩ := leaf_sound hl _ _ _ h
       dsimp only at g1 g2 g3 g4
       rw [if_pos rfl] at g2
       have hk0 : x.sh.kids = [] := by simp [SN.kids, hl]
       refine ⟨[(id, level)], ⟨g1, by rw [g1]; exact hn1, by rw [g1]; exact hp1, ⟨fun p hpm => ?_, fun p hpm => ?_⟩, fun a => ?_, g4, by rw [g3]; simp [rowsL, keysL, hro', SN.rows, hl], fun h1 => ?_⟩, by simp, by omega⟩
       ·rw [List.mem_singleton.1 hpm]
        exact ⟨x, hf, fun e => absurd e he, fun _ => g2.symm, g5, fun e => by rw [hl] at e; cases e⟩
       ·rw [List.mem_singleton.1 hpm]; dsimp only; omega
       ·simp [kidsL, keysL, hko, hk0]
       ·rw [g2]
        by_cases e : s.depth = level
        ·exact e.symm
        ·exact absurd ⟨hl, h1, e⟩ hd
      | false =>
       rw [hl] at h
       obtain ⟨L, W, d, m⟩ := inner_sound hl (fun id s s' h1 h2 h3 h4 => walk_sound ns root f id (level + 1) s s' (by omega) h1 (.inl h2) h3 h4) _ _ _ h hro1 hn1 hp1
       have hk : x.sh.kids = x.es.map (·.child) := by simp [SN.kids, hl]
       refine ⟨(id, level) :: L, ⟨by rw [W.lv]; simp, W.nd, W.pos, ⟨fun p hpm => ?_, fun p hpm => ?_⟩, fun a => ?_, W.rows, by rw [W.rws]; simp [rowsL, keysL, hro', SN.rows, hl], fun h1 => ?_⟩, by simp, d he⟩
       ·rcases List.mem_cons.1 hpm with rfl | hpm
        ·exact ⟨x, hf, fun e => absurd e he, fun e => absurd (hl.symm.trans e) Bool.false_ne_true, fun e he => (m e he).1, fun _ e he => ⟨List.mem_cons_of_mem _ (m e he).2.1, (m e he).2.2⟩⟩
        ·obtain ⟨y, a, b, c, d, e⟩ := W.good.node p hpm
         exact ⟨y, a, b, c, d, fun hl y hy => ⟨List.mem_cons_of_mem _ (e hl y hy).1, (e hl y hy).2⟩⟩
       ·rcases List.mem_cons.1 hpm with rfl | hpm
        ·dsimp only; omega
        ·have := W.good.lev p hpm; omega
       ·have e1 := W.cnt a
        simp only [kidsL, keysL, List.map_cons, List.flatMap_cons, List.count_append, List.count_cons, List.count_nil, hko, hk] at e1 ⊢
        omega
       ·rw [W.keep (by simpa using h1)]; simp

theorem heads_inv (count : Int) : ∀ (l : List NodeT) (most : Int), headsF count most l = true → (∀ x ∈ l, most < x.id ∧ x.es.length ≤ 4 ∧ x.mark ≤ count) ∧ (idsN l).Pairwise (· < ·)
 | [], _, _ => ⟨by simp, by simp [idsN]⟩
 | x :: l, most, h => by
  unfold headsF at h
  simp only [Bool.and_eq_true, decide_eq_true_eq] at h
  obtain ⟨h1, h2⟩ := heads_inv count l x.id h.2
  refine ⟨fun y hy => ?_, ?_⟩
  ·rcases List.mem_cons.1 hy with rfl | hy
   ·exact ⟨h.1.1.1, h.1.1.2, h.1.2⟩
   ·have := h1 y hy; exact ⟨by omega, this.2⟩
  ·simp only [idsN, List.map_cons, List.pairwise_cons]
   refine ⟨fun a ha => ?_, h2⟩
   obtain ⟨y, hy, rfl⟩ := List.mem_map.1 ha
   exact (h1 y hy).1
theorem count_same {l m : List Int} (hl : l.Nodup) (hm : m.Nodup) (h1 : ∀ a ∈ l, a ∈ m) (h2 : ∀ a ∈ m, a ∈ l) (a : Int) : l.count a = m.count a := by
 have e1 := List.nodup_iff_count.1 hl a
 have e2 := List.nodup_iff_count.1 hm a
 rcases Nat.eq_zero_or_pos (l.count a) with e | e
 ·rcases Nat.eq_zero_or_pos (m.count a) with f | f
  ·omega
  ·have := List.count_pos_iff.2 (h2 a (List.count_pos_iff.1 f)); omega
 ·have := List.count_pos_iff.2 (h1 a (List.count_pos_iff.1 e)); omega
theorem keyN_ok {ns : List NodeT} {x : NodeT} (h : x.leaf = false → ∀ e ∈ x.es, ∃ c, findN ns e.child = some c ∧ (c.es = [] ∨ boundK c.es = e.key)) : keyN ns x = x := by
 unfold keyN
 cases hl : x.leaf with
 | true => rfl
 | false =>
  have : x.es.map (keyE ns) = x.es := by
   conv => rhs; rw [← List.map_id x.es]
   refine List.map_congr_left (fun e he => ?_)
   obtain ⟨c, h1, h2⟩ := h hl e he
   unfold keyE
   rw [h1]
   dsimp only
   split
   ·rfl
   ·rename_i h3
    rcases h2 with h2 | h2
    ·exact absurd h2 h3
    ·rw [h2]; rfl
  rw [this]
  cases x
  simp at hl ⊢
  exact hl
theorem plant_inv {t : TreeT} (T : TyT t) (H : plantF t = true) : Inv t := by
  unfold plantF at H
  simp only [Bool.and_eq_true, decide_eq_true_eq] at H
  obtain ⟨⟨hlen, hheads⟩, H⟩ := H
  cases hw : walkF t.nodes t.root 12 t.root 1 ⟨[], 0, []⟩ with
  | none => rw [hw] at H; cases H
  | some s =>
    rw [hw] at H
    simp only [Bool.and_eq_true, decide_eq_true_eq] at H
    obtain ⟨⟨hll, hrs⟩, hch⟩ := H
    obtain ⟨L, W, hm, hd⟩ := walk_sound t.nodes t.root 12 t.root 1 _ _ (by omega) hw (.inr ⟨rfl, rfl⟩) (by simp [keysL]) (by simp)
    have hsl : s.lv = L := by rw [W.lv]; simp
    have hkn : (keysL L).Nodup := by rw [← hsl]; exact W.nd
    obtain ⟨hh, hsrt⟩ := heads_inv _ _ _ hheads
    have hnd : (idsN t.nodes).Nodup := by
      rw [List.nodup_iff_pairwise_ne]
      exact hsrt.imp (fun h => by omega)
    have hsub : ∀ a ∈ keysL L, a ∈ idsN t.nodes := fun a ha => by
      obtain ⟨p, hp, rfl⟩ := List.mem_map.1 ha
      obtain ⟨x, hf, _⟩ := W.good.node p hp
      obtain ⟨h1, h2⟩ := findN_some hf
      exact List.mem_map.2 ⟨x, h1, h2⟩
    have hsup : ∀ b ∈ idsN t.nodes, b ∈ keysL L := fun b hb => by
      refine Classical.byContradiction (fun hc => ?_)
      have h1 : (b :: keysL L).Nodup := List.nodup_cons.2 ⟨hc, hkn⟩
      have := List.Nodup.length_le_of_subset h1 (l₂ := idsN t.nodes) (fun a ha => by
        rcases List.mem_cons.1 ha with rfl | ha
        · exact hb
        · exact hsub a ha)
      simp [keysL, idsN, ← hsl, hll] at this
      omega
    have hN : ∀ x ∈ t.nodes, ∃ l, (x.id, l) ∈ L ∧ lvOf L x.id = l ∧ (x.es = [] → x.leaf = true ∧ x.id = t.root) ∧ (x.leaf = true → l = s.depth) ∧ (∀ e ∈ x.es, e.child ≠ 0 ∧ boxK e.key = true) ∧
        (x.leaf = false → ∀ e ∈ x.es, (e.child, l + 1) ∈ L ∧ ∃ c, findN t.nodes e.child = some c ∧ boundP c.es = e.key) ∧ l < 13 ∧ 0 < l := fun x hx => by
      obtain ⟨p, hp, e⟩ := List.mem_map.1 (hsup x.id (List.mem_map.2 ⟨x, hx, rfl⟩))
      obtain ⟨y, hf, a, b, c, d⟩ := W.good.node p hp
      have hl := W.good.lev p hp
      rw [e, findN_mem hnd hx] at hf
      obtain rfl : x = y := Option.some.inj hf
      have h2 := lvOf_mem hkn hp
      rw [e] at h2
      refine ⟨p.2, by rw [← e]; exact hp, h2, a, b, c, d, by omega, by omega⟩
    have hbox : BoxesOk t.nodes := fun x hx e he => by
      obtain ⟨l, _, _, _, _, h1, _⟩ := hN x hx
      exact (h1 e he).2
    have hdown := lev_down (ns := t.nodes) (lvOf L) s.depth 12 (fun x hx => by obtain ⟨l, _, h, _, _, _, _, h1⟩ := hN x hx; omega) (fun x hx hl => by obtain ⟨l, _, h, _, h1, _⟩ := hN x hx; rw [h]; exact h1 hl) (fun x hx hl => by
      obtain ⟨l, _, h, h0, _, _, h1, _⟩ := hN x hx
      cases he : x.es with
      | nil => rw [(h0 he).1] at hl; cases hl
      | cons e es =>
        obtain ⟨h2, c, h3, _⟩ := h1 hl e (by simp [he])
        obtain ⟨h4, h5⟩ := findN_some h3
        exact ⟨c, h4, by rw [h5, lvOf_mem hkn h2, h]⟩)
    have hkids : ∀ a, (kidsL t.nodes L).count a = (kidsS (shs t.nodes)).count a := fun a => by
      have h1 := sub_count (kidsOf t.nodes) a _ _ hkn hsub
      have h2 := sub_count (kidsOf t.nodes) a _ _ hnd hsup
      rw [kids_flat hnd] at h1 h2
      exact Nat.le_antisymm h1 h2
    have hrkn : ∀ x ∈ t.nodes, stepsF t.nodes t.nodes.length x.right = 0 := by
      unfold chainsF at hch
      rw [List.all_eq_true] at hch
      exact fun x hx => by simpa using hch x hx
    have hrows : (rowsL t.nodes L).Nodup := by
      have h1 := W.rows (by simp)
      rw [W.rws] at h1
      simpa using h1
    have hrw : ∀ a, (rowsS (shs t.nodes)).count a ≤ 1 := fun a => by
      have h2 := sub_count (rowsOf t.nodes) a _ _ hnd hsup
      rw [rows_flat hnd] at h2
      exact Nat.le_trans h2 (List.nodup_iff_count.1 hrows a)
    have hroot : lvOf L t.root = 1 := lvOf_mem hkn hm
    obtain ⟨r, hr1, hr2⟩ := List.mem_map.1 (hsub t.root (List.mem_map.2 ⟨_, hm, rfl⟩))
    have hD := hdown r hr1
    refine ⟨⟨fun a => s.depth - lvOf L a, rkF t.nodes (t.nodes.length + 1), ⟨by simpa using hsrt, fun x hx => ?_, fun a => ?_, fun x hx hl => ?_, fun x hx c hc => ?_, fun x hx hne => ?_⟩, by dsimp only; omega⟩, fun x hx => ?_, hbox, fun x hx he => ?_, fun x hx => ?_, fun x hx => ?_, T.cnt, hrw, fun a ha => ?_, hlen⟩
    · obtain ⟨x, hx1, rfl⟩ := of_shs hx; clear hx; have hx := hx1
      exact ⟨(hh x hx).1, (T.ids x hx).2.1⟩
    · have h1 := W.cnt a
      rw [hkids, count_same hkn hnd hsub hsup] at h1
      rw [idsS_shs]; exact h1
    · obtain ⟨x, hx1, rfl⟩ := of_shs hx; clear hx; have hx := hx1
      obtain ⟨l, _, h, _, h1, _⟩ := hN x hx
      have := h1 hl
      simp only [NodeT.sh_id]
      omega
    · obtain ⟨x, hx1, rfl⟩ := of_shs hx; clear hx; have hx := hx1
      obtain ⟨l, _, h, _, _, _, h1, _⟩ := hN x hx
      cases hl : x.leaf with
      | true => simp [SN.kids, hl] at hc
      | false =>
        simp only [SN.kids, NodeT.sh_leaf, hl, NodeT.sh_ch, Bool.false_eq_true, if_false] at hc
        obtain ⟨e, he, rfl⟩ := List.mem_map.1 hc
        obtain ⟨h2, c, h3, _⟩ := h1 hl e he
        obtain ⟨h4, h5⟩ := findN_some h3
        have h6 : lvOf L e.child = l + 1 := lvOf_mem hkn h2
        have h7 := hdown c h4
        rw [h5] at h7
        simp only [NodeT.sh_id]
        omega
    · obtain ⟨x, hx1, rfl⟩ := of_shs hx; clear hx; have hx := hx1
      simp only [NodeT.sh_right, NodeT.sh_id, idsS_shs] at hne ⊢
      unfold rightsF at hrs
      rw [List.all_eq_true] at hrs
      have h1 := hrs x hx
      rw [Bool.or_eq_true] at h1
      rcases h1 with h1 | h1
      · simp [hne] at h1
      · cases hf : findN t.nodes x.right with
        | none => rw [hf] at h1; cases h1
        | some y =>
          rw [hf] at h1
          obtain ⟨h2, h3⟩ := findN_some hf
          rw [hsl] at h1
          simp only [decide_eq_true_eq] at h1
          exact ⟨List.mem_map.2 ⟨y, h2, h3⟩, by rw [h1], rank_ok hnd hrkn hx (by have := (hh x hx).1; omega)⟩
    · refine keyN_ok (fun hl e he => ?_)
      obtain ⟨l, _, _, _, _, _, h1, _⟩ := hN x hx
      obtain ⟨_, c, h3, h4⟩ := h1 hl e he
      exact ⟨c, h3, .inr (by rw [← h4, boundP_eq (hbox c (findN_some h3).1)])⟩
    · obtain ⟨x, hx1, rfl⟩ := of_shs hx; clear hx; have hx := hx1
      obtain ⟨l, _, _, h1, _⟩ := hN x hx
      exact h1 (by simpa using he)
    · obtain ⟨x, hx1, rfl⟩ := of_shs hx; clear hx; have hx := hx1
      simpa using (hh x hx).2.1
    · obtain ⟨x, hx1, rfl⟩ := of_shs hx; clear hx; have hx := hx1
      exact ⟨(T.ids x hx).2.2, (hh x hx).2.2⟩
    · obtain ⟨y, hy, h1⟩ := List.mem_flatMap.1 ha
      obtain ⟨x, hx, rfl⟩ := of_shs hy
      cases hl : x.leaf with
      | false => simp [SN.rows, hl] at h1
      | true =>
        simp only [SN.rows, NodeT.sh_leaf, hl, NodeT.sh_ch, if_true] at h1
        obtain ⟨e, he, rfl⟩ := List.mem_map.1 h1
        obtain ⟨l, _, _, _, _, h2, _⟩ := hN x hx
        have h3 := h2 e he
        have h4 := T.kid x hx e he
        omega
end Go.Proofs.Ytmjnpfackanhlaa.AM

namespace Go.Proofs.Ytmjnpfackanhlaa.AM
open Go
set_option linter.unusedVariables false
set_option linter.unusedSimpArgs false

def deepF (ns : List NodeT) (root : Int) : Nat → Nat → Int → Nat
 | 0, _, _ => 0
 | k + 1, n, id => if id = root then n else match aboveN ns id with
  | none => 0
  | some p => deepF ns root k (n + 1) p.id
def deepD (t : TreeT) (id : Int) : Nat := deepF t.nodes t.root 12 1 id
structure EntOk (t : TreeT) (i : Nat) (x : NodeT) (k : Nat) (e : LinkT) : Prop where
 pos : e.child ≠ 0
 box : boxK e.key = true
 one : ∀ j y m f, t.nodes[j]? = some y → y.es[m]? = some f → y.leaf = x.leaf → f.child = e.child → j = i ∧ m = k
 inn : x.leaf = false → ∃ c, findN t.nodes e.child = some c ∧ c.es ≠ [] ∧ boundK c.es = e.key
structure NodeOk (t : TreeT) (i : Nat) (x : NodeT) : Prop where
 pos : x.id ≠ 0
 ord : 0 < i → ∀ y, t.nodes[i - 1]? = some y → y.id < x.id
 wid : x.es.length ≤ 4
 mark : x.mark ≤ t.count
 ne : x.es = [] → x.leaf = true ∧ x.id = t.root
 deep : deepD t x.id ≠ 0
 top : x.id = t.root → aboveN t.nodes x.id = none
 ent : ∀ k e, x.es[k]? = some e → EntOk t i x k e
structure Rgt (t : TreeT) : Prop where
 len : t.nodes.length ≤ 512
 root : t.root ∈ idsN t.nodes
 node : ∀ i x, t.nodes[i]? = some x → NodeOk t i x
 leaves : ∀ x ∈ t.nodes, ∀ y ∈ t.nodes, x.leaf = true → y.leaf = true → deepD t x.id = deepD t y.id
 rights : ∀ x ∈ t.nodes, x.right ≠ 0 → x.right ∈ idsN t.nodes ∧ deepD t x.right = deepD t x.id
 chain : ∀ x ∈ t.nodes, ∀ n, n < 512 → stepsF t.nodes n x.right ≠ 0 → stepsF t.nodes n x.right ≠ x.id

theorem deepF_succ (ns : List NodeT) (root : Int) : ∀ (k n : Nat) (id : Int), 0 < n → deepF ns root k (n + 1) id ≠ 0 → deepF ns root k (n + 1) id = deepF ns root k n id + 1 ∧ deepF ns root k n id ≠ 0
 | 0, n, id, _, h => by rw [deepF] at h; exact absurd rfl h
 | k + 1, n, id, hn, h => by
  rw [deepF] at h ⊢
  rw [deepF]
  split
  ·exact ⟨rfl, by omega⟩
  ·rename_i he
   rw [if_neg he] at h
   cases ha : aboveN ns id with
   | none => rw [ha] at h; exact absurd rfl h
   | some p =>
    rw [ha] at h
    exact deepF_succ ns root k (n + 1) p.id (by omega) h
theorem deepF_more (ns : List NodeT) (root : Int) : ∀ (k n : Nat) (id : Int), deepF ns root k n id ≠ 0 → deepF ns root (k + 1) n id = deepF ns root k n id
 | 0, n, id, h => by rw [deepF] at h; exact absurd rfl h
 | k + 1, n, id, h => by
  rw [deepF] at h
  rw [deepF]
  conv => rhs; rw [deepF]
  split
  ·rfl
  ·rename_i he
   rw [if_neg he] at h
   cases ha : aboveN ns id with
   | none => rfl
   | some p =>
    rw [ha] at h
    exact deepF_more ns root k (n + 1) p.id h
theorem deepF_lt (ns : List NodeT) (root : Int) : ∀ (k n : Nat) (id : Int), 0 < n → deepF ns root k n id < k + n
 | 0, n, id, h => by rw [deepF]; omega
 | k + 1, n, id, h => by
  rw [deepF]
  split
  ·omega
  ·split
   ·omega
   ·rename_i p _
    have := deepF_lt ns root k (n + 1) p.id (by omega)
    omega
theorem deepD_kid {t : TreeT} {c : Int} {p : NodeT} (hc : c ≠ t.root) (ha : aboveN t.nodes c = some p) (hd : deepD t c ≠ 0) : deepD t c = deepD t p.id + 1 := by
 unfold deepD at hd ⊢
 rw [deepF, if_neg hc, ha] at hd ⊢
 dsimp only at hd ⊢
 obtain ⟨h1, h2⟩ := deepF_succ _ _ _ _ _ (by omega) hd
 rw [deepF_more _ _ _ _ _ h2]
 exact h1
theorem deepD_le (t : TreeT) (id : Int) : deepD t id ≤ 12 := by
 have := deepF_lt t.nodes t.root 12 1 id (by omega)
 unfold deepD
 omega

/-! ### nothing twice, by places -/
theorem count_one {a : Int} : ∀ {u : List Int}, (∀ (k m : Nat), u[k]? = some a → u[m]? = some a → k = m) → u.count a ≤ 1
 | [], _ => by simp
 | b :: u, h => by
  rw [List.count_cons]
  by_cases e : b = a
  ·have : u.count a = 0 := List.count_eq_zero.2 (fun hm => by
    obtain ⟨m, hm, e2⟩ := List.getElem_of_mem hm
    have := h 0 (m + 1) (by simp [e]) (by simp [hm, e2])
    omega)
   rw [this]; split <;> omega
  ·have := count_one (u := u) (a := a) (fun k m h1 h2 => by
    have := h (k + 1) (m + 1) (by simpa using h1) (by simpa using h2)
    omega)
   simp [e]
   omega
theorem one_count {a : Int} : ∀ {u : List Int}, u.count a ≤ 1 → ∀ {k m : Nat}, u[k]? = some a → u[m]? = some a → k = m
 | [], _, k, m, h, _ => by simp at h
 | b :: u, h, 0, 0, _, _ => rfl
 | b :: u, h, 0, m + 1, h1, h2 => by
  simp at h1 h2
  have := List.count_pos_iff.2 (List.mem_of_getElem? h2)
  rw [List.count_cons, h1] at h
  simp at h
  omega
 | b :: u, h, k + 1, 0, h1, h2 => by
  simp at h1 h2
  have := List.count_pos_iff.2 (List.mem_of_getElem? h1)
  rw [List.count_cons, h2] at h
  simp at h
  omega
 | b :: u, h, k + 1, m + 1, h1, h2 => by
  simp at h1 h2
  rw [List.count_cons] at h
  rw [one_count (u := u) (by omega) h1 h2]
theorem flat_count {α : Type} {f : α → List Int} {a : Int} : ∀ {l : List α}, (∀ (i j k m : Nat) (x y : α), l[i]? = some x → l[j]? = some y → (f x)[k]? = some a → (f y)[m]? = some a → i = j ∧ k = m) → (l.flatMap f).count a ≤ 1
 | [], _ => by simp
 | x :: l, h => by
  rw [List.flatMap_cons, List.count_append]
  have h1 : (f x).count a ≤ 1 := count_one (fun k m h1 h2 => (h 0 0 k m x x rfl rfl h1 h2).2)
  have h2 : (l.flatMap f).count a ≤ 1 := flat_count (fun i j k m y z e1 e2 e3 e4 => by
   have := h (i + 1) (j + 1) k m y z (by simpa using e1) (by simpa using e2) e3 e4
   omega)
  rcases Nat.eq_zero_or_pos ((f x).count a) with e1 | e1
  ·omega
  ·rcases Nat.eq_zero_or_pos ((l.flatMap f).count a) with e2 | e2
   ·omega
   ·obtain ⟨k, hk, g1⟩ := List.getElem_of_mem (List.count_pos_iff.1 e1)
    obtain ⟨y, hy, g2⟩ := List.mem_flatMap.1 (List.count_pos_iff.1 e2)
    obtain ⟨j, hj, rfl⟩ := List.getElem_of_mem hy
    obtain ⟨m, hm, g3⟩ := List.getElem_of_mem g2
    have := h 0 (j + 1) k m x l[j] rfl (by simp [hj]) (by simp [hk, g1]) (by simp [hm, g3])
    omega
theorem flat_one {α : Type} {f : α → List Int} {a : Int} : ∀ {l : List α}, (l.flatMap f).count a ≤ 1 → ∀ {i j k m : Nat} {x y : α}, l[i]? = some x → l[j]? = some y → (f x)[k]? = some a → (f y)[m]? = some a → i = j ∧ k = m
 | [], _, i, j, k, m, x, y, h, _, _, _ => by simp at h
 | z :: l, h, 0, 0, k, m, x, y, h1, h2, h3, h4 => by
  rw [List.flatMap_cons, List.count_append] at h
  simp at h1 h2
  subst h1 h2
  exact ⟨rfl, one_count (by omega) h3 h4⟩
 | z :: l, h, 0, j + 1, k, m, x, y, h1, h2, h3, h4 => by
  rw [List.flatMap_cons, List.count_append] at h
  simp at h1 h2
  subst h1
  have e1 := List.count_pos_iff.2 (List.mem_of_getElem? h3)
  have e2 := List.count_pos_iff.2 (List.mem_flatMap.2 ⟨y, List.mem_of_getElem? h2, List.mem_of_getElem? h4⟩)
  omega
 | z :: l, h, i + 1, 0, k, m, x, y, h1, h2, h3, h4 => by
  rw [List.flatMap_cons, List.count_append] at h
  simp at h1 h2
  subst h2
  have e1 := List.count_pos_iff.2 (List.mem_of_getElem? h4)
  have e2 := List.count_pos_iff.2 (List.mem_flatMap.2 ⟨x, List.mem_of_getElem? h1, List.mem_of_getElem? h3⟩)
  omega
 | z :: l, h, i + 1, j + 1, k, m, x, y, h1, h2, h3, h4 => by
  rw [List.flatMap_cons, List.count_append] at h
  simp at h1 h2
  have := flat_one (l := l) (by omega) h1 h2 h3 h4
  omega
def kindE (b : Bool) (x : NodeT) : List Int := if x.leaf = b then x.es.map (·.child) else []
theorem kind_kids (ns : List NodeT) : kidsS (shs ns) = ns.flatMap (kindE false) := by
 unfold kidsS shs
 rw [List.flatMap_map]
 have : (fun x => SN.kids (NodeT.sh x)) = kindE false := by
  funext x; unfold kindE SN.kids
  cases h : x.leaf <;> simp [h]
 rw [this]
theorem kind_rows (ns : List NodeT) : rowsS (shs ns) = ns.flatMap (kindE true) := by
 unfold rowsS shs
 rw [List.flatMap_map]
 have : (fun x => SN.rows (NodeT.sh x)) = kindE true := by
  funext x; unfold kindE SN.rows
  cases h : x.leaf <;> simp [h]
 rw [this]
theorem kind_iff (ns : List NodeT) (b : Bool) : (∀ a, (ns.flatMap (kindE b)).count a ≤ 1) ↔ ∀ (i : Nat) (x : NodeT) (k : Nat) (e : LinkT) (j : Nat) (y : NodeT) (m : Nat) (f : LinkT), ns[i]? = some x → x.es[k]? = some e → ns[j]? = some y → y.es[m]? = some f → x.leaf = b → y.leaf = b → f.child = e.child → j = i ∧ m = k := by
 constructor
 ·intro h i x k e j y m f h1 h2 h3 h4 h5 h6 h7
  refine flat_one (h e.child) h3 h1 ?_ ?_
  ·simp [kindE, h6, h4, h7]
  ·simp [kindE, h5, h2]
 ·intro h a
  refine flat_count (fun i j k m x y h1 h2 h3 h4 => ?_)
  unfold kindE at h3 h4
  split at h3
  ·split at h4
   ·rename_i h5 h6
    rw [List.getElem?_map, Option.map_eq_some_iff] at h3 h4
    obtain ⟨e, h3, rfl⟩ := h3
    obtain ⟨f, h4, h7⟩ := h4
    have := h i x k e j y m f h1 h3 h2 h4 h5 h6 h7
    omega
   ·simp at h4
  ·simp at h3
theorem adj_sorted : ∀ (ns : List NodeT), (∀ (i : Nat) (x y : NodeT), ns[i]? = some x → ns[i + 1]? = some y → x.id < y.id) → (idsN ns).Pairwise (· < ·)
 | [], _ => by simp [idsN]
 | [x], _ => by simp [idsN]
 | x :: y :: ns, h => by
  have ih := adj_sorted (y :: ns) (fun i a b h1 h2 => h (i + 1) a b (by simpa using h1) (by simpa using h2))
  have h1 := h 0 x y rfl rfl
  unfold idsN at ih ⊢
  rw [List.map_cons, List.pairwise_cons]
  refine ⟨fun a ha => ?_, ih⟩
  rw [List.map_cons, List.mem_cons] at ha
  rw [List.map_cons, List.pairwise_cons] at ih
  rcases ha with rfl | ha
  ·exact h1
  ·have := ih.1 a ha; omega
theorem sorted_adj : ∀ (ns : List NodeT), (idsN ns).Pairwise (· < ·) → ∀ (i : Nat) (x y : NodeT), ns[i]? = some x → ns[i + 1]? = some y → x.id < y.id := fun ns h i x y h1 h2 => by
 obtain ⟨hi, e1⟩ := List.getElem?_eq_some_iff.1 h1
 obtain ⟨hj, e2⟩ := List.getElem?_eq_some_iff.1 h2
 have := List.pairwise_iff_getElem.1 h i (i + 1) (by simpa [idsN] using hi) (by simpa [idsN] using hj) (by omega)
 simpa [idsN, e1, e2] using this
theorem stepsF_add (ns : List NodeT) (n : Nat) : ∀ (m : Nat) (a : Int), stepsF ns (m + n) a = stepsF ns n (stepsF ns m a)
 | 0, a => by rw [Nat.zero_add]; rfl
 | m + 1, a => by
  rw [Nat.add_right_comm, stepsF, stepsF]
  by_cases e : a = 0
  ·rw [if_pos e, if_pos e, stepsF_zero]
  ·rw [if_neg e, if_neg e, stepsF_add ns n m]
theorem chain_ok {ns : List NodeT} (hnd : (idsN ns).Nodup) (hr : ∀ x ∈ ns, x.right ≠ 0 → x.right ∈ idsN ns) (hlen : ns.length ≤ 512)
  (hc : ∀ x ∈ ns, ∀ n, n < 512 → stepsF ns n x.right ≠ 0 → stepsF ns n x.right ≠ x.id) : ∀ x ∈ ns, stepsF ns ns.length x.right = 0 := by
 intro x hx
 refine Classical.byContradiction (fun hne => ?_)
 have h0 : ∀ i, i ≤ ns.length → stepsF ns i x.right ≠ 0 := fun i hi e => by
  obtain ⟨n, hn⟩ : ∃ n, ns.length = i + n := ⟨ns.length - i, by omega⟩
  rw [hn, stepsF_add, e, stepsF_zero] at hne
  exact hne rfl
 have hs : ∀ i, stepsF ns (i + 1) x.right = stepsF ns 1 (stepsF ns i x.right) := fun i => stepsF_add ns 1 i _
 have h1 : ∀ i, i ≤ ns.length → ∃ y ∈ ns, y.id = stepsF ns i x.right ∧ (stepsF ns (i + 1) x.right = y.right) := by
  have hin : ∀ a : Int, a ≠ 0 → a ∈ idsN ns → ∃ y ∈ ns, y.id = a ∧ stepsF ns 1 a = y.right := fun a ha hm => by
   obtain ⟨y, hf⟩ := findN_ids hm
   obtain ⟨g1, g2⟩ := findN_some hf
   refine ⟨y, g1, g2, ?_⟩
   rw [stepsF, if_neg ha, stepsF]
   unfold rightN
   rw [hf]
  intro i
  induction i with
  | zero =>
   intro hi
   have := h0 0 hi
   rw [hs]
   exact hin _ this (hr x hx this)
  | succ i ih =>
   intro hi
   obtain ⟨y, g1, g2, g3⟩ := ih (by omega)
   have := h0 (i + 1) hi
   rw [hs (i + 1)]
   refine hin _ this ?_
   rw [g3] at this ⊢
   exact hr y g1 this
 by_cases hd : ∃ i j, i < j ∧ j ≤ ns.length ∧ stepsF ns i x.right = stepsF ns j x.right
 ·obtain ⟨i, j, hij, hj, e⟩ := hd
  obtain ⟨y, g1, g2, g3⟩ := h1 i (by omega)
  obtain ⟨n, rfl⟩ : ∃ n, j = i + 1 + n := ⟨j - (i + 1), by omega⟩
  have e2 : stepsF ns (i + 1 + n) x.right = stepsF ns n y.right := by rw [stepsF_add, g3]
  have := h0 _ hj
  rw [e2] at this e
  exact hc y g1 n (by omega) this (by rw [← e, g2])
 ·have hn2 : ((List.range (ns.length + 1)).map (fun i => stepsF ns i x.right)).Nodup := by
   rw [List.nodup_iff_pairwise_ne, List.pairwise_iff_getElem]
   intro i j hi hj hij e
   simp only [List.length_map, List.length_range] at hi hj
   simp only [List.getElem_map, List.getElem_range] at e
   exact hd ⟨i, j, hij, by omega, e⟩
  have := List.Nodup.length_le_of_subset hn2 (l₂ := idsN ns) (fun a ha => by
   obtain ⟨i, hi, rfl⟩ := List.mem_map.1 ha
   obtain ⟨y, g1, g2, _⟩ := h1 i (by have := List.mem_range.1 hi; omega)
   exact List.mem_map.2 ⟨y, g1, g2⟩)
  simp [idsN] at this
  omega
theorem rgt_inv {t : TreeT} (T : TyT t) (H : Rgt t) : Inv t := by
  have hat : ∀ x ∈ t.nodes, ∃ i : Nat, t.nodes[i]? = some x := fun x hx => by
    obtain ⟨i, hi, e⟩ := List.getElem_of_mem hx
    exact ⟨i, List.getElem?_eq_some_iff.2 ⟨hi, e⟩⟩
  have hN : ∀ x ∈ t.nodes, ∃ i : Nat, t.nodes[i]? = some x ∧ NodeOk t i x := fun x hx => by
    obtain ⟨i, hi⟩ := hat x hx
    exact ⟨i, hi, H.node i x hi⟩
  have hE : ∀ x ∈ t.nodes, ∀ e ∈ x.es, ∃ i k : Nat, t.nodes[i]? = some x ∧ x.es[k]? = some e ∧ EntOk t i x k e := fun x hx e he => by
    obtain ⟨i, hi, h⟩ := hN x hx
    obtain ⟨k, hk, e1⟩ := List.getElem_of_mem he
    exact ⟨i, k, hi, by simp [hk, e1], h.ent k e (by simp [hk, e1])⟩
  have hsrt : (idsN t.nodes).Pairwise (· < ·) := adj_sorted _ (fun i x y h1 h2 => (H.node (i + 1) y h2).ord (by omega) x (by simpa using h1))
  have hnd : (idsN t.nodes).Nodup := by
    rw [List.nodup_iff_pairwise_ne]
    exact hsrt.imp (fun h => by omega)
  have hkind : ∀ b a, (t.nodes.flatMap (kindE b)).count a ≤ 1 := fun b => (kind_iff t.nodes b).2 (fun i x k e j y m f h1 h2 h3 h4 h5 h6 h7 =>
    ((H.node i x h1).ent k e h2).one j y m f h3 h4 (by rw [h5, h6]) h7)
  have hbox : BoxesOk t.nodes := fun x hx e he => by
    obtain ⟨i, k, _, _, h⟩ := hE x hx e he
    exact h.box
  have hkid : ∀ c ∈ kidsS (shs t.nodes), c ∈ idsN t.nodes := fun c hc => by
    obtain ⟨y, hy, h1⟩ := List.mem_flatMap.1 hc
    obtain ⟨x, hx, rfl⟩ := of_shs hy
    cases hl : x.leaf with
    | true => simp [SN.kids, hl] at h1
    | false =>
      simp only [SN.kids, NodeT.sh_leaf, hl, NodeT.sh_ch, Bool.false_eq_true, if_false] at h1
      obtain ⟨e, he, rfl⟩ := List.mem_map.1 h1
      obtain ⟨i, k, _, _, h⟩ := hE x hx e he
      obtain ⟨c, h2, _⟩ := h.inn hl
      obtain ⟨h3, h4⟩ := findN_some h2
      exact List.mem_map.2 ⟨c, h3, h4⟩
  have htop : ¬ t.root ∈ kidsS (shs t.nodes) := by
    obtain ⟨r, hr, e⟩ := List.mem_map.1 H.root
    obtain ⟨i, _, h⟩ := hN r hr
    have := h.top e
    rw [e] at this
    exact aboveN_none this
  have hpar : ∀ x ∈ t.nodes, ∀ y ∈ t.nodes, ∀ c, c ∈ x.sh.kids → c ∈ y.sh.kids → x = y := fun x hx y hy c hc1 hc2 => by
    obtain ⟨i, hi⟩ := hat x hx
    obtain ⟨j, hj⟩ := hat y hy
    have ek : ∀ z : NodeT, z.sh.kids = kindE false z := fun z => by
      unfold kindE SN.kids
      cases h : z.leaf <;> simp [h]
    rw [ek] at hc1 hc2
    obtain ⟨k, hk, e1⟩ := List.getElem_of_mem hc1
    obtain ⟨m, hm, e2⟩ := List.getElem_of_mem hc2
    have := (flat_one (k := k) (m := m) (hkind false c) hi hj (by simp [hk, e1]) (by simp [hm, e2])).1
    rw [this, hj] at hi
    exact (Option.some.inj hi).symm
  have hab : ∀ x ∈ t.nodes, x.leaf = false → ∀ e ∈ x.es, e.child ≠ t.root ∧ deepD t e.child = deepD t x.id + 1 := fun x hx hl e he => by
    have hk : e.child ∈ x.sh.kids := by simp only [SN.kids, NodeT.sh_leaf, hl, NodeT.sh_ch, Bool.false_eq_true, if_false]; exact List.mem_map.2 ⟨e, he, rfl⟩
    have hkk := mem_kids (mem_shs hx) hk
    have hne : e.child ≠ t.root := fun e1 => htop (by rw [← e1]; exact hkk)
    refine ⟨hne, ?_⟩
    obtain ⟨c, hc, e1⟩ := List.mem_map.1 (hkid _ hkk)
    obtain ⟨i, _, h⟩ := hN c hc
    have hd := h.deep
    rw [e1] at hd
    cases ha : aboveN t.nodes e.child with
    | none => exact absurd hkk (aboveN_none ha)
    | some p =>
      obtain ⟨hp, hpk⟩ := aboveN_some ha
      have : p = x := hpar p hp x hx _ hpk hk
      rw [← this]
      exact deepD_kid hne ha hd
  have hone : deepD t t.root = 1 := by unfold deepD; rw [deepF, if_pos rfl]
  have hch := chain_ok hnd (fun x hx h => (H.rights x hx h).1) H.len H.chain
  have hinn : ∀ x ∈ t.nodes, x.leaf = false → ∃ y ∈ t.nodes, deepD t y.id = deepD t x.id + 1 := fun x hx hl => by
    obtain ⟨i, _, h⟩ := hN x hx
    cases he : x.es with
    | nil => rw [(h.ne he).1] at hl; cases hl
    | cons e es =>
      have he1 : e ∈ x.es := by simp [he]
      obtain ⟨i, k, _, _, h1⟩ := hE x hx e he1
      obtain ⟨c, h2, _⟩ := h1.inn hl
      obtain ⟨h3, h4⟩ := findN_some h2
      exact ⟨c, h3, by rw [h4]; exact (hab x hx hl e he1).2⟩
  obtain ⟨D, hD⟩ : ∃ D, ∀ x ∈ t.nodes, x.leaf = true → deepD t x.id = D := by
    by_cases h : ∃ x ∈ t.nodes, x.leaf = true
    · obtain ⟨x, hx, hl⟩ := h
      exact ⟨_, fun y hy h2 => H.leaves y hy x hx h2 hl⟩
    · exact ⟨0, fun x hx hl => absurd ⟨x, hx, hl⟩ h⟩
  have hdown := lev_down (ns := t.nodes) (deepD t) D 12 (fun x hx => deepD_le t x.id) hD hinn
  obtain ⟨r, hr1, hr2⟩ := List.mem_map.1 H.root
  have hrd := hdown r hr1
  have hrows : ∀ a, (rowsS (shs t.nodes)).count a ≤ 1 := fun a => by rw [kind_rows]; exact hkind true a
  refine ⟨⟨fun a => D - deepD t a, rkF t.nodes (t.nodes.length + 1), ⟨by simpa using hsrt, fun x hx => ?_, fun a => ?_, fun x hx hl => ?_, fun x hx c hc => ?_, fun x hx hne => ?_⟩, by dsimp only; omega⟩, fun x hx => ?_, hbox, fun x hx he => ?_, fun x hx => ?_, fun x hx => ?_, T.cnt, hrows, fun a ha => ?_, H.len⟩
  · obtain ⟨x, hx1, rfl⟩ := of_shs hx
    obtain ⟨i, _, h⟩ := hN x hx1
    have h1 := T.ids x hx1
    have h2 := h.pos
    simp only [NodeT.sh_id]; omega
  · rw [idsS_shs]
    have h1 := List.nodup_iff_count.1 hnd a
    have h2 : (kidsS (shs t.nodes)).count a ≤ 1 := by rw [kind_kids]; exact hkind false a
    rw [List.count_singleton]
    by_cases e : t.root = a
    · have h3 : (kidsS (shs t.nodes)).count a = 0 := List.count_eq_zero.2 (by rw [← e]; exact htop)
      have h4 := List.count_pos_iff.2 (show a ∈ idsN t.nodes by rw [← e]; exact H.root)
      simp [e]; omega
    · have e' : (t.root == a) = false := by simpa using e
      rw [e']
      rcases Nat.eq_zero_or_pos ((idsN t.nodes).count a) with h3 | h3
      · have h4 : (kidsS (shs t.nodes)).count a = 0 := List.count_eq_zero.2 (fun hm => by
          have := List.count_pos_iff.2 (hkid a hm); omega)
        simp; omega
      · obtain ⟨x, hx, e2⟩ := List.mem_map.1 (List.count_pos_iff.1 h3)
        obtain ⟨i, _, h⟩ := hN x hx
        have hd := h.deep
        rw [e2] at hd
        have h4 : a ∈ kidsS (shs t.nodes) := by
          unfold deepD at hd
          rw [deepF, if_neg (fun h => e h.symm)] at hd
          cases ha : aboveN t.nodes a with
          | none => rw [ha] at hd; exact absurd rfl hd
          | some p =>
            obtain ⟨g1, g2⟩ := aboveN_some ha
            exact mem_kids (mem_shs g1) g2
        have := List.count_pos_iff.2 h4
        simp; omega
  · obtain ⟨x, hx1, rfl⟩ := of_shs hx
    have := hD x hx1 hl
    simp only [NodeT.sh_id]; omega
  · obtain ⟨x, hx1, rfl⟩ := of_shs hx
    cases hl : x.leaf with
    | true => simp [SN.kids, hl] at hc
    | false =>
      simp only [SN.kids, NodeT.sh_leaf, hl, NodeT.sh_ch, Bool.false_eq_true, if_false] at hc
      obtain ⟨e, he, rfl⟩ := List.mem_map.1 hc
      have h1 := (hab x hx1 hl e he).2
      have h2 := hkid e.child (mem_kids (mem_shs hx1) (by simp only [SN.kids, NodeT.sh_leaf, hl, NodeT.sh_ch, Bool.false_eq_true, if_false]; exact List.mem_map.2 ⟨e, he, rfl⟩))
      obtain ⟨y, hy, e2⟩ := List.mem_map.1 h2
      have h3 := hdown y hy
      rw [e2] at h3
      simp only [NodeT.sh_id]; omega
  · obtain ⟨x, hx1, rfl⟩ := of_shs hx
    simp only [NodeT.sh_right, NodeT.sh_id, idsS_shs] at hne ⊢
    obtain ⟨h1, h2⟩ := H.rights x hx1 hne
    obtain ⟨i, _, h⟩ := hN x hx1
    exact ⟨h1, by rw [h2], rank_ok hnd hch hx1 h.pos⟩
  · refine keyN_ok (fun hl e he => ?_)
    obtain ⟨i, k, _, _, h⟩ := hE x hx e he
    obtain ⟨c, h1, _, h2⟩ := h.inn hl
    exact ⟨c, h1, .inr h2⟩
  · obtain ⟨x, hx1, rfl⟩ := of_shs hx
    obtain ⟨i, _, h⟩ := hN x hx1
    exact h.ne (by simpa using he)
  · obtain ⟨x, hx1, rfl⟩ := of_shs hx
    obtain ⟨i, _, h⟩ := hN x hx1
    simpa using h.wid
  · obtain ⟨x, hx1, rfl⟩ := of_shs hx
    obtain ⟨i, _, h⟩ := hN x hx1
    exact ⟨(T.ids x hx1).2.2, h.mark⟩
  · obtain ⟨y, hy, h1⟩ := List.mem_flatMap.1 ha
    obtain ⟨x, hx, rfl⟩ := of_shs hy
    cases hl : x.leaf with
    | false => simp [SN.rows, hl] at h1
    | true =>
      simp only [SN.rows, NodeT.sh_leaf, hl, NodeT.sh_ch, if_true] at h1
      obtain ⟨e, he, rfl⟩ := List.mem_map.1 h1
      obtain ⟨i, k, _, _, h⟩ := hE x hx e he
      have h3 := h.pos
      have h4 := T.kid x hx e he
      omega
theorem Inv.rgt {t : TreeT} (H : Inv t) : Rgt t := by
 obtain ⟨h, rk, hS, htop⟩ := H.shp
 have hnd := H.nodup
 have hsrt : (idsN t.nodes).Pairwise (· < ·) := by have := hS.srt; simpa using this
 have hroot : t.root ∈ idsN t.nodes := by have := hS.root_mem (c := t.root) (by simp); simpa using this
 have hdp : ∀ (d k n : Nat) (x : NodeT), x ∈ t.nodes → h t.root - h x.id = d → d < k → deepF t.nodes t.root k n x.id = n + d := by
  intro d
  induction d with
  | zero =>
   intro k n x hx hd hk
   obtain ⟨k, rfl⟩ : ∃ j, k = j + 1 := ⟨k - 1, by omega⟩
   rw [deepF]
   have : x.id = t.root := by
    rcases hS.root_or (mem_ids (mem_shs hx)) with hr | hk
    ·simpa using hr
    ·obtain ⟨p, hp, hc⟩ := List.mem_flatMap.1 hk
     have h1 := hS.inn p hp _ hc
     have h2 := hS.top_le p hp
     rw [NodeT.sh_id] at h1
     omega
   rw [if_pos this]; omega
  | succ d ih =>
   intro k n x hx hd hk
   obtain ⟨k, rfl⟩ : ∃ j, k = j + 1 := ⟨k - 1, by omega⟩
   rw [deepF, if_neg (fun e => by rw [e] at hd; omega)]
   cases ha : aboveN t.nodes x.id with
   | none =>
    exfalso
    rcases hS.root_or (mem_ids (mem_shs hx)) with hr | hk
    ·simp at hr; rw [hr] at hd; omega
    ·exact aboveN_none ha hk
   | some p =>
    obtain ⟨hp, hpk⟩ := aboveN_some ha
    have h1 := hS.inn _ (mem_shs hp) _ hpk
    rw [NodeT.sh_id] at h1
    dsimp only
    rw [ih k (n + 1) p hp (by omega) (by omega)]
    omega
 have hdD : ∀ x ∈ t.nodes, deepD t x.id = 1 + (h t.root - h x.id) := fun x hx => hdp _ 12 1 x hx rfl (by omega)
 have hk : ∀ b, ∀ a, (t.nodes.flatMap (kindE b)).count a ≤ 1 := fun b a => by
  cases b with
  | true => rw [← kind_rows]; exact H.rows a
  | false =>
   rw [← kind_kids]
   have h1 := hS.kid a
   have h2 := hS.cnt a
   omega
 refine ⟨H.len, hroot, fun i x hi => ?_, fun x hx y hy hl hm => ?_, fun x hx hne => ?_, fun x hx n hn hne e => ?_⟩
 ·have hx := List.mem_of_getElem? hi
  have hp := hS.pos _ (mem_shs hx)
  rw [NodeT.sh_id] at hp
  refine ⟨by omega, fun h0 y hy => ?_, by simpa using H.wid _ (mem_shs hx), (H.mark _ (mem_shs hx)).2, fun he => H.ne _ (mem_shs hx) (by simpa using he), by rw [hdD x hx]; omega, fun he => ?_, fun k e hke => ?_⟩
  ·refine sorted_adj _ hsrt (i - 1) y x hy ?_
   rw [show i - 1 + 1 = i by omega]; exact hi
  ·cases ha : aboveN t.nodes x.id with
   | none => rfl
   | some p =>
    obtain ⟨hp, hpk⟩ := aboveN_some ha
    rw [he] at hpk
    exact absurd (mem_kids (mem_shs hp) hpk) (hS.root_kid (by simp))
  ·have he := List.mem_of_getElem? hke
   have hb := H.box x hx e he
   refine ⟨?_, hb, fun j y m f h3 h4 h5 h6 => (kind_iff t.nodes x.leaf).1 (hk x.leaf) i x k e j y m f hi hke h3 h4 rfl h5 h6, fun hl => ?_⟩
   ·cases hl : x.leaf with
    | true =>
     have := H.rpos e.child (mem_rows (mem_shs hx) (by simp only [SN.rows, NodeT.sh_leaf, hl, NodeT.sh_ch, if_true]; exact List.mem_map.2 ⟨e, he, rfl⟩))
     omega
    | false =>
     have hkk : e.child ∈ kidsOf t.nodes x.id := by
      unfold kidsOf; rw [findN_mem hnd hx]
      simp only [SN.kids, NodeT.sh_leaf, hl, NodeT.sh_ch, Bool.false_eq_true, if_false]; exact List.mem_map.2 ⟨e, he, rfl⟩
     obtain ⟨_, hc, _⟩ := hS.kidsOf_in hkk
     obtain ⟨c, hc1, hc2⟩ := List.mem_map.1 hc
     have := hS.pos _ (mem_shs hc1)
     rw [NodeT.sh_id, hc2] at this
     omega
   ·have hkk : e.child ∈ kidsOf t.nodes x.id := by
     unfold kidsOf; rw [findN_mem hnd hx]
     simp only [SN.kids, NodeT.sh_leaf, hl, NodeT.sh_ch, Bool.false_eq_true, if_false]; exact List.mem_map.2 ⟨e, he, rfl⟩
    obtain ⟨_, hc, hhc⟩ := hS.kidsOf_in hkk
    obtain ⟨c, hfc⟩ := findN_ids hc
    obtain ⟨hc1, hc2⟩ := findN_some hfc
    have hcne : ¬ c.es = [] := fun e0 => by
     have := (H.ne _ (mem_shs hc1) (by simp [e0])).2
     rw [NodeT.sh_id, hc2] at this
     refine hS.root_kid (c := t.root) (by simp) ?_
     rw [← this, ← kids_flat hnd]
     exact List.mem_flatMap.2 ⟨x.id, List.mem_map.2 ⟨x, hx, rfl⟩, hkk⟩
    refine ⟨c, hfc, hcne, ?_⟩
    have hkx := H.keys x hx
    unfold keyN at hkx
    rw [hl] at hkx
    have hes : x.es.map (keyE t.nodes) = x.es := congrArg NodeT.es hkx
    have he2 : keyE t.nodes e = e := by
     obtain ⟨i, hi, rfl⟩ := List.getElem_of_mem he
     have := congrArg (fun l => l[i]?) hes
     simpa [hi] using this
    have h9 : (keyE t.nodes e).key = e.key := by rw [he2]
    unfold keyE at h9
    rw [hfc] at h9
    dsimp only at h9
    rw [if_neg hcne] at h9
    exact h9
 ·rw [hdD x hx, hdD y hy]
  have h1 := hS.lf _ (mem_shs hx) hl
  have h2 := hS.lf _ (mem_shs hy) hm
  rw [NodeT.sh_id] at h1 h2
  rw [h1, h2]
 ·obtain ⟨h1, h2, h3⟩ := hS.rgt _ (mem_shs hx) hne
  simp only [NodeT.sh_right, NodeT.sh_id, idsS_shs] at h1 h2
  obtain ⟨y, hy, e⟩ := List.mem_map.1 h1
  refine ⟨h1, ?_⟩
  rw [← e, hdD y hy, hdD x hx, e, h2]
 ·have hrk : ∀ (n : Nat) (a : Int), (a = 0 ∨ a ∈ idsN t.nodes) → stepsF t.nodes n a ≠ 0 → rk (stepsF t.nodes n a) ≤ rk a := by
   intro n
   induction n with
   | zero => intro a _ _; exact Nat.le_refl _
   | succ n ih =>
    intro a ha h1
    rw [stepsF] at h1 ⊢
    by_cases e : a = 0
    ·rw [if_pos e] at h1; exact absurd rfl h1
    ·rw [if_neg e] at h1 ⊢
     rcases ha with ha | ha
     ·exact absurd ha e
     ·obtain ⟨y, hf⟩ := findN_ids ha
      obtain ⟨hy, hye⟩ := findN_some hf
      have hr : rightN t.nodes a = y.right := by unfold rightN; rw [hf]
      rw [hr] at h1 ⊢
      have hn0 : y.right ≠ 0 := fun e0 => by rw [e0, stepsF_zero] at h1; exact h1 rfl
      obtain ⟨g1, g2, g3⟩ := hS.rgt _ (mem_shs hy) hn0
      simp only [NodeT.sh_right, NodeT.sh_id, idsS_shs] at g1 g3
      have := ih y.right (.inr g1) h1
      rw [hye] at g3
      omega
  have hn0 : x.right ≠ 0 := fun e0 => by rw [e0, stepsF_zero] at hne; exact hne rfl
  obtain ⟨g1, g2, g3⟩ := hS.rgt _ (mem_shs hx) hn0
  simp only [NodeT.sh_right, NodeT.sh_id, idsS_shs] at g1 g3
  have := hrk n x.right (.inr g1) hne
  rw [e] at this
  omega
end Go.Proofs.Ytmjnpfackanhlaa.AM

namespace Go.Proofs.Ytmjnpfackanhlaa.AM
open Go
set_option linter.unusedVariables false
set_option linter.unusedSimpArgs false

theorem rows_in {ns : List NodeT} {a : Int} : a ∈ rowsS (shs ns) ↔ ∃ x ∈ ns, x.leaf = true ∧ ∃ e ∈ x.es, e.child = a := by
 rw [kind_rows, List.mem_flatMap]
 constructor
 ·rintro ⟨x, hx, h⟩
  unfold kindE at h
  split at h
  ·rename_i hl
   obtain ⟨e, he, h⟩ := List.mem_map.1 h
   exact ⟨x, hx, hl, e, he, h⟩
  ·simp at h
 ·rintro ⟨x, hx, hl, e, he, h⟩
  exact ⟨x, hx, by unfold kindE; rw [if_pos hl]; exact List.mem_map.2 ⟨e, he, h⟩⟩
theorem rows_updN {ns : List NodeT} {y : NodeT} {a : Int} (h : a ∈ rowsS (shs (updN ns y))) : a ∈ rowsS (shs ns) ∨ (y.leaf = true ∧ ∃ e ∈ y.es, e.child = a) := by
 obtain ⟨x, hx, hl, he⟩ := rows_in.1 h
 rcases mem_updN hx with rfl | ⟨hx, _⟩
 ·exact .inr ⟨hl, he⟩
 ·exact .inl (rows_in.2 ⟨x, hx, hl, he⟩)
theorem rows_keyS {ns : List NodeT} {id a : Int} (h : a ∈ rowsS (shs (keyS ns id))) : a ∈ rowsS (shs ns) := by
 unfold keyS at h
 cases hf : findN ns id with
 | none => rw [hf] at h; exact h
 | some x =>
  rw [hf] at h
  rcases rows_updN h with h | ⟨hl, h⟩
  ·exact h
  ·rw [keyN_leaf] at hl
   unfold keyN at h
   rw [if_pos hl] at h
   exact rows_in.2 ⟨x, (findN_some hf).1, hl, h⟩
theorem rows_keyL {a : Int} : ∀ (l : List Int) {ns : List NodeT}, a ∈ rowsS (shs (l.foldl keyS ns)) → a ∈ rowsS (shs ns)
 | [], ns, h => h
 | id :: l, ns, h => rows_keyS (rows_keyL l h)
theorem rows_passes {a : Int} : ∀ (n : Nat) {ns : List NodeT}, a ∈ rowsS (shs (passes n ns)) → a ∈ rowsS (shs ns)
 | 0, ns, h => h
 | n + 1, ns, h => by
  have := rows_passes n h
  unfold passN at this
  exact rows_keyL _ this
theorem rows_keyed {t : TreeT} {a : Int} (h : a ∈ rowsS (shs (keyedF t).nodes)) : a ∈ rowsS (shs t.nodes) := by
 rw [keyedF_nodes] at h
 exact rows_passes 14 h
theorem rows_split {t : TreeT} {x : NodeT} {left : List Bool} {a : Int} (hx : x ∈ t.nodes) (h : a ∈ rowsS (shs (splitF t x left).1.nodes)) : a ∈ rowsS (shs t.nodes) := by
 have hM : ∀ {b : Int}, b ∈ rowsS (shs (updN t.nodes (stayN t x left) ++ [goesN t x left])) → b ∈ rowsS (shs t.nodes) := fun {b} hb => by
  obtain ⟨y, hy, hl, e, he, h⟩ := rows_in.1 hb
  rcases List.mem_append.1 hy with hy | hy
  ·rcases rows_updN (rows_in.2 ⟨y, hy, hl, e, he, h⟩) with h | ⟨hl, e, he, h⟩
   ·exact h
   ·exact rows_in.2 ⟨x, hx, hl, e, stay_mem _ _ e he, h⟩
  ·rw [List.mem_singleton.1 hy] at hl he
   exact rows_in.2 ⟨x, hx, hl, e, rest_mem _ _ e he, h⟩
 unfold splitF at h
 cases ha : aboveN (updN t.nodes (stayN t x left) ++ [goesN t x left]) x.id with
 | none =>
  rw [ha] at h
  dsimp only at h
  obtain ⟨y, hy, hl, he⟩ := rows_in.1 h
  rcases List.mem_append.1 hy with hy | hy
  ·exact hM (rows_in.2 ⟨y, List.mem_append_left _ hy, hl, he⟩)
  ·rcases List.mem_cons.1 hy with rfl | hy
   ·exact hM (rows_in.2 ⟨_, List.mem_append_right _ (by simp), hl, he⟩)
   ·rw [List.mem_singleton.1 hy] at hl; cases hl
 | some p =>
  rw [ha] at h
  dsimp only at h
  rcases rows_updN h with h | ⟨hl, _⟩
  ·exact hM h
  ·have hk := (aboveN_some ha).2
   have hl' : p.leaf = true := hl
   simp [SN.kids, hl'] at hk
end Go.Proofs.Ytmjnpfackanhlaa.AM

namespace Go.Proofs.Ytmjnpfackanhlaa.AM
open Go
set_option linter.unusedVariables false
set_option linter.unusedSimpArgs false
variable {P : Program}

@[simp] theorem take_map_len {α : Type} {f : α → List V} {l : List α} : List.take l.length (l.map f) = l.map f := List.take_of_length_le (by simp)
theorem GhostV.nilr {vs : List V} {st : St} {K : List V → St → Prop} (sz : Nat) (h0 : 0 < sz) (hk : K (.msl st.objs.length st.nv 0 0 :: vs) ⟨st.objs ++ [some (st.nv, .mem sz [])], st.nv + 1⟩) : GhostV (.sl .nil 0 [] [] :: vs) st K :=
 GhostV.nils (vs' := .msl st.objs.length st.nv 0 0 :: vs) (st' := st.push (.mem sz [])) h0 rfl rfl (fun i => by
  cases i with
  | zero => exact .nil _
  | succ i => simpa using Nz.refl _) hk
@[simp] def cLink (e : LinkT) : List V := [.int .i64 e.key.x0, .int .i64 e.key.x1, .int .i64 e.key.y0, .int .i64 e.key.y1, .int .u32 e.child]
abbrev vEs (es : List LinkT) : V := .sl .unk 5 (es.map cLink) []
@[simp] def cNode (x : NodeT) : List V := [.int .u32 x.id, .bool x.leaf, vEs x.es, .int .u64 x.mark, .int .u32 x.right]
abbrev vNs (ns : List NodeT) : V := .sl .unk 5 (ns.map cNode) []
@[simp] def cTree (t : TreeT) : List V := [vNs t.nodes, .int .u32 t.root, .int .u64 t.count]
@[simp] def cI (n : Int) : List V := [.int .u32 n]
abbrev vIs (l : List Int) : V := .sl .unk 1 (l.map cI) []
@[simp] def cK (e : LinkT) : List V := [.int .i64 e.key.x0, .int .i64 e.key.x1, .int .i64 e.key.y0, .int .i64 e.key.y1]
@[simp] theorem p_link (l : List LinkT) : pureLL (l.map cLink) = true := pureLL_map (fun _ => rfl) l
@[simp] theorem p_cK (l : List LinkT) : pureLL (l.map cK) = true := pureLL_map (fun _ => rfl) l
@[simp] theorem p_cI (l : List Int) : pureLL (l.map cI) = true := pureLL_map (fun _ => rfl) l
@[simp] theorem p_node (l : List NodeT) : pureLL (l.map cNode) = true := pureLL_map (fun _ => by simp [pureL, V.pure, pureLL]) l
theorem p_tree (t : TreeT) : pureL (cTree t) = true := by simp [pureL, V.pure, pureLL]

structure KyR (P : Program) : Prop where
 kbox : R_key_box P
 rbox : R_gazetteerref09_Box P
 kchk : R_key_Check P
 kuni : R_key_Union P
 runi : R_gazetteerref09_Union P
 kbnd : R_key_Bound P
 rbnd : R_gazetteerref11_Bound P
 tkeys : R_tree_keys P

theorem kBox (h : KyR P) (k : KeyT) : PCalls P n_key_box [.agg (cKey k)] (fun r => r = .bool (boxK k)) := by
 refine A_key_box h.kbox ?_
 delta F_key_box sp sd gp gd fl fd gl
 simp [st0]
 by_cases h1 : k.x0 ≤ k.x1 <;> simp [h1]
 ·by_cases h2 : k.y0 ≤ k.y1 <;> simp [h2]
  ·exact GhostV.refl ⟨rfl, by simp [boxK, h1, h2]⟩
  ·exact GhostV.refl ⟨rfl, by simp [boxK, h1, h2]⟩
 ·exact GhostV.refl ⟨rfl, by simp [boxK, h1]⟩
theorem rBox (h : KyR P) (k : KeyT) : PCalls P n_gazetteerref09_Box [.agg (cKey k)] (fun r => r = .bool (boxK k)) := by
 refine A_gazetteerref09_Box h.rbox ?_
 delta F_gazetteerref09_Box sp sd gp gd fl fd gl
 simp [st0]
 by_cases h1 : k.x0 ≤ k.x1 <;> simp [h1]
 ·by_cases h2 : k.y0 ≤ k.y1 <;> simp [h2]
  ·exact GhostV.refl ⟨rfl, by simp [boxK, h1, h2]⟩
  ·exact GhostV.refl ⟨rfl, by simp [boxK, h1, h2]⟩
 ·exact GhostV.refl ⟨rfl, by simp [boxK, h1]⟩
/-! ### which marks may be -/

def zK : List V := [.int .i64 0, .int .i64 0, .int .i64 0, .int .i64 0]
def UniJ (a b : KeyT) (st : St) : Prop := ∃ nv, st = ⟨[some (0, .mem 4 [cKey a]), some (1, .mem 4 [cKey b]), some (2, .mem 4 [zK])], nv⟩
theorem rUnion (h : KyR P) (a b : KeyT) : PCalls P n_gazetteerref09_Union [.agg (cKey a), .agg (cKey b)] (fun r => r = .agg (cKey (unionK a b))) := by
 refine A_gazetteerref09_Union h.runi ?_
 delta F_gazetteerref09_Union sp sd gp gd fl fd gl
 simp [st0]
 refine inv_p (rBox h a) rfl rfl ?_
 rintro _ rfl
 cases ha : boxK a <;> simp
 ·exact GhostV.refl ⟨rfl, by simp [unionK, ha]⟩
 ·refine inv_p (rBox h b) rfl rfl ?_
  rintro _ rfl
  cases hb : boxK b <;> simp
  ·exact GhostV.refl ⟨rfl, by simp [unionK, ha, hb]⟩
  ·refine ⟨UniJ ⟨min a.x0 b.x0, a.x1, a.y0, a.y1⟩ b, ?_, ?_⟩
   ·by_cases hx : b.x0 < a.x0 <;> simp [hx]
    ·exact GhostV.refl ⟨3, by rw [Int.min_eq_right (by omega)]; rfl⟩
    ·exact GhostV.refl ⟨3, by rw [Int.min_eq_left (by omega)]; rfl⟩
   rintro st ⟨nv, rfl⟩
   refine ⟨UniJ ⟨min a.x0 b.x0, max a.x1 b.x1, a.y0, a.y1⟩ b, ?_, ?_⟩
   ·simp
    by_cases hx : a.x1 < b.x1 <;> simp [hx]
    ·exact GhostV.refl ⟨nv, by rw [Int.max_eq_right (by omega)]; rfl⟩
    ·exact GhostV.refl ⟨nv, by rw [Int.max_eq_left (by omega)]; rfl⟩
   rintro st ⟨nv2, rfl⟩
   have e : unionK a b = ⟨min a.x0 b.x0, max a.x1 b.x1, min a.y0 b.y0, max a.y1 b.y1⟩ := by simp [unionK, ha, hb]
   rw [e]
   simp
   by_cases h1 : b.y0 < a.y0 <;> by_cases h2 : a.y1 < b.y1 <;> simp [h1, h2, zK]
   ·exact GhostV.refl ⟨rfl, by simp; omega⟩
   ·exact GhostV.refl ⟨rfl, by simp; omega⟩
   ·exact GhostV.refl ⟨rfl, by simp; omega⟩
   ·exact GhostV.refl ⟨rfl, by simp; omega⟩
theorem kUnion (h : KyR P) (a b : KeyT) : PCalls P n_key_Union [.agg (cKey a), .agg (cKey b)] (fun r => r = .agg (cKey (unionK a b))) := by
 refine A_key_Union h.kuni ?_
 delta F_key_Union sp sd gp gd fl fd gl
 simp [st0]
 refine inv_p (kBox h a) rfl rfl ?_
 rintro _ rfl
 cases ha : boxK a <;> simp
 ·exact GhostV.refl ⟨rfl, by simp [unionK, ha]⟩
 ·refine inv_p (kBox h b) rfl rfl ?_
  rintro _ rfl
  cases hb : boxK b <;> simp
  ·exact GhostV.refl ⟨rfl, by simp [unionK, ha, hb]⟩
  ·refine GhostV.refl ⟨rfl, ?_⟩
   simp [unionK, ha, hb]
   refine ⟨?_, ?_, ?_, ?_⟩ <;> split <;> omega
theorem boundK_snoc {l : List LinkT} (e : LinkT) (hl : l ≠ []) : boundK (l ++ [e]) = unionK (boundK l) e.key := by
 cases l with
 | nil => exact absurd rfl hl
 | cons x l => simp [boundK, List.foldl_append]
def BndI (l : List LinkT) (k : Nat) (v : V) (st : St) : Prop := ∃ i nv, k = l.length - i ∧ i ≤ l.length ∧ 0 < i ∧ v = .int .i64 ((i : Nat) : Int) ∧ st = ⟨[some (0, .mem 4 [zK]), some (1, .mem 4 [cKey (boundK (l.take i))])], nv⟩
theorem rBound (h : KyR P) (l : List LinkT) (hl : 0 < l.length) (hb : l.length < 2 ^ 40) : PCalls P n_gazetteerref11_Bound [vEs l] (fun r => r = .agg (cKey (boundK l))) := by
  refine A_gazetteerref11_Bound h.rbnd ?_
  delta F_gazetteerref11_Bound sp sd gp gd fl fd gl
  simp [st0, hl]
  refine ⟨BndI l, ⟨l.length - 1, GhostV.refl ⟨1, 2, by simp, by omega, by omega, by simp, ?_⟩⟩, ?_⟩
  · obtain ⟨e, l, rfl⟩ := List.exists_cons_of_ne_nil (List.length_pos_iff.1 hl)
    simp [boundK, zK]
  rintro k1 v st ⟨i, nv, rfl, hi, h0, rfl, rfl⟩
  by_cases hlt : i < l.length
  · simp [hlt]
    refine inv_p (rUnion h (boundK (l.take i)) l[i].key) rfl rfl ?_
    rintro _ rfl
    simp
    exact ⟨l.length - (i + 1), by omega, GhostV.refl ⟨i + 1, nv, rfl, by omega, by omega, by rw [wadd1 (by omega)], by
      rw [take_snoc hlt, boundK_snoc _ (by
        intro e
        have := congrArg List.length e
        rw [List.length_take, List.length_nil] at this
        omega)]
      rfl⟩⟩
  · simp [hlt, zK]
    have e : l.take i = l := List.take_of_length_le (by omega)
    rw [e]
    exact GhostV.refl ⟨rfl, rfl⟩
def boxesL (l : List LinkT) : Bool := l.all (fun e => boxK e.key)
theorem foldB_take : ∀ (l : List LinkT) (k : KeyT) (i : Nat), (∀ e ∈ l.take i, boxK e.key = true) → foldB k l = foldB ((l.take i).foldl (fun k e => unionK k e.key) k) (l.drop i)
 | [], k, i, _ => by simp
 | e :: l, k, 0, _ => by simp
 | e :: l, k, i + 1, h => by
  rw [foldB, if_pos (h e (by simp)), foldB_take l _ i (fun x hx => h x (by simp [hx]))]
  simp
def KbI (l : List LinkT) (k0 : KeyT) (k : Nat) (v : V) (st : St) : Prop := ∃ i nv M, k = l.length - i ∧ i ≤ l.length ∧ v = .int .i64 ((i : Nat) : Int) ∧ (∀ e ∈ l.take i, boxK e.key = true) ∧ st = ⟨[some (0, .mem 4 [zK]), some (1, .mem 4 [cKey ((l.take i).foldl (fun k e => unionK k e.key) k0)])] ++ M, nv⟩
theorem kBound (h : KyR P) (l : List LinkT) (hb : l.length < 2 ^ 40) : PCalls P n_key_Bound [.sl .unk 4 (l.map cK) []] (fun r => r = .tup [.agg (cKey (boundP l)), .int .i64 (if l ≠ [] ∧ boxesL l = true then 0 else 2)]) := by
  refine A_key_Bound h.kbnd ?_
  delta F_key_Bound sp sd gp gd fl fd gl
  simp [st0]
  by_cases h0 : l = []
  · subst h0
    simp
    exact GhostV.refl ⟨rfl, by simp [boundP]⟩
  have hl : 0 < l.length := List.length_pos_iff.2 h0
  obtain ⟨e0, l0, he0⟩ := List.exists_cons_of_ne_nil h0
  have hz : l[0]'hl = e0 := by simp [he0]
  simp [h0, hl, hz]
  refine ⟨KbI l e0.key, ⟨l.length, GhostV.refl ⟨0, 2, [], by simp, by omega, by simp, by simp, by simp [zK]⟩⟩, ?_⟩
  rintro k1 v st ⟨i, nv, M, rfl, hi, rfl, hbx, rfl⟩
  have hbp : boundP l = foldB ((l.take i).foldl (fun k e => unionK k e.key) e0.key) (l.drop i) := by
    rw [← foldB_take l e0.key i hbx, he0]; rfl
  by_cases hlt : i < l.length
  · have hd : l.drop i = l[i] :: l.drop (i + 1) := List.drop_eq_getElem_cons hlt
    simp [hlt]
    refine inv_p (kBox h l[i].key) rfl rfl ?_
    rintro _ rfl
    cases hbi : boxK l[i].key
    · simp [zK]
      refine GhostV.refl ⟨rfl, ?_⟩
      have e1 : boundP l = ⟨0, 0, 0, 0⟩ := by rw [hbp, hd, foldB, hbi]; rfl
      have e2 : boxesL l = false := by
        cases hx : boxesL l with
        | false => rfl
        | true =>
          unfold boxesL at hx
          rw [List.all_eq_true] at hx
          rw [hx l[i] (List.getElem_mem hlt)] at hbi; cases hbi
      simp [e1, e2]
    · simp
      refine inv_p (kUnion h _ l[i].key) rfl rfl ?_
      rintro _ rfl
      simp
      exact ⟨l.length - (i + 1), by omega, GhostV.refl ⟨i + 1, nv + 1, _, rfl, by omega, by rw [wadd1 (by omega)], fun e he => by
        rw [take_snoc hlt, List.mem_append] at he
        rcases he with he | he
        · exact hbx e he
        · rw [List.mem_singleton.1 he]; exact hbi, by
        rw [take_snoc hlt, List.foldl_append]
        rfl⟩⟩
  · have hd : l.drop i = [] := List.drop_eq_nil_of_le (by omega)
    have e1 : l.take i = l := List.take_of_length_le (by omega)
    rw [e1] at hbx
    have e2 : boxesL l = true := by unfold boxesL; rw [List.all_eq_true]; exact hbx
    rw [hd, foldB, e1] at hbp
    simp [hlt, zK]
    refine GhostV.refl ⟨rfl, ?_⟩
    simp [h0, e1, e2, hbp]
def TkI (l : List LinkT) (k : Nat) (v3 v8 : V) (st : St) : Prop := ∃ i va nv M out, k = l.length - i ∧ i ≤ l.length ∧ v8 = .int .i64 ((i : Nat) : Int) ∧ v3 = .msl 0 va 0 (out : List LinkT).length ∧ out = l.take i ∧ st = ⟨[some (va, .mem 4 (out.map cK))] ++ M, nv⟩
theorem tKeys (h : KyR P) (l : List LinkT) (hb : l.length < 2 ^ 40) : PCalls P n_tree_keys [vEs l] (fun r => r = .sl .unk 4 (l.map cK) []) := by
  refine A_tree_keys h.tkeys ?_
  delta F_tree_keys sp sd gp gd fl fd gl
  simp [st0]
  refine ⟨TkI l, ⟨l.length, GhostV.nilr 4 (by decide) ⟨0, 0, 1, [], [], by simp, by omega, by simp, rfl, by simp, by simp⟩⟩, ?_⟩
  rintro k1 v3 v8 st ⟨i, va, nv, M, out, rfl, hi, rfl, rfl, hout, rfl⟩
  have hol : out.length = i := by rw [hout, List.length_take]; omega
  by_cases hlt : i < l.length
  · simp [hlt]
    refine ⟨by omega, l.length - (i + 1), by omega, GhostV.refl ⟨i + 1, nv + 1 + 1, nv + 1 + 1 + 1, _, out ++ [l[i]], rfl, by omega, by rw [wadd1 (by omega)], by simp, by rw [take_snoc hlt, hout], by simp; rfl⟩⟩
  · have e1 : l.take i = l := List.take_of_length_le (by omega)
    rw [e1] at hout
    simp [hlt]
    refine GhostV.row1 (sz := 4) (es := out.map cK) (by simp [St.get]) (by simp) ?_
    rw [hout]
    exact ⟨by simp, by simp⟩
end Go.Proofs.Ytmjnpfackanhlaa.AM

namespace Go.Proofs.Ytmjnpfackanhlaa.AM
open Go
set_option linter.unusedVariables false
set_option linter.unusedSimpArgs false
variable {P : Program}

structure RdR (P : Program) : Prop extends KyR P where
 at' : R_gazetteerref11_At P
 above : R_gazetteerref11_Above P
 row : R_gazetteerref11_Row P
 great : R_gazetteerref11_Greatest P
 wth : R_gazetteerref11_With P
 drp : R_gazetteerref11_drop P

def idxI (o : Option Nat) : Int := match o with
 | some i => i
 | none => -1
def ScI {α : Type} (p : α → Bool) (l : List α) (k : Nat) (v : V) (st : St) (L : List (Option (Nat × Obj))) : Prop := ∃ i nv, k = l.length - i ∧ i ≤ l.length ∧ v = .int .i64 ((i : Nat) : Int) ∧ st = ⟨L, nv⟩ ∧ ∀ x ∈ l.take i, p x = false
theorem sc_next {α : Type} {p : α → Bool} {l : List α} {i : Nat} (hlt : i < l.length) (hn : ∀ x ∈ l.take i, p x = false) (hp : p l[i] = false) : ∀ x ∈ l.take (i + 1), p x = false := fun x hx => by
 rw [take_snoc hlt, List.mem_append] at hx
 rcases hx with hx | hx
 ·exact hn x hx
 ·rw [List.mem_singleton.1 hx]; exact hp
theorem sc_found {α : Type} {p : α → Bool} {l : List α} {i : Nat} (hlt : i < l.length) (hn : ∀ x ∈ l.take i, p x = false) (hp : p l[i] = true) : l.findIdx? p = some i := by
 rw [List.findIdx?_eq_some_iff_getElem]
 exact ⟨hlt, hp, fun j hj => by
  have := hn l[j] (List.mem_take_iff_getElem.2 ⟨j, by omega, rfl⟩)
  simp [this]⟩
theorem sc_none {α : Type} {p : α → Bool} {l : List α} {i : Nat} (hlt : ¬ i < l.length) (hn : ∀ x ∈ l.take i, p x = false) : l.findIdx? p = none := by
 rw [List.findIdx?_eq_none_iff]
 rwa [List.take_of_length_le (by omega)] at hn

def isId (id : Int) (x : NodeT) : Bool := decide (x.id = id)
def AtI (ns : List NodeT) (id : Int) (L : List (Option (Nat × Obj))) (k : Nat) (v : V) (st : St) : Prop := ScI (isId id) ns k v st L
theorem rAt (h : RdR P) (t : TreeT) (id : Int) (hb : t.nodes.length < 2 ^ 40) : PCalls P n_gazetteerref11_At [.agg (cTree t), .int .u32 id] (fun r => r = .int .i64 (idxI (t.nodes.findIdx? (isId id)))) := by
 refine A_gazetteerref11_At h.at' ?_
 delta F_gazetteerref11_At sp sd gp gd fl fd gl
 simp [st0]
 refine ⟨AtI t.nodes id _, ⟨t.nodes.length, GhostV.refl ⟨0, 1, by simp, by simp, by simp, rfl, by simp⟩⟩, ?_⟩
 rintro k1 v st ⟨i, nv, rfl, hi, rfl, rfl, hn⟩
 by_cases hlt : i < t.nodes.length
 ·simp [hlt]
  by_cases he : t.nodes[i].id = id
  ·simp [he]
   exact GhostV.refl ⟨rfl, by rw [sc_found hlt hn (by simp [isId, he])]; rfl⟩
  ·simp [he]
   exact ⟨t.nodes.length - (i + 1), by omega, GhostV.refl ⟨i + 1, nv, rfl, by omega, by rw [wadd1 (by omega)], rfl, sc_next hlt hn (by simp [isId, he])⟩⟩
 ·simp [hlt]
  exact GhostV.refl ⟨rfl, by rw [sc_none hlt hn]; rfl⟩
def isUp (id : Int) (x : NodeT) : Bool := decide (id ∈ x.sh.kids)
def AbI (ns : List NodeT) (id : Int) (L : List (Option (Nat × Obj))) (k : Nat) (v : V) (st : St) : Prop := ScI (isUp id) ns k v st L
def hasC (id : Int) (e : LinkT) : Bool := decide (e.child = id)
def AcI (es : List LinkT) (id : Int) (L : List (Option (Nat × Obj))) (k : Nat) (v : V) (st : St) : Prop := ScI (hasC id) es k v st L
theorem isUp_leaf {id : Int} {x : NodeT} (h : x.leaf = true) : isUp id x = false := by simp [isUp, SN.kids, h]
theorem isUp_in {id : Int} {x : NodeT} (h : x.leaf = false) : isUp id x = x.es.any (hasC id) := by
 rw [Bool.eq_iff_iff]
 simp only [isUp, SN.kids, NodeT.sh_leaf, h, Bool.false_eq_true, if_false, NodeT.sh_ch, decide_eq_true_eq, List.mem_map, List.any_eq_true, hasC]
theorem rAbove (h : RdR P) (t : TreeT) (id : Int) (hb : t.nodes.length < 2 ^ 40) (hw : ∀ x ∈ t.nodes, x.es.length < 2 ^ 40) : PCalls P n_gazetteerref11_Above [.agg (cTree t), .int .u32 id] (fun r => r = .int .i64 (idxI (t.nodes.findIdx? (isUp id)))) := by
 refine A_gazetteerref11_Above h.above ?_
 delta F_gazetteerref11_Above sp sd gp gd fl fd gl
 simp [st0]
 refine ⟨AbI t.nodes id _, ⟨t.nodes.length, GhostV.refl ⟨0, 1, by simp, by simp, by simp, rfl, by simp⟩⟩, ?_⟩
 rintro k1 v st ⟨i, nv, rfl, hi, rfl, rfl, hn⟩
 by_cases hlt : i < t.nodes.length
 ·have hwi := hw _ (List.getElem_mem hlt)
  simp [hlt]
  refine ⟨AcI t.nodes[i].es id _, ⟨t.nodes[i].es.length, GhostV.refl ⟨0, nv, by simp, by simp, by simp, rfl, by simp⟩⟩, ?_⟩
  rintro k2 v7 st ⟨j, nv2, rfl, hj, rfl, rfl, hn2⟩
  simp [hlt]
  by_cases hlt2 : j < t.nodes[i].es.length
  ·simp [hlt2]
   cases hl : t.nodes[i].leaf
   ·simp [hlt, hlt2, hl]
    by_cases he : t.nodes[i].es[j].child = id
    ·simp [hlt, hlt2, he]
     refine GhostV.refl ⟨rfl, ?_⟩
     rw [sc_found hlt hn]
     ·rfl
     ·rw [isUp_in hl, List.any_eq_true]
      exact ⟨_, List.getElem_mem hlt2, by simp [hasC, he]⟩
    ·simp [hlt, hlt2, he]
     exact ⟨t.nodes[i].es.length - (j + 1), by omega, GhostV.refl ⟨j + 1, nv2, rfl, by omega, by rw [wadd1 (by omega)], rfl, sc_next hlt2 hn2 (by simp [hasC, he])⟩⟩
   ·simp [hlt, hlt2, hl]
    exact ⟨t.nodes.length - (i + 1), by omega, GhostV.refl ⟨i + 1, nv2, rfl, by omega, by rw [wadd1 (by omega)], rfl, sc_next hlt hn (isUp_leaf hl)⟩⟩
  ·simp [hlt2]
   refine ⟨t.nodes.length - (i + 1), by omega, GhostV.refl ⟨i + 1, nv2, rfl, by omega, by rw [wadd1 (by omega)], rfl, sc_next hlt hn ?_⟩⟩
   cases hl : t.nodes[i].leaf
   ·rw [isUp_in hl, List.any_eq_false]
    rw [List.take_of_length_le (by omega)] at hn2
    exact fun x hx => by simp [hn2 x hx]
   ·exact isUp_leaf hl
 ·simp [hlt]
  exact GhostV.refl ⟨rfl, by rw [sc_none hlt hn]; rfl⟩
def isRow (row : Int) (x : NodeT) : Bool := decide (row ∈ x.sh.rows)
def RoI (ns : List NodeT) (id : Int) (L : List (Option (Nat × Obj))) (k : Nat) (v : V) (st : St) : Prop := ScI (isRow id) ns k v st L
theorem isRow_in {id : Int} {x : NodeT} (h : x.leaf = false) : isRow id x = false := by simp [isRow, SN.rows, h]
theorem isRow_leaf {id : Int} {x : NodeT} (h : x.leaf = true) : isRow id x = x.es.any (hasC id) := by
 rw [Bool.eq_iff_iff]
 simp only [isRow, SN.rows, NodeT.sh_leaf, h, if_true, NodeT.sh_ch, decide_eq_true_eq, List.mem_map, List.any_eq_true, hasC]
def rowP (ns : List NodeT) (row : Int) : V := match ns.findIdx? (isRow row) with
 | none => .tup [.int .i64 (-1), .int .i64 (-1)]
 | some i => .tup [.int .i64 i, .int .i64 (match ns[i]? with
  | some x => idxI (x.es.findIdx? (hasC row))
  | none => -1)]
theorem rRow (h : RdR P) (t : TreeT) (row : Int) (hb : t.nodes.length < 2 ^ 40) (hw : ∀ x ∈ t.nodes, x.es.length < 2 ^ 40) : PCalls P n_gazetteerref11_Row [.agg (cTree t), .int .u32 row] (fun r => r = rowP t.nodes row) := by
 refine A_gazetteerref11_Row h.row ?_
 delta F_gazetteerref11_Row sp sd gp gd fl fd gl
 simp [st0]
 refine ⟨RoI t.nodes row _, ⟨t.nodes.length, GhostV.refl ⟨0, 1, by simp, by simp, by simp, rfl, by simp⟩⟩, ?_⟩
 rintro k1 v st ⟨i, nv, rfl, hi, rfl, rfl, hn⟩
 by_cases hlt : i < t.nodes.length
 ·have hwi := hw _ (List.getElem_mem hlt)
  simp [hlt]
  refine ⟨AcI t.nodes[i].es row _, ⟨t.nodes[i].es.length, GhostV.refl ⟨0, nv, by simp, by simp, by simp, rfl, by simp⟩⟩, ?_⟩
  rintro k2 v7 st ⟨j, nv2, rfl, hj, rfl, rfl, hn2⟩
  simp [hlt]
  by_cases hlt2 : j < t.nodes[i].es.length
  ·simp [hlt2]
   cases hl : t.nodes[i].leaf
   ·simp [hlt, hlt2, hl]
    exact ⟨t.nodes.length - (i + 1), by omega, GhostV.refl ⟨i + 1, nv2, rfl, by omega, by rw [wadd1 (by omega)], rfl, sc_next hlt hn (isRow_in hl)⟩⟩
   ·simp [hlt, hlt2, hl]
    by_cases he : t.nodes[i].es[j].child = row
    ·simp [hlt, hlt2, he]
     refine GhostV.refl ⟨rfl, ?_⟩
     have e1 : t.nodes.findIdx? (isRow row) = some i := sc_found hlt hn (by
      rw [isRow_leaf hl, List.any_eq_true]
      exact ⟨_, List.getElem_mem hlt2, by simp [hasC, he]⟩)
     have e2 := sc_found (p := hasC row) hlt2 hn2 (by simp [hasC, he])
     simp [rowP, e1, hlt, e2, idxI]
    ·simp [hlt, hlt2, he]
     exact ⟨t.nodes[i].es.length - (j + 1), by omega, GhostV.refl ⟨j + 1, nv2, rfl, by omega, by rw [wadd1 (by omega)], rfl, sc_next hlt2 hn2 (by simp [hasC, he])⟩⟩
  ·simp [hlt2]
   refine ⟨t.nodes.length - (i + 1), by omega, GhostV.refl ⟨i + 1, nv2, rfl, by omega, by rw [wadd1 (by omega)], rfl, sc_next hlt hn ?_⟩⟩
   cases hl : t.nodes[i].leaf
   ·exact isRow_in hl
   ·rw [isRow_leaf hl, List.any_eq_false]
    rw [List.take_of_length_le (by omega)] at hn2
    exact fun x hx => by simp [hn2 x hx]
 ·simp [hlt]
  exact GhostV.refl ⟨rfl, by simp [rowP, sc_none hlt hn]⟩
theorem rGreat (h : RdR P) (t : TreeT) (h0 : 0 < t.nodes.length) (hb : t.nodes.length < 2 ^ 40) : PCalls P n_gazetteerref11_Greatest [.agg (cTree t)] (fun r => r = .int .u32 (greatN t.nodes)) := by
 refine A_gazetteerref11_Greatest h.great ?_
 delta F_gazetteerref11_Greatest sp sd gp gd fl fd gl
 simp [st0]
 rw [wsub1 (by omega) h0]
 have hlt : t.nodes.length - 1 < t.nodes.length := by omega
 simp [hlt]
 refine GhostV.refl ⟨rfl, ?_⟩
 unfold greatN
 rw [List.getLast?_eq_getElem?, List.getElem?_eq_getElem hlt]
 rfl
def withF : List Int → Int → List Int
 | [], n => [n]
 | x :: l, n => if n < x then n :: x :: l else x :: withF l n
def WiI (l : List Int) (n : Int) (k : Nat) (v5 v6 v7 : V) (st : St) : Prop := ∃ i va nv M out done, k = l.length - i ∧ i ≤ l.length ∧ v7 = .int .i64 ((i : Nat) : Int) ∧ v6 = .bool done ∧ v5 = .msl 0 va 0 (out : List Int).length ∧ st = ⟨[some (va, .mem 1 (out.map cI))] ++ M, nv⟩ ∧ out.length ≤ 2 * i ∧ out ++ (if done = true then l.drop i else withF (l.drop i) n) = withF l n
theorem rWith (h : RdR P) (l : List Int) (n : Int) (hb : l.length < 2 ^ 40) : PCalls P n_gazetteerref11_With [vIs l, .int .u32 n] (fun r => r = vIs (withF l n)) := by
  refine A_gazetteerref11_With h.wth ?_
  delta F_gazetteerref11_With sp sd gp gd fl fd gl
  refine ⟨WiI l n, ⟨l.length, GhostV.nilr 1 (by decide) ⟨0, 0, 1, [], [], false, by simp, by omega, by simp, rfl, by simp [st0], by simp [st0], by simp, by simp⟩⟩, ?_⟩
  rintro k1 v5 v6 v7 st ⟨i, va, nv, M, out, done, rfl, hi, rfl, rfl, rfl, rfl, ho, hfin⟩
  by_cases hlt : i < l.length
  · have hd : l.drop i = l[i] :: l.drop (i + 1) := List.drop_eq_getElem_cons hlt
    rw [hd] at hfin
    simp [hlt]
    by_cases hg : n < l[i]
    · cases done
      · simp [hg, withF] at hfin
        simp [hg, hlt]
        refine ⟨by omega, by omega, l.length - (i + 1), by omega, GhostV.refl ⟨i + 1, nv + 1 + 1 + 1, nv + 1 + 1 + 1 + 1, _, out ++ [n, l[i]], true, rfl, by omega, by rw [wadd1 (by omega)], rfl, by simp, by simp; rfl, by simp; omega, by simpa using hfin⟩⟩
      · simp at hfin
        simp [hg, hlt]
        refine ⟨by omega, l.length - (i + 1), by omega, GhostV.refl ⟨i + 1, nv + 1, nv + 1 + 1, _, out ++ [l[i]], true, rfl, by omega, by rw [wadd1 (by omega)], rfl, by simp, by simp; rfl, by simp; omega, by simpa using hfin⟩⟩
    · cases done
      · simp [hg, withF] at hfin
        simp [hg, hlt]
        refine ⟨by omega, l.length - (i + 1), by omega, GhostV.refl ⟨i + 1, nv + 1, nv + 1 + 1, _, out ++ [l[i]], false, rfl, by omega, by rw [wadd1 (by omega)], rfl, by simp, by simp; rfl, by simp; omega, by simpa using hfin⟩⟩
      · simp at hfin
        simp [hg, hlt]
        refine ⟨by omega, l.length - (i + 1), by omega, GhostV.refl ⟨i + 1, nv + 1, nv + 1 + 1, _, out ++ [l[i]], true, rfl, by omega, by rw [wadd1 (by omega)], rfl, by simp, by simp; rfl, by simp; omega, by simpa using hfin⟩⟩
  · rw [List.drop_eq_nil_of_le (by omega)] at hfin
    simp [hlt]
    cases done
    · simp [withF] at hfin
      simp
      refine ⟨by omega, GhostV.row1 (sz := 1) (es := (withF l n).map cI) (by rw [← hfin]; simp [St.get]) (by rw [← hfin]; simp) ?_⟩
      have : out.length + 1 = (withF l n).length := by rw [← hfin]; simp
      rw [this]
      exact ⟨by simp, by simp⟩
    · simp at hfin
      simp
      refine GhostV.row1 (sz := 1) (es := (withF l n).map cI) (by rw [← hfin]; simp [St.get]) (by rw [← hfin]; simp) ?_
      rw [← hfin]
      exact ⟨by simp, by simp⟩
theorem dropE_snoc (l : List LinkT) (e : LinkT) (c : Int) : dropE (l ++ [e]) c = if e.child = c then dropE l c else dropE l c ++ [e] := by
 unfold dropE
 rw [List.filter_append]
 by_cases h : e.child = c <;> simp [h]
def DrI (l : List LinkT) (c : Int) (k : Nat) (v5 v6 : V) (st : St) : Prop := ∃ i va nv M out, k = l.length - i ∧ i ≤ l.length ∧ v6 = .int .i64 ((i : Nat) : Int) ∧ v5 = .msl 0 va 0 (out : List LinkT).length ∧ out = dropE (l.take i) c ∧ st = ⟨[some (va, .mem 5 (out.map cLink))] ++ M, nv⟩
theorem rDrop (h : RdR P) (l : List LinkT) (c : Int) (hb : l.length < 2 ^ 40) : PCalls P n_gazetteerref11_drop [vEs l, .int .u32 c] (fun r => r = vEs (dropE l c)) := by
  refine A_gazetteerref11_drop h.drp ?_
  delta F_gazetteerref11_drop sp sd gp gd fl fd gl
  refine ⟨DrI l c, ⟨l.length, GhostV.nilr 5 (by decide) ⟨0, 0, 1, [], [], by simp, by omega, by simp, by simp [st0], by simp [dropE], by simp [st0]⟩⟩, ?_⟩
  rintro k1 v5 v6 st ⟨i, va, nv, M, out, rfl, hi, rfl, rfl, hout, rfl⟩
  have hol : out.length ≤ i := by
    have h1 := dropE_len (l.take i) c
    rw [← hout, List.length_take] at h1; omega
  by_cases hlt : i < l.length
  · simp [hlt]
    by_cases he : l[i].child = c
    · simp [he]
      refine ⟨l.length - (i + 1), by omega, GhostV.refl ⟨i + 1, va, nv, M, out, rfl, by omega, by rw [wadd1 (by omega)], rfl, by rw [take_snoc hlt, hout, dropE_snoc, if_pos he], rfl⟩⟩
    · simp [he, hlt]
      refine ⟨by omega, l.length - (i + 1), by omega, GhostV.refl ⟨i + 1, nv + 1, nv + 1 + 1, _, out ++ [l[i]], rfl, by omega, by rw [wadd1 (by omega)], by simp, by rw [take_snoc hlt, hout, dropE_snoc, if_neg he], by simp; rfl⟩⟩
  · have e1 : l.take i = l := List.take_of_length_le (by omega)
    rw [e1] at hout
    simp [hlt]
    refine GhostV.row1 (sz := 5) (es := out.map cLink) (by simp [St.get]) (by simp) ?_
    rw [hout]
    exact ⟨by simp, by simp⟩
end Go.Proofs.Ytmjnpfackanhlaa.AM

namespace Go.Proofs.Ytmjnpfackanhlaa.AM
open Go
set_option linter.unusedVariables false
set_option linter.unusedSimpArgs false
variable {P : Program}

def Ext (L A : List (Option (Nat × Obj))) : Prop := L.length ≤ A.length ∧ ∀ id, id < L.length → A[id]? = L[id]?
theorem Ext.refl (L : List (Option (Nat × Obj))) : Ext L L := ⟨Nat.le_refl _, fun _ _ => rfl⟩
theorem Ext.trans {L A B : List (Option (Nat × Obj))} (h : Ext L A) (k : Ext A B) : Ext L B := ⟨Nat.le_trans h.1 k.1, fun id hid => (k.2 id (Nat.lt_of_lt_of_le hid h.1)).trans (h.2 id hid)⟩
theorem Ext.app (L M : List (Option (Nat × Obj))) : Ext L (L ++ M) := ⟨by simp, fun id hid => List.getElem?_append_left hid⟩
theorem Ext.set {L A : List (Option (Nat × Obj))} (h : Ext L A) {i : Nat} (hi : L.length ≤ i) (x : Option (Nat × Obj)) : Ext L (A.set i x) := ⟨by simpa using h.1, fun id hid => by rw [List.getElem?_set_ne (by omega)]; exact h.2 id hid⟩
theorem Ext.take {L A : List (Option (Nat × Obj))} (h : Ext L A) : A.take L.length = L := by
 apply List.ext_getElem?
 intro i
 rw [List.getElem?_take]
 split
 ·rename_i hi; exact h.2 i hi
 ·rename_i hi; rw [List.getElem?_eq_none (by omega)]
@[simp] def dNode (w ver : Nat) (x : NodeT) : List V := [.int .u32 x.id, .bool x.leaf, .msl w ver 0 x.es.length, .int .u64 x.mark, .int .u32 x.right]
def NodeAt (A : List (Option (Nat × Obj))) (row : List V) (x : NodeT) (w : Nat) : Prop := ∃ ver, row = dNode w ver x ∧ A[w]? = some (some (ver, .mem 5 (x.es.map cLink)))
structure DT (A : List (Option (Nat × Obj))) (rows : List (List V)) (ws : List Nat) (ns : List NodeT) : Prop where
 rl : rows.length = ns.length
 wl : ws.length = ns.length
 at' : ∀ i (h : i < ns.length), ∃ row w, rows[i]? = some row ∧ ws[i]? = some w ∧ NodeAt A row ns[i] w
 nd : ws.Nodup
theorem DT.nil {A : List (Option (Nat × Obj))} : DT A [] [] [] := ⟨rfl, rfl, fun i h => by simp at h, by simp⟩
theorem DT.up {A B : List (Option (Nat × Obj))} {rows : List (List V)} {ws : List Nat} {ns : List NodeT} (h : DT A rows ws ns) (hu : ∀ w ∈ ws, B[w]? = A[w]?) : DT B rows ws ns :=
 ⟨h.rl, h.wl, fun i hi => by
  obtain ⟨row, w, h1, h2, ver, h3, h4⟩ := h.at' i hi
  exact ⟨row, w, h1, h2, ver, h3, (hu w (List.mem_of_getElem? h2)).trans h4⟩, h.nd⟩
theorem DT.lt {A : List (Option (Nat × Obj))} {rows : List (List V)} {ws : List Nat} {ns : List NodeT} (h : DT A rows ws ns) : ∀ w ∈ ws, w < A.length := fun w hw => by
 obtain ⟨i, hi, e⟩ := List.getElem_of_mem hw
 obtain ⟨row, w', h1, h2, ver, h3, h4⟩ := h.at' i (by rw [← h.wl]; exact hi)
 rw [List.getElem?_eq_getElem hi, e] at h2
 cases h2
 exact (List.getElem?_eq_some_iff.1 h4).1
theorem DT.snoc {A : List (Option (Nat × Obj))} {rows : List (List V)} {ws : List Nat} {ns : List NodeT} (h : DT A rows ws ns) {row : List V} {w : Nat} {x : NodeT} (hr : NodeAt A row x w) (hw : ¬ w ∈ ws) : DT A (rows ++ [row]) (ws ++ [w]) (ns ++ [x]) := by
  refine ⟨by simp [h.rl], by simp [h.wl], fun i hi => ?_, ?_⟩
  · by_cases hlt : i < ns.length
    · obtain ⟨r, w', h1, h2, h3⟩ := h.at' i hlt
      refine ⟨r, w', by rw [List.getElem?_append_left (by rw [h.rl]; exact hlt)]; exact h1, by rw [List.getElem?_append_left (by rw [h.wl]; exact hlt)]; exact h2, ?_⟩
      rw [List.getElem_append_left hlt]; exact h3
    · have e : i = ns.length := by simp at hi; omega
      subst e
      refine ⟨row, w, ?_, ?_, ?_⟩
      · rw [← h.rl]; simp
      · rw [← h.wl]; simp
      · simpa using hr
  · rw [List.nodup_append]
    exact ⟨h.nd, by simp, fun a ha b hb e => hw (by rw [List.mem_singleton.1 hb] at e; rw [← e]; exact ha)⟩
theorem DT.bor {A : List (Option (Nat × Obj))} {rows : List (List V)} {ws : List Nat} {ns : List NodeT} (h : DT A rows ws ns) {id va nv n : Nat} (h0 : A[id]? = some (some (va, .mem 5 rows))) (hn : n = ns.length) : Bor ⟨A, nv⟩ (.msl id va 0 n) (vNs ns) := by
 subst hn
 refine .msl id va 0 ns.length 5 rows (ns.map cNode) (by simp [St.get, h0]) (by rw [h.rl]; omega) (by simp) (fun i hi => by simp [List.getD, hi]) (fun i j hi hj => ?_)
 obtain ⟨row, w, h1, h2, ver, rfl, h4⟩ := h.at' i hi
 have e1 : rows.getD (0 + i) [] = dNode w ver ns[i] := by rw [Nat.zero_add, List.getD, h1]; rfl
 have e2 : (ns.map cNode).getD i [] = cNode ns[i] := by simp [List.getD, hi]
 rw [e1, e2]
 match j, hj with
 | 0, _ => exact .refl _
 | 1, _ => exact .refl _
 | 2, _ =>
  exact .msl w ver 0 ns[i].es.length 5 (ns[i].es.map cLink) (ns[i].es.map cLink) (by simp [St.get, h4]) (by simp) (by simp) (fun k hk => by simp [List.getD, hk]) (fun k j hk hj => by rw [Nat.zero_add]; exact .refl _)
 | 3, _ => exact .refl _
 | 4, _ => exact .refl _

def MixT (A : List (Option (Nat × Obj))) (rows : List (List V)) (ws : List Nat) (ns : List NodeT) (k : Nat) : Prop :=
 rows.length = ns.length ∧ ws.length = ns.length ∧ ws.Nodup ∧ (∀ i (h : i < ns.length), i < k → rows[i]? = some (cNode ns[i])) ∧ ∀ i (h : i < ns.length), k ≤ i → ∃ row w, rows[i]? = some row ∧ ws[i]? = some w ∧ NodeAt A row ns[i] w
theorem frz_ind {idn va nv : Nat} {ws : List Nat} {ns : List NodeT} {v : V} {K : List V → St → Prop} (hidn : ¬ idn ∈ ws) : ∀ (r k : Nat) (A : List (Option (Nat × Obj))) (rows : List (List V)), k + r = ns.length → A[idn]? = some (some (va, .mem 5 rows)) → MixT A rows ws ns k →
    (∀ A', A'[idn]? = some (some (va, .mem 5 (ns.map cNode))) → (∀ id, ¬ id ∈ ws → id ≠ idn → A'[id]? = A[id]?) → A'.length = A.length → K [v] ⟨A', nv⟩) → GhostV [v] ⟨A, nv⟩ K
  | 0, k, A, rows, hr, ho, ⟨h1, h2, h3, h4, h5⟩, hk => by
    have e : rows = ns.map cNode := by
      apply List.ext_getElem?
      intro i
      by_cases hi : i < ns.length
      · rw [h4 i hi (by omega)]; simp [hi]
      · rw [List.getElem?_eq_none (by omega), List.getElem?_eq_none (by simp; omega)]
    exact GhostV.refl (hk A (by rw [← e]; exact ho) (fun _ _ _ => rfl) rfl)
  | r + 1, k, A, rows, hr, ho, ⟨h1, h2, h3, h4, h5⟩, hk => by
    have hkl : k < ns.length := by omega
    obtain ⟨row, w, g1, g2, ver, g3, g4⟩ := h5 k hkl (Nat.le_refl _)
    have hwm : w ∈ ws := List.mem_of_getElem? g2
    have hwi : w ≠ idn := fun e => hidn (by rw [← e]; exact hwm)
    have hwl := (List.getElem?_eq_some_iff.1 g4).1
    have hil := (List.getElem?_eq_some_iff.1 ho).1
    obtain ⟨A', hA'⟩ : ∃ A', A' = (A.set w none).set idn (some (va, .mem 5 (rows.set k (cNode ns[k])))) := ⟨_, rfl⟩
    have ha1 : A'[idn]? = some (some (va, .mem 5 (rows.set k (cNode ns[k])))) := by rw [hA', List.getElem?_set_self (by simpa using hil)]
    have ha2 : ∀ id, id ≠ w → id ≠ idn → A'[id]? = A[id]? := fun id i1 i2 => by rw [hA', List.getElem?_set_ne (fun e => i2 e.symm), List.getElem?_set_ne (fun e => i1 e.symm)]
    have ha3 : A'[w]? = some none := by rw [hA', List.getElem?_set_ne (fun e => hwi e.symm), List.getElem?_set_self hwl]
    have hrow : rows[k]? = some (dNode w ver ns[k]) := by rw [g1, g3]
    refine GhostV.trans (GhostV.freeze (vs' := [v]) (st' := ⟨A', nv⟩) (K := fun vs st' => vs = [v] ∧ st' = ⟨A', nv⟩) (id := w) (ver := ver) (sz := 5) (es := ns[k].es.map cLink) (by simp [St.get, g4]) rfl rfl (fun i => .refl _) (fun id1 ver1 o1 hh => ?_) ⟨rfl, rfl⟩) ?_
    · have hne : id1 ≠ w := fun e => by subst e; simp only at hh; rw [ha3] at hh; simp at hh
      refine ⟨hne, ?_⟩
      by_cases e : id1 = idn
      · subst e
        simp only at hh
        rw [ha1] at hh
        simp only [Option.some.injEq, Prod.mk.injEq] at hh
        obtain ⟨rfl, rfl⟩ := hh
        refine ⟨_, ho, .inr ⟨5, rows, _, rfl, rfl, by simp, fun i hi => ?_, fun i j hi => ?_⟩⟩
        · by_cases ei : i = k
          · subst ei
            have : i < rows.length := hi
            simp [List.getD, hrow, List.getElem?_set_self this]
          · simp [List.getD, List.getElem?_set_ne (fun e => ei e.symm)]
        · by_cases ei : i = k
          · subst ei
            have : i < rows.length := hi
            have e1 : rows.getD i [] = dNode w ver ns[i] := by rw [List.getD, hrow]; rfl
            have e2 : (rows.set i (cNode ns[i])).getD i [] = cNode ns[i] := by rw [List.getD, List.getElem?_set_self this]; rfl
            rw [e1, e2]
            match j with
            | 0 => exact .refl _
            | 1 => exact .refl _
            | 2 =>
              have := Frz.msl (ver := ver) (sz := 5) (es := ns[i].es.map cLink) w 0 ns[i].es.length (by simp)
              have e3 : List.drop ns[i].es.length (ns[i].es.map cLink) = [] := List.drop_eq_nil_of_le (by simp)
              simpa [e3] using this
            | 3 => exact .refl _
            | 4 => exact .refl _
            | j + 5 => exact .refl _
          · have : (rows.set k (cNode ns[k])).getD i [] = rows.getD i [] := by simp [List.getD, List.getElem?_set_ne (fun e => ei e.symm)]
            rw [this]; exact .refl _
      · simp only at hh
        rw [ha2 id1 hne e] at hh
        exact ⟨o1, hh, .inl rfl⟩
    · rintro _ _ ⟨rfl, rfl⟩
      refine frz_ind hidn r (k + 1) A' (rows.set k (cNode ns[k])) (by omega) ha1 ⟨by simpa using h1, h2, h3, fun i hi hik => ?_, fun i hi hik => ?_⟩ (fun B hb1 hb2 hb3 => hk B hb1 (fun id i1 i2 => by rw [hb2 id i1 i2]; exact ha2 id (fun e => i1 (by rw [e]; exact hwm)) i2) (by rw [hb3, hA']; simp))
      · by_cases ei : i = k
        · subst ei; rw [List.getElem?_set_self (by omega)]
        · rw [List.getElem?_set_ne (fun e => ei e.symm)]; exact h4 i hi (by omega)
      · obtain ⟨row2, w2, k1, k2, ver2, k3, k4⟩ := h5 i hi (by omega)
        refine ⟨row2, w2, by rw [List.getElem?_set_ne (by omega)]; exact k1, k2, ver2, k3, ?_⟩
        rw [ha2 w2 (fun e => ?_) (fun e => hidn (by rw [← e]; exact List.mem_of_getElem? k2))]
        · exact k4
        · rw [e] at k2
          have h6 := List.getElem?_eq_some_iff.1 g2
          have h7 := List.getElem?_eq_some_iff.1 k2
          obtain ⟨i1, e1⟩ := h6
          obtain ⟨i2, e2⟩ := h7
          exact List.pairwise_iff_getElem.1 (List.nodup_iff_pairwise_ne.1 h3) k i i1 i2 (by omega) (e1.trans e2.symm)
theorem GhostV.tree {L A : List (Option (Nat × Obj))} {idn va nv : Nat} {rows : List (List V)} {ws : List Nat} {t : TreeT} {K : List V → St → Prop} (hD : DT A rows ws t.nodes) (ho : A[idn]? = some (some (va, .mem 5 rows))) (hE : Ext L A) (hw : ∀ w ∈ ws, L.length ≤ w) (hi : L.length ≤ idn) (hidn : ¬ idn ∈ ws) {n : Nat} (hn : n = t.nodes.length)
  (hk : K [.agg (cTree t)] ⟨L, nv⟩) : GhostV [.agg [.msl idn va 0 n, .int .u32 t.root, .int .u64 t.count]] ⟨A, nv⟩ K := by
 subst hn
 refine frz_ind hidn t.nodes.length 0 A rows (by omega) ho ⟨hD.rl, hD.wl, hD.nd, fun i _ h => by omega, fun i h _ => hD.at' i h⟩ ?_ |>.trans (K := fun vs st => vs = [.agg [.msl idn va 0 t.nodes.length, .int .u32 t.root, .int .u64 t.count]] ∧ ∃ A', st = ⟨A', nv⟩ ∧ A'[idn]? = some (some (va, .mem 5 (t.nodes.map cNode))) ∧ Ext L A') ?_
 ·intro A' h1 h2 h3
  exact ⟨rfl, A', rfl, h1, by rw [h3]; exact hE.1, fun id hid => by rw [h2 id (fun e => by have := hw id e; omega) (by omega)]; exact hE.2 id hid⟩
 ·rintro _ _ ⟨rfl, A', rfl, h1, h2⟩
  refine GhostV.freeze (vs' := [.agg (cTree t)]) (st' := ⟨L, nv⟩) (id := idn) (ver := va) (sz := 5) (es := t.nodes.map cNode) (by simp [St.get, h1]) rfl rfl (fun i => ?_) (fun id1 ver1 o1 hh => ?_) hk
  ·cases i with
   | zero =>
    refine .agg _ _ rfl (fun i hi => ?_)
    match i, hi with
    | 0, _ =>
     have := Frz.msl (ver := va) (sz := 5) (es := t.nodes.map cNode) idn 0 t.nodes.length (by simp)
     have e3 : List.drop t.nodes.length (t.nodes.map cNode) = [] := List.drop_eq_nil_of_le (by simp)
     simpa [e3] using this
    | 1, _ => exact .refl _
    | 2, _ => exact .refl _
   | succ i => simpa using Frz.refl _
  ·simp only at hh
   have hlt := (List.getElem?_eq_some_iff.1 hh).1
   exact ⟨by omega, o1, by rw [h2.2 id1 hlt]; exact hh, .inl rfl⟩
end Go.Proofs.Ytmjnpfackanhlaa.AM

namespace Go.Proofs.Ytmjnpfackanhlaa.AM
open Go
set_option linter.unusedVariables false
set_option linter.unusedSimpArgs false
variable {P : Program}

structure CpR (P : Program) : Prop extends RdR P where
 cp : R_gazetteerref11_Copy P
def smallT (t : TreeT) : Prop := t.nodes.length < 2 ^ 30 ∧ ∀ x ∈ t.nodes, x.es.length < 2 ^ 30
abbrev zTree : List V := [.sl .nil 0 [] [], .int .u32 0, .int .u64 0]
def CpI1 (L : List (Option (Nat × Obj))) (nb : Nat) (t : TreeT) (k : Nat) (v3 v4 : V) (st : St) : Prop :=
 ∃ i A nv va rows ws, k = t.nodes.length - i ∧ i ≤ t.nodes.length ∧ v4 = .int .i64 ((i : Nat) : Int) ∧ v3 = .msl (L.length + 2) va 0 (rows : List (List V)).length ∧ Ext (L ++ [some (nb, .mem 3 [cTree t]), some (nb + 1, .mem 3 [zTree])]) A ∧
  A[L.length + 2]? = some (some (va, .mem 5 rows)) ∧ DT A rows ws (t.nodes.take i) ∧ (∀ w ∈ ws, L.length + 2 < w) ∧ st = ⟨A, nv⟩
def CpI2 (A : List (Option (Nat × Obj))) (x : NodeT) (vb : Nat) (k : Nat) (v6 v7 : V) (st : St) : Prop :=
 ∃ j nv ve out M, k = x.es.length - j ∧ j ≤ x.es.length ∧ v7 = .int .i64 ((j : Nat) : Int) ∧ v6 = .msl (A.length + 1) ve 0 (out : List LinkT).length ∧ out = x.es.take j ∧ st = ⟨A ++ ([some (vb, .mem 5 [cNode x]), some (ve, .mem 5 (out.map cLink))] ++ M), nv⟩
theorem Copy_core (h : CpR P) (t : TreeT) (hs : smallT t) {L : List (Option (Nat × Obj))} {nv : Nat} {K : V → St → Prop}
    (hk : ∀ A va rows ws nv', DT A rows ws t.nodes → A[L.length + 2]? = some (some (va, .mem 5 rows)) → Ext L A → (∀ w ∈ ws, L.length + 2 < w) → GhostV [.agg [.msl (L.length + 2) va 0 t.nodes.length, .int .u32 t.root, .int .u64 t.count]] ⟨A, nv'⟩ (fun vs st => K (mkres vs) st)) :
    ACalls P n_gazetteerref11_Copy [.agg (cTree t)] ⟨L, nv⟩ K := by
  refine A_gazetteerref11_Copy h.cp ?_
  delta F_gazetteerref11_Copy sp sd gp gd fl fd gl
  simp
  obtain ⟨hs1, hs2⟩ := hs
  refine ⟨CpI1 L nv t, ⟨t.nodes.length, GhostV.nilr 5 (by decide) ⟨0, L ++ [some (nv, .mem 3 [cTree t]), some (nv + 1, .mem 3 [zTree]), some (nv + 2, .mem 5 [])], nv + 3, nv + 2, [], [], by simp, by omega, by simp, by simp, by
    have := Ext.app (L ++ [some (nv, .mem 3 [cTree t]), some (nv + 1, .mem 3 [zTree])]) [some (nv + 2, .mem 5 [])]
    simpa using this, by simp, DT.nil, by simp, by simp⟩⟩, ?_⟩
  rintro k1 v3 v4 st ⟨i, A, nv1, va, rows, ws, rfl, hi, rfl, rfl, hE, ho, hD, hws, rfl⟩
  have hB : A[L.length]? = some (some (nv, .mem 3 [cTree t])) := by rw [hE.2 L.length (by simp)]; simp
  have hR : A[L.length + 1]? = some (some (nv + 1, .mem 3 [zTree])) := by rw [hE.2 (L.length + 1) (by simp)]; simp
  have hBl := (List.getElem?_eq_some_iff.1 ho).1
  have hBM : ∀ M, (A ++ M)[L.length]? = some (some (nv, .mem 3 [cTree t])) := fun M => by rw [List.getElem?_append_left (by omega)]; exact hB
  have hoM : ∀ M, (A ++ M)[L.length + 2]? = some (some (va, .mem 5 rows)) := fun M => by rw [List.getElem?_append_left (by omega)]; exact ho
  have hsM : ∀ M (x : Option (Nat × Obj)), (A ++ M).set (L.length + 2) x = A.set (L.length + 2) x ++ M := fun M x => List.set_append_left _ _ hBl
  have hLA : Ext L A := (Ext.app L _).trans hE
  by_cases hlt : i < t.nodes.length
  · have hx := hs2 _ (List.getElem_mem hlt)
    simp [hB, hlt]
    refine ⟨CpI2 A t.nodes[i] nv1, ⟨t.nodes[i].es.length, GhostV.nilr 5 (by decide) ⟨0, nv1 + 2, nv1 + 1, [], [], by simp, by omega, by simp, by simp, by simp, by simp⟩⟩, ?_⟩
    rintro k2 v6 v7 st ⟨j, nv2, ve, out, M, rfl, hj, rfl, rfl, hout, rfl⟩
    have hol : out.length = j := by rw [hout, List.length_take]; omega
    by_cases hlt2 : j < t.nodes[i].es.length
    · simp [hlt2]
      refine ⟨by omega, t.nodes[i].es.length - (j + 1), by omega, GhostV.refl ⟨j + 1, nv2 + 1 + 1, nv2 + 1, out ++ [t.nodes[i].es[j]], _, rfl, by omega, by rw [wadd1 (by omega)], by simp, by rw [take_snoc hlt2, hout], by simp; rfl⟩⟩
    · have hout2 : out = t.nodes[i].es := by rw [hout, List.take_of_length_le (by omega)]
      simp [hlt2, hoM, hsM]
      subst hout2
      have hrl : rows.length = i := by rw [hD.rl, List.length_take]; omega
      refine ⟨by omega, t.nodes.length - (i + 1), by omega, GhostV.refl ⟨i + 1, _, nv2 + 1 + 1, nv2 + 1, rows ++ [dNode (A.length + 1) ve t.nodes[i]], ws ++ [A.length + 1], rfl, by omega, by rw [wadd1 (by omega)], by simp, (hE.set (by simp) _).trans (Ext.app _ _), ?_, ?_, ?_, rfl⟩⟩
      · rw [List.getElem?_append_left (by simpa using hBl), List.getElem?_set_self hBl]; rfl
      · rw [take_snoc hlt]
        refine (hD.up (fun w hw => ?_)).snoc ⟨ve, rfl, ?_⟩ (fun hw => by have := hD.lt _ hw; omega)
        · have := hD.lt w hw
          have h2 := hws w hw
          rw [List.getElem?_append_left (by simpa using this), List.getElem?_set_ne (by omega)]
        · rw [List.getElem?_append_right (by simp)]; simp
      · intro w hw
        rcases List.mem_append.1 hw with hw | hw
        · exact hws w hw
        · rw [List.mem_singleton.1 hw]; omega
  · have hgs : ∀ x, (A.set L.length x)[L.length]? = some x := fun x => List.getElem?_set_self (by omega)
    have hR2 : ∀ x, (A.set L.length x)[L.length + 1]? = some (some (nv + 1, .mem 3 [zTree])) := fun x => by rw [List.getElem?_set_ne (by omega)]; exact hR
    have hg2 : ∀ x y, ((A.set L.length x).set (L.length + 1) y)[L.length + 1]? = some y := fun x y => List.getElem?_set_self (by simp; omega)
    have ht : t.nodes.take i = t.nodes := List.take_of_length_le (by omega)
    rw [ht] at hD
    have hrl : rows.length = t.nodes.length := hD.rl
    simp [hB, hR, hlt, hgs, hR2, hg2]
    rw [hrl]
    refine hk _ va rows ws nv1 (hD.up (fun w hw => ?_)) ?_ ((hLA.set (by omega) _).set (by omega) _) hws
    · have h2 := hws w hw
      rw [List.getElem?_set_ne (by omega), List.getElem?_set_ne (by omega)]
    · rw [List.getElem?_set_ne (by omega), List.getElem?_set_ne (by omega)]; exact ho
theorem Copy_P (h : CpR P) (t : TreeT) (hs : smallT t) : PCalls P n_gazetteerref11_Copy [.agg (cTree t)] (fun r => r = .agg (cTree t)) := by
 refine Copy_core h t hs (fun A va rows ws nv' hD ho hE hws => ?_)
 refine GhostV.tree hD ho hE (fun w _ => Nat.zero_le _) (Nat.zero_le _) (fun hw => by have := hws _ hw; omega) rfl ?_
 exact ⟨by simp [mkres, V.pure, pureL, pureLL], rfl⟩
theorem Copy_D (h : CpR P) (t : TreeT) (hs : smallT t) {L : List (Option (Nat × Obj))} {nv : Nat} {K : V → St → Prop}
  (hk : ∀ A va rows ws nv', DT A rows ws t.nodes → A[L.length + 2]? = some (some (va, .mem 5 rows)) → Ext L A → (∀ w ∈ ws, L.length + 2 < w) → K (.agg [.msl (L.length + 2) va 0 t.nodes.length, .int .u32 t.root, .int .u64 t.count]) ⟨A, nv'⟩) :
  ACalls P n_gazetteerref11_Copy [.agg (cTree t)] ⟨L, nv⟩ K := Copy_core h t hs (fun A va rows ws nv' hD ho hE hws => GhostV.refl (hk A va rows ws nv' hD ho hE hws))
end Go.Proofs.Ytmjnpfackanhlaa.AM

namespace Go.Proofs.Ytmjnpfackanhlaa.AM
open Go
set_option linter.unusedVariables false
set_option linter.unusedSimpArgs false
variable {P : Program}

structure KdR (P : Program) : Prop extends CpR P where
 kyd : R_gazetteerref11_Keyed P

theorem find_of_idx {α : Type} {p : α → Bool} : ∀ {l : List α} {i : Nat}, l.findIdx? p = some i → ∃ h : i < l.length, l.find? p = some l[i] ∧ p l[i] = true
 | [], i, h => by simp at h
 | x :: l, i, h => by
  rw [List.findIdx?_cons] at h
  cases hp : p x with
  | true => rw [hp] at h; simp at h; subst h; exact ⟨by simp, by simp [hp], by simpa using hp⟩
  | false =>
   rw [hp] at h
   simp only [Bool.false_eq_true, if_false, Option.map_eq_some_iff] at h
   obtain ⟨j, hj, rfl⟩ := h
   obtain ⟨h1, h2, h3⟩ := find_of_idx hj
   exact ⟨by simp; omega, by simp [hp, h2], by simpa using h3⟩
theorem find_idx_some {α : Type} {p : α → Bool} {l : List α} {x : α} (h : l.find? p = some x) : ∃ i, ∃ hi : i < l.length, l.findIdx? p = some i ∧ l[i] = x := by
 cases hi : l.findIdx? p with
 | none =>
  rw [List.findIdx?_eq_none_iff] at hi
  have h1 := List.find?_some h
  have h2 := hi x (List.mem_of_find?_eq_some h)
  rw [h1] at h2; cases h2
 | some i =>
  obtain ⟨h1, h2, h3⟩ := find_of_idx hi
  refine ⟨i, h1, rfl, ?_⟩
  rw [h2] at h
  exact Option.some.inj h
theorem findN_idx {ns : List NodeT} {id : Int} {x : NodeT} (h : findN ns id = some x) : ∃ i, ∃ hi : i < ns.length, ns.findIdx? (isId id) = some i ∧ ns[i] = x := find_idx_some h
theorem DT.setE {A : List (Option (Nat × Obj))} {rows : List (List V)} {ws : List Nat} {ns : List NodeT} (H : DT A rows ws ns) {i w ver : Nat} (hi : i < ns.length) (hw : ws[i]? = some w) (hr : rows[i]? = some (dNode w ver ns[i])) (hA : w < A.length) {es' : List LinkT} (hl : es'.length = ns[i].es.length) :
  DT (A.set w (some (ver, .mem 5 (es'.map cLink)))) rows ws (ns.set i { ns[i] with es := es' }) := by
 refine ⟨by simp [H.rl], by simp [H.wl], fun j hj => ?_, H.nd⟩
 rw [List.length_set] at hj
 by_cases e : i = j
 ·subst e
  refine ⟨_, w, hr, hw, ver, ?_, ?_⟩
  ·simp [hl]
  ·rw [List.getElem?_set_self hA]; simp
 ·obtain ⟨row, w2, h1, h2, ver2, h3, h4⟩ := H.at' j hj
  refine ⟨row, w2, h1, h2, ver2, ?_, ?_⟩
  ·rw [h3, List.getElem_set_ne e]
  ·rw [List.getElem?_set_ne (fun e2 => ?_), List.getElem_set_ne e]
   ·exact h4
   ·obtain ⟨i1, e1⟩ := List.getElem?_eq_some_iff.1 hw
    obtain ⟨j1, e3⟩ := List.getElem?_eq_some_iff.1 h2
    have hne := List.nodup_iff_pairwise_ne.1 H.nd
    rcases Nat.lt_or_gt_of_ne e with hlt | hlt
    ·exact List.pairwise_iff_getElem.1 hne i j i1 j1 hlt (by rw [e1, e3, e2])
    ·exact List.pairwise_iff_getElem.1 hne j i j1 i1 hlt (by rw [e1, e3, e2])

def partE (ns : List NodeT) (es : List LinkT) (k : Nat) : List LinkT := (es.take k).map (keyE ns) ++ es.drop k
theorem partE_len (ns : List NodeT) (es : List LinkT) (k : Nat) : (partE ns es k).length = es.length := by
 unfold partE
 rw [List.length_append, List.length_map, List.length_take, List.length_drop]
 omega
theorem partE_get {ns : List NodeT} {es : List LinkT} {k : Nat} (hk : k < es.length) : (partE ns es k)[k]? = some es[k] := by
 unfold partE
 rw [List.getElem?_append_right (by simp; omega)]
 simp [List.length_take, Nat.min_eq_left (by omega : k ≤ es.length), hk]
theorem partE_set {ns : List NodeT} {es : List LinkT} {k : Nat} (hk : k < es.length) : (partE ns es k).set k (keyE ns es[k]) = partE ns es (k + 1) := by
 unfold partE
 rw [List.set_append_right _ _ (by simp; omega), take_snoc hk, List.map_append]
 have e1 : k - ((es.take k).map (keyE ns)).length = 0 := by simp; omega
 rw [e1, List.drop_eq_getElem_cons hk, List.set_cons_zero, List.append_assoc]
 rfl
theorem partE_same {ns : List NodeT} {es : List LinkT} {k : Nat} (hk : k < es.length) (h : keyE ns es[k] = es[k]) : partE ns es (k + 1) = partE ns es k := by
 rw [← partE_set hk, h]
 apply List.ext_getElem?
 intro j
 by_cases e : k = j
 ·subst e; rw [List.getElem?_set_self (by rw [partE_len]; exact hk), partE_get hk]
 ·rw [List.getElem?_set_ne e]
theorem partE_zero (ns : List NodeT) (es : List LinkT) : partE ns es 0 = es := by simp [partE]
theorem partE_all {ns : List NodeT} {es : List LinkT} {k : Nat} (hk : ¬ k < es.length) : partE ns es k = es.map (keyE ns) := by
 unfold partE
 rw [List.take_of_length_le (by omega), List.drop_eq_nil_of_le (by omega), List.append_nil]
def partN (ns : List NodeT) (i k : Nat) : List NodeT := match ns[i]? with
 | some x => ns.set i { x with es := if x.leaf then x.es else partE ns x.es k }
 | none => ns
theorem set_eq_updN {ns : List NodeT} (hn : (idsN ns).Nodup) {i : Nat} (hi : i < ns.length) {x : NodeT} (hid : x.id = ns[i].id) : ns.set i x = updN ns x := by
 apply List.ext_getElem?
 intro j
 unfold updN
 rw [List.getElem?_map]
 by_cases e : i = j
 ·subst e
  rw [List.getElem?_set_self hi, List.getElem?_eq_getElem hi]
  simp [hid]
 ·rw [List.getElem?_set_ne e]
  by_cases hj : j < ns.length
  ·rw [List.getElem?_eq_getElem hj]
   simp only [Option.map_some]
   rw [if_neg]
   rw [hid]
   intro e2
   have hne := List.nodup_iff_pairwise_ne.1 hn
   have h1 : j < (idsN ns).length := by simpa [idsN] using hj
   have h2 : i < (idsN ns).length := by simpa [idsN] using hi
   rcases Nat.lt_or_gt_of_ne e with hlt | hlt
   ·exact List.pairwise_iff_getElem.1 hne i j h2 h1 hlt (by simp [idsN, e2])
   ·exact List.pairwise_iff_getElem.1 hne j i h1 h2 hlt (by simp [idsN, e2])
  ·rw [List.getElem?_eq_none (by omega)]; rfl
theorem partN_get {ns : List NodeT} {i k : Nat} {x : NodeT} (hx : ns[i]? = some x) : (partN ns i k)[i]? = some { x with es := if x.leaf then x.es else partE ns x.es k } := by
 unfold partN
 rw [hx]
 dsimp only
 rw [List.getElem?_set_self (List.getElem?_eq_some_iff.1 hx).1]
theorem partN_ne {ns : List NodeT} {i j k : Nat} (h : i ≠ j) : (partN ns i k)[j]? = ns[j]? := by
 unfold partN
 cases hx : ns[i]? with
 | none => rfl
 | some x => dsimp only; rw [List.getElem?_set_ne h]
theorem partN_len (ns : List NodeT) (i k : Nat) : (partN ns i k).length = ns.length := by
 unfold partN
 cases hx : ns[i]? with
 | none => rfl
 | some x => simp
theorem partN_ids (ns : List NodeT) (i k : Nat) : idsN (partN ns i k) = idsN ns := by
 unfold partN
 cases hx : ns[i]? with
 | none => rfl
 | some x =>
  apply List.ext_getElem?
  intro j
  simp only [idsN, List.getElem?_map]
  by_cases e : i = j
  ·subst e; rw [List.getElem?_set_self (List.getElem?_eq_some_iff.1 hx).1, hx]; rfl
  ·rw [List.getElem?_set_ne e]
theorem partN_zero {ns : List NodeT} {i : Nat} : partN ns i 0 = ns := by
 unfold partN
 cases hx : ns[i]? with
 | none => rfl
 | some x =>
  apply List.ext_getElem?
  intro j
  dsimp only
  by_cases e : i = j
  ·subst e; rw [List.getElem?_set_self (List.getElem?_eq_some_iff.1 hx).1, hx, partE_zero]
   split <;> rfl
  ·rw [List.getElem?_set_ne e]
theorem partN_done {ns : List NodeT} (hn : (idsN ns).Nodup) {i k : Nat} (hi : i < ns.length) (hk : ns[i].leaf = true ∨ ¬ k < ns[i].es.length) : partN ns i k = keyS ns ns[i].id := by
 unfold partN keyS
 rw [List.getElem?_eq_getElem hi, findN_mem hn (List.getElem_mem hi)]
 dsimp only
 rw [← set_eq_updN hn hi (keyN_id _ _)]
 congr 1
 unfold keyN
 cases hl : ns[i].leaf with
 | true => simp [← hl]
 | false =>
  rw [hl] at hk
  simp only [Bool.false_eq_true, false_or] at hk
  simp only [Bool.false_eq_true, if_false, partE_all hk]
theorem findIdx_ids {id : Int} : ∀ {ns ns' : List NodeT}, idsN ns = idsN ns' → ns.findIdx? (isId id) = ns'.findIdx? (isId id)
 | [], [], _ => rfl
 | [], _ :: _, h => by simp [idsN] at h
 | _ :: _, [], h => by simp [idsN] at h
 | x :: ns, y :: ns', h => by
  simp only [idsN, List.map_cons, List.cons.injEq] at h
  rw [List.findIdx?_cons, List.findIdx?_cons, findIdx_ids (ns := ns) (ns' := ns') h.2]
  have : isId id x = isId id y := by simp [isId, h.1]
  rw [this]
end Go.Proofs.Ytmjnpfackanhlaa.AM
