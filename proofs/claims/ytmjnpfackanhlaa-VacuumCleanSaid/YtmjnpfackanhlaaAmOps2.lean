/- The abstract layer: '==', maps' keys, cuts, structs made. -/
import Derived.Test.YtmjnpfackanhlaaAmOps
import Derived.Laws.StructEq
namespace Go.Proofs.Ytmjnpfackanhlaa.AM
open Go Go.RowKit
set_option linter.unusedSimpArgs false
set_option linter.unusedVariables false
variable {P : Program} {g : G} {st : St} {w : World}

def LC.fits (P : Program) (t : TypeId) : LC → Prop
 | .bool => P.underlying t = some .bool
 | .int => ∃ k, P.underlying t = some (.int k)
 | .str => P.underlying t = some .string

theorem eqL_ok {c : LC} {A B : V} {a b : Value} {r : Bool} (hA : VRel g A a) (hB : VRel g B b) (h : eqL c A B = some r) {t d : Nat}
  (hu : c.fits P t) :
  (Op.equalIn (d + 1) t a b).run P w = .ok r w := by
 cases c <;> cases hA <;> cases hB <;> simp [eqL] at h
 ·subst h; simp [Op.equalIn, run_underlying (show P.underlying t = _ from hu)]
 ·obtain ⟨rfl, rfl⟩ := h
  obtain ⟨k, hu⟩ := hu
  simp [Op.equalIn, run_underlying hu]
 ·subst h; simp [Op.equalIn, run_underlying (show P.underlying t = _ from hu)]

theorem eqLs_append : ∀ {l1 l2 : List LC} {as bs : List V} {r : Bool}, eqLs (l1 ++ l2) as bs = some r →
  ∃ r1 r2, eqLs l1 (as.take l1.length) (bs.take l1.length) = some r1 ∧ eqLs l2 (as.drop l1.length) (bs.drop l1.length) = some r2 ∧ r = (r1 && r2)
 | [], l2, as, bs, r, h => ⟨true, r, by simp [eqLs], by simpa using h, by simp⟩
 | c :: l1, l2, as, bs, r, h => by
  cases as with
  | nil => simp [eqLs] at h
  | cons a as =>
   cases bs with
   | nil => simp [eqLs] at h
   | cons b bs =>
    simp only [List.cons_append, eqLs] at h
    split at h
    ·rename_i x y h1 h2
     simp at h
     obtain ⟨r1, r2, h3, h4, rfl⟩ := eqLs_append h2
     exact ⟨x && r1, r2, by simp [eqLs, h1, h3], by simpa using h4, by rw [← h, Bool.and_assoc]⟩
    ·simp at h

theorem eqLs_len : ∀ {l : List LC} {as bs : List V} {r : Bool}, eqLs l as bs = some r → as.length = l.length ∧ bs.length = l.length
 | [], as, bs, r, h => by cases as <;> cases bs <;> simp [eqLs] at h ⊢
 | c :: l, as, bs, r, h => by
  cases as <;> cases bs <;> simp [eqLs] at h
  split at h
  ·rename_i h1 h2; have := eqLs_len h2; simp [this]
  ·simp at h

def PartsRel (g : G) (as : List V) (XS : Array Value) (off : Nat) : Prop :=
 off + as.length ≤ XS.size ∧ ∀ i, i < as.length → VRel g (as.getD i .junk) (XS.getD (off + i) undef)

theorem PartsRel.sub {as : List V} {XS : Array Value} {off : Nat} (h : PartsRel g as XS off) (k n : Nat) (hk : k + n ≤ as.length) : PartsRel g ((as.drop k).take n) XS (off + k) := by
 refine ⟨by simp; have := h.1; omega, fun i hi => ?_⟩
 simp at hi
 have := h.2 (k + i) (by omega)
 rw [Nat.add_assoc]
 have e : ((as.drop k).take n).getD i .junk = as.getD (k + i) .junk := by simp only [List.getD, List.getElem?_take, List.getElem?_drop]; rw [if_pos (by omega)]
 rw [e]; exact this

theorem PartsRel.extract {as : List V} {XS : Array Value} {off : Nat} (h : PartsRel g as XS off) : PartsRel g as (XS.extract off (off + as.length)) 0 := by
 refine ⟨by simp; have := h.1; omega, fun i hi => ?_⟩
 have := h.2 i hi
 simp only [Array.getD_eq_getD_getElem?, Array.getElem?_extract, Nat.zero_add] at this ⊢
 rw [if_pos (by have := h.1; omega)]; exact this

theorem part_scalar {t : Nat} (ha : aggT P t = some false) {XS : Array Value} {off : Nat} (h : off < XS.size) : (part t XS off).run P w = .ok (XS.getD off undef) w := by
 simp [part, run_aggT ha, h, Array.getD]

theorem part_struct {t n : Nat} (ha : aggT P t = some true) (hs : sizeT P t = some n) {XS : Array Value} {off : Nat} : (part t XS off).run P w = .ok (.agg (XS.extract off (off + n))) w := by
 simp [part, run_aggT ha, run_sizeT hs]

theorem flatFs_ok {k : Nat} (ih : ∀ (t : Nat) (ls : List LC), flatLs P k t = some ls → ∀ (d : Nat), k ≤ d → ∀ (as bs : List V) (r : Bool), eqLs ls as bs = some r → ∀ (XS YS : Array Value) (off : Nat), PartsRel g as XS off → PartsRel g bs YS off →
   ∃ p q, (part t XS off).run P w = .ok p w ∧ (part t YS off).run P w = .ok q w ∧ (Op.equalIn d t p q).run P w = .ok r w) (d : Nat) (hd : k ≤ d) :
  ∀ (fs : List Field) (off : Nat) (ls : List LC), flatFs (flatLs P k) off fs = some ls → ∀ (as bs : List V) (r : Bool), eqLs ls as bs = some r → ∀ (XS YS : Array Value), PartsRel g as XS off → PartsRel g bs YS off →
   (Op.eqFields d XS YS fs).run P w = .ok r w
 | [], off, ls, h, as, bs, r, hr, XS, YS, h1, h2 => by
  simp [flatFs] at h; subst h
  cases as <;> cases bs <;> simp [eqLs] at hr
  subst hr; simp [Op.eqFields]
 | f :: fs, off, ls, h, as, bs, r, hr, XS, YS, h1, h2 => by
  simp only [flatFs] at h
  split at h
  ·rename_i hn
   obtain ⟨hn, rfl⟩ := hn
   split at h
   ·rename_i l hl
    simp only [Option.map_eq_some_iff] at h
    obtain ⟨l2, hl2, rfl⟩ := h
    obtain ⟨r1, r2, e1, e2, rfl⟩ := eqLs_append hr
    have la := eqLs_len hr
    simp at la
    have h1' := h1.sub 0 l.length (by omega)
    have h2' := h2.sub 0 l.length (by omega)
    simp only [List.drop_zero, Nat.add_zero] at h1' h2'
    obtain ⟨p, q, hp, hq, he⟩ := ih f.type l hl d hd _ _ _ e1 XS YS f.offset h1' h2'
    have h3 := h1.sub l.length l2.length (by omega)
    have h4 := h2.sub l.length l2.length (by omega)
    have t1 : (as.drop l.length).take l2.length = as.drop l.length := List.take_of_length_le (by simp; omega)
    have t2 : (bs.drop l.length).take l2.length = bs.drop l.length := List.take_of_length_le (by simp; omega)
    rw [t1] at h3; rw [t2] at h4
    have hrec := flatFs_ok ih d hd fs (f.offset + l.length) l2 hl2 _ _ _ e2 XS YS h3 h4
    simp only [Op.eqFields, hn, ne_eq, not_false_eq_true, if_true, Sem.run_bind, hp, Result.andThen_ok, hq, he, Sem.run_ite, hrec]
    cases r1 <;> simp
   ·simp at h
  ·simp at h

theorem flat_ok : ∀ (k : Nat) (t : Nat) (ls : List LC), flatLs P k t = some ls → ∀ (d : Nat), k ≤ d → ∀ (as bs : List V) (r : Bool), eqLs ls as bs = some r →
  ∀ (XS YS : Array Value) (off : Nat), PartsRel g as XS off → PartsRel g bs YS off →
   ∃ p q, (part t XS off).run P w = .ok p w ∧ (part t YS off).run P w = .ok q w ∧ (Op.equalIn d t p q).run P w = .ok r w
 | 0, t, ls, h, _, _, _, _, _, _, _, _, _, _, _ => by simp [flatLs] at h
 | k + 1, t, ls, h, d, hd, as, bs, r, hr, XS, YS, off, h1, h2 => by
  obtain ⟨d, rfl⟩ : ∃ m, d = m + 1 := ⟨d - 1, by omega⟩
  have scalar : ∀ (c : LC), ls = [c] → aggT P t = some false →
    c.fits P t →
    ∃ p q, (part t XS off).run P w = .ok p w ∧ (part t YS off).run P w = .ok q w ∧ (Op.equalIn (d + 1) t p q).run P w = .ok r w := by
   intro c hc ha hu
   subst hc
   have la := eqLs_len hr
   obtain ⟨A, rfl⟩ : ∃ A, as = [A] := by cases as with | nil => simp at la | cons a as => cases as with | nil => exact ⟨a, rfl⟩ | cons _ _ => simp at la
   obtain ⟨B, rfl⟩ : ∃ B, bs = [B] := by cases bs with | nil => simp at la | cons a as => cases as with | nil => exact ⟨a, rfl⟩ | cons _ _ => simp at la
   simp only [eqLs] at hr
   have hr' : eqL c A B = some r := by
    split at hr
    ·rename_i x y e1 e2; simp at e2 hr; subst e2; simp at hr; subst hr; exact e1
    ·simp at hr
   refine ⟨_, _, part_scalar ha (by have := h1.1; simp at this; omega), part_scalar ha (by have := h2.1; simp at this; omega), ?_⟩
   exact eqL_ok (by simpa using h1.2 0 (by simp)) (by simpa using h2.2 0 (by simp)) hr' hu
  simp only [flatLs] at h
  split at h
  ·rename_i hu; simp at h; exact scalar .bool h.symm (by simp [aggT, hu]) hu
  ·rename_i k' hu; simp at h; exact scalar .int h.symm (by simp [aggT, hu]) ⟨_, hu⟩
  ·rename_i hu; simp at h; exact scalar .str h.symm (by simp [aggT, hu]) hu
  ·rename_i fs hu
   split at h
   ·rename_i l hl
    split at h
    ·rename_i hc
     simp at h; subst h
     have la := eqLs_len hr
     refine ⟨_, _, part_struct (by simp [aggT, hu]) hc.2, part_struct (by simp [aggT, hu]) hc.2, ?_⟩
     have hf : P.fieldsOf t = fs := by simp [Program.fieldsOf, hu]
     rw [run_equalIn_struct w d t _ _ (by rw [hf]; exact hu) hc.1, hf]
     have e1 := h1.extract
     have e2 := h2.extract
     rw [la.1] at e1; rw [la.2] at e2
     exact flatFs_ok (fun t ls ht d hd as bs r hr XS YS off h1 h2 => flat_ok k t ls ht d hd as bs r hr XS YS off h1 h2) d (by omega) fs.toList 0 l hl as bs r hr _ _ e1 e2
    ·simp at h
   ·simp at h
  ·simp at h

theorem partsRel_of_agg {cs : List V} {vs : Array Value} (hl : cs.length = vs.size) (h : ∀ i, i < cs.length → VRel g (cs.getD i .junk) (vs.getD i undef)) : PartsRel g cs vs 0 :=
 ⟨by omega, fun i hi => by rw [Nat.zero_add]; exact h i hi⟩

theorem struct_underlying {t : Nat} (h : aggT P t = some true) {k : Nat} {ls : List LC} (hf : flatLs P k t = some ls) :
  ∃ fs, P.underlying t = some (.struct fs) ∧ P.stoodInHeld t = false ∧ sizeT P t = some ls.length := by
 cases k with
 | zero => simp [flatLs] at hf
 | succ k =>
  simp only [flatLs] at hf
  split at hf
  ·rename_i hu; simp [aggT, hu] at h
  ·rename_i k' hu; simp [aggT, hu] at h
  ·rename_i hu; simp [aggT, hu] at h
  ·rename_i fs hu
   split at hf
   ·split at hf
    ·rename_i hc; simp at hf; subst hf; exact ⟨fs, hu, hc.1, hc.2⟩
    ·simp at hf
   ·simp at hf
  ·simp at hf

theorem equal_flat {t : Nat} (ha : aggT P t = some true) {ls : List LC} (hf : flatLs P 100 t = some ls) {as bs : List V} {x y : Value} (hA : VRel g (.agg as) x) (hB : VRel g (.agg bs) y)
  {r : Bool} (hr : eqLs ls as bs = some r) : (Op.equal t x y).run P w = .ok r w := by
 obtain ⟨vs, rfl, hl, h, _⟩ := agg_open hA
 obtain ⟨us, rfl, hl', h', _⟩ := agg_open hB
 obtain ⟨fs, hu, hsi, hsz⟩ := struct_underlying ha hf
 obtain ⟨p, q, hp, hq, he⟩ := flat_ok (P := P) (w := w) 100 t ls hf 10000 (by omega) as bs r hr vs us 0 (partsRel_of_agg hl h) (partsRel_of_agg hl' h')
 rw [part_struct ha hsz] at hp hq
 have la := eqLs_len hr
 simp only [Result.ok.injEq, and_true] at hp hq
 have e1 : vs.extract 0 (0 + ls.length) = vs := by rw [Nat.zero_add]; exact Array.extract_eq_self_of_le (by omega)
 have e2 : us.extract 0 (0 + ls.length) = us := by rw [Nat.zero_add]; exact Array.extract_eq_self_of_le (by omega)
 rw [e1] at hp; rw [e2] at hq
 subst hp; subst hq
 exact he

theorem flat_scalar {t k : Nat} (ha : aggT P t = some false) {c : LC} {l : List LC} (hf : flatLs P k t = some (c :: l)) :
  c.fits P t := by
 cases k with
 | zero => simp [flatLs] at hf
 | succ k =>
  simp only [flatLs] at hf
  split at hf
  ·rename_i hu; simp at hf; obtain ⟨rfl, rfl⟩ := hf; exact hu
  ·rename_i k' hu; simp at hf; obtain ⟨rfl, rfl⟩ := hf; exact ⟨_, hu⟩
  ·rename_i hu; simp at hf; obtain ⟨rfl, rfl⟩ := hf; exact hu
  ·rename_i fs hu; simp [aggT, hu] at ha
  ·simp at hf

theorem keyEq_ok {t : Nat} {kc : KC} (hk : keyT P t = some kc) {A B : V} {x y : Value} (hA : VRel g A x) (hB : VRel g B y) {r : Bool} (hr : keyEq kc A B = some r) :
  (Op.equal t x y).run P w = .ok r w := by
 unfold keyT at hk
 split at hk
 ·rename_i l h1 h2
  simp at hk; subst hk
  unfold keyEq at hr
  split at hr
  ·rename_i h; simp at h
  ·rename_i ls as bs h; simp at h; subst h; exact equal_flat h2 h1 hA hB hr
  ·simp at hr
 ·rename_i c h1 h2
  simp at hk; subst hk
  simp only [keyEq] at hr
  exact eqL_ok hA hB hr (flat_scalar h2 h1)
 ·simp at hk

theorem equal_succ : ∃ d, ∀ (t : TypeId) (x y : Value), Op.equal t x y = Op.equalIn (d + 1) t x y := ⟨9999, fun _ _ _ => rfl⟩

def EC.fits (P : Program) (t : TypeId) : EC → Prop
 | .bool => P.underlying t = some .bool
 | .ptr => ∃ e, P.underlying t = some (.pointer e)
 | .sl => ∃ e, P.underlying t = some (.slice e)
 | .map => ∃ k e, P.underlying t = some (.map k e)
 | .func => ∃ a b c, P.underlying t = some (.func a b c)
 | .flat ls => aggT P t = some true ∧ flatLs P 100 t = some ls

theorem eqsV_ok {t : Nat} {ec : EC} {A B : V} {a b : Value} (hA : VRel g A a) (hB : VRel g B b) {r : Bool} (hr : eqsV ec A B = some r)
  (hu : ec.fits P t) :
  (Op.equal t a b).run P w = .ok r w := by
 obtain ⟨d, equal_succ⟩ := equal_succ
 cases ec with
 | bool =>
  have hu : P.underlying t = some .bool := hu
  cases hA <;> cases hB <;> simp [eqsV] at hr
  subst hr; rw [equal_succ]; simp [Op.equalIn, run_underlying hu]
 | flat ls =>
  simp only [eqsV] at hr
  split at hr
  ·exact equal_flat hu.1 hu.2 hA hB hr
  ·simp at hr
 | ptr =>
  obtain ⟨e, hu⟩ := hu
  rw [equal_succ]
  cases hA <;> cases hB <;> simp [eqsV] at hr <;> subst hr <;> simp [Op.equalIn, run_underlying hu]
 | sl =>
  obtain ⟨e, hu⟩ := hu
  rw [equal_succ]
  have key : ∀ {A : V} {x : Value} {c : Bool}, VRel g A x → slNil A = some c → ∃ l k, (c = true → x = .slice none l k) ∧ (c = false → ∃ p, x = .slice (some p) l k) := by
   intro A x c h hc
   cases h with
   | sl k sz es sp b o cap vals hk hk0 h0 hcap he hi hr =>
    cases k <;> simp [slNil] at hc hk
    ·subst hc; exact ⟨_, _, by simp, fun _ => ⟨_, rfl⟩⟩
    ·subst hc; exact ⟨_, _, by simp, fun _ => ⟨_, rfl⟩⟩
    ·obtain ⟨_, rfl⟩ := hc; exact ⟨_, _, by simp, fun _ => ⟨_, rfl⟩⟩
   | semp k sz a cap hk hk0 =>
    cases k <;> simp [slNil] at hc hk <;> first | (subst hc; exact ⟨_, _, by simp, fun _ => ⟨_, rfl⟩⟩) | (obtain ⟨_, rfl⟩ := hc; exact ⟨_, _, by simp, fun _ => ⟨_, rfl⟩⟩)
   | snil k sz hk =>
    rcases hk with rfl | rfl <;> simp [slNil] at hc
    subst hc; exact ⟨_, _, fun _ => rfl, by simp⟩
   | mnil id ver L hL hb => simp [slNil] at hc
   | msl id ver off len b a L hL hb hT ha hp =>
    simp [slNil] at hc
    obtain ⟨_, rfl⟩ := hc; exact ⟨_, _, by simp, fun _ => ⟨_, rfl⟩⟩
   | _ => simp [slNil] at hc
  simp only [eqsV] at hr
  split at hr
  ·rename_i c h1 h2
   simp at hr; subst hr
   obtain ⟨l, k, e1, _⟩ := key hA h1
   obtain ⟨l', k', e2, e3⟩ := key hB h2
   rw [e1 rfl]
   cases c with
   | true => rw [e2 rfl]; simp [Op.equalIn, run_underlying hu]
   | false => obtain ⟨p, e⟩ := e3 rfl; rw [e]; simp [Op.equalIn, run_underlying hu]
  ·rename_i h1 h2
   simp at hr; subst hr
   obtain ⟨l, k, _, e1⟩ := key hA h1
   obtain ⟨l', k', e2, _⟩ := key hB h2
   obtain ⟨p, e1⟩ := e1 rfl
   rw [e1, e2 rfl]; simp [Op.equalIn, run_underlying hu]
  ·simp at hr
 | map =>
  obtain ⟨k, e, hu⟩ := hu
  rw [equal_succ]
  cases hA <;> cases hB <;> simp [eqsV] at hr <;> subst hr <;> simp [Op.equalIn, run_underlying hu]
 | func =>
  obtain ⟨a, b, c, hu⟩ := hu
  rw [equal_succ]
  have key : ∀ {A : V} {x : Value}, VRel g A x → (A = .nilf ∧ x = .nilFunc) ∨ ((A matches .fn .. | .yld ..) ∧ ∃ p q r, x = .func p q r) ∨ (A ≠ .nilf ∧ (A matches .fn .. | .yld ..) = false) := by
   intro A x h; cases h <;> simp
  rcases key hA with ⟨rfl, rfl⟩ | ⟨h1, p, q, s, rfl⟩ | ⟨h1, h2⟩
  ·rcases key hB with ⟨rfl, rfl⟩ | ⟨h1, p, q, s, rfl⟩ | ⟨h1, h2⟩
   ·simp [eqsV] at hr; subst hr; (simp only [Op.equalIn, Sem.run_bind, run_underlying hu, Result.andThen_ok]; rfl)
   ·cases B <;> simp at h1 <;> simp [eqsV] at hr <;> subst hr <;> (simp only [Op.equalIn, Sem.run_bind, run_underlying hu, Result.andThen_ok]; rfl)
   ·cases B <;> simp at h1 h2 <;> simp [eqsV] at hr
  ·rcases key hB with ⟨rfl, rfl⟩ | ⟨h1', p, q, s, rfl⟩ | ⟨h1', h2⟩
   ·cases A <;> simp at h1 <;> simp [eqsV] at hr <;> subst hr <;> (simp only [Op.equalIn, Sem.run_bind, run_underlying hu, Result.andThen_ok]; rfl)
   ·cases A <;> simp at h1 <;> cases B <;> simp at h1' <;> simp [eqsV] at hr
   ·cases A <;> simp at h1 <;> cases B <;> simp at h1' h2 <;> simp [eqsV] at hr
  ·cases A <;> simp at h1 h2 <;> simp [eqsV] at hr

/-! ### maps -/
theorem checkKey_scalar {t n : Nat} {c : LC} (hc : c.fits P t) {e : Bool} {x : Value} : (Instr.checkKey e (n + 1) t x).run P w = .ok () w := by
 cases c with
 | bool =>
  have hu : P.underlying t = some .bool := hc
  unfold Instr.checkKey; simp only [Sem.run_bind, run_underlying hu, Result.andThen_ok]; cases x <;> rfl
 | int =>
  obtain ⟨k, hc⟩ := hc
  unfold Instr.checkKey; simp only [Sem.run_bind, run_underlying hc, Result.andThen_ok]; cases x <;> rfl
 | str =>
  have hu : P.underlying t = some .string := hc
  unfold Instr.checkKey; simp only [Sem.run_bind, run_underlying hu, Result.andThen_ok]; cases x <;> rfl

theorem checkKey_flat : ∀ (k : Nat) (t : Nat) (ls : List LC), flatLs P k t = some ls → ∀ (n : Nat), k ≤ n → ∀ (e : Bool) (XS : Array Value) (off : Nat), off + ls.length ≤ XS.size →
  ∃ p, (part t XS off).run P w = .ok p w ∧ (Instr.checkKey e n t p).run P w = .ok () w
 | 0, t, ls, h, _, _, _, _, _, _ => by simp [flatLs] at h
 | k + 1, t, ls, h, n, hn, e, XS, off, hl => by
  obtain ⟨n, rfl⟩ : ∃ m, n = m + 1 := ⟨n - 1, by omega⟩
  have h0 := h
  simp only [flatLs] at h
  split at h
  ·rename_i hu; simp at h; subst h
   exact ⟨_, part_scalar (by simp [aggT, hu]) (by simp at hl; omega), checkKey_scalar (flat_scalar (by simp [aggT, hu]) h0)⟩
  ·rename_i k' hu; simp at h; subst h
   exact ⟨_, part_scalar (by simp [aggT, hu]) (by simp at hl; omega), checkKey_scalar (flat_scalar (by simp [aggT, hu]) h0)⟩
  ·rename_i hu; simp at h; subst h
   exact ⟨_, part_scalar (by simp [aggT, hu]) (by simp at hl; omega), checkKey_scalar (flat_scalar (by simp [aggT, hu]) h0)⟩
  ·rename_i fs hu
   split at h
   ·rename_i l hf
    split at h
    ·rename_i hc
     simp at h; subst h
     refine ⟨_, part_struct (by simp [aggT, hu]) hc.2, ?_⟩
     have hsz : (XS.extract off (off + l.length)).size = l.length := by simp; omega
     generalize XS.extract off (off + l.length) = YS at hsz
     simp only [Instr.checkKey, Sem.run_bind, run_underlying hu, Result.andThen_ok]
     rw [← Array.forIn_toList]
     have key : ∀ (fs : List Field) (o : Nat) (ls : List LC), flatFs (flatLs P k) o fs = some ls → o + ls.length ≤ YS.size →
       ((forIn fs PUnit.unit fun f r => do
        if f.name ≠ "_" then do
         Instr.checkKey e n f.type (← part f.type YS f.offset)
         pure PUnit.unit
         pure (ForInStep.yield PUnit.unit)
        else do
         pure PUnit.unit
         pure (ForInStep.yield PUnit.unit)) : Sem PUnit).run P w = .ok PUnit.unit w := by
      intro fs
      induction fs with
      | nil => intro o ls _ _; simp
      | cons f fs ih =>
       intro o ls hfs ho
       simp only [flatFs] at hfs
       split at hfs
       ·rename_i hnm
        obtain ⟨hnm, rfl⟩ := hnm
        split at hfs
        ·rename_i l1 hl1
         simp only [Option.map_eq_some_iff] at hfs
         obtain ⟨l2, hl2, rfl⟩ := hfs
         simp at ho
         obtain ⟨p, hp, hq⟩ := checkKey_flat k f.type l1 hl1 n (by omega) e YS f.offset (by omega)
         have := ih (f.offset + l1.length) l2 hl2 (by omega)
         simp only [List.forIn_cons, Sem.run_bind, Sem.run_ite, hnm, ne_eq, not_false_eq_true, if_true, hp, Result.andThen_ok, hq, Sem.run_pure]
         exact this
        ·simp at hfs
       ·simp at hfs
     have := key fs.toList 0 l hf (by omega)
     simp at this ⊢
     rw [this]; simp
    ·simp at h
   ·simp at h
  ·simp at h

theorem checkKey_ok {t : Nat} {kc : KC} (hk : keyT P t = some kc) {A : V} {x : Value} (hA : VRel g A x) (ho : keyOk kc A = true) (e : Bool) : (Instr.checkKey e 10000 t x).run P w = .ok () w := by
 unfold keyT at hk
 split at hk
 ·rename_i l h1 h2
  simp at hk; subst hk
  unfold keyOk at ho
  split at ho
  ·rename_i h; simp at h
  ·rename_i ls as h
   simp at h; subst h
   obtain ⟨vs, rfl, hl, h, _⟩ := agg_open hA
   simp at ho
   obtain ⟨p, hp, hq⟩ := checkKey_flat (P := P) (w := w) 100 t l h1 10000 (by omega) e vs 0 (by omega)
   obtain ⟨fs, hu, _, hsz⟩ := struct_underlying h2 h1
   rw [part_struct h2 hsz] at hp
   simp only [Result.ok.injEq, and_true] at hp
   have e1 : vs.extract 0 (0 + l.length) = vs := by rw [Nat.zero_add]; exact Array.extract_eq_self_of_le (by omega)
   rw [e1] at hp; subst hp; exact hq
  ·simp at ho
 ·rename_i c h1 h2
  simp at hk; subst hk
  exact checkKey_scalar (n := 9999) (flat_scalar h2 h1)
 ·simp at hk

def EntsRel (g : G) (es : List (V × V)) (ms : List MapEntry) : Prop :=
 ms.length = es.length ∧ ∀ i, i < es.length → ∃ e, ms[i]? = some e ∧ VRel g (es.getD i (.junk, .junk)).1 e.key ∧ VRel g (es.getD i (.junk, .junk)).2 e.val

def fres (ms : List MapEntry) (j : Nat) (r : Option (Nat × V)) (q : Option (Nat × Value)) (g : G) : Prop :=
 match r, q with
 | none, none => True
 | some (i, v), some (i', x) => i = i' ∧ j ≤ i ∧ VRel g v x ∧ ∃ e, ms[i - j]? = some e ∧ e.val = x
 | _, _ => False

theorem findAsking_ok {t : Nat} {kc : KC} (hk : keyT P t = some kc) {A : V} {x : Value} (hA : VRel g A x) : ∀ (es : List (V × V)) (ms : List MapEntry) (i : Nat), EntsRel g es ms →
  ∀ r, mfind kc A es i = some r → ∃ q, (Instr.findAsking t x ms i).run P w = .ok q w ∧ fres ms i r q g
 | [], ms, i, h, r, hr => by
  simp [mfind] at hr; subst hr
  have : ms = [] := List.eq_nil_of_length_eq_zero h.1
  subst this
  exact ⟨none, by simp [Instr.findAsking], trivial⟩
 | (a, v) :: es, ms, i, h, r, hr => by
  cases ms with
  | nil => have := h.1; simp at this
  | cons e ms =>
   obtain ⟨e', he', h1, h2⟩ := h.2 0 (by simp)
   simp at he' h1 h2; subst he'
   have ht : EntsRel g es ms := ⟨by have := h.1; simpa using this, fun j hj => by have := h.2 (j + 1) (by simpa using hj); simpa using this⟩
   simp only [mfind] at hr
   split at hr
   ·rename_i hq
    simp at hr; subst hr
    exact ⟨some (i, e.val), by simp [Instr.findAsking, keyEq_ok (P := P) (w := w) hk hA h1 hq], rfl, Nat.le_refl _, h2, e, by simp, rfl⟩
   ·rename_i hq
    obtain ⟨q, h3, h4⟩ := findAsking_ok hk hA es ms (i + 1) ht r hr
    refine ⟨q, by simp [Instr.findAsking, keyEq_ok (P := P) (w := w) hk hA h1 hq, h3], ?_⟩
    unfold fres at h4 ⊢
    cases r with
    | none => cases q with | none => trivial | some q => simp at h4
    | some r =>
     cases q with
     | none => simp at h4
     | some q =>
      obtain ⟨i1, v1⟩ := r
      obtain ⟨i2, x2⟩ := q
      simp only at h4 ⊢
      obtain ⟨h5, h6, h7, e2, h8, h9⟩ := h4
      refine ⟨h5, by omega, h7, e2, ?_, h9⟩
      rw [show i1 - i = (i1 - (i + 1)) + 1 by omega]; simpa using h8
   ·simp at hr

theorem findNow_ask {t : Nat} {c : LC} (hc : c.fits P t) {x : Value} {d : TypeDesc} (hd : P.underlying t = some d) : ∀ (ms : List MapEntry) (i : Nat) (r : Option (Nat × Value)), Instr.findNow d x ms i = some r →
  (Instr.findAsking t x ms i).run P w = .ok r w
 | [], i, r, h => by simp [Instr.findNow] at h; subst h; simp [Instr.findAsking]
 | e :: ms, i, r, h => by
  have key : ∀ b, Instr.sameNow d x e.key = some b → (Op.equal t x e.key).run P w = .ok b w := by
   generalize e.key = y
   intro b hb
   obtain ⟨d', equal_succ⟩ := equal_succ
   rw [equal_succ]
   unfold Instr.sameNow at hb
   split at hb
   ·split at hb
    ·rename_i hk; subst hk; simp at hb; subst hb; simp [Op.equalIn, run_underlying hd]
    ·simp at hb
   ·simp at hb; subst hb; simp [Op.equalIn, run_underlying hd]
   ·simp at hb; subst hb; simp [Op.equalIn, run_underlying hd]
   ·simp at hb
  simp only [Instr.findNow] at h
  split at h
  ·rename_i hq; simp at h; subst h; simp [Instr.findAsking, key _ hq]
  ·rename_i hq; simp [Instr.findAsking, key _ hq, findNow_ask hc hd ms (i + 1) r h]
  ·simp at h

theorem findKey_ok {t : Nat} {kc : KC} (hk : keyT P t = some kc) {A : V} {x : Value} (hA : VRel g A x) {es : List (V × V)} {ms : List MapEntry} (h : EntsRel g es ms) {r : Option (Nat × V)} (hr : mfind kc A es 0 = some r) :
  ∃ q, (Instr.findKey t x ms).run P w = .ok q w ∧ fres ms 0 r q g := by
 obtain ⟨q, h1, h2⟩ := findAsking_ok (P := P) (w := w) hk hA es ms 0 h r hr
 refine ⟨q, ?_, h2⟩
 have hd : ∃ d, P.underlying t = some d := by
  unfold keyT aggT at hk
  cases hu : P.underlying t with
  | some d => exact ⟨d, rfl⟩
  | none => simp [hu] at hk
 obtain ⟨d, hd⟩ := hd
 simp only [Instr.findKey, Sem.run_bind, run_underlying hd, Result.andThen_ok]
 cases hn : Instr.findNow d x ms 0 with
 | none => simpa using h1
 | some r' =>
  simp only [Sem.run_pure]
  have hx : (Instr.findAsking t x ms 0).run P w = .ok r' w := by
   unfold keyT at hk
   split at hk
   ·rename_i l e1 e2
    obtain ⟨fs, hu, _⟩ := struct_underlying e2 e1
    rw [hd] at hu; simp at hu; subst hu
    cases ms with
    | nil => simp [Instr.findNow] at hn; subst hn; simp [Instr.findAsking]
    | cons e ms => simp [Instr.findNow, Instr.sameNow] at hn
   ·rename_i c e1 e2
    exact findNow_ask (flat_scalar e2 e1) hd ms 0 r' hn
   ·simp at hk
  rw [hx] at h1; simpa using h1

end Go.Proofs.Ytmjnpfackanhlaa.AM
