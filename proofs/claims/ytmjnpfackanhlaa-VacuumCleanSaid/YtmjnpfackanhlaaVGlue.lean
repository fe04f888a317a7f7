/- Arguments of plain kinds: what a reading of the given world says of them, as abstract values. -/
import Derived.Test.YtmjnpfackanhlaaVLaw
import Derived.Test.YtmjnpfackanhlaaVTy
import Derived.ChangeArms
import Derived.ChangeShapes
import Derived.WideShapes
namespace Go.Proofs.Ytmjnpfackanhlaa.AM
open Go Go.RowKit
set_option linter.unusedVariables false

inductive AK where
 | int (k : IntKind) | bool | str

def AK.ok : AK → Value → Prop
 | .int k, v => ∃ n, v = .int k n ∧ (Lit.int k n).wf = true
 | .bool, v => ∃ b, v = .bool b
 | .str, v => ∃ s : ByteArray, v = .string s ∧ s.size ≤ maxLen

def okCs : List AK → List Value → Prop
 | [], [] => True
 | k :: ks, c :: cs => k.ok c ∧ okCs ks cs
 | _, _ => False

theorem okCs.append : ∀ {a b : List AK} {x y : List Value}, okCs a x → okCs b y → okCs (a ++ b) (x ++ y)
 | [], _, [], _, _, h => h
 | [], _, _ :: _, _, h, _ => h.elim
 | _ :: _, _, [], _, h, _ => h.elim
 | _ :: _, _, _ :: _, _, h, h' => ⟨h.1, h.2.append h'⟩
theorem okCs.length : ∀ {a : List AK} {x : List Value}, okCs a x → a.length = x.length
 | [], [], _ => rfl
 | [], _ :: _, h => h.elim
 | _ :: _, [], h => h.elim
 | _ :: _, _ :: _, h => by simp [h.2.length]

def toV : Value → V
 | .bool b => .bool b
 | .int k n => .int k n
 | .string s => .str s
 | _ => .junk
theorem AK.ok.rel {g : G} {k : AK} {c : Value} (h : k.ok c) : VRel g (toV c) c ∧ c.oneCell' = true := by
 cases k with
 | int k => obtain ⟨n, rfl, _⟩ := h; exact ⟨.int _ _, rfl⟩
 | bool => obtain ⟨b, rfl⟩ := h; exact ⟨.bool _, rfl⟩
 | str => obtain ⟨s, rfl, _⟩ := h; exact ⟨.str _, rfl⟩
theorem okCs.rel {g : G} : ∀ {ks : List AK} {cs : List Value}, okCs ks cs → ∀ j, j < cs.length → VRel g ((cs.map toV).getD j .junk) (cs.getD j undef) ∧ (cs.getD j undef).oneCell' = true
 | [], [], _, j, hj => by simp at hj
 | [], _ :: _, h, _, _ => h.elim
 | _ :: _, [], h, _, _ => h.elim
 | k :: ks, c :: cs, h, 0, hj => h.1.rel
 | k :: ks, c :: cs, h, j + 1, hj => by simpa using h.2.rel j (by simpa using hj)

def fieldsOf (F : TypeId → Option (List AK)) (P : Program) : List Field → Nat → Option (List AK)
 | [], _ => some []
 | f :: fs, o => if f.offset = o then
   match F f.type with
   | some ks => if P.cellsOf f.type = ks.length then
     match fieldsOf F P fs (o + ks.length) with
     | some r => some (ks ++ r)
     | none => none
    else none
   | none => none
  else none
def kindsOf (P : Program) : Nat → TypeId → Option (List AK)
 | 0, _ => none
 | d + 1, t => match P.underlying t with
  | some .bool => some [.bool]
  | some (.int k) => some [.int k]
  | some .string => some [.str]
  | some (.struct fs) => match fieldsOf (kindsOf P d) P fs.toList 0 with
   | some ks => if P.cellsOf t = ks.length then some ks else none
   | none => none
  | _ => none

section
variable {H : Type} {enc : TypeId × Value → H} {P : Program} {w : World} {base : Nat} {spare : Nat → Bool} {held : Bool}
open Go.ChangeShapes

theorem fields_ok {F : TypeId → Option (List AK)} {n : Nat} {cs : List Value}
  (hF : ∀ t c y ks, F t = some ks → DataW.trod enc P w base spare held n t c = some y → okCs ks c) :
  ∀ (fs : List Field) (o : Nat) (ks : List AK), fieldsOf F P fs o = some ks →
   (∀ f ∈ fs, ∃ y, DataW.trod enc P w base spare held n f.type ((cs.drop f.offset).take (P.cellsOf f.type)) = some y) → okCs ks ((cs.drop o).take ks.length)
 | [], o, ks, h, _ => by simp only [fieldsOf, Option.some.injEq] at h; subst h; simp [okCs]
 | f :: fs, o, ks, h, hy => by
  simp only [fieldsOf] at h
  split at h
  ·rename_i ho
   split at h
   ·rename_i k1 hk1
    split at h
    ·rename_i hc
     split at h
     ·rename_i r hr
      simp only [Option.some.injEq] at h
      subst h
      obtain ⟨y, hy1⟩ := hy f (.head _)
      have a := hF _ _ _ _ hk1 hy1
      have b := fields_ok hF fs _ r hr (fun f' hf' => hy f' (.tail _ hf'))
      rw [hc, ho] at a
      rw [List.length_append, List.take_add, List.drop_drop]
      exact a.append b
     ·cases h
    ·cases h
   ·cases h
  ·cases h

theorem kinds_ok : ∀ (d : Nat) (fuel : Nat) (t : TypeId) (cs : List Value) (y : DataW H × List MemPlace) (ks : List AK), kindsOf P d t = some ks →
  DataW.trod enc P w base spare held fuel t cs = some y → okCs ks cs
 | 0, _, _, _, _, _, h, _ => by simp [kindsOf] at h
 | d + 1, fuel, t, cs, y, ks, h, hy => by
  simp only [kindsOf] at h
  split at h
  ·rename_i hu
   simp only [Option.some.injEq] at h; subst h
   obtain ⟨b, rfl, _⟩ := DataW.trod_bool hu hy
   exact ⟨⟨b, rfl⟩, trivial⟩
  ·rename_i k hu
   simp only [Option.some.injEq] at h; subst h
   obtain ⟨n, rfl, _, hw⟩ := DataW.trod_int hu hy
   exact ⟨⟨n, rfl, hw⟩, trivial⟩
  ·rename_i hu
   simp only [Option.some.injEq] at h; subst h
   obtain ⟨s, rfl, _, hs⟩ := DataW.trod_string hu hy
   exact ⟨⟨s, rfl, hs⟩, trivial⟩
  ·rename_i fs hu
   split at h
   ·rename_i k1 hk1
    split at h
    ·rename_i hc
     simp only [Option.some.injEq] at h; subst h
     obtain ⟨xs, n, rfl, _, hl, hxl, hd⟩ := DataW.trod_struct hu hy
     have a := fields_ok (cs := cs) (fun t c y ks h1 h2 => kinds_ok d n t c y ks h1 h2) fs.toList 0 k1 hk1 (fun f hf => by
      obtain ⟨i, hi, e⟩ := List.getElem_of_mem hf
      have hi' : i < fs.size := by simpa using hi
      have hi2 : i < xs.length := by omega
      refine ⟨xs[i], ?_⟩
      have := hd i f (by simp at e; simp [hi', e])
      rw [this]; simp [hi2])
     rw [List.drop_zero, ← hc, ← hl, List.take_length] at a
     exact a
    ·cases h
   ·cases h
  ·cases h

theorem mapM_get {α β : Type} (f : α → Option β) : ∀ (l : List α) (r : List β), l.mapM f = some r → r.length = l.length ∧ ∀ i (h : i < l.length), f l[i] = r[i]?
 | [], r, h => by simp at h; subst h; simp
 | a :: l, r, h => by
  rw [List.mapM_cons] at h
  simp only [Option.bind_eq_bind, Option.bind_eq_some_iff, Option.pure_def, Option.some.injEq] at h
  obtain ⟨b, hb, r', hr, rfl⟩ := h
  obtain ⟨h1, h2⟩ := mapM_get f l r' hr
  refine ⟨by simp [h1], fun i hi => ?_⟩
  cases i with
  | zero => simpa using hb
  | succ i => simpa using h2 i (by simpa using hi)
theorem cells_get {a : Addr} {n : Nat} {cs : List Value} (h : w.cells? base a n = some cs) : cs.length = n ∧ ∀ j, j < n → w.cell? (a.add j) = cs[j]? := by
 unfold World.cells? at h
 split at h
 ·obtain ⟨h1, h2⟩ := mapM_get _ _ _ h
  refine ⟨by simpa using h1, fun j hj => ?_⟩
  have := h2 j (by simpa using hj)
  rw [List.getElem_range] at this
  exact this
 ·cases h
theorem add_none (b o n : Nat) : Addr.add ⟨b, o, none⟩ n = ⟨b, o + n, none⟩ := by
 unfold Addr.add; split
 ·rename_i h; subst h; rfl
 ·rfl

def RowsOk (ks : List AK) (rows : List (List V)) : Prop := ∀ r ∈ rows, ∃ cs, okCs ks cs ∧ r = cs.map toV

theorem slice_rel {t e : TypeId} {ks : List AK} {d fuel : Nat} {v : Value} {y : DataW H × List MemPlace} (ht : P.underlying t = some (.slice e)) (hk : kindsOf P d e = some ks) (hc : P.cellsOf e = ks.length) (h0 : 0 < ks.length)
    (hy : DataW.trod enc P w base spare held fuel t [v] = some y) (hs : ∀ a l c, v = .slice (some a) l c → a.spot = none) :
    ∃ rows, VRel (G.all w) (.sl .unk ks.length rows []) v ∧ RowsOk ks rows ∧ rows.length ≤ maxLen := by
  rcases DataW.trod_slice ht hy with ⟨h, _⟩ | ⟨a, len, cap, elems, rest, n, _, h, _, _, hl, hm, hlen, hel, _, _⟩
  · simp only [List.cons.injEq, and_true] at h; subst h
    exact ⟨[], .snil _ _ (.inr rfl), (by intro r hr; cases hr), Nat.zero_le _⟩
  · simp only [List.cons.injEq, and_true] at h; subst h
    have hsp := hs a len cap rfl
    obtain ⟨b, o, s⟩ := a
    simp only at hsp; subst hsp
    have hall : ∀ i, ∃ cs : List Value, i < len → okCs ks cs ∧ ∀ j, j < ks.length → w.cell? ⟨b, o + i * ks.length + j, none⟩ = some (cs.getD j undef) := by
      intro i
      by_cases hi : i < len
      · have := hel i hi
        have hi' : i < elems.length := by omega
        rw [List.getElem?_eq_getElem hi', Option.bind_eq_some_iff] at this
        obtain ⟨cs, h1, h2⟩ := this
        refine ⟨cs, fun _ => ?_⟩
        have hok := kinds_ok d n e cs _ ks hk h2
        refine ⟨hok, fun j hj => ?_⟩
        obtain ⟨h3, h4⟩ := cells_get h1
        have := h4 j (by omega)
        rw [add_none, add_none, hc] at this
        rw [this]
        have hj' : j < cs.length := by omega
        simp [hj']
      · exact ⟨[], fun h => absurd h hi⟩
    obtain ⟨f, hf⟩ := Classical.axiomOfChoice hall
    refine ⟨(List.range len).map (fun i => (f i).map toV), ?_, ?_, by simp; omega⟩
    · have := VRel.sl (g := G.all w) .unk ks.length ((List.range len).map (fun i => (f i).map toV)) [] b o cap (fun i j => (f i).getD j undef) (by simp) (by simp) h0 (by simpa using hl)
        (fun i hi => by
          simp at hi
          have := (hf i hi).1.length
          simp [hi, this])
        (fun i j hi hj => by
          simp at hi
          have h1 := (hf i hi).2 j hj
          have h2 := ((hf i hi).1.rel (g := G.all w) j (by have := (hf i hi).1.length; omega)).2
          exact G.all_imm h1 h2)
        (fun i j hi hj => by
          simp at hi
          have h2 := ((hf i hi).1.rel (g := G.all w) j (by have := (hf i hi).1.length; omega)).1
          simpa [hi] using h2)
      simpa using this
    · intro r hr
      simp only [List.mem_map, List.mem_range] at hr
      obtain ⟨i, hi, rfl⟩ := hr
      exact ⟨f i, (hf i hi).1, rfl⟩

theorem rows_map {α : Type} {c : α → List V} {Q : α → Prop} {ks : List AK} (h : ∀ cs, okCs ks cs → ∃ x, cs.map toV = c x ∧ Q x) : ∀ {rows : List (List V)}, RowsOk ks rows → ∃ l : List α, rows = l.map c ∧ ∀ x ∈ l, Q x
 | [], _ => ⟨[], rfl, by intro x hx; cases hx⟩
 | r :: rows, hr => by
  obtain ⟨cs, h1, rfl⟩ := hr _ (.head _)
  obtain ⟨x, hx, hq⟩ := h cs h1
  obtain ⟨l, rfl, hl⟩ := rows_map h (fun r hr' => hr r (.tail _ hr'))
  exact ⟨x :: l, by simp [hx], by intro y hy; cases hy with | head => exact hq | tail _ hy => exact hl y hy⟩
end
end Go.Proofs.Ytmjnpfackanhlaa.AM
