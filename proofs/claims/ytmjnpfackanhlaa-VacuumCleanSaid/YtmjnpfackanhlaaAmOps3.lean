/- The abstract layer: maps looked up, cuts, structs made; all reading operations together. -/
import Derived.Test.YtmjnpfackanhlaaAmOps2
namespace Go.Proofs.Ytmjnpfackanhlaa.AM
open Go Go.RowKit
set_option linter.unusedSimpArgs false
set_option linter.unusedVariables false
variable {P : Program} {g : G} {st : St} {w : World}

theorem entries_rel (hs : Reads P g st w) {X : V} {x : Value} (hX : VRel g X x) {es : List (V × V)} (he : st.entries X = some es) :
  (x = .map none ∧ es = []) ∨ ∃ b ms clk, x = .map (some b) ∧ w.heap[b]? = some (.map ms clk) ∧ EntsRel g es ms.toList := by
 cases hX with
 | nilm => simp [St.entries] at he; exact .inl ⟨rfl, he⟩
 | map id ver b L hL hb =>
  simp only [St.entries] at he
  split at he
  ·rename_i ep es' ho
   simp at he; subst he
   obtain ⟨b', ms, clk, hb', hm, hsz, _, _, _, _, _, hr⟩ := hs.obj _ _ _ _ ho hL
   rw [hb] at hb'; cases hb'
   refine .inr ⟨b, ms, clk, rfl, hm, by simpa using hsz, fun i hi => ?_⟩
   obtain ⟨e, h1, h2, h3, _⟩ := hr i hi
   exact ⟨e, by simpa using h1, h2, h3⟩
  ·simp at he
 | _ => simp [St.entries] at he

theorem run_getMap {b : Nat} {ms : Array MapEntry} {clk : Nat} (h : w.heap[b]? = some (.map ms clk)) : (getObj b).run P w = .ok (.map ms clk) w := by
 simp [getObj, Sem.run, h]

theorem lookup_ok (hs : Reads P g st w) {t kt e : Nat} (hu : P.underlying t = some (.map kt e)) {kc : KC} (hk : keyT P kt = some kc) {z : V} (hz : zeroV P e = some z) {M K : V} {m k : Value} (hM : VRel g M m) (hK : VRel g K k)
  {es : List (V × V)} (he : st.entries M = some es) {r : Option (Nat × V)} (hr : mfindK kc K es = some r) (ok : Bool) :
  ∃ y, (Instr.lookup t m k ok).run P w = .ok y w ∧ VRel g (if ok then .tup [foundV z r, .bool r.isSome] else foundV z r) y := by
 unfold mfindK at hr
 split at hr
 ·rename_i ho
  have hck : ∀ b, (Instr.checkKey b 10000 kt k).run P w = .ok () w := fun b => checkKey_ok hk hK ho b
  unfold zeroV at hz
  cases hzz : (P.info? e).bind (·.zero) with
  | none => simp [hzz] at hz
  | some zz =>
   simp [hzz] at hz
   have hzr := constV_rel (g := g) hz
   have hzrun : (zeroValue e).run P w = .ok zz w := by
    cases hi : P.info? e with
    | none => simp [hi] at hzz
    | some i => simp [hi] at hzz; simp [zeroValue, run_ti hi, hzz]
   have fin : ∀ (v : V) (x : Value) (b : Bool), VRel g v x → VRel g (if ok then .tup [v, .bool b] else v) (if ok then .tuple #[x, .bool b] else x) := by
    intro v x b h
    cases ok with
    | true =>
     refine .tup _ _ rfl (fun i hi => ?_)
     match i, hi with
     | 0, _ => exact h
     | 1, _ => exact .bool b
     | i + 2, hi => exact absurd hi (by simp)
    | false => exact h
   rcases entries_rel hs hM he with ⟨rfl, rfl⟩ | ⟨b, ms, clk, rfl, hm, hent⟩
   ·simp [mfind] at hr; subst hr
    have hfk : (Instr.findKey kt k []).run P w = .ok none w := by
     obtain ⟨q, h1, h2⟩ := findKey_ok (P := P) (w := w) (g := g) hk hK (es := []) (ms := []) ⟨rfl, fun i hi => by simp at hi⟩ (r := none) rfl
     cases q with
     | none => exact h1
     | some q => simp [fres] at h2
    refine ⟨_, ?_, fin z zz false hzr⟩
    simp [Instr.lookup, run_underlying hu, hck, hfk, hzrun]
   ·obtain ⟨q, h1, h2⟩ := findKey_ok (P := P) (w := w) hk hK hent hr
    cases r with
    | none =>
     cases q with
     | some q => simp [fres] at h2
     | none =>
      refine ⟨_, ?_, fin z zz false hzr⟩
      simp [Instr.lookup, run_underlying hu, run_getMap hm, hck, h1, hzrun]
    | some r =>
     cases q with
     | none => simp [fres] at h2
     | some q =>
      obtain ⟨i, v⟩ := r
      obtain ⟨i', x⟩ := q
      simp [fres] at h2
      refine ⟨_, ?_, fin v x true h2.2.1⟩
      simp [Instr.lookup, run_underlying hu, run_getMap hm, hck, h1]
 ·simp at hr

/-! ### cuts -/
def ORelV (g : G) : Option V → Option Value → Prop
 | none, none => True
 | some a, some b => VRel g a b
 | _, _ => False

theorem resXo_rel {n : Nat} {fr : Fr} {a : Act} (hf : FrRel g n fr a.tmps) {x : Option Operand} {y : Option X} (h : resXo x = some y) : ORelV g (y.map (·.ev fr)) (x.map a.eval) := by
 cases x with
 | none => simp [resXo] at h; subst h; trivial
 | some x => simp [resXo] at h; obtain ⟨z, hz, rfl⟩ := h; exact resX_rel hf hz

theorem run_sliceBound {k : IntKind} {n : Int} {y : Nat} {code : BoundsCode} (h : 0 ≤ n ∧ n ≤ y) : (Instr.sliceBound (.int k n) y code).run P w = .ok n.toNat w := by
 simp [Instr.sliceBound, asIntOf, h]

theorem run_bounds {is : Bool} {len top cap : Nat} {lo hi : Option V} {low high : Option Value} (hlo : ORelV g lo low) (hhi : ORelV g hi high) {l h : Nat} (hb : bounds len top lo hi = some (l, h)) (htop : top ≤ cap) :
    (Instr.sliceBounds is len cap low high none).run P w = .ok (l, h, cap) w ∧ l ≤ h ∧ h ≤ top := by
  unfold bounds at hb
  split at hb
  · rename_i hh ll e1 e2
    split at hb
    · rename_i hc
      simp at hb; obtain ⟨rfl, rfl⟩ := hb
      refine ⟨?_, by omega, by omega⟩
      have hH : ∃ kk, high = none ∧ hh = len ∨ high = some (.int kk hh) := by
        cases hi with
        | none => cases high with | none => simp at e1; exact ⟨default, .inl ⟨rfl, e1.symm⟩⟩ | some _ => exact absurd hhi (by simp [ORelV])
        | some v =>
          cases high with
          | none => exact absurd hhi (by simp [ORelV])
          | some x => obtain ⟨k, rfl⟩ := asInt_open hhi e1; exact ⟨k, .inr rfl⟩
      have hL : ∃ kk, low = none ∧ ll = 0 ∨ low = some (.int kk ll) := by
        cases lo with
        | none => cases low with | none => simp at e2; exact ⟨default, .inl ⟨rfl, e2.symm⟩⟩ | some _ => exact absurd hlo (by simp [ORelV])
        | some v =>
          cases low with
          | none => exact absurd hlo (by simp [ORelV])
          | some x => obtain ⟨k, rfl⟩ := asInt_open hlo e2; exact ⟨k, .inr rfl⟩
      have h1 : (0 : Int) ≤ hh ∧ hh ≤ (cap : Nat) := by omega
      have h2 : (0 : Int) ≤ ll ∧ ll ≤ (hh.toNat : Nat) := by omega
      obtain ⟨k1, hH⟩ := hH
      obtain ⟨k2, hL⟩ := hL
      rcases hH with ⟨rfl, rfl⟩ | rfl <;> rcases hL with ⟨rfl, rfl⟩ | rfl
      · simp [Instr.sliceBounds]
      · have h2' : (0 : Int) ≤ ll ∧ ll ≤ (len : Nat) := by omega
        simp [Instr.sliceBounds, run_sliceBound h2']
      · simp [Instr.sliceBounds, run_sliceBound h1]
      · simp only [Instr.sliceBounds, Sem.run_bind, Sem.run_pure, Result.andThen_ok, run_sliceBound h1, run_sliceBound h2]
    · simp at hb
  · simp at hb

theorem run_boundsM {is : Bool} {len cap : Nat} {km : IntKind} {mm : Int} {lo hi : Option V} {low : Option Value} {hv : V} {hx : Value} (hlo : ORelV g lo low) (hhi : VRel g hv hx) (hm : 0 ≤ mm ∧ mm ≤ (cap : Nat)) {l h : Nat}
  (hb : bounds len mm.toNat lo (some hv) = some (l, h)) :
  (Instr.sliceBounds is len cap low (some hx) (some (.int km mm))).run P w = .ok (l, h, mm.toNat) w ∧ l ≤ h ∧ h ≤ mm.toNat := by
 unfold bounds at hb
 split at hb
 ·rename_i hh ll e1 e2
  split at hb
  ·rename_i hc
   simp at hb; obtain ⟨rfl, rfl⟩ := hb
   refine ⟨?_, by omega, by omega⟩
   obtain ⟨k1, rfl⟩ := asInt_open hhi e1
   have hL : ∃ kk, low = none ∧ ll = 0 ∨ low = some (.int kk ll) := by
    cases lo with
    | none => cases low with | none => simp at e2; exact ⟨default, .inl ⟨rfl, e2.symm⟩⟩ | some _ => exact absurd hlo (by simp [ORelV])
    | some v =>
     cases low with
     | none => exact absurd hlo (by simp [ORelV])
     | some x => obtain ⟨k, rfl⟩ := asInt_open hlo e2; exact ⟨k, .inr rfl⟩
   have h1 : (0 : Int) ≤ hh ∧ hh ≤ (mm.toNat : Nat) := by omega
   have h2 : (0 : Int) ≤ ll ∧ ll ≤ (hh.toNat : Nat) := by omega
   obtain ⟨k2, hL⟩ := hL
   rcases hL with ⟨rfl, rfl⟩ | rfl
   ·simp only [Instr.sliceBounds, Sem.run_bind, Sem.run_pure, Result.andThen_ok, run_sliceBound h1, run_sliceBound hm]; rfl
   ·simp only [Instr.sliceBounds, Sem.run_bind, Sem.run_pure, Result.andThen_ok, run_sliceBound h1, run_sliceBound h2, run_sliceBound hm]
  ·simp at hb
 ·simp at hb

theorem parts_join {α : Type} (xs : List α) (l h m : Nat) (hl : l ≤ h) (hm : h ≤ m) : ((xs.drop l).take (h - l)) ++ ((xs.drop h).take (m - h)) = (xs.drop l).take (m - l) := by
 have e : xs.drop h = (xs.drop l).drop (h - l) := by rw [List.drop_drop]; congr 1; omega
 rw [e, show m - l = (h - l) + (m - h) by omega, List.take_add]

theorem sl_sub {k' : SK} {sz : Nat} {es sp es' sp' : List (List V)} {b o cap' l : Nat} {vals : Nat → Nat → Value} (h0 : 0 < sz) (he : ∀ i, i < (es ++ sp).length → ((es ++ sp).getD i []).length = sz)
  (hi : ∀ i j, i < (es ++ sp).length → j < sz → g.imm b (o + i * sz + j) = some (vals i j))
  (hr : ∀ i j, i < (es ++ sp).length → j < sz → VRel g (((es ++ sp).getD i []).getD j .junk) (vals i j))
  (hk : k' ≠ .nil) (hk0 : k' = .cap0 → cap' = 0) (n : Nat) (hj : es' ++ sp' = ((es ++ sp).drop l).take n) (hc : (es' ++ sp').length ≤ cap') {a : Addr} (ha : (es' ++ sp').length ≠ 0 → a = ⟨b, o + l * sz, none⟩) (hsp : a.spot = none) :
  VRel g (.sl k' sz es' sp') (.slice (some a) es'.length cap') := by
 obtain ⟨b', o', s'⟩ := a
 simp at hsp; subst hsp
 have hget : ∀ i, i < (es' ++ sp').length → l + i < (es ++ sp).length ∧ (es' ++ sp').getD i [] = (es ++ sp).getD (l + i) [] := by
  intro i hi'
  rw [hj] at hi' ⊢
  simp only [List.length_take, List.length_drop] at hi'
  refine ⟨by omega, ?_⟩
  simp only [List.getD, List.getElem?_take, List.getElem?_drop]
  rw [if_pos (by omega)]
 refine .sl k' sz es' sp' b' o' cap' (fun i j => vals (l + i) j) hk hk0 h0 hc (fun i h => ?_) (fun i j h h2 => ?_) (fun i j h h2 => ?_)
 ·obtain ⟨h1, h2⟩ := hget i h; rw [h2]; exact he _ h1
 ·obtain ⟨h1, _⟩ := hget i h
  have := ha (by omega)
  simp at this; obtain ⟨rfl, rfl⟩ := this
  have := hi (l + i) j h1 h2
  rw [Nat.add_mul] at this
  rw [← this]; congr 1; omega
 ·obtain ⟨h1, h3⟩ := hget i h; rw [h3]; exact hr _ _ h1 h2

theorem sl_open {k : SK} {sz : Nat} {es sp : List (List V)} {x : Value} (h : VRel g (.sl k sz es sp) x) :
  (x = .slice none 0 0 ∧ es = [] ∧ sp = [] ∧ (k = .nil ∨ k = .unk)) ∨ (∃ (a : Addr) (cap : Nat), x = .slice (some a) 0 cap ∧ es = [] ∧ sp = [] ∧ k ≠ .nil ∧ (k = .cap0 → cap = 0)) ∨
  ∃ (b o cap : Nat) (vals : Nat → Nat → Value), x = .slice (some ⟨b, o, none⟩) es.length cap ∧ k ≠ .nil ∧ (k = .cap0 → cap = 0) ∧ 0 < sz ∧ (es ++ sp).length ≤ cap ∧ (∀ i, i < (es ++ sp).length → ((es ++ sp).getD i []).length = sz) ∧
   (∀ i j, i < (es ++ sp).length → j < sz → g.imm b (o + i * sz + j) = some (vals i j)) ∧ (∀ i j, i < (es ++ sp).length → j < sz → VRel g (((es ++ sp).getD i []).getD j .junk) (vals i j)) := by
 generalize hv : V.sl k sz es sp = v at h
 cases h with
 | sl k' sz' es' sp' b o cap vals hk hk0 hsz hc he hi hr => cases hv; exact .inr (.inr ⟨b, o, cap, vals, rfl, hk, hk0, hsz, hc, he, hi, hr⟩)
 | semp k' sz' a cap hk hk0 => cases hv; exact .inr (.inl ⟨a, cap, rfl, rfl, rfl, hk, hk0⟩)
 | snil k' sz' hk => cases hv; exact .inl ⟨rfl, rfl, rfl, hk⟩
 | _ => cases hv

theorem addr_add_spot (a : Addr) (n : Nat) (h : a.spot = none) : (a.add n).spot = none := by unfold Addr.add; split <;> simp_all

theorem bounds_lo {len top l h : Nat} {lo hi : Option V} (h0 : lo.isNone = true) (hb : bounds len top lo hi = some (l, h)) : l = 0 := by
 cases lo with
 | some _ => simp at h0
 | none =>
  unfold bounds at hb
  split at hb
  ·rename_i a b c e
   simp only [Option.some.injEq] at e
   subst e
   split at hb
   ·simp only [Option.some.injEq, Prod.mk.injEq] at hb
    rw [← hb.1]; rfl
   ·cases hb
  ·cases hb
theorem slice_ok (hs : Reads P g st w) {t e sz : Nat} (hu : P.underlying t = some (.slice e)) (hsz : sizeT P e = some sz) {X : V} {x : Value} (hX : VRel g X x) {lo hi mx : Option V} {low high max : Option Value}
    (hlo : ORelV g lo low) (hhi : ORelV g hi high) (hmx : ORelV g mx max) {v : V} (hv : sliceV st sz X lo hi mx = some v) : ∃ y, (Instr.slice t x low high max).run P w = .ok y w ∧ VRel g v y := by
  cases X with
  | sl k sz' es sp =>
    simp only [sliceV] at hv
    split at hv
    · rename_i hse
      cases mx with
      | none =>
        cases max with
        | some _ => exact absurd hmx (by simp [ORelV])
        | none =>
          simp only [Option.map_eq_some_iff] at hv
          obtain ⟨⟨l, h⟩, hb, rfl⟩ := hv
          rcases sl_open hX with ⟨rfl, rfl, rfl, hk⟩ | ⟨a, cap, rfl, rfl, rfl, hk, hk0⟩ | ⟨b, o, cap, vals, rfl, hk, hk0, h0, hc, he, hi', hr⟩
          · obtain ⟨hrun, h1, h2⟩ := run_bounds (P := P) (w := w) (is := true) (cap := 0) hlo hhi hb (by simp)
            simp at h2; subst h2
            obtain rfl : l = 0 := by omega
            simp at hrun
            refine ⟨.slice none 0 0, by simp [Instr.slice, run_underlying hu, run_sizeT hsz, hrun], ?_⟩
            rcases hk with rfl | rfl
            · exact .snil _ _ (.inl rfl)
            · exact .snil _ _ (.inr rfl)
          · obtain ⟨hrun, h1, h2⟩ := run_bounds (P := P) (w := w) (is := true) (cap := cap) hlo hhi hb (by simp)
            simp at h2; subst h2
            obtain rfl : l = 0 := by omega
            simp at hrun
            refine ⟨.slice (some (if cap = 0 then a else a.add 0)) 0 cap, ?_, ?_⟩
            · simp only [Instr.slice, Sem.run_bind, run_underlying hu, Result.andThen_ok, hrun, run_sizeT hsz, Sem.run_pure]
              split <;> simp
            · exact .semp _ _ _ _ (by simp only [hk, if_false]; split <;> simp) (by simp only [hk, if_false]; split <;> simp)
          · simp only [List.length_append] at hc
            obtain ⟨hrun, h1, h2⟩ := run_bounds (P := P) (w := w) (is := true) hlo hhi hb hc
            have hlen : (((es ++ sp).drop l).take (h - l)).length = h - l := by simp; omega
            refine ⟨.slice (some (if cap = l then ⟨b, o, none⟩ else (⟨b, o, none⟩ : Addr).add (l * sz))) (h - l) (cap - l), ?_, ?_⟩
            · simp only [Instr.slice, Sem.run_bind, run_underlying hu, Result.andThen_ok, hrun, run_sizeT hsz, Sem.run_pure]
              split <;> simp
            · have := sl_sub (g := g) (k' := if k = .nil then .nil else if k = .unk ∧ es.length + sp.length = 0 then .unk else .nn) (es' := ((es ++ sp).drop l).take (h - l)) (sp' := (es ++ sp).drop h) (cap' := cap - l)
                (a := if cap = l then ⟨b, o, none⟩ else (⟨b, o, none⟩ : Addr).add (l * sz)) (l := l) h0 he hi' hr (by simp only [hk, if_false]; split <;> simp) (by simp only [hk, if_false]; split <;> simp) ((es ++ sp).length - l)
                (by have := parts_join (es ++ sp) l h (es ++ sp).length h1 (by simp; omega)
                    rw [← this]; congr 1; rw [List.take_of_length_le (by simp)]) (by simp; omega)
                (by intro hne
                    have hne' : cap ≠ l := by intro e; apply hne; simp; omega
                    rw [if_neg hne', add_zero_addr]
                    have : sz' = sz := by
                      simp only [Bool.or_eq_true, Bool.and_eq_true, List.isEmpty_iff, beq_iff_eq] at hse
                      rcases hse with ⟨rfl, rfl⟩ | h
                      · simp at hne
                      · exact h
                    rw [this]) (by split <;> simp [addr_add_spot])
              rw [hlen] at this; exact this
      | some m =>
        cases max with
        | none => exact absurd hmx (by simp [ORelV])
        | some mv =>
          simp only at hv
          split at hv
          · rename_i mm hmm
            obtain ⟨km, rfl⟩ := asInt_open hmx hmm
            split at hv
            · rename_i hm
              split at hv
              · rename_i l h hb
                split at hv
                · rename_i hsome
                  obtain rfl := Option.some.inj hv
                  cases hi with
                  | none => simp at hsome
                  | some hv' =>
                    cases high with
                    | none => exact absurd hhi (by simp [ORelV])
                    | some hx =>
                      rcases sl_open hX with ⟨rfl, rfl, rfl, hk⟩ | ⟨a, cap, rfl, rfl, rfl, hk, hk0⟩ | ⟨b, o, cap, vals, rfl, hk, hk0, h0, hc, he, hi', hr⟩
                      · simp at hm
                        obtain rfl : mm = 0 := by omega
                        obtain ⟨hrun, h1, h2⟩ := run_boundsM (P := P) (w := w) (is := true) (km := km) (cap := 0) (hi := some hv') hlo hhi (by omega) hb
                        simp at h2; subst h2
                        obtain rfl : l = 0 := by omega
                        simp at hrun
                        refine ⟨.slice none 0 0, by simp [Instr.slice, run_underlying hu, run_sizeT hsz, hrun], ?_⟩
                        rcases hk with rfl | rfl
                        · exact .snil _ _ (.inl rfl)
                        · exact .snil _ _ (.inr rfl)
                      · simp at hm
                        obtain rfl : mm = 0 := by omega
                        obtain ⟨hrun, h1, h2⟩ := run_boundsM (P := P) (w := w) (is := true) (km := km) (cap := cap) (hi := some hv') hlo hhi (by omega) hb
                        simp at h2; subst h2
                        obtain rfl : l = 0 := by omega
                        simp at hrun
                        refine ⟨.slice (some a) 0 0, by simp [Instr.slice, run_underlying hu, run_sizeT hsz, hrun], ?_⟩
                        exact .semp _ _ _ _ (by simp only [hk, if_false]; split <;> (try split) <;> simp) (by simp)
                      · simp only [List.length_append] at hc
                        obtain ⟨hrun, h1, h2⟩ := run_boundsM (P := P) (w := w) (is := true) (km := km) (cap := cap) (hi := some hv') hlo hhi (by omega) hb
                        have hlen : (((es ++ sp).drop l).take (h - l)).length = h - l := by simp; omega
                        refine ⟨.slice (some (if mm.toNat = l then ⟨b, o, none⟩ else (⟨b, o, none⟩ : Addr).add (l * sz))) (h - l) (mm.toNat - l), ?_, ?_⟩
                        · simp only [Instr.slice, Sem.run_bind, run_underlying hu, Result.andThen_ok, hrun, run_sizeT hsz, Sem.run_pure]
                          split <;> simp
                        · have := sl_sub (g := g) (k' := if k = .nil then .nil else if k = .unk ∧ es.length + sp.length = 0 then .unk else if mm.toNat = l then .cap0 else .nn) (es' := ((es ++ sp).drop l).take (h - l)) (sp' := ((es ++ sp).drop h).take (mm.toNat - h)) (cap' := mm.toNat - l)
                            (a := if mm.toNat = l then ⟨b, o, none⟩ else (⟨b, o, none⟩ : Addr).add (l * sz)) (l := l) h0 he hi' hr (by simp only [hk, if_false]; split <;> (try split) <;> simp)
                            (by simp only [hk, if_false]; split <;> (try split) <;> simp; omega) (mm.toNat - l)
                            (parts_join (es ++ sp) l h mm.toNat h1 h2) (by simp; omega)
                            (by intro hne
                                have hne' : mm.toNat ≠ l := by intro e; apply hne; simp; omega
                                rw [if_neg hne', add_zero_addr]
                                have : sz' = sz := by
                                  simp only [Bool.or_eq_true, Bool.and_eq_true, List.isEmpty_iff, beq_iff_eq] at hse
                                  rcases hse with ⟨rfl, rfl⟩ | h
                                  · simp at hne
                                  · exact h
                                rw [this]) (by split <;> simp [addr_add_spot])
                          rw [hlen] at this; exact this
                · simp at hv
              · simp at hv
            · simp at hv
          · simp at hv
    · simp at hv
  | msl id ver off len =>
    simp only [sliceV] at hv
    split at hv
    · rename_i sz' es ho
      split at hv
      · rename_i hc
        obtain ⟨rfl, hle⟩ := hc
        cases mx with
        | some m =>
          cases max with
          | none => exact absurd hmx (by simp [ORelV])
          | some mv =>
            simp only at hv
            split at hv
            · rename_i mm hmm
              obtain ⟨km, rfl⟩ := asInt_open hmx hmm
              split at hv
              · rename_i hm
                obtain ⟨hm0, hm1, hsome⟩ := hm
                simp only [Option.map_eq_some_iff] at hv
                obtain ⟨⟨l, h⟩, hb, rfl⟩ := hv
                cases hi with
                | none => simp at hsome
                | some hv' =>
                  cases high with
                  | none => exact absurd hhi (by simp [ORelV])
                  | some hx =>
                    cases hX with
                    | msl _ _ _ _ b a L hL hblk hT ha hp =>
                      have hm := hs.obj _ _ _ _ ho hL
                      have hT' : es.length ≤ L.T := hm.2.2.2.1
                      obtain ⟨hrun, h1, h2⟩ := run_boundsM (P := P) (w := w) (is := true) (km := km) (cap := L.T - off) (hi := some hv') hlo hhi (by omega) hb
                      refine ⟨.slice (some (if mm.toNat = l then a else a.add (l * sz'))) (h - l) (mm.toNat - l), by
                        simp only [Instr.slice, Sem.run_bind, run_underlying hu, Result.andThen_ok, hrun, run_sizeT hsz, Sem.run_pure]
                        split <;> simp, ?_⟩
                      split
                      · rename_i hq
                        obtain ⟨h0, hlo0, hhm⟩ := hq
                        subst h0
                        obtain rfl := bounds_lo hlo0 hb
                        have := VRel.mcut (g := g) id ver h b (if mm.toNat = 0 then a else a.add (0 * sz')) L hL hblk (by omega) (fun h0 => by
                          rw [ha h0]; simp [Addr.add]) (by split; exact hp; unfold Addr.add; split; exact hp; rfl)
                        rw [← hhm] at this ⊢
                        simpa using this
                      · exact .junk _
                    | mnil _ _ L hL hblk =>
                      have hm := hs.obj _ _ _ _ ho hL
                      have hT' : L.T = 0 := by have := hm.2.2.2.2; rw [hblk] at this; exact this
                      have hes : es.length ≤ L.T := hm.2.2.2.1
                      obtain ⟨hrun, h1, h2⟩ := run_boundsM (P := P) (w := w) (is := true) (km := km) (cap := 0) (hi := some hv') hlo hhi (by omega) hb
                      refine ⟨.slice none (h - l) (mm.toNat - l), by
                        simp only [Instr.slice, Sem.run_bind, run_underlying hu, Result.andThen_ok, hrun, run_sizeT hsz, Sem.run_pure]
                        split <;> simp, ?_⟩
                      split
                      · rename_i hq
                        obtain ⟨_, hlo0, hhm⟩ := hq
                        obtain rfl := bounds_lo hlo0 hb
                        obtain rfl : h = 0 := by omega
                        rw [← hhm]
                        exact .mcutn id ver L hL hblk
                      · exact .junk _
              · simp at hv
            · simp at hv
        | none =>
          cases max with
          | some _ => exact absurd hmx (by simp [ORelV])
          | none =>
            simp only [Option.map_eq_some_iff] at hv
            obtain ⟨⟨l, h⟩, hb, rfl⟩ := hv
            cases hX with
            | msl _ _ _ _ b a L hL hblk hT ha hp =>
              have hm := hs.obj _ _ _ _ ho hL
              have hT' : es.length ≤ L.T := hm.2.2.2.1
              obtain ⟨hrun, h1, h2⟩ := run_bounds (P := P) (w := w) (is := true) (cap := L.T - off) hlo hhi hb (by omega)
              refine ⟨.slice (some (if L.T - off = l then a else a.add (l * sz'))) (h - l) (L.T - off - l), ?_, ?_⟩
              · simp only [Instr.slice, Sem.run_bind, run_underlying hu, Result.andThen_ok, hrun, run_sizeT hsz, Sem.run_pure]
                split <;> simp
              · have := VRel.msl (g := g) id ver (off + l) (h - l) b (if L.T - off = l then a else a.add (l * sz')) L hL hblk (by omega) (by
                  intro hlt
                  rw [if_neg (by omega), ha (by omega), add_zero_addr, hm.1, Nat.add_mul]; congr 1; omega) (by split; exact hp; unfold Addr.add; split; exact hp; rfl)
                rw [show L.T - (off + l) = L.T - off - l by omega] at this; exact this
            | mnil _ _ L hL hblk =>
              have hm := hs.obj _ _ _ _ ho hL
              have hT' : L.T = 0 := by have := hm.2.2.2.2; rw [hblk] at this; exact this
              have hes : es.length ≤ L.T := hm.2.2.2.1
              obtain ⟨hrun, h1, h2⟩ := run_bounds (P := P) (w := w) (is := true) (cap := 0) hlo hhi hb (by omega)
              obtain rfl : h = 0 := by omega
              obtain rfl : l = 0 := by omega
              exact ⟨.slice none 0 0, by simp [Instr.slice, run_underlying hu, run_sizeT hsz, hrun], .mnil id ver L hL hblk⟩
      · simp at hv
    · simp at hv
  | _ => simp [sliceV] at hv

theorem sliceS_ok {t : Nat} (hu : P.underlying t = some .string) {s : ByteArray} {lo hi : Option V} {low high : Option Value} (hlo : ORelV g lo low) (hhi : ORelV g hi high) {l h : Nat} (hb : bounds s.size s.size lo hi = some (l, h)) :
  (Instr.slice t (.string s) low high none).run P w = .ok (.string (s.extract l h)) w := by
 obtain ⟨hrun, h1, h2⟩ := run_bounds (P := P) (w := w) (is := false) (cap := s.size) hlo hhi hb (Nat.le_refl _)
 simp [Instr.slice, run_underlying hu, hrun]

/-! ### lengths -/
def LK.fits (P : Program) (t : TypeId) : LK → Prop
 | .sl => ∃ e, P.underlying t = some (.slice e)
 | .str => P.underlying t = some .string
 | .map => ∃ k e, P.underlying t = some (.map k e)

theorem len_ok (hs : Reads P g st w) {ts : Array TypeId} {t ty : Nat} (ht : ts[0]? = some t) {c : LK} (hu : c.fits P t) {X : V} {x : Value} (hX : VRel g X x) {n : Int}
    (hv : lenV st c X = some n) : (Builtin.len_ ts ty #[x]).run P w = .ok (.int .i64 n) w := by
  cases c with
  | sl =>
    obtain ⟨e, hu⟩ := hu
    cases X <;> simp [lenV] at hv
    · subst hv
      rcases sl_open hX with ⟨rfl, rfl, rfl, hk⟩ | ⟨a, cap, rfl, rfl, rfl, _⟩ | ⟨b, o, cap, vals, rfl, _⟩ <;> simp [Builtin.len_, ht, run_underlying hu, goInt]
    · subst hv; cases hX <;> simp [Builtin.len_, ht, run_underlying hu, goInt]
  | str =>
    have hu : P.underlying t = some .string := hu
    cases X <;> simp [lenV] at hv
    subst hv; cases hX; simp [Builtin.len_, ht, run_underlying hu, goInt]
  | map =>
    obtain ⟨k, e, hu⟩ := hu
    cases X <;> simp [lenV] at hv
    · subst hv; cases hX; simp [Builtin.len_, ht, run_underlying hu, goInt]
    · rename_i id ver
      split at hv
      · rename_i ep es ho
        simp at hv; subst hv
        rcases entries_rel hs hX (es := es) (by simp [St.entries, ho]) with ⟨rfl, rfl⟩ | ⟨b, ms, clk, rfl, hm, hent⟩
        · cases hX
        · have : ms.size = es.length := by have := hent.1; simpa using this
          simp [Builtin.len_, ht, run_underlying hu, run_getMap hm, goInt, this]
      · simp at hv

end Go.Proofs.Ytmjnpfackanhlaa.AM
