/- The abstract layer: lemmas for walks over values. -/
import Derived.Test.YtmjnpfackanhlaaAmH4
namespace Go.Proofs.Ytmjnpfackanhlaa.AM
open Go Go.RowKit
set_option linter.unusedSimpArgs false
set_option linter.unusedVariables false
variable {P : Program}

class Box where
 p : Prop
class Kont where
 f : V → St → Prop
class KontV where
 f : V → Prop

def Hold [b : Box] : Prop := b.p
def stp (P : Program) (ro : RO) (st : St) [K : Kont] : Prop := hop P ro st K.f
def gst (P : Program) (g : V) (w : Bool) (ro : RO) (st : St) [K : Kont] : Prop := hgop P g w ro st K.f
def stpD (P : Program) (ro : RO) (st : St) [K : Kont] : Prop := hopD P ro st K.f
def gstD (P : Program) (g : V) (w : Bool) (ro : RO) (st : St) [K : Kont] : Prop := hgopD P g w ro st K.f
def cnd (v : V) [A : Box] [B : Box] : Prop := hcond v A.p B.p
def ldr (n : Option Nat) (a : V) (st : St) [K : KontV] : Prop := hld n a st K.f
def res (r : Option (V × St)) [K : Kont] : Prop := opP r K.f
def inv (P : Program) (f : V) (args : List V) (st : St) [K : Kont] : Prop := AInv P f args st K.f
def fin (vs : List V) (st : St) [K : Box] : Prop := K.p

@[simp] theorem res_some {v : V} {st : St} {f : V → St → Prop} : @res (some (v, st)) ⟨f⟩ = f v st := Eq.trans rfl rfl
@[simp] theorem res_none {K : Kont} : @res none K = False := Eq.trans rfl rfl
@[simp] theorem res_ite {c : Prop} [Decidable c] {r : Option (V × St)} {K : Kont} : @res (if c then r else none) K = (c ∧ @res r K) := by
 by_cases h : c <;> simp [h]
@[simp] theorem ldr_ptr {n : Option Nat} {a : V} {st : St} {K : KontV} : @ldr n a st K = @res (aop (.ld n (.c a)) fr0 st) ⟨fun v _ => K.f v⟩ := Eq.trans rfl rfl
@[simp] theorem cnd_true {A B : Prop} : @cnd (.bool true) ⟨A⟩ ⟨B⟩ = A := by simp [cnd, hcond]
@[simp] theorem cnd_false {A B : Prop} : @cnd (.bool false) ⟨A⟩ ⟨B⟩ = B := by simp [cnd, hcond]
theorem cd {t : Bool} {A B : Box} (h1 : t = true → @cnd (.bool true) A B) (h2 : t = false → @cnd (.bool false) A B) : @cnd (.bool t) A B := by
 cases t
 ·exact h2 rfl
 ·exact h1 rfl
@[simp] theorem gop_tt {ro : RO} {st : St} {K : Kont} : @gst P (.bool true) true ro st K = @stp P ro st K := by simp [gst, stp, hgop]
@[simp] theorem gop_ff {ro : RO} {st : St} {K : Kont} : @gst P (.bool false) false ro st K = @stp P ro st K := by simp [gst, stp, hgop]
@[simp] theorem gop_tf {ro : RO} {st : St} {f : V → St → Prop} : @gst P (.bool true) false ro st ⟨f⟩ = f (.tup []) st := by simp [gst, hgop]
@[simp] theorem gop_ft {ro : RO} {st : St} {f : V → St → Prop} : @gst P (.bool false) true ro st ⟨f⟩ = f (.tup []) st := by simp [gst, hgop]
@[simp] theorem gop_u {w : Bool} {ro : RO} {st : St} {f : V → St → Prop} : @gst P (.tup []) w ro st ⟨f⟩ = f (.tup []) st := Eq.trans rfl rfl
@[simp] theorem gopD_tt {ro : RO} {st : St} {K : Kont} : @gstD P (.bool true) true ro st K = @stpD P ro st K := by simp [gstD, stpD, hgopD]
@[simp] theorem gopD_ff {ro : RO} {st : St} {K : Kont} : @gstD P (.bool false) false ro st K = @stpD P ro st K := by simp [gstD, stpD, hgopD]
@[simp] theorem gopD_tf {ro : RO} {st : St} {f : V → St → Prop} : @gstD P (.bool true) false ro st ⟨f⟩ = f (.tup []) st := by simp [gstD, hgopD]
@[simp] theorem gopD_ft {ro : RO} {st : St} {f : V → St → Prop} : @gstD P (.bool false) true ro st ⟨f⟩ = f (.tup []) st := by simp [gstD, hgopD]
@[simp] theorem gopD_u {w : Bool} {ro : RO} {st : St} {f : V → St → Prop} : @gstD P (.tup []) w ro st ⟨f⟩ = f (.tup []) st := Eq.trans rfl rfl
@[simp] theorem op_call {f : V} {args : List X} {st : St} {K : Kont} : @stp P (.call (.c f) args) st K = @inv P f (args.map (·.ev fr0)) st K := by simp [stp, hop, aexecN, ndP, aexec, inv, X.ev]
@[simp] theorem opD_call {f : V} {args : List X} {st : St} {K : Kont} : @stpD P (.call (.c f) args) st K = @inv P f (args.map (·.ev fr0)) st K := propext Iff.rfl
@[simp] theorem op_eqs_nil {neg : Bool} {sz sz' : Nat} {sp : List (List V)} {st : St} {f : V → St → Prop} : @stp P (.eqs neg .sl (.c (.sl .unk sz [] sp)) (.c (.sl .nil sz' [] []))) st ⟨f⟩ = ∀ b, f (.bool b) st := by
 simp [stp, hop, aexecN, ndP, aexec, aop, eqsV, slNil, opP, X.ev]
@[simp] theorem op_eqs_msl0 {neg : Bool} {sz' id ver off : Nat} {st : St} {f : V → St → Prop} : @stp P (.eqs neg .sl (.c (.msl id ver off 0)) (.c (.sl .nil sz' [] []))) st ⟨f⟩ = ∀ b, f (.bool b) st := by
 simp [stp, hop, aexecN, ndP, aexec, aop, eqsV, slNil, opP, X.ev]
@[simp] theorem op_eqs_ncons {neg : Bool} {sz sz' : Nat} {e : List V} {es sp : List (List V)} {st : St} {f : V → St → Prop} : @stp P (.eqs neg .sl (.c (.sl .unk sz (e :: es) sp)) (.c (.sl .nil sz' [] []))) st ⟨f⟩ = f (.bool neg) st := by
 cases neg <;> simp [stp, hop, aexecN, ndP, aexec, aop, eqsV, slNil, opP, X.ev]
@[simp] theorem op_eqs_nn {neg : Bool} {sz sz' : Nat} {es sp : List (List V)} {st : St} {f : V → St → Prop} : @stp P (.eqs neg .sl (.c (.sl .nn sz es sp)) (.c (.sl .nil sz' [] []))) st ⟨f⟩ = f (.bool neg) st := by
 cases neg <;> simp [stp, hop, aexecN, ndP, aexec, aop, eqsV, slNil, opP, X.ev]
@[simp] theorem op_eqs_cap0 {neg : Bool} {sz sz' : Nat} {es sp : List (List V)} {st : St} {f : V → St → Prop} : @stp P (.eqs neg .sl (.c (.sl .cap0 sz es sp)) (.c (.sl .nil sz' [] []))) st ⟨f⟩ = f (.bool neg) st := by
 cases neg <;> simp [stp, hop, aexecN, ndP, aexec, aop, eqsV, slNil, opP, X.ev]
@[simp] theorem op_eqs_nilnil {neg : Bool} {sz sz' : Nat} {es sp : List (List V)} {st : St} {f : V → St → Prop} : @stp P (.eqs neg .sl (.c (.sl .nil sz es sp)) (.c (.sl .nil sz' [] []))) st ⟨f⟩ = f (.bool !neg) st := by
 cases neg <;> simp [stp, hop, aexecN, ndP, aexec, aop, eqsV, slNil, opP, X.ev]
@[simp] theorem op_eqs_mslS {neg : Bool} {sz' id ver off n : Nat} {st : St} {f : V → St → Prop} : @stp P (.eqs neg .sl (.c (.msl id ver off (n + 1))) (.c (.sl .nil sz' [] []))) st ⟨f⟩ = f (.bool neg) st := by
 cases neg <;> simp [stp, hop, aexecN, ndP, aexec, aop, eqsV, slNil, opP, X.ev]
@[simp] theorem op_cap_sl {k : SK} {sz : Nat} {es sp : List (List V)} {st : St} {f : V → St → Prop} : @stp P (.cap (.c (.sl k sz es sp))) st ⟨f⟩ = ∀ c : Nat, es.length + sp.length ≤ c → f (.int .i64 c) st := by
 simp [stp, hop, aexecN, ndP, aexec, aop, opP, X.ev]
@[simp] theorem op_cap_msl {id ver off n : Nat} {st : St} {f : V → St → Prop} : @stp P (.cap (.c (.msl id ver off n))) st ⟨f⟩ = match st.get id ver with
   | some (.mem _ es) => ∀ c : Nat, n ≤ c → es.length - off ≤ c → f (.int .i64 c) st
   | _ => False := by
 cases h : st.get id ver with
 | none => simp [stp, hop, aexecN, ndP, aexec, aop, opP, X.ev, h]
 | some o => cases o <;> simp [stp, hop, aexecN, ndP, aexec, aop, opP, X.ev, h]
@[simp] theorem op_entry {st : St} {K : Kont} {x} : @stp P (.entry x) st K = @res (aop (.entry x) fr0 st) K := by simp [stp, hop, aexecN, ndP, aexec, res]
@[simp] theorem opD_entry {st : St} {K : Kont} {x} : @stpD P (.entry x) st K = @res (aop (.entry x) fr0 st) K := Eq.trans rfl rfl
@[simp] theorem aop_entry {id ver : Nat} {fr : Fr} {st : St} : aop (.entry (.c (.it id ver))) fr st = match st.get id ver with
   | some (.iter mid mver ep (i :: _)) => match st.get mid mver with
    | some (.map ep' es) => if ep' = ep then (es[i]?).map fun p => (.tup [p.1, p.2], st) else none
    | _ => none
   | _ => none := Eq.trans rfl rfl
@[simp] theorem aop_range {id ver : Nat} {fr : Fr} {st : St} : aop (.range (.c (.map id ver))) fr st = match st.get id ver with
   | some (.map ep _) => some (.it st.objs.length st.nv, st.push (.iter id ver ep []))
   | _ => none := Eq.trans rfl rfl
theorem op_next {id ver mid mver ep : Nat} {seen : List Nat} {es : List (V × V)} {st : St} {f : V → St → Prop} (ho : st.get id ver = some (.iter mid mver ep seen)) (hom : st.get mid mver = some (.map ep es))
  (h1 : (∀ i, i < es.length → i ∈ seen) → f (.tup [.bool false]) st)
  (h2 : ∀ i, i < es.length → i ∉ seen → f (.tup [.bool true, (es.getD i (.junk, .junk)).1, (es.getD i (.junk, .junk)).2]) (st.set id ver (.iter mid mver ep (i :: seen)))) : @stp P (.next (.c (.it id ver))) st ⟨f⟩ := by
 refine .inr ?_
 simp only [ndP, X.ev, ho, hom]
 exact ⟨trivial, h1, h2⟩
@[simp] theorem ev_c {v : V} {fr : Fr} : X.ev fr (.c v) = v := Eq.trans rfl rfl
@[simp] theorem hwat_mov {v w : V} {st : St} : hwat P none (.mov (.c v)) st w = (w = v) := by simp [hwat, aop, opP, X.ev]
@[simp] theorem hwat_n {ro : RO} {v : V} {st : St} : hwat P none ro st v = opP (aop ro fr0 st) fun v' st' => st' = st ∧ v = v' := Eq.trans rfl rfl
@[simp] theorem hwat_tt {ro : RO} {v : V} {st : St} : hwat P (some (.bool true, true)) ro st v = opP (aop ro fr0 st) fun v' st' => st' = st ∧ v = v' := by simp [hwat]
@[simp] theorem hwat_ff {ro : RO} {v : V} {st : St} : hwat P (some (.bool false, false)) ro st v = opP (aop ro fr0 st) fun v' st' => st' = st ∧ v = v' := by simp [hwat]
@[simp] theorem hwat_tf {ro : RO} {v : V} {st : St} : hwat P (some (.bool true, false)) ro st v = (v = .tup []) := by simp [hwat]
@[simp] theorem hwat_ft {ro : RO} {v : V} {st : St} : hwat P (some (.bool false, true)) ro st v = (v = .tup []) := by simp [hwat]
@[simp] theorem opP_some' {v : V} {st : St} {K : V → St → Prop} : opP (some (v, st)) K = K v st := Eq.trans rfl rfl
@[simp] theorem opP_none' {K : V → St → Prop} : opP none K = False := Eq.trans rfl rfl
@[simp] theorem opP_ite {c : Prop} [Decidable c] {r : Option (V × St)} {K : V → St → Prop} : opP (if c then r else none) K = (c ∧ opP r K) := by
 by_cases h : c <;> simp [h]
@[simp] theorem mkres1 {v : V} : mkres [v] = v := Eq.trans rfl rfl
@[simp] theorem mkres0 : mkres [] = .tup [] := Eq.trans rfl rfl
@[simp] theorem mkres2 {v w : V} {l : List V} : mkres (v :: w :: l) = .tup (v :: w :: l) := Eq.trans rfl rfl
@[simp] theorem app0 {R : Rel 0} {st : St} : app R [] st = R st := Eq.trans rfl rfl
@[simp] theorem op_mov {st : St} {K : Kont} {x} : @stp P (.mov x) st K = @res (aop (.mov x) fr0 st) K := by simp [stp, hop, aexecN, ndP, aexec, res]
@[simp] theorem opD_mov {st : St} {K : Kont} {x} : @stpD P (.mov x) st K = @res (aop (.mov x) fr0 st) K := Eq.trans rfl rfl
@[simp] theorem op_pick {st : St} {K : Kont} {c} {a} {b} : @stp P (.pick c a b) st K = @res (aop (.pick c a b) fr0 st) K := by simp [stp, hop, aexecN, ndP, aexec, res]
@[simp] theorem opD_pick {st : St} {K : Kont} {c} {a} {b} : @stpD P (.pick c a b) st K = @res (aop (.pick c a b) fr0 st) K := Eq.trans rfl rfl
@[simp] theorem op_alloc {st : St} {K : Kont} {z} : @stp P (.alloc z) st K = @res (aop (.alloc z) fr0 st) K := by simp [stp, hop, aexecN, ndP, aexec, res]
@[simp] theorem opD_alloc {st : St} {K : Kont} {z} : @stpD P (.alloc z) st K = @res (aop (.alloc z) fr0 st) K := Eq.trans rfl rfl
@[simp] theorem op_box {st : St} {K : Kont} {x} : @stp P (.box x) st K = @res (aop (.box x) fr0 st) K := by simp [stp, hop, aexecN, ndP, aexec, res]
@[simp] theorem opD_box {st : St} {K : Kont} {x} : @stpD P (.box x) st K = @res (aop (.box x) fr0 st) K := Eq.trans rfl rfl
@[simp] theorem op_build {st : St} {K : Kont} {z} {parts} : @stp P (.build z parts) st K = @res (aop (.build z parts) fr0 st) K := by simp [stp, hop, aexecN, ndP, aexec, res]
@[simp] theorem opD_build {st : St} {K : Kont} {z} {parts} : @stpD P (.build z parts) st K = @res (aop (.build z parts) fr0 st) K := Eq.trans rfl rfl
@[simp] theorem op_mkSl {st : St} {K : Kont} {sz} {len} {z} {parts} : @stp P (.mkSl sz len z parts) st K = @res (aop (.mkSl sz len z parts) fr0 st) K := by simp [stp, hop, aexecN, ndP, aexec, res]
@[simp] theorem opD_mkSl {st : St} {K : Kont} {sz} {len} {z} {parts} : @stpD P (.mkSl sz len z parts) st K = @res (aop (.mkSl sz len z parts) fr0 st) K := Eq.trans rfl rfl
@[simp] theorem op_ld {st : St} {K : Kont} {n} {a} : @stp P (.ld n a) st K = @res (aop (.ld n a) fr0 st) K := by simp [stp, hop, aexecN, ndP, aexec, res]
@[simp] theorem opD_ld {st : St} {K : Kont} {n} {a} : @stpD P (.ld n a) st K = @res (aop (.ld n a) fr0 st) K := Eq.trans rfl rfl
@[simp] theorem op_st {st : St} {K : Kont} {n} {a} {x} : @stp P (.st n a x) st K = @res (aop (.st n a x) fr0 st) K := by simp [stp, hop, aexecN, ndP, aexec, res]
@[simp] theorem opD_st {st : St} {K : Kont} {n} {a} {x} : @stpD P (.st n a x) st K = @res (aop (.st n a x) fr0 st) K := Eq.trans rfl rfl
@[simp] theorem op_nilchk {st : St} {K : Kont} {x} : @stp P (.nilchk x) st K = @res (aop (.nilchk x) fr0 st) K := by simp [stp, hop, aexecN, ndP, aexec, res]
@[simp] theorem opD_nilchk {st : St} {K : Kont} {x} : @stpD P (.nilchk x) st K = @res (aop (.nilchk x) fr0 st) K := Eq.trans rfl rfl
@[simp] theorem op_fld {st : St} {K : Kont} {off} {x} : @stp P (.fld off x) st K = @res (aop (.fld off x) fr0 st) K := by simp [stp, hop, aexecN, ndP, aexec, res]
@[simp] theorem opD_fld {st : St} {K : Kont} {off} {x} : @stpD P (.fld off x) st K = @res (aop (.fld off x) fr0 st) K := Eq.trans rfl rfl
@[simp] theorem op_fldV {st : St} {K : Kont} {off} {n} {x} : @stp P (.fldV off n x) st K = @res (aop (.fldV off n x) fr0 st) K := by simp [stp, hop, aexecN, ndP, aexec, res]
@[simp] theorem opD_fldV {st : St} {K : Kont} {off} {n} {x} : @stpD P (.fldV off n x) st K = @res (aop (.fldV off n x) fr0 st) K := Eq.trans rfl rfl
@[simp] theorem op_idx {st : St} {K : Kont} {sz} {x} {i} : @stp P (.idx sz x i) st K = @res (aop (.idx sz x i) fr0 st) K := by simp [stp, hop, aexecN, ndP, aexec, res]
@[simp] theorem opD_idx {st : St} {K : Kont} {sz} {x} {i} : @stpD P (.idx sz x i) st K = @res (aop (.idx sz x i) fr0 st) K := Eq.trans rfl rfl
@[simp] theorem op_idxA {st : St} {K : Kont} {len} {sz} {x} {i} : @stp P (.idxA len sz x i) st K = @res (aop (.idxA len sz x i) fr0 st) K := by simp [stp, hop, aexecN, ndP, aexec, res]
@[simp] theorem opD_idxA {st : St} {K : Kont} {len} {sz} {x} {i} : @stpD P (.idxA len sz x i) st K = @res (aop (.idxA len sz x i) fr0 st) K := Eq.trans rfl rfl
@[simp] theorem op_idxV {st : St} {K : Kont} {len} {sz} {g} {x} {i} : @stp P (.idxV len sz g x i) st K = @res (aop (.idxV len sz g x i) fr0 st) K := by simp [stp, hop, aexecN, ndP, aexec, res]
@[simp] theorem opD_idxV {st : St} {K : Kont} {len} {sz} {g} {x} {i} : @stpD P (.idxV len sz g x i) st K = @res (aop (.idxV len sz g x i) fr0 st) K := Eq.trans rfl rfl
@[simp] theorem op_idxS {st : St} {K : Kont} {x} {i} : @stp P (.idxS x i) st K = @res (aop (.idxS x i) fr0 st) K := by simp [stp, hop, aexecN, ndP, aexec, res]
@[simp] theorem opD_idxS {st : St} {K : Kont} {x} {i} : @stpD P (.idxS x i) st K = @res (aop (.idxS x i) fr0 st) K := Eq.trans rfl rfl
@[simp] theorem op_bin {st : St} {K : Kont} {op} {x} {y} : @stp P (.bin op x y) st K = @res (aop (.bin op x y) fr0 st) K := by simp [stp, hop, aexecN, ndP, aexec, res]
@[simp] theorem opD_bin {st : St} {K : Kont} {op} {x} {y} : @stpD P (.bin op x y) st K = @res (aop (.bin op x y) fr0 st) K := Eq.trans rfl rfl
@[simp] theorem op_eqs_bool {neg : Bool} {x y : X} {st : St} {K : Kont} : @stp P (.eqs neg .bool x y) st K = @res (aop (.eqs neg .bool x y) fr0 st) K := by simp [stp, hop, aexecN, ndP, aexec, res]
@[simp] theorem op_eqs_ptr {neg : Bool} {x y : X} {st : St} {K : Kont} : @stp P (.eqs neg .ptr x y) st K = @res (aop (.eqs neg .ptr x y) fr0 st) K := by simp [stp, hop, aexecN, ndP, aexec, res]
@[simp] theorem op_eqs_map {neg : Bool} {x y : X} {st : St} {K : Kont} : @stp P (.eqs neg .map x y) st K = @res (aop (.eqs neg .map x y) fr0 st) K := by simp [stp, hop, aexecN, ndP, aexec, res]
@[simp] theorem op_eqs_func {neg : Bool} {x y : X} {st : St} {K : Kont} : @stp P (.eqs neg .func x y) st K = @res (aop (.eqs neg .func x y) fr0 st) K := by simp [stp, hop, aexecN, ndP, aexec, res]
@[simp] theorem op_eqs_flat {neg : Bool} {ls : List LC} {x y : X} {st : St} {K : Kont} : @stp P (.eqs neg (.flat ls) x y) st K = @res (aop (.eqs neg (.flat ls) x y) fr0 st) K := by simp [stp, hop, aexecN, ndP, aexec, res]
@[simp] theorem opD_eqs {st : St} {K : Kont} {neg} {ec} {x} {y} : @stpD P (.eqs neg ec x y) st K = @res (aop (.eqs neg ec x y) fr0 st) K := Eq.trans rfl rfl
@[simp] theorem op_un {st : St} {K : Kont} {op} {x} : @stp P (.un op x) st K = @res (aop (.un op x) fr0 st) K := by simp [stp, hop, aexecN, ndP, aexec, res]
@[simp] theorem opD_un {st : St} {K : Kont} {op} {x} : @stpD P (.un op x) st K = @res (aop (.un op x) fr0 st) K := Eq.trans rfl rfl
@[simp] theorem op_conv {st : St} {K : Kont} {k} {x} : @stp P (.conv k x) st K = @res (aop (.conv k x) fr0 st) K := by simp [stp, hop, aexecN, ndP, aexec, res]
@[simp] theorem opD_conv {st : St} {K : Kont} {k} {x} : @stpD P (.conv k x) st K = @res (aop (.conv k x) fr0 st) K := Eq.trans rfl rfl
@[simp] theorem op_slice {st : St} {K : Kont} {sz} {x} {lo} {hi} {mx} : @stp P (.slice sz x lo hi mx) st K = @res (aop (.slice sz x lo hi mx) fr0 st) K := by simp [stp, hop, aexecN, ndP, aexec, res]
@[simp] theorem opD_slice {st : St} {K : Kont} {sz} {x} {lo} {hi} {mx} : @stpD P (.slice sz x lo hi mx) st K = @res (aop (.slice sz x lo hi mx) fr0 st) K := Eq.trans rfl rfl
@[simp] theorem op_sliceS {st : St} {K : Kont} {x} {lo} {hi} : @stp P (.sliceS x lo hi) st K = @res (aop (.sliceS x lo hi) fr0 st) K := by simp [stp, hop, aexecN, ndP, aexec, res]
@[simp] theorem opD_sliceS {st : St} {K : Kont} {x} {lo} {hi} : @stpD P (.sliceS x lo hi) st K = @res (aop (.sliceS x lo hi) fr0 st) K := Eq.trans rfl rfl
@[simp] theorem op_ext {st : St} {K : Kont} {i} {x} : @stp P (.ext i x) st K = @res (aop (.ext i x) fr0 st) K := by simp [stp, hop, aexecN, ndP, aexec, res]
@[simp] theorem opD_ext {st : St} {K : Kont} {i} {x} : @stpD P (.ext i x) st K = @res (aop (.ext i x) fr0 st) K := Eq.trans rfl rfl
@[simp] theorem op_mkfn {st : St} {K : Kont} {f} {first} {cap} : @stp P (.mkfn f first cap) st K = @res (aop (.mkfn f first cap) fr0 st) K := by simp [stp, hop, aexecN, ndP, aexec, res]
@[simp] theorem opD_mkfn {st : St} {K : Kont} {f} {first} {cap} : @stpD P (.mkfn f first cap) st K = @res (aop (.mkfn f first cap) fr0 st) K := Eq.trans rfl rfl
@[simp] theorem op_mkmap {st : St} {K : Kont} : @stp P (.mkmap ) st K = @res (aop (.mkmap ) fr0 st) K := by simp [stp, hop, aexecN, ndP, aexec, res]
@[simp] theorem opD_mkmap {st : St} {K : Kont} : @stpD P (.mkmap ) st K = @res (aop (.mkmap ) fr0 st) K := Eq.trans rfl rfl
@[simp] theorem op_lookup {st : St} {K : Kont} {kc} {z} {ok} {m} {k} : @stp P (.lookup kc z ok m k) st K = @res (aop (.lookup kc z ok m k) fr0 st) K := by simp [stp, hop, aexecN, ndP, aexec, res]
@[simp] theorem opD_lookup {st : St} {K : Kont} {kc} {z} {ok} {m} {k} : @stpD P (.lookup kc z ok m k) st K = @res (aop (.lookup kc z ok m k) fr0 st) K := Eq.trans rfl rfl
@[simp] theorem op_mupd {st : St} {K : Kont} {kc} {m} {k} {v} : @stp P (.mupd kc m k v) st K = @res (aop (.mupd kc m k v) fr0 st) K := by simp [stp, hop, aexecN, ndP, aexec, res]
@[simp] theorem opD_mupd {st : St} {K : Kont} {kc} {m} {k} {v} : @stpD P (.mupd kc m k v) st K = @res (aop (.mupd kc m k v) fr0 st) K := Eq.trans rfl rfl
@[simp] theorem op_mdel {st : St} {K : Kont} {kc} {m} {k} : @stp P (.mdel kc m k) st K = @res (aop (.mdel kc m k) fr0 st) K := by simp [stp, hop, aexecN, ndP, aexec, res]
@[simp] theorem opD_mdel {st : St} {K : Kont} {kc} {m} {k} : @stpD P (.mdel kc m k) st K = @res (aop (.mdel kc m k) fr0 st) K := Eq.trans rfl rfl
@[simp] theorem op_range {st : St} {K : Kont} {m} : @stp P (.range m) st K = @res (aop (.range m) fr0 st) K := by simp [stp, hop, aexecN, ndP, aexec, res]
@[simp] theorem opD_range {st : St} {K : Kont} {m} : @stpD P (.range m) st K = @res (aop (.range m) fr0 st) K := Eq.trans rfl rfl
@[simp] theorem op_len {st : St} {K : Kont} {c} {x} : @stp P (.len c x) st K = @res (aop (.len c x) fr0 st) K := by simp [stp, hop, aexecN, ndP, aexec, res]
@[simp] theorem opD_len {st : St} {K : Kont} {c} {x} : @stpD P (.len c x) st K = @res (aop (.len c x) fr0 st) K := Eq.trans rfl rfl
@[simp] theorem op_append {st : St} {K : Kont} {sz} {bytes} {x} {y} : @stp P (.append sz bytes x y) st K = @res (aop (.append sz bytes x y) fr0 st) K := by simp [stp, hop, aexecN, ndP, aexec, res]
@[simp] theorem op_appf {st : St} {K : Kont} {sz} {bytes} {x} {y} : @stp P (.appf sz bytes x y) st K = @res (aop (.appf sz bytes x y) fr0 st) K := by simp [stp, hop, aexecN, ndP, aexec, res]
@[simp] theorem opD_append {st : St} {K : Kont} {sz} {bytes} {x} {y} : @stpD P (.append sz bytes x y) st K = @res (aop (.append sz bytes x y) fr0 st) K := Eq.trans rfl rfl
@[simp] theorem opD_appf {st : St} {K : Kont} {sz} {bytes} {x} {y} : @stpD P (.appf sz bytes x y) st K = @res (aop (.appf sz bytes x y) fr0 st) K := Eq.trans rfl rfl
@[simp] theorem op_mdelS {st : St} {K : Kont} {x} : @stp P (.strOf x) st K = @res (aop (.strOf x) fr0 st) K := by simp [stp, hop, aexecN, ndP, aexec, res]
@[simp] theorem opD_strOf {st : St} {K : Kont} {x} : @stpD P (.strOf x) st K = @res (aop (.strOf x) fr0 st) K := Eq.trans rfl rfl
@[simp] theorem op_sliceA {st : St} {K : Kont} {n k} {x} : @stp P (.sliceA n k x) st K = @res (aop (.sliceA n k x) fr0 st) K := by simp [stp, hop, aexecN, ndP, aexec, res]
@[simp] theorem opD_sliceA {st : St} {K : Kont} {n k} {x} : @stpD P (.sliceA n k x) st K = @res (aop (.sliceA n k x) fr0 st) K := Eq.trans rfl rfl
@[simp] theorem op_dead {st : St} {K : Kont} : @stp P .dead st K = @res (aop .dead fr0 st) K := by simp [stp, hop, aexecN, ndP, aexec, res]
@[simp] theorem op_copy {st : St} {K : Kont} {sz} {x} {y} : @stp P (.copy sz x y) st K = @res (aop (.copy sz x y) fr0 st) K := by simp [stp, hop, aexecN, ndP, aexec, res]
@[simp] theorem opD_copy {st : St} {K : Kont} {sz} {x} {y} : @stpD P (.copy sz x y) st K = @res (aop (.copy sz x y) fr0 st) K := Eq.trans rfl rfl
@[simp] theorem op_minmax {st : St} {K : Kont} {mx} {x} {xs} : @stp P (.minmax mx x xs) st K = @res (aop (.minmax mx x xs) fr0 st) K := by simp [stp, hop, aexecN, ndP, aexec, res]
@[simp] theorem opD_minmax {st : St} {K : Kont} {mx} {x} {xs} : @stpD P (.minmax mx x xs) st K = @res (aop (.minmax mx x xs) fr0 st) K := Eq.trans rfl rfl
@[simp] theorem op_mksl {st : St} {K : Kont} {sz} {bytes} {z} {l} {c} : @stp P (.mksl sz bytes z l c) st K = @res (aop (.mksl sz bytes z l c) fr0 st) K := by simp [stp, hop, aexecN, ndP, aexec, res]
@[simp] theorem opD_mksl {st : St} {K : Kont} {sz} {bytes} {z} {l} {c} : @stpD P (.mksl sz bytes z l c) st K = @res (aop (.mksl sz bytes z l c) fr0 st) K := Eq.trans rfl rfl
@[simp] theorem op_clear {z : List V} {x : X} {st : St} {K : Kont} : @stp P (.clear z x) st K = @res (aop (.clear z x) fr0 st) K := by simp [stp, hop, aexecN, ndP, aexec, res]

/-! one operation over values -/
@[simp] theorem aop_mov {v : V} {fr : Fr} {st : St} : aop (.mov (.c v)) fr st = some (v, st) := Eq.trans rfl rfl
@[simp] theorem aop_pick_bb {t a b : Bool} {fr : Fr} {st : St} : aop (.pick (.c (.bool t)) (.c (.bool a)) (.c (.bool b))) fr st = some (.bool (if t then a else b), st) := by cases t <;> rfl
@[simp] theorem aop_pick_t {a b : V} {fr : Fr} {st : St} : aop (.pick (.c (.bool true)) (.c a) (.c b)) fr st = some (a, st) := Eq.trans rfl rfl
@[simp] theorem aop_pick_f {a b : V} {fr : Fr} {st : St} : aop (.pick (.c (.bool false)) (.c a) (.c b)) fr st = some (b, st) := Eq.trans rfl rfl
@[simp] theorem aop_alloc {v : V} {z : List V} {fr : Fr} {st : St} : aop (.alloc (v :: z)) fr st = some (.ptr st.objs.length st.nv 0 0, st.push (.mem (v :: z).length [v :: z])) := Eq.trans rfl rfl
@[simp] theorem aop_box_agg {v : V} {z : List V} {fr : Fr} {st : St} : aop (.box (.c (.agg (v :: z)))) fr st = some (.ptr st.objs.length st.nv 0 0, st.push (.mem (v :: z).length [v :: z])) := Eq.trans rfl rfl
@[simp] theorem aop_box {v : V} {fr : Fr} {st : St} (h : v.cells = some [v]) : aop (.box (.c v)) fr st = some (.ptr st.objs.length st.nv 0 0, st.push (.mem 1 [[v]])) := by simp [aop, X.ev, h]
@[simp] theorem aop_build {z : List V} {parts : List (Nat × Nat × X)} {fr : Fr} {st : St} : aop (.build z parts) fr st = (parts.foldlM (fun (acc : List V) (p : Nat × Nat × X) =>
   match (p.2.2.ev fr).cells with
   | some cs => if cs.length = p.2.1 ∧ p.1 + p.2.1 ≤ acc.length then some (splice acc p.1 cs) else none
   | none => none) z).map fun cs => (.agg cs, st) := Eq.trans rfl rfl
@[simp] theorem aop_mkSl {sz len : Nat} {z : List V} {parts : List (Nat × X)} {fr : Fr} {st : St} : aop (.mkSl sz len z parts) fr st = (parts.foldlM (fun (acc : List (List V)) (p : Nat × X) =>
   match (p.2.ev fr).cells with
   | some cs => if cs.length = sz ∧ p.1 < acc.length then some (acc.set p.1 cs) else none
   | none => none) (List.replicate len z)).bind fun es => if z.length = sz ∧ 0 < sz then some (.msl st.objs.length st.nv 0 len, st.push (.mem sz es)) else none := Eq.trans rfl rfl
@[simp] theorem aop_ld {n : Option Nat} {a : V} {fr : Fr} {st : St} : aop (.ld n (.c a)) fr st = match st.cellsAt a with | some (cs, off) => (partV cs off n).map (·, st) | none => none := Eq.trans rfl rfl
@[simp] theorem aop_st {n : Nat} {a x : V} {fr : Fr} {st : St} : aop (.st n (.c a) (.c x)) fr st = match x.cells with | some cs => if cs.length = n then (st.store a cs).map (.junk, ·) else none | none => none := Eq.trans rfl rfl
@[simp] theorem aop_nilchk_ptr {a b c d : Nat} {fr : Fr} {st : St} : aop (.nilchk (.c (.ptr a b c d))) fr st = some (.ptr a b c d, st) := Eq.trans rfl rfl
@[simp] theorem aop_nilchk_eptr {a : List V} {b : Nat} {fr : Fr} {st : St} : aop (.nilchk (.c (.eptr a b))) fr st = some (.eptr a b, st) := Eq.trans rfl rfl
@[simp] theorem aop_nilchk_fn {f : Nat} {a b : List V} {fr : Fr} {st : St} : aop (.nilchk (.c (.fn (.func f) a b))) fr st = some (.fn (.func f) a b, st) := Eq.trans rfl rfl
@[simp] theorem aop_nilchk_yld {a b : Nat} {fr : Fr} {st : St} : aop (.nilchk (.c (.yld a b))) fr st = some (.yld a b, st) := Eq.trans rfl rfl
@[simp] theorem aop_nilchk_iface {a : Nat} {b : V} {fr : Fr} {st : St} : aop (.nilchk (.c (.iface a b))) fr st = some (.iface a b, st) := Eq.trans rfl rfl
@[simp] theorem aop_fld_ptr {k a b c d : Nat} {fr : Fr} {st : St} : aop (.fld k (.c (.ptr a b c d))) fr st = some (.ptr a b c (d + k), st) := Eq.trans rfl rfl
@[simp] theorem aop_fld_eptr {k b : Nat} {a : List V} {fr : Fr} {st : St} : aop (.fld k (.c (.eptr a b))) fr st = some (.eptr a (b + k), st) := Eq.trans rfl rfl
@[simp] theorem aop_fldV {off : Nat} {n : Option Nat} {cs : List V} {fr : Fr} {st : St} : aop (.fldV off n (.c (.agg cs))) fr st = (partV cs off n).map (·, st) := Eq.trans rfl rfl
@[simp] theorem aop_idx {sz : Nat} {x i : V} {fr : Fr} {st : St} : aop (.idx sz (.c x) (.c i)) fr st = (idxV st sz x i).map (·, st) := Eq.trans rfl rfl
@[simp] theorem aop_idxA {len sz : Nat} {x : V} {k : IntKind} {n : Int} {fr : Fr} {st : St} : aop (.idxA len sz (.c x) (.c (.int k n))) fr st = if 0 ≤ n ∧ n < len then (offV (n.toNat * sz) x).map (·, st) else none := Eq.trans rfl rfl
@[simp] theorem aop_idxV {len sz : Nat} {g : Bool} {cs : List V} {k : IntKind} {n : Int} {fr : Fr} {st : St} : aop (.idxV len sz g (.c (.agg cs)) (.c (.int k n))) fr st = if 0 ≤ n ∧ n < len then (partV cs (n.toNat * sz) (if g then some sz else none)).map (·, st) else none := Eq.trans rfl rfl
@[simp] theorem aop_idxS {s : ByteArray} {k : IntKind} {n : Int} {fr : Fr} {st : St} : aop (.idxS (.c (.str s)) (.c (.int k n))) fr st = if 0 ≤ n ∧ n < s.size then some (.int .u8 (s.data.getD n.toNat 0).toNat, st) else none := Eq.trans rfl rfl
@[simp] theorem aop_bin {op : BinOp} {x y : V} {fr : Fr} {st : St} : aop (.bin op (.c x) (.c y)) fr st = (binV op x y).map (·, st) := Eq.trans rfl rfl
@[simp] theorem aop_eqs {neg : Bool} {ec : EC} {x y : V} {fr : Fr} {st : St} : aop (.eqs neg ec (.c x) (.c y)) fr st = (eqsV ec x y).map fun b => (.bool (if neg then !b else b), st) := Eq.trans rfl rfl
@[simp] theorem aop_un {op : UnOp} {x : V} {fr : Fr} {st : St} : aop (.un op (.c x)) fr st = (unV op x).map (·, st) := Eq.trans rfl rfl
@[simp] theorem aop_conv {k k' : IntKind} {n : Int} {fr : Fr} {st : St} : aop (.conv k (.c (.int k' n))) fr st = some (.int k (k.wrap n), st) := Eq.trans rfl rfl
@[simp] theorem aop_slice {sz : Nat} {x : V} {lo hi mx : Option X} {fr : Fr} {st : St} : aop (.slice sz (.c x) lo hi mx) fr st = (sliceV st sz x (lo.map (·.ev fr)) (hi.map (·.ev fr)) (mx.map (·.ev fr))).map (·, st) := Eq.trans rfl rfl
@[simp] theorem aop_sliceS {s : ByteArray} {lo hi : Option X} {fr : Fr} {st : St} : aop (.sliceS (.c (.str s)) lo hi) fr st = (bounds s.size s.size (lo.map (·.ev fr)) (hi.map (·.ev fr))).map fun (l, h) => (.str (s.extract l h), st) := Eq.trans rfl rfl
@[simp] theorem aop_ext {i : Nat} {vs : List V} {fr : Fr} {st : St} : aop (.ext i (.c (.tup vs))) fr st = (vs[i]?).map (·, st) := Eq.trans rfl rfl
@[simp] theorem aop_mkfn {f : Fn} {first cap : List X} {fr : Fr} {st : St} : aop (.mkfn f first cap) fr st = some (.fn f (first.map (·.ev fr)) (cap.map (·.ev fr)), st) := Eq.trans rfl rfl
@[simp] theorem aop_mkmap {fr : Fr} {st : St} : aop .mkmap fr st = some (.map st.objs.length st.nv, ⟨st.objs ++ [some (st.nv, .map (st.nv + 1) [])], st.nv + 2⟩) := Eq.trans rfl rfl
@[simp] theorem aop_lookup {kc : KC} {z : V} {ok : Bool} {m k : V} {fr : Fr} {st : St} : aop (.lookup kc z ok (.c m) (.c k)) fr st = match st.entries m with
  | some es => match mfindK kc k es with
   | some r => some (if ok then .tup [foundV z r, .bool r.isSome] else foundV z r, st)
   | none => none
  | none => none := Eq.trans rfl rfl
@[simp] theorem aop_mupd {kc : KC} {id ver : Nat} {k v : V} {fr : Fr} {st : St} : aop (.mupd kc (.c (.map id ver)) (.c k) (.c v)) fr st = match st.get id ver with
   | some (.map ep es) => match mfindK kc k es with
    | some (some (i, _)) => some (.junk, st.set id ver (.map ep (es.set i (k, v))))
    | some none => some (.junk, ⟨st.objs.set id (some (ver, .map st.nv (es ++ [(k, v)]))), st.nv + 1⟩)
    | none => none
   | _ => none := Eq.trans rfl rfl
@[simp] theorem aop_len {c : LK} {x : V} {fr : Fr} {st : St} : aop (.len c (.c x)) fr st = (lenV st c x).map fun n => (.int .i64 n, st) := Eq.trans rfl rfl
@[simp] theorem aop_appf {sz bytes s : Nat} {k' : SK} {ys : List (List V)} {fr : Fr} {st : St} : aop (.appf sz bytes (.c (.sl .cap0 s [] [])) (.c (.sl k' sz ys []))) fr st = if pureLL ys = true ∧ ys.length * bytes ≤ 2 ^ 47 then some (.sl .unk sz ys [], st) else none := by
 simp [aop, X.ev, pureLL]
@[simp] theorem aop_strOf {x : V} {fr : Fr} {st : St} : aop (.strOf (.c x)) fr st = match st.view 1 x with
  | some ys => (bytesV ys).map fun l => (.str ⟨l.toArray⟩, st)
  | none => none := Eq.trans rfl rfl
@[simp] theorem aop_sliceA {n k id ver i off : Nat} {fr : Fr} {st : St} : aop (.sliceA n k (.c (.ptr id ver i off))) fr st = some (.asl id ver i off n k, st) := Eq.trans rfl rfl
@[simp] theorem aop_dead {fr : Fr} {st : St} : aop .dead fr st = none := Eq.trans rfl rfl
@[simp] theorem aop_mdel {kc : KC} {id ver : Nat} {k : V} {fr : Fr} {st : St} : aop (.mdel kc (.c (.map id ver)) (.c k)) fr st = match st.get id ver with
   | some (.map _ es) => match mfindK kc k es with
    | some (some (i, _)) => some (.tup [], ⟨st.objs.set id (some (ver, .map st.nv (es.eraseIdx i))), st.nv + 1⟩)
    | some none => some (.tup [], st)
    | none => none
   | _ => none := Eq.trans rfl rfl
@[simp] theorem aop_append {sz bytes : Nat} {x y : V} {fr : Fr} {st : St} : aop (.append sz bytes (.c x) (.c y)) fr st = match (match y with | .str s => if sz = 1 then some (strEs s) else none | v => st.view sz v) with
  | some ys => appendV st sz bytes x ys
  | none => none := Eq.trans rfl rfl
@[simp] theorem aop_minmax {mx : Bool} {x : V} {xs : List X} {fr : Fr} {st : St} : aop (.minmax mx (.c x) xs) fr st = (minmaxV mx x (xs.map (·.ev fr))).map (·, st) := Eq.trans rfl rfl
@[simp] theorem aop_mksl {sz bytes : Nat} {z : List V} {k k' : IntKind} {n m : Int} {fr : Fr} {st : St} : aop (.mksl sz bytes z (.c (.int k n)) (.c (.int k' m))) fr st = if 0 ≤ n ∧ n ≤ m ∧ m * bytes ≤ 2 ^ 47 ∧ z.length = sz ∧ 0 < sz then some (.msl st.objs.length st.nv 0 n.toNat, st.push (.mem sz (List.replicate m.toNat z))) else none := Eq.trans rfl rfl

@[simp] theorem aop_clear {z : List V} {id ver off len : Nat} {fr : Fr} {st : St} : aop (.clear z (.c (.msl id ver off len))) fr st = (match st.get id ver with
    | some (.mem sz' es) => if sz' = z.length ∧ off + len ≤ es.length then some (st.set id ver (.mem sz' (splice es off (List.replicate len z)))) else none
    | _ => none).map (.tup [], ·) := Eq.trans rfl rfl
@[simp] theorem aop_copy {sz id ver off len : Nat} {y : V} {fr : Fr} {st : St} : aop (.copy sz (.c (.msl id ver off len)) (.c y)) fr st = match st.view sz y with
  | some ys => match st.get id ver with
   | some (.mem sz' es) => if sz' = sz ∧ off + len ≤ es.length then some (.int .i64 (min ys.length len : Nat), st.set id ver (.mem sz (splice es off (ys.take (min ys.length len))))) else none
   | _ => none
  | none => none := by
 simp only [aop, X.ev]
 cases st.view sz y with
 | none => rfl
 | some ys =>
  have e : ((min ys.length len : Nat) : Int) = min (ys.length : Int) len := by omega
  simp only [e]
  cases h : st.get id ver with
  | none => rfl
  | some o => cases o <;> rfl

attribute [simp] V.asInt partV unV minmaxV min2V lenV bounds slNil foundV splice St.cellsAt V.pure pureL pureLL

/-! the parts -/
@[simp] theorem cells_agg {cs : List V} : V.cells (.agg cs) = some cs := Eq.trans rfl rfl
@[simp] theorem cells_sl {k : SK} {sz : Nat} {es sp : List (List V)} : V.cells (.sl k sz es sp) = some [.sl k sz es sp] := Eq.trans rfl rfl
@[simp] theorem cells_msl {a b c d : Nat} : V.cells (.msl a b c d) = some [.msl a b c d] := Eq.trans rfl rfl
@[simp] theorem cells_int {k : IntKind} {n : Int} : V.cells (.int k n) = some [.int k n] := Eq.trans rfl rfl
@[simp] theorem cells_bool {b : Bool} : V.cells (.bool b) = some [.bool b] := Eq.trans rfl rfl
@[simp] theorem cells_str {b : ByteArray} : V.cells (.str b) = some [.str b] := Eq.trans rfl rfl
@[simp] theorem cells_ptr {a b c d : Nat} : V.cells (.ptr a b c d) = some [.ptr a b c d] := Eq.trans rfl rfl
@[simp] theorem cells_eptr {a : List V} {b : Nat} : V.cells (.eptr a b) = some [.eptr a b] := Eq.trans rfl rfl
@[simp] theorem cells_nilp : V.cells .nilp = some [.nilp] := Eq.trans rfl rfl
@[simp] theorem cells_nilm : V.cells .nilm = some [.nilm] := Eq.trans rfl rfl
@[simp] theorem cells_nilf : V.cells .nilf = some [.nilf] := Eq.trans rfl rfl
@[simp] theorem cells_map {a b : Nat} : V.cells (.map a b) = some [.map a b] := Eq.trans rfl rfl
@[simp] theorem cells_yld {a b : Nat} : V.cells (.yld a b) = some [.yld a b] := Eq.trans rfl rfl
@[simp] theorem cells_fn {f : Fn} {a b : List V} : V.cells (.fn f a b) = some [.fn f a b] := Eq.trans rfl rfl
@[simp] theorem push_mk {l : List (Option (Nat × Obj))} {n : Nat} {o : Obj} : St.push ⟨l, n⟩ o = ⟨l ++ [some (n, o)], n + 1⟩ := Eq.trans rfl rfl
@[simp] theorem set_mk {l : List (Option (Nat × Obj))} {n id ver : Nat} {o : Obj} : St.set ⟨l, n⟩ id ver o = ⟨l.set id (some (ver, o)), n⟩ := Eq.trans rfl rfl
@[simp] theorem setO_mk {l : List (Option (Nat × Obj))} {n id ver : Nat} {o : Obj} : St.setO ⟨l, n⟩ id ver o = ⟨l.set id (some (ver, o)), n⟩ := Eq.trans rfl rfl
@[simp] theorem renew_mk {l : List (Option (Nat × Obj))} {n id : Nat} {o : Obj} : St.renew ⟨l, n⟩ id o = ⟨l.set id (some (n, o)), n + 1⟩ := Eq.trans rfl rfl
@[simp] theorem gone_mk {l : List (Option (Nat × Obj))} {n id : Nat} : St.gone ⟨l, n⟩ id = ⟨l.set id none, n⟩ := Eq.trans rfl rfl
@[simp] theorem get_mk {l : List (Option (Nat × Obj))} {n id ver : Nat} : St.get ⟨l, n⟩ id ver = match l[id]? with | some (some (v, o)) => if v = ver then some o else none | _ => none := Eq.trans rfl rfl
@[simp] theorem store_ptr {st : St} {id ver i off : Nat} {vs : List V} : st.store (.ptr id ver i off) vs = match st.get id ver with
  | some (.mem sz es) =>
   match es[i]? with
   | some e => if off + vs.length ≤ e.length then some (st.set id ver (.mem sz (es.set i (splice e off vs)))) else none
   | none => none
  | _ => none := Eq.trans rfl rfl
@[simp] theorem binV_int {op : BinOp} {k : IntKind} {a b : Int} (h1 : op ≠ .shl) (h2 : op ≠ .shr) : binV op (.int k a) (.int k b) = intBin op k a b := by
 cases op <;> simp_all [binV]
@[simp] theorem binV_shl {k k' : IntKind} {a b : Int} : binV .shl (.int k a) (.int k' b) = if b < 0 then none else some (.int k (k.wrap (a * 2 ^ min b.toNat k.bits))) := Eq.trans rfl rfl
@[simp] theorem binV_shr {k k' : IntKind} {a b : Int} : binV .shr (.int k a) (.int k' b) = if b < 0 then none else some (.int k (a.fdiv (2 ^ min b.toNat k.bits))) := Eq.trans rfl rfl
@[simp] theorem binV_str {op : BinOp} {a b : ByteArray} : binV op (.str a) (.str b) = strBin op a b := Eq.trans rfl rfl
@[simp] theorem intBin_add {k : IntKind} {x y : Int} : intBin .add k x y = some (.int k (k.wrap (x + y))) := Eq.trans rfl rfl
@[simp] theorem intBin_sub {k : IntKind} {x y : Int} : intBin .sub k x y = some (.int k (k.wrap (x - y))) := Eq.trans rfl rfl
@[simp] theorem intBin_mul {k : IntKind} {x y : Int} : intBin .mul k x y = some (.int k (k.wrap (x * y))) := Eq.trans rfl rfl
@[simp] theorem intBin_quo {k : IntKind} {x y : Int} : intBin .quo k x y = if y = 0 then none else some (.int k (k.wrap (x.tdiv y))) := Eq.trans rfl rfl
@[simp] theorem intBin_rem {k : IntKind} {x y : Int} : intBin .rem k x y = if y = 0 then none else some (.int k (x.tmod y)) := Eq.trans rfl rfl
@[simp] theorem intBin_eql {k : IntKind} {x y : Int} : intBin .eql k x y = some (.bool (decide (x = y))) := by simp only [intBin]; congr 2
@[simp] theorem intBin_neq {k : IntKind} {x y : Int} : intBin .neq k x y = some (.bool (!decide (x = y))) := by simp only [intBin]; congr 2
@[simp] theorem intBin_lss {k : IntKind} {x y : Int} : intBin .lss k x y = some (.bool (decide (x < y))) := Eq.trans rfl rfl
@[simp] theorem intBin_leq {k : IntKind} {x y : Int} : intBin .leq k x y = some (.bool (decide (x ≤ y))) := Eq.trans rfl rfl
@[simp] theorem intBin_gtr {k : IntKind} {x y : Int} : intBin .gtr k x y = some (.bool (decide (y < x))) := Eq.trans rfl rfl
@[simp] theorem intBin_geq {k : IntKind} {x y : Int} : intBin .geq k x y = some (.bool (decide (y ≤ x))) := Eq.trans rfl rfl
@[simp] theorem idxV_sl {st : St} {sz : Nat} {k : SK} {es sp : List (List V)} {k' : IntKind} {n : Int} : idxV st sz (.sl k sz es sp) (.int k' n) = if 0 ≤ n ∧ n < es.length then some (.eptr (es.getD n.toNat []) 0) else none := by simp [idxV]
@[simp] theorem idxV_msl {st : St} {sz id ver off len : Nat} {k' : IntKind} {n : Int} : idxV st sz (.msl id ver off len) (.int k' n) = match st.get id ver with
   | some (.mem sz' _) => if 0 ≤ n ∧ n < len ∧ sz' = sz then some (.ptr id ver (off + n.toNat) 0) else none
   | _ => none := Eq.trans rfl rfl
@[simp] theorem view_sl {st : St} {sz : Nat} {k : SK} {es sp : List (List V)} : st.view sz (.sl k sz es sp) = some es := by simp [St.view]
@[simp] theorem view_nil {st : St} {sz sz' : Nat} {k : SK} {sp : List (List V)} : st.view sz (.sl k sz' [] sp) = some [] := by simp [St.view]
@[simp] theorem view_msl {st : St} {sz id ver off len : Nat} : st.view sz (.msl id ver off len) = match st.get id ver with
  | some (.mem sz' es) => if sz' = sz ∧ off + len ≤ es.length then some ((es.drop off).take len) else none
  | _ => none := Eq.trans rfl rfl
@[simp] theorem appendV_nil {st : St} {sz sz' bytes : Nat} {ys : List (List V)} : appendV st sz bytes (.sl .nil sz' [] []) ys = if ys = [] then some (.sl .nil sz' [] [], st) else if ys.length * bytes ≤ 2 ^ 47 then some (.msl st.objs.length st.nv 0 ys.length, st.push (.mem sz ys)) else none := by
 cases ys <;> simp [appendV]
@[simp] theorem appendV_msl {st : St} {sz bytes id ver off len : Nat} {ys : List (List V)} : appendV st sz bytes (.msl id ver off len) ys = match st.get id ver with
  | some (.mem sz' es) =>
   if sz' = sz ∧ off + len ≤ es.length ∧ (len + ys.length) * bytes ≤ 2 ^ 47 then
    if es.length = off + len then some (.msl id st.nv 0 (len + ys.length), st.renew id (.mem sz (es.drop off ++ ys)))
    else if off + len + ys.length ≤ es.length then some (.msl id ver off (len + ys.length), st.set id ver (.mem sz (splice es (off + len) ys)))
    else some (.msl id st.nv 0 (len + ys.length), st.renew id (.mem sz ((es.drop off).take len ++ ys)))
   else none
  | _ => none := Eq.trans rfl rfl
@[simp] theorem eqsV_bool {a b : Bool} : eqsV .bool (.bool a) (.bool b) = some (a == b) := Eq.trans rfl rfl
@[simp] theorem eqsV_flat {ls : List LC} {as bs : List V} : eqsV (.flat ls) (.agg as) (.agg bs) = eqLs ls as bs := Eq.trans rfl rfl
@[simp] theorem eqLs_nil : eqLs [] [] [] = some true := Eq.trans rfl rfl
@[simp] theorem eqLs_int1 {k : IntKind} {a b : Int} : eqLs [.int] [.int k a] [.int k b] = some (decide (a = b)) := by by_cases h : a = b <;> simp [eqLs, eqL, h]
@[simp] theorem eqLs_bool1 {a b : Bool} : eqLs [.bool] [.bool a] [.bool b] = some (a == b) := by simp [eqLs, eqL]
@[simp] theorem eqLs_str1 {a b : ByteArray} : eqLs [.str] [.str a] [.str b] = some (a == b) := by simp [eqLs, eqL]
@[simp] theorem eqLs_int {c : LC} {ls : List LC} {k : IntKind} {a b : Int} {as bs : List V} : eqLs (.int :: c :: ls) (.int k a :: as) (.int k b :: bs) = (eqLs (c :: ls) as bs).map (decide (a = b) && ·) := by
 simp only [eqLs, eqL, if_true]; cases eqLs (c :: ls) as bs <;> by_cases h : a = b <;> simp [h]
@[simp] theorem eqLs_bool {c : LC} {ls : List LC} {a b : Bool} {as bs : List V} : eqLs (.bool :: c :: ls) (.bool a :: as) (.bool b :: bs) = (eqLs (c :: ls) as bs).map ((a == b) && ·) := by
 simp only [eqLs, eqL]; cases eqLs (c :: ls) as bs <;> rfl
@[simp] theorem eqLs_str {c : LC} {ls : List LC} {a b : ByteArray} {as bs : List V} : eqLs (.str :: c :: ls) (.str a :: as) (.str b :: bs) = (eqLs (c :: ls) as bs).map ((a == b) && ·) := by
 simp only [eqLs, eqL]; cases eqLs (c :: ls) as bs <;> rfl
@[simp] theorem entries_nil {st : St} : st.entries .nilm = some [] := Eq.trans rfl rfl
@[simp] theorem entries_map {st : St} {id ver : Nat} : st.entries (.map id ver) = match st.get id ver with | some (.map _ es) => some es | _ => none := Eq.trans rfl rfl
@[simp] theorem mfindK_one {c : LC} {k : V} {es : List (V × V)} : mfindK (.one c) k es = mfind (.one c) k es 0 := Eq.trans rfl rfl
@[simp] theorem sliceV_sl {st : St} {sz : Nat} {k : SK} {es sp : List (List V)} {lo hi : Option V} : sliceV st sz (.sl k sz es sp) lo hi none = (bounds es.length (es.length + sp.length) lo hi).map fun (l, h) =>
     .sl (if k = .nil then .nil else if k = .unk ∧ es.length + sp.length = 0 then .unk else .nn) sz (((es ++ sp).drop l).take (h - l)) ((es ++ sp).drop h) := by simp [sliceV]
@[simp] theorem sliceV_msl {st : St} {sz id ver off len : Nat} {lo hi : Option V} : sliceV st sz (.msl id ver off len) lo hi none = match st.get id ver with
  | some (.mem sz' es) => if sz' = sz ∧ off + len ≤ es.length then (bounds len (es.length - off) lo hi).map fun (l, h) => .msl id ver (off + l) (h - l) else none
  | _ => none := Eq.trans rfl rfl

/-! a call -/
theorem inv_fn {k : FuncId} {first cap args : List V} {st : St} {K : V → St → Prop} (h : ACalls P k (first ++ args ++ cap) st K) : @inv P (.fn (.func k) first cap) args st ⟨K⟩ := (AInvE_fn h).inv
theorem inv_p {k : FuncId} {first cap args args' : List V} {R : V → Prop} (h : PCalls P k args' R) {st : St} {K : V → St → Prop} (e : first ++ args ++ cap = args') (hp : pureL args' = true) (hk : ∀ r, R r → K r st) : @inv P (.fn (.func k) first cap) args st ⟨K⟩ := inv_fn (by rw [e]; exact h.at hp hk)

/-! ghost steps on values -/
theorem GhostV.sub {vs : List V} {st st' : St} {K : List V → St → Prop} (hnv : st'.nv = st.nv) (h : ∀ (id : Nat) (x : Nat × Obj), st'.objs[id]? = some (some x) → st.objs[id]? = some (some x)) (hk : K vs st') : GhostV vs st K :=
 ⟨vs, st', rfl, fun _ g _ hs => ⟨g, .refl g, rfl, hs.sub hnv id h (fun _ _ _ _ _ _ e => e), fun _ _ h => h⟩, hk⟩
theorem GhostV.take {vs : List V} {st : St} {K : List V → St → Prop} (k : Nat) (hk : K vs ⟨st.objs.take k, st.nv⟩) : GhostV vs st K :=
 GhostV.sub (st' := ⟨st.objs.take k, st.nv⟩) rfl (fun id x h => by
  simp only [List.getElem?_take] at h
  split at h
  ·exact h
  ·cases h) hk
theorem GhostV.skip {vs : List V} {st : St} {K : List V → St → Prop} (k : Nat) (h : st.nv ≤ k) (hk : K vs ⟨st.objs, k⟩) : GhostV vs st K :=
 ⟨vs, _, rfl, fun _ g _ hs => ⟨g.skip k, (hs.skip k h).1, rfl, (hs.skip k h).2, fun _ _ hx => hx.mono (hs.skip k h).1⟩, hk⟩
theorem GhostV.trans {vs : List V} {st : St} {K K' : List V → St → Prop} (h : GhostV vs st K) (hk : ∀ vs st, K vs st → GhostV vs st K') : GhostV vs st K' := by
 obtain ⟨vs1, st1, l1, h1, k1⟩ := h
 obtain ⟨vs2, st2, l2, h2, k2⟩ := hk vs1 st1 k1
 refine ⟨vs2, st2, l2.trans l1, fun P g w hs => ?_, k2⟩
 obtain ⟨g1, a1, a2, a3, a4⟩ := h1 P g w hs
 obtain ⟨g2, b1, b2, b3, b4⟩ := h2 P g1 w a3
 exact ⟨g2, a1.trans b1, b2.trans a2, b3, fun i x hx => b4 i x (a4 i x hx)⟩
theorem GhostV.freeze {vs vs' : List V} {st st' : St} {K : List V → St → Prop} {id ver sz : Nat} {es : List (List V)} (ho : st.get id ver = some (.mem sz es)) (hnv : st'.nv = st.nv) (hl : vs'.length = vs.length)
  (hfr : ∀ i, Frz ver sz es (vs.getD i .junk) (vs'.getD i .junk)) (hobj : ∀ (id1 ver1 : Nat) (o1 : Obj), st'.objs[id1]? = some (some (ver1, o1)) → id1 ≠ id ∧ ∃ o0, st.objs[id1]? = some (some (ver1, o0)) ∧ OFrz ver sz es o0 o1)
  (hk : K vs' st') : GhostV vs st K :=
 ⟨vs', st', hl, fun P g w hs => let ⟨g', h1, h2, h3, h4⟩ := freeze_core ho hnv hobj P g w hs; ⟨g', h1, h2, h3, fun i x hx => h4 _ _ _ (hfr i) hx⟩, hk⟩
theorem GhostV.frozen1 {st : St} {K : List V → St → Prop} {id ver sz off len : Nat} {es : List (List V)} (ho : st.get id ver = some (.mem sz es)) (h : off + len ≤ es.length)
  (hk : K [.sl .unk sz ((es.drop off).take len) ((es.drop off).drop len)] ⟨[], st.nv⟩) : GhostV [.msl id ver off len] st K :=
 GhostV.freeze (vs' := [.sl .unk sz ((es.drop off).take len) ((es.drop off).drop len)]) (st' := ⟨[], st.nv⟩) ho rfl rfl (fun i => by
  cases i with
  | zero => exact .msl id off len h
  | succ i => simpa using Frz.refl _) (fun id1 ver1 o1 h => by simp at h) hk
theorem GhostV.nils {vs vs' : List V} {st st' : St} {K : List V → St → Prop} {sz : Nat} (h0 : 0 < sz) (hl : vs'.length = vs.length) (hst : st' = st.push (.mem sz []))
    (hfr : ∀ i, Nz st.objs.length st.nv (vs.getD i .junk) (vs'.getD i .junk)) (hk : K vs' st') : GhostV vs st K := by
  subst hst
  refine ⟨vs', _, hl, fun P g w hs => ?_, hk⟩
  obtain ⟨g', h1, h2, h3, h4⟩ := nils_core (st := st) (st' := st.push (.mem sz [])) (id := st.objs.length) (sz := sz) h0 rfl (fun id1 ver1 o1 h => by
    simp only [St.push] at h
    by_cases e : id1 < st.objs.length
    · rw [List.getElem?_append_left e] at h
      exact .inr ⟨e, o1, h, .inl rfl⟩
    · rw [List.getElem?_append_right (by omega)] at h
      have h0 : id1 - st.objs.length = 0 := by have := (List.getElem?_eq_some_iff.1 h).1; simp at this; omega
      rw [h0] at h; simp at h
      exact .inl ⟨by omega, h.1.symm, h.2.symm⟩) P g w hs
  exact ⟨g', h1, h2, h3, fun i x hx => h4 _ _ _ (hfr i) hx⟩

theorem PCalls.of {f : FuncId} {args : List V} {R : V → Prop} (h : ∀ K, (∀ r st, r.pure = true → R r → K r st) → ACalls P f args st0 K) : PCalls P f args R := h _ fun r st h1 h2 => ⟨h1, h2⟩

end Go.Proofs.Ytmjnpfackanhlaa.AM
