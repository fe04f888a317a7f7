/- The abstract layer, without frames: annotated code. -/
import Derived.Test.YtmjnpfackanhlaaAmH
namespace Go.Proofs.Ytmjnpfackanhlaa.AM
open Go Go.RowKit
set_option linter.unusedSimpArgs false
set_option linter.unusedVariables false
variable {P : Program}

/-! ghost steps on values -/
def GhostV (vs : List V) (st : St) (K : List V → St → Prop) : Prop :=
 ∃ vs' st', vs'.length = vs.length ∧ (∀ (P : Program) (g : G) (w : World), Sim P g st w → ∃ g', g.le g' ∧ g'.dfr = g.dfr ∧ Sim P g' st' w ∧ ∀ i x, VRel g (vs.getD i .junk) x → VRel g' (vs'.getD i .junk) x) ∧ K vs' st'

theorem GhostV.refl {vs : List V} {st : St} {K : List V → St → Prop} (h : K vs st) : GhostV vs st K :=
 ⟨vs, st, rfl, fun _ g _ hs => ⟨g, .refl g, rfl, hs, fun _ _ h => h⟩, h⟩

/-! relations over rows of values -/
def Rel : Nat → Type
 | 0 => St → Prop
 | n + 1 => V → Rel n
def app : {n : Nat} → Rel n → List V → St → Prop
 | 0, R, _, st => R st
 | _ + 1, R, [], st => app (R .junk) [] st
 | _ + 1, R, v :: l, st => app (R v) l st
def allR : Nat → (List V → St → Prop) → Prop
 | 0, B => ∀ st, B [] st
 | n + 1, B => ∀ v, allR n fun l => B (v :: l)
def allV : Nat → (List V → Prop) → Prop
 | 0, B => B []
 | n + 1, B => ∀ v, allV n fun l => B (v :: l)
theorem allR_iff : ∀ (n : Nat) {B : List V → St → Prop}, allR n B ↔ ∀ l st, l.length = n → B l st
 | 0, B => ⟨fun h l st hl => by obtain rfl := List.eq_nil_of_length_eq_zero hl; exact h st, fun h st => h [] st rfl⟩
 | n + 1, B => by
  simp only [allR]
  constructor
  ·intro h l st hl
   cases l with
   | nil => simp at hl
   | cons v l => exact (allR_iff n).1 (h v) l st (by simpa using hl)
  ·intro h v
   exact (allR_iff n).2 (fun l st hl => h (v :: l) st (by simp [hl]))
theorem allV_iff : ∀ (n : Nat) {B : List V → Prop}, allV n B ↔ ∀ l, l.length = n → B l
 | 0, B => ⟨fun h l hl => by obtain rfl := List.eq_nil_of_length_eq_zero hl; exact h, fun h => h [] rfl⟩
 | n + 1, B => by
  simp only [allV]
  constructor
  ·intro h l hl
   cases l with
   | nil => simp at hl
   | cons v l => exact (allV_iff n).1 (h v) l (by simpa using hl)
  ·intro h v
   exact (allV_iff n).2 (fun l hl => h (v :: l) (by simp [hl]))

/-! annotated code -/
inductive ACode where
 | skip
 | reg (ops : List ROp)
 | regD (ops : List ROp) (sch : Sch)
 | seq (a b : ACode)
 | join (ls ds : List Nat) (a b : ACode)
 | cond (c : X) (a b : ACode)
 | block (id : Nat) (c : ACode)
 | loop (ls ds : List Nat) (c : ACode)
 | rfunc (f : X) (ps : List Nat) (assign body : ACode)
 | exit (id : Nat)
 | ret

def ACode.er : ACode → RCode
 | .skip => .skip
 | .reg ops => .reg ops
 | .regD ops sch => .regD ops sch
 | .seq a b => .seq a.er b.er
 | .join _ _ a b => .seq a.er b.er
 | .cond c a b => .cond c a.er b.er
 | .block id c => .block id c.er
 | .loop _ _ c => .loop c.er
 | .rfunc f ps a b => .rfunc f ps a.er b.er
 | .exit id => .exit id
 | .ret => .ret

def dsts (ops : List ROp) : List Nat := ops.filterMap (·.dst)
def ACode.asg : ACode → List Nat
 | .reg ops => dsts ops
 | .regD ops sch => dsts (sch.map fun s => ops.getD s.1 default)
 | .seq a b => a.asg ++ b.asg
 | .join _ _ a b => a.asg ++ b.asg
 | .cond _ a b => a.asg ++ b.asg
 | .block _ c => c.asg
 | .loop _ _ c => c.asg
 | _ => []
def ACode.ok : ACode → Bool
 | .seq a b => a.ok && b.ok
 | .join ls ds a b => a.ok && b.ok && a.asg.all (ds.contains ·) && ds.all (a.asg.contains ·) && ls.all (ds.contains ·)
 | .cond _ a b => a.ok && b.ok
 | .block _ c => c.ok
 | .loop ls ds c => c.ok && c.asg.all (ds.contains ·) && ds.all (c.asg.contains ·) && ls.all (ds.contains ·)
 | .rfunc _ _ a b => a.ok && b.ok && a.er.norf && b.er.norf
 | _ => true

abbrev junkd (fr : Fr) (ds : List Nat) : Fr := fun s => if ds.contains s then .junk else fr s
abbrev mkFr (fr : Fr) (ls ds : List Nat) (vs : List V) : Fr := updl (junkd fr ds) ls vs

def hend (s : LSt) (A B : Prop) (C : Nat → Prop) : Prop :=
 match s with
 | .ready => A
 | .busy => False
 | .done .ret => B
 | .done (.exit id) => C id

abbrev hyldQ (id ver : Nat) (LP : LSt → Obj) (K : V → St → Prop) : APost
 | .normal, _, st => st.get id ver = some (LP .busy) ∧ K (.bool true) (st.setO id ver (LP .ready))
 | .ret, _, st => st.get id ver = some (LP .busy) ∧ K (.bool false) (st.setO id ver (LP (.done .ret)))
 | .exit k, _, st => st.get id ver = some (LP .busy) ∧ K (.bool false) (st.setO id ver (LP (.done (.exit k))))

def hcond (v : V) (A B : Prop) : Prop :=
 match v with
 | .bool t => (t = true → A) ∧ (t = false → B)
 | _ => False

abbrev thenH (K : Fr → St → Prop) (Q : APost) : APost := fun e => match e with
 | .normal => K
 | e => Q e
abbrev blockH (id : Nat) (Q : APost) : APost := fun e => match e with
 | .exit id' => fun fr st => if id' = id then Q .normal fr st else Q (.exit id') fr st
 | e => Q e

abbrev hwp (P : Program) (c : ACode) : APost → Fr → St → Prop :=
 ACode.rec (motive := fun _ => APost → Fr → St → Prop)
  (fun Q fr st => Q .normal fr st)
  (fun ops Q => hreg P ops (Q .normal))
  (fun ops sch Q => hregD P ops sch (Q .normal))
  (fun _ _ ia ib Q => ia (thenH (ib Q) Q))
  (fun ls ds _ _ ia ib Q fr st => ∃ J : Rel ls.length, ia (thenH (fun fr' st' => GhostV (ls.map fr') st' (app J)) Q) fr st ∧ allR ls.length fun vs st' => app J vs st' → ib Q (mkFr fr ls ds vs) st')
  (fun c _ _ ia ib Q fr st => hcond (c.ev fr) (ia Q fr st) (ib Q fr st))
  (fun id _ ic Q => ic (blockH id Q))
  (fun ls ds _ ic Q fr st => ∃ I : Nat → Rel ls.length, (∃ k, GhostV (ls.map fr) st (app (I k))) ∧
   ∀ k, allR ls.length fun vs st' => app (I k) vs st' → ic (thenH (fun fr2 st2 => ∃ j, j < k ∧ GhostV (ls.map fr2) st2 (app (I j))) Q) (mkFr fr ls ds vs) st')
  (fun f ps _ _ ia ib Q fr st => ∀ LP : LSt → Obj,
   (∀ st1 K, allV ps.length fun args => st1.get st.objs.length st.nv = some (LP .ready) →
    ia (thenH (fun fr2 st2 => st2.get st.objs.length st.nv = some (LP .ready) ∧ ib (hyldQ st.objs.length st.nv LP K) fr2 (st2.setO st.objs.length st.nv (LP .busy))) noQ) (updl fr ps args) st1 →
    AInv P (.yld st.objs.length st.nv) args st1 K) →
   AInvE P (f.ev fr) [.yld st.objs.length st.nv] (st.push (LP .ready)) fun _ st' =>
    ∃ s, st'.get st.objs.length st.nv = some (LP s) ∧ hend s (Q .normal fr (st'.gone st.objs.length)) (Q .ret fr (st'.gone st.objs.length)) (fun id => Q (.exit id) fr (st'.gone st.objs.length)))
  (fun id Q fr st => Q (.exit id) fr st)
  (fun Q fr st => Q .ret fr st)
  c

def RCode.psOk (n : Nat) : RCode → Bool
 | .seq a b => a.psOk n && b.psOk n
 | .cond _ a b => a.psOk n && b.psOk n
 | .block _ c => c.psOk n
 | .loop c => c.psOk n
 | .rfunc _ ps a b => ps.all (fun p => p < n) && a.psOk n && b.psOk n
 | _ => true

end Go.Proofs.Ytmjnpfackanhlaa.AM
