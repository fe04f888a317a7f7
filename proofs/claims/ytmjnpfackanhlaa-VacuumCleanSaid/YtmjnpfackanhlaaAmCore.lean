/- The abstract layer: values, states, the relation to the model's worlds. -/
import Derived.CallsIn
import Derived.Below
import Derived.OrdersIn
import Derived.RangeFuncIn
import Derived.Laws.Sem
import Derived.KernelRfl
namespace Go.Proofs.Ytmjnpfackanhlaa.AM
open Go

inductive SK where
 | nil | nn | cap0 | unk
 deriving DecidableEq, Inhabited

inductive V where
 | bool (b : Bool)
 | int (k : IntKind) (n : Int)
 | str (s : ByteArray)
 | nilp
 | ptr (id ver i off : Nat)
 | eptr (cs : List V) (off : Nat)
 | sl (k : SK) (sz : Nat) (es sp : List (List V))
 | msl (id ver off len : Nat)
 | asl (id ver i off n sz : Nat)
 | mcut (id ver len : Nat)
 | nilm
 | map (id ver : Nat)
 | it (id ver : Nat)
 | fn (f : Fn) (first cap : List V)
 | yld (id ver : Nat)
 | nilf
 | agg (cs : List V)
 | tup (vs : List V)
 | nili
 | iface (t : Nat) (v : V)
 | junk
 deriving Inhabited

inductive X where
 | s (n : Nat)
 | c (v : V)
 deriving Inhabited

inductive LC where
 | bool | int | str
 deriving DecidableEq, Inhabited
inductive EC where
 | bool | ptr | sl | map | func | flat (ls : List LC)
 deriving DecidableEq, Inhabited
inductive KC where
 | one (c : LC) | many (ls : List LC)
 deriving DecidableEq, Inhabited

inductive LK where
 | sl | str | map
 deriving DecidableEq, Inhabited

inductive RO where
 | mov (x : X)
 | pick (c a b : X)
 | alloc (zero : List V)
 | box (x : X)
 | build (zero : List V) (parts : List (Nat × Nat × X))
 | mkSl (sz len : Nat) (zero : List V) (parts : List (Nat × X))
 | ld (sz : Option Nat) (a : X)
 | st (sz : Nat) (a x : X)
 | nilchk (x : X)
 | fld (off : Nat) (x : X)
 | fldV (off : Nat) (sz : Option Nat) (x : X)
 | idx (sz : Nat) (x i : X)
 | idxA (len sz : Nat) (x i : X)
 | idxV (len sz : Nat) (g : Bool) (x i : X)
 | idxS (x i : X)
 | bin (op : BinOp) (x y : X)
 | eqs (neg : Bool) (ec : EC) (x y : X)
 | un (op : UnOp) (x : X)
 | conv (k : IntKind) (x : X)
 | slice (sz : Nat) (x : X) (lo hi mx : Option X)
 | sliceS (x : X) (lo hi : Option X)
 | ext (i : Nat) (x : X)
 | mkfn (f : Fn) (first cap : List X)
 | mkmap
 | lookup (kc : KC) (zero : V) (ok : Bool) (m k : X)
 | mupd (kc : KC) (m k v : X)
 | mdel (kc : KC) (m k : X)
 | range (m : X)
 | next (it : X)
 | entry (it : X)
 | len (c : LK) (x : X)
 | append (sz bytes : Nat) (x y : X)
 | copy (sz : Nat) (x y : X)
 | minmax (mx : Bool) (x : X) (xs : List X)
 | call (f : X) (args : List X)
 | mksl (sz bytes : Nat) (zero : List V) (len cap : X)
 | cap (x : X)
 | clear (zero : List V) (x : X)
 | appf (sz bytes : Nat) (x y : X)
 | strOf (x : X)
 | sliceA (n sz : Nat) (x : X)
 | dead
 deriving Inhabited

structure ROp where
 dst : Option Nat
 guard : Option (Nat × Bool)
 rhs : RO
 deriving Inhabited

inductive RCode where
 | skip
 | reg (ops : List ROp)
 | regD (ops : List ROp) (sch : List (Nat × Bool × List Nat))
 | seq (a b : RCode)
 | cond (c : X) (a b : RCode)
 | block (id : Nat) (c : RCode)
 | loop (c : RCode)
 | rfunc (f : X) (ps : List Nat) (assign body : RCode)
 | exit (id : Nat)
 | ret
 deriving Inhabited

abbrev Fr := Nat → V

inductive Jump where
 | ret
 | exit (id : Nat)

inductive LSt where
 | ready | busy | done (j : Jump)

inductive Obj where
 | mem (sz : Nat) (es : List (List V))
 | map (ep : Nat) (es : List (V × V))
 | iter (id ver ep : Nat) (seen : List Nat)
 | loop (fr : Fr) (n : Nat) (ps : List Nat) (assign body : RCode) (s : LSt)
 deriving Inhabited

structure St where
 objs : List (Option (Nat × Obj))
 nv : Nat
 deriving Inhabited

/-! ### the ghost -/
structure Loc where
 blk : Option Nat
 o : Nat
 sz : Nat
 T : Nat
 deriving Inhabited

structure G where
 B : Nat
 w0 : World
 nv : Nat
 loc : Nat → Option Loc
 imm : Nat → Nat → Option Value
 born : Nat → List Nat
 clk : Nat → Nat
 dfr : List (Nat × Go.Obj)

structure G.le (g g' : G) : Prop where
 B : g'.B = g.B
 w0 : g'.w0 = g.w0
 nv : g.nv ≤ g'.nv
 loc : ∀ v L, g.loc v = some L → g'.loc v = some L
 born : ∀ v, v < g.nv → g'.born v = g.born v
 clk : ∀ v, v < g.nv → g'.clk v = g.clk v
 imm : ∀ b o x, g.imm b o = some x → g'.imm b o = some x
 immB : ∀ b o x, b < g.B → g'.imm b o = some x → g.imm b o = some x

theorem G.le.refl (g : G) : g.le g := ⟨rfl, rfl, Nat.le_refl _, fun _ _ h => h, fun _ _ => rfl, fun _ _ => rfl, fun _ _ _ h => h, fun _ _ _ _ h => h⟩
theorem G.le.trans {a b c : G} (h : a.le b) (k : b.le c) : a.le c :=
  ⟨k.B.trans h.B, k.w0.trans h.w0, Nat.le_trans h.nv k.nv,
   fun v L hv => k.loc v L (h.loc v L hv),
   fun v hv => (k.born v (Nat.lt_of_lt_of_le hv h.nv)).trans (h.born v hv),
   fun v hv => (k.clk v (Nat.lt_of_lt_of_le hv h.nv)).trans (h.clk v hv),
   fun b o x hx => k.imm b o x (h.imm b o x hx),
   fun b o x hb hx => h.immB b o x hb (k.immB b o x (by rw [h.B]; exact hb) hx)⟩

inductive VRel (g : G) : V → Value → Prop where
 | bool (b : Bool) : VRel g (.bool b) (.bool b)
 | int (k : IntKind) (n : Int) : VRel g (.int k n) (.int k n)
 | str (s : ByteArray) : VRel g (.str s) (.string s)
 | nilp : VRel g .nilp (.pointer none)
 | ptr (id ver i off b : Nat) (L : Loc) (hL : g.loc ver = some L) (hb : L.blk = some b) :
   VRel g (.ptr id ver i off) (.pointer (some ⟨b, L.o + i * L.sz + off, none⟩))
 | eptr (cs : List V) (off b o : Nat) (vals : Nat → Value) (hi : ∀ j, j < cs.length → g.imm b (o + j) = some (vals j))
   (hr : ∀ j, j < cs.length → VRel g (cs.getD j .junk) (vals j)) : VRel g (.eptr cs off) (.pointer (some ⟨b, o + off, none⟩))
 | sl (k : SK) (sz : Nat) (es sp : List (List V)) (b o cap : Nat) (vals : Nat → Nat → Value) (hk : k ≠ .nil) (hk0 : k = .cap0 → cap = 0) (hsz : 0 < sz)
   (hc : (es ++ sp).length ≤ cap) (he : ∀ i, i < (es ++ sp).length → ((es ++ sp).getD i []).length = sz)
   (hi : ∀ i j, i < (es ++ sp).length → j < sz → g.imm b (o + i * sz + j) = some (vals i j))
   (hr : ∀ i j, i < (es ++ sp).length → j < sz → VRel g (((es ++ sp).getD i []).getD j .junk) (vals i j)) :
   VRel g (.sl k sz es sp) (.slice (some ⟨b, o, none⟩) es.length cap)
 | snil (k : SK) (sz : Nat) (hk : k = .nil ∨ k = .unk) : VRel g (.sl k sz [] []) (.slice none 0 0)
 | semp (k : SK) (sz : Nat) (a : Addr) (cap : Nat) (hk : k ≠ .nil) (hk0 : k = .cap0 → cap = 0) : VRel g (.sl k sz [] []) (.slice (some a) 0 cap)
 | msl (id ver off len b : Nat) (a : Addr) (L : Loc) (hL : g.loc ver = some L) (hb : L.blk = some b) (hT : off + len ≤ L.T) (ha : off < L.T → a = ⟨b, L.o + off * L.sz, none⟩) (hp : a.spot = none) :
   VRel g (.msl id ver off len) (.slice (some a) len (L.T - off))
 | mnil (id ver : Nat) (L : Loc) (hL : g.loc ver = some L) (hb : L.blk = none) : VRel g (.msl id ver 0 0) (.slice none 0 0)
 | asl (id ver i off n sz b : Nat) (L : Loc) (hL : g.loc ver = some L) (hb : L.blk = some b) :
   VRel g (.asl id ver i off n sz) (.slice (some ⟨b, L.o + i * L.sz + off, none⟩) n n)
 | mcut (id ver len b : Nat) (a : Addr) (L : Loc) (hL : g.loc ver = some L) (hb : L.blk = some b) (hT : len ≤ L.T) (ha : 0 < L.T → a = ⟨b, L.o, none⟩) (hp : a.spot = none) :
   VRel g (.mcut id ver len) (.slice (some a) len len)
 | mcutn (id ver : Nat) (L : Loc) (hL : g.loc ver = some L) (hb : L.blk = none) : VRel g (.mcut id ver 0) (.slice none 0 0)
 | nilm : VRel g .nilm (.map none)
 | map (id ver b : Nat) (L : Loc) (hL : g.loc ver = some L) (hb : L.blk = some b) : VRel g (.map id ver) (.map (some b))
 | iter (id ver b : Nat) (L : Loc) (hL : g.loc ver = some L) (hb : L.blk = some b) : VRel g (.it id ver) (.pointer (some ⟨b, 0, none⟩))
 | fn (f : Fn) (first cap : List V) (fs cs : Array Value) (hf : first.length = fs.size) (hc : cap.length = cs.size)
   (h1 : ∀ i, i < first.length → VRel g (first.getD i .junk) (fs.getD i undef))
   (h2 : ∀ i, i < cap.length → VRel g (cap.getD i .junk) (cs.getD i undef)) : VRel g (.fn f first cap) (.func f fs cs)
 | yld (id ver b : Nat) (L : Loc) (hL : g.loc ver = some L) (hb : L.blk = some b) : VRel g (.yld id ver) (.func (.yield b) #[] #[])
 | nilf : VRel g .nilf .nilFunc
 | agg (cs : List V) (vs : Array Value) (hl : cs.length = vs.size) (h : ∀ i, i < cs.length → VRel g (cs.getD i .junk) (vs.getD i undef))
   (h1 : ∀ i, i < cs.length → (vs.getD i undef).oneCell' = true) : VRel g (.agg cs) (.agg vs)
 | tup (cs : List V) (vs : Array Value) (hl : cs.length = vs.size) (h : ∀ i, i < cs.length → VRel g (cs.getD i .junk) (vs.getD i undef)) :
   VRel g (.tup cs) (.tuple vs)
 | nili : VRel g .nili .nilIface
 | iface (t : Nat) (v : V) (x : Value) (h : VRel g v x) : VRel g (.iface t v) (.iface t x)
 | junk (x : Value) : VRel g .junk x

theorem VRel.mono {g g' : G} (hg : g.le g') {v : V} {x : Value} (h : VRel g v x) : VRel g' v x := by
 induction h with
 | bool b => exact .bool b
 | int k n => exact .int k n
 | str s => exact .str s
 | nilp => exact .nilp
 | ptr id ver i off b L hL hb => exact .ptr id ver i off b L (hg.loc _ _ hL) hb
 | eptr cs off b o vals hi _ ih => exact .eptr cs off b o vals (fun j hj => hg.imm _ _ _ (hi j hj)) ih
 | sl k sz es sp b o cap vals hk hk0 hsz hc he hi _ ih => exact .sl k sz es sp b o cap vals hk hk0 hsz hc he (fun i j h1 h2 => hg.imm _ _ _ (hi i j h1 h2)) ih
 | snil k sz hk => exact .snil k sz hk
 | semp k sz a cap hk hk0 => exact .semp k sz a cap hk hk0
 | msl id ver off len b a L hL hb hT ha hp => exact .msl id ver off len b a L (hg.loc _ _ hL) hb hT ha hp
 | mnil id ver L hL hb => exact .mnil id ver L (hg.loc _ _ hL) hb
 | asl id ver i off n sz b L hL hb => exact .asl id ver i off n sz b L (hg.loc _ _ hL) hb
 | mcut id ver len b a L hL hb hT ha hp => exact .mcut id ver len b a L (hg.loc _ _ hL) hb hT ha hp
 | mcutn id ver L hL hb => exact .mcutn id ver L (hg.loc _ _ hL) hb
 | nilm => exact .nilm
 | map id ver b L hL hb => exact .map id ver b L (hg.loc _ _ hL) hb
 | iter id ver b L hL hb => exact .iter id ver b L (hg.loc _ _ hL) hb
 | fn f first cap fs cs hf hc _ _ ih1 ih2 => exact .fn f first cap fs cs hf hc ih1 ih2
 | yld id ver b L hL hb => exact .yld id ver b L (hg.loc _ _ hL) hb
 | nilf => exact .nilf
 | agg cs vs hl _ h1 ih => exact .agg cs vs hl ih h1
 | tup cs vs hl _ ih => exact .tup cs vs hl ih
 | nili => exact .nili
 | iface t v x _ ih => exact .iface t v x ih
 | junk x => exact .junk x

def VRels (g : G) (cs : List V) (vs : Array Value) : Prop := cs.length = vs.size ∧ ∀ i, i < cs.length → VRel g (cs.getD i .junk) (vs.getD i undef)
theorem VRels.mono {g g' : G} (hg : g.le g') {cs : List V} {vs : Array Value} (h : VRels g cs vs) : VRels g' cs vs := ⟨h.1, fun i hi => (h.2 i hi).mono hg⟩

def FrRel (g : G) (n : Nat) (fr : Fr) (tmps : Array Value) : Prop := tmps.size = n ∧ ∀ s, VRel g (fr s) (tmps.getD s undef)
theorem FrRel.mono {g g' : G} (hg : g.le g') {n : Nat} {fr : Fr} {t : Array Value} (h : FrRel g n fr t) : FrRel g' n fr t := ⟨h.1, fun i => (h.2 i).mono hg⟩

def upd (fr : Fr) (d : Nat) (v : V) : Fr := fun s => if s = d then v else fr s
theorem upd_eq (fr : Fr) (d : Nat) (v : V) : upd fr d v d = v := by simp [upd]
theorem upd_ne (fr : Fr) {d s : Nat} (v : V) (h : s ≠ d) : upd fr d v s = fr s := by simp [upd, h]

theorem FrRel.upd {g : G} {n : Nat} {fr : Fr} {t : Array Value} (h : FrRel g n fr t) (d : Nat) (hd : d < n) {v : V} {x : Value} (hv : VRel g v x) :
  FrRel g n (upd fr d v) (t.setIfInBounds d x) := by
 refine ⟨by simp [h.1], fun s => ?_⟩
 by_cases e : s = d
 ·subst e
  have : (t.setIfInBounds s x).getD s undef = x := by simp [Array.getD, h.1, hd]
  rw [upd_eq, this]; exact hv
 ·have : (t.setIfInBounds d x).getD s undef = t.getD s undef := by
   simp only [Array.getD_eq_getD_getElem?]; rw [Array.getElem?_setIfInBounds_ne (fun h => e h.symm)]
  rw [upd_ne _ _ e, this]; exact h.2 s

end Go.Proofs.Ytmjnpfackanhlaa.AM
