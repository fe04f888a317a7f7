/- The abstract layer: the program's operations with sizes and offsets laid in. -/
import Derived.Test.YtmjnpfackanhlaaAmCore
import Derived.Still
namespace Go.Proofs.Ytmjnpfackanhlaa.AM
open Go

def const1 : Value → Option V
 | .bool b => some (.bool b)
 | .int k n => some (.int k n)
 | .string s => some (.str s)
 | .pointer none => some .nilp
 | .slice none 0 0 => some (.sl .nil 0 [] [])
 | .map none => some .nilm
 | .nilFunc => some .nilf
 | .nilIface => some .nili
 | _ => none

def constL : List Value → Option (List V)
 | [] => some []
 | v :: r => match const1 v, constL r with | some a, some b => some (a :: b) | _, _ => none

def constV : Value → Option V
 | .agg cs => (constL cs.toList).map .agg
 | .func (.func f) a b => if a.isEmpty && b.isEmpty then some (.fn (.func f) [] []) else none
 | v => const1 v

def resX : Operand → Option X
 | .tmp t => some (.s t)
 | .const v => (constV v).map .c
 | .func f => some (.c (.fn (.func f) [] []))
 | .global _ => none

def resXs : List Operand → Option (List X)
 | [] => some []
 | x :: r => match resX x, resXs r with | some a, some b => some (a :: b) | _, _ => none

def resXo : Option Operand → Option (Option X)
 | none => some none
 | some x => (resX x).map some

def sizeT (P : Program) (t : TypeId) : Option Nat := (P.info? t).map (·.size)
def aggT (P : Program) (t : TypeId) : Option Bool :=
 match P.underlying t with
 | some (.struct _) | some (.array _ _) => some true
 | some _ => some false
 | none => none
def szT (P : Program) (t : TypeId) : Option (Option Nat) :=
 match aggT P t, sizeT P t with
 | some true, some n => some (some n)
 | some false, some _ => some none
 | _, _ => none
def zeroT (P : Program) (t : TypeId) : Option (List V) :=
 match (P.info? t).bind (·.zero) with
 | some v => constL v.cells.toList
 | none => none
def zeroV (P : Program) (t : TypeId) : Option V :=
 match (P.info? t).bind (·.zero) with
 | some v => constV v
 | none => none

def flatFs (F : TypeId → Option (List LC)) : Nat → List Field → Option (List LC)
 | _, [] => some []
 | off, f :: fs =>
  if f.name ≠ "_" ∧ f.offset = off then
   match F f.type with
   | some l => (flatFs F (off + l.length) fs).map (l ++ ·)
   | none => none
  else none
def flatLs (P : Program) : Nat → TypeId → Option (List LC)
 | 0, _ => none
 | k + 1, t =>
  match P.underlying t with
  | some .bool => some [.bool]
  | some (.int _) => some [.int]
  | some .string => some [.str]
  | some (.struct fs) =>
   match flatFs (flatLs P k) 0 fs.toList with
   | some l => if P.stoodInHeld t = false ∧ sizeT P t = some l.length then some l else none
   | none => none
  | _ => none
def keyT (P : Program) (t : TypeId) : Option KC :=
 match flatLs P 100 t, aggT P t with
 | some l, some true => some (.many l)
 | some [c], some false => some (.one c)
 | _, _ => none

def resParts (P : Program) (fs : Array Field) : List (Nat × Operand) → Option (List (Nat × Nat × X))
 | [] => some []
 | (i, x) :: r =>
  match fs[i]?, resX x, resParts P fs r with
  | some f, some y, some l => (sizeT P f.type).map fun n => (f.offset, n, y) :: l
  | _, _, _ => none

def resElems : List (Nat × Operand) → Option (List (Nat × X))
 | [] => some []
 | (i, x) :: r => match resX x, resElems r with | some y, some l => some ((i, y) :: l) | _, _ => none

def resBuiltin2 (P : Program) (b : Builtin) (ts : Array TypeId) (args : List X) : Option RO :=
 match (ts[0]?).bind P.underlying with
 | some (.slice e) =>
  match args with
  | [x] =>
   match b with
   | .clear => (zeroT P e).map fun z => .clear z x
   | .cap => some (.cap x)
   | _ => none
  | [x, y] =>
   match b with
   | .copy => (sizeT P e).map fun n => .copy n x y
   | _ => none
  | _ => none
 | _ => none

def resBuiltin (P : Program) (b : Builtin) (ts : Array TypeId) (args : List X) : Option RO :=
 match b, args with
 | .len, [x] =>
  match (ts[0]?).bind P.underlying with
  | some (.slice _) => some (.len .sl x)
  | some .string => some (.len .str x)
  | some (.map _ _) => some (.len .map x)
  | _ => none
 | .append, [x, y] =>
  match (ts[0]?).bind P.underlying, (ts[1]?).bind P.underlying with
  | some (.slice e), some (.slice _) | some (.slice e), some .string =>
   match P.info? e, zeroT P e with | some i, some z => if i.size = 0 ∨ i.bytes = 0 ∨ z.length ≠ i.size then none else some (.append i.size i.bytes x y) | _, _ => none
  | _, _ => none
 | .delete, [m, k] =>
  match (ts[0]?).bind P.underlying with
  | some (.map kt _) => (keyT P kt).map fun kc => .mdel kc m k
  | _ => none
 | .max, x :: r => some (.minmax true x r)
 | .min, x :: r => some (.minmax false x r)
 | _, args => resBuiltin2 P b ts args

def resOp (P : Program) : Op → Option RO
 | .move x | .assign x => (resX x).map .mov
 | .pick c a b => match resX c, resX a, resX b with | some c, some a, some b => some (.pick c a b) | _, _, _ => none
 | .alloc t => (zeroT P t).map .alloc
 | .box _ x => (resX x).map .box
 | .build t parts =>
  match P.underlying t, zeroT P t with
  | some (.struct fs), some z => if fs.toList.all fun f => (sizeT P f.type).isSome then (resParts P fs parts.toList).map (.build z) else none
  | _, _ => none
 | .buildSlice t len parts =>
  match P.underlying t with
  | some (.slice e) =>
   match sizeT P e, zeroT P e, resElems parts.toList with
   | some n, some z, some l => if len * n ≤ 2 ^ 24 ∧ n ≠ 0 ∧ z.length = n then some (.mkSl n len z l) else none
   | _, _, _ => none
  | _ => none
 | .load t a => match szT P t, resX a with | some n, some a => some (.ld n a) | _, _ => none
 | .store t a x => match sizeT P t, resX a, resX x with | some n, some a, some x => some (.st n a x) | _, _, _ => none
 | .nilCheck x => (resX x).map .nilchk
 | .binOp op t x y _ =>
  match resX x, resX y, P.underlying t with
  | some x, some y, some d =>
   match op with
   | .eql | .neq =>
    let neg := match op with | .neq => true | _ => false
    match d with
    | .int _ | .string => some (.bin op x y)
    | .bool => some (.eqs neg .bool x y)
    | .pointer _ => some (.eqs neg .ptr x y)
    | .slice _ => some (.eqs neg .sl x y)
    | .map _ _ => some (.eqs neg .map x y)
    | .func _ _ _ => some (.eqs neg .func x y)
    | .struct _ => match flatLs P 100 t with | some l => if P.eqGuardType P.depth t = false then some (.eqs neg (.flat l) x y) else none | none => none
    | _ => none
   | _ => some (.bin op x y)
  | _, _, _ => none
 | .unOp op _ x => (resX x).map (.un op)
 | .convert s t x =>
  match P.underlying s, P.underlying t, resX x with
  | some (.int _), some (.int k), some x => some (.conv k x)
  | some (.slice e), some .string, some x => match P.underlying e with | some (.int .u8) => some (.strOf x) | _ => none
  | _, _, _ => none
 | .slice t x lo hi mx =>
  match resX x, resXo lo, resXo hi, resXo mx with
  | some x, some lo, some hi, some mx =>
   match P.underlying t with
   | some (.slice e) => match sizeT P e with | some n => if n = 0 then none else some (.slice n x lo hi mx) | none => none
   | some .string => if mx.isNone then some (.sliceS x lo hi) else none
   | some (.array n e) => match lo, hi, mx with | none, none, none => (sizeT P e).map fun k => .sliceA n k x | _, _, _ => none
   | _ => none
  | _, _, _, _ => none
 | .fieldAddr t x i =>
  match P.underlying t, resX x with
  | some (.struct fs), some x =>
   match fs[i]? with
   | some f => match sizeT P f.type with | some (_ + 1) => some (.fld f.offset x) | _ => none
   | none => none
  | _, _ => none
 | .field t x i =>
  match P.underlying t, resX x with
  | some (.struct fs), some x =>
   match fs[i]? with
   | some f => (szT P f.type).map fun n => .fldV f.offset n x
   | none => none
  | _, _ => none
 | .indexAddr t x i =>
  match P.underlying t, resX x, resX i with
  | some (.slice e), some x, some i => (sizeT P e).map fun n => .idx n x i
  | some (.array len e), some x, some i => if len ≤ 1 then none else (sizeT P e).map fun n => .idxA len n x i
  | _, _, _ => none
 | .index t x i =>
  match P.underlying t, resX x, resX i with
  | some (.array len e), some x, some i => match sizeT P e, aggT P e with | some n, some g => some (.idxV len n g x i) | _, _ => none
  | some .string, some x, some i => some (.idxS x i)
  | _, _, _ => none
 | .lookup t m k ok =>
  match P.underlying t, resX m, resX k with
  | some (.map kt e), some m, some k => match keyT P kt, zeroV P e with | some kc, some z => some (.lookup kc z ok m k) | _, _ => none
  | _, _, _ => none
 | .mapUpdate t m k v | .insert t m k v =>
  match P.underlying t, resX m, resX k, resX v with
  | some (.map kt _), some m, some k, some v => (keyT P kt).map fun kc => .mupd kc m k v
  | _, _, _, _ => none
 | .range t m => match P.underlying t, resX m with | some (.map _ _), some m => some (.range m) | _, _ => none
 | .next it false => (resX it).map .next
 | .entry it => (resX it).map .entry
 | .makeInterface _ _ | .panic _ => some .dead
 | .extract t i => (resX t).map (.ext i)
 | .makeFunc f a b => match resXs a.toList, resXs b.toList with | some a, some b => some (.mkfn f a b) | _, _ => none
 | .makeMap _ none => some .mkmap
 | .makeSlice t l c =>
  match P.underlying t, resX l, resX c with
  | some (.slice e), some l, some c =>
   match P.info? e, zeroT P e with
   | some i, some z => if 0 < i.bytes then some (.mksl i.size i.bytes z l c) else none
   | _, _ => none
  | _, _, _ => none
 | .call { callee := .value f, args, .. } => match resX f, resXs args.toList with | some f, some l => some (.call f l) | _, _ => none
 | .call { callee := .builtin b, args, argTypes } => (resXs args.toList).bind (resBuiltin P b argTypes)
 | _ => none

def resGuard (ops : List Oper) : Option (Nat × Bool) → Option (Option (Nat × Bool))
 | none => some none
 | some (j, b) => ((ops[j]?).bind (·.dst)).map fun d => some (d, b)

def resOps (P : Program) (n : Nat) (all : List Oper) : List Oper → Option (List ROp)
 | [] => some []
 | o :: r =>
  match resOp P o.op, resGuard all o.guard, resOps P n all r with
  | some x, some g, some l => if (o.dst.all fun d => d < n) && (g.all fun p => p.1 < n) then some (⟨o.dst, g, x⟩ :: l) else none
  | _, _, _ => none

def RO.quiet : RO → Bool
 | .mov _ | .pick .. | .ld .. | .nilchk _ | .fld .. | .fldV .. | .idx .. | .idxA .. | .idxV .. | .idxS .. | .bin .. | .eqs .. | .un .. | .conv ..
 | .slice .. | .sliceS .. | .ext .. | .mkfn .. | .lookup .. | .len .. | .minmax .. | .build .. | .entry _ | .appf .. | .strOf _ | .sliceA .. | .dead => true
 | _ => false

/-! ### regions that draw their order -/
def X.slot : X → List Nat
 | .s n => [n]
 | .c _ => []

def RO.xs : RO → List X
 | .mov x => [x]
 | .pick c a b => [c, a, b]
 | .alloc _ => []
 | .box x => [x]
 | .build _ ps => ps.map fun p => p.2.2
 | .mkSl _ _ _ ps => ps.map fun p => p.2
 | .ld _ a => [a]
 | .st _ a x => [a, x]
 | .nilchk x => [x]
 | .fld _ x => [x]
 | .fldV _ _ x => [x]
 | .idx _ x i => [x, i]
 | .idxA _ _ x i => [x, i]
 | .idxV _ _ _ x i => [x, i]
 | .idxS x i => [x, i]
 | .bin _ x y => [x, y]
 | .eqs _ _ x y => [x, y]
 | .un _ x => [x]
 | .conv _ x => [x]
 | .slice _ x lo hi mx => x :: (lo.toList ++ hi.toList ++ mx.toList)
 | .sliceS x lo hi => x :: (lo.toList ++ hi.toList)
 | .ext _ x => [x]
 | .mkfn _ f c => f ++ c
 | .mkmap => []
 | .lookup _ _ _ m k => [m, k]
 | .mupd _ m k v => [m, k, v]
 | .mdel _ m k => [m, k]
 | .range m => [m]
 | .next m => [m]
 | .entry m => [m]
 | .len _ x => [x]
 | .append _ _ x y => [x, y]
 | .appf _ _ x y => [x, y]
 | .strOf x => [x]
 | .sliceA _ _ x => [x]
 | .dead => []
 | .copy _ x y => [x, y]
 | .minmax _ x xs => x :: xs
 | .call f as => f :: as
 | .mksl _ _ _ a b => [a, b]
 | .cap x => [x]
 | .clear _ x => [x]

def ROp.reads (o : ROp) : List Nat :=
 o.rhs.xs.flatMap X.slot ++ (match o.guard with | some (d, _) => [d] | none => [])

def dirsOf (ops : List Oper) : List (List Nat) := ops.map fun o => (o.after.toList.filter fun e => Region.binds .any e).map (·.on)

def pres : List (List Nat) → List (List Nat) → List (List Nat)
 | [], acc => acc
 | ds :: r, acc => pres r (acc ++ [(ds ++ ds.flatMap fun e => acc.getD e []).eraseDups])

def freshDst (ops : List ROp) (done : List Nat) (j : Nat) : Bool :=
 match (ops.getD j default).dst with
 | none => true
 | some d => (j :: done).all (fun i => !(ops.getD i default).reads.contains d) && done.all (fun i => (ops.getD i default).dst != some d)

abbrev Sch := List (Nat × Bool × List Nat)

def mkOf (ops : List ROp) (j : Nat) : Option (Nat × Option Nat) :=
 match ops.getD j default with
 | ⟨some d, none, .alloc z⟩ =>
  if z.isEmpty then none else
  match (List.range ops.length).filter fun k => (ops.getD k default).reads.contains d with
  | [] => some (j, none)
  | [k] => match ops.getD k default with
   | ⟨none, none, .st _ (.s _) _⟩ => some (j, some k)
   | _ => none
  | _ => none
 | _ => none
def mksOf (ops : List ROp) : List (Nat × Option Nat) := (List.range ops.length).filterMap (mkOf ops)
def mkIds (mks : List (Nat × Option Nat)) : List Nat := mks.flatMap fun m => m.1 :: m.2.toList

def mksOk (N : Nat) (pre : List (List Nat)) (ops : List ROp) (acts : List Nat) (mks : List (Nat × Option Nat)) : Bool :=
 decide (mks.map (·.1)).Nodup && (mks.all fun m => mks.all fun m' => (m.1 != m'.1 || m.2 == m'.2) && (m.2 == none || m.2 != m'.2 || m.1 == m'.1) && m.2 != some m'.1) && mks.all fun m => decide (m.1 < N) && !acts.contains m.1 &&
  match ops.getD m.1 default with
  | ⟨some d, none, .alloc z⟩ => !z.isEmpty &&
    (List.range N).all (fun i => (i == m.1 || (ops.getD i default).dst != some d) && (m.2 == some i || !(ops.getD i default).reads.contains d)) &&
    (match m.2 with
    | none => true
    | some k => decide (k < N) && !acts.contains k && acts.all (fun a => (pre.getD k []).contains a) && (pre.getD k []).contains m.1 &&
     match ops.getD k default with
     | ⟨none, none, .st n (.s e) x⟩ => e == d && n == z.length && !x.slot.contains d &&
       (List.range N).all (fun i => match (ops.getD i default).dst with | some s => !x.slot.contains s || (pre.getD k []).contains i | none => true)
     | _ => false)
  | _ => false

def schOk (N : Nat) (dirs pre : List (List Nat)) (ops : List ROp) (ms acts : List Nat) : List Nat → Sch → Bool
 | done, [] => (List.range N).all (fun i => done.contains i || ms.contains i)
 | done, (j, act, ws) :: r =>
  (dirs.getD j []).all (fun e => done.contains e || ms.contains e) && !done.contains j && !ms.contains j && decide (j < N) && (act == acts.contains j) &&
  (List.range N).all (fun i => match (ops.getD i default).dst with
   | some s => !(ops.getD j default).reads.contains s || acts.contains i || (pre.getD j []).contains i
   | none => true) &&
  (if act then (List.range N).all (fun k => k == j || ms.contains k || done.contains k || (dirs.getD k []).any (fun e => !done.contains e && !ms.contains e)) &&
    done.all (fun i => acts.contains i || (pre.getD j []).contains i || ws.contains i)
   else (ops.getD j default).rhs.quiet && ws.isEmpty && freshDst ops done j) &&
  schOk N dirs pre ops ms acts (j :: done) r

def mkSch (N : Nat) (dirs pre : List (List Nat)) (ops : List ROp) (ms : List Nat) : Nat → List Nat → List Nat → Sch
 | 0, _, _ => []
 | k + 1, done, acts =>
  let rdy := (List.range N).filter fun j => !done.contains j && !ms.contains j && (dirs.getD j []).all (fun e => done.contains e || ms.contains e)
  match rdy.find? fun j => (ops.getD j default).rhs.quiet && freshDst ops done j with
  | some j => (j, false, []) :: mkSch N dirs pre ops ms k (j :: done) acts
  | none => match rdy with
   | j :: _ => (j, true, done.filter fun i => !acts.contains i && !(pre.getD j []).contains i) :: mkSch N dirs pre ops ms k (j :: done) (j :: acts)
   | [] => []

def tailOf (mks : List (Nat × Option Nat)) : Sch := mks.flatMap fun m => (m.1, false, []) :: m.2.toList.map fun k => (k, false, [])

def resDrawn1 (P : Program) (ops : List Oper) (l : List ROp) (mks : List (Nat × Option Nat)) : Option RCode :=
 let dirs := dirsOf ops
 let pre := pres dirs []
 let sch := mkSch l.length dirs pre l (mkIds mks) l.length [] []
 let acts := (sch.filter (·.2.1)).map (·.1)
 if P.follows .mixedOrders && ((List.range l.length).all (fun i => (dirs.getD i []).all (· < i)) && (mksOk l.length pre l acts mks && schOk l.length dirs pre l (mkIds mks) acts [] sch)) then some (.regD l (sch ++ tailOf mks)) else none

def frzR : RO → RO
 | .mkSl sz 0 _ [] => .mov (.c (.sl .cap0 sz [] []))
 | .append sz bytes x y => .appf sz bytes x y
 | r => r
def ROp.frz (o : ROp) : ROp := ⟨o.dst, o.guard, frzR o.rhs⟩

def resDrawn (P : Program) (ops : List Oper) (l : List ROp) : Option RCode :=
 match resDrawn1 P ops l [] with
 | some c => some c
 | none =>
  match resDrawn1 P ops l (mksOf l) with
  | some c => some c
  | none => resDrawn1 P ops (l.map ROp.frz) (mksOf (l.map ROp.frz))

theorem resDrawn_cases {P : Program} {ops : List Oper} {l : List ROp} {rc : RCode} (h : resDrawn P ops l = some rc) : ∃ l' mks, (l' = l ∨ l' = l.map ROp.frz) ∧ resDrawn1 P ops l' mks = some rc := by
 unfold resDrawn at h
 split at h
 ·rename_i c hc; exact ⟨l, [], .inl rfl, by rw [hc]; exact h⟩
 ·split at h
  ·rename_i c hc; exact ⟨l, _, .inl rfl, by rw [hc]; exact h⟩
  ·exact ⟨_, _, .inr rfl, h⟩
theorem resDrawn_regD {P : Program} {ops : List Oper} {l : List ROp} {rc : RCode} (h : resDrawn P ops l = some rc) : ∃ l' sch, rc = .regD l' sch := by
 obtain ⟨l', mks, _, h⟩ := resDrawn_cases h
 unfold resDrawn1 at h
 simp only at h
 split at h
 ·simp only [Option.some.injEq] at h; exact ⟨_, _, h.symm⟩
 ·cases h

def resCode (P : Program) (n : Nat) : Code → Option RCode
 | .skip => some .skip
 | .region _ ops d =>
  match resOps P n ops.toList ops.toList with
  | some l => if d then resDrawn P ops.toList l else some (.reg l)
  | none => none
 | .seq a b => match resCode P n a, resCode P n b with | some a, some b => some (.seq a b) | _, _ => none
 | .cond c a b => match resX c, resCode P n a, resCode P n b with | some c, some a, some b => some (.cond c a b) | _, _, _ => none
 | .block id c => (resCode P n c).map (.block id)
 | .loop c => (resCode P n c).map .loop
 | .rangeFunc f ps a b => match resX f, resCode P n a, resCode P n b with | some f, some a, some b => some (.rfunc f ps.toList a b) | _, _, _ => none
 | .exit id => some (.exit id)
 | .ret => some .ret
 | .label _ => some .skip
 | .scope c => (resCode P n c).map fun r => .cond (.c (.bool true)) r .skip
 | _ => none

end Go.Proofs.Ytmjnpfackanhlaa.AM
