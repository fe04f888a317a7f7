/- The abstract layer: what the operations do. -/
import Derived.Test.YtmjnpfackanhlaaAmCore
namespace Go.Proofs.Ytmjnpfackanhlaa.AM
open Go

mutual
def V.pure : V → Bool
 | .ptr .. | .msl .. | .asl .. | .mcut .. | .map .. | .it .. | .yld .. => false
 | .eptr cs _ => pureL cs
 | .sl _ _ es sp => pureLL es && pureLL sp
 | .fn _ a b => pureL a && pureL b
 | .agg cs => pureL cs
 | .tup cs => pureL cs
 | .iface _ v => v.pure
 | _ => true
def pureL : List V → Bool
 | [] => true
 | v :: l => v.pure && pureL l
def pureLL : List (List V) → Bool
 | [] => true
 | l :: r => pureL l && pureLL r
end

def X.ev (fr : Fr) : X → V
 | .s n => fr n
 | .c v => v

def V.cells : V → Option (List V)
 | .agg cs => some cs
 | .tup _ | .junk => none
 | v => some [v]

def V.asInt : V → Option Int
 | .int _ n => some n
 | _ => none

def St.get (st : St) (id ver : Nat) : Option Obj :=
 match st.objs[id]? with
 | some (some (v, o)) => if v = ver then some o else none
 | _ => none

def St.push (st : St) (o : Obj) : St := ⟨st.objs ++ [some (st.nv, o)], st.nv + 1⟩
def St.set (st : St) (id ver : Nat) (o : Obj) : St := ⟨st.objs.set id (some (ver, o)), st.nv⟩
def St.renew (st : St) (id : Nat) (o : Obj) : St := ⟨st.objs.set id (some (st.nv, o)), st.nv + 1⟩

def splice {α : Type} (l : List α) (off : Nat) (cs : List α) : List α := l.take off ++ cs ++ l.drop (off + cs.length)

def St.cellsAt (st : St) : V → Option (List V × Nat)
 | .ptr id ver i off =>
  match st.get id ver with
  | some (.mem _ es) => (es[i]?).map (·, off)
  | _ => none
 | .eptr cs off => some (cs, off)
 | _ => none

def partV (cs : List V) (off : Nat) : Option Nat → Option V
 | none => cs[off]?
 | some n => if off + n ≤ cs.length then some (.agg ((cs.drop off).take n)) else none

def St.store (st : St) (a : V) (vs : List V) : Option St :=
 match a with
 | .ptr id ver i off =>
  match st.get id ver with
  | some (.mem sz es) =>
   match es[i]? with
   | some e => if off + vs.length ≤ e.length then some (st.set id ver (.mem sz (es.set i (splice e off vs)))) else none
   | none => none
  | _ => none
 | _ => none

def St.view (st : St) (sz : Nat) : V → Option (List (List V))
 | .sl _ sz' es _ => if es.isEmpty || sz' == sz then some es else none
 | .msl id ver off len =>
  match st.get id ver with
  | some (.mem sz' es) => if sz' = sz ∧ off + len ≤ es.length then some ((es.drop off).take len) else none
  | _ => none
 | _ => none

def bytesV : List (List V) → Option (List UInt8)
 | [] => some []
 | [.int .u8 n] :: r => (bytesV r).map (UInt8.ofNat n.toNat :: ·)
 | _ => none
def chunk (sz : Nat) : Nat → List V → List (List V)
 | 0, _ => []
 | n + 1, cs => cs.take sz :: chunk sz n (cs.drop sz)

def strEs (s : ByteArray) : List (List V) := s.data.toList.map fun b => [.int .u8 b.toNat]

def intBin (op : BinOp) (k : IntKind) (x y : Int) : Option V :=
 match op with
 | .add => some (.int k (k.wrap (x + y)))
 | .sub => some (.int k (k.wrap (x - y)))
 | .mul => some (.int k (k.wrap (x * y)))
 | .quo => if y = 0 then none else some (.int k (k.wrap (x.tdiv y)))
 | .rem => if y = 0 then none else some (.int k (x.tmod y))
 | .and => some (.int k (k.wrap (BitVec.ofInt k.bits x &&& BitVec.ofInt k.bits y).toNat))
 | .or => some (.int k (k.wrap (BitVec.ofInt k.bits x ||| BitVec.ofInt k.bits y).toNat))
 | .xor => some (.int k (k.wrap (BitVec.ofInt k.bits x ^^^ BitVec.ofInt k.bits y).toNat))
 | .andNot => some (.int k (k.wrap (BitVec.ofInt k.bits x &&& ~~~ BitVec.ofInt k.bits y).toNat))
 | .eql => some (.bool (x == y))
 | .neq => some (.bool (x != y))
 | .lss => some (.bool (decide (x < y)))
 | .leq => some (.bool (decide (x ≤ y)))
 | .gtr => some (.bool (decide (x > y)))
 | .geq => some (.bool (decide (x ≥ y)))
 | _ => none

def strBin (op : BinOp) (x y : ByteArray) : Option V :=
 match op with
 | .add => if x.size + y.size ≤ 2 ^ 62 then some (.str (x ++ y)) else none
 | .eql => some (.bool (x.toList == y.toList))
 | .neq => some (.bool !(x.toList == y.toList))
 | .lss => some (.bool (Op.bytesLess x.toList y.toList))
 | .leq => some (.bool (Op.bytesLess x.toList y.toList || x.toList == y.toList))
 | .gtr => some (.bool !(Op.bytesLess x.toList y.toList || x.toList == y.toList))
 | .geq => some (.bool !(Op.bytesLess x.toList y.toList))
 | _ => none

def binV (op : BinOp) (x y : V) : Option V :=
 match x, y with
 | .int k a, .int k' b =>
  match op with
  | .shl => if b < 0 then none else some (.int k (k.wrap (a * 2 ^ min b.toNat k.bits)))
  | .shr => if b < 0 then none else some (.int k (a.fdiv (2 ^ min b.toNat k.bits)))
  | _ => if k = k' then intBin op k a b else none
 | .str a, .str b => strBin op a b
 | _, _ => none

def eqL : LC → V → V → Option Bool
 | .int, .int k a, .int k' b => if k = k' then some (a == b) else none
 | .bool, .bool a, .bool b => some (a == b)
 | .str, .str a, .str b => some (a == b)
 | _, _, _ => none

def eqLs : List LC → List V → List V → Option Bool
 | [], [], [] => some true
 | c :: cs, a :: as, b :: bs =>
  match eqL c a b, eqLs cs as bs with
  | some x, some y => some (x && y)
  | _, _ => none
 | _, _, _ => none

def keyEq (kc : KC) (x y : V) : Option Bool :=
 match kc, x, y with
 | .one c, x, y => eqL c x y
 | .many ls, .agg as, .agg bs => eqLs ls as bs
 | _, _, _ => none

def keyOk (kc : KC) (x : V) : Bool :=
 match kc, x with
 | .one _, _ => true
 | .many ls, .agg as => as.length == ls.length
 | _, _ => false

def slNil : V → Option Bool
 | .sl .nil _ _ _ => some true
 | .sl .nn _ _ _ | .sl .cap0 _ _ _ => some false
 | .sl .unk _ es _ => if es.isEmpty then none else some false
 | .msl _ _ _ n => if n = 0 then none else some false
 | _ => none

def eqsV (ec : EC) (x y : V) : Option Bool :=
 match ec with
 | .bool => match x, y with | .bool a, .bool b => some (a == b) | _, _ => none
 | .flat ls => match x, y with | .agg as, .agg bs => eqLs ls as bs | _, _ => none
 | .ptr => match x, y with
  | .nilp, .nilp => some true
  | .nilp, .ptr .. | .nilp, .eptr .. | .ptr .., .nilp | .eptr .., .nilp => some false
  | _, _ => none
 | .sl => match slNil x, slNil y with
  | some true, some b => some b
  | some false, some true => some false
  | _, _ => none
 | .map => match x, y with
  | .nilm, .nilm => some true
  | .nilm, .map .. | .map .., .nilm => some false
  | _, _ => none
 | .func => match x, y with
  | .nilf, .nilf => some true
  | .nilf, .fn .. | .nilf, .yld .. | .fn .., .nilf | .yld .., .nilf => some false
  | _, _ => none

def unV (op : UnOp) (x : V) : Option V :=
 match op, x with
 | .neg, .int k n => some (.int k (k.wrap (0 - n)))
 | .not, .bool b => some (.bool !b)
 | .xor, .int k n => some (.int k (k.wrap (BitVec.ofInt k.bits (if k.signed then -1 else k.max) ^^^ BitVec.ofInt k.bits n).toNat))
 | _, _ => none

def min2V (mx : Bool) : V → V → Option V
 | .int k x, .int _ y => some (.int k (if mx then (if y > x then y else x) else (if y < x then y else x)))
 | _, _ => none

def minmaxV (mx : Bool) (x : V) : List V → Option V
 | [] => some x
 | y :: r => (min2V mx x y).bind fun z => minmaxV mx z r

def idxV (st : St) (sz : Nat) (x i : V) : Option V :=
 match i with
 | .int _ n =>
  match x with
  | .sl _ sz' es _ => if 0 ≤ n ∧ n < es.length ∧ sz' = sz then some (.eptr (es.getD n.toNat []) 0) else none
  | .msl id ver off len =>
   match st.get id ver with
   | some (.mem sz' _) => if 0 ≤ n ∧ n < len ∧ sz' = sz then some (.ptr id ver (off + n.toNat) 0) else none
   | _ => none
  | _ => none
 | _ => none

def bounds (len top : Nat) (lo hi : Option V) : Option (Nat × Nat) :=
 match (match hi with | none => some (len : Int) | some v => v.asInt), (match lo with | none => some 0 | some v => v.asInt) with
 | some h, some l => if 0 ≤ l ∧ l ≤ h ∧ h ≤ top then some (l.toNat, h.toNat) else none
 | _, _ => none

def sliceV (st : St) (sz : Nat) (x : V) (lo hi mx : Option V) : Option V :=
 match x with
 | .sl k sz' es sp =>
  if es.isEmpty && sp.isEmpty || sz' == sz then
   match mx with
   | none => (bounds es.length (es.length + sp.length) lo hi).map fun (l, h) =>
     .sl (if k = .nil then .nil else if k = .unk ∧ es.length + sp.length = 0 then .unk else .nn) sz' (((es ++ sp).drop l).take (h - l)) ((es ++ sp).drop h)
   | some m =>
    match m.asInt with
    | some mm => if 0 ≤ mm ∧ mm ≤ (es.length + sp.length : Nat) then
      match bounds es.length mm.toNat lo hi with
      | some (l, h) => if hi.isSome then some (.sl (if k = .nil then .nil else if k = .unk ∧ es.length + sp.length = 0 then .unk else if mm.toNat = l then .cap0 else .nn) sz' (((es ++ sp).drop l).take (h - l)) (((es ++ sp).drop h).take (mm.toNat - h))) else none
      | none => none
     else none
    | none => none
  else none
 | .msl id ver off len =>
  match st.get id ver with
  | some (.mem sz' es) =>
   if sz' = sz ∧ off + len ≤ es.length then
    match mx with
    | none => (bounds len (es.length - off) lo hi).map fun (l, h) => .msl id ver (off + l) (h - l)
    | some m =>
     match m.asInt with
     | some mm => if 0 ≤ mm ∧ mm ≤ (es.length - off : Nat) ∧ hi.isSome then (bounds len mm.toNat lo hi).map fun (_, h) => if off = 0 ∧ lo.isNone = true ∧ h = mm.toNat then .mcut id ver h else .junk else none
     | none => none
   else none
  | _ => none
 | _ => none

def appendV (st : St) (sz bytes : Nat) (x : V) (ys : List (List V)) : Option (V × St) :=
 match x with
 | .sl k _ es sp =>
  if k = .nil ∨ k = .cap0 then
   if es.isEmpty && sp.isEmpty then
    if ys.isEmpty then some (x, st)
    else if ys.length * bytes ≤ 2 ^ 47 then some (.msl st.objs.length st.nv 0 ys.length, st.push (.mem sz ys)) else none
   else none
  else none
 | .msl id ver off len =>
  match st.get id ver with
  | some (.mem sz' es) =>
   if sz' = sz ∧ off + len ≤ es.length ∧ (len + ys.length) * bytes ≤ 2 ^ 47 then
    if es.length = off + len then some (.msl id st.nv 0 (len + ys.length), st.renew id (.mem sz (es.drop off ++ ys)))
    else if off + len + ys.length ≤ es.length then some (.msl id ver off (len + ys.length), st.set id ver (.mem sz (splice es (off + len) ys)))
    else some (.msl id st.nv 0 (len + ys.length), st.renew id (.mem sz ((es.drop off).take len ++ ys)))
   else none
  | _ => none
 | .mcut id ver len =>
  match st.get id ver with
  | some (.mem sz' es) => if sz' = sz ∧ len ≤ es.length ∧ (len + ys.length) * bytes ≤ 2 ^ 47 then some (.msl id st.nv 0 (len + ys.length), st.renew id (.mem sz (es.take len ++ ys))) else none
  | _ => none
 | _ => none

def mfind (kc : KC) (k : V) : List (V × V) → Nat → Option (Option (Nat × V))
 | [], _ => some none
 | (a, v) :: r, i =>
  match keyEq kc k a with
  | some true => some (some (i, v))
  | some false => mfind kc k r (i + 1)
  | none => none

def mfindK (kc : KC) (k : V) (es : List (V × V)) : Option (Option (Nat × V)) := if keyOk kc k then mfind kc k es 0 else none

def St.entries (st : St) : V → Option (List (V × V))
 | .nilm => some []
 | .map id ver => match st.get id ver with | some (.map _ es) => some es | _ => none
 | _ => none

def foundV (z : V) : Option (Nat × V) → V
 | some (_, v) => v
 | none => z

def offV (k : Nat) : V → Option V
 | .ptr id ver i o => some (.ptr id ver i (o + k))
 | .eptr cs o => some (.eptr cs (o + k))
 | _ => none

def lenV (st : St) (c : LK) (x : V) : Option Int :=
 match c, x with
 | .sl, .sl _ _ es _ => some es.length
 | .sl, .msl _ _ _ n => some n
 | .str, .str s => some s.size
 | .map, .nilm => some 0
 | .map, .map id ver => match st.get id ver with | some (.map _ es) => some es.length | _ => none
 | _, _ => none

def aop (ro : RO) (fr : Fr) (st : St) : Option (V × St) :=
 match ro with
 | .mov x => some (x.ev fr, st)
 | .pick c a b => match c.ev fr with | .bool t => some (if t then a.ev fr else b.ev fr, st) | _ => none
 | .alloc z => if z.isEmpty then none else some (.ptr st.objs.length st.nv 0 0, st.push (.mem z.length [z]))
 | .box x => match (x.ev fr).cells with | some cs => if cs.isEmpty then none else some (.ptr st.objs.length st.nv 0 0, st.push (.mem cs.length [cs])) | none => none
 | .build z parts => (parts.foldlM (fun (acc : List V) (p : Nat × Nat × X) =>
   match (p.2.2.ev fr).cells with
   | some cs => if cs.length = p.2.1 ∧ p.1 + p.2.1 ≤ acc.length then some (splice acc p.1 cs) else none
   | none => none) z).map fun cs => (.agg cs, st)
 | .mkSl sz len z parts => (parts.foldlM (fun (acc : List (List V)) (p : Nat × X) =>
   match (p.2.ev fr).cells with
   | some cs => if cs.length = sz ∧ p.1 < acc.length then some (acc.set p.1 cs) else none
   | none => none) (List.replicate len z)).bind fun es => if z.length = sz ∧ 0 < sz then some (.msl st.objs.length st.nv 0 len, st.push (.mem sz es)) else none
 | .ld n a => match st.cellsAt (a.ev fr) with | some (cs, off) => (partV cs off n).map (·, st) | none => none
 | .st n a x => match (x.ev fr).cells with | some cs => if cs.length = n then (st.store (a.ev fr) cs).map (.junk, ·) else none | none => none
 | .nilchk x => match x.ev fr with
  | .ptr a b c d => some (.ptr a b c d, st)
  | .eptr a b => some (.eptr a b, st)
  | .fn (.func f) a b => some (.fn (.func f) a b, st)
  | .yld a b => some (.yld a b, st)
  | .iface t v => some (.iface t v, st)
  | _ => none
 | .fld off x => (offV off (x.ev fr)).map (·, st)
 | .fldV off n x => match x.ev fr with | .agg cs => (partV cs off n).map (·, st) | _ => none
 | .idx sz x i => (idxV st sz (x.ev fr) (i.ev fr)).map (·, st)
 | .idxA len sz x i => match (i.ev fr).asInt with
  | some n => if 0 ≤ n ∧ n < len then (offV (n.toNat * sz) (x.ev fr)).map (·, st) else none
  | none => none
 | .idxV len sz g x i => match x.ev fr, (i.ev fr).asInt with
  | .agg cs, some n => if 0 ≤ n ∧ n < len then (partV cs (n.toNat * sz) (if g then some sz else none)).map (·, st) else none
  | _, _ => none
 | .idxS x i => match x.ev fr, (i.ev fr).asInt with
  | .str s, some n => if 0 ≤ n ∧ n < s.size then some (.int .u8 (s.data.getD n.toNat 0).toNat, st) else none
  | _, _ => none
 | .bin op x y => (binV op (x.ev fr) (y.ev fr)).map (·, st)
 | .eqs neg ec x y => (eqsV ec (x.ev fr) (y.ev fr)).map fun b => (.bool (if neg then !b else b), st)
 | .un op x => (unV op (x.ev fr)).map (·, st)
 | .conv k x => match x.ev fr with | .int _ n => some (.int k (k.wrap n), st) | _ => none
 | .slice sz x lo hi mx => (sliceV st sz (x.ev fr) (lo.map (·.ev fr)) (hi.map (·.ev fr)) (mx.map (·.ev fr))).map (·, st)
 | .sliceS x lo hi => match x.ev fr with
  | .str s => (bounds s.size s.size (lo.map (·.ev fr)) (hi.map (·.ev fr))).map fun (l, h) => (.str (s.extract l h), st)
  | _ => none
 | .ext i x => match x.ev fr with | .tup vs => (vs[i]?).map (·, st) | _ => none
 | .mkfn f first cap => some (.fn f (first.map (·.ev fr)) (cap.map (·.ev fr)), st)
 | .mkmap => some (.map st.objs.length st.nv, ⟨st.objs ++ [some (st.nv, .map (st.nv + 1) [])], st.nv + 2⟩)
 | .lookup kc z ok m k => match st.entries (m.ev fr) with
  | some es => match mfindK kc (k.ev fr) es with
   | some r => some (if ok then .tup [foundV z r, .bool r.isSome] else foundV z r, st)
   | none => none
  | none => none
 | .mupd kc m k v => match m.ev fr with
  | .map id ver => match st.get id ver with
   | some (.map ep es) => match mfindK kc (k.ev fr) es with
    | some (some (i, _)) => some (.junk, st.set id ver (.map ep (es.set i (k.ev fr, v.ev fr))))
    | some none => some (.junk, ⟨st.objs.set id (some (ver, .map st.nv (es ++ [(k.ev fr, v.ev fr)]))), st.nv + 1⟩)
    | none => none
   | _ => none
  | _ => none
 | .mdel kc m k => match m.ev fr with
  | .map id ver => match st.get id ver with
   | some (.map _ es) => match mfindK kc (k.ev fr) es with
    | some (some (i, _)) => some (.tup [], ⟨st.objs.set id (some (ver, .map st.nv (es.eraseIdx i))), st.nv + 1⟩)
    | some none => some (.tup [], st)
    | none => none
   | _ => none
  | _ => none
 | .range m => match m.ev fr with
  | .map id ver => match st.get id ver with
   | some (.map ep _) => some (.it st.objs.length st.nv, st.push (.iter id ver ep []))
   | _ => none
  | _ => none
 | .next _ => none
 | .entry x => match x.ev fr with
  | .it id ver => match st.get id ver with
   | some (.iter mid mver ep (i :: _)) => match st.get mid mver with
    | some (.map ep' es) => if ep' = ep then (es[i]?).map fun p => (.tup [p.1, p.2], st) else none
    | _ => none
   | _ => none
  | _ => none
 | .len c x => (lenV st c (x.ev fr)).map fun n => (.int .i64 n, st)
 | .append sz bytes x y => match (match y.ev fr with | .str s => if sz = 1 then some (strEs s) else none | v => st.view sz v) with
  | some ys => appendV st sz bytes (x.ev fr) ys
  | none => none
 | .copy sz x y => match x.ev fr, st.view sz (y.ev fr) with
  | .msl id ver off len, some ys => match st.get id ver with
   | some (.mem sz' es) => if sz' = sz ∧ off + len ≤ es.length then some (.int .i64 (min ys.length len), st.set id ver (.mem sz (splice es off (ys.take (min ys.length len))))) else none
   | _ => none
  | _, _ => none
 | .minmax mx x xs => (minmaxV mx (x.ev fr) (xs.map (·.ev fr))).map (·, st)
 | .call _ _ => none
 | .mksl sz bytes z l c => match (l.ev fr).asInt, (c.ev fr).asInt with
  | some n, some m => if 0 ≤ n ∧ n ≤ m ∧ m * bytes ≤ 2 ^ 47 ∧ z.length = sz ∧ 0 < sz then some (.msl st.objs.length st.nv 0 n.toNat, st.push (.mem sz (List.replicate m.toNat z))) else none
  | _, _ => none
 | .cap _ => none
 | .appf sz bytes x y => match x.ev fr, y.ev fr with
  | .sl k _ es sp, .sl _ sz' ys sp' => if (k = .nil ∨ k = .cap0) ∧ es.isEmpty ∧ sp.isEmpty ∧ (ys.isEmpty || sz' == sz) ∧ (pureLL ys && pureLL sp') ∧ ys.length * bytes ≤ 2 ^ 47 then some (.sl .unk sz ys [], st) else none
  | _, _ => none
 | .strOf x => match st.view 1 (x.ev fr) with
  | some ys => (bytesV ys).map fun l => (.str ⟨l.toArray⟩, st)
  | none => none
 | .sliceA n sz x => match x.ev fr with
  | .ptr id ver i off => some (.asl id ver i off n sz, st)
  | .eptr cs off => if 0 < sz ∧ off + n * sz ≤ cs.length then some (.sl .unk sz (chunk sz n (cs.drop off)) [], st) else none
  | _ => none
 | .dead => none
 | .clear z x => (match x.ev fr with
   | .sl _ _ es _ => if es.isEmpty then some st else none
   | .msl id ver off len => match st.get id ver with
    | some (.mem sz' es) => if sz' = z.length ∧ off + len ≤ es.length then some (st.set id ver (.mem sz' (splice es off (List.replicate len z)))) else none
    | _ => none
   | _ => none).map (.tup [], ·)

end Go.Proofs.Ytmjnpfackanhlaa.AM
