/- The logical values of Go's data, the logical heap and the operations of the language upon them: definitions alone. -/
import Derived.Calls
set_option linter.unusedVariables false
namespace Go.Lev

/-- A value as a proof sees it. 'list': a slice of memory that nobody writes; 'arr': the same inside such memory, or a slice that is owned by the place that holds it; 'sl', 'ptr': into an object of the call's own heap; 'pimm': a pointer to cells that nobody writes. -/
inductive LV where
  | undef
  | nil (es : Nat)
  | int (k : IntKind) (n : Int)
  | bool (b : Bool)
  | str (s : ByteArray)
  | fn (f : Nat) (caps : List LV)
  | agg (cs : List LV)
  | tup (vs : List LV)
  | list (es : Nat) (xs : List (List LV))
  | arr (es : Nat) (xs : List (List LV))
  | sl (es o off len : Nat)
  | ptr (o e j : Nat)
  | pimm (cs : List LV)
  deriving Inhabited

abbrev Row := List LV
abbrev Rows := List Row
abbrev Env := List (Nat × LV)
abbrev Heap := List (Nat × Option Rows)

def look {α : Type} : List (Nat × α) → Nat → Option α
  | [], _ => none
  | (k, v) :: r, n => if n = k then some v else look r n

inductive Opd where
  | t (s : Nat)
  | c (v : LV)
  deriving Inhabited

def Opd.ev (env : Env) : Opd → LV
  | .t s => (look env s).getD .undef
  | .c v => v

/-- Cells that may stand in packed memory: no reference. -/
def LV.plain : LV → Bool
  | .undef | .nil _ | .int _ _ | .bool _ | .str _ | .arr _ _ | .list _ _ => true
  | _ => false
mutual
/-- Plain, and with no part of memory that is only read. -/
def LV.pure : LV → Bool
  | .arr _ xs => pureR xs
  | .undef | .nil _ | .int _ _ | .bool _ | .str _ => true
  | _ => false
def pureC : List LV → Bool
  | [] => true
  | c :: cs => c.pure && pureC cs
def pureR : List (List LV) → Bool
  | [] => true
  | r :: rs => pureC r && pureR rs
end
/-- Cells that may be copied. -/
def LV.scalar : LV → Bool
  | .undef | .int _ _ | .bool _ | .str _ => true
  | _ => false
def rowsPlain (x : Rows) : Bool := x.all fun r => r.all LV.plain
def rowsScalar (x : Rows) : Bool := x.all fun r => r.all LV.scalar
def rowsEsz (esz : Nat) (x : Rows) : Bool := x.all fun r => decide (r.length = esz)

def vw (x : Rows) (off len : Nat) : Rows := (x.drop off).take len

def live (H : Heap) (o : Nat) : Option Rows := (look H o).join

/-- A cell of what is frozen. -/
def frzCell (H : Heap) : LV → LV
  | .sl es o off len => match live H o with
    | some x => .arr es (vw x off len)
    | none => .undef
  | .nil es => .arr es []
  | .int k n => .int k n
  | .bool b => .bool b
  | .str s => .str s
  | .list es xs => .arr es xs
  | .arr es xs => .arr es xs
  | _ => .undef

/-- A value handed to a function that only reads it. -/
def frz0 (H : Heap) : LV → LV
  | .sl es o off len => match live H o with
    | some x => .list es (vw x off len)
    | none => .undef
  | .ptr o e j => match live H o with
    | some x => match x[e]? with
      | some r => .pimm ((r.drop j).map (frzCell H))
      | none => .undef
    | none => .undef
  | .nil es => .list es []
  | .int k n => .int k n
  | .bool b => .bool b
  | .str s => .str s
  | .list es xs => .list es xs
  | .pimm cs => .pimm cs
  | _ => .undef
def frz (H : Heap) : LV → LV
  | .agg cs => .agg (cs.map (frz0 H))
  | .fn f cs => .fn f (cs.map (frz0 H))
  | v => frz0 H v

def LV.noRef0 : LV → Bool
  | .sl _ _ _ _ | .ptr _ _ _ => false
  | _ => true
def LV.noRef : LV → Bool
  | .agg cs => cs.all LV.noRef0
  | .fn _ cs => cs.all LV.noRef0
  | v => v.noRef0

/-- A result taken as memory that nobody writes from now on. -/
def impF0 (ok : Bool) : LV → LV
  | .arr es xs => if ok || pureR xs then .list es xs else .undef
  | .list es xs => if ok then .list es xs else .undef
  | .nil es => .nil es
  | .int k n => .int k n
  | .bool b => .bool b
  | .str s => .str s
  | _ => .undef
def impF (ok : Bool) : LV → LV
  | .agg cs => .agg (cs.map (impF0 ok))
  | v => impF0 ok v

def pack1 : List LV → LV
  | [v] => v
  | vs => .tup vs

/-- A result taken as objects of the caller's own: their names go up from 'n'. -/
def impC (ok : Bool) : Nat → List LV → List LV × Heap
  | _, [] => ([], [])
  | n, .arr es xs :: r => ((.sl es n 0 xs.length) :: (impC ok (n + 1) r).1, (n, some xs) :: (impC ok (n + 1) r).2)
  | n, v :: r => (impF0 ok v :: (impC ok (n + 1) r).1, (impC ok (n + 1) r).2)
def impR (ok : Bool) : Nat → List LV → List LV × Heap
  | _, [] => ([], [])
  | n, .agg cs :: r => (.agg (impC ok n cs).1 :: (impR ok (n + 50) r).1, (impC ok n cs).2 ++ (impR ok (n + 50) r).2)
  | n, v :: r => ((impC ok n [v]).1 ++ (impR ok (n + 50) r).1, (impC ok n [v]).2 ++ (impR ok (n + 50) r).2)

/-- What a load finds in memory that nobody writes. -/
def ldi : LV → LV
  | .arr es xs => .list es xs
  | .list es xs => .list es xs
  | .nil es => .list es []
  | .int k n => .int k n
  | .bool b => .bool b
  | .str s => .str s
  | _ => .undef
/-- What a load finds in an object of the call's own: an owned slice is not told. -/
def ldo : LV → LV
  | .int k n => .int k n
  | .bool b => .bool b
  | .str s => .str s
  | .nil es => .nil es
  | .list es xs => .list es xs
  | .sl es o off len => .sl es o off len
  | .ptr o e j => .ptr o e j
  | _ => .undef
def cellsVal (ag : Bool) (cs : List LV) : Option LV := if ag then some (.agg cs) else cs[0]?

/-! ### Operations that only compute -/
def intBin (op : BinOp) (k : IntKind) (a b : Int) : Option LV :=
  match op with
  | .add => some (.int k (k.wrap (a + b)))
  | .sub => some (.int k (k.wrap (a - b)))
  | .mul => some (.int k (k.wrap (a * b)))
  | .quo => if b = 0 then none else some (.int k (k.wrap (a.tdiv b)))
  | .rem => if b = 0 then none else some (.int k (a.tmod b))
  | .and => some (.int k (k.wrap (BitVec.ofInt k.bits a &&& BitVec.ofInt k.bits b).toNat))
  | .or => some (.int k (k.wrap (BitVec.ofInt k.bits a ||| BitVec.ofInt k.bits b).toNat))
  | .xor => some (.int k (k.wrap (BitVec.ofInt k.bits a ^^^ BitVec.ofInt k.bits b).toNat))
  | .andNot => some (.int k (k.wrap (BitVec.ofInt k.bits a &&& ~~~ BitVec.ofInt k.bits b).toNat))
  | .eql => some (.bool (decide (a = b)))
  | .neq => some (.bool (!decide (a = b)))
  | .lss => some (.bool (decide (a < b)))
  | .leq => some (.bool (decide (a ≤ b)))
  | .gtr => some (.bool (decide (b < a)))
  | .geq => some (.bool (decide (b ≤ a)))
  | _ => none
def shiftBin (op : BinOp) (k : IntKind) (x y : Int) : Option LV :=
  if y < 0 then none else
  match op with
  | .shl => some (.int k (k.wrap (x * 2 ^ (min y.toNat k.bits))))
  | .shr => some (.int k (x.fdiv (2 ^ (min y.toNat k.bits))))
  | _ => none
def strEq (a b : ByteArray) : Bool := decide (a.data = b.data)
def strBin (op : BinOp) (a b : ByteArray) : Option LV :=
  match op with
  | .add => if a.size + b.size ≤ 9223372036854775807 then some (.str (a ++ b)) else none
  | .eql => some (.bool (strEq a b))
  | .neq => some (.bool (!strEq a b))
  | .lss => some (.bool (Op.bytesLess a.toList b.toList))
  | .gtr => some (.bool (!(Op.bytesLess a.toList b.toList || strEq a b)))
  | .leq => some (.bool (Op.bytesLess a.toList b.toList || strEq a b))
  | .geq => some (.bool (!Op.bytesLess a.toList b.toList))
  | _ => none
def evBin (op : BinOp) : LV → LV → Option LV
  | .int k a, .int k' b => if k = k' then intBin op k a b else none
  | .str a, .str b => strBin op a b
  | _, _ => none
def evShift (op : BinOp) : LV → LV → Option LV
  | .int k a, .int _ b => shiftBin op k a b
  | _, _ => none
/-- Equality of cells: 0: whole numbers, 1: bools, 2: strings. -/
def eqCell : Nat → LV → LV → Option Bool
  | 0, .int k a, .int k' b => if k = k' then some (decide (a = b)) else none
  | 1, .bool a, .bool b => some (a == b)
  | 2, .str a, .str b => some (strEq a b)
  | _, _, _ => none
def eqCells : List Nat → List LV → List LV → Option Bool
  | [], [], [] => some true
  | k :: ks, a :: x, b :: y => (eqCell k a b).bind fun p => (eqCells ks x y).bind fun q => some (p && q)
  | _, _, _ => none
def evEq (neg : Bool) : LV → LV → Option LV
  | .bool a, .bool b => some (.bool (if neg then !(a == b) else (a == b)))
  | _, _ => none
def evEqA (neg : Bool) (ks : List Nat) : LV → LV → Option LV
  | .agg a, .agg b => (eqCells ks a b).bind fun p => some (.bool (if neg then !p else p))
  | _, _ => none
def evUn (op : UnOp) : LV → Option LV
  | .bool b => match op with
    | .not => some (.bool (!b))
    | _ => none
  | .int k n => match op with
    | .neg => some (.int k (k.wrap (0 - n)))
    | _ => none
  | _ => none
def asI : LV → Option Int
  | .int _ n => some n
  | _ => none
def asB : LV → Option Bool
  | .bool b => some b
  | _ => none
def evLenS : LV → Option LV
  | .str s => some (.int .i64 s.size)
  | _ => none
def evLen : LV → Option LV
  | .list es xs => some (.int .i64 xs.length)
  | .sl _ _ _ len => some (.int .i64 len)
  | .nil es => some (.int .i64 0)
  | _ => none
def evConv (k : IntKind) : LV → Option LV
  | .int _ n => some (.int k (k.wrap n))
  | _ => none
def evExt (i : Nat) : LV → Option LV
  | .tup vs => vs[i]?
  | _ => none
def evField (off n : Nat) (ag : Bool) : LV → Option LV
  | .agg cs => if ag then (if off + n ≤ cs.length then some (.agg ((cs.drop off).take n)) else none) else cs[off]?
  | _ => none
def cellsOf : LV → Option (List LV)
  | .agg cs => some cs
  | .undef => none
  | .tup _ => none
  | .arr _ _ => none
  | v => some [v]
/-- Cells of a row from a place on, written anew. -/
def splice {α : Type} (r : List α) (off : Nat) (cs : List α) : List α := r.take off ++ cs ++ r.drop (off + cs.length)
def fillP (env : Env) : Row → List (Nat × Nat × Opd) → Option Row
  | z, [] => some z
  | z, (off, n, x) :: r => (cellsOf (x.ev env)).bind fun cs => if cs.length = n ∧ off + n ≤ z.length then fillP env (splice z off cs) r else none
def idx {α : Type} (xs : List α) (i : Int) : Option α := if 0 ≤ i then xs[i.toNat]? else none
def evIaddr (esz : Nat) : LV → LV → Option LV
  | .list es xs, .int _ i => if es = esz then (idx xs i).bind fun r => some (.pimm r) else none
  | .sl es o off len, .int _ i => if es = esz ∧ 0 ≤ i ∧ i < len then some (.ptr o (off + i.toNat) 0) else none
  | _, _ => none
def evIaddrA (esz len : Nat) : LV → LV → Option LV
  | .ptr o e j, .int _ i => if 0 ≤ i ∧ i < len then some (.ptr o e (j + i.toNat * esz)) else none
  | .pimm cs, .int _ i => if 0 ≤ i ∧ i < len ∧ len * esz ≤ cs.length then some (.pimm (cs.drop (i.toNat * esz))) else none
  | _, _ => none
def evFaddr (off : Nat) : LV → Option LV
  | .ptr o e j => some (.ptr o e (j + off))
  | .pimm cs => if off < cs.length then some (.pimm (cs.drop off)) else none
  | _ => none
def evIstr : LV → LV → Option LV
  | .str s, .int _ i => if 0 ≤ i then (s.data[i.toNat]?).bind fun b => some (.int .u8 b.toNat) else none
  | _, _ => none
def evIagg (esz len : Nat) (ag : Bool) : LV → LV → Option LV
  | .agg cs, .int _ i => if 0 ≤ i ∧ i < len ∧ len * esz ≤ cs.length then (if ag then some (.agg ((cs.drop (i.toNat * esz)).take esz)) else cs[i.toNat * esz]?) else none
  | _, _ => none
def evLoad (n : Nat) (ag : Bool) (H : Heap) : LV → Option LV
  | .pimm cs => if n ≤ cs.length then cellsVal ag ((cs.take n).map ldi) else none
  | .ptr o e j => (live H o).bind fun x => (x[e]?).bind fun r => if j + n ≤ r.length then cellsVal ag (((r.drop j).take n).map ldo) else none
  | _ => none
/-- Bytes as a text. -/
def bytesOf : Rows → Option (List Int)
  | [] => some []
  | [.int .u8 n] :: r => (bytesOf r).map (n :: ·)
  | _ => none
def strOf (ns : List Int) : ByteArray := ns.foldl (fun r n => r.push (UInt8.ofNat n.toNat)) ByteArray.empty
def evStrB (H : Heap) : LV → Option LV
  | .list es xs => if es = 1 then (bytesOf xs).map fun ns => .str (strOf ns) else none
  | .sl es o off len => if es = 1 then (live H o).bind fun x => (bytesOf (vw x off len)).map fun ns => .str (strOf ns) else none
  | .nil _ => some (.str ByteArray.empty)
  | _ => none
/-- A pointer that is none. -/
def evNilck : LV → Option LV
  | .ptr o e j => some (.ptr o e j)
  | .pimm cs => some (.pimm cs)
  | _ => none
def optI (env : Env) (d : Int) : Option Opd → Option Int
  | none => some d
  | some x => asI (x.ev env)
def evSlice (esz : Nat) (lo hi : Option Int) : LV → Option LV
  | .list es xs => (lo).bind fun l => (hi).bind fun h => if es = esz ∧ 0 ≤ l ∧ l ≤ h ∧ h ≤ xs.length then some (.list es (vw xs l.toNat (h - l).toNat)) else none
  | .sl es o off len => (lo).bind fun l => (hi).bind fun h => if es = esz ∧ 0 ≤ l ∧ l ≤ h ∧ h ≤ len then some (.sl es o (off + l.toNat) (h - l).toNat) else none
  | _ => none
def evSliceS (lo hi : Option Int) : LV → Option LV
  | .str s => (lo).bind fun l => (hi).bind fun h => if 0 ≤ l ∧ l ≤ h ∧ h ≤ s.size then some (.str (s.extract l.toNat h.toNat)) else none
  | _ => none
def lenOf : LV → Int
  | .str s => s.size
  | .list es xs => xs.length
  | .sl _ _ _ len => len
  | _ => 0
def evMax (mx : Bool) : LV → LV → Option LV
  | .int k a, .int _ b => some (.int k (if mx then (if a < b then b else a) else (if b < a then b else a)))
  | _, _ => none
def evMaxL (mx : Bool) : LV → List LV → Option LV
  | v, [] => some v
  | v, x :: r => (evMax mx v x).bind fun y => evMaxL mx y r

/-- What functions answer: the results, and what became of the objects that were lent. -/
abbrev Sig := Nat → List LV → Heap → Option (List LV × Heap)

inductive QK where
  | mov (x : Opd)
  | bin (op : BinOp) (x y : Opd)
  | shift (op : BinOp) (x y : Opd)
  | eq (neg : Bool) (x y : Opd)
  | eqa (neg : Bool) (ks : List Nat) (x y : Opd)
  | un (op : UnOp) (x : Opd)
  | len (x : Opd)
  | lenS (x : Opd)
  | conv (k : IntKind) (x : Opd)
  | ext (x : Opd) (i : Nat)
  | field (off n : Nat) (ag : Bool) (x : Opd)
  | build (z : Row) (ps : List (Nat × Nat × Opd))
  | bslice (esz : Nat) (z : Row) (ps : List (Nat × Nat × Opd))
  | load (n : Nat) (ag : Bool) (x : Opd)
  | faddr (off : Nat) (x : Opd)
  | iaddr (esz : Nat) (x i : Opd)
  | iaddrA (esz len : Nat) (x i : Opd)
  | istr (x i : Opd)
  | iagg (esz len : Nat) (ag : Bool) (x i : Opd)
  | slice (esz : Nat) (x : Opd) (lo hi : Option Opd)
  | sliceS (x : Opd) (lo hi : Option Opd)
  | mkfn (f : Nat) (caps : List Opd)
  | max (mx : Bool) (xs : List Opd)
  | strB (x : Opd)
  | nilck (x : Opd)
  | call (f : Nat) (args : List Opd)
  | callv (x : Opd) (args : List Opd)
  deriving Inhabited

def chop (esz : Nat) : Nat → Row → Rows
  | 0, _ => []
  | n + 1, r => r.take esz :: chop esz n (r.drop esz)

def qcall (S : Sig) (f : Nat) (H : Heap) (vs : List LV) : Option LV :=
  (S f (vs.map (frz H)) []).bind fun r => some (pack1 (r.1.map (impF (vs.all LV.noRef))))

def evQ (S : Sig) (env : Env) (H : Heap) : QK → Option LV
  | .mov x => some (x.ev env)
  | .bin op x y => evBin op (x.ev env) (y.ev env)
  | .shift op x y => evShift op (x.ev env) (y.ev env)
  | .eq neg x y => evEq neg (x.ev env) (y.ev env)
  | .eqa neg ks x y => evEqA neg ks (x.ev env) (y.ev env)
  | .un op x => evUn op (x.ev env)
  | .len x => evLen (x.ev env)
  | .lenS x => evLenS (x.ev env)
  | .conv k x => evConv k (x.ev env)
  | .ext x i => evExt i (x.ev env)
  | .field off n ag x => evField off n ag (x.ev env)
  | .build z ps => (fillP env z ps).bind fun r => some (.agg r)
  | .bslice esz z ps => (fillP env z ps).bind fun r => if r.all LV.scalar ∧ 0 < esz then some (.list esz (chop esz (r.length / esz) r)) else none
  | .load n ag x => evLoad n ag H (x.ev env)
  | .faddr off x => evFaddr off (x.ev env)
  | .iaddr esz x i => evIaddr esz (x.ev env) (i.ev env)
  | .iaddrA esz len x i => evIaddrA esz len (x.ev env) (i.ev env)
  | .istr x i => evIstr (x.ev env) (i.ev env)
  | .iagg esz len ag x i => evIagg esz len ag (x.ev env) (i.ev env)
  | .slice esz x lo hi => evSlice esz (optI env 0 lo) (optI env (lenOf (x.ev env)) hi) (x.ev env)
  | .sliceS x lo hi => evSliceS (optI env 0 lo) (optI env (lenOf (x.ev env)) hi) (x.ev env)
  | .mkfn f caps => some (.fn f (caps.map (Opd.ev env)))
  | .strB x => evStrB H (x.ev env)
  | .nilck x => evNilck (x.ev env)
  | .max mx xs => match xs with
    | [] => none
    | x :: r => evMaxL mx (x.ev env) (r.map (Opd.ev env))
  | .call f args => qcall S f H (args.map (Opd.ev env))
  | .callv x args => match x.ev env with
    | .fn f caps => qcall S f H (args.map (Opd.ev env) ++ caps)
    | _ => none

/-! ### Operations that make or write memory -/
inductive EK where
  | alloc (z : Row)
  | box (n : Nat) (x : Opd)
  | store (n : Nat) (pk : Bool) (x v : Opd)
  | eload (n : Nat) (ag : Bool) (x : Opd)
  | bslice (esz : Nat) (z : Row) (ps : List (Nat × Nat × Opd))
  | mks (z : Row) (bytes : Nat) (len cap : Opd)
  | app (esz bytes : Nat) (mv : Bool) (x y : Opd)
  | call (f : Nat) (args : List Opd) (lent : List Nat)
  deriving Inhabited

def freshN (H : Heap) (n : Nat) : Bool := (look H n).isNone && decide (n < 900000)
def freshAll (H : Heap) (h : Heap) : Bool := h.all fun p => freshN H p.1 && rowsPlain (p.2.getD [])

/-- The cells, each slice of an object that is owned whole now standing in its cell; and the objects that are so used up. -/
def packC (H : Heap) : List LV → Option (List LV × Heap)
  | [] => some ([], [])
  | .sl es o off len :: r => (live H o).bind fun x =>
      if rowsPlain x then (packC ((o, none) :: H) r).bind fun p => some (.arr es (vw x off len) :: p.1, (o, none) :: p.2) else none
  | .list es xs :: r => (packC H r).bind fun p => some (.list es xs :: p.1, p.2)
  | .nil es :: r => (packC H r).bind fun p => some (.arr es [] :: p.1, p.2)
  | c :: r => if c.plain then (packC H r).bind fun p => some (c :: p.1, p.2) else none

/-- The cells loaded, each owned slice among them now an object of its own. -/
def unpackC : Nat → List LV → List LV × Heap
  | _, [] => ([], [])
  | n, .arr es xs :: r => (.sl es n 0 xs.length :: (unpackC (n + 1) r).1, (n, some xs) :: (unpackC (n + 1) r).2)
  | n, c :: r => (ldo c :: (unpackC (n + 1) r).1, (unpackC (n + 1) r).2)

/-- Arguments that are lent: the callee's names for their objects. -/
def lend1 (n : Nat) : LV → List (Nat × Nat)
  | .sl _ o _ _ => [(n, o)]
  | .ptr o _ _ => [(n, o)]
  | _ => []
def lendCs : Nat → List LV → List (Nat × Nat)
  | _, [] => []
  | n, c :: r => lend1 n c ++ lendCs (n + 1) r
def lendArg (n : Nat) : LV → List (Nat × Nat)
  | .agg cs => lendCs n cs
  | v => lend1 n v
def lendN (lent : List Nat) : Nat → List LV → List (Nat × Nat)
  | _, [] => []
  | i, v :: r => (if lent.contains i then lendArg (900000 + i * 1000) v else []) ++ lendN lent (i + 1) r
def lv1 (H : Heap) (n : Nat) : LV → LV
  | .sl es _ off len => .sl es n off len
  | .ptr _ e j => .ptr n e j
  | v => frz0 H v
def lvCs (H : Heap) : Nat → List LV → List LV
  | _, [] => []
  | n, c :: r => lv1 H n c :: lvCs H (n + 1) r
def lvArg (H : Heap) (n : Nat) : LV → LV
  | .agg cs => .agg (lvCs H n cs)
  | .sl es _ off len => .sl es n off len
  | .ptr _ e j => .ptr n e j
  | v => frz H v
def lendV (H : Heap) (lent : List Nat) : Nat → List LV → List LV
  | _, [] => []
  | i, v :: r => (if lent.contains i then lvArg H (900000 + i * 1000) v else frz H v) :: lendV H lent (i + 1) r
/-- No argument that is only read comes out of an object. -/
def lendOk (lent : List Nat) : Nat → List LV → Bool
  | _, [] => true
  | i, v :: r => ((lent.contains i && (match v with | .fn _ _ => false | _ => true)) || v.noRef) && lendOk lent (i + 1) r
def pureH (h : Heap) : Bool := h.all fun p => match p.2 with
  | some x => pureR x
  | none => true
def lendO (H : Heap) : List (Nat × Nat) → Option Heap
  | [] => some []
  | (n, o) :: r => (live H o).bind fun x => if rowsPlain x then (lendO H r).bind fun h => some ((n, some x) :: h) else none
def killed (ns : List Nat) : Heap := ns.map fun o => (o, none)
def distinct : List Nat → Bool
  | [] => true
  | n :: r => !(r.contains n) && distinct r
/-- All arguments: those at the places of 'lent' are lent, the others frozen. -/
def lendA (H : Heap) (lent : List Nat) (vs : List LV) : Option (List LV × Heap × List (Nat × Nat)) :=
  if distinct ((lendN lent 0 vs).map (·.2)) && distinct ((lendN lent 0 vs).map (·.1)) then
    (lendO H (lendN lent 0 vs)).bind fun h => some (lendV (killed ((lendN lent 0 vs).map (·.2)) ++ H) lent 0 vs, h, lendN lent 0 vs)
  else none

def back : List (Nat × Nat) → Heap → Option Heap
  | [], _ => some []
  | (n, o) :: r, h => (look h n).bind fun x => (back r h).bind fun t => some ((o, x) :: t)

/-- What is appended. -/
def appSrc (esz : Nat) (H : Heap) (mv : Bool) : LV → Option (Rows × Heap)
  | .list es ys => if es = esz then (if rowsScalar ys then some (ys, ([] : Heap)) else some (ys.map (·.map ldi), ([] : Heap))) else none
  | .sl es o off len => if es = esz then (live H o).bind fun y =>
      if mv then (if rowsPlain y then some (vw y off len, [(o, none)]) else none)
      else (if rowsScalar y then some (vw y off len, []) else none) else none
  | .nil _ => some ([], [])
  | _ => none

def evE (S : Sig) (env : Env) (H : Heap) (d : Nat) : EK → Option (LV × Heap)
  | .alloc z => if freshN H (d * 1000) = true ∧ z ≠ [] then some (.ptr (d * 1000) 0 0, (d * 1000, some [z]) :: H) else none
  | .box n x => (cellsOf (x.ev env)).bind fun cs => if freshN H (d * 1000) = true ∧ cs.length = n then some (.ptr (d * 1000) 0 0, (d * 1000, some [cs]) :: H) else none
  | .store n pk x v => match x.ev env with
    | .ptr o e j => (cellsOf (v.ev env)).bind fun cs => if cs.length = n then
        if pk then (packC H cs).bind fun p => (live (p.2 ++ H) o).bind fun x => (x[e]?).bind fun r =>
          if j + n ≤ r.length then some (.undef, (o, some (x.set e (splice r j p.1))) :: (p.2 ++ H)) else none
        else (live H o).bind fun x => (x[e]?).bind fun r =>
          if j + n ≤ r.length then some (.undef, (o, some (x.set e (splice r j cs))) :: H) else none
      else none
    | _ => none
  | .eload n ag x => match x.ev env with
    | .ptr o e j => (live H o).bind fun x => (x[e]?).bind fun r => if j + n ≤ r.length then
        if freshAll H (unpackC (d * 1000) ((r.drop j).take n)).2 then
          (cellsVal ag (unpackC (d * 1000) ((r.drop j).take n)).1).bind fun v =>
            some (v, (o, some (x.set e (splice r j (unpackC (d * 1000) ((r.drop j).take n)).1))) :: ((unpackC (d * 1000) ((r.drop j).take n)).2 ++ H))
        else none else none
    | _ => none
  | .bslice esz z ps => (fillP env z ps).bind fun r => if 0 < esz ∧ freshN H (d * 1000) then
      (packC H r).bind fun p => some (.sl esz (d * 1000) 0 (r.length / esz), (d * 1000, some (chop esz (r.length / esz) p.1)) :: (p.2 ++ H)) else none
  | .mks z bytes len cap => (asI (len.ev env)).bind fun n => (asI (cap.ev env)).bind fun c =>
      if 0 ≤ n ∧ n = c ∧ n * bytes ≤ 140737488355328 ∧ 0 < z.length ∧ freshN H (d * 1000) then
        some (.sl z.length (d * 1000) 0 n.toNat, (d * 1000, some (List.replicate n.toNat z)) :: H) else none
  | .app esz bytes mv x y => (appSrc esz H mv (y.ev env)).bind fun src =>
      if freshN H (d * 1000) then
        match x.ev env with
        | .nil _ => if src.1.length * bytes ≤ 140737488355328 then some (.sl esz (d * 1000) 0 src.1.length, (d * 1000, some src.1) :: (src.2 ++ H)) else none
        | .sl es o off len => (live (src.2 ++ H) o).bind fun x =>
            if es = esz ∧ off + len = x.length ∧ (len + src.1.length) * bytes ≤ 140737488355328 then
              some (.sl esz (d * 1000) 0 (len + src.1.length), (d * 1000, some (vw x off len ++ src.1)) :: (o, none) :: (src.2 ++ H)) else none
        | _ => none
      else none
  | .call f args lent => (lendA H lent (args.map (Opd.ev env))).bind fun p =>
      (S f p.1 p.2.1).bind fun r => (back p.2.2 r.2).bind fun hb =>
        if freshAll H (impR (lendOk lent 0 (args.map (Opd.ev env))) (d * 1000) r.1).2 = true ∧ distinct ((impR (lendOk lent 0 (args.map (Opd.ev env))) (d * 1000) r.1).2.map (·.1)) = true ∧
            (lendOk lent 0 (args.map (Opd.ev env)) || (pureH (impR (lendOk lent 0 (args.map (Opd.ev env))) (d * 1000) r.1).2 && pureH hb)) = true then
          some (pack1 (impR (lendOk lent 0 (args.map (Opd.ev env))) (d * 1000) r.1).1, (impR (lendOk lent 0 (args.map (Opd.ev env))) (d * 1000) r.1).2 ++ (hb ++ H))
        else none

/-! ### Regions and code -/
inductive ROp where
  | q (d : Nat) (k : QK)
  | ch (d : Nat) (c : Opd) (t : List ROp) (a : Opd) (e : List ROp) (b : Opd)
  | e (d : Option Nat) (k : EK)
  deriving Inhabited

mutual
def ROp.dsts : ROp → List Nat
  | .q d _ => [d]
  | .ch d _ t _ e _ => dstsL t ++ dstsL e ++ [d]
  | .e d _ => d.toList
def dstsL : List ROp → List Nat
  | [] => []
  | o :: r => o.dsts ++ dstsL r
end
def undefs (l : List Nat) : Env := l.map fun n => (n, .undef)

mutual
/-- Operations that only compute, inside of a choice. -/
def runQ1 (S : Sig) (H : Heap) (env : Env) : ROp → Option Env
  | .q d k => (evQ S env H k).bind fun v => some ((d, v) :: env)
  | .ch d c t a e b => (asB (c.ev env)).bind fun p =>
      (if p then (runQ S H env t).bind fun env' => some (a.ev env') else (runQ S H env e).bind fun env' => some (b.ev env')).bind fun v =>
        some ((d, v) :: (undefs (dstsL t ++ dstsL e) ++ env))
  | .e _ _ => none
def runQ (S : Sig) (H : Heap) (env : Env) : List ROp → Option Env
  | [] => some env
  | o :: r => (runQ1 S H env o).bind fun env' => runQ S H env' r
end

structure St where
  env : Env
  heap : Heap

def put (d : Option Nat) (v : LV) (env : Env) : Env :=
  match d with
  | some d => (d, v) :: env
  | none => env

def runR (S : Sig) : St → List ROp → Option St
  | s, [] => some s
  | s, .e d k :: r => (evE S s.env s.heap (d.getD 0) k).bind fun p => runR S ⟨put d p.1 s.env, p.2⟩ r
  | s, o :: r => (runQ1 S s.heap s.env o).bind fun env' => runR S ⟨env', s.heap⟩ r
/-- What an operation writes: objects that are new since the region's begin, or that are hidden. -/
def newOk (H0 : Heap) (hide : List Nat) (H H' : Heap) : Bool := (H'.take (H'.length - H.length)).all fun q => (look H0 q.1).isNone || hide.contains q.1
/-- A part of a region that draws its order: what only computes reads the heap as it was at the part's begin: all of it, or what is not hidden. -/
def runD (S : Sig) (hide : List Nat) (H0 : Heap) : St → List (Bool × ROp) → Option St
  | s, [] => some s
  | s, (_, .e d k) :: r => (evE S s.env s.heap (d.getD 0) k).bind fun p => if newOk H0 hide s.heap p.2 then runD S hide H0 ⟨put d p.1 s.env, p.2⟩ r else none
  | s, (early, o) :: r => (runQ1 S (if early then H0 else killed hide ++ H0) s.env o).bind fun env' => runD S hide H0 ⟨env', s.heap⟩ r

inductive LC where
  | skip
  | reg (ops : List ROp)
  | regD (hide : List Nat) (a : List (Bool × ROp)) (b : List ROp)
  | seq (a b : LC)
  | cond (c : Opd) (a b : LC)
  | block (id : Nat) (b : LC)
  | loop (b : LC)
  | exit (id : Nat)
  | ret
  | keep (ss : List Nat) (os : List (Nat × Nat))
  | kp (ss : List Nat)
  | mat (s n : Nat)
  | rpk (x : Opd)
  deriving Inhabited

inductive Ex where
  | normal
  | exit (id : Nat)
  | ret

def ren0 (os : List (Nat × Nat)) : LV → LV
  | .sl es o off len => match look os o with
    | some n => .sl es n off len
    | none => .undef
  | .ptr o e j => match look os o with
    | some n => .ptr n e j
    | none => .undef
  | .int k n => .int k n
  | .bool b => .bool b
  | .str s => .str s
  | .list es xs => .list es xs
  | .arr es xs => .arr es xs
  | .nil es => .nil es
  | .pimm cs => .pimm cs
  | _ => .undef
def ren (os : List (Nat × Nat)) : LV → LV
  | .agg cs => .agg (cs.map (ren0 os))
  | .fn f cs => .fn f (cs.map (ren0 os))
  | v => ren0 os v
def keepH (os : List (Nat × Nat)) (H : Heap) : List (Nat × Nat) → Option Heap
  | [] => some []
  | (o, n) :: r => (live H o).bind fun x => (keepH os H r).bind fun h =>
      some ((n, some (if rowsPlain x then x else x.map (·.map (ren0 os)))) :: h)
def keepE (os : List (Nat × Nat)) (env : Env) (ss : List Nat) : Env := ss.map fun s => (s, ren os ((look env s).getD .undef))

/-! ### The loop: the least solution -/
def iterN {σ ρ : Type} (f : σ → Option (σ ⊕ ρ)) : Nat → σ → Option ρ
  | 0, _ => none
  | n + 1, s => match f s with
    | none => none
    | some (.inr r) => some r
    | some (.inl s') => iterN f n s'
open Classical in
noncomputable def Loop {σ ρ : Type} (f : σ → Option (σ ⊕ ρ)) (s : σ) : Option ρ :=
  if h : ∃ n r, iterN f n s = some r then some (Classical.choose (Classical.choose_spec h)) else none

theorem iterN_mono {σ ρ : Type} (f : σ → Option (σ ⊕ ρ)) : ∀ (n m : Nat) (s : σ) (r : ρ), iterN f n s = some r → n ≤ m → iterN f m s = some r := by
  intro n
  induction n with
  | zero => intro m s r h; simp [iterN] at h
  | succ n ih =>
    intro m s r h hm
    obtain ⟨m, rfl⟩ : ∃ k, m = k + 1 := ⟨m - 1, by omega⟩
    simp only [iterN] at h ⊢
    cases hf : f s with
    | none => rw [hf] at h; cases h
    | some x =>
      rw [hf] at h
      cases x with
      | inl s' => exact ih m s' r h (by omega)
      | inr r' => exact h
theorem iterN_unique {σ ρ : Type} (f : σ → Option (σ ⊕ ρ)) {n m : Nat} {s : σ} {r r' : ρ} (h : iterN f n s = some r) (h' : iterN f m s = some r') : r = r' := by
  have a := iterN_mono f n (max n m) s r h (by omega)
  have b := iterN_mono f m (max n m) s r' h' (by omega)
  rw [a] at b
  exact Option.some.inj b
theorem Loop_iff {σ ρ : Type} (f : σ → Option (σ ⊕ ρ)) (s : σ) (r : ρ) : Loop f s = some r ↔ ∃ n, iterN f n s = some r := by
  unfold Loop
  constructor
  · intro h
    split at h
    · rename_i hx
      have := Classical.choose_spec (Classical.choose_spec hx)
      rw [Option.some.inj h] at this
      exact ⟨_, this⟩
    · cases h
  · rintro ⟨n, h⟩
    have hx : ∃ n r, iterN f n s = some r := ⟨n, r, h⟩
    rw [dif_pos hx]
    exact congrArg some (iterN_unique f (Classical.choose_spec (Classical.choose_spec hx)) h)
theorem Loop_eq {σ ρ : Type} (f : σ → Option (σ ⊕ ρ)) (s : σ) : Loop f s = (f s).bind fun x => Sum.elim (Loop f) some x := by
  apply Option.ext
  intro r
  rw [Loop_iff]
  constructor
  · rintro ⟨n, h⟩
    cases n with
    | zero => simp [iterN] at h
    | succ n =>
      simp only [iterN] at h
      cases hf : f s with
      | none => rw [hf] at h; cases h
      | some x =>
        rw [hf] at h
        cases x with
        | inl s' => simpa using (Loop_iff f s' r).2 ⟨n, h⟩
        | inr r' => simpa using h
  · intro h
    cases hf : f s with
    | none => rw [hf] at h; simp at h
    | some x =>
      rw [hf] at h
      cases x with
      | inl s' =>
        obtain ⟨n, hn⟩ := (Loop_iff f s' r).1 (by simpa using h)
        exact ⟨n + 1, by simp [iterN, hf, hn]⟩
      | inr r' => exact ⟨1, by simpa [iterN, hf] using h⟩
/-- Two loops whose rounds answer alike. -/
theorem Loop_map {σ ρ τ υ : Type} (f : σ → Option (σ ⊕ ρ)) (f' : τ → Option (τ ⊕ υ)) (g : τ → σ) (h : υ → ρ) (hf : ∀ t, f (g t) = (f' t).map (Sum.map g h)) (t : τ) : Loop f (g t) = (Loop f' t).map h := by
  have key : ∀ n t, iterN f n (g t) = (iterN f' n t).map h := by
    intro n
    induction n with
    | zero => intro t; rfl
    | succ n ih =>
      intro t
      simp only [iterN, hf]
      cases f' t with
      | none => rfl
      | some x => cases x <;> simp [ih]
  apply Option.ext
  intro r
  rw [Loop_iff, Option.map_eq_some_iff]
  constructor
  · rintro ⟨n, hn⟩
    rw [key] at hn
    obtain ⟨u, hu, rfl⟩ := Option.map_eq_some_iff.1 hn
    exact ⟨u, (Loop_iff _ _ _).2 ⟨n, hu⟩, rfl⟩
  · rintro ⟨u, hu, rfl⟩
    obtain ⟨n, hn⟩ := (Loop_iff _ _ _).1 hu
    exact ⟨n, by rw [key, hn]; rfl⟩

def stepOf : Option (Ex × St) → Option (St ⊕ (Ex × St))
  | none => none
  | some (.normal, s) => some (.inl s)
  | some (e, s) => some (.inr (e, s))

def thenK (k : St → Option (Ex × St)) : Ex × St → Option (Ex × St)
  | (.normal, s) => k s
  | (e, s) => some (e, s)
def inBlock (id : Nat) : Ex × St → Ex × St
  | (.exit i, s) => if i = id then (.normal, s) else (.exit i, s)
  | p => p

noncomputable def runC (S : Sig) : LC → St → Option (Ex × St)
  | .skip, s => some (.normal, s)
  | .reg ops, s => (runR S s ops).bind fun s' => some (.normal, s')
  | .regD hide a b, s => (runD S hide s.heap s a).bind fun s' => (runR S s' b).bind fun s'' => some (.normal, s'')
  | .seq a b, s => (runC S a s).bind (thenK (runC S b))
  | .cond c a b, s => (asB (c.ev s.env)).bind fun p => if p then runC S a s else runC S b s
  | .block id b, s => (runC S b s).bind fun p => some (inBlock id p)
  | .loop b, s => Loop (fun s => stepOf (runC S b s)) s
  | .exit id, s => some (.exit id, s)
  | .ret, s => some (.ret, s)
  | .keep ss os, s => if distinct (os.map (·.2)) = true ∧ distinct (os.map (·.1)) = true ∧ (os.all fun p => decide (p.1 = p.2) || (decide (p.1 < 900000) && decide (p.2 < 900000))) = true then (keepH os s.heap os).bind fun h => some (.normal, ⟨keepE os s.env ss, h⟩) else none
  | .kp ss, s => some (.normal, ⟨ss.map fun n => (n, (look s.env n).getD .undef), s.heap⟩)
  | .mat sl n, s => match look s.env sl with
    | some (.nil es) => if freshN s.heap n then some (.normal, ⟨(sl, .sl es n 0 0) :: s.env, (n, some []) :: s.heap⟩) else none
    | _ => none
  | .rpk x, s => match x.ev s.env with
    | .ptr o e j => (live s.heap o).bind fun y => (y[e]?).bind fun r => (r[j]?).bind fun c =>
        match c with
        | .sl es m 0 len => (live s.heap m).bind fun z => if m ≠ o ∧ z.length = len ∧ rowsPlain z then
            some (.normal, ⟨s.env, (o, some (y.set e (splice r j [.arr es z]))) :: (m, none) :: s.heap⟩) else none
        | _ => none
    | _ => none

inductive LRes where
  | t (s : Nat)
  | cell (s : Nat) (n : Nat) (ag : Bool)
  deriving Inhabited

structure LFun where
  np : Nat
  nt : Nat
  code : LC
  res : List LRes
  deriving Inhabited

/-- What goes out: slices of objects go out as owned. -/
def outV (H : Heap) : LV → Option (LV × Heap)
  | .undef => none
  | .agg cs => (packC H cs).bind fun p => some (.agg p.1, p.2)
  | v => (packC H [v]).bind fun p => match p.1 with
    | [v'] => some (v', p.2)
    | _ => none
def resVal (s : St) : LRes → Option LV
  | .t n => look s.env n
  | .cell n k ag => evLoad k ag s.heap ((look s.env n).getD .undef)
def outs (s : St) : Heap → List LRes → Option (List LV × Heap)
  | H, [] => some ([], H)
  | H, r :: rs => (resVal s r).bind fun v => (outV H v).bind fun p => (outs s (p.2 ++ H) rs).bind fun q => some (p.1 :: q.1, q.2)
/-- The lent objects as they stand in the end. -/
def fin (H : Heap) : List Nat → Option Heap
  | [] => some []
  | n :: r => (look H n).bind fun x => (fin H r).bind fun h => match x with
    | none => some ((n, none) :: h)
    | some y => if rowsPlain y then some ((n, some y) :: h) else none

def enumL (i : Nat) : List LV → Env
  | [] => []
  | v :: r => (i, v) :: enumL (i + 1) r

noncomputable def runF (S : Sig) (f : LFun) (args : List LV) (objs : Heap) : Option (List LV × Heap) :=
  if args.length = f.np then
    (runC S f.code ⟨enumL 0 args, objs⟩).bind fun p => match p.1 with
      | .exit _ => none
      | _ => (outs p.2 p.2.heap f.res).bind fun q => (fin q.2 (objs.map (·.1))).bind fun h => some (q.1, h)
  else none

end Go.Lev
