import GoSem.ClaimData
import Derived.Lib.DecodeN
import Derived.Orders
import Derived.Laws.AppendOwn
import Derived.Laws.MakeOwn
import Derived.Laws.StructEq
import Derived.Laws.Small
import Derived.Laws.Strings
import Derived.Below
namespace Go.Abs
inductive SFlag where
 | plain | nil | full | non | nonfull
def SFlag.isFull : SFlag → Bool
 | .nil | .full | .nonfull => true
 | _ => false
def SFlag.isNil : SFlag → Option Bool
 | .nil => some true
 | .non | .nonfull => some false
 | _ => none
inductive V where
 | bool (b : Bool)
 | int (k : IntKind) (n : Int)
 | str (s : ByteArray)
 | nilptr
 | nilmap
 | nilfunc
 | nilif
 | fn (f : FuncId)
 | clo (f : FuncId) (caps : List V)
 | sl (fl : SFlag) (elems : List V)
 | agg (cells : List V)
 | tuple (vs : List V)
 | ptr (cells : List V)
 | map (ks vs : List V)
def firstTab : List V := (List.range 256).map fun c => .int .u8 (Lib.firstT c)
def acceptTab : List V := (List.range 32).map fun j => .int .u8 (if j % 2 = 0 then Lib.accLo (j / 2) else Lib.accHi (j / 2))
def G0 (g : Nat) : Option (List V) := match g with
 | 0 => some firstTab
 | 1 => some acceptTab
 | _ => none
def GP (_g : Nat) : List (Nat × (Option Value → Prop)) := []
inductive D where
 | undef
 | v (x : V)
 | ptr (r off : Nat)
 | eptr (r i off : Nat)
 | vptr (cells : List V)
 | osl (r off len : Nat) (full : Bool)
 | tsl (t : Nat) (elems : List V)
 | map (r : Nat)
 | func (f : FuncId) (first captured : List D)
 | agg (cells : List D)
 | tuple (vs : List D)
 | box (t : Nat) (x : D)
inductive AObj where
 | row (k : Nat) (elems : List V)
 | cells (cs : List D)
 | grid (k : Nat) (cs : List D)
 | tok (k n : Nat)
 | map (ks : List V) (vs : List D)
 | iter (m : D) (since : Nat) (seen : List Nat) (last : Nat)
 | dead
def V.cells : V → List V
 | .agg cs => cs
 | x => [x]
def V.scalar : V → Bool
 | .agg _ | .tuple _ => false
 | _ => true
def V.solid : V → Bool
 | .agg cs => cs.all V.scalar
 | .tuple _ => false
 | _ => true
def V.flat : V → Bool
 | .bool _ | .int _ _ | .str _ | .nilptr | .nilmap | .nilfunc | .nilif | .fn _ => true
 | .sl _ es => es.isEmpty
 | .clo _ _ | .ptr _ | .map _ _ => false
 | .agg cs | .tuple cs => cs.all fun
  | .bool _ | .int _ _ | .str _ | .nilptr | .nilmap | .nilfunc | .nilif | .fn _ => true
  | .sl _ es => es.isEmpty
  | .agg cs => cs.all fun
   | .bool _ | .int _ _ | .str _ | .nilptr | .nilmap | .nilfunc | .nilif | .fn _ => true
   | .sl _ es => es.isEmpty
   | _ => false
  | _ => false
def D.cells : D → List D
 | .v x => x.cells.map .v
 | .agg cs => cs
 | d => [d]
def D.scalar : D → Bool
 | .v x => x.scalar
 | .undef | .agg _ | .tuple _ => false
 | _ => true
def D.solid : D → Bool
 | .v x => x.solid
 | .agg cs => cs.all D.scalar
 | .undef | .tuple _ => false
 | _ => true
def D.unt : D → D
 | .tsl _ es => .v (.sl .plain es)
 | d => d
def D.unp : D → D
 | .tsl _ es => .v (.sl .plain es)
 | .v (.sl _ es) => .v (.sl .plain es)
 | d => d
def D.into (u : Bool) (p x : D) : D := match p with
 | .eptr _ _ _ => x.unt
 | _ => if u then x.unp else x
def D.pure? : D → Option V
 | .v x => some x
 | _ => none
def pures : List D → Option (List V)
 | [] => some []
 | d :: r => match d.pure?, pures r with
  | some x, some xs => some (x :: xs)
  | _, _ => none
def mkAgg (cs : List D) : D := match pures cs with
 | some vs => .v (.agg vs)
 | none => .agg cs
def mkTuple (cs : List D) : D := match pures cs with
 | some vs => .v (.tuple vs)
 | none => .tuple cs
def U : D := .v (.tuple [])
def ofScalar : Value → Option V
 | .bool b => some (.bool b)
 | .int k n => some (.int k n)
 | .string s => some (.str s)
 | .pointer none => some .nilptr
 | .slice none 0 0 => some (.sl .nil [])
 | .map none => some .nilmap
 | .nilFunc => some .nilfunc
 | .nilIface => some .nilif
 | _ => none
def ofScalars : List Value → Option (List V)
 | [] => some []
 | v :: r => match ofScalar v, ofScalars r with
  | some x, some xs => some (x :: xs)
  | _, _ => none
def ofValue : Value → Option V
 | .agg cs => match ofScalars cs.toList with
  | some xs => some (.agg xs)
  | none => none
 | v => ofScalar v
inductive TK where
 | bool | int (k : IntKind) | str | ptr (e : Nat) | slice (e : Nat) | struct (fs : List (Nat × Nat)) | array (n e : Nat) | map (k e : Nat) | func | iface | other
structure TI where
 kind : TK
 size : Nat
 bytes : Nat
 zero : V
 eqOk : Bool
 meths : List (String × Option (FuncId × Bool)) := []
def TK.isAgg : TK → Bool
 | .struct _ | .array _ _ => true
 | _ => false
def TK.isIface : TK → Bool
 | .iface => true
 | _ => false
def TK.isOther : TK → Bool
 | .other => true
 | _ => false
def tkOf : TypeDesc → TK
 | .bool => .bool
 | .int k => .int k
 | .string => .str
 | .pointer e => .ptr e
 | .slice e => .slice e
 | .struct fs => if fs.toList.all (fun f => f.name != "_") then .struct (fs.toList.map fun f => (f.offset, f.type)) else .other
 | .array n e => .array n e
 | .map k e => .map k e
 | .func _ _ _ => .func
 | .interface _ => .iface
 | _ => .other
def tiOf (P : Program) (t : Nat) : Option TI :=
 match P.info? t, P.underlying t with
 | some i, some d => match i.zero with
  | some z => match ofValue z with
   | some x => if (tkOf d).isOther then none else some { kind := tkOf d, size := i.size, bytes := i.bytes, zero := x, eqOk := !P.eqGuardType P.depth t && !P.stoodInHeld t, meths := i.methods.toList.map fun m => (m.name, if m.path.isEmpty then m.func else none) }
   | none => none
  | none => none
 | _, _ => none
structure St where
 tmps : List D
 heap : List AObj
inductive AExit where
 | normal
 | exit (id : Nat)
 | ret
def St.ev (σ : St) : Operand → D
 | .tmp t => σ.tmps.getD t .undef
 | .const c => match ofValue c with
  | some x => .v x
  | none => .undef
 | .global g => match G0 g with
  | some cs => .vptr cs
  | none => .undef
 | .func f => .v (.fn f)
def mkOf (agg : Bool) (cs : List D) : Option D :=
 if agg then some (mkAgg cs) else match cs with
  | [d] => some d
  | _ => none
def mkOfV (agg : Bool) (cs : List V) : Option V :=
 if agg then some (.agg cs) else match cs with
  | [d] => some d
  | _ => none
def cut {α : Type} (l : List α) (off n : Nat) : Option (List α) :=
 if off + n ≤ l.length then some ((l.drop off).take n) else none
def splice {α : Type} (l : List α) (off : Nat) (x : List α) : Option (List α) :=
 if off + x.length ≤ l.length then some (l.take off ++ x ++ l.drop (off + x.length)) else none
def loadD (i : TI) (h : List AObj) : D → Option D
 | .ptr r off => match h[r]? with
  | some (.cells cs) => (cut cs off i.size).bind (mkOf i.kind.isAgg)
  | some (.grid _ cs) => (cut cs off i.size).bind (mkOf i.kind.isAgg)
  | _ => none
 | .eptr r j off => match h[r]? with
  | some (.row _ es) => match es[j]? with
   | some x => ((cut x.cells off i.size).bind (mkOfV i.kind.isAgg)).map .v
   | none => none
  | _ => none
 | .vptr cs | .v (.ptr cs) => ((cut cs 0 i.size).bind (mkOfV i.kind.isAgg)).map .v
 | _ => none
def storeV (e x : V) (off : Nat) : Option V :=
 match e with
 | .agg cs => (splice cs off x.cells).map .agg
 | _ => if off = 0 then some x else none
def storeD (i : TI) (h : List AObj) (p x : D) : Option (List AObj) :=
 if x.solid && x.cells.length == i.size then
  match p with
  | .ptr r off => match h[r]? with
   | some (.cells cs) => (splice cs off x.cells).map fun cs' => h.set r (.cells cs')
   | some (.grid k cs) => (splice cs off x.cells).map fun cs' => h.set r (.grid k cs')
   | _ => none
  | .eptr r j off => match h[r]?, x with
   | some (.row k es), .v y => match es[j]? with
    | some e => match storeV e y off with
     | some e' => if e'.cells.length == k && e'.solid then some (h.set r (.row k (es.set j e'))) else none
     | none => none
    | none => none
   | _, _ => none
  | _ => none
 else none
def fillD (place : Nat → Option (Nat × Nat)) (cells : List D) : List (Nat × D) → Option (List D)
 | [] => some cells
 | (i, d) :: r => match place i with
  | none => none
  | some (off, size) => if d.solid && d.cells.length == size then
    match splice cells off d.cells with
    | some cs => fillD place cs r
    | none => none
   else none
def sizeT (T : Nat → Option TI) (t : Nat) : Option Nat := (T t).map (·.size)
def places (T : Nat → Option TI) : List (Nat × Nat) → Option (List (Nat × Nat))
 | [] => some []
 | (off, t) :: r => match sizeT T t, places T r with
  | some s, some ps => some ((off, s) :: ps)
  | _, _ => none
def eqFs (f : Nat → V → V → Option Bool) (T : Nat → Option TI) (xs ys : List V) : List (Nat × Nat) → Option Bool
 | [] => some true
 | (off, t) :: r => match T t with
  | none => none
  | some i => match (cut xs off i.size).bind (mkOfV i.kind.isAgg), (cut ys off i.size).bind (mkOfV i.kind.isAgg) with
   | some a, some b => match f t a b, eqFs f T xs ys r with
    | some p, some q => some (p && q)
    | _, _ => none
   | _, _ => none
def eqV (T : Nat → Option TI) : Nat → Nat → V → V → Option Bool
 | 0, _, _, _ => none
 | n + 1, t, x, y => match T t with
  | none => none
  | some i => match i.kind, x, y with
   | .bool, .bool a, .bool b => some (a == b)
   | .int _, .int k a, .int k' b => if k = k' then some (a == b) else none
   | .str, .str a, .str b => some (a.toList == b.toList)
   | .struct fs, .agg xs, .agg ys => if i.eqOk then eqFs (eqV T n) T xs ys fs else none
   | _, _, _ => none
def isNilS : D → Option Bool
 | .v (.sl fl es) => match es with
  | [] => fl.isNil
  | _ :: _ => some false
 | .osl _ _ _ _ => some false
 | _ => none
def isNilP : D → Option Bool
 | .v .nilptr => some true
 | .ptr _ _ | .eptr _ _ _ | .vptr _ | .v (.ptr _) => some false
 | _ => none
def isNilM : D → Option Bool
 | .v .nilmap => some true
 | .v (.map _ _) | .map _ => some false
 | _ => none
def isNilF : D → Option Bool
 | .v .nilfunc => some true
 | .v (.fn _) | .func _ _ _ => some false
 | _ => none
def eqD (T : Nat → Option TI) (t : Nat) (x y : D) : Option Bool := match T t with
 | none => none
 | some i => match i.kind with
  | .slice _ => match y with
   | .v (.sl .nil []) => isNilS x
   | _ => none
  | .ptr _ => match y with
   | .v .nilptr => isNilP x
   | _ => none
  | .map _ _ => match y with
   | .v .nilmap => isNilM x
   | _ => none
  | .func => match y with
   | .v .nilfunc => isNilF x
   | _ => none
  | _ => match x, y with
   | .v x, .v y => eqV T 8 t x y
   | _, _ => none
def intOp (op : BinOp) (k : IntKind) (a b : Int) : Option V :=
 match op with
 | .add => some (.int k (k.wrap (a + b)))
 | .sub => some (.int k (k.wrap (a - b)))
 | .mul => some (.int k (k.wrap (a * b)))
 | .quo => if b = 0 then none else some (.int k (k.wrap (a.tdiv b)))
 | .rem => if b = 0 then none else some (.int k (a.tmod b))
 | .and => some (.int k (bits .and k a b))
 | .or => some (.int k (bits .or k a b))
 | .xor => some (.int k (bits .xor k a b))
 | .andNot => some (.int k (bits .andNot k a b))
 | .eql => some (.bool (a == b))
 | .neq => some (.bool (a != b))
 | .lss => some (.bool (decide (a < b)))
 | .leq => some (.bool (decide (a ≤ b)))
 | .gtr => some (.bool (decide (a > b)))
 | .geq => some (.bool (decide (a ≥ b)))
 | _ => none
def shiftOp (op : BinOp) (k : IntKind) (a b : Int) : Option V :=
 if b < 0 then none else match op with
 | .shl => some (.int k (k.wrap (a * 2 ^ (min b.toNat k.bits))))
 | .shr => some (.int k (a.fdiv (2 ^ (min b.toNat k.bits))))
 | _ => none
def strOp (op : BinOp) (a b : ByteArray) : Option V :=
 match op with
 | .add => if a.size + b.size ≤ maxLen then some (.str (a ++ b)) else none
 | .eql => some (.bool (a.toList == b.toList))
 | .neq => some (.bool !(a.toList == b.toList))
 | .lss => some (.bool (Op.bytesLess a.toList b.toList))
 | .leq => some (.bool (Op.bytesLess a.toList b.toList || a.toList == b.toList))
 | .gtr => some (.bool !(Op.bytesLess a.toList b.toList || a.toList == b.toList))
 | .geq => some (.bool !(Op.bytesLess a.toList b.toList))
 | _ => none
def binD (T : Nat → Option TI) (op : BinOp) (t : Nat) (x y : D) : Option D :=
 match x, y with
 | .v (.int k a), .v (.int k' b) => match op with
  | .shl => (shiftOp .shl k a b).map .v
  | .shr => (shiftOp .shr k a b).map .v
  | op => if k = k' then (intOp op k a b).map .v else none
 | .v (.str a), .v (.str b) => (strOp op a b).map .v
 | x, y => match op with
  | .eql => (eqD T t x y).map fun b => .v (.bool b)
  | .neq => (eqD T t x y).map fun b => .v (.bool !b)
  | _ => none
def unD (op : UnOp) (x : D) : Option D :=
 match op, x with
 | .not, .v (.bool b) => some (.v (.bool !b))
 | .neg, .v (.int k n) => some (.v (.int k (k.wrap (0 - n))))
 | _, _ => none
def byteV : V → Option UInt8
 | .int .u8 n => some (UInt8.ofNat n.toNat)
 | _ => none
def bytesOfV : List V → Option (List UInt8)
 | [] => some []
 | x :: r => match byteV x, bytesOfV r with
  | some c, some cs => some (c :: cs)
  | _, _ => none
def strV (es : List V) : Option ByteArray := (bytesOfV es).map fun l => ⟨l.toArray⟩
def convD (T : Nat → Option TI) (src dst : Nat) (x : D) : Option D :=
 match T src, T dst, x with
 | some _, some i, .v (.int _ n) => match i.kind with
  | .int k => some (.v (.int k (k.wrap n)))
  | _ => none
 | some _, some i, .v (.str s) => match i.kind with
  | .str => some (.v (.str s))
  | _ => none
 | some si, some i, .v (.sl _ es) => match si.kind, i.kind with
  | .slice e, .str => match T e with
   | some ei => match ei.kind with
    | .int .u8 => (strV es).map fun b => .v (.str b)
    | _ => none
   | none => none
  | _, _ => none
 | _, _, _ => none
def lenD (T : Nat → Option TI) (t : Nat) (x : D) : Option D := match T t with
 | none => none
 | some i => match i.kind, x with
  | .slice _, .v (.sl _ es) => some (.v (.int .i64 es.length))
  | .slice _, .osl _ _ len _ => some (.v (.int .i64 len))
  | .str, .v (.str s) => some (.v (.int .i64 s.size))
  | _, _ => none
def natOf : D → Option Nat
 | .v (.int _ n) => if 0 ≤ n then some n.toNat else none
 | _ => none
def natOr (d : Nat) : Option D → Option Nat
 | none => some d
 | some x => natOf x
def indexAddrD (T : Nat → Option TI) (t : Nat) (x i : D) : Option D := match T t with
 | none => none
 | some ti => match ti.kind, x, natOf i with
  | .slice e, .v (.sl _ es), some j => match sizeT T e, es[j]? with
   | some k, some d => if d.cells.length == k then some (.vptr d.cells) else none
   | _, _ => none
  | _, _, _ => none
def indexAddrH (T : Nat → Option TI) (h : List AObj) (t : Nat) (x i : D) : Option D := match x with
 | .osl r off len _ => match T t with
  | none => none
  | some ti => match ti.kind, natOf i with
   | .slice e, some j => if j < len then match sizeT T e, h[r]? with
     | some k, some (.row k' _) => if k = k' then some (.eptr r (off + j) 0) else none
     | some 1, some (.cells _) => some (.ptr r (off + j))
     | some k, some (.grid k' _) => if k = k' then some (.ptr r ((off + j) * k)) else none
     | _, _ => none
    else none
   | _, _ => none
 | x => indexAddrD T t x i
def fieldAddrD (T : Nat → Option TI) (t f : Nat) (x : D) : Option D := match T t with
 | none => none
 | some ti => match ti.kind with
  | .struct fs => match fs[f]? with
   | none => none
   | some (o, ft) => match sizeT T ft with
    | none => none
    | some 0 => none
    | some (_ + 1) => match x with
     | .ptr r off => some (.ptr r (off + o))
     | .eptr r j off => some (.eptr r j (off + o))
     | .vptr cs | .v (.ptr cs) => some (.vptr (cs.drop o))
     | _ => none
  | _ => none
def fieldD (T : Nat → Option TI) (t f : Nat) (x : D) : Option D := match T t with
 | none => none
 | some ti => match ti.kind with
  | .struct fs => match fs[f]? with
   | none => none
   | some (o, ft) => match T ft with
    | none => none
    | some i => match x with
     | .v (.agg cs) => ((cut cs o i.size).bind (mkOfV i.kind.isAgg)).map .v
     | .agg cs => (cut cs o i.size).bind (mkOf i.kind.isAgg)
     | _ => none
  | _ => none
def indexD (T : Nat → Option TI) (t : Nat) (x i : D) : Option D := match T t with
 | none => none
 | some ti => match ti.kind, x, natOf i with
  | .str, .v (.str s), some j => match s[j]? with
   | some b => some (.v (.int .u8 b.toNat))
   | none => none
  | _, _, _ => none
def shapeOk (h : List AObj) (r k : Nat) : Bool := match h[r]? with
 | some (.row k' _) => k == k'
 | some (.cells _) => k == 1
 | _ => false
def headOk (k : Nat) : List V → Bool
 | [] => true
 | x :: _ => x.cells.length == k
def boundsD (len : Nat) (lo hi mx : Option D) : Option (Nat × Nat × Option Nat) := match natOr 0 lo, natOr len hi, mx with
 | some l, some h, none => if l ≤ h ∧ h ≤ len then some (l, h, none) else none
 | some l, some h, some m => match natOf m, hi with
  | some m, some _ => if l ≤ h ∧ h ≤ m ∧ m ≤ len then some (l, h, some m) else none
  | _, _ => none
 | _, _, _ => none
def fullTo (full : Bool) (len h : Nat) : Option Nat → Bool
 | none => full && h == len
 | some m => m == h
def sliceD (T : Nat → Option TI) (hp : List AObj) (t : Nat) (x : D) (lo hi mx : Option D) : Option D := match T t with
 | none => none
 | some ti => match ti.kind, x with
  | .str, .v (.str s) => match boundsD s.size lo hi mx with
   | some (l, h, none) => some (.v (.str (s.extract l h)))
   | _ => none
  | .slice e, .v (.sl fl es) => match boundsD es.length lo hi mx, sizeT T e with
   | some (l, h, m), some k => if headOk k es then some (.v (.sl (if fullTo fl.isFull es.length h m then .full else .plain) ((es.drop l).take (h - l)))) else none
   | _, _ => none
  | .slice e, .osl r off len full => match boundsD len lo hi mx, sizeT T e with
   | some (l, h, m), some k => if shapeOk hp r k then
     (if l == h then some (.v (.sl (if fullTo full len h m then .full else .plain) [])) else
      if (m.isNone && !full) || fullTo full len h m then some (.osl r (off + l) (h - l) (fullTo full len h m)) else none) else none
   | _, _ => none
  | .array n e, .ptr r 0 => match lo, hi, mx with
   | none, some j, none => match natOf j, hp[r]?, sizeT T e with
    | some j, some (.cells cs), some 1 => if j ≤ n ∧ cs.length = n then some (.osl r 0 j false) else none
    | _, _, _ => none
   | _, _, _ => none
  | _, _ => none
def cutRowD (T : Nat → Option TI) (h : List AObj) (t : Nat) (x : D) (lo hi mx : Option D) : Option (D × List AObj) := match x, lo, hi, mx with
 | .osl r 0 len false, none, some j, none => match T t with
  | none => none
  | some ti => match ti.kind, natOf j, h[r]? with
   | .slice e, some j, some (.row k es) => if sizeT T e = some k ∧ j ≤ len then some (.osl r 0 j false, h.set r (.row k (es.take j))) else none
   | _, _, _ => none
 | _, _, _, _ => none
def elemsOf (k : Nat) (h : List AObj) : D → Option (List V)
 | .v (.sl _ es) => if headOk k es then some es else none
 | .osl r off len _ => match h[r]? with
  | some (.row k' es) => if k = k' ∧ off + len ≤ es.length then some ((es.drop off).take len) else none
  | some (.cells cs) => if k = 1 ∧ off + len ≤ cs.length then match pures ((cs.drop off).take len) with
    | some vs => if vs.all V.scalar then some vs else none
    | none => none
   else none
  | _ => none
 | _ => none
def appendD (T : Nat → Option TI) (rowM : Bool) (t : Nat) (h : List AObj) (s x : D) : Option (D × List AObj) := match T t with
 | none => none
 | some ti => match ti.kind with
  | .slice e => match T e with
   | none => none
   | some i => if i.size = 0 ∨ i.zero.cells.length ≠ i.size then none else match elemsOf i.size h x.unt with
    | none => none
    | some xs => match s with
     | .tsl q es => match h[q]? with
      | some (.tok k n) => if k = i.size ∧ n = es.length ∧ (es.length + xs.length) * i.bytes ≤ 140737488355328 ∧ es.length + xs.length ≤ maxLen then
        some (.tsl h.length (es ++ xs), h.set q .dead ++ [.tok k (es.length + xs.length)]) else none
      | _ => none
     | .v (.sl fl es) => match xs with
      | [] => some (.v (.sl fl es), h ++ [.dead])
      | _ :: _ => if fl.isFull && headOk i.size es && decide ((es.length + xs.length) * i.bytes ≤ 140737488355328) && decide (es.length + xs.length ≤ maxLen) then
        (if rowM then some (.osl h.length 0 (es.length + xs.length) false, h ++ [.row i.size (es ++ xs)]) else some (.tsl h.length (es ++ xs), h ++ [.tok i.size (es.length + xs.length)])) else none
     | .osl r off len full => if rowM = false then none else match h[r]? with
      | some (.row k es) => if k = i.size ∧ off + len ≤ es.length ∧ (len + xs.length) * i.bytes ≤ 140737488355328 ∧ len + xs.length ≤ maxLen then
        (if full then match xs with
         | [] => some (.osl r off len full, h)
         | _ :: _ => some (.osl h.length 0 (len + xs.length) false, h ++ [.row k ((es.drop off).take len ++ xs)])
        else if off = 0 then some (.osl h.length 0 (len + xs.length) false, h.set r .dead ++ [.row k (es.take len ++ xs)])
        else none)
       else none
      | some (.grid k cs) => if k = i.size ∧ off = 0 ∧ full = false ∧ cs.length = len * k ∧ (len + xs.length) * i.bytes ≤ 140737488355328 ∧ len + xs.length ≤ maxLen then
        some (.osl h.length 0 (len + xs.length) false, h.set r .dead ++ [.grid k (cs.map D.unt ++ (xs.flatMap V.cells).map .v)])
       else none
      | _ => none
     | _ => none
  | _ => none
def bytesV (b : ByteArray) : List V := b.data.toList.map fun c => .int .u8 c.toNat
def appendStrD (T : Nat → Option TI) (rowM : Bool) (t t' : Nat) (h : List AObj) (s x : D) : Option (D × List AObj) := match T t', x with
 | some i, .v (.str b) => match i.kind with
  | .str => appendD T rowM t h s (.v (.sl .plain (bytesV b)))
  | _ => none
 | _, _ => none
def makeSliceD (T : Nat → Option TI) (t : Nat) (h : List AObj) (len cap : D) : Option (D × List AObj) := match T t with
 | none => none
 | some ti => match ti.kind, natOf len, natOf cap with
  | .slice e, some n, some c => match T e with
   | none => none
   | some i => if n ≤ c ∧ c * i.bytes ≤ 140737488355328 ∧ c ≤ maxLen ∧ 0 < i.size ∧ i.zero.solid ∧ i.zero.cells.length = i.size then
     match i.kind with
     | .slice _ | .map _ _ | .ptr _ => if i.size = 1 ∧ i.zero.scalar = true then some (.osl h.length 0 n false, h ++ [.cells (List.replicate c (.v i.zero))]) else none
     | _ => some (.osl h.length 0 n false, h ++ [.row i.size (List.replicate n i.zero)])
    else none
  | _, _, _ => none
def plainS : V → V
 | .sl _ es => .sl .plain es
 | x => x
def plainV : V → V
 | .sl _ es => .sl .plain es
 | .agg cs => .agg (cs.map plainS)
 | x => x
def plainT : V → V
 | .tuple vs => .tuple (vs.map plainV)
 | x => plainV x
def allM {α β : Type} (f : α → Option β) : List α → Option (List β)
 | [] => some []
 | x :: r => match f x, allM f r with
  | some y, some ys => some (y :: ys)
  | _, _ => none
def chunk (k : Nat) : Nat → List V → List V
 | 0, _ => []
 | n + 1, l => .agg (l.take k) :: chunk k n (l.drop k)
def frzCap (f : D → Option V) (h : List AObj) : D → Option V
 | .ptr r 0 => match h[r]? with
  | some (.cells cs) => (allM f cs).map .agg
  | _ => none
 | .vptr cs => some (.agg cs)
 | _ => none
def frz (h : List AObj) : Nat → D → Option V
 | 0, _ => none
 | _ + 1, .v x => some (plainT x)
 | _ + 1, .tsl _ es => some (.sl .plain es)
 | n + 1, .osl r off len _ => match h[r]? with
  | some (.row _ es) => if off + len ≤ es.length then some (.sl .plain ((es.drop off).take len)) else none
  | some (.cells cs) => if off + len ≤ cs.length then match allM (frz h n) ((cs.drop off).take len) with
    | some vs => if vs.all V.scalar then some (.sl .plain vs) else none
    | none => none
   else none
  | some (.grid k cs) => if (off + len) * k ≤ cs.length then match allM (frz h n) ((cs.drop (off * k)).take (len * k)) with
    | some vs => if vs.all V.scalar then some (.sl .plain (chunk k len vs)) else none
    | none => none
   else none
  | _ => none
 | n + 1, .func f [] cs => (allM (frzCap (frz h n) h) cs).map (.clo f)
 | n + 1, .ptr r 0 => match h[r]? with
  | some (.cells cs) => (allM (frz h n) cs).map .ptr
  | _ => none
 | n + 1, .map r => match h[r]? with
  | some (.map ks vs) => (allM (frz h n) vs).map (.map ks)
  | _ => none
 | _ + 1, .vptr cs => some (.ptr cs)
 | n + 1, .agg cs => (allM (frz h n) cs).map .agg
 | n + 1, .tuple vs => (allM (frz h n) vs).map .tuple
 | _, _ => none
structure Keep where
 loop : Nat → List Nat
 cond : Nat → List Nat
 blk : Nat → List Nat
structure Lend where
 toks : List Nat := []
 res : Option Nat := none
 whole : Bool := false
structure Env where
 T : Nat → Option TI
 pureF : FuncId → Bool
 keep : FuncId → Keep
 acc : FuncId → List Nat
 rowF : FuncId → Bool
 rowM : Bool
 ora : FuncId → Option (List V → Option V)
 oraD : FuncId → Option (List D → List AObj → Option (D × List AObj))
 untF : FuncId → Bool := fun _ => false
 untS : Bool := false
 ownR : FuncId → Option Nat := fun _ => none
 rowTy : Nat → Bool := fun _ => true
 lend : FuncId → Option Lend := fun _ => none
 bldTy : Nat → Bool := fun _ => false
 dynP : Bool := false
abbrev Calling := FuncId → List D → List AObj → Option (D × List AObj)
def argP (h : List AObj) : D → Option D
 | .vptr cs => some (.vptr cs)
 | d => (frz h 6 d).map .v
def D.freed : D → Bool
 | .v _ | .tsl _ _ | .vptr _ => true
 | _ => false
def ownFlat (h : List AObj) : D → Bool
 | .osl r 0 len false => match h[r]? with
  | some (.row _ es) => decide (len ≤ es.length) && (es.take len).all V.flat
  | _ => false
 | .v (.sl _ es) => es.isEmpty
 | _ => false
def D.isV : D → Bool
 | .v _ => true
 | _ => false
def ownKeep (k : Nat) (d : D) (h' h : List AObj) : Option (D × List AObj) := match d with
 | .tuple ds => match ds[k]? with
  | some (.tsl r es) => match h'[r]? with
   | some (.tok a n) => if (ds.set k (.v (.bool true))).all D.isV then some (.tuple (ds.set k (.tsl h.length es)), h ++ [.tok a n]) else none
   | _ => none
  | some (.v _) => if ds.all D.isV then some (.tuple ds, h ++ [.dead]) else none
  | _ => none
 | .v (.tuple xs) => some (.tuple (xs.map .v), h ++ [.dead])
 | _ => none
def lendArg (t : Bool) (h : List AObj) (refs : List (Option Nat)) : D → Option (D × List (Option Nat))
 | .ptr q off => match h[q]? with
  | some (.cells cs) => if cs.all D.isV && !refs.contains (some q) then some (.ptr refs.length off, refs ++ [some q]) else none
  | _ => none
 | .tsl q es => if t then match h[q]? with
   | some (.tok _ _) => if !refs.contains (some q) then some (.tsl refs.length es, refs ++ [some q]) else none
   | _ => none
  else some (.v (.sl .plain es), refs)
 | .v x => if t then some (.v x, refs ++ [none]) else some (.v (plainT x), refs)
 | .vptr cs => some (.vptr cs, refs)
 | _ => none
def lendA (toks : List Nat) (h : List AObj) : Nat → List (Option Nat) → List D → Option (List D × List (Option Nat))
 | _, refs, [] => some ([], refs)
 | i, refs, d :: r => match lendArg (toks.contains i) h refs d with
  | some (d', refs') => match lendA toks h (i + 1) refs' r with
   | some (ds', rf) => some (d' :: ds', rf)
   | none => none
  | none => none
def lentObj (h : List AObj) : Option Nat → AObj
 | none => .dead
 | some q => h.getD q .dead
def lendBack (h1 : List AObj) : Nat → List (Option Nat) → List AObj → Option (List AObj)
 | _, [], h => some h
 | j, none :: r, h => lendBack h1 (j + 1) r h
 | j, some q :: r, h => match h[q]? with
  | some (.cells _) => match h1[j]? with
   | some (.cells cs) => if cs.all D.isV then lendBack h1 (j + 1) r (h.set q (.cells cs)) else none
   | _ => none
  | some (.tok _ _) => lendBack h1 (j + 1) r (h.set q .dead)
  | _ => none
def unlent (n : Nat) (h1 : List AObj) : List AObj := List.replicate n .dead ++ h1.drop n
def keepOne (d : D) (h1 h : List AObj) : Option (D × List AObj) := match d with
 | .tsl r es => match h1[r]? with
  | some (.tok a n) => some (.tsl h.length es, h ++ [.tok a n])
  | _ => none
 | .v x => some (.v x, h ++ [.dead])
 | _ => none
def lendRes (L : Lend) (n : Nat) (d : D) (h1 h : List AObj) : Option (D × List AObj) := match L.res with
 | none => (frz (unlent n h1) 6 d).map (.v ·, h)
 | some k => if L.whole then keepOne d h1 h else ownKeep k d h1 h
def lendD (L : Lend) (Γ : Calling) (f : FuncId) (ds : List D) (h : List AObj) : Option (D × List AObj) := match lendA L.toks h 0 [] ds with
 | none => none
 | some (ds', refs) => match Γ f ds' (refs.map (lentObj h)) with
  | none => none
  | some (d, h1) => match lendBack h1 0 refs h with
   | none => none
   | some h' => if refs.length ≤ h1.length then lendRes L refs.length d h1 h' else none
def callD (E : Env) (Γ : Calling) (f : FuncId) (ds : List D) (h : List AObj) : Option (D × List AObj) :=
 if E.pureF f then match allM (argP h) ds with
  | none => none
  | some vs => match Γ f vs [] with
   | none => none
   | some (d, h') => match frz h' 6 d with
    | none => none
    | some r => if ds.all D.freed || r.flat || ownFlat h' d then some (.v r, h) else none
 else match E.ownR f with
  | some k => if ds.all D.freed then match allM (argP h) ds with
   | none => none
   | some vs => match Γ f vs [] with
    | none => none
    | some (d, h') => ownKeep k d h' h
   else none
  | none => match E.lend f with
   | some L => lendD L Γ f ds h
   | none => Γ f ds h
def cloOf : D → Option (FuncId × List D × List D)
 | .v (.fn f) => some (f, [], [])
 | .v (.clo f caps) => some (f, [], caps.map fun x => .vptr x.cells)
 | .func f a b => some (f, a, b)
 | _ => none
def argsD (ρ : Operand → D) (xs : List Operand) : List D := xs.map ρ
def intsB : List V → List V → Bool
 | [], [] => true
 | .int q n :: r, .int q' n' :: s => decide (q = q' ∧ n = n') && intsB r s
 | _, _ => false
def keyTwin : V → V → Bool
 | .agg cs, .agg ys => intsB cs ys
 | .agg _, _ => false
 | _, _ => true
def keyFind (T : Nat → Option TI) (kt : Nat) (k : V) : List V → Nat → Option (Option Nat)
 | [], _ => some none
 | x :: r, i => match eqV T 8 kt k x with
  | some true => if keyTwin k x then some (some i) else none
  | some false => keyFind T kt k r (i + 1)
  | none => none
def keyOk1 (T : Nat → Option TI) (kt : Nat) (k : V) : Bool := match T kt with
 | some i => match i.kind, k with
  | .int q, .int q' _ => decide (q' = q)
  | .str, .str _ => true
  | .bool, .bool _ => true
  | _, _ => false
 | none => false
def V.isInt : V → Bool
 | .int _ _ => true
 | _ => false
def TK.isInt : TK → Bool
 | .int _ => true
 | _ => false
def keyOk2 (T : Nat → Option TI) (kt : Nat) (k : V) : Bool := match T kt with
 | some i => match i.kind, k with
  | .struct fs, .agg cs => (fs.all fun f => (match T f.2 with
   | some j => j.kind.isInt
   | none => false) && decide (f.1 < cs.length)) && cs.all V.isInt
  | _, _ => false
 | none => false
def keyOk (T : Nat → Option TI) (kt : Nat) (k : V) : Bool := keyOk1 T kt k || keyOk2 T kt k
def mapKV (h : List AObj) : D → Option (List V × List D)
 | .v .nilmap => some ([], [])
 | .v (.map ks vs) => some (ks, vs.map .v)
 | .map r => match h[r]? with
  | some (.map ks vs) => some (ks, vs)
  | _ => none
 | _ => none
def lookupD (T : Nat → Option TI) (h : List AObj) (t : Nat) (x i : D) (ok : Bool) : Option D := match T t with
 | none => none
 | some ti => match ti.kind, i with
  | .map kt et, .v k => match T et with
   | none => none
   | some ei => if keyOk T kt k then match mapKV h x with
     | none => none
     | some (ks, vs) => match keyFind T kt k ks 0 with
      | none => none
      | some (some j) => (vs[j]?).map fun d => if ok then mkTuple [d, .v (.bool true)] else d
      | some none => some (if ok then .v (.tuple [ei.zero, .bool false]) else .v ei.zero)
    else none
  | _, _ => none
def mapSetD (T : Nat → Option TI) (h : List AObj) (t : Nat) (m i x : D) : Option (List AObj) := match T t with
 | none => none
 | some ti => match ti.kind, m, i with
  | .map kt _, .map r, .v k => match h[r]? with
   | some (.map ks vs) => if keyOk T kt k then match keyFind T kt k ks 0 with
     | none => none
     | some (some j) => some (h.set r (.map (ks.set j k) (vs.set j x)))
     | some none => some (h.set r (.map (ks ++ [k]) (vs ++ [x])))
    else none
   | _ => none
  | _, _, _ => none
def mapEntryD (T : Nat → Option TI) (h : List AObj) (t : Nat) (m i : D) : Option (D × List AObj) := match T t with
 | none => none
 | some ti => match ti.kind, m, i with
  | .map kt et, .map r, .v k => match h[r]?, T et with
   | some (.map ks vs), some ei => if keyOk T kt k then match keyFind T kt k ks 0 with
     | none => none
     | some (some j) => (vs[j]?).map fun d => (mkTuple [d, .v (.int .i64 j)], h.set r (.map (ks.set j k) vs))
     | some none => some (.v (.tuple [ei.zero, .int .i64 ks.length]), h.set r (.map (ks ++ [k]) (vs ++ [.v ei.zero])))
    else none
   | _, _ => none
  | _, _, _ => none
def entryStoreD (h : List AObj) (m s x : D) : Option (List AObj) := match m, natOf s with
 | .map r, some j => match h[r]? with
  | some (.map ks vs) => if j < vs.length then some (h.set r (.map ks (vs.set j x))) else none
  | _ => none
 | _, _ => none
def rangeD (T : Nat → Option TI) (h : List AObj) (t : Nat) (x : D) : Option (D × List AObj) := match T t with
 | none => none
 | some ti => match ti.kind, mapKV h x with
  | .map _ _, some (ks, _) => some (.ptr h.length 0, h ++ [.iter x ks.length [] ks.length])
  | _, _ => none
def entryD (h : List AObj) (it : D) : Option D := match it with
 | .ptr r 0 => match h[r]? with
  | some (.iter m _ seen last) => match seen.getLast?, mapKV h m, isNilM m with
   | some j, some (ks, vs), some false => if ks.length = last then match ks[j]?, vs[j]? with
     | some k, some d => some (mkTuple [.v k, d])
     | _, _ => none
    else none
   | _, _, _ => none
  | _ => none
 | _ => none
def leftOf (n since : Nat) (seen : List Nat) : List Nat :=
 let left := (List.range n).filter fun j => !seen.contains j
 left.filter (· < since) ++ left.filter (since ≤ ·)
def clearD (T : Nat → Option TI) (t : Nat) (h : List AObj) : D → Option (List AObj)
 | .osl r off len _ => match T t with
  | some ti => match ti.kind, h[r]? with
   | .slice e, some (.row k es) => match T e with
    | some i => if i.size = k ∧ i.zero.cells.length = k ∧ 0 < len ∧ off + len = es.length then some (h.set r (.row k (es.take off))) else none
    | none => none
   | _, _ => none
  | none => none
 | _ => none
def mapT (T : Nat → Option TI) (t : Nat) : Bool := match T t with
 | some i => (match i.kind with
  | .map _ _ => true
  | _ => false)
 | none => false
def lenMapD (h : List AObj) : D → Option D
 | .map r => match h[r]? with
  | some (.map ks _) => some (.v (.int .i64 ks.length))
  | _ => none
 | _ => none
def copyD (T : Nat → Option TI) (t : Nat) (h : List AObj) (d s : D) : Option (D × List AObj) := match d with
 | .osl r off len _ => match T t with
  | some ti => match ti.kind, h[r]? with
   | .slice e, some (.row k es) => match T e with
    | some i => if i.size = 1 ∧ k = 1 ∧ off + len ≤ es.length then (elemsOf 1 h s).map fun xs => (.v (.int .i64 (min xs.length len : Nat)), h.set r (.row 1 (es.take off ++ (xs.take len ++ es.drop (off + min xs.length len))))) else none
    | none => none
   | _, _ => none
  | none => none
 | _ => none
def builtinD (T : Nat → Option TI) (rowM : Bool) (b : Builtin) (ts : List Nat) (args : List D) (h : List AObj) : Option (D × List AObj) :=
 match b, ts, args with
 | .len, [t], [x] => if mapT T t then (lenMapD h x).map (·, h) else (lenD T t x.unt).map (·, h)
 | .append, [t, t'], [s, x] => if t = t' then appendD T rowM t h s x else appendStrD T rowM t t' h s x
 | .min, _, [.v (.int k x), .v (.int _ y)] => some (.v (.int k (if y < x then y else x)), h)
 | .max, _, [.v (.int k x), .v (.int _ y)] => some (.v (.int k (if y > x then y else x)), h)
 | .max, _, [.v (.int k x), .v (.int _ y), .v (.int _ z)] => some (.v (.int k (if z > (if y > x then y else x) then z else (if y > x then y else x))), h)
 | .clear, [t], [x] => (clearD T t h x).map (U, ·)
 | .copy, [t, _], [d, s] => copyD T t h d.unt s.unt
 | _, _, _ => none
def dynBad (E : Env) (f : Operand) (f' : FuncId) : Bool := match f with
 | .func _ => false
 | _ => E.dynP && !E.pureF f'
theorem dynBad_func (E : Env) (g f' : FuncId) : dynBad E (.func g) f' = false := rfl
theorem dynBad_pure {E : Env} {f' : FuncId} (h : E.dynP = true) (hb : ¬ (E.dynP && !E.pureF f') = true) : E.pureF f' = true := by
 rw [h] at hb
 simpa using hb
def methD (T : Nat → Option TI) (h : List AObj) (t : Nat) (d : D) (name : String) : Option (FuncId × D) := match T t with
 | some i => match i.meths.find? (·.1 == name) with
  | some (_, some (f, pr)) => match i.kind, pr with
   | .ptr _, true => some (f, d)
   | .ptr e, false => match T e with
    | some ie => (loadD ie h d).map (f, ·)
    | none => none
   | _, false => some (f, d)
   | _, _ => none
  | _ => none
 | none => none
def ares (E : Env) (Γ : Calling) (op : Op) (ρ : Operand → D) (h : List AObj) : Option (D × List AObj) :=
 match op with
 | .move x | .assign x => some (ρ x, h)
 | .pick c a b => match ρ c with
  | .v (.bool t) => some (if t then ρ a else ρ b, h)
  | _ => none
 | .alloc e => match E.T e with
  | some i => if decide (i.zero.cells.length ≤ maxLen) then some (.ptr h.length 0, h ++ [.cells (i.zero.cells.map .v)]) else none
  | none => none
 | .box _ x => if (ρ x).solid && decide ((ρ x).cells.length ≤ maxLen) then some (.ptr h.length 0, h ++ [.cells (ρ x).cells]) else none
 | .build t parts => match E.T t with
  | some i => match i.kind with
   | .struct fs => match places E.T fs with
    | some ps => match fillD (ps[·]?) (i.zero.cells.map .v) (parts.toList.map fun p => (p.1, (ρ p.2).unt)) with
     | some cs => some (mkAgg cs, h)
     | none => none
    | none => none
   | _ => none
  | none => none
 | .buildSlice t n parts => match E.T t with
  | some ti => match ti.kind with
   | .slice e => match E.T e with
    | some i => if parts.toList.map (·.1) = List.range n ∧ 0 < i.size ∧ n * i.size ≤ 16777216 ∧ i.zero.cells.length = i.size then match pures (parts.toList.map fun p => (ρ p.2).unt) with
      | some es => if es.all (fun d => d.solid && d.cells.length == i.size) then (if E.bldTy t then (if 0 < n then some (.osl h.length 0 n false, h ++ [.row i.size es]) else none) else some (.v (.sl .nonfull (es.map plainV)), h)) else none
      | none => none
     else none
    | none => none
   | _ => none
  | none => none
 | .load t a => match E.T t with
  | some i => (loadD i h (ρ a)).map (·, h)
  | none => none
 | .store t a x => match E.T t with
  | some i => (storeD i h (ρ a) (D.into E.untS (ρ a) (ρ x))).map (U, ·)
  | none => none
 | .nilCheck x => match ρ x with
  | .ptr r off => some (.ptr r off, h)
  | .eptr r i off => some (.eptr r i off, h)
  | .vptr cs => some (.vptr cs, h)
  | .v (.ptr cs) => some (.v (.ptr cs), h)
  | .v (.fn f) => some (.v (.fn f), h)
  | .func f a b => some (.func f a b, h)
  | _ => none
 | .binOp op t x y _ => (binD E.T op t (ρ x).unt (ρ y).unt).map (·, h)
 | .unOp op _ x => (unD op (ρ x)).map (·, h)
 | .convert src dst x => (convD E.T src dst (ρ x).unt).map (·, h)
 | .makeSlice t l c => makeSliceD E.T t h (ρ l) (ρ c)
 | .makeFunc (.func f) first captured => match first.toList with
  | [] => some (.func f [] (argsD ρ captured.toList), h)
  | _ :: _ => none
 | .slice t x lo hi mx => if E.bldTy t then cutRowD E.T h t (ρ x).unt (lo.map ρ) (hi.map ρ) (mx.map ρ) else (sliceD E.T (if E.rowM then h else []) t (ρ x).unt (lo.map ρ) (hi.map ρ) (mx.map ρ)).map (·, h)
 | .fieldAddr t x f => (fieldAddrD E.T t f (ρ x)).map (·, h)
 | .field t x f => (fieldD E.T t f (ρ x)).map (·, h)
 | .indexAddr t x i => (indexAddrH E.T h t (ρ x).unt (ρ i)).map (·, h)
 | .index t x i => (indexD E.T t (ρ x) (ρ i)).map (·, h)
 | .extract t i => match ρ t with
  | .v (.tuple vs) => (vs[i]?).map (.v ·, h)
  | .tuple vs => (vs[i]?).map (·, h)
  | _ => none
 | .makeMap t r => match r, E.T t with
  | none, some i => match i.kind with
   | .map _ _ => some (.map h.length, h ++ [.map [] []])
   | _ => none
  | _, _ => none
 | .lookup t x i ok => (lookupD E.T h t (ρ x) (ρ i) ok).map (·, h)
 | .mapUpdate t m i x | .insert t m i x => (mapSetD E.T h t (ρ m) (ρ i) (ρ x)).map (U, ·)
 | .mapEntry t m i => mapEntryD E.T h t (ρ m) (ρ i)
 | .entryStore _ m s x => (entryStoreD h (ρ m) (ρ s) (ρ x)).map (U, ·)
 | .range t x => rangeD E.T h t (ρ x)
 | .entry it => (entryD h (ρ it)).map (·, h)
 | .call c => match c.callee with
  | .builtin b => builtinD E.T (E.rowM && (c.argTypes.toList.head?.map E.rowTy).getD true) b c.argTypes.toList (argsD ρ c.args.toList) h
  | .value f => match cloOf (ρ f) with
   | some (f', a, b) => if dynBad E f f' then none else callD E Γ f' (a ++ argsD ρ c.args.toList ++ b) h
   | none => none
  | .invoke r name => match ρ r with
   | .box t d => match methD E.T h t d name with
    | some (f', x) => callD E Γ f' (x :: argsD ρ c.args.toList) h
    | none => none
   | _ => none
 | .makeInterface t x => match E.T t with
  | some i => if i.kind.isIface then none else some (.box t (ρ x), h)
  | none => none
 | .typeAssert x _ t ok => match ok, ρ x, E.T t with
  | false, .box t' d, some i => if t' = t ∧ i.kind.isIface = false then some (d, h) else none
  | _, _, _ => none
 | _ => none
def St.put (σ : St) (dst : Option Tmp) (d : D) (h : List AObj) : St :=
 match dst with
 | some t => ⟨σ.tmps.set t d, h⟩
 | none => ⟨σ.tmps, h⟩
def aguard (ops : List Oper) (σ : St) (o : Oper) : Option Bool :=
 match o.guard with
 | none => some true
 | some (j, want) => match ops[j]? with
  | none => none
  | some p => match p.dst with
   | none => none
   | some t => match σ.tmps[t]? with
    | some (.v (.bool b)) => some (b == want)
    | some (.v (.tuple [])) => some false
    | _ => none
def aeff (E : Env) (Γ : Calling) (ops : List Oper) (o : Oper) (σ : St) : Option (D × List AObj) :=
 match aguard ops σ o with
 | some true => ares E Γ o.op σ.ev σ.heap
 | some false => some (U, σ.heap)
 | none => none
def aop (E : Env) (Γ : Calling) (ops : List Oper) (o : Oper) (σ : St) : Option St :=
 match aeff E Γ ops o σ with
 | some (d, h) => some (σ.put o.dst d h)
 | none => none
def aops (E : Env) (Γ : Calling) (ops : List Oper) : List Oper → St → Option St
 | [], σ => some σ
 | o :: r, σ => match aop E Γ ops o σ with
  | some σ' => aops E Γ ops r σ'
  | none => none
inductive OKind where
 | p | r | w
def okind (E : Env) (o : Oper) : OKind := match o.op with
 | .move _ | .assign _ | .makeFunc _ _ _ | .pick _ _ _ | .build _ _ | .nilCheck _ | .binOp _ _ _ _ _ | .unOp _ _ _ | .convert _ _ _
 | .fieldAddr _ _ _ | .field _ _ _ | .index _ _ _ | .extract _ _ | .makeInterface _ _ | .typeAssert _ _ _ _ => .p
 | .load _ _ | .indexAddr _ _ _ | .lookup _ _ _ _ | .entry _ => .r
 | .buildSlice t _ _ => if E.bldTy t then .w else .p
 | .slice t _ _ _ _ => if E.bldTy t then .w else if E.rowM then .r else .p
 | .call c => match c.callee with
  | .builtin .len => if c.argTypes.toList.any (mapT E.T) then .r else .p
  | .builtin .min | .builtin .max => .p
  | .value (.func f) => if E.pureF f then .r else .w
  | .value _ => if E.dynP then .r else .w
  | _ => .w
 | _ => .w
def appLoad (E : Env) (x y : Oper) : Bool := !E.rowM && (match x.op, y.op with
 | .call c, .load _ _ => match c.callee with
  | .builtin .append => true
  | _ => false
 | _, _ => false)
def loadApp (E : Env) (x y : Oper) : Bool := match x.op, y.op with
 | .load _ _, .call c => !E.rowM && (match c.callee with
  | .builtin .append => true
  | _ => false)
 | .load _ _, .buildSlice _ _ _ => true
 | _, _ => false
def commutes (E : Env) (ops : Array Oper) (x y : Oper) : Bool :=
 x.apart ops y && ((match okind E x, okind E y with
  | .p, _ | _, .p | .r, .r => true
  | _, _ => false) || (appLoad E x y || loadApp E x y))
def orderFree (E : Env) (ops : Array Oper) : Bool :=
 let b := Region.before ops
 ops.toList.zipIdx.all (fun x => x.1.after.all fun e => !Region.binds .any e || decide (e.on < x.2)) &&
 (List.range ops.size).all fun i => (List.range i).all fun j =>
  (b.getD i 0).testBit j || (match ops[j]?, ops[i]? with
   | some x, some y => commutes E ops x y
   | _, _ => false)
def _root_.Go.Oper.allocOf (o : Oper) : Option (Nat × Tmp) := match o.op, o.guard, o.dst with
 | .alloc e, none, some t => some (e, t)
 | _, _, _ => none
def lateAt (E : Env) (ops : Array Oper) (q : Nat) : Bool :=
 let b := Region.before ops
 let z := ops.size - 1
 decide (q < z) && (ops.toList.zipIdx.all (fun x => x.1.after.all fun e => !Region.binds .any e || decide (e.on < x.2)) &&
 ((List.range z).all (fun i => (b.getD z 0).testBit i) &&
 ((match ops[q]? with
  | some o => match o.allocOf with
   | some (_, t) => (List.range z).all fun i => i == q || (match ops[i]? with
    | some y => !(y.looksAt ops).contains t && (y.dst != some t && (decide (i < q) || commutes E ops o y))
    | none => false)
   | none => false
  | none => false) &&
 (List.range z).all fun i => i == q || (List.range i).all fun j => j == q || ((b.getD i 0).testBit j || (match ops[j]?, ops[i]? with
   | some x, some y => commutes E ops x y
   | _, _ => false)))))
def lateOk (E : Env) (ops : Array Oper) : Bool := (List.range ops.size).any (lateAt E ops)
def pinned (ops : Array Oper) (t : Tmp) : Bool := ops.toList.all fun o => o.dst != some t
def farTmps (x y : Oper) : Option (Tmp × Tmp) := match x.op, y.op with
 | .store _ (.tmp a) _, .load _ (.tmp b) => some (a, b)
 | .load _ (.tmp a), .store _ (.tmp b) _ => some (a, b)
 | _, _ => none
def farAt (ops : Array Oper) (σ : St) (x y : Oper) : Bool := x.apart ops y && (match farTmps x y with
 | some (a, b) => pinned ops a && (pinned ops b && (match σ.tmps[a]?, σ.tmps[b]? with
  | some (.ptr r _), some (.ptr r' _) => r != r'
  | _, _ => false))
 | none => false)
def deadD : Option D → Bool
 | none | some .undef | some (.v (.tuple [])) => true
 | _ => false
def rootB (ops : Array Oper) (σ : St) (r : Nat) (t : Tmp) : Bool := deadD σ.tmps[t]? && ops.toList.all fun o => o.dst != some t || (o.guard.isNone && (match o.op with
 | .fieldAddr _ (.tmp s) _ => pinned ops s && (match σ.tmps[s]? with
  | some (.ptr r' _) => r' == r
  | _ => false)
 | _ => false))
def rootAt (ops : Array Oper) (σ : St) (b : Tmp) : Option Nat := ops.toList.findSome? fun o => if o.dst = some b then (match o.op with
 | .fieldAddr _ (.tmp s) _ => (match σ.tmps[s]? with
  | some (.ptr r _) => some r
  | _ => none)
 | _ => none) else none
def awayB (E : Env) (ops : Array Oper) (σ : St) (r : Nat) (t : Tmp) : Bool := (match σ.tmps[t]? with
  | some (.ptr r' _) => r' != r
  | _ => true) && ops.toList.all fun o => o.dst != some t || (match o.op with
 | .binOp _ _ _ _ _ => true
 | .load t' _ => (match E.T t' with
  | some i => i.kind.isAgg
  | none => true)
 | .move (.tmp s) | .assign (.tmp s) => pinned ops s && (match σ.tmps[s]? with
  | some (.ptr r' _) => r' != r
  | _ => true)
 | _ => false)
def lcAt (E : Env) (ops : Array Oper) (σ : St) (x y : Oper) : Bool := x.apart ops y && (x.guard.isNone && (match x.op, y.op with
 | .load _ (.tmp b), .call c => (match c.callee with
  | .value (.func f) => !E.pureF f && ((E.ownR f).isNone && ((match E.lend f with
   | some L => L.toks.isEmpty && L.res.isNone
   | none => false) && (match rootAt ops σ b with
    | some r => rootB ops σ r b && c.args.toList.all fun a => (match a with
     | .tmp s => awayB E ops σ r s
     | .const _ => true
     | _ => false)
    | none => false)))
  | _ => false)
 | _, _ => false))
def farOk (E : Env) (ops : Array Oper) (σ : St) : Bool :=
 let b := Region.before ops
 ops.toList.zipIdx.all (fun x => x.1.after.all fun e => !Region.binds .any e || decide (e.on < x.2)) &&
 (List.range ops.size).all fun i => (List.range i).all fun j =>
  (b.getD i 0).testBit j || (match ops[j]?, ops[i]? with
   | some x, some y => commutes E ops x y || (farAt ops σ x y || lcAt E ops σ x y)
   | _, _ => false)
def forget (keep : List Nat) (σ : St) : St := ⟨σ.tmps.mapIdx fun i d => if keep.contains i then d else .undef, σ.heap⟩
def D.ref? : D → Option Nat
 | .tsl t _ => some t
 | .osl r _ _ _ => some r
 | .ptr r _ => some r
 | .map r => some r
 | _ => none
def D.withRef (r : Nat) : D → D
 | .tsl _ es => .tsl r es
 | .osl _ a b c => .osl r a b c
 | .ptr _ o => .ptr r o
 | .map _ => .map r
 | d => d
def D.under (L : Nat) : Nat → D → Bool
 | 0, _ => false
 | _ + 1, .undef | _ + 1, .v _ | _ + 1, .vptr _ => true
 | _ + 1, .ptr r _ | _ + 1, .eptr r _ _ | _ + 1, .osl r _ _ _ | _ + 1, .tsl r _ | _ + 1, .map r => decide (r < L)
 | n + 1, .func _ a b => a.all (D.under L n) && b.all (D.under L n)
 | n + 1, .box _ d => D.under L n d
 | n + 1, .agg cs | n + 1, .tuple cs => cs.all (D.under L n)
def AObj.live : AObj → Bool
 | .dead => false
 | _ => true
def AObj.under (L : Nat) : AObj → Bool
 | .cells cs => cs.all (D.under L 5)
 | .grid _ cs => cs.all (D.under L 5)
 | .map _ vs => vs.all (D.under L 5)
 | .iter m _ _ _ => m.under L 5
 | _ => true
def padS (σ : St) : St := ⟨σ.tmps, σ.heap ++ [.dead]⟩
def moveT (σ : St) (s : Nat) : St := match σ.tmps[s]? with
 | some d => match d.ref? with
  | some r => match σ.heap[r]? with
   | some o => if o.live then ⟨σ.tmps.set s (d.withRef σ.heap.length), σ.heap.set r .dead ++ [o]⟩ else padS σ
   | none => padS σ
  | none => padS σ
 | none => padS σ
def moveC (σ : St) (s off : Nat) : St := match σ.tmps[s]? with
 | some (.ptr p 0) => match σ.heap[p]? with
  | some (.cells cs) => match cs[off]? with
   | some d => match d.ref? with
    | some r => match σ.heap[r]? with
     | some o => if o.live && r != p then ⟨σ.tmps, (σ.heap.set r .dead ++ [o]).set p (.cells (cs.set off (d.withRef σ.heap.length)))⟩ else padS σ
     | none => padS σ
    | none => padS σ
   | none => padS σ
  | _ => padS σ
 | _ => padS σ
def moveS (σ : St) (s : Nat) : St := if s < 100000 then moveT σ s else moveC σ ((s - 100000) / 100) ((s - 100000) % 100)
def cutD (keep : List Nat) (L M i : Nat) (d : D) : Option D :=
 if keep.contains i then
  if d.under L 5 then some d else match d.ref? with
  | some r => if M ≤ r then some (d.withRef (r - (M - L))) else none
  | none => none
 else some .undef
def cutC (L M : Nat) (d : D) : Option D :=
 if d.under L 5 then some d else match d.ref? with
 | some r => if M ≤ r then some (d.withRef (r - (M - L))) else none
 | none => none
def AObj.cut (L M : Nat) (o : AObj) : Option AObj := match o with
 | .cells cs => (allM (cutC L M) cs).map .cells
 | .grid k cs => (allM (cutC L M) cs).map (.grid k)
 | o => if o.under L then some o else none
def cutS (keep : List Nat) (L M : Nat) (σ : St) : St :=
 if (σ.heap.drop M).all (AObj.under L) then match allM (AObj.cut L M) (σ.heap.take L), allM id (σ.tmps.mapIdx (cutD keep L M)) with
  | some hs, some ts => ⟨ts, hs ++ σ.heap.drop M⟩
  | _, _ => σ
 else σ
def squash (keep acc : List Nat) (L : Nat) (σ : St) : St :=
 if acc.isEmpty && σ.heap.length == L then σ else cutS keep L σ.heap.length (acc.foldl moveS σ)
def opLoad (o : Oper) : Option (Nat × Nat × Nat) := match o.op, o.dst, o.guard with
 | .load t (.tmp a), some x, none => some (t, a, x)
 | _, _, _ => none
def opAlloc (o : Oper) : Option (Nat × Nat) := match o.op, o.dst, o.guard with
 | .alloc t, some y, none => some (t, y)
 | _, _, _ => none
def opStore (o : Oper) : Option (Nat × Nat × Nat) := match o.op, o.dst, o.guard with
 | .store t (.tmp y) (.tmp x), none, none => some (t, y, x)
 | _, _, _ => none
def bindsOn (o : Oper) (k : Nat) : Bool := o.after.any fun e => Region.binds .any e && e.on == k
def parPlan (ops : Array Oper) : Option (Nat × Nat × Nat × Nat × Nat × Nat × Nat) := match ops.toList with
 | [o0, o1, o2, o3, o4, o5] => match opLoad o0, opLoad o1, opAlloc o2, opAlloc o3, opStore o4, opStore o5 with
  | some (t0, a0, x0), some (t1, a1, x1), some (t2, y0), some (t3, y1), some (t4, b0, c0), some (t5, b1, c1) =>
   if (t1 == t0 && t2 == t0 && t3 == t0 && t4 == t0 && t5 == t0 && b0 == y0 && c0 == x0 && b1 == y1 && c1 == x1) &&
    (x0 != x1 && x0 != y0 && x0 != y1 && x1 != y0 && x1 != y1 && y0 != y1) &&
    (a0 != x0 && a0 != x1 && a0 != y0 && a0 != y1 && a1 != x0 && a1 != x1 && a1 != y0 && a1 != y1) &&
    (bindsOn o4 0 && bindsOn o4 2 && bindsOn o5 1 && bindsOn o5 3) &&
    (ops.toList.zipIdx.all fun x => x.1.after.all fun e => !Region.binds .any e || decide (e.on < x.2)) then some (t0, a0, x0, a1, x1, y0, y1) else none
  | _, _, _, _, _, _ => none
 | _ => none
def copyOk (L : Nat) (i : TI) (v : D) : Bool := v.solid && v.cells.length == i.size && v.under L 5 && (AObj.cells v.cells).under L
def parRun (E : Env) (ops : Array Oper) (σ : St) : Option St := match parPlan ops with
 | none => none
 | some (t, a0, x0, a1, x1, y0, y1) => match E.T t with
  | none => none
  | some i => if E.untS then none else match loadD i σ.heap (σ.ev (.tmp a0)), loadD i σ.heap (σ.ev (.tmp a1)) with
   | some v0, some v1 =>
    if copyOk σ.heap.length i v0 && copyOk σ.heap.length i v1 && (decide (i.zero.cells.length ≤ maxLen) && i.zero.cells.length == i.size) &&
     (σ.tmps.all (D.under σ.heap.length 5) && σ.heap.all (AObj.under σ.heap.length)) &&
     (decide (x0 < σ.tmps.length) && decide (x1 < σ.tmps.length) && decide (y0 < σ.tmps.length) && decide (y1 < σ.tmps.length)) then
     some ⟨(((σ.tmps.set x0 v0).set x1 v1).set y0 (.ptr σ.heap.length 0)).set y1 (.ptr (σ.heap.length + 1) 0), σ.heap ++ [.cells v0.cells, .cells v1.cells]⟩
    else none
   | _, _ => none
def ckey : Code → Nat
 | .region id _ _ => id
 | .seq a _ => ckey a
 | .block _ c => ckey c
 | .loop c => ckey c
 | _ => 0
def okey : Operand → Nat
 | .tmp t => t
 | _ => 0
def aloop (ks acc : List Nat) (L : Nat) (body : St → Option (AExit × St)) : Nat → St → Option (AExit × St)
 | 0, _ => none
 | n + 1, σ => match body σ with
  | some (.normal, σ') => aloop ks acc L body n (squash ks acc L (forget ks σ'))
  | some (e, σ') => some (e, forget ks σ')
  | none => none
def aeval (E : Env) (Γ : Calling) (keep : Keep) (acc : List Nat) (n : Nat) : Code → St → Option (AExit × St)
 | .skip, σ => some (.normal, σ)
 | .region _ ops draw, σ => if draw && (!orderFree E ops && (!lateOk E ops && !farOk E ops σ)) then (parRun E ops σ).map fun σ' => (.normal, σ') else match aops E Γ ops.toList ops.toList σ with
  | some σ' => some (.normal, σ')
  | none => none
 | .seq a b, σ => match aeval E Γ keep acc n a σ with
  | some (.normal, σ') => aeval E Γ keep acc n b σ'
  | r => r
 | .cond c t e, σ => match σ.ev c with
  | .v (.bool b) => match (if b then aeval E Γ keep acc n t σ else aeval E Γ keep acc n e σ) with
   | some (.normal, σ') => some (.normal, squash (keep.cond (okey c)) acc σ.heap.length σ')
   | r => r
  | _ => none
 | .block id c, σ => match aeval E Γ keep acc n c σ with
  | some (.exit id', σ') => if id' = id then some (.normal, squash (keep.blk id) acc σ.heap.length σ') else some (.exit id', σ')
  | some (.normal, σ') => some (.normal, squash (keep.blk id) acc σ.heap.length σ')
  | r => r
 | .loop c, σ => aloop (keep.loop (ckey c)) acc σ.heap.length (aeval E Γ keep acc n c) n (squash (keep.loop (ckey c)) acc σ.heap.length (forget (keep.loop (ckey c)) σ))
 | .exit id, σ => some (.exit id, σ)
 | .ret, σ => some (.ret, σ)
 | _, _ => none
def resultD (T : Nat → Option TI) (σ : St) : ResultVar → Option D
 | .tmp t => some (σ.tmps.getD t .undef)
 | .cell a t => match T t with
  | some i => loadD i σ.heap (σ.tmps.getD a .undef)
  | none => none
def resultsD (T : Nat → Option TI) (σ : St) (rs : List ResultVar) : Option D := match allM (resultD T σ) rs with
 | some [d] => some d
 | some ds => some (mkTuple ds)
 | none => none
def run (P : Program) (E : Env) : Nat → Calling
 | 0, _, _, _ => none
 | n + 1, f, ds, h => match P.funcs[f]? with
  | none => none
  | some fn => match E.oraD f with
   | some F => F ds h
   | none => match E.ora f with
   | some F => match pures (ds.map D.unt) with
    | some vs => (F vs).map (.v ·, h)
    | none => none
   | none => match fn.body with
    | none => none
    | some c => match aeval { E with rowM := E.rowF f, untS := E.untF f } (run P E n) (E.keep f) (E.acc f) n c ⟨ds ++ List.replicate (fn.ntmps - ds.length) U, h⟩ with
     | some (.normal, σ) | some (.ret, σ) => (resultsD E.T σ fn.results.toList).map (·, σ.heap)
     | _ => none
def runV (P : Program) (E : Env) (n : Nat) (f : FuncId) (vs : List V) : Option V :=
 match run P E n f (vs.map .v) [] with
 | some (d, h) => frz h 6 d
 | none => none
end Go.Abs
