import GoSem.ClaimData
import Derived.Orders
import Derived.Laws.AppendOwn
import Derived.Laws.MakeOwn
import Derived.Laws.StructEq
import Derived.Laws.Small
import Derived.Laws.Strings
import Derived.Below
import Derived.Great.BuildSlice
import Derived.Laws.CopyOwn
import Derived.Lib.AppendStr
import Derived.Laws.Slices
namespace Go.Abs
abbrev zA := @List.getElem?_eq_getElem
abbrev zB := @Option.map_eq_some_iff
abbrev zC := @Option.some.inj
abbrev zD := @Array.getElem?_eq_getElem
abbrev zE := @List.mem_of_getElem?
abbrev zF := @List.mem_cons_of_mem
abbrev zG := @List.getElem?_map
abbrev zH := @List.mem_cons_self
abbrev zI := @List.drop_eq_getElem_cons
abbrev zJ := @List.getElem?_append_left
abbrev zK := @List.getElem?_append_right
abbrev zL := @Nat.le_refl
abbrev zM := @Prod.mk.inj
abbrev zN := @Int.toNat_natCast
abbrev zO := @List.getElem?_set_ne
abbrev zP := @List.length_set
abbrev zQ := @List.getElem?_set_self
abbrev zR := @List.getElem?_set
abbrev zS := @List.getElem?_eq_none
abbrev zT := @List.drop_eq_nil_of_le
abbrev zU := @List.getElem?_replicate
abbrev zV := @List.length_replicate
abbrev zW := @List.length_take
abbrev zX := @List.take_of_length_le
abbrev zY := @List.getElem?_drop
abbrev zZ := @List.all_eq_true
abbrev yA := @List.getElem?_take
abbrev yB := @of_decide_eq_false
abbrev yC := @of_decide_eq_true
abbrev yD := @Nat.mul_le_mul_right
theorem om {p : Prop} (h : p := by omega) : p := h
inductive SFlag where
 | plain | nil | full | non | nonfull
def SFlag.isFull : SFlag → Bool
 | .nil | .full | .nonfull => true
 | _ => false
def SFlag.isNil : SFlag → Option Bool
 | .nil => some true
 | .non | .nonfull => some false
 | _ => none
inductive V where
 | bool (b : Bool)
 | int (k : IntKind) (n : Int)
 | str (s : ByteArray)
 | nilptr
 | nilmap
 | nilfunc
 | nilif
 | fn (f : FuncId)
 | clo (f : FuncId) (caps : List V)
 | sl (fl : SFlag) (elems : List V)
 | agg (cells : List V)
 | tuple (vs : List V)
 | ptr (cells : List V)
 | map (ks vs : List V)
def G0 (_g : Nat) : Option (List V) := none
def GP (_g : Nat) : List (Nat × (Option Value → Prop)) := []
inductive D where
 | undef
 | v (x : V)
 | ptr (r off : Nat)
 | eptr (r i off : Nat)
 | vptr (cells : List V)
 | osl (r off len : Nat) (full : Bool)
 | tsl (t : Nat) (elems : List V)
 | map (r : Nat)
 | func (f : FuncId) (first captured : List D)
 | agg (cells : List D)
 | tuple (vs : List D)
 | box (t : Nat) (x : D)
inductive AObj where
 | row (k : Nat) (elems : List V)
 | cells (cs : List D)
 | grid (k : Nat) (cs : List D)
 | tok (k n : Nat)
 | map (ks : List V) (vs : List D)
 | iter (m : D) (since : Nat) (seen : List Nat) (last : Nat)
 | dead
def V.cells : V → List V
 | .agg cs => cs
 | x => [x]
def V.scalar : V → Bool
 | .agg _ | .tuple _ => false
 | _ => true
def V.solid : V → Bool
 | .agg cs => cs.all V.scalar
 | .tuple _ => false
 | _ => true
def V.flat : V → Bool
 | .bool _ | .int _ _ | .str _ | .nilptr | .nilmap | .nilfunc | .nilif | .fn _ => true
 | .sl _ es => es.isEmpty
 | .clo _ _ | .ptr _ | .map _ _ => false
 | .agg cs | .tuple cs => cs.all fun
  | .bool _ | .int _ _ | .str _ | .nilptr | .nilmap | .nilfunc | .nilif | .fn _ => true
  | .sl _ es => es.isEmpty
  | .agg cs => cs.all fun
   | .bool _ | .int _ _ | .str _ | .nilptr | .nilmap | .nilfunc | .nilif | .fn _ => true
   | .sl _ es => es.isEmpty
   | _ => false
  | _ => false
def D.cells : D → List D
 | .v x => x.cells.map .v
 | .agg cs => cs
 | d => [d]
def D.scalar : D → Bool
 | .v x => x.scalar
 | .undef | .agg _ | .tuple _ => false
 | _ => true
def D.solid : D → Bool
 | .v x => x.solid
 | .agg cs => cs.all D.scalar
 | .undef | .tuple _ => false
 | _ => true
def D.unt : D → D
 | .tsl _ es => .v (.sl .plain es)
 | d => d
def D.unp : D → D
 | .tsl _ es => .v (.sl .plain es)
 | .v (.sl _ es) => .v (.sl .plain es)
 | d => d
def D.into (u : Bool) (p x : D) : D := match p with
 | .eptr _ _ _ => x.unt
 | _ => if u then x.unp else x
def D.pure? : D → Option V
 | .v x => some x
 | _ => none
def pures : List D → Option (List V)
 | [] => some []
 | d :: r => match d.pure?, pures r with
  | some x, some xs => some (x :: xs)
  | _, _ => none
def mkAgg (cs : List D) : D := match pures cs with
 | some vs => .v (.agg vs)
 | none => .agg cs
def mkTuple (cs : List D) : D := match pures cs with
 | some vs => .v (.tuple vs)
 | none => .tuple cs
def U : D := .v (.tuple [])
def ofScalar : Value → Option V
 | .bool b => some (.bool b)
 | .int k n => some (.int k n)
 | .string s => some (.str s)
 | .pointer none => some .nilptr
 | .slice none 0 0 => some (.sl .nil [])
 | .map none => some .nilmap
 | .nilFunc => some .nilfunc
 | .nilIface => some .nilif
 | _ => none
def ofScalars : List Value → Option (List V)
 | [] => some []
 | v :: r => match ofScalar v, ofScalars r with
  | some x, some xs => some (x :: xs)
  | _, _ => none
def ofValue : Value → Option V
 | .agg cs => match ofScalars cs.toList with
  | some xs => some (.agg xs)
  | none => none
 | v => ofScalar v
inductive TK where
 | bool | int (k : IntKind) | str | ptr (e : Nat) | slice (e : Nat) | struct (fs : List (Nat × Nat)) | array (n e : Nat) | map (k e : Nat) | func | iface | other
structure TI where
 kind : TK
 size : Nat
 bytes : Nat
 zero : V
 eqOk : Bool
 meths : List (String × Option (FuncId × Bool)) := []
def TK.isAgg : TK → Bool
 | .struct _ | .array _ _ => true
 | _ => false
def TK.isOther : TK → Bool
 | .other => true
 | _ => false
def tkOf : TypeDesc → TK
 | .bool => .bool
 | .int k => .int k
 | .string => .str
 | .pointer e => .ptr e
 | .slice e => .slice e
 | .struct fs => if fs.toList.all (fun f => f.name != "_") then .struct (fs.toList.map fun f => (f.offset, f.type)) else .other
 | .array n e => .array n e
 | .map k e => .map k e
 | .func _ _ _ => .func
 | .interface _ => .iface
 | _ => .other
def tiOf (P : Program) (t : Nat) : Option TI :=
 match P.info? t, P.underlying t with
 | some i, some d => match i.zero with
  | some z => match ofValue z with
   | some x => if (tkOf d).isOther then none else some { kind := tkOf d, size := i.size, bytes := i.bytes, zero := x, eqOk := !P.eqGuardType P.depth t && !P.stoodInHeld t, meths := i.methods.toList.map fun m => (m.name, if m.path.isEmpty then m.func else none) }
   | none => none
  | none => none
 | _, _ => none
structure St where
 tmps : List D
 heap : List AObj
inductive AExit where
 | normal
 | exit (id : Nat)
 | ret
def St.ev (σ : St) : Operand → D
 | .tmp t => σ.tmps.getD t .undef
 | .const c => match ofValue c with
  | some x => .v x
  | none => .undef
 | .global g => match G0 g with
  | some cs => .vptr cs
  | none => .undef
 | .func f => .v (.fn f)
def mkOf (agg : Bool) (cs : List D) : Option D :=
 if agg then some (mkAgg cs) else match cs with
  | [d] => some d
  | _ => none
def mkOfV (agg : Bool) (cs : List V) : Option V :=
 if agg then some (.agg cs) else match cs with
  | [d] => some d
  | _ => none
def cut {α : Type} (l : List α) (off n : Nat) : Option (List α) :=
 if off + n ≤ l.length then some ((l.drop off).take n) else none
def splice {α : Type} (l : List α) (off : Nat) (x : List α) : Option (List α) :=
 if off + x.length ≤ l.length then some (l.take off ++ x ++ l.drop (off + x.length)) else none
def loadD (i : TI) (h : List AObj) : D → Option D
 | .ptr r off => match h[r]? with
  | some (.cells cs) => (cut cs off i.size).bind (mkOf i.kind.isAgg)
  | some (.grid _ cs) => (cut cs off i.size).bind (mkOf i.kind.isAgg)
  | _ => none
 | .eptr r j off => match h[r]? with
  | some (.row _ es) => match es[j]? with
   | some x => ((cut x.cells off i.size).bind (mkOfV i.kind.isAgg)).map .v
   | none => none
  | _ => none
 | .vptr cs | .v (.ptr cs) => ((cut cs 0 i.size).bind (mkOfV i.kind.isAgg)).map .v
 | _ => none
def storeV (e x : V) (off : Nat) : Option V :=
 match e with
 | .agg cs => (splice cs off x.cells).map .agg
 | _ => if off = 0 then some x else none
def storeD (i : TI) (h : List AObj) (p x : D) : Option (List AObj) :=
 if x.solid && x.cells.length == i.size then
  match p with
  | .ptr r off => match h[r]? with
   | some (.cells cs) => (splice cs off x.cells).map fun cs' => h.set r (.cells cs')
   | some (.grid k cs) => (splice cs off x.cells).map fun cs' => h.set r (.grid k cs')
   | _ => none
  | .eptr r j off => match h[r]?, x with
   | some (.row k es), .v y => match es[j]? with
    | some e => match storeV e y off with
     | some e' => if e'.cells.length == k && e'.solid then some (h.set r (.row k (es.set j e'))) else none
     | none => none
    | none => none
   | _, _ => none
  | _ => none
 else none
def fillD (place : Nat → Option (Nat × Nat)) (cells : List D) : List (Nat × D) → Option (List D)
 | [] => some cells
 | (i, d) :: r => match place i with
  | none => none
  | some (off, size) => if d.solid && d.cells.length == size then
    match splice cells off d.cells with
    | some cs => fillD place cs r
    | none => none
   else none
def sizeT (T : Nat → Option TI) (t : Nat) : Option Nat := (T t).map (·.size)
def places (T : Nat → Option TI) : List (Nat × Nat) → Option (List (Nat × Nat))
 | [] => some []
 | (off, t) :: r => match sizeT T t, places T r with
  | some s, some ps => some ((off, s) :: ps)
  | _, _ => none
def eqFs (f : Nat → V → V → Option Bool) (T : Nat → Option TI) (xs ys : List V) : List (Nat × Nat) → Option Bool
 | [] => some true
 | (off, t) :: r => match T t with
  | none => none
  | some i => match (cut xs off i.size).bind (mkOfV i.kind.isAgg), (cut ys off i.size).bind (mkOfV i.kind.isAgg) with
   | some a, some b => match f t a b, eqFs f T xs ys r with
    | some p, some q => some (p && q)
    | _, _ => none
   | _, _ => none
def eqV (T : Nat → Option TI) : Nat → Nat → V → V → Option Bool
 | 0, _, _, _ => none
 | n + 1, t, x, y => match T t with
  | none => none
  | some i => match i.kind, x, y with
   | .bool, .bool a, .bool b => some (a == b)
   | .int _, .int k a, .int k' b => if k = k' then some (a == b) else none
   | .str, .str a, .str b => some (a.toList == b.toList)
   | .struct fs, .agg xs, .agg ys => if i.eqOk then eqFs (eqV T n) T xs ys fs else none
   | _, _, _ => none
def isNilS : D → Option Bool
 | .v (.sl fl es) => match es with
  | [] => fl.isNil
  | _ :: _ => some false
 | .osl _ _ _ _ => some false
 | _ => none
def isNilP : D → Option Bool
 | .v .nilptr => some true
 | .ptr _ _ | .eptr _ _ _ | .vptr _ | .v (.ptr _) => some false
 | _ => none
def isNilM : D → Option Bool
 | .v .nilmap => some true
 | .v (.map _ _) | .map _ => some false
 | _ => none
def isNilF : D → Option Bool
 | .v .nilfunc => some true
 | .v (.fn _) | .func _ _ _ => some false
 | _ => none
def eqD (T : Nat → Option TI) (t : Nat) (x y : D) : Option Bool := match T t with
 | none => none
 | some i => match i.kind with
  | .slice _ => match y with
   | .v (.sl .nil []) => isNilS x
   | _ => none
  | .ptr _ => match y with
   | .v .nilptr => isNilP x
   | _ => none
  | .map _ _ => match y with
   | .v .nilmap => isNilM x
   | _ => none
  | .func => match y with
   | .v .nilfunc => isNilF x
   | _ => none
  | _ => match x, y with
   | .v x, .v y => eqV T 8 t x y
   | _, _ => none
def intOp (op : BinOp) (k : IntKind) (a b : Int) : Option V :=
 match op with
 | .add => some (.int k (k.wrap (a + b)))
 | .sub => some (.int k (k.wrap (a - b)))
 | .mul => some (.int k (k.wrap (a * b)))
 | .quo => if b = 0 then none else some (.int k (k.wrap (a.tdiv b)))
 | .rem => if b = 0 then none else some (.int k (a.tmod b))
 | .and => some (.int k (bits .and k a b))
 | .or => some (.int k (bits .or k a b))
 | .xor => some (.int k (bits .xor k a b))
 | .andNot => some (.int k (bits .andNot k a b))
 | .eql => some (.bool (a == b))
 | .neq => some (.bool (a != b))
 | .lss => some (.bool (decide (a < b)))
 | .leq => some (.bool (decide (a ≤ b)))
 | .gtr => some (.bool (decide (a > b)))
 | .geq => some (.bool (decide (a ≥ b)))
 | _ => none
def shiftOp (op : BinOp) (k : IntKind) (a b : Int) : Option V :=
 if b < 0 then none else match op with
 | .shl => some (.int k (k.wrap (a * 2 ^ (min b.toNat k.bits))))
 | .shr => some (.int k (a.fdiv (2 ^ (min b.toNat k.bits))))
 | _ => none
def strOp (op : BinOp) (a b : ByteArray) : Option V :=
 match op with
 | .add => if a.size + b.size ≤ maxLen then some (.str (a ++ b)) else none
 | .eql => some (.bool (a.toList == b.toList))
 | .neq => some (.bool !(a.toList == b.toList))
 | .lss => some (.bool (Op.bytesLess a.toList b.toList))
 | .leq => some (.bool (Op.bytesLess a.toList b.toList || a.toList == b.toList))
 | .gtr => some (.bool !(Op.bytesLess a.toList b.toList || a.toList == b.toList))
 | .geq => some (.bool !(Op.bytesLess a.toList b.toList))
 | _ => none
def binD (T : Nat → Option TI) (op : BinOp) (t : Nat) (x y : D) : Option D :=
 match x, y with
 | .v (.int k a), .v (.int k' b) => match op with
  | .shl => (shiftOp .shl k a b).map .v
  | .shr => (shiftOp .shr k a b).map .v
  | op => if k = k' then (intOp op k a b).map .v else none
 | .v (.str a), .v (.str b) => (strOp op a b).map .v
 | x, y => match op with
  | .eql => (eqD T t x y).map fun b => .v (.bool b)
  | .neq => (eqD T t x y).map fun b => .v (.bool !b)
  | _ => none
def unD (op : UnOp) (x : D) : Option D :=
 match op, x with
 | .not, .v (.bool b) => some (.v (.bool !b))
 | .neg, .v (.int k n) => some (.v (.int k (k.wrap (0 - n))))
 | _, _ => none
def byteV : V → Option UInt8
 | .int .u8 n => some (UInt8.ofNat n.toNat)
 | _ => none
def bytesOfV : List V → Option (List UInt8)
 | [] => some []
 | x :: r => match byteV x, bytesOfV r with
  | some c, some cs => some (c :: cs)
  | _, _ => none
def strV (es : List V) : Option ByteArray := (bytesOfV es).map fun l => ⟨l.toArray⟩
def convD (T : Nat → Option TI) (src dst : Nat) (x : D) : Option D :=
 match T src, T dst, x with
 | some _, some i, .v (.int _ n) => match i.kind with
  | .int k => some (.v (.int k (k.wrap n)))
  | _ => none
 | some _, some i, .v (.str s) => match i.kind with
  | .str => some (.v (.str s))
  | _ => none
 | some si, some i, .v (.sl _ es) => match si.kind, i.kind with
  | .slice e, .str => match T e with
   | some ei => match ei.kind with
    | .int .u8 => (strV es).map fun b => .v (.str b)
    | _ => none
   | none => none
  | _, _ => none
 | _, _, _ => none
def lenD (T : Nat → Option TI) (t : Nat) (x : D) : Option D := match T t with
 | none => none
 | some i => match i.kind, x with
  | .slice _, .v (.sl _ es) => some (.v (.int .i64 es.length))
  | .slice _, .osl _ _ len _ => some (.v (.int .i64 len))
  | .str, .v (.str s) => some (.v (.int .i64 s.size))
  | _, _ => none
def natOf : D → Option Nat
 | .v (.int _ n) => if 0 ≤ n then some n.toNat else none
 | _ => none
def natOr (d : Nat) : Option D → Option Nat
 | none => some d
 | some x => natOf x
def indexAddrD (T : Nat → Option TI) (t : Nat) (x i : D) : Option D := match T t with
 | none => none
 | some ti => match ti.kind, x, natOf i with
  | .slice e, .v (.sl _ es), some j => match sizeT T e, es[j]? with
   | some k, some d => if d.cells.length == k then some (.vptr d.cells) else none
   | _, _ => none
  | _, _, _ => none
def indexAddrH (T : Nat → Option TI) (h : List AObj) (t : Nat) (x i : D) : Option D := match x with
 | .osl r off len _ => match T t with
  | none => none
  | some ti => match ti.kind, natOf i with
   | .slice e, some j => if j < len then match sizeT T e, h[r]? with
     | some k, some (.row k' _) => if k = k' then some (.eptr r (off + j) 0) else none
     | some 1, some (.cells _) => some (.ptr r (off + j))
     | some k, some (.grid k' _) => if k = k' then some (.ptr r ((off + j) * k)) else none
     | _, _ => none
    else none
   | _, _ => none
 | x => indexAddrD T t x i
def fieldAddrD (T : Nat → Option TI) (t f : Nat) (x : D) : Option D := match T t with
 | none => none
 | some ti => match ti.kind with
  | .struct fs => match fs[f]? with
   | none => none
   | some (o, ft) => match sizeT T ft with
    | none => none
    | some 0 => none
    | some (_ + 1) => match x with
     | .ptr r off => some (.ptr r (off + o))
     | .eptr r j off => some (.eptr r j (off + o))
     | .vptr cs | .v (.ptr cs) => some (.vptr (cs.drop o))
     | _ => none
  | _ => none
def fieldD (T : Nat → Option TI) (t f : Nat) (x : D) : Option D := match T t with
 | none => none
 | some ti => match ti.kind with
  | .struct fs => match fs[f]? with
   | none => none
   | some (o, ft) => match T ft with
    | none => none
    | some i => match x with
     | .v (.agg cs) => ((cut cs o i.size).bind (mkOfV i.kind.isAgg)).map .v
     | .agg cs => (cut cs o i.size).bind (mkOf i.kind.isAgg)
     | _ => none
  | _ => none
def indexD (T : Nat → Option TI) (t : Nat) (x i : D) : Option D := match T t with
 | none => none
 | some ti => match ti.kind, x, natOf i with
  | .str, .v (.str s), some j => match s[j]? with
   | some b => some (.v (.int .u8 b.toNat))
   | none => none
  | _, _, _ => none
def shapeOk (h : List AObj) (r k : Nat) : Bool := match h[r]? with
 | some (.row k' _) => k == k'
 | some (.cells _) => k == 1
 | _ => false
def headOk (k : Nat) : List V → Bool
 | [] => true
 | x :: _ => x.cells.length == k
def boundsD (len : Nat) (lo hi mx : Option D) : Option (Nat × Nat × Option Nat) := match natOr 0 lo, natOr len hi, mx with
 | some l, some h, none => if l ≤ h ∧ h ≤ len then some (l, h, none) else none
 | some l, some h, some m => match natOf m, hi with
  | some m, some _ => if l ≤ h ∧ h ≤ m ∧ m ≤ len then some (l, h, some m) else none
  | _, _ => none
 | _, _, _ => none
def fullTo (full : Bool) (len h : Nat) : Option Nat → Bool
 | none => full && h == len
 | some m => m == h
def sliceD (T : Nat → Option TI) (hp : List AObj) (t : Nat) (x : D) (lo hi mx : Option D) : Option D := match T t with
 | none => none
 | some ti => match ti.kind, x with
  | .str, .v (.str s) => match boundsD s.size lo hi mx with
   | some (l, h, none) => some (.v (.str (s.extract l h)))
   | _ => none
  | .slice e, .v (.sl fl es) => match boundsD es.length lo hi mx, sizeT T e with
   | some (l, h, m), some k => if headOk k es then some (.v (.sl (if fullTo fl.isFull es.length h m then .full else .plain) ((es.drop l).take (h - l)))) else none
   | _, _ => none
  | .slice e, .osl r off len full => match boundsD len lo hi mx, sizeT T e with
   | some (l, h, m), some k => if shapeOk hp r k then
     (if l == h then some (.v (.sl (if fullTo full len h m then .full else .plain) [])) else
      if (m.isNone && !full) || fullTo full len h m then some (.osl r (off + l) (h - l) (fullTo full len h m)) else none) else none
   | _, _ => none
  | .array n e, .ptr r 0 => match lo, hi, mx with
   | none, some j, none => match natOf j, hp[r]?, sizeT T e with
    | some j, some (.cells cs), some 1 => if j ≤ n ∧ cs.length = n then some (.osl r 0 j false) else none
    | _, _, _ => none
   | _, _, _ => none
  | _, _ => none
def cutRowD (T : Nat → Option TI) (h : List AObj) (t : Nat) (x : D) (lo hi mx : Option D) : Option (D × List AObj) := match x, lo, hi, mx with
 | .osl r 0 len false, none, some j, none => match T t with
  | none => none
  | some ti => match ti.kind, natOf j, h[r]? with
   | .slice e, some j, some (.row k es) => if sizeT T e = some k ∧ j ≤ len then some (.osl r 0 j false, h.set r (.row k (es.take j))) else none
   | _, _, _ => none
 | _, _, _, _ => none
def elemsOf (k : Nat) (h : List AObj) : D → Option (List V)
 | .v (.sl _ es) => if headOk k es then some es else none
 | .osl r off len _ => match h[r]? with
  | some (.row k' es) => if k = k' ∧ off + len ≤ es.length then some ((es.drop off).take len) else none
  | some (.cells cs) => if k = 1 ∧ off + len ≤ cs.length then match pures ((cs.drop off).take len) with
    | some vs => if vs.all V.scalar then some vs else none
    | none => none
   else none
  | _ => none
 | _ => none
def appendD (T : Nat → Option TI) (rowM : Bool) (t : Nat) (h : List AObj) (s x : D) : Option (D × List AObj) := match T t with
 | none => none
 | some ti => match ti.kind with
  | .slice e => match T e with
   | none => none
   | some i => if i.size = 0 ∨ i.zero.cells.length ≠ i.size then none else match elemsOf i.size h x.unt with
    | none => none
    | some xs => match s with
     | .tsl q es => match h[q]? with
      | some (.tok k n) => if k = i.size ∧ n = es.length ∧ (es.length + xs.length) * i.bytes ≤ 140737488355328 ∧ es.length + xs.length ≤ maxLen then
        some (.tsl h.length (es ++ xs), h.set q .dead ++ [.tok k (es.length + xs.length)]) else none
      | _ => none
     | .v (.sl fl es) => match xs with
      | [] => some (.v (.sl fl es), h ++ [.dead])
      | _ :: _ => if fl.isFull && headOk i.size es && decide ((es.length + xs.length) * i.bytes ≤ 140737488355328) && decide (es.length + xs.length ≤ maxLen) then
        (if rowM then some (.osl h.length 0 (es.length + xs.length) false, h ++ [.row i.size (es ++ xs)]) else some (.tsl h.length (es ++ xs), h ++ [.tok i.size (es.length + xs.length)])) else none
     | .osl r off len full => if rowM = false then none else match h[r]? with
      | some (.row k es) => if k = i.size ∧ off + len ≤ es.length ∧ (len + xs.length) * i.bytes ≤ 140737488355328 ∧ len + xs.length ≤ maxLen then
        (if full then match xs with
         | [] => some (.osl r off len full, h)
         | _ :: _ => some (.osl h.length 0 (len + xs.length) false, h ++ [.row k ((es.drop off).take len ++ xs)])
        else if off = 0 then some (.osl h.length 0 (len + xs.length) false, h.set r .dead ++ [.row k (es.take len ++ xs)])
        else none)
       else none
      | some (.grid k cs) => if k = i.size ∧ off = 0 ∧ full = false ∧ cs.length = len * k ∧ (len + xs.length) * i.bytes ≤ 140737488355328 ∧ len + xs.length ≤ maxLen then
        some (.osl h.length 0 (len + xs.length) false, h.set r .dead ++ [.grid k (cs.map D.unt ++ (xs.flatMap V.cells).map .v)])
       else none
      | _ => none
     | _ => none
  | _ => none
def bytesV (b : ByteArray) : List V := b.data.toList.map fun c => .int .u8 c.toNat
def appendStrD (T : Nat → Option TI) (rowM : Bool) (t t' : Nat) (h : List AObj) (s x : D) : Option (D × List AObj) := match T t', x with
 | some i, .v (.str b) => match i.kind with
  | .str => appendD T rowM t h s (.v (.sl .plain (bytesV b)))
  | _ => none
 | _, _ => none
def makeSliceD (T : Nat → Option TI) (t : Nat) (h : List AObj) (len cap : D) : Option (D × List AObj) := match T t with
 | none => none
 | some ti => match ti.kind, natOf len, natOf cap with
  | .slice e, some n, some c => match T e with
   | none => none
   | some i => if n ≤ c ∧ c * i.bytes ≤ 140737488355328 ∧ c ≤ maxLen ∧ 0 < i.size ∧ i.zero.solid ∧ i.zero.cells.length = i.size then
     match i.kind with
     | .slice _ | .map _ _ | .ptr _ => if i.size = 1 ∧ i.zero.scalar = true then some (.osl h.length 0 n false, h ++ [.cells (List.replicate c (.v i.zero))]) else none
     | _ => some (.osl h.length 0 n false, h ++ [.row i.size (List.replicate n i.zero)])
    else none
  | _, _, _ => none
def plainS : V → V
 | .sl _ es => .sl .plain es
 | x => x
def plainV : V → V
 | .sl _ es => .sl .plain es
 | .agg cs => .agg (cs.map plainS)
 | x => x
def plainT : V → V
 | .tuple vs => .tuple (vs.map plainV)
 | x => plainV x
def allM {α β : Type} (f : α → Option β) : List α → Option (List β)
 | [] => some []
 | x :: r => match f x, allM f r with
  | some y, some ys => some (y :: ys)
  | _, _ => none
def chunk (k : Nat) : Nat → List V → List V
 | 0, _ => []
 | n + 1, l => .agg (l.take k) :: chunk k n (l.drop k)
def frzCap (f : D → Option V) (h : List AObj) : D → Option V
 | .ptr r 0 => match h[r]? with
  | some (.cells cs) => (allM f cs).map .agg
  | _ => none
 | .vptr cs => some (.agg cs)
 | _ => none
def frz (h : List AObj) : Nat → D → Option V
 | 0, _ => none
 | _ + 1, .v x => some (plainT x)
 | _ + 1, .tsl _ es => some (.sl .plain es)
 | n + 1, .osl r off len _ => match h[r]? with
  | some (.row _ es) => if off + len ≤ es.length then some (.sl .plain ((es.drop off).take len)) else none
  | some (.cells cs) => if off + len ≤ cs.length then match allM (frz h n) ((cs.drop off).take len) with
    | some vs => if vs.all V.scalar then some (.sl .plain vs) else none
    | none => none
   else none
  | some (.grid k cs) => if (off + len) * k ≤ cs.length then match allM (frz h n) ((cs.drop (off * k)).take (len * k)) with
    | some vs => if vs.all V.scalar then some (.sl .plain (chunk k len vs)) else none
    | none => none
   else none
  | _ => none
 | n + 1, .func f [] cs => (allM (frzCap (frz h n) h) cs).map (.clo f)
 | n + 1, .ptr r 0 => match h[r]? with
  | some (.cells cs) => (allM (frz h n) cs).map .ptr
  | _ => none
 | n + 1, .map r => match h[r]? with
  | some (.map ks vs) => (allM (frz h n) vs).map (.map ks)
  | _ => none
 | _ + 1, .vptr cs => some (.ptr cs)
 | n + 1, .agg cs => (allM (frz h n) cs).map .agg
 | n + 1, .tuple vs => (allM (frz h n) vs).map .tuple
 | _, _ => none
structure Keep where
 loop : Nat → List Nat
 cond : Nat → List Nat
 blk : Nat → List Nat
structure Lend where
 toks : List Nat := []
 res : Option Nat := none
 whole : Bool := false
structure Env where
 T : Nat → Option TI
 pureF : FuncId → Bool
 keep : FuncId → Keep
 acc : FuncId → List Nat
 rowF : FuncId → Bool
 rowM : Bool
 ora : FuncId → Option (List V → Option V)
 oraD : FuncId → Option (List D → List AObj → Option (D × List AObj))
 untF : FuncId → Bool := fun _ => false
 untS : Bool := false
 ownR : FuncId → Option Nat := fun _ => none
 rowTy : Nat → Bool := fun _ => true
 lend : FuncId → Option Lend := fun _ => none
 bldTy : Nat → Bool := fun _ => false
 dynP : Bool := false
abbrev Calling := FuncId → List D → List AObj → Option (D × List AObj)
def argP (h : List AObj) : D → Option D
 | .vptr cs => some (.vptr cs)
 | d => (frz h 6 d).map .v
def D.freed : D → Bool
 | .v _ | .tsl _ _ | .vptr _ => true
 | _ => false
def ownFlat (h : List AObj) : D → Bool
 | .osl r 0 len false => match h[r]? with
  | some (.row _ es) => decide (len ≤ es.length) && (es.take len).all V.flat
  | _ => false
 | .v (.sl _ es) => es.isEmpty
 | _ => false
def D.isV : D → Bool
 | .v _ => true
 | _ => false
def lendArg (t : Bool) (h : List AObj) (refs : List (Option Nat)) : D → Option (D × List (Option Nat))
 | .ptr q off => match h[q]? with
  | some (.cells cs) => if cs.all D.isV && !refs.contains (some q) then some (.ptr refs.length off, refs ++ [some q]) else none
  | _ => none
 | .tsl q es => if t then match h[q]? with
   | some (.tok _ _) => if !refs.contains (some q) then some (.tsl refs.length es, refs ++ [some q]) else none
   | _ => none
  else some (.v (.sl .plain es), refs)
 | .v x => if t then some (.v x, refs ++ [none]) else some (.v (plainT x), refs)
 | .vptr cs => some (.vptr cs, refs)
 | _ => none
def lendA (toks : List Nat) (h : List AObj) : Nat → List (Option Nat) → List D → Option (List D × List (Option Nat))
 | _, refs, [] => some ([], refs)
 | i, refs, d :: r => match lendArg (toks.contains i) h refs d with
  | some (d', refs') => match lendA toks h (i + 1) refs' r with
   | some (ds', rf) => some (d' :: ds', rf)
   | none => none
  | none => none
def unlent (n : Nat) (h1 : List AObj) : List AObj := List.replicate n .dead ++ h1.drop n
def callD (E : Env) (Γ : Calling) (f : FuncId) (ds : List D) (h : List AObj) : Option (D × List AObj) :=
 if E.pureF f then match allM (argP h) ds with
  | none => none
  | some vs => match Γ f vs [] with
   | none => none
   | some (d, h') => match frz h' 6 d with
    | none => none
    | some r => if ds.all D.freed || r.flat || ownFlat h' d then some (.v r, h) else none
 else Γ f ds h
def cloOf : D → Option (FuncId × List D × List D)
 | .v (.fn f) => some (f, [], [])
 | .v (.clo f caps) => some (f, [], caps.map fun x => .vptr x.cells)
 | .func f a b => some (f, a, b)
 | _ => none
def argsD (ρ : Operand → D) (xs : List Operand) : List D := xs.map ρ
def intsB : List V → List V → Bool
 | [], [] => true
 | .int q n :: r, .int q' n' :: s => decide (q = q' ∧ n = n') && intsB r s
 | _, _ => false
def keyTwin : V → V → Bool
 | .agg cs, .agg ys => intsB cs ys
 | .agg _, _ => false
 | _, _ => true
def keyFind (T : Nat → Option TI) (kt : Nat) (k : V) : List V → Nat → Option (Option Nat)
 | [], _ => some none
 | x :: r, i => match eqV T 8 kt k x with
  | some true => if keyTwin k x then some (some i) else none
  | some false => keyFind T kt k r (i + 1)
  | none => none
def keyOk1 (T : Nat → Option TI) (kt : Nat) (k : V) : Bool := match T kt with
 | some i => match i.kind, k with
  | .int q, .int q' _ => decide (q' = q)
  | .str, .str _ => true
  | .bool, .bool _ => true
  | _, _ => false
 | none => false
def V.isInt : V → Bool
 | .int _ _ => true
 | _ => false
def TK.isInt : TK → Bool
 | .int _ => true
 | _ => false
def keyOk2 (T : Nat → Option TI) (kt : Nat) (k : V) : Bool := match T kt with
 | some i => match i.kind, k with
  | .struct fs, .agg cs => (fs.all fun f => (match T f.2 with
   | some j => j.kind.isInt
   | none => false) && decide (f.1 < cs.length)) && cs.all V.isInt
  | _, _ => false
 | none => false
def keyOk (T : Nat → Option TI) (kt : Nat) (k : V) : Bool := keyOk1 T kt k || keyOk2 T kt k
def mapKV (h : List AObj) : D → Option (List V × List D)
 | .v .nilmap => some ([], [])
 | .v (.map ks vs) => some (ks, vs.map .v)
 | .map r => match h[r]? with
  | some (.map ks vs) => some (ks, vs)
  | _ => none
 | _ => none
def lookupD (T : Nat → Option TI) (h : List AObj) (t : Nat) (x i : D) (ok : Bool) : Option D := match T t with
 | none => none
 | some ti => match ti.kind, i with
  | .map kt et, .v k => match T et with
   | none => none
   | some ei => if keyOk T kt k then match mapKV h x with
     | none => none
     | some (ks, vs) => match keyFind T kt k ks 0 with
      | none => none
      | some (some j) => (vs[j]?).map fun d => if ok then mkTuple [d, .v (.bool true)] else d
      | some none => some (if ok then .v (.tuple [ei.zero, .bool false]) else .v ei.zero)
    else none
  | _, _ => none
def mapSetD (T : Nat → Option TI) (h : List AObj) (t : Nat) (m i x : D) : Option (List AObj) := match T t with
 | none => none
 | some ti => match ti.kind, m, i with
  | .map kt _, .map r, .v k => match h[r]? with
   | some (.map ks vs) => if keyOk T kt k then match keyFind T kt k ks 0 with
     | none => none
     | some (some j) => some (h.set r (.map (ks.set j k) (vs.set j x)))
     | some none => some (h.set r (.map (ks ++ [k]) (vs ++ [x])))
    else none
   | _ => none
  | _, _, _ => none
def clearD (T : Nat → Option TI) (t : Nat) (h : List AObj) : D → Option (List AObj)
 | .osl r off len _ => match T t with
  | some ti => match ti.kind, h[r]? with
   | .slice e, some (.row k es) => match T e with
    | some i => if i.size = k ∧ i.zero.cells.length = k ∧ 0 < len ∧ off + len = es.length then some (h.set r (.row k (es.take off))) else none
    | none => none
   | _, _ => none
  | none => none
 | _ => none
def mapT (T : Nat → Option TI) (t : Nat) : Bool := match T t with
 | some i => (match i.kind with
  | .map _ _ => true
  | _ => false)
 | none => false
def lenMapD (h : List AObj) : D → Option D
 | .map r => match h[r]? with
  | some (.map ks _) => some (.v (.int .i64 ks.length))
  | _ => none
 | _ => none
def copyD (T : Nat → Option TI) (t : Nat) (h : List AObj) (d s : D) : Option (D × List AObj) := match d with
 | .osl r off len _ => match T t with
  | some ti => match ti.kind, h[r]? with
   | .slice e, some (.row k es) => match T e with
    | some i => if i.size = 1 ∧ k = 1 ∧ off + len ≤ es.length then (elemsOf 1 h s).map fun xs => (.v (.int .i64 (min xs.length len : Nat)), h.set r (.row 1 (es.take off ++ (xs.take len ++ es.drop (off + min xs.length len))))) else none
    | none => none
   | _, _ => none
  | none => none
 | _ => none
def builtinD (T : Nat → Option TI) (rowM : Bool) (b : Builtin) (ts : List Nat) (args : List D) (h : List AObj) : Option (D × List AObj) :=
 match b, ts, args with
 | .len, [t], [x] => if mapT T t then (lenMapD h x).map (·, h) else (lenD T t x.unt).map (·, h)
 | .append, [t, t'], [s, x] => if t = t' then appendD T rowM t h s x else appendStrD T rowM t t' h s x
 | .min, _, [.v (.int k x), .v (.int _ y)] => some (.v (.int k (if y < x then y else x)), h)
 | .max, _, [.v (.int k x), .v (.int _ y)] => some (.v (.int k (if y > x then y else x)), h)
 | .max, _, [.v (.int k x), .v (.int _ y), .v (.int _ z)] => some (.v (.int k (if z > (if y > x then y else x) then z else (if y > x then y else x))), h)
 | .clear, [t], [x] => (clearD T t h x).map (U, ·)
 | .copy, [t, _], [d, s] => copyD T t h d.unt s.unt
 | _, _, _ => none
def dynBad (E : Env) (f : Operand) (f' : FuncId) : Bool := match f with
 | .func _ => false
 | _ => E.dynP && !E.pureF f'
theorem dynBad_func (E : Env) (g f' : FuncId) : dynBad E (.func g) f' = false := rfl
theorem dynBad_pure {E : Env} {f' : FuncId} (h : E.dynP = true) (hb : ¬ (E.dynP && !E.pureF f') = true) : E.pureF f' = true := by
 rw [h] at hb
 simpa using hb
def ares (E : Env) (Γ : Calling) (op : Op) (ρ : Operand → D) (h : List AObj) : Option (D × List AObj) :=
 match op with
 | .move x | .assign x => some (ρ x, h)
 | .pick c a b => match ρ c with
  | .v (.bool t) => some (if t then ρ a else ρ b, h)
  | _ => none
 | .alloc e => match E.T e with
  | some i => if decide (i.zero.cells.length ≤ maxLen) then some (.ptr h.length 0, h ++ [.cells (i.zero.cells.map .v)]) else none
  | none => none
 | .box _ x => if (ρ x).solid && decide ((ρ x).cells.length ≤ maxLen) then some (.ptr h.length 0, h ++ [.cells (ρ x).cells]) else none
 | .build t parts => match E.T t with
  | some i => match i.kind with
   | .struct fs => match places E.T fs with
    | some ps => match fillD (ps[·]?) (i.zero.cells.map .v) (parts.toList.map fun p => (p.1, (ρ p.2).unt)) with
     | some cs => some (mkAgg cs, h)
     | none => none
    | none => none
   | _ => none
  | none => none
 | .buildSlice t n parts => match E.T t with
  | some ti => match ti.kind with
   | .slice e => match E.T e with
    | some i => if parts.toList.map (·.1) = List.range n ∧ 0 < i.size ∧ n * i.size ≤ 16777216 ∧ i.zero.cells.length = i.size then match pures (parts.toList.map fun p => (ρ p.2).unt) with
      | some es => if es.all (fun d => d.solid && d.cells.length == i.size) then (if E.bldTy t then (if 0 < n then some (.osl h.length 0 n false, h ++ [.row i.size es]) else none) else some (.v (.sl .nonfull (es.map plainV)), h)) else none
      | none => none
     else none
    | none => none
   | _ => none
  | none => none
 | .load t a => match E.T t with
  | some i => (loadD i h (ρ a)).map (·, h)
  | none => none
 | .store t a x => match E.T t with
  | some i => (storeD i h (ρ a) (D.into E.untS (ρ a) (ρ x))).map (U, ·)
  | none => none
 | .nilCheck x => match ρ x with
  | .ptr r off => some (.ptr r off, h)
  | .eptr r i off => some (.eptr r i off, h)
  | .vptr cs => some (.vptr cs, h)
  | .v (.ptr cs) => some (.v (.ptr cs), h)
  | .v (.fn f) => some (.v (.fn f), h)
  | .func f a b => some (.func f a b, h)
  | _ => none
 | .binOp op t x y _ => (binD E.T op t (ρ x).unt (ρ y).unt).map (·, h)
 | .unOp op _ x => (unD op (ρ x)).map (·, h)
 | .convert src dst x => (convD E.T src dst (ρ x).unt).map (·, h)
 | .makeSlice t l c => makeSliceD E.T t h (ρ l) (ρ c)
 | .makeFunc (.func f) first captured => match first.toList with
  | [] => some (.func f [] (argsD ρ captured.toList), h)
  | _ :: _ => none
 | .slice t x lo hi mx => if E.bldTy t then cutRowD E.T h t (ρ x).unt (lo.map ρ) (hi.map ρ) (mx.map ρ) else (sliceD E.T (if E.rowM then h else []) t (ρ x).unt (lo.map ρ) (hi.map ρ) (mx.map ρ)).map (·, h)
 | .fieldAddr t x f => (fieldAddrD E.T t f (ρ x)).map (·, h)
 | .field t x f => (fieldD E.T t f (ρ x)).map (·, h)
 | .indexAddr t x i => (indexAddrH E.T h t (ρ x).unt (ρ i)).map (·, h)
 | .index t x i => (indexD E.T t (ρ x) (ρ i)).map (·, h)
 | .extract t i => match ρ t with
  | .v (.tuple vs) => (vs[i]?).map (.v ·, h)
  | .tuple vs => (vs[i]?).map (·, h)
  | _ => none
 | .makeMap t r => match r, E.T t with
  | none, some i => match i.kind with
   | .map _ _ => some (.map h.length, h ++ [.map [] []])
   | _ => none
  | _, _ => none
 | .lookup t x i ok => (lookupD E.T h t (ρ x) (ρ i) ok).map (·, h)
 | .mapUpdate t m i x | .insert t m i x => (mapSetD E.T h t (ρ m) (ρ i) (ρ x)).map (U, ·)
 | .call c => match c.callee with
  | .builtin b => builtinD E.T (E.rowM && (c.argTypes.toList.head?.map E.rowTy).getD true) b c.argTypes.toList (argsD ρ c.args.toList) h
  | .value f => match cloOf (ρ f) with
   | some (f', a, b) => if dynBad E f f' then none else callD E Γ f' (a ++ argsD ρ c.args.toList ++ b) h
   | none => none
  | _ => none
 | _ => none
def St.put (σ : St) (dst : Option Tmp) (d : D) (h : List AObj) : St :=
 match dst with
 | some t => ⟨σ.tmps.set t d, h⟩
 | none => ⟨σ.tmps, h⟩
def aguard (ops : List Oper) (σ : St) (o : Oper) : Option Bool :=
 match o.guard with
 | none => some true
 | some (j, want) => match ops[j]? with
  | none => none
  | some p => match p.dst with
   | none => none
   | some t => match σ.tmps[t]? with
    | some (.v (.bool b)) => some (b == want)
    | some (.v (.tuple [])) => some false
    | _ => none
def aeff (E : Env) (Γ : Calling) (ops : List Oper) (o : Oper) (σ : St) : Option (D × List AObj) :=
 match aguard ops σ o with
 | some true => ares E Γ o.op σ.ev σ.heap
 | some false => some (U, σ.heap)
 | none => none
def aop (E : Env) (Γ : Calling) (ops : List Oper) (o : Oper) (σ : St) : Option St :=
 match aeff E Γ ops o σ with
 | some (d, h) => some (σ.put o.dst d h)
 | none => none
def aops (E : Env) (Γ : Calling) (ops : List Oper) : List Oper → St → Option St
 | [], σ => some σ
 | o :: r, σ => match aop E Γ ops o σ with
  | some σ' => aops E Γ ops r σ'
  | none => none
inductive OKind where
 | p | r | w
def okind (E : Env) (o : Oper) : OKind := match o.op with
 | .move _ | .assign _ | .makeFunc _ _ _ | .pick _ _ _ | .build _ _ | .nilCheck _ | .binOp _ _ _ _ _ | .unOp _ _ _ | .convert _ _ _
 | .fieldAddr _ _ _ | .field _ _ _ | .index _ _ _ | .extract _ _ | .makeInterface _ _ | .typeAssert _ _ _ _ => .p
 | .load _ _ | .indexAddr _ _ _ | .lookup _ _ _ _ | .entry _ => .r
 | .buildSlice t _ _ => if E.bldTy t then .w else .p
 | .slice t _ _ _ _ => if E.bldTy t then .w else if E.rowM then .r else .p
 | .call c => match c.callee with
  | .builtin .len => if c.argTypes.toList.any (mapT E.T) then .r else .p
  | .builtin .min | .builtin .max => .p
  | .value (.func f) => if E.pureF f then .r else .w
  | .value _ => if E.dynP then .r else .w
  | _ => .w
 | _ => .w
def appLoad (E : Env) (x y : Oper) : Bool := !E.rowM && (match x.op, y.op with
 | .call c, .load _ _ => match c.callee with
  | .builtin .append => true
  | _ => false
 | _, _ => false)
def loadApp (E : Env) (x y : Oper) : Bool := match x.op, y.op with
 | .load _ _, .call c => !E.rowM && (match c.callee with
  | .builtin .append => true
  | _ => false)
 | .load _ _, .buildSlice _ _ _ => true
 | .load _ _, .alloc _ => true
 | .load _ _, .makeSlice _ _ _ => true
 | .indexAddr _ _ _, .alloc _ => true
 | .indexAddr _ _ _, .makeSlice _ _ _ => true
 | .call c, .alloc _ => match c.callee with
  | .value (.func f) => E.pureF f
  | _ => false
 | _, _ => false
def commutes (E : Env) (ops : Array Oper) (x y : Oper) : Bool :=
 x.apart ops y && ((match okind E x, okind E y with
  | .p, _ | _, .p | .r, .r => true
  | _, _ => false) || (appLoad E x y || loadApp E x y))
def orderFree (E : Env) (ops : Array Oper) : Bool :=
 let b := Region.before ops
 ops.toList.zipIdx.all (fun x => x.1.after.all fun e => !Region.binds .any e || decide (e.on < x.2)) &&
 (List.range ops.size).all fun i => (List.range i).all fun j =>
  (b.getD i 0).testBit j || (match ops[j]?, ops[i]? with
   | some x, some y => commutes E ops x y
   | _, _ => false)
def lateOk (E : Env) (ops : Array Oper) : Bool := false
def pinned (ops : Array Oper) (t : Tmp) : Bool := ops.toList.all fun o => o.dst != some t
def farTmps (x y : Oper) : Option (Tmp × Tmp) := match x.op, y.op with
 | .store _ (.tmp a) _, .load _ (.tmp b) => some (a, b)
 | .load _ (.tmp a), .store _ (.tmp b) _ => some (a, b)
 | _, _ => none
def farAt (ops : Array Oper) (σ : St) (x y : Oper) : Bool := x.apart ops y && (match farTmps x y with
 | some (a, b) => pinned ops a && (pinned ops b && (match σ.tmps[a]?, σ.tmps[b]? with
  | some (.ptr r _), some (.ptr r' _) => r != r'
  | _, _ => false))
 | none => false)
def farOk (E : Env) (ops : Array Oper) (σ : St) : Bool :=
 let b := Region.before ops
 ops.toList.zipIdx.all (fun x => x.1.after.all fun e => !Region.binds .any e || decide (e.on < x.2)) &&
 (List.range ops.size).all fun i => (List.range i).all fun j =>
  (b.getD i 0).testBit j || (match ops[j]?, ops[i]? with
   | some x, some y => commutes E ops x y || farAt ops σ x y
   | _, _ => false)
def forget (keep : List Nat) (σ : St) : St := ⟨σ.tmps.mapIdx fun i d => if keep.contains i then d else .undef, σ.heap⟩
def D.ref? : D → Option Nat
 | .tsl t _ => some t
 | .osl r _ _ _ => some r
 | .ptr r _ => some r
 | .map r => some r
 | _ => none
def D.withRef (r : Nat) : D → D
 | .tsl _ es => .tsl r es
 | .osl _ a b c => .osl r a b c
 | .ptr _ o => .ptr r o
 | .map _ => .map r
 | d => d
def D.under (L : Nat) : Nat → D → Bool
 | 0, _ => false
 | _ + 1, .undef | _ + 1, .v _ | _ + 1, .vptr _ => true
 | _ + 1, .ptr r _ | _ + 1, .eptr r _ _ | _ + 1, .osl r _ _ _ | _ + 1, .tsl r _ | _ + 1, .map r => decide (r < L)
 | n + 1, .func _ a b => a.all (D.under L n) && b.all (D.under L n)
 | n + 1, .box _ d => D.under L n d
 | n + 1, .agg cs | n + 1, .tuple cs => cs.all (D.under L n)
def AObj.live : AObj → Bool
 | .dead => false
 | _ => true
def AObj.under (L : Nat) : AObj → Bool
 | .cells cs => cs.all (D.under L 5)
 | .grid _ cs => cs.all (D.under L 5)
 | .map _ vs => vs.all (D.under L 5)
 | .iter m _ _ _ => m.under L 5
 | _ => true
def padS (σ : St) : St := ⟨σ.tmps, σ.heap ++ [.dead]⟩
def moveT (σ : St) (s : Nat) : St := match σ.tmps[s]? with
 | some d => match d.ref? with
  | some r => match σ.heap[r]? with
   | some o => if o.live then ⟨σ.tmps.set s (d.withRef σ.heap.length), σ.heap.set r .dead ++ [o]⟩ else padS σ
   | none => padS σ
  | none => padS σ
 | none => padS σ
def moveC (σ : St) (s off : Nat) : St := match σ.tmps[s]? with
 | some (.ptr p 0) => match σ.heap[p]? with
  | some (.cells cs) => match cs[off]? with
   | some d => match d.ref? with
    | some r => match σ.heap[r]? with
     | some o => if o.live && r != p then ⟨σ.tmps, (σ.heap.set r .dead ++ [o]).set p (.cells (cs.set off (d.withRef σ.heap.length)))⟩ else padS σ
     | none => padS σ
    | none => padS σ
   | none => padS σ
  | _ => padS σ
 | _ => padS σ
def moveS (σ : St) (s : Nat) : St := if s < 100000 then moveT σ s else moveC σ ((s - 100000) / 100) ((s - 100000) % 100)
def cutD (keep : List Nat) (L M i : Nat) (d : D) : Option D :=
 if keep.contains i then
  if d.under L 5 then some d else match d.ref? with
  | some r => if M ≤ r then some (d.withRef (r - (M - L))) else none
  | none => none
 else some .undef
def cutC (L M : Nat) (d : D) : Option D :=
 if d.under L 5 then some d else match d.ref? with
 | some r => if M ≤ r then some (d.withRef (r - (M - L))) else none
 | none => none
def AObj.cut (L M : Nat) (o : AObj) : Option AObj := match o with
 | .cells cs => (allM (cutC L M) cs).map .cells
 | .grid k cs => (allM (cutC L M) cs).map (.grid k)
 | o => if o.under L then some o else none
def cutS (keep : List Nat) (L M : Nat) (σ : St) : St :=
 if (σ.heap.drop M).all (AObj.under L) then match allM (AObj.cut L M) (σ.heap.take L), allM id (σ.tmps.mapIdx (cutD keep L M)) with
  | some hs, some ts => ⟨ts, hs ++ σ.heap.drop M⟩
  | _, _ => σ
 else σ
def squash (keep acc : List Nat) (L : Nat) (σ : St) : St :=
 if acc.isEmpty && σ.heap.length == L then σ else cutS keep L σ.heap.length (acc.foldl moveS σ)
def parRun (E : Env) (ops : Array Oper) (σ : St) : Option St := none
def ckey : Code → Nat
 | .region id _ _ => id
 | .seq a _ => ckey a
 | .block _ c => ckey c
 | .loop c => ckey c
 | _ => 0
def okey : Operand → Nat
 | .tmp t => t
 | _ => 0
def aloop (ks acc : List Nat) (L : Nat) (body : St → Option (AExit × St)) : Nat → St → Option (AExit × St)
 | 0, _ => none
 | n + 1, σ => match body σ with
  | some (.normal, σ') => aloop ks acc L body n (squash ks acc L (forget ks σ'))
  | some (e, σ') => some (e, forget ks σ')
  | none => none
def aeval (E : Env) (Γ : Calling) (keep : Keep) (acc : List Nat) (n : Nat) : Code → St → Option (AExit × St)
 | .skip, σ => some (.normal, σ)
 | .region _ ops draw, σ => if draw && (!orderFree E ops && (!lateOk E ops && !farOk E ops σ)) then (parRun E ops σ).map fun σ' => (.normal, σ') else match aops E Γ ops.toList ops.toList σ with
  | some σ' => some (.normal, σ')
  | none => none
 | .seq a b, σ => match aeval E Γ keep acc n a σ with
  | some (.normal, σ') => aeval E Γ keep acc n b σ'
  | r => r
 | .cond c t e, σ => match σ.ev c with
  | .v (.bool b) => match (if b then aeval E Γ keep acc n t σ else aeval E Γ keep acc n e σ) with
   | some (.normal, σ') => some (.normal, squash (keep.cond (okey c)) acc σ.heap.length σ')
   | r => r
  | _ => none
 | .block id c, σ => match aeval E Γ keep acc n c σ with
  | some (.exit id', σ') => if id' = id then some (.normal, squash (keep.blk id) acc σ.heap.length σ') else some (.exit id', σ')
  | some (.normal, σ') => some (.normal, squash (keep.blk id) acc σ.heap.length σ')
  | r => r
 | .loop c, σ => aloop (keep.loop (ckey c)) acc σ.heap.length (aeval E Γ keep acc n c) n (squash (keep.loop (ckey c)) acc σ.heap.length (forget (keep.loop (ckey c)) σ))
 | .exit id, σ => some (.exit id, σ)
 | .ret, σ => some (.ret, σ)
 | _, _ => none
def resultD (T : Nat → Option TI) (σ : St) : ResultVar → Option D
 | .tmp t => some (σ.tmps.getD t .undef)
 | .cell a t => match T t with
  | some i => loadD i σ.heap (σ.tmps.getD a .undef)
  | none => none
def resultsD (T : Nat → Option TI) (σ : St) (rs : List ResultVar) : Option D := match allM (resultD T σ) rs with
 | some [d] => some d
 | some ds => some (mkTuple ds)
 | none => none
def run (P : Program) (E : Env) : Nat → Calling
 | 0, _, _, _ => none
 | n + 1, f, ds, h => match P.funcs[f]? with
  | none => none
  | some fn => match E.oraD f with
   | some F => F ds h
   | none => match E.ora f with
   | some F => match pures (ds.map D.unt) with
    | some vs => (F vs).map (.v ·, h)
    | none => none
   | none => match fn.body with
    | none => none
    | some c => match aeval { E with rowM := E.rowF f, untS := E.untF f } (run P E n) (E.keep f) (E.acc f) n c ⟨ds ++ List.replicate (fn.ntmps - ds.length) U, h⟩ with
     | some (.normal, σ) | some (.ret, σ) => (resultsD E.T σ fn.results.toList).map (·, σ.heap)
     | _ => none
def runV (P : Program) (E : Env) (n : Nat) (f : FuncId) (vs : List V) : Option V :=
 match run P E n f (vs.map .v) [] with
 | some (d, h) => frz h 6 d
 | none => none
set_option linter.unusedVariables false
set_option linter.unusedSimpArgs false
set_option linter.unnecessarySimpa false
variable {DR : Prop}
theorem heap_alloc_old (w : World) (o : Obj) (i : Nat) (h : i < w.heap.size) : (w.alloc o).heap[i]? = w.heap[i]? := by
 show (w.heap.push o)[i]? = w.heap[i]?
 rw [Array.getElem?_push, if_neg (Nat.ne_of_lt h)]
def mapAt (w : World) (b : Nat) : Option (Array MapEntry × Nat) := match w.heap[b]? with
 | some (.map es c) => some (es, c)
 | _ => none
def look (w : World) (b i : Nat) : Option Value × Option (Array MapEntry × Nat) := (w.cell? ⟨b, i, none⟩, mapAt w b)
variable {b i : Nat} {w w' : World}
theorem look_of_block (h : w'.heap[b]? = w.heap[b]?) : look w' b i = look w b i := by
 unfold look mapAt
 rw [World.cell?_of_block h, h]
variable {es : Array MapEntry} {n : Nat}
theorem mapAt_some (h : mapAt w b = some (es, n)) : w.heap[b]? = some (.map es n) := by
 unfold mapAt at h
 split at h
 ·rename_i e c g
  cases h; exact g
 ·cases h
theorem mapAt_of (h : w.heap[b]? = some (.map es n)) : mapAt w b = some (es, n) := by
 unfold mapAt; rw [h]
def Rising (es : Array MapEntry) : Prop := ∀ (i : Nat) e, es[i]? = some e → e.born = i
inductive RelV (S : Nat → Nat → Prop) (w : World) : Value → V → Prop where
 | bool (b : Bool) : RelV S w (.bool b) (.bool b)
 | int (k : IntKind) (n : Int) : RelV S w (.int k n) (.int k n)
 | str (s : ByteArray) : RelV S w (.string s) (.str s)
 | nilptr : RelV S w (.pointer none) .nilptr
 | nilmap : RelV S w (.map none) .nilmap
 | nilfunc : RelV S w .nilFunc .nilfunc
 | nilif : RelV S w .nilIface .nilif
 | fn (f : FuncId) : RelV S w (.func (.func f) #[] #[]) (.fn f)
 | clo (f : FuncId) (captured : Array Value) (caps : List V) (q : Nat → Nat × Nat × List V × (Nat → Value)) (hl : captured.size = caps.length)
   (hp : ∀ (i : Nat) v, captured[i]? = some v → v = .pointer (some ⟨(q i).1, (q i).2.1, none⟩)) (hc : ∀ (i : Nat) x, caps[i]? = some x → x = .agg (q i).2.2.1)
   (hs : ∀ i j : Nat, i < caps.length → j < (q i).2.2.1.length → S (q i).1 ((q i).2.1 + j) ∧ w.cell? ⟨(q i).1, (q i).2.1 + j, none⟩ = some ((q i).2.2.2 j))
   (hr : ∀ (i j : Nat) y, i < caps.length → (q i).2.2.1[j]? = some y → RelV S w ((q i).2.2.2 j) y) : RelV S w (.func (.func f) #[] captured) (.clo f caps)
 | slnil (fl : SFlag) (h : fl.isNil ≠ some false) : RelV S w (.slice none 0 0) (.sl fl [])
 | slemp (fl : SFlag) (a : Addr) (cap : Nat) (h : fl.isNil ≠ some true) (hf : fl.isFull = true → cap = 0) (hm : cap ≤ maxLen) : RelV S w (.slice (some a) 0 cap) (.sl fl [])
 | sl (fl : SFlag) (b off cap k n : Nat) (es : List V) (vals : Nat → Value) (hn : n = es.length) (h : fl.isNil ≠ some true) (hf : fl.isFull = true → cap = n) (hc : n ≤ cap) (hm : cap ≤ maxLen)
   (hk : ∀ (i : Nat) (x : V), es[i]? = some x → x.solid = true ∧ x.cells.length = k)
   (hs : ∀ i j : Nat, i < n → j < k → S b (off + (i * k + j)) ∧ w.cell? ⟨b, off + (i * k + j), none⟩ = some (vals (i * k + j)))
   (hr : ∀ (i j : Nat) (x c : V), es[i]? = some x → x.cells[j]? = some c → RelV S w (vals (i * k + j)) c) : RelV S w (.slice (some ⟨b, off, none⟩) n cap) (.sl fl es)
 | agg (vs : Array Value) (cs : List V) (hl : vs.size = cs.length) (hr : ∀ (i : Nat) (v : Value) (x : V), vs[i]? = some v → cs[i]? = some x → RelV S w v x) : RelV S w (.agg vs) (.agg cs)
 | tuple (vs : Array Value) (cs : List V) (hl : vs.size = cs.length) (hr : ∀ (i : Nat) (v : Value) (x : V), vs[i]? = some v → cs[i]? = some x → RelV S w v x) : RelV S w (.tuple vs) (.tuple cs)
 | ptr (b off : Nat) (cells : List V) (vals : Nat → Value) (hs : ∀ j : Nat, j < cells.length → S b (off + j) ∧ w.cell? ⟨b, off + j, none⟩ = some (vals j))
   (hr : ∀ (j : Nat) (x : V), cells[j]? = some x → RelV S w (vals j) x) : RelV S w (.pointer (some ⟨b, off, none⟩)) (.ptr cells)
 | map (b : Nat) (es : Array MapEntry) (ks vs : List V) (hs : S b 0) (hm : mapAt w b = some (es, es.size)) (hb : Rising es) (hk : es.size = ks.length) (hv : es.size = vs.length)
   (hrk : ∀ (i : Nat) (e : MapEntry) (x : V), es[i]? = some e → ks[i]? = some x → RelV S w e.key x) (hrv : ∀ (i : Nat) (e : MapEntry) (x : V), es[i]? = some e → vs[i]? = some x → RelV S w e.val x) : RelV S w (.map (some b)) (.map ks vs)
abbrev Blocks := List (Nat × Nat × Nat)
inductive RelD (S : Nat → Nat → Prop) (β : Blocks) (w : World) : Value → D → Prop where
 | undef (v : Value) : RelD S β w v .undef
 | v (v : Value) (x : V) (h : RelV S w v x) : RelD S β w v (.v x)
 | ptr (r off b c k : Nat) (h : β[r]? = some (b, c, k)) : RelD S β w (.pointer (some ⟨b, off, none⟩)) (.ptr r off)
 | eptr (r i off b c k p : Nat) (h : β[r]? = some (b, c, k)) (hp : p = i * k + off) : RelD S β w (.pointer (some ⟨b, p, none⟩)) (.eptr r i off)
 | vptr (b off : Nat) (cells : List V) (vals : Nat → Value) (hs : ∀ j : Nat, j < cells.length → S b (off + j) ∧ w.cell? ⟨b, off + j, none⟩ = some (vals j))
   (hr : ∀ (j : Nat) (x : V), cells[j]? = some x → RelV S w (vals j) x) : RelD S β w (.pointer (some ⟨b, off, none⟩)) (.vptr cells)
 | map (r b c k : Nat) (h : β[r]? = some (b, c, k)) : RelD S β w (.map (some b)) (.map r)
 | osl (r off len b c k p cap : Nat) (full : Bool) (h : β[r]? = some (b, c, k)) (hb : off + len ≤ c) (hp : p = off * k) (hcap : cap = if full then len else c - off) :
   RelD S β w (.slice (some ⟨b, p, none⟩) len cap) (.osl r off len full)
 | tsl (t b c k n : Nat) (es : List V) (h : β[t]? = some (b, c, k)) (hn : n = es.length) (hs : ∀ (i : Nat) (x : V), es[i]? = some x → x.solid = true ∧ x.cells.length = k) (hv : RelV S w (.slice (some ⟨b, 0, none⟩) n c) (.sl .plain es)) : RelD S β w (.slice (some ⟨b, 0, none⟩) n c) (.tsl t es)
 | func (f : FuncId) (first captured : Array Value) (fs cs : List D) (hl : first.size = fs.length) (hl' : captured.size = cs.length)
   (hr : ∀ (i : Nat) (v : Value) (x : D), first[i]? = some v → fs[i]? = some x → RelD S β w v x)
   (hr' : ∀ (i : Nat) (v : Value) (x : D), captured[i]? = some v → cs[i]? = some x → RelD S β w v x) : RelD S β w (.func (.func f) first captured) (.func f fs cs)
 | agg (vs : Array Value) (cs : List D) (hl : vs.size = cs.length) (hr : ∀ (i : Nat) (v : Value) (x : D), vs[i]? = some v → cs[i]? = some x → RelD S β w v x) : RelD S β w (.agg vs) (.agg cs)
 | tuple (vs : Array Value) (cs : List D) (hl : vs.size = cs.length) (hr : ∀ (i : Nat) (v : Value) (x : D), vs[i]? = some v → cs[i]? = some x → RelD S β w v x) : RelD S β w (.tuple vs) (.tuple cs)
 | box (t : Nat) (v : Value) (d : D) (hr : RelD S β w v d) : RelD S β w (.iface t v) (.box t d)
def Keeps (S : Nat → Nat → Prop) (w : World) (S' : Nat → Nat → Prop) (w' : World) : Prop :=
 ∀ b i, S b i → S' b i ∧ look w' b i = look w b i
variable {S S' : Nat → Nat → Prop}
theorem Keeps.cell (h : Keeps S w S' w') (hs : S b i) : w'.cell? ⟨b, i, none⟩ = w.cell? ⟨b, i, none⟩ := congrArg Prod.fst (h b i hs).2
theorem Keeps.mapAt (h : Keeps S w S' w') (hs : S b i) : Abs.mapAt w' b = Abs.mapAt w b := congrArg Prod.snd (h b i hs).2
variable {v : Value}
theorem RelV.mono (hk : Keeps S w S' w') {x : V} (h : RelV S w v x) : RelV S' w' v x := by
 induction h with
 | bool b => exact .bool b
 | int k n => exact .int k n
 | str s => exact .str s
 | nilptr => exact .nilptr
 | nilmap => exact .nilmap
 | nilfunc => exact .nilfunc
 | nilif => exact .nilif
 | fn f => exact .fn f
 | clo f captured caps q hl hp hc hs hr ih => exact .clo f captured caps q hl hp hc (fun i j hi hj => ⟨(hk _ _ (hs i j hi hj).1).1, (hk.cell (hs i j hi hj).1).trans (hs i j hi hj).2⟩) ih
 | slnil fl h => exact .slnil fl h
 | slemp fl a cap h hf hm => exact .slemp fl a cap h hf hm
 | sl fl b off cap k n es vals hn h hf hc hm hsol hs hr ih =>
  refine .sl fl b off cap k n es vals hn h hf hc hm hsol (fun i j hi hj => ?_) ih
  obtain ⟨h1, h2⟩ := hs i j hi hj
  exact ⟨(hk _ _ h1).1, (hk.cell h1).trans h2⟩
 | agg vs cs hl hr ih => exact .agg vs cs hl ih
 | tuple vs cs hl hr ih => exact .tuple vs cs hl ih
 | ptr b off cells vals hs hr ih => exact .ptr b off cells vals (fun j hj => ⟨(hk _ _ (hs j hj).1).1, (hk.cell (hs j hj).1).trans (hs j hj).2⟩) ih
 | map b es ks vs hs hm hb hkl hv hrk hrv ihk ihv => exact .map b es ks vs (hk _ _ hs).1 ((hk.mapAt hs).trans hm) hb hkl hv ihk ihv
def Glob (S : Nat → Nat → Prop) (w : World) : Prop := (∀ g cells, G0 g = some cells → ∀ (j : Nat) x, cells[j]? = some x → S g j ∧ ∃ v, w.cell? ⟨g, j, none⟩ = some v ∧ RelV S w v x) ∧ ∀ g j p, (j, p) ∈ GP g → S g j ∧ p (w.cell? ⟨g, j, none⟩)
theorem Glob.mono (h : Glob S w) (hk : Keeps S w S' w') : Glob S' w' := by
 refine ⟨fun g cells hg j x hx => ?_, fun g j p hg => ?_⟩
 ·obtain ⟨h1, v, h2, h3⟩ := h.1 g cells hg j x hx
  exact ⟨(hk g j h1).1, v, (hk.cell h1).trans h2, h3.mono hk⟩
 ·obtain ⟨h1, h2⟩ := h.2 g j p hg
  exact ⟨(hk g j h1).1, by rw [hk.cell h1]; exact h2⟩
variable {β β' : Blocks}
theorem RelD.mono (hk : Keeps S w S' w') (hb : ∀ (r : Nat) x, β[r]? = some x → β'[r]? = some x) {d : D} (h : RelD S β w v d) : RelD S' β' w' v d := by
 induction h with
 | undef v => exact .undef v
 | v v x h => exact .v v x (h.mono hk)
 | ptr r off b c k h => exact .ptr r off b c k (hb _ _ h)
 | eptr r i off b c k p h hp => exact .eptr r i off b c k p (hb _ _ h) hp
 | vptr b off cells vals hs hr =>
  refine .vptr b off cells vals (fun j hj => ?_) (fun j x hx => (hr j x hx).mono hk)
  obtain ⟨h1, h2⟩ := hs j hj
  exact ⟨(hk _ _ h1).1, (hk.cell h1).trans h2⟩
 | map r b c k h => exact .map r b c k (hb _ _ h)
 | osl r off len b c k p cap full h hc hp hcap => exact .osl r off len b c k p cap full (hb _ _ h) hc hp hcap
 | tsl t b c k n es h hn hs hv => exact .tsl t b c k n es (hb _ _ h) hn hs (hv.mono hk)
 | func f first captured fs cs hl hl' hr hr' ih ih' => exact .func f first captured fs cs hl hl' ih ih'
 | agg vs cs hl hr ih => exact .agg vs cs hl ih
 | tuple vs cs hl hr ih => exact .tuple vs cs hl ih
 | box t v d hr ih => exact .box t v d ih
def ObjRel (S : Nat → Nat → Prop) (β : Blocks) (w : World) (b c k : Nat) : AObj → Prop
 | .cells cs => k = 1 ∧ c ≤ maxLen ∧ cs.length = c ∧ ∃ cur e, w.heap[b]? = some (.cells cur e (0, 0)) ∧ cur.size = c ∧
   ∀ (j : Nat) (v : Value) (d : D), cur[j]? = some v → cs[j]? = some d → RelD S β w v d
 | .grid k' cs => k' = k ∧ 0 < k ∧ c ≤ maxLen ∧ cs.length ≤ c * k ∧ ∃ cur e, w.heap[b]? = some (.cells cur e (0, 0)) ∧ cur.size = c * k ∧
   ∀ (j : Nat) (v : Value) (d : D), cur[j]? = some v → cs[j]? = some d → RelD S β w v d
 | .row k' es => k' = k ∧ 0 < k ∧ c ≤ maxLen ∧ es.length ≤ c ∧ (∀ (i : Nat) (x : V), es[i]? = some x → x.solid = true ∧ x.cells.length = k) ∧
   ∃ cur e, w.heap[b]? = some (.cells cur e (0, 0)) ∧ cur.size = c * k ∧
   ∀ (i j : Nat) (x y : V) (v : Value), es[i]? = some x → x.cells[j]? = some y → cur[i * k + j]? = some v → RelV S w v y
 | .tok k' n => k' = k ∧ 0 < k ∧ c ≤ maxLen ∧ n ≤ c ∧ ∃ cur e, w.heap[b]? = some (.cells cur e (0, 0)) ∧ cur.size = c * k
 | .map ks vs => k = 1 ∧ vs.length = ks.length ∧ ∃ es, w.heap[b]? = some (.map es es.size) ∧ Rising es ∧ es.size = ks.length ∧ (∀ (i : Nat) (e : MapEntry) (x : V), es[i]? = some e → ks[i]? = some x → RelV S w e.key x) ∧
   ∀ (i : Nat) (e : MapEntry) (d : D), es[i]? = some e → vs[i]? = some d → RelD S β w e.val d
 | .iter m since seen last => k = 1 ∧ ∃ mv, w.heap[b]? = some (.mapIter mv since seen.toArray last) ∧ RelD S β w (.map mv) m
 | .dead => True
def AObj.mut : AObj → Bool
 | .row _ _ | .cells _ | .grid _ _ | .map _ _ | .iter _ _ _ _ => true
 | _ => false
def AObj.room : AObj → Nat
 | .tok k n => n * k
 | _ => 0
variable {o : AObj}
theorem AObj.mut_room (h : o.mut = true) : o.room = 0 := by cases o <;> first | rfl | cases h
theorem AObj.mut_live (h : o.mut = true) : o.live = true := by cases o <;> first | rfl | cases h
variable {c k : Nat}
theorem ObjRel.mono (hk : Keeps S w S' w') (hb : ∀ (r : Nat) x, β[r]? = some x → β'[r]? = some x)
  (hw : o.live = true → w'.heap[b]? = w.heap[b]?) (h : ObjRel S β w b c k o) : ObjRel S' β' w' b c k o := by
 cases o with
 | dead => trivial
 | cells cs =>
  obtain ⟨h1, h2, h3, cur, e, h4, h5, h6⟩ := h
  exact ⟨h1, h2, h3, cur, e, (hw rfl).trans h4, h5, fun j v d hv hd => (h6 j v d hv hd).mono hk hb⟩
 | grid k' cs =>
  obtain ⟨h1, h2, h3, h0, cur, e, h4, h5, h6⟩ := h
  exact ⟨h1, h2, h3, h0, cur, e, (hw rfl).trans h4, h5, fun j v d hv hd => (h6 j v d hv hd).mono hk hb⟩
 | tok k' n =>
  obtain ⟨h1, h2, h3, h4, cur, e, h6, h7⟩ := h
  exact ⟨h1, h2, h3, h4, cur, e, (hw rfl).trans h6, h7⟩
 | map ks vs =>
  obtain ⟨h1, h2, es, h3, h4, h5, h6, h7⟩ := h
  exact ⟨h1, h2, es, (hw rfl).trans h3, h4, h5, fun i e x he hx => (h6 i e x he hx).mono hk, fun i e d he hd => (h7 i e d he hd).mono hk hb⟩
 | iter m since seen last =>
  obtain ⟨h1, mv, h2, h3⟩ := h
  exact ⟨h1, mv, (hw rfl).trans h2, h3.mono hk hb⟩
 | row k' es =>
  obtain ⟨h1, h2, h3, h4, h5, cur, e, h6, h7, h8⟩ := h
  exact ⟨h1, h2, h3, h4, h5, cur, e, (hw rfl).trans h6, h7, fun i j x y v hx hy hv => (h8 i j x y v hx hy hv).mono hk⟩
structure HInv (S : Nat → Nat → Prop) (β : Blocks) (w : World) (h : List AObj) : Prop where
 len : β.length = h.length
 obj : ∀ (r : Nat) (o : AObj) (b c k : Nat), h[r]? = some o → β[r]? = some (b, c, k) → ObjRel S β w b c k o
 lt : ∀ (r : Nat) (o : AObj) (b c k : Nat), h[r]? = some o → o.live = true → β[r]? = some (b, c, k) → b < w.heap.size
 inj : ∀ (r r' : Nat) (o o' : AObj) (b c k c' k' : Nat), h[r]? = some o → o.live = true → h[r']? = some o' → o'.live = true → β[r]? = some (b, c, k) → β[r']? = some (b, c', k') → r = r'
 own : ∀ (r : Nat) (o : AObj) (b c k i : Nat), h[r]? = some o → o.live = true → β[r]? = some (b, c, k) → S b i → i < o.room
 sb : ∀ b i, S b i → b < w.heap.size
 gl : Glob S w
 dl : ∀ r b c k : Nat, β[r]? = some (b, c, k + 1) → b < w.heap.size
variable {h : List AObj} {r : Nat}
theorem HInv.kpos (hi : HInv S β w h) (g1 : h[r]? = some o) (l1 : o.live = true) (g2 : β[r]? = some (b, c, k)) : ∃ k', k = k' + 1 := by
 have hob := hi.obj r o b c k g1 g2
 cases o <;> first | (cases l1; done) | exact ⟨0, hob.1⟩ | exact ⟨k - 1, by have := hob.2.1; omega⟩
structure Ext (DR : Prop) (S : Nat → Nat → Prop) (β : Blocks) (w : World) (S' : Nat → Nat → Prop) (β' : Blocks) (w' : World) : Prop where
 keeps : Keeps S w S' w'
 pre : ∀ (r : Nat) x, β[r]? = some x → β'[r]? = some x
 size : w.heap.size ≤ w'.heap.size
 rest : ∀ b, b < w.heap.size → (∀ r c k : Nat, β[r]? ≠ some (b, c, k + 1)) → w'.heap[b]? = w.heap[b]?
 fresh : ∀ r b c k : Nat, β'[r]? = some (b, c, k + 1) → w.heap.size ≤ b ∨ ∃ r' c' k' : Nat, β[r']? = some (b, c', k' + 1)
 os : w'.os = w.os
 tape : w'.tape = w.tape
 output : w'.output = w.output
 drawn : DR → w.drawn ≤ w'.drawn
 stay : ∀ b i, S' b i → S b i ∨ w.heap.size ≤ b ∨ ∃ r c k : Nat, β[r]? = some (b, c, k + 1)
theorem Ext.refl (S : Nat → Nat → Prop) (β : Blocks) (w : World) : Ext DR S β w S β w :=
 ⟨fun _ _ h => ⟨h, rfl⟩, fun _ _ h => h, zL _, fun _ _ _ => rfl, fun r b c k h => .inr ⟨r, c, k, h⟩, rfl, rfl, rfl, fun _ => by simp, fun _ _ h => .inl h⟩
theorem Ext.trans {S'' : Nat → Nat → Prop} {β'' : Blocks} {w'' : World} (h : Ext DR S β w S' β' w') (g : Ext DR S' β' w' S'' β'' w'') : Ext DR S β w S'' β'' w'' where
 keeps b i hs := ⟨(g.keeps b i (h.keeps b i hs).1).1, (g.keeps b i (h.keeps b i hs).1).2.trans (h.keeps b i hs).2⟩
 pre r x hr := g.pre r x (h.pre r x hr)
 size := Nat.le_trans h.size g.size
 rest b hb hn := (g.rest b (Nat.lt_of_lt_of_le hb h.size) (fun r c k hr => by
  rcases h.fresh r b c k hr with h1 | ⟨r', c', k', h1⟩
  ·omega
  ·exact hn r' c' k' h1)).trans (h.rest b hb hn)
 fresh r b c k hr := by
  rcases g.fresh r b c k hr with h1 | ⟨r', c', k', h1⟩
  ·exact .inl (Nat.le_trans h.size h1)
  ·exact h.fresh r' b c' k' h1
 os := g.os.trans h.os
 tape := g.tape.trans h.tape
 output := g.output.trans h.output
 drawn hd := Nat.le_trans (h.drawn hd) (g.drawn hd)
 stay b i hs := by
  rcases g.stay b i hs with h1 | h1 | ⟨r, c, k, h1⟩
  ·exact h.stay b i h1
  ·exact .inr (.inl (Nat.le_trans h.size h1))
  ·rcases h.fresh r b c k h1 with h2 | h2
   ·exact .inr (.inl h2)
   ·exact .inr (.inr h2)
theorem Ext.drew (S : Nat → Nat → Prop) (β : Blocks) (w : World) : Ext DR S β w S β w.drew :=
 ⟨fun _ _ h => ⟨h, rfl⟩, fun _ _ h => h, zL _, fun _ _ _ => rfl, fun r b c k h => .inr ⟨r, c, k, h⟩, rfl, rfl, rfl, fun _ => by simp, fun _ _ h => .inl h⟩
theorem HInv.drew (hi : HInv S β w h) : HInv S β w.drew h :=
 ⟨hi.len, fun r o b c k ho hb => (hi.obj r o b c k ho hb).mono (w := w) (w' := w.drew) (fun _ _ h => ⟨h, rfl⟩) (fun _ _ h => h) (fun _ => rfl), hi.lt, hi.inj, hi.own, hi.sb, hi.gl.mono (fun _ _ h => ⟨h, rfl⟩), hi.dl⟩
theorem cell_alloc_old (w : World) (o : Obj) (b i : Nat) (hb : b < w.heap.size) : look (w.alloc o) b i = look w b i :=
 look_of_block (heap_alloc_old w o b hb)
theorem keeps_alloc (hi : HInv S β w h) (o : Obj) (S' : Nat → Nat → Prop) (hs : ∀ b i, S b i → S' b i) : Keeps S w S' (w.alloc o) :=
 fun b i hb => ⟨hs b i hb, cell_alloc_old w o b i (hi.sb b i hb)⟩
variable {α : Type}
theorem yF (l : List α) (x : α) (r : Nat) (y : α) : (l ++ [x])[r]? = some y ↔ (l[r]? = some y ∧ r < l.length) ∨ (r = l.length ∧ x = y) := by
 rw [List.getElem?_append]
 split
 ·rename_i h
  constructor
  ·exact fun hh => .inl ⟨hh, h⟩
  ·rintro (⟨h1, _⟩ | ⟨h1, _⟩)
   ·exact h1
   ·omega
 ·rename_i h
  constructor
  ·intro hh
   have : r - l.length = 0 := by
    rcases Nat.eq_zero_or_pos (r - l.length) with h0 | h0
    ·exact h0
    ·rw [zS (by simp; omega)] at hh; cases hh
   rw [this] at hh
   exact .inr ⟨om, by simpa using hh⟩
  ·rintro (⟨_, h1⟩ | ⟨h1, h2⟩)
   ·omega
   ·subst h1; simp [h2]
theorem yE {l : List α} {x : α} (h : l[r]? = some x) : r < l.length := by
 rcases Nat.lt_or_ge r l.length with h' | h'
 ·exact h'
 ·rw [zS h'] at h; cases h
theorem own_allocO (hi : HInv S β w h) (ob : Obj) (c k : Nat) (o : AObj)
  (ho : o.live = true) (hr : ObjRel S (β ++ [(w.heap.size, c, k)]) (w.alloc ob) w.heap.size c k o) :
  Ext DR S β w S (β ++ [(w.heap.size, c, k)]) (w.alloc ob) ∧ HInv S (β ++ [(w.heap.size, c, k)]) (w.alloc ob) (h ++ [o]) := by
 have hk := keeps_alloc hi ob S (fun _ _ h => h)
 have hp : ∀ (r : Nat) x, β[r]? = some x → (β ++ [(w.heap.size, c, k)])[r]? = some x := fun r x hx => (yF _ _ _ _).2 (.inl ⟨hx, yE hx⟩)
 constructor
 ·refine ⟨hk, hp, by simp, fun b hb _ => heap_alloc_old w _ b hb, fun r b c' k' hr => ?_, rfl, rfl, rfl, fun _ => zL _, fun _ _ h => .inl h⟩
  rcases (yF _ _ _ _).1 hr with ⟨h1, _⟩ | ⟨_, h1⟩
  ·exact .inr ⟨r, c', k', h1⟩
  ·cases h1; exact .inl (zL _)
 ·refine ⟨by simp [hi.len], fun r o' b c' k' h1 h2 => ?_, fun r o' b c' k' h1 l1 h2 => ?_, fun r r' o1 o2 b c1 k1 c2 k2 h1 l1 h2 l2 h3 h4 => ?_, fun r o' b c' k' i h1 l1 h2 hs => ?_, fun b i hs => ?_, hi.gl.mono hk, fun r b c' k' hr => ?_⟩
  ·rcases (yF _ _ _ _).1 h1 with ⟨h1, l1⟩ | ⟨e1, h1⟩
   ·rcases (yF _ _ _ _).1 h2 with ⟨h2, l2⟩ | ⟨e2, h2⟩
    ·exact (hi.obj r o' b c' k' h1 h2).mono hk hp (fun hl => heap_alloc_old w _ b (hi.lt r o' b c' k' h1 hl h2))
    ·have := hi.len; omega
   ·rcases (yF _ _ _ _).1 h2 with ⟨h2, l2⟩ | ⟨e2, h2⟩
    ·have := hi.len; omega
    ·cases h2; subst h1; exact hr
  ·rcases (yF _ _ _ _).1 h2 with ⟨h2, l2⟩ | ⟨e2, h2⟩
   ·rcases (yF _ _ _ _).1 h1 with ⟨h1, l3⟩ | ⟨e1, h1⟩
    ·have := hi.lt r o' b c' k' h1 l1 h2; simp; omega
    ·have := hi.len; omega
   ·cases h2; simp
  ·rcases (yF _ _ _ _).1 h1 with ⟨h1, g1⟩ | ⟨e1, h1⟩ <;> rcases (yF _ _ _ _).1 h2 with ⟨h2, g2⟩ | ⟨e2, h2⟩ <;>
    rcases (yF _ _ _ _).1 h3 with ⟨h3, g3⟩ | ⟨e3, h3⟩ <;> rcases (yF _ _ _ _).1 h4 with ⟨h4, g4⟩ | ⟨e4, h4⟩
   ·exact hi.inj r r' o1 o2 b c1 k1 c2 k2 h1 l1 h2 l2 h3 h4
   all_goals first
    | (have := hi.len; omega)
    | (cases h4; have := hi.lt r o1 _ c1 k1 h1 l1 h3; omega)
    | (cases h3; have := hi.lt r' o2 _ c2 k2 h2 l2 h4; omega)
  ·rcases (yF _ _ _ _).1 h1 with ⟨h1, g1⟩ | ⟨e1, h1⟩ <;> rcases (yF _ _ _ _).1 h2 with ⟨h2, g2⟩ | ⟨e2, h2⟩
   ·exact hi.own r o' b c' k' i h1 l1 h2 hs
   ·have := hi.len; omega
   ·have := hi.len; omega
   ·cases h2; have := hi.sb _ _ hs; omega
  ·have := hi.sb b i hs; simp; omega
  ·rcases (yF _ _ _ _).1 hr with ⟨h1, _⟩ | ⟨_, h1⟩
   ·have := hi.dl _ _ _ _ h1; simp; omega
   ·cases h1; simp
theorem own_alloc (hi : HInv S β w h) (cur : Array Value) (e : TypeId) (c k : Nat) (o : AObj)
  (ho : o.live = true) (hr : ObjRel S (β ++ [(w.heap.size, c, k)]) (w.alloc (.cells cur e)) w.heap.size c k o) :
  Ext DR S β w S (β ++ [(w.heap.size, c, k)]) (w.alloc (.cells cur e)) ∧ HInv S (β ++ [(w.heap.size, c, k)]) (w.alloc (.cells cur e)) (h ++ [o]) := own_allocO (DR := DR) hi _ c k o ho hr
theorem pure_alloc (hi : HInv S β w h) (o : Obj) :
  Ext DR S β w (fun b i => S b i ∨ b = w.heap.size) β (w.alloc o) ∧ HInv (fun b i => S b i ∨ b = w.heap.size) β (w.alloc o) h := by
 have hk := keeps_alloc hi o (fun b i => S b i ∨ b = w.heap.size) (fun _ _ h => .inl h)
 constructor
 ·refine ⟨hk, fun _ _ h => h, by simp, fun b hb _ => heap_alloc_old w _ b hb, fun r b c k hr => .inr ⟨r, c, k, hr⟩, rfl, rfl, rfl, fun _ => zL _, fun b i hs => ?_⟩
  rcases hs with hs | hs
  ·exact .inl hs
  ·exact .inr (.inl om)
 ·refine ⟨hi.len, fun r o' b c k h1 h2 => (hi.obj r o' b c k h1 h2).mono hk (fun _ _ h => h) (fun hl => heap_alloc_old w _ b (hi.lt r o' b c k h1 hl h2)), fun r o' b c k h1 l1 h2 => ?_, hi.inj, fun r o' b c k i h1 l1 h2 hs => ?_, fun b i hs => ?_, hi.gl.mono hk, fun r b c k hr => by have := hi.dl _ _ _ _ hr; simp; omega⟩
  ·have := hi.lt r o' b c k h1 l1 h2; simp; omega
  ·rcases hs with hs | hs
   ·exact hi.own r o' b c k i h1 l1 h2 hs
   ·have := hi.lt r o' b c k h1 l1 h2; omega
  ·rcases hs with hs | hs
   ·have := hi.sb b i hs; simp; omega
   ·simp; omega
theorem own_write (hi : HInv S β w h) {o' : AObj} (hr : h[r]? = some o) (hm : o.mut = true) (hb : β[r]? = some (b, c, k))
  (hs : w'.heap.size = w.heap.size) (hw : ∀ j, j ≠ b → w'.heap[j]? = w.heap[j]?) (h1 : w'.os = w.os) (h2 : w'.tape = w.tape) (h3 : w'.output = w.output) (h4 : w.drawn ≤ w'.drawn)
  (ho : o'.mut = true) (hn : Keeps S w S w' → ObjRel S β w' b c k o') : Ext DR S β w S β w' ∧ HInv S β w' (h.set r o') := by
 have hl := AObj.mut_live hm
 have hk1 : ∃ k', k = k' + 1 := by
  have hob := hi.obj r o b c k hr hb
  cases o <;> first | (cases hm; done) | exact ⟨0, hob.1⟩ | exact ⟨k - 1, by have := hob.2.1; have := hob.1; omega⟩
 obtain ⟨k1, hk1⟩ := hk1
 have hk : Keeps S w S w' := fun b' i hb' => ⟨hb', look_of_block (hw b' (fun e => by
  have := hi.own r o b c k i hr hl hb (e ▸ hb')
  rw [AObj.mut_room hm] at this
  omega))⟩
 have hlt := yE hr
 constructor
 ·exact ⟨hk, fun _ _ h => h, om, fun j _ hj => hw j (fun e => hj r c k1 (by rw [← hk1]; exact e ▸ hb)), fun r b c k h => .inr ⟨r, c, k, h⟩, h1, h2, h3, fun _ => h4, fun _ _ h => .inl h⟩
 ·have live : ∀ (q : Nat) (y : AObj), (h.set r o')[q]? = some y → y.live = true → ∃ z, h[q]? = some z ∧ z.live = true := by
   intro q y gq ly
   rw [zR] at gq
   split at gq
   ·rename_i e; subst e; exact ⟨o, hr, hl⟩
   ·exact ⟨y, gq, ly⟩
  refine ⟨by simp [hi.len], fun r' x b' c' k' g1 g2 => ?_, fun r' x b' c' k' gx lx g => by obtain ⟨z, q1, y1⟩ := live r' x gx lx; have := hi.lt r' z b' c' k' q1 y1 g; omega, fun r1 r2 o1 o2 b' c1 k1 c2 k2 g1 l1 g2 l2 g3 g4 => ?_, fun r' x b' c' k' i g1 l1 g2 gs => ?_, fun b' i g => by have := hi.sb b' i g; omega, hi.gl.mono hk, fun r b' c k g => by have := hi.dl _ _ _ _ g; omega⟩
  ·rw [zR] at g1
   split at g1
   ·rename_i e
    subst e
    cases g1
    rw [hb] at g2
    cases g2
    exact hn hk
   ·rename_i hne
    refine (hi.obj r' x b' c' k' g1 g2).mono hk (fun _ _ h => h) (fun hlive => hw b' (fun e => hne ?_))
    subst e
    exact hi.inj r r' o x b' c k c' k' hr hl g1 hlive hb g2
  ·obtain ⟨z1, q1, y1⟩ := live r1 o1 g1 l1
   obtain ⟨z2, q2, y2⟩ := live r2 o2 g2 l2
   exact hi.inj r1 r2 z1 z2 b' c1 k1 c2 k2 q1 y1 q2 y2 g3 g4
  ·rw [zR] at g1
   split at g1
   ·rename_i e
    subst e
    have := hi.own r o b' c' k' i hr hl g2 gs
    rw [AObj.mut_room hm] at this
    omega
   ·exact hi.own r' x b' c' k' i g1 l1 g2 gs
def plus (S : Nat → Nat → Prop) (b0 n : Nat) : Nat → Nat → Prop := fun b i => S b i ∨ (b = b0 ∧ i < n)
theorem tok_alloc (hi : HInv S β w h) (cur : Array Value) (e : TypeId) (c k n : Nat) (hk0 : 0 < k) (hc : c ≤ maxLen) (hn : n ≤ c) (hs : cur.size = c * k) :
  Ext DR S β w (plus S w.heap.size (n * k)) (β ++ [(w.heap.size, c, k)]) (w.alloc (.cells cur e)) ∧ HInv (plus S w.heap.size (n * k)) (β ++ [(w.heap.size, c, k)]) (w.alloc (.cells cur e)) (h ++ [.tok k n]) := by
 have hk := keeps_alloc hi (.cells cur e) (plus S w.heap.size (n * k)) (fun _ _ h => .inl h)
 have hp : ∀ (r : Nat) x, β[r]? = some x → (β ++ [(w.heap.size, c, k)])[r]? = some x := fun r x hx => (yF _ _ _ _).2 (.inl ⟨hx, yE hx⟩)
 obtain ⟨e1, e2⟩ := own_alloc (DR := DR) hi cur e c k (.tok k n) rfl ⟨rfl, hk0, hc, hn, cur, e, heap_alloc_new w _, hs⟩
 constructor
 ·refine ⟨hk, e1.pre, e1.size, e1.rest, e1.fresh, rfl, rfl, rfl, fun _ => zL _, fun b i hs => ?_⟩
  rcases hs with hs | ⟨hs, _⟩
  ·exact .inl hs
  ·exact .inr (.inl om)
 ·have hk2 : Keeps S (w.alloc (.cells cur e)) (plus S w.heap.size (n * k)) (w.alloc (.cells cur e)) := fun _ _ h => ⟨.inl h, rfl⟩
  refine ⟨e2.len, fun r o b c' k' g1 g2 => (e2.obj r o b c' k' g1 g2).mono hk2 (fun _ _ h => h) (fun _ => rfl), e2.lt, e2.inj, fun r o b c' k' i g1 l1 g2 gs => ?_, fun b i gs => ?_, e2.gl.mono hk2, e2.dl⟩
  ·rcases gs with gs | ⟨rfl, gs⟩
   ·exact e2.own r o b c' k' i g1 l1 g2 gs
   ·have hlen := hi.len
    rcases (yF _ _ _ _).1 g1 with ⟨g1, j1⟩ | ⟨j1, g1⟩
    ·rcases (yF _ _ _ _).1 g2 with ⟨g2, j2⟩ | ⟨j2, g2⟩
     ·have := hi.lt r o _ c' k' g1 l1 g2; omega
     ·omega
    ·subst g1; exact gs
  ·rcases gs with gs | ⟨rfl, gs⟩
   ·exact e2.sb b i gs
   ·simp
theorem tok_write (hi : HInv S β w h) {n' : Nat} (hr : h[r]? = some (.tok k n)) (hb : β[r]? = some (b, c, k)) {cur cur' : Array Value} {e : TypeId}
  (hg : w.heap[b]? = some (.cells cur e (0, 0))) (hg' : w'.heap[b]? = some (.cells cur' e (0, 0))) (hsz : cur'.size = c * k) (hsame : ∀ i, i < n * k → cur'[i]? = cur[i]?) (hn : n ≤ n') (hn' : n' ≤ c)
  (hs : w'.heap.size = w.heap.size) (hw : ∀ j, j ≠ b → w'.heap[j]? = w.heap[j]?) (h1 : w'.os = w.os) (h2 : w'.tape = w.tape) (h3 : w'.output = w.output) (h4 : w.drawn ≤ w'.drawn) :
  Ext DR S β w (plus S b (n' * k)) β w' ∧ HInv (plus S b (n' * k)) β w' (h.set r (.tok k n')) := by
 obtain ⟨o1, o2, o3, o4, _⟩ := hi.obj r _ b c k hr hb
 have hk : Keeps S w (plus S b (n' * k)) w' := fun b' i hb' => ⟨.inl hb', by
  by_cases e1 : b' = b
  ·subst e1
   have := hi.own r _ b' c k i hr rfl hb hb'
   unfold look mapAt
   rw [cell_of_row w' b' i cur' e (0, 0) hg', cell_of_row w b' i cur e (0, 0) hg, hg, hg', hsame i this]
  ·exact look_of_block (hw b' e1)⟩
 have hlt := yE hr
 have hblt := hi.lt r _ b c k hr rfl hb
 constructor
 ·refine ⟨hk, fun _ _ h => h, om, fun j _ hj => hw j (fun e => hj r c (k - 1) (by rw [show k - 1 + 1 = k by omega]; exact e ▸ hb)), fun r b c k h => .inr ⟨r, c, k, h⟩, h1, h2, h3, fun _ => h4, fun b' i hs => ?_⟩
  rcases hs with hs | ⟨rfl, _⟩
  ·exact .inl hs
  ·exact .inr (.inr ⟨r, c, k - 1, by rw [show k - 1 + 1 = k by omega]; exact hb⟩)
 ·have live : ∀ (q : Nat) (y : AObj), (h.set r (.tok k n'))[q]? = some y → y.live = true → ∃ z, h[q]? = some z ∧ z.live = true ∧ (q ≠ r → z = y) := by
   intro q y gq ly
   rw [zR] at gq
   split at gq
   ·rename_i e; subst e; exact ⟨_, hr, rfl, fun h => absurd rfl h⟩
   ·exact ⟨y, gq, ly, fun _ => rfl⟩
  refine ⟨by simp [hi.len], fun r' x b' c' k' g1 g2 => ?_, fun r' x b' c' k' gx lx g => by obtain ⟨z, q1, y1, _⟩ := live r' x gx lx; have := hi.lt r' z b' c' k' q1 y1 g; omega, fun r1 r2 o1 o2 b' c1 k1 c2 k2 g1 l1 g2 l2 g3 g4 => ?_, fun r' x b' c' k' i g1 l1 g2 gs => ?_, fun b' i g => ?_, hi.gl.mono hk, fun r b' c k g => by have := hi.dl _ _ _ _ g; omega⟩
  ·rw [zR] at g1
   split at g1
   ·rename_i e'
    subst e'
    cases g1
    rw [hb] at g2
    cases g2
    exact ⟨rfl, o2, o3, hn', cur', e, hg', hsz⟩
   ·rename_i hne
    refine (hi.obj r' x b' c' k' g1 g2).mono hk (fun _ _ h => h) (fun hlive => hw b' (fun e => hne ?_))
    subst e
    exact hi.inj r r' _ x b' c k c' k' hr rfl g1 hlive hb g2
  ·obtain ⟨z1, q1, y1, _⟩ := live r1 o1 g1 l1
   obtain ⟨z2, q2, y2, _⟩ := live r2 o2 g2 l2
   exact hi.inj r1 r2 z1 z2 b' c1 k1 c2 k2 q1 y1 q2 y2 g3 g4
  ·by_cases hne : r' = r
   ·subst hne
    rw [zR, if_pos rfl, if_pos hlt] at g1
    cases g1
    rw [hb] at g2
    cases g2
    show i < n' * k
    rcases gs with gs | ⟨_, gs⟩
    ·have := hi.own r' _ b c k i hr rfl hb gs
     have h5 : n * k ≤ n' * k := yD _ hn
     simp only [AObj.room] at this
     omega
    ·exact gs
   ·obtain ⟨z, q1, y1, hz⟩ := live r' x g1 l1
    have := hz hne
    subst this
    rcases gs with gs | ⟨rfl, gs⟩
    ·exact hi.own r' z b' c' k' i q1 y1 g2 gs
    ·exact absurd (hi.inj r' r z _ b' c' k' c k q1 y1 hr rfl g2 hb) hne
  ·rcases g with g | ⟨rfl, _⟩
   ·have := hi.sb b' i g; omega
   ·omega
theorem HInv.pad (hi : HInv S β w h) : Ext DR S β w S (β ++ [(w.heap.size, 0, 0)]) w ∧ HInv S (β ++ [(w.heap.size, 0, 0)]) w (h ++ [.dead]) := by
 have hp : ∀ (q : Nat) x, β[q]? = some x → (β ++ [(w.heap.size, 0, 0)])[q]? = some x := fun q x hx => (yF _ _ _ _).2 (.inl ⟨hx, yE hx⟩)
 have hK : Keeps S w S w := fun _ _ h => ⟨h, rfl⟩
 have hlen := hi.len
 have old : ∀ (q : Nat) (o : AObj) x, (h ++ [.dead])[q]? = some o → o.live = true → (β ++ [(w.heap.size, 0, 0)])[q]? = some x → h[q]? = some o ∧ β[q]? = some x := by
  intro q o x g1 l1 g2
  rcases (yF _ _ _ _).1 g1 with ⟨g1, j1⟩ | ⟨j1, g1⟩
  ·rcases (yF _ _ _ _).1 g2 with ⟨g2, j2⟩ | ⟨j2, g2⟩
   ·exact ⟨g1, g2⟩
   ·omega
  ·subst g1; cases l1
 constructor
 ·refine ⟨hK, hp, zL _, fun _ _ _ => rfl, fun q b c k hq => ?_, rfl, rfl, rfl, fun _ => zL _, fun _ _ h => .inl h⟩
  rcases (yF _ _ _ _).1 hq with ⟨h1, _⟩ | ⟨_, h1⟩
  ·exact .inr ⟨q, c, k, h1⟩
  ·cases h1
 ·refine ⟨by simp [hlen], fun q o b c k g1 g2 => ?_, fun q o b c k g1 l1 g2 => ?_, fun q1 q2 o1 o2 b c1 k1 c2 k2 g1 l1 g2 l2 g3 g4 => ?_, fun q o b c k i g1 l1 g2 => ?_, hi.sb, hi.gl, fun q b c k hq => ?_⟩
  ·cases hl : o.live with
   | false => cases o <;> first | trivial | cases hl
   | true =>
    obtain ⟨a1, a2⟩ := old q o _ g1 hl g2
    exact (hi.obj q o b c k a1 a2).mono hK hp (fun _ => rfl)
  ·obtain ⟨a1, a2⟩ := old q o _ g1 l1 g2
   exact hi.lt q o b c k a1 l1 a2
  ·obtain ⟨a1, a2⟩ := old q1 o1 _ g1 l1 g3
   obtain ⟨a3, a4⟩ := old q2 o2 _ g2 l2 g4
   exact hi.inj q1 q2 o1 o2 b c1 k1 c2 k2 a1 l1 a3 l2 a2 a4
  ·obtain ⟨a1, a2⟩ := old q o _ g1 l1 g2
   exact hi.own q o b c k i a1 l1 a2
  ·rcases (yF _ _ _ _).1 hq with ⟨h1, _⟩ | ⟨_, h1⟩
   ·exact hi.dl _ _ _ _ h1
   ·cases h1
variable {P : Program} {i : TI} {t : Nat}
theorem tiOf_spec (h : tiOf P t = some i) : ∃ (info : TypeInfo) (desc : TypeDesc) (z : Value), P.info? t = some info ∧ P.underlying t = some desc ∧ info.zero = some z ∧
  ofValue z = some i.zero ∧ tkOf desc = i.kind ∧ i.kind.isOther = false ∧ info.size = i.size ∧ info.bytes = i.bytes ∧ (i.eqOk = true → P.eqGuardType P.depth t = false ∧ P.stoodInHeld t = false) := by
 unfold tiOf at h
 split at h
 ·rename_i info desc h1 h2
  split at h
  ·rename_i z hz
   split at h
   ·rename_i x hx
    split at h
    ·cases h
    ·rename_i ho
     cases h
     exact ⟨info, desc, z, h1, h2, hz, hx, rfl, by simpa using ho, rfl, rfl, by simp⟩
   ·cases h
  ·cases h
 ·cases h
variable {d : TypeDesc} {e : Nat}
theorem tkOf_slice (h : tkOf d = .slice e) : d = .slice e := by
 cases d <;> simp only [tkOf] at h <;> first | (cases h; rfl) | cases h | (split at h <;> cases h)
variable {n : Nat}
theorem tkOf_array (h : tkOf d = .array n e) : d = .array n e := by
 cases d <;> simp only [tkOf] at h <;> first | (cases h; rfl) | cases h | (split at h <;> cases h)
theorem tkOf_int {k : IntKind} (h : tkOf d = .int k) : d = .int k := by
 cases d <;> simp only [tkOf] at h <;> first | (cases h; rfl) | cases h | (split at h <;> cases h)
theorem tkOf_bool (h : tkOf d = .bool) : d = .bool := by
 cases d <;> simp only [tkOf] at h <;> first | rfl | cases h | (split at h <;> cases h)
theorem tkOf_str (h : tkOf d = .str) : d = .string := by
 cases d <;> simp only [tkOf] at h <;> first | rfl | cases h | (split at h <;> cases h)
theorem tkOf_ptr (h : tkOf d = .ptr e) : d = .pointer e := by
 cases d <;> simp only [tkOf] at h <;> first | (cases h; rfl) | cases h | (split at h <;> cases h)
theorem tkOf_func (h : tkOf d = .func) : ∃ a b c, d = .func a b c := by
 cases d <;> simp only [tkOf] at h <;> first | exact ⟨_, _, _, rfl⟩ | cases h | (split at h <;> cases h)
theorem tkOf_map {k : Nat} (h : tkOf d = .map k e) : d = .map k e := by
 cases d <;> simp only [tkOf] at h <;> first | (cases h; rfl) | cases h | (split at h <;> cases h)
theorem tkOf_struct {fs : List (Nat × Nat)} (h : tkOf d = .struct fs) : ∃ fields : Array Field, d = .struct fields ∧ fs = fields.toList.map (fun f => (f.offset, f.type)) ∧ ∀ f ∈ fields.toList, f.name ≠ "_" := by
 cases d <;> simp only [tkOf] at h <;> try cases h
 split at h
 ·rename_i fields ha
  cases h
  exact ⟨fields, rfl, rfl, fun f hf => by have := zZ.1 ha f hf; simpa using this⟩
 ·cases h
theorem run_typeInfo {i : TypeInfo} (h : P.info? t = some i) (w : World) : (typeInfo t).run P w = .ok i w := by
 simp [typeInfo, h]
theorem run_sizeOf {i : TypeInfo} (h : P.info? t = some i) (w : World) : (sizeOf t).run P w = .ok i.size w := by
 simp [sizeOf, typeInfo, h]
theorem run_isAgg (h : P.underlying t = some d) (ho : (tkOf d).isOther = false) (w : World) : (isAgg t).run P w = .ok (tkOf d).isAgg w := by
 unfold isAgg
 simp only [Sem.run_bind, run_underlying h, Result.andThen_ok]
 cases d with
 | struct fs =>
  by_cases hh : (fs.toList.all fun f => f.name != "_") = true
  ·simp only [tkOf, hh, if_true]; rfl
  ·simp only [tkOf, hh, if_false, Bool.false_eq_true] at ho; cases ho
 | _ => first | rfl | (simp [tkOf, TK.isOther] at ho)
variable {S : Nat → Nat → Prop} {v : Value} {w : World} {x : V}
theorem RelV.oneCell (h : RelV S w v x) (hs : x.scalar = true) : v.oneCell' = true := by
 cases h <;> first | rfl | (simp [V.scalar] at hs)
variable {β : Blocks}
theorem RelD.oneCell {d : D} (h : RelD S β w v d) (hs : d.scalar = true) : v.oneCell' = true := by
 cases h <;> first | rfl | (simp [D.scalar] at hs; done) | skip
 rename_i x h
 exact h.oneCell hs
theorem oneCell_cells (h : v.oneCell' = true) : v.cells = #[v] := by
 cases v <;> first | rfl | (simp [Value.oneCell'] at h)
theorem RelV.cells (h : RelV S w v x) (hs : x.solid = true) :
  v.cells.size = x.cells.length ∧ ∀ (j : Nat) (u : Value) (y : V), v.cells[j]? = some u → x.cells[j]? = some y → RelV S w u y := by
 by_cases hx : x.scalar = true
 ·have hv := oneCell_cells (h.oneCell hx)
  have hc : x.cells = [x] := by cases x <;> first | rfl | (simp [V.scalar] at hx)
  rw [hv, hc]
  refine ⟨rfl, fun j u y hu hy => ?_⟩
  cases j with
  | zero => simp at hu hy; subst hu; subst hy; exact h
  | succ j => simp at hu
 ·cases h <;> simp [V.scalar] at hx
  ·rename_i vs cs hl hr
   exact ⟨hl, hr⟩
  ·simp [V.solid] at hs
theorem RelV.cells_one (h : RelV S w v x) (hs : x.solid = true) : ∀ u ∈ v.cells.toList, u.oneCell' = true := by
 intro u hu
 obtain ⟨j, hj⟩ := List.getElem?_of_mem hu
 obtain ⟨hl, hr⟩ := h.cells hs
 have hj' : v.cells[j]? = some u := by simpa using hj
 have hlt : j < v.cells.size := (Array.getElem?_eq_some_iff.1 hj').1
 have hy : ∃ y, x.cells[j]? = some y := ⟨_, zA om⟩
 obtain ⟨y, hy⟩ := hy
 refine (hr j u y hj' hy).oneCell ?_
 have hm := zE hy
 cases x <;> simp [V.cells] at hm <;> first | (subst hm; rfl) | skip
 ·simp [V.solid] at hs; exact hs y hm
 ·simp [V.solid] at hs
theorem RelD.cells {x : D} (h : RelD S β w v x) (hs : x.solid = true) :
  v.cells.size = x.cells.length ∧ ∀ (j : Nat) (u : Value) (y : D), v.cells[j]? = some u → x.cells[j]? = some y → RelD S β w u y := by
 cases h with
 | v v x h =>
  obtain ⟨h1, h2⟩ := h.cells hs
  refine ⟨by simp [D.cells, h1], fun j u y hu hy => ?_⟩
  simp only [D.cells, zG] at hy
  cases hc : x.cells[j]? with
  | none => simp [hc] at hy
  | some z => simp [hc] at hy; subst hy; exact .v _ _ (h2 j u z hu hc)
 | agg vs cs hl hr => exact ⟨hl, hr⟩
 | undef v => simp [D.solid] at hs
 | tuple vs cs hl hr => simp [D.solid] at hs
 | ptr r off b c k h =>
  refine ⟨rfl, fun j u y hu hy => ?_⟩
  cases j with
  | zero => simp [D.cells, Value.cells] at hu hy; subst hu; subst hy; exact .ptr r off b c k h
  | succ j => simp [Value.cells] at hu
 | eptr r i off b c k p h hp =>
  refine ⟨rfl, fun j u y hu hy => ?_⟩
  cases j with
  | zero => simp [D.cells, Value.cells] at hu hy; subst hu; subst hy; exact .eptr r i off b c k p h hp
  | succ j => simp [Value.cells] at hu
 | vptr b off cells vals hs' hr =>
  refine ⟨rfl, fun j u y hu hy => ?_⟩
  cases j with
  | zero => simp [D.cells, Value.cells] at hu hy; subst hu; subst hy; exact .vptr b off cells vals hs' hr
  | succ j => simp [Value.cells] at hu
 | map r b c k h =>
  refine ⟨rfl, fun j u y hu hy => ?_⟩
  cases j with
  | zero => simp [D.cells, Value.cells] at hu hy; subst hu; subst hy; exact .map r b c k h
  | succ j => simp [Value.cells] at hu
 | osl r off len b c k p cap full h hb hp hcap =>
  refine ⟨rfl, fun j u y hu hy => ?_⟩
  cases j with
  | zero => simp [D.cells, Value.cells] at hu hy; rw [← hu, ← hy]; exact .osl r off len b c k p cap full h hb hp hcap
  | succ j => simp [Value.cells] at hu
 | tsl t b c k n es h hn hs' hv =>
  refine ⟨rfl, fun j u y hu hy => ?_⟩
  cases j with
  | zero => simp [D.cells, Value.cells] at hu hy; rw [← hu, ← hy]; exact .tsl t b c k n es h hn hs' hv
  | succ j => simp [Value.cells] at hu
 | func f a c fs cs hl hl' hr hr' =>
  refine ⟨rfl, fun j u y hu hy => ?_⟩
  cases j with
  | zero => simp [D.cells, Value.cells] at hu hy; subst hu; subst hy; exact .func f a c fs cs hl hl' hr hr'
  | succ j => simp [Value.cells] at hu
 | box t u d hr =>
  refine ⟨rfl, fun j u' y hu hy => ?_⟩
  cases j with
  | zero => simp [D.cells, Value.cells] at hu hy; subst hu; subst hy; exact .box t u d hr
  | succ j => simp [Value.cells] at hu
theorem RelD.cells_one {x : D} (h : RelD S β w v x) (hs : x.solid = true) : ∀ u ∈ v.cells.toList, u.oneCell' = true := by
 intro u hu
 obtain ⟨j, hj⟩ := List.getElem?_of_mem hu
 obtain ⟨hl, hr⟩ := h.cells hs
 have hj' : v.cells[j]? = some u := by simpa using hj
 have hlt : j < v.cells.size := (Array.getElem?_eq_some_iff.1 hj').1
 obtain ⟨y, hy⟩ : ∃ y, x.cells[j]? = some y := ⟨_, zA om⟩
 refine (hr j u y hj' hy).oneCell ?_
 have hm := zE hy
 cases x <;> simp [D.cells] at hm <;> first | (subst hm; first | rfl | (simp [D.solid] at hs; done)) | skip
 ·rename_i x
  obtain ⟨z, hz, rfl⟩ := hm
  cases x <;> simp [V.cells] at hz <;> first | (subst hz; rfl) | skip
  ·simp [D.solid, V.solid] at hs; exact hs z hz
  ·simp [D.solid, V.solid] at hs
 ·simp [D.solid] at hs; exact hs y hm
theorem RelD.unt {d : D} (h : RelD S β w v d) : RelD S β w v d.unt := by
 cases d with
 | tsl t es => cases h with
  | tsl _ b c k n _ h hn hs hv => exact .v _ _ hv
 | _ => exact h
theorem RelD.unp {d : D} (h : RelD S β w v d) : RelD S β w v d.unp := by
 cases d with
 | tsl t es => cases h with
  | tsl _ b c k n _ h hn hs hv => exact .v _ _ hv
 | v x => cases x with
  | sl fl es =>
   have h2 : RelV S w v (.sl fl es) := by cases h with | v _ _ h => exact h
   refine .v _ _ ?_
   cases h2 with
   | slnil fl h => exact .slnil _ (by decide)
   | slemp fl a cap h hf hm => exact .slemp _ a cap (by decide) (fun h => by cases h) hm
   | sl fl b off cap k n es vals hn h hf hc hm hk hs hr => exact .sl _ b off cap k n es vals hn (by decide) (fun h => by cases h) hc hm hk hs hr
  | _ => exact h
 | _ => exact h
variable {p : D}
theorem RelD.into {u : Bool} {d : D} (h : RelD S β w v d) : RelD S β w v (D.into u p d) := by
 unfold D.into
 split
 ·exact h.unt
 ·split
  ·exact h.unp
  ·exact h
theorem pures_spec : ∀ {ds : List D} {vs : List V}, pures ds = some vs → ds = vs.map .v
 | [], vs, h => by simp [pures] at h; subst h; rfl
 | d :: r, vs, h => by
  simp only [pures] at h
  split at h
  ·rename_i x xs hx hxs
   cases h
   rw [pures_spec hxs]
   cases d <;> simp [D.pure?] at hx
   subst hx; rfl
  ·cases h
theorem pures_map (vs : List V) : pures (vs.map .v) = some vs := by
 induction vs with
 | nil => rfl
 | cons x r ih => simp [pures, D.pure?, ih]
theorem RelD.of_v (h : RelD S β w v (.v x)) : RelV S w v x := by
 cases h; assumption
variable {cs : List D} {vs : Array Value}
theorem rel_mkAgg (hl : vs.size = cs.length)
  (hr : ∀ (i : Nat) (v : Value) (x : D), vs[i]? = some v → cs[i]? = some x → RelD S β w v x) : RelD S β w (.agg vs) (mkAgg cs) := by
 unfold mkAgg
 split
 ·rename_i xs hx
  have := pures_spec hx
  subst this
  refine .v _ _ (.agg vs xs (by simpa using hl) (fun i v x hv hx' => (hr i v (.v x) hv (by simp [hx'])).of_v))
 ·exact .agg vs cs hl hr
theorem rel_mkTuple (hl : vs.size = cs.length)
  (hr : ∀ (i : Nat) (v : Value) (x : D), vs[i]? = some v → cs[i]? = some x → RelD S β w v x) : RelD S β w (.tuple vs) (mkTuple cs) := by
 unfold mkTuple
 split
 ·rename_i xs hx
  have := pures_spec hx
  subst this
  refine .v _ _ (.tuple vs xs (by simpa using hl) (fun i v x hv hx' => (hr i v (.v x) hv (by simp [hx'])).of_v))
 ·exact .tuple vs cs hl hr
theorem mkOf_map (agg : Bool) (l : List V) : mkOf agg (l.map .v) = (mkOfV agg l).map .v := by
 cases agg
 ·cases l with
  | nil => rfl
  | cons a r => cases r <;> rfl
 ·simp [mkOf, mkOfV, mkAgg, pures_map]
theorem ofScalar_rel (h : ofScalar v = some x) : RelV S w v x := by
 unfold ofScalar at h
 split at h <;> first | cases h | skip
 all_goals first | exact .bool _ | exact .int _ _ | exact .str _ | exact .nilptr | exact .slnil _ (by decide) | exact .nilmap | exact .nilfunc | exact .nilif
theorem ofScalars_spec : ∀ {l : List Value} {xs : List V}, ofScalars l = some xs → l.length = xs.length ∧ ∀ (i : Nat) (v : Value) (x : V), l[i]? = some v → xs[i]? = some x → ofScalar v = some x
 | [], xs, h => by simp [ofScalars] at h; subst h; simp
 | a :: r, xs, h => by
  simp only [ofScalars] at h
  split at h
  ·rename_i y ys hy hys
   cases h
   obtain ⟨h1, h2⟩ := ofScalars_spec hys
   refine ⟨by simp [h1], fun i v x hv hx => ?_⟩
   cases i with
   | zero => simp at hv hx; subst hv; subst hx; exact hy
   | succ i => simp at hv hx; exact h2 i v x hv hx
  ·cases h
theorem ofValue_rel (h : ofValue v = some x) : RelV S w v x := by
 unfold ofValue at h
 split at h
 ·rename_i cs
  split at h
  ·rename_i xs hx
   cases h
   obtain ⟨h1, h2⟩ := ofScalars_spec hx
   exact .agg cs xs (by simpa using h1) (fun i v x hv hx => ofScalar_rel (h2 i v x (by simpa using hv) hx))
  ·cases h
 ·exact ofScalar_rel h
theorem load_gen (ht : tiOf P t = some i) (a : Addr) (part : List D) (f : Nat → Value) (hl : part.length = i.size)
  (hf : ∀ j, j < part.length → w.cell? (a.add j) = some (f j)) (hr : ∀ (j : Nat) (x : D), part[j]? = some x → RelD S β w (f j) x) {d : D} (hd : mkOf i.kind.isAgg part = some d) :
  ∃ u, (loadVar t a).run P w = .ok u w ∧ RelD S β w u d := by
 obtain ⟨info, desc, z, h1, h2, h3, h4, h5, h6, h7, h8, _⟩ := tiOf_spec ht
 unfold loadVar
 rw [← h5] at h6 hd
 simp only [Sem.run_bind, run_isAgg h2 h6, Result.andThen_ok]
 cases hagg : (tkOf desc).isAgg with
 | true =>
  rw [hagg] at hd
  simp only [mkOf, if_true, Option.some.injEq] at hd
  subst hd
  have hrun := run_loadCells (P := P) w a i.size f (fun j hj => hf j om)
  simp only [if_true, Sem.run_bind, run_sizeOf h1, h7, Result.andThen_ok, hrun, Sem.run_pure]
  refine ⟨_, rfl, rel_mkAgg (by simp [hl]) (fun j v x hv hx => ?_)⟩
  have hj : j < part.length := yE hx
  simp at hv
  obtain ⟨q, hq, rfl⟩ := hv
  rw [List.getElem?_range om] at hq
  cases hq
  exact hr j x hx
 | false =>
  rw [hagg] at hd
  simp only [mkOf, Bool.false_eq_true, if_false] at hd
  split at hd
  ·cases hd
   rename_i x
   have h0 := hf 0 (by simp)
   simp only [Addr.add_zero'] at h0
   simp only [Bool.false_eq_true, if_false, run_load, h0]
   exact ⟨f 0, rfl, hr 0 _ (by simp)⟩
  ·cases hd
theorem cut_spec {α : Type} {l : List α} {off : Nat} {p : List α} (h : cut l off n = some p) : p.length = n ∧ off + n ≤ l.length ∧ ∀ j, j < n → p[j]? = l[off + j]? := by
 unfold cut at h
 split at h
 ·rename_i hle
  cases h
  refine ⟨by simp; omega, hle, fun j hj => ?_⟩
  rw [yA, if_pos hj, zY]
 ·cases h
theorem cell_own {b j : Nat} {cur : Array Value} {e : TypeId} (h : w.heap[b]? = some (.cells cur e (0, 0))) : w.cell? ⟨b, j, none⟩ = cur[j]? := cell_of_row w b j cur e (0, 0) h
theorem RelV.as_vptr {cs : List V} (h : RelV S w v (.ptr cs)) : RelD S β w v (.vptr cs) := by
 cases h with
 | ptr b off _ vals hs hr => exact .vptr b off _ vals hs hr
variable {h : List AObj}
theorem loadD_sound0 (hi : HInv S β w h) (ht : tiOf P t = some i) {d : D} (hnp : ∀ cs, p ≠ .v (.ptr cs)) (hd : loadD i h p = some d)
  (hv : RelD S β w v p) : ∃ u, (Instr.loadAt t v).run P w = .ok u w ∧ RelD S β w u d := by
 cases hv with
 | v _ x h => cases x <;> first | (simp [loadD] at hd; done) | exact absurd rfl (hnp _)
 | ptr r off b c k hb =>
  simp only [loadD] at hd
  split at hd
  ·rename_i cs hcs
   obtain ⟨part, hp, hm⟩ := Option.bind_eq_some_iff.1 hd
   obtain ⟨hl, hle, hget⟩ := cut_spec hp
   obtain ⟨_, _, hlen, cur, e, hheap, hsz, hrel⟩ := hi.obj r _ b c k hcs hb
   have hcell : ∀ j, j < part.length → w.cell? ((⟨b, off, none⟩ : Addr).add j) = some (cur.getD (off + j) undef) := by
    intro j hj
    rw [Addr.add_lit, cell_own hheap, zD om]
    simp [Array.getD, show off + j < cur.size by omega]
   have := load_gen (S := S) (β := β) (w := w) ht ⟨b, off, none⟩ part (fun j => cur.getD (off + j) undef) hl hcell (fun j x hx => ?_) hm
   ·obtain ⟨u, hu, hrel⟩ := this
    exact ⟨u, by simpa [Instr.loadAt, Instr.sureAddr] using hu, hrel⟩
   ·have hj := yE hx
    refine hrel (off + j) _ x ?_ (by rw [← hget j om]; exact hx)
    rw [zD om]
    simp [Array.getD, show off + j < cur.size by omega]
  ·rename_i k0 cs hcs
   obtain ⟨part, hp, hm⟩ := Option.bind_eq_some_iff.1 hd
   obtain ⟨hl, hle, hget⟩ := cut_spec hp
   obtain ⟨_, _, _, hlen, cur, e, hheap, hsz, hrel⟩ := hi.obj r _ b c k hcs hb
   have hcell : ∀ j, j < part.length → w.cell? ((⟨b, off, none⟩ : Addr).add j) = some (cur.getD (off + j) undef) := by
    intro j hj
    rw [Addr.add_lit, cell_own hheap, zD om]
    simp [Array.getD, show off + j < cur.size by omega]
   have := load_gen (S := S) (β := β) (w := w) ht ⟨b, off, none⟩ part (fun j => cur.getD (off + j) undef) hl hcell (fun j x hx => ?_) hm
   ·obtain ⟨u, hu, hrel⟩ := this
    exact ⟨u, by simpa [Instr.loadAt, Instr.sureAddr] using hu, hrel⟩
   ·have hj := yE hx
    refine hrel (off + j) _ x ?_ (by rw [← hget j om]; exact hx)
    rw [zD om]
    simp [Array.getD, show off + j < cur.size by omega]
  ·cases hd
 | eptr r q off b c k p hb hp =>
  subst hp
  simp only [loadD] at hd
  split at hd
  ·rename_i k' es hes
   split at hd
   ·rename_i x hx
    obtain ⟨y, hy, rfl⟩ := zB.1 hd
    obtain ⟨part, hp, hm⟩ := Option.bind_eq_some_iff.1 hy
    obtain ⟨hl, hle, hget⟩ := cut_spec hp
    obtain ⟨_, hk0, _, hlen, hsol, cur, e, hheap, hsz, hrel⟩ := hi.obj r _ b c k hes hb
    have hxl := (hsol q x hx).2
    have hq : q < es.length := yE hx
    have hin : ∀ j, j < part.length → q * k + off + j < cur.size := by
     intro j hj
     have : (q + 1) * k ≤ c * k := yD _ om
     rw [Nat.add_mul] at this
     omega
    have hcell : ∀ j, j < (part.map D.v).length → w.cell? ((⟨b, q * k + off, none⟩ : Addr).add j) = some (cur.getD (q * k + off + j) undef) := by
     intro j hj
     have := hin j (by simpa using hj)
     rw [Addr.add_lit, cell_own hheap, zD this]
     simp [Array.getD, this]
    have := load_gen (S := S) (β := β) (w := w) ht ⟨b, q * k + off, none⟩ (part.map .v) (fun j => cur.getD (q * k + off + j) undef) (by simpa using hl) hcell (fun j z hz => ?_) (d := .v y) (by rw [mkOf_map, hm]; rfl)
    ·obtain ⟨u, hu, hrel⟩ := this
     exact ⟨u, by simpa [Instr.loadAt, Instr.sureAddr] using hu, hrel⟩
    ·simp only [zG] at hz
     obtain ⟨z', hz', rfl⟩ := zB.1 hz
     have hj := yE hz'
     have := hin j hj
     refine .v _ _ (hrel q (off + j) x z' _ hx (by rw [← hget j om]; exact hz') ?_)
     rw [← Nat.add_assoc, zD this]
     simp [Array.getD, this]
   ·cases hd
  ·cases hd
 | vptr b off cells vals hs hr =>
  simp only [loadD] at hd
  obtain ⟨y, hy, rfl⟩ := zB.1 hd
  obtain ⟨part, hp, hm⟩ := Option.bind_eq_some_iff.1 hy
  obtain ⟨hl, hle, hget⟩ := cut_spec hp
  have := load_gen (S := S) (β := β) (w := w) ht ⟨b, off, none⟩ (part.map .v) vals (by simpa using hl) (fun j hj => ?_) (fun j z hz => ?_) (d := .v y) (by rw [mkOf_map, hm]; rfl)
  ·obtain ⟨u, hu, hrel⟩ := this
   exact ⟨u, by simpa [Instr.loadAt, Instr.sureAddr] using hu, hrel⟩
  ·rw [Addr.add_lit]
   exact (hs j (by simp at hj; omega)).2
  ·simp only [zG] at hz
   obtain ⟨z', hz', rfl⟩ := zB.1 hz
   have hj := yE hz'
   exact .v _ _ (hr j z' (by have := hget j om; simp at this; rw [← this]; exact hz'))
 | _ => simp [loadD] at hd
theorem loadD_sound (hi : HInv S β w h) (ht : tiOf P t = some i) {d : D} (hd : loadD i h p = some d)
  (hv : RelD S β w v p) : ∃ u, (Instr.loadAt t v).run P w = .ok u w ∧ RelD S β w u d := by
 by_cases hp : ∃ cs, p = .v (.ptr cs)
 ·obtain ⟨cs, rfl⟩ := hp
  exact loadD_sound0 (p := .vptr cs) hi ht (by simp) hd hv.of_v.as_vptr
 ·exact loadD_sound0 hi ht (fun cs e => hp ⟨cs, e⟩) hd hv
variable {DR : Prop}
def spliceA (cur : Array Value) (off : Nat) (vs : List Value) : Array Value := (cur.toList.take off ++ vs ++ cur.toList.drop (off + vs.length)).toArray
variable {cur : Array Value} {off : Nat} {vs : List Value}
theorem spliceA_size (h : off + vs.length ≤ cur.size) : (spliceA cur off vs).size = cur.size := by
 simp [spliceA]; omega
variable {α : Type} {l x : List α}
theorem splice_get (h : off + x.length ≤ l.length) (j : Nat) :
  (l.take off ++ x ++ l.drop (off + x.length))[j]? = if off ≤ j ∧ j < off + x.length then x[j - off]? else l[j]? := by
 rw [List.append_assoc, List.getElem?_append, zW, Nat.min_eq_left om]
 by_cases h1 : j < off
 ·rw [if_pos h1, if_neg om, yA, if_pos h1]
 ·rw [if_neg h1, List.getElem?_append]
  by_cases h2 : j - off < x.length
  ·rw [if_pos h2, if_pos om]
  ·rw [if_neg h2, if_neg om, zY]
   congr 1; omega
theorem spliceA_get (h : off + vs.length ≤ cur.size) (j : Nat) :
  (spliceA cur off vs)[j]? = if off ≤ j ∧ j < off + vs.length then vs[j - off]? else cur[j]? := by
 have := splice_get (l := cur.toList) (off := off) (x := vs) (by simpa using h) j
 simpa [spliceA] using this
theorem splice_spec {r : List α} (h : splice l off x = some r) : off + x.length ≤ l.length ∧ r.length = l.length ∧ ∀ j : Nat, r[j]? = if off ≤ j ∧ j < off + x.length then x[j - off]? else l[j]? := by
 unfold splice at h
 split at h
 ·rename_i hle
  cases h
  exact ⟨hle, by simp; omega, splice_get hle⟩
 ·cases h
variable {P : Program} {w : World}
theorem run_store_own {b : Nat} {e : TypeId} (hg : w.heap[b]? = some (.cells cur e (0, 0))) (hl : off + vs.length ≤ cur.size) (h1 : ∀ v ∈ vs, v.oneCell' = true) :
  (storeCells ⟨b, off, none⟩ vs).run P w = .ok () (w.setRow b (spliceA cur off vs)) := by
 have := run_storeCells_at P b off e vs 0 cur w hg (by simpa using hl) h1
 simpa [spliceA] using this
variable {k : Nat}
theorem mul_lt_of {i q j : Nat} (h : i < q) (hj : j < k) : i * k + j < q * k := by
 have : (i + 1) * k ≤ q * k := yD _ h
 rw [Nat.add_mul] at this
 omega
theorem storeV_spec {e y e' : V} (h : storeV e y off = some e') (hk : e.cells.length = k) (hs : e.solid = true) (hk' : e'.cells.length = k) (hy : y.solid = true) :
  off + y.cells.length ≤ k ∧ ∀ j : Nat, e'.cells[j]? = if off ≤ j ∧ j < off + y.cells.length then y.cells[j - off]? else e.cells[j]? := by
 unfold storeV at h
 split at h
 ·rename_i cs
  obtain ⟨r, hr, rfl⟩ := zB.1 h
  obtain ⟨h1, h2, h3⟩ := splice_spec hr
  exact ⟨by simp [V.cells] at hk; omega, h3⟩
 ·rename_i hne
  split at h
  ·rename_i h0
   obtain rfl : y = e' := by simpa using h
   subst h0
   refine ⟨om, fun j => ?_⟩
   split
   ·simp
   ·rename_i hh
    rw [zS om, zS om]
  ·cases h
variable {S : Nat → Nat → Prop} {h h' : List AObj} {i : TI} {t : Nat} {v : Value} {β : Blocks}
theorem storeD_sound (hi : HInv S β w h) (ht : tiOf P t = some i) {p x : D} (hd : storeD i h p x = some h')
  {u : Value} (hv : RelD S β w v p) (hu : RelD S β w u x) : ∃ w', (Instr.storeAt t v u).run P w = .ok () w' ∧ Ext DR S β w S β w' ∧ HInv S β w' h' := by
 obtain ⟨info, desc, z, g1, g2, g3, g4, g5, g6, g7, g8, _⟩ := tiOf_spec ht
 unfold storeD at hd
 split at hd
 ·rename_i hc
  rw [Bool.and_eq_true, beq_iff_eq] at hc
  obtain ⟨hsol, hlen⟩ := hc
  obtain ⟨c1, c2⟩ := hu.cells hsol
  have c3 := hu.cells_one hsol
  have hrun0 : ∀ (b off : Nat) (cur : Array Value) (e : TypeId), w.heap[b]? = some (.cells cur e (0, 0)) → off + x.cells.length ≤ cur.size →
    (Instr.storeAt t (.pointer (some ⟨b, off, none⟩)) u).run P w = .ok () (w.setRow b (spliceA cur off u.cells.toList)) := by
   intro b off cur e hg hle
   have := run_store_own (P := P) (w := w) (off := off) (vs := u.cells.toList) hg (by simp [c1]; omega) c3
   simp [Instr.storeAt, Instr.sureAddr, storeVar, run_sizeOf g1, g7, c1, hlen, this]
  cases hv with
  | ptr r off b c k hb =>
   simp only at hd
   split at hd
   ·rename_i cs hcs
    obtain ⟨cs', hsp, rfl⟩ := zB.1 hd
    obtain ⟨s1, s2, s3⟩ := splice_spec hsp
    obtain ⟨o1, o2, o3, cur, e, o4, o5, o6⟩ := hi.obj r _ b c k hcs hb
    refine ⟨_, hrun0 b off cur e o4 om, ?_⟩
    refine own_write (DR := DR) hi hcs rfl hb (by simp) (fun j hj => setRow_other w b j _ hj) rfl rfl rfl (zL _) rfl (fun hk => ?_)
    refine ⟨o1, o2, om, _, e, setRow_heap w b cur _ e _ o4, by rw [spliceA_size (by simp [c1]; omega)]; exact o5, fun j v' d' hv' hd' => ?_⟩
    rw [spliceA_get (by simp [c1]; omega)] at hv'
    rw [s3] at hd'
    simp only [Array.length_toList, c1] at hv'
    have : RelD S β w v' d' := by
     by_cases hin : off ≤ j ∧ j < off + x.cells.length
     ·rw [if_pos hin] at hv' hd'
      exact c2 (j - off) v' d' (by simpa using hv') hd'
     ·rw [if_neg hin] at hv' hd'
      exact o6 j v' d' hv' hd'
    exact this.mono hk (fun _ _ h => h)
   ·rename_i k0 cs hcs
    obtain ⟨cs', hsp, rfl⟩ := zB.1 hd
    obtain ⟨s1, s2, s3⟩ := splice_spec hsp
    obtain ⟨o1, o0, o2, o3, cur, e, o4, o5, o6⟩ := hi.obj r _ b c k hcs hb
    refine ⟨_, hrun0 b off cur e o4 om, ?_⟩
    refine own_write (DR := DR) hi hcs rfl hb (by simp) (fun j hj => setRow_other w b j _ hj) rfl rfl rfl (zL _) rfl (fun hk => ?_)
    refine ⟨o1, o0, o2, om, _, e, setRow_heap w b cur _ e _ o4, by rw [spliceA_size (by simp [c1]; omega)]; exact o5, fun j v' d' hv' hd' => ?_⟩
    rw [spliceA_get (by simp [c1]; omega)] at hv'
    rw [s3] at hd'
    simp only [Array.length_toList, c1] at hv'
    have : RelD S β w v' d' := by
     by_cases hin : off ≤ j ∧ j < off + x.cells.length
     ·rw [if_pos hin] at hv' hd'
      exact c2 (j - off) v' d' (by simpa using hv') hd'
     ·rw [if_neg hin] at hv' hd'
      exact o6 j v' d' hv' hd'
    exact this.mono hk (fun _ _ h => h)
   ·cases hd
  | eptr r q off b c k p hb hp =>
   subst hp
   simp only at hd
   split at hd
   ·rename_i k' es y hes
    split at hd
    ·rename_i el hel
     split at hd
     ·rename_i el' hel'
      split at hd
      ·rename_i hck
       cases hd
       rw [Bool.and_eq_true, beq_iff_eq] at hck
       obtain ⟨o1, o2, o3, o4, o5, cur, e, o6, o7, o8⟩ := hi.obj r _ b c k hes hb
       subst o1
       have hq : q < es.length := yE hel
       have hyl : (D.v y).cells.length = y.cells.length := by simp [D.cells]
       obtain ⟨t1, t2⟩ := storeV_spec hel' (o5 q el hel).2 (o5 q el hel).1 hck.1 (by simpa [D.solid] using hsol)
       have hqk := mul_lt_of (k := k') (j := k' - 1) (show q < c by omega) om
       have hle : q * k' + off + (D.v y).cells.length ≤ cur.size := by
        have : (q + 1) * k' ≤ c * k' := yD _ om
        rw [Nat.add_mul] at this
        rw [hyl, o7]; omega
       refine ⟨_, hrun0 b (q * k' + off) cur e o6 hle, ?_⟩
       refine own_write (DR := DR) hi hes rfl hb (by simp) (fun j hj => setRow_other w b j _ hj) rfl rfl rfl (zL _) rfl (fun hk => ?_)
       have hsz : q * k' + off + u.cells.toList.length ≤ cur.size := by simp only [Array.length_toList, c1]; exact hle
       refine ⟨rfl, o2, o3, by simpa using o4, fun m z hz => ?_, _, e, setRow_heap w b cur _ e _ o6, by rw [spliceA_size hsz]; exact o7, fun m j z y' v' hz hy' hv' => ?_⟩
       ·rw [zR] at hz
        split at hz
        ·cases hz; exact ⟨hck.2, hck.1⟩
        ·exact o5 m z hz
       ·rw [spliceA_get hsz] at hv'
        simp only [Array.length_toList, c1, hyl] at hv'
        have : RelV S w v' y' := by
         rw [zR] at hz
         by_cases hmq : q = m
         ·subst hmq
          rw [if_pos rfl] at hz
          split at hz
          ·cases hz
           rw [t2] at hy'
           by_cases hin : off ≤ j ∧ j < off + y.cells.length
           ·rw [if_pos om] at hv'
            rw [if_pos hin] at hy'
            have e1 : q * k' + j - (q * k' + off) = j - off := by omega
            rw [e1] at hv'
            exact (c2 (j - off) v' (.v y') (by simpa using hv') (by simp [D.cells, hy'])).of_v
           ·rw [if_neg om] at hv'
            rw [if_neg hin] at hy'
            exact o8 q j el y' v' hel hy' hv'
          ·exact absurd hq ‹_›
         ·rw [if_neg hmq] at hz
          have hj : j < k' := by have := yE hy'; have := (o5 m z hz).2; omega
          have hnot : ¬ (q * k' + off ≤ m * k' + j ∧ m * k' + j < q * k' + off + y.cells.length) := by
           rcases Nat.lt_or_ge m q with hlt | hge
           ·have := mul_lt_of (k := k') hlt hj; omega
           ·have := mul_lt_of (k := k') (j := k' - 1) (show q < m by omega) om; omega
          rw [if_neg hnot] at hv'
          exact o8 m j z y' v' hz hy' hv'
        exact this.mono hk
      ·cases hd
     ·cases hd
    ·cases hd
   ·cases hd
  | _ => simp at hd
 ·cases hd
theorem ofScalar_scalar {x : V} (h : ofScalar v = some x) : x.scalar = true := by
 unfold ofScalar at h
 split at h <;> cases h <;> rfl
theorem ofValue_solid {x : V} (h : ofValue v = some x) : x.solid = true := by
 unfold ofValue at h
 split at h
 ·rename_i cs
  split at h
  ·rename_i xs hx
   cases h
   obtain ⟨h1, h2⟩ := ofScalars_spec hx
   simp only [V.solid, zZ]
   intro y hy
   obtain ⟨j, hj⟩ := List.getElem?_of_mem hy
   have hlt := yE hj
   exact ofScalar_scalar (h2 j _ y (zA om) hj)
  ·cases h
 ·have := ofScalar_scalar h
  cases x <;> first | rfl | (simp [V.scalar] at this)
theorem box_own (hi : HInv S β w h) (e : TypeId) (v : Value) (d : D) (hs : d.solid = true) (hm : d.cells.length ≤ maxLen) (hv : RelD S β w v d) :
  ∃ β', Ext DR S β w S β' (w.alloc (.cells v.cells e)) ∧ HInv S β' (w.alloc (.cells v.cells e)) (h ++ [.cells d.cells]) ∧ RelD S β' (w.alloc (.cells v.cells e)) (.pointer (some ⟨w.heap.size, 0, none⟩)) (.ptr h.length 0) := by
 obtain ⟨c1, c2⟩ := hv.cells hs
 have hk := keeps_alloc hi (.cells v.cells e) S (fun _ _ h => h)
 have hp : ∀ (r : Nat) x, β[r]? = some x → (β ++ [(w.heap.size, d.cells.length, 1)])[r]? = some x := fun r x hx => (yF _ _ _ _).2 (.inl ⟨hx, yE hx⟩)
 obtain ⟨e1, e2⟩ := own_alloc (DR := DR) hi v.cells e d.cells.length 1 (.cells d.cells) rfl
  ⟨rfl, hm, rfl, v.cells, e, heap_alloc_new w _, c1, fun j u y hu hy => (c2 j u y hu hy).mono hk hp⟩
 exact ⟨_, e1, e2, .ptr _ 0 w.heap.size d.cells.length 1 (by rw [← hi.len]; simp)⟩
theorem fill_sound {S : Nat → Nat → Prop} {β : Blocks} {w : World} (place : Nat → Option (Nat × Nat)) : ∀ (parts : List (Nat × Value)) (dparts : List (Nat × D)) (cells : Array Value) (dcells r : List D),
  parts.length = dparts.length → (∀ (i : Nat) p q, parts[i]? = some p → dparts[i]? = some q → p.1 = q.1 ∧ RelD S β w p.2 q.2) →
  cells.size = dcells.length → (∀ (i : Nat) (v : Value) (x : D), cells[i]? = some v → dcells[i]? = some x → RelD S β w v x) →
  fillD place dcells dparts = some r → ∃ cs, Instr.fill place cells parts = some cs ∧ cs.size = r.length ∧ ∀ (i : Nat) (v : Value) (x : D), cs[i]? = some v → r[i]? = some x → RelD S β w v x
 | [], [], cells, dcells, r, _, _, hl, hr, hf => by
  simp only [fillD, Option.some.injEq] at hf
  subst hf
  exact ⟨cells, rfl, hl, hr⟩
 | p :: ps, q :: qs, cells, dcells, r, hpl, hpq, hl, hr, hf => by
  obtain ⟨n, v⟩ := p
  obtain ⟨m, d⟩ := q
  have h0 := hpq 0 (n, v) (m, d) rfl rfl
  obtain ⟨hnm, hvd⟩ := h0
  dsimp only at hnm hvd
  subst hnm
  simp only [fillD] at hf
  split at hf
  ·cases hf
  ·rename_i off size hpl'
   split at hf
   ·rename_i hc
    rw [Bool.and_eq_true, beq_iff_eq] at hc
    split at hf
    ·rename_i cs' hsp
     obtain ⟨s1, s2, s3⟩ := splice_spec hsp
     obtain ⟨c1, c2⟩ := hvd.cells hc.1
     obtain ⟨g1, g2⟩ := Great.foldl_set off v.cells.toList 0 cells
     have hstep : Instr.fill place cells ((n, v) :: ps) = Instr.fill place ((v.cells.toList.zipIdx 0).foldl (fun cs (x : Value × Nat) => cs.setIfInBounds (off + x.2) x.1) cells) ps := by
      rw [Instr.fill]
      simp only [hpl']
      rw [if_neg (show ¬ (decide (v.cells.size ≠ size) || decide (off + v.cells.size > cells.size)) = true by simp; omega)]
      congr 1
      rw [← Array.foldl_toList, Array.toList_zipIdx]
     rw [hstep]
     refine fill_sound place ps qs _ cs' r (by simpa using hpl) (fun i p q hp hq => hpq (i + 1) p q (by simpa using hp) (by simpa using hq)) (by rw [g1]; omega) (fun i u x hu hx => ?_) hf
     rw [g2 i] at hu
     rw [s3] at hx
     simp only [Nat.add_zero, Array.length_toList, c1] at hu
     by_cases hin : off ≤ i ∧ i < off + d.cells.length
     ·rw [if_pos ⟨hin.1, hin.2, om⟩] at hu
      rw [if_pos hin] at hx
      exact c2 (i - off) u x (by simpa using hu) hx
     ·rw [if_neg (fun hh => hin ⟨hh.1, hh.2.1⟩)] at hu
      rw [if_neg hin] at hx
      exact hr i u x hu hx
    ·cases hf
   ·cases hf
 | [], _ :: _, _, _, _, hpl, _, _, _, _ => by simp at hpl
 | _ :: _, [], _, _, _, hpl, _, _, _, _ => by simp at hpl
theorem places_spec {P : Program} {T : Nat → Option TI} (hT : ∀ t i, T t = some i → tiOf P t = some i) : ∀ (fs : List Field) (ps : List (Nat × Nat)), places T (fs.map fun f => (f.offset, f.type)) = some ps →
  fs.mapM (fun f => (P.info? f.type).map fun i => (f.offset, i.size)) = some ps
 | [], ps, h => by simp [places] at h; subst h; rfl
 | f :: fs, ps, h => by
  simp only [List.map_cons, places] at h
  split at h
  ·rename_i s qs hs hqs
   cases h
   unfold sizeT at hs
   obtain ⟨i, hi, rfl⟩ := zB.1 hs
   obtain ⟨info, _, _, g1, _, _, _, _, _, g7, _⟩ := tiOf_spec (hT _ _ hi)
   simp [List.mapM_cons, g1, places_spec hT fs qs hqs, g7]
  ·cases h
theorem build_sound {T : Nat → Option TI} (hT : ∀ t i, T t = some i → tiOf P t = some i) (ht : T t = some i) {fs : List (Nat × Nat)} (hk : i.kind = .struct fs)
  {ps : List (Nat × Nat)} (hp : places T fs = some ps) (parts : Array (Nat × Value)) (dparts : List (Nat × D)) (hl : parts.size = dparts.length)
  (hr : ∀ (i : Nat) p q, parts[i]? = some p → dparts[i]? = some q → p.1 = q.1 ∧ RelD S β w p.2 q.2) {cs : List D} (hf : fillD (ps[·]?) (i.zero.cells.map .v) dparts = some cs) :
  ∃ u, (Instr.build t parts).run P w = .ok u w ∧ RelD S β w u (mkAgg cs) := by
 obtain ⟨info, desc, z, g1, g2, g3, g4, g5, g6, g7, g8, _⟩ := tiOf_spec (hT _ _ ht)
 rw [hk] at g5
 obtain ⟨fields, rfl, rfl, _⟩ := tkOf_struct g5
 have hz : RelV S w z i.zero := ofValue_rel g4
 obtain ⟨z1, z2⟩ := hz.cells (ofValue_solid g4)
 obtain ⟨cs', h1, h2, h3⟩ := fill_sound (S := S) (β := β) (w := w) (ps[·]?) parts.toList dparts z.cells (i.zero.cells.map .v) cs (by simpa using hl) (fun i p q hp hq => hr i p q (by simpa using hp) hq) (by simpa using z1)
  (fun i v x hv hx => by
   simp only [zG] at hx
   obtain ⟨y, hy, rfl⟩ := zB.1 hx
   exact .v _ _ (z2 i v y hv hy)) hf
 have hb : P.built t parts.toList = some cs' := by
  unfold Program.built
  simp only [g1, g2, g3, places_spec hT _ _ hp]
  simpa using h1
 exact ⟨_, run_build w t parts cs' hb, rel_mkAgg h2 h3⟩
theorem clear_sound {T : Nat → Option TI} (hT : ∀ t i, T t = some i → tiOf P t = some i) {ty : TypeId} (hi : HInv S β w h) {x : D} (hd : clearD T t h x = some h')
  (hv : RelD S β w v x) : ∃ w', (Builtin.clear_ #[t] ty #[v]).run P w = .ok (.tuple #[]) w' ∧ Ext DR S β w S β w' ∧ HInv S β w' h' := by
 unfold clearD at hd
 split at hd
 case h_2 => cases hd
 rename_i r off len full
 split at hd
 case h_2 => cases hd
 rename_i ti hti
 split at hd
 case h_2 => cases hd
 rename_i e k es hkind hes
 split at hd
 case h_2 => cases hd
 rename_i i he
 split at hd
 case isFalse => cases hd
 rename_i hc
 obtain ⟨hk1, hk2, hpos, hlen⟩ := hc
 cases hd
 cases hv with
 | osl _ _ _ b c k0 p cap _ hb hlc hp hcap =>
 subst hp
 obtain ⟨o1, o2, o3, o4, o5, cur, ety, o6, o7, o8⟩ := hi.obj r _ b c k0 hes hb
 subst o1
 obtain ⟨_, desc, _, _, g2, _, _, g5, _, _, _, _⟩ := tiOf_spec (hT t ti hti)
 obtain ⟨info, _, z, q1, _, q3, q4, _⟩ := tiOf_spec (hT e i he)
 have hdesc : desc = .slice e := by
  rw [hkind] at g5
  cases desc <;> simp [tkOf] at g5 <;> first | (rw [g5]; done) | skip
  all_goals first | (split at g5 <;> cases g5; done) | skip
 subst hdesc
 have hz : RelD S β w z (.v i.zero) := .v _ _ (ofValue_rel q4)
 have hsol : (D.v i.zero).solid = true := ofValue_solid q4
 obtain ⟨c1, c2⟩ := hz.cells hsol
 have c3 := hz.cells_one hsol
 have hzc : z.cells.size = k := by rw [c1]; simp [D.cells, hk2]
 obtain ⟨m, rfl⟩ : ∃ m, len = m + 1 := ⟨len - 1, om⟩
 have hzs : (Builtin.zeroCells z.cells (m + 1)).toList.length = (m + 1) * k := by rw [Array.length_toList, ← hzc]; simp [Builtin.zeroCells]
 have hfit : off * k + (Builtin.zeroCells z.cells (m + 1)).toList.length ≤ cur.size := by
  rw [hzs, o7, ← Nat.add_mul]
  exact yD _ hlc
 have hst := run_store_own (P := P) (w := w) (off := off * k) (vs := (Builtin.zeroCells z.cells (m + 1)).toList) o6 hfit (fun u hu => by
  have hu : u ∈ Builtin.zeroCells z.cells (m + 1) := Array.mem_toList_iff.1 hu
  unfold Builtin.zeroCells at hu
  obtain ⟨q, _, rfl⟩ := Array.mem_map.1 hu
  have hq : q % z.cells.size < z.cells.size := Nat.mod_lt _ om
  rw [getElem!_pos z.cells _ hq]
  exact c3 _ (Array.mem_toList_iff.2 (Array.getElem_mem hq)))
 refine ⟨w.setRow b (spliceA cur (off * k) (Builtin.zeroCells z.cells (m + 1)).toList), by simp [Builtin.clear_, run_underlying g2, zeroValue, run_typeInfo q1, q3, hst], ?_⟩
 refine own_write (DR := DR) hi hes rfl hb (by simp) (fun j hj => setRow_other w b j _ hj) rfl rfl rfl (zL _) rfl (fun hk => ?_)
 refine ⟨rfl, o2, o3, by rw [zW]; omega, fun q y hy => ?_, _, ety, setRow_heap w b cur _ ety _ o6, by rw [spliceA_size hfit]; exact o7, fun q j y y' v' hy hy' hv' => ?_⟩
 ·rw [yA] at hy
  split at hy
  ·exact o5 q y hy
  ·cases hy
 ·rw [yA] at hy
  split at hy
  ·rename_i hq
   have hj : j < k := by have := yE hy'; have := (o5 q y hy).2; omega
   have hlt := mul_lt_of (k := k) hq hj
   rw [spliceA_get hfit, if_neg om] at hv'
   exact (o8 q j y y' v' hy hy' hv').mono hk
  ·cases hy
variable {DR : Prop}
theorem zip_range {α : Type} : ∀ (l : List (Nat × α)) (n m : Nat), l.map (·.1) = List.range' m n → l = ((l.map (·.2)).zipIdx m).map fun x => (x.2, x.1)
 | [], n, m, h => by simp
 | (i, a) :: r, n, m, h => by
  cases n with
  | zero => simp at h
  | succ n =>
   simp only [List.map_cons, List.range'_succ, List.cons.injEq] at h
   obtain ⟨rfl, h⟩ := h
   simp only [List.map_cons, List.zipIdx_cons, List.cons.injEq, true_and]
   exact zip_range r n (i + 1) h
variable {i j k : Nat}
theorem div_mul_add (hj : j < k) : (i * k + j) / k = i := Nat.div_eq_of_lt_le om (by rw [Nat.add_mul]; omega)
theorem mod_mul_add (hj : j < k) : (i * k + j) % k = j := by
 rw [Nat.add_comm, Nat.mul_comm, Nat.add_mul_mod_self_left, Nat.mod_eq_of_lt hj]
structure Laid (S : Nat → Nat → Prop) (w : World) (k : Nat) (xs : List V) (news : List Value) : Prop where
 len : news.length = xs.length * k
 one : ∀ u ∈ news, u.oneCell' = true
 rel : ∀ (i j : Nat) (x y : V) (u : Value), xs[i]? = some x → x.cells[j]? = some y → news[i * k + j]? = some u → RelV S w u y
def Solid (k : Nat) (xs : List V) : Prop := ∀ (i : Nat) (x : V), xs[i]? = some x → x.solid = true ∧ x.cells.length = k
theorem solid_cells {x y : V} (h : x.solid = true) (hy : y ∈ x.cells) : y.scalar = true := by
 cases x with
 | agg cs => simp only [V.solid, zZ] at h; exact h y hy
 | tuple cs => simp [V.solid] at h
 | _ => simp [V.cells] at hy; subst hy; rfl
variable {xs : List V}
theorem solid_of_all (h : xs.all (fun d => d.solid && d.cells.length == k) = true) : Solid k xs := by
 intro i x hx
 have := zZ.1 h x (zE hx)
 rw [Bool.and_eq_true, beq_iff_eq] at this
 exact this
variable {S : Nat → Nat → Prop} {w : World}
theorem Laid.mono {S' : Nat → Nat → Prop} {w' : World} {news : List Value} (hk : Keeps S w S' w') (h : Laid S w k xs news) : Laid S' w' k xs news :=
 ⟨h.len, h.one, fun i j x y u h1 h2 h3 => (h.rel i j x y u h1 h2 h3).mono hk⟩
variable {ys : List V}
theorem Laid.append {a b : List Value} (hs : Solid k ys) (hx : Solid k xs) (h : Laid S w k xs a) (g : Laid S w k ys b) : Laid S w k (xs ++ ys) (a ++ b) := by
 refine ⟨by simp [h.len, g.len, Nat.add_mul], fun u hu => ?_, fun i j x y u h1 h2 h3 => ?_⟩
 ·rcases List.mem_append.1 hu with hu | hu
  ·exact h.one u hu
  ·exact g.one u hu
 ·have hj := yE h2
  by_cases hi : i < xs.length
  ·rw [zJ hi] at h1
   have hjk : j < k := by have := (hx i x h1).2; omega
   have := mul_lt_of (k := k) hi hjk
   rw [zJ (by rw [h.len]; exact this)] at h3
   exact h.rel i j x y u h1 h2 h3
  ·rw [zK om] at h1
   have hle : xs.length * k ≤ i * k := yD _ om
   rw [zK (by rw [h.len]; omega), h.len] at h3
   have e : i * k + j - xs.length * k = (i - xs.length) * k + j := by rw [Nat.sub_mul]; omega
   rw [e] at h3
   exact g.rel _ j x y u h1 h2 h3
theorem Solid.append (h : Solid k xs) (g : Solid k ys) : Solid k (xs ++ ys) := by
 intro i x hx
 rw [List.getElem?_append] at hx
 split at hx
 ·exact h i x hx
 ·exact g _ x hx
theorem Solid.take_drop (h : Solid k xs) (off len : Nat) : Solid k ((xs.drop off).take len) := by
 intro i x hx
 rw [yA] at hx
 split at hx
 ·rw [zY] at hx; exact h _ x hx
 ·cases hx
theorem Laid.of_values (hk : 0 < k) {vs : List Value} (hs : Solid k xs) (hl : vs.length = xs.length) (hr : ∀ (i : Nat) v x, vs[i]? = some v → xs[i]? = some x → RelV S w v x) :
  (∀ v ∈ vs, v.cells.size = k) ∧ Laid S w k xs (vs.flatMap fun v => v.cells.toList) := by
 have h1 : ∀ v ∈ vs, v.cells.size = k := by
  intro v hv
  obtain ⟨i, hi⟩ := List.getElem?_of_mem hv
  have hx := zA (l := xs) (i := i) (by have := yE hi; omega)
  obtain ⟨s1, s2⟩ := hs i _ hx
  rw [((hr i v _ hi hx).cells s1).1, s2]
 refine ⟨h1, ?_, fun u hu => ?_, fun i j x y u g1 g2 g3 => ?_⟩
 ·have : ∀ l : List Value, (∀ v ∈ l, v.cells.size = k) → (l.flatMap fun v => v.cells.toList).length = l.length * k := by
   intro l
   induction l with
   | nil => intro _; simp
   | cons v r ih =>
    intro hv
    have h0 := hv v zH
    rw [List.flatMap_cons, List.length_append, ih (fun u hu => hv u (zF _ hu)), List.length_cons, Nat.add_mul]
    simp [h0]; omega
  rw [this vs h1, hl]
 ·obtain ⟨v, hv, huv⟩ := List.mem_flatMap.1 hu
  obtain ⟨i, hi⟩ := List.getElem?_of_mem hv
  have hx := zA (l := xs) (i := i) (by have := yE hi; omega)
  exact (hr i v _ hi hx).cells_one (hs i _ hx).1 u huv
 ·obtain ⟨s1, s2⟩ := hs i x g1
  have hj : j < k := by have := yE g2; omega
  have hi := yE g1
  rw [Great.flat_get hk vs h1, div_mul_add hj, mod_mul_add hj] at g3
  obtain ⟨v, hv, hu⟩ := Option.bind_eq_some_iff.1 g3
  exact ((hr i v x hv g1).cells s1).2 j u y hu g2
theorem rel_sl_of {b cap : Nat} {cur : Array Value} {e : TypeId} {fr : Nat × Nat} (fl : SFlag) (hfl : fl.isNil ≠ some true) (hs : Solid k xs) (hg : w.heap[b]? = some (.cells cur e fr))
  (hS : ∀ i, i < xs.length * k → S b i) (hc : xs.length ≤ cap) (hf : fl.isFull = true → cap = xs.length) (hm : cap ≤ maxLen) (hsz : xs.length * k ≤ cur.size)
  (hr : ∀ (i j : Nat) (x y : V) (u : Value), xs[i]? = some x → x.cells[j]? = some y → cur[i * k + j]? = some u → RelV S w u y) : RelV S w (.slice (some ⟨b, 0, none⟩) xs.length cap) (.sl fl xs) := by
 have hin : ∀ i j : Nat, i < xs.length → j < k → i * k + j < cur.size := fun i j hi hj => by have := mul_lt_of (k := k) hi hj; omega
 refine .sl fl b 0 cap k xs.length xs (fun q => cur.getD q undef) rfl hfl hf hc hm hs (fun i j hi hj => ⟨hS _ (by have := mul_lt_of (k := k) hi hj; omega), ?_⟩) (fun i j x c hx hy => ?_)
 ·have := hin i j hi hj
  rw [cell_of_row w b _ cur e fr hg, Nat.zero_add, zD this]
  simp [Array.getD, this]
 ·have hi := yE hx
  have hj := yE hy
  rw [(hs i x hx).2] at hj
  have := hin i j hi hj
  refine hr i j x c _ hx hy ?_
  rw [zD this]
  simp [Array.getD, this]
variable {P : Program} {e n t : Nat} {es : List V} {h : List AObj} {ti : TI} {β : Blocks}
theorem buildSlice_sound {T : Nat → Option TI} (hT : ∀ t i, T t = some i → tiOf P t = some i) (hi : HInv S β w h) {i : TI} (ht : T t = some ti)
  (hk : ti.kind = .slice e) (he : T e = some i) (h0 : 0 < i.size) (hn : n * i.size ≤ 16777216) (parts : Array (Nat × Value)) (hp : parts.toList.map (·.1) = List.range n) (hl : es.length = n)
  (hz : i.zero.cells.length = i.size)
  (hr : ∀ (j : Nat) p x, parts[j]? = some p → es[j]? = some x → RelV S w p.2 x) (hs : es.all (fun d => d.solid && d.cells.length == i.size) = true) :
  ∃ v w' S', (Instr.buildSlice t n parts).run P w = .ok v w' ∧ Ext DR S β w S' β w' ∧ HInv S' β w' h ∧ RelV S' w' v (.sl .nonfull es) := by
 obtain ⟨info, desc, z, g1, g2, g3, g4, g5, g6, g7, g8, _⟩ := tiOf_spec (hT _ _ ht)
 obtain ⟨info', desc', z', k1, k2, k3, k4, k5, k6, k7, k8, _⟩ := tiOf_spec (hT _ _ he)
 rw [hk] at g5
 have := tkOf_slice g5
 subst this
 subst hl
 have hs' := solid_of_all hs
 have hpl : parts.size = es.length := by have := congrArg List.length hp; simpa using this
 cases es with
 | nil =>
  have hp0 : parts = #[] := by simpa using hpl
  subst hp0
  obtain ⟨e1, e2⟩ := pure_alloc (DR := DR) hi (.cells #[] e)
  refine ⟨.slice (some ⟨w.heap.size, 0, none⟩) 0 0, w.alloc (.cells #[] e), _, ?_, e1, e2, .slemp _ _ _ (by decide) (fun _ => rfl) (Nat.zero_le _)⟩
  simp [Instr.buildSlice, run_underlying g2, run_sizeOf k1, newRow, Instr.fill, Array.range_zero']
 | cons x0 er =>
  let es := x0 :: er
  have hlen : (parts.toList.map (·.2)).length = es.length := by simp [hpl, es]
  obtain ⟨l1, l2⟩ := Laid.of_values (S := S) (w := w) h0 (xs := es) (vs := parts.toList.map (·.2)) hs' hlen (fun j v x hv hx => by
   simp only [zG] at hv
   obtain ⟨p, hp', rfl⟩ := zB.1 hv
   exact hr j p x (by simpa using hp') hx)
  have hfill := Great.fill_whole h0 (parts.toList.map (·.2)) ((Array.range (es.length * i.size)).map (z'.cells[· % z'.cells.size]!)) l1 (by simp [hpl, es])
  rw [← zip_range parts.toList es.length 0 (by rw [hp, List.range_eq_range'])] at hfill
  have hpos : 0 < es.length * i.size := Nat.mul_pos (by simp [es]) h0
  have hrun := run_buildSlice (P := P) w t e es.length parts _ info' z' g2 k1 k3 (by rw [k7]; show ¬ es.length * i.size > 16777216; exact Nat.not_lt.2 hn) (by rw [k7]; omega) (by rw [k7]; exact hfill)
  obtain ⟨e1, e2⟩ := pure_alloc (DR := DR) hi (.cells ((parts.toList.map (·.2)).flatMap fun v => v.cells.toList).toArray e)
  have l3 := l2.mono e1.keeps
  refine ⟨_, _, _, hrun, e1, e2, rel_sl_of .nonfull (by decide) hs' (heap_alloc_new w _) (fun _ _ => .inr rfl) (zL _) (fun _ => rfl) ?_ (by simp [l2.len]) (fun i' j x y u h1 h2 h3 => l3.rel i' j x y u h1 h2 (by simpa using h3))⟩
  have : es.length ≤ 16777216 := Nat.le_trans (Nat.le_mul_of_pos_right _ h0) hn
  unfold maxLen
  omega
theorem buildSliceO_sound {T : Nat → Option TI} (hT : ∀ t i, T t = some i → tiOf P t = some i) (hi : HInv S β w h) {i : TI} (ht : T t = some ti)
  (hk : ti.kind = .slice e) (he : T e = some i) (h0 : 0 < i.size) (hn : n * i.size ≤ 16777216) (hn0 : 0 < n) (parts : Array (Nat × Value)) (hp : parts.toList.map (·.1) = List.range n) (hl : es.length = n)
  (hz : i.zero.cells.length = i.size)
  (hr : ∀ (j : Nat) p x, parts[j]? = some p → es[j]? = some x → RelV S w p.2 x) (hs : es.all (fun d => d.solid && d.cells.length == i.size) = true) :
  ∃ v w' β', (Instr.buildSlice t n parts).run P w = .ok v w' ∧ Ext DR S β w S β' w' ∧ HInv S β' w' (h ++ [.row i.size es]) ∧ RelD S β' w' v (.osl h.length 0 n false) := by
 obtain ⟨info, desc, z, g1, g2, g3, g4, g5, g6, g7, g8, _⟩ := tiOf_spec (hT _ _ ht)
 obtain ⟨info', desc', z', k1, k2, k3, k4, k5, k6, k7, k8, _⟩ := tiOf_spec (hT _ _ he)
 rw [hk] at g5
 have := tkOf_slice g5
 subst this
 subst hl
 have hs' := solid_of_all hs
 have hpl : parts.size = es.length := by have := congrArg List.length hp; simpa using this
 have hlen : (parts.toList.map (·.2)).length = es.length := by simp [hpl]
 obtain ⟨l1, l2⟩ := Laid.of_values (S := S) (w := w) h0 (xs := es) (vs := parts.toList.map (·.2)) hs' hlen (fun j v x hv hx => by
  simp only [zG] at hv
  obtain ⟨p, hp', rfl⟩ := zB.1 hv
  exact hr j p x (by simpa using hp') hx)
 have hfill := Great.fill_whole h0 (parts.toList.map (·.2)) ((Array.range (es.length * i.size)).map (z'.cells[· % z'.cells.size]!)) l1 (by simp [hpl])
 rw [← zip_range parts.toList es.length 0 (by rw [hp, List.range_eq_range'])] at hfill
 have hpos : 0 < es.length * i.size := Nat.mul_pos hn0 h0
 have hrun := run_buildSlice (P := P) w t e es.length parts _ info' z' g2 k1 k3 (by rw [k7]; show ¬ es.length * i.size > 16777216; exact Nat.not_lt.2 hn) (by rw [k7]; omega) (by rw [k7]; exact hfill)
 have hm : es.length ≤ 16777216 := Nat.le_trans (Nat.le_mul_of_pos_right _ h0) hn
 have hkp := keeps_alloc hi (.cells ((parts.toList.map (·.2)).flatMap fun v => v.cells.toList).toArray e) S (fun _ _ h => h)
 have l3 := l2.mono hkp
 obtain ⟨e1, e2⟩ := own_alloc (DR := DR) hi ((parts.toList.map (·.2)).flatMap fun v => v.cells.toList).toArray e es.length i.size (.row i.size es) rfl
  ⟨rfl, h0, by unfold maxLen; omega, zL _, hs', _, e, heap_alloc_new w _, by simp [l2.len], fun i' j x y u h1 h2 h3 => l3.rel i' j x y u h1 h2 (by simpa using h3)⟩
 exact ⟨_, _, _, hrun, e1, e2, .osl _ 0 es.length w.heap.size es.length i.size 0 es.length false (by rw [← hi.len]; simp) om (by simp) (by simp)⟩
variable {v : Value}
theorem elemsOf_sound (hi : HInv S β w h) {x : D} (he : elemsOf k h x = some xs) (hv : RelD S β w v x) :
  Solid k xs ∧ ∃ base c, v = .slice base xs.length c ∧ xs.length ≤ c ∧ c ≤ maxLen ∧ (xs ≠ [] → ∃ a news, base = some a ∧ Laid S w k xs news ∧ ∀ (j : Nat) u, news[j]? = some u → w.cell? (a.add j) = some u) ∧
   (∀ fl es, x = .v (.sl fl es) → fl.isFull = true → c = xs.length ∧ (base = none → c = 0)) := by
 unfold elemsOf at he
 split at he
 ·rename_i fl es
  split at he
  ·rename_i ha
   cases he
   have hv' := hv.of_v
   have hs : Solid k xs := by
    cases hv' with
    | slnil => intro i x hx; simp at hx
    | slemp => intro i x hx; simp at hx
    | sl fl b off cap k' n es vals hn h hf hc hm hk hs' hr =>
     cases xs with
     | nil => intro i x hx; simp at hx
     | cons x0 r =>
      have h0 := (hk 0 x0 rfl).2
      simp only [headOk, beq_iff_eq] at ha
      rw [ha] at h0
      subst h0
      exact hk
   refine ⟨hs, ?_⟩
   cases hv' with
   | slnil fl h => exact ⟨none, 0, rfl, zL _, Nat.zero_le _, fun h => absurd rfl h, fun _ _ he _ => ⟨rfl, fun _ => rfl⟩⟩
   | slemp fl a cap h hf hm => exact ⟨some a, cap, rfl, Nat.zero_le _, hm, fun h => absurd rfl h, fun fl' es' he hfull => by cases he; exact ⟨hf hfull, fun h => by cases h⟩⟩
   | sl fl b off cap k' n es vals hn h hf hc hm hk hs' hr =>
    subst hn
    refine ⟨some ⟨b, off, none⟩, cap, rfl, hc, hm, fun hne => ?_, fun fl' es' he hfull => by cases he; exact ⟨hf hfull, fun h => by cases h⟩⟩
    have hkk : k' = k := by
     cases xs with
     | nil => exact absurd rfl hne
     | cons x0 r => rw [← (hk 0 x0 rfl).2, (hs 0 x0 rfl).2]
    subst hkk
    have hq : ∀ q, q < xs.length * k' → 0 < k' ∧ q / k' < xs.length ∧ q % k' < k' ∧ q / k' * k' + q % k' = q := by
     intro q hq
     have hk0 : 0 < k' := by rcases Nat.eq_zero_or_pos k' with h0 | h0; (subst h0; simp at hq); exact h0
     exact ⟨hk0, (Nat.div_lt_iff_lt_mul hk0).2 hq, Nat.mod_lt _ hk0, by rw [Nat.mul_comm]; exact Nat.div_add_mod q k'⟩
    refine ⟨⟨b, off, none⟩, (List.range (xs.length * k')).map vals, rfl, ⟨by simp, fun u hu => ?_, fun i j x y u h1 h2 h3 => ?_⟩, fun j u hu => ?_⟩
    ·obtain ⟨q, hqm, rfl⟩ := List.mem_map.1 hu
     obtain ⟨hk0, q1, q2, q3⟩ := hq q (List.mem_range.1 hqm)
     have hx := zA (l := xs) q1
     have hy := zA (l := (xs[q / k']).cells) (i := q % k') (by rw [(hs _ _ hx).2]; exact q2)
     have := hr _ _ _ _ hx hy
     rw [q3] at this
     refine this.oneCell ?_
     exact solid_cells (hs _ _ hx).1 (zE hy)
    ·have hi' := yE h1
     have hj := yE h2
     rw [(hs i x h1).2] at hj
     have := mul_lt_of (k := k') hi' hj
     rw [zG, List.getElem?_range this] at h3
     cases h3
     exact hr i j x y h1 h2
    ·rw [zG] at hu
     obtain ⟨q, hq', rfl⟩ := zB.1 hu
     have hlt := yE hq'
     simp only [List.length_range] at hlt
     rw [List.getElem?_range hlt] at hq'
     cases hq'
     obtain ⟨hk0, q1, q2, q3⟩ := hq j hlt
     have := (hs' (j / k') (j % k') q1 q2).2
     rw [q3] at this
     rw [Addr.add_lit]
     exact this
  ·cases he
 ·rename_i r off len full
  split at he
  ·rename_i k' es hes
   split at he
   ·rename_i hc
    cases he
    obtain ⟨rfl, hle⟩ := hc
    cases hv with
    | osl r off len b c k' p cap full hb hlen hp hcap =>
     obtain ⟨o1, o2, o3, o4, o5, cur, e, o6, o7, o8⟩ := hi.obj r _ b c _ hes hb
     subst o1
     have hxl : ((es.drop off).take len).length = len := by simp; omega
     have hsol : Solid k ((es.drop off).take len) := Solid.take_drop o5 off len
     refine ⟨hsol, some ⟨b, p, none⟩, cap, by rw [hxl], ?_, ?_, fun hne => ?_, fun _ _ h => by cases h⟩
     ·rw [hxl, hcap]; split <;> omega
     ·rw [hcap]; split <;> omega
     ·subst hp
      have hin : len * k + off * k ≤ cur.size := by rw [o7, ← Nat.add_mul]; exact yD _ om
      refine ⟨_, (cur.toList.drop (off * k)).take (len * k), rfl, ⟨by rw [hxl]; simp; omega, fun u hu => ?_, fun i j x y u h1 h2 h3 => ?_⟩, fun j u hu => ?_⟩
      ·obtain ⟨q, hq⟩ := List.getElem?_of_mem hu
       have hql := yE hq
       simp only [zW, List.length_drop, Array.length_toList] at hql
       have hql' : q < len * k := by omega
       rw [yA, if_pos hql', zY] at hq
       have q1 : q / k < len := (Nat.div_lt_iff_lt_mul o2).2 hql'
       have hx := zA (l := es) (i := off + q / k) om
       have hy := zA (l := (es[off + q / k]).cells) (i := q % k) (by rw [(o5 _ _ hx).2]; exact Nat.mod_lt _ o2)
       have e1 : (off + q / k) * k + q % k = off * k + q := by
        have := Nat.div_add_mod q k
        rw [Nat.add_mul, Nat.mul_comm (q / k)]; omega
       have := o8 _ _ _ _ u hx hy (by rw [e1]; simpa using hq)
       refine this.oneCell ?_
       exact solid_cells (o5 _ _ hx).1 (zE hy)
      ·have hj := yE h2
       rw [(hsol i x h1).2] at hj
       have hi' := yE h1
       rw [hxl] at hi'
       have := mul_lt_of (k := k) hi' hj
       rw [yA, if_pos hi', zY] at h1
       rw [yA, if_pos this, zY] at h3
       refine o8 (off + i) j x y u h1 h2 ?_
       rw [Nat.add_mul, Nat.add_assoc]
       simpa using h3
      ·have hql := yE hu
       simp only [zW, List.length_drop, Array.length_toList] at hql
       rw [yA, if_pos om, zY] at hu
       rw [Addr.add_lit, cell_own o6]
       simpa using hu
   ·cases he
  ·rename_i cs hes
   split at he
   ·rename_i hc
    obtain ⟨rfl, hle⟩ := hc
    split at he
    ·rename_i vs hvs
     split at he
     ·rename_i hall
      cases he
      have hcs := pures_spec hvs
      have hvl : xs.length = len := by
       have := congrArg List.length hcs
       rw [List.length_map, zW, List.length_drop] at this
       omega
      have hone : ∀ (i : Nat) (x : V), xs[i]? = some x → x.solid = true ∧ x.cells = [x] := fun i x hx => by
       have := zZ.1 hall x (zE hx)
       cases x <;> first | exact ⟨rfl, rfl⟩ | cases this
      cases hv with
      | osl r off len b c k' p cap full hb hlen hp hcap =>
       obtain ⟨o1, o3, o4, cur, e, o6, o7, o8⟩ := hi.obj r _ b c _ hes hb
       subst o1
       rw [Nat.mul_one] at hp
       subst hp
       have hrel : ∀ (j : Nat) (x : V) (u : Value), xs[j]? = some x → cur[p + j]? = some u → RelV S w u x := fun j x u hx hu => by
        have hj := yE hx
        have hd : (xs.map D.v)[j]? = some (.v x) := by rw [zG, hx]; rfl
        rw [← hcs, yA, if_pos om, zY] at hd
        exact (o8 (p + j) u _ hu hd).of_v
       refine ⟨fun i x hx => ⟨(hone i x hx).1, by rw [(hone i x hx).2]; rfl⟩, some ⟨b, p, none⟩, cap, by rw [hvl], ?_, ?_, fun hne => ?_, fun _ _ h => by cases h⟩
       ·rw [hvl, hcap]; split <;> omega
       ·rw [hcap]; split <;> omega
       ·refine ⟨_, (cur.toList.drop p).take len, rfl, ⟨by simp; omega, fun u hu => ?_, fun i j x y u h1 h2 h3 => ?_⟩, fun j u hu => ?_⟩
        ·obtain ⟨q, hq⟩ := List.getElem?_of_mem hu
         have hql := yE hq
         simp only [zW, List.length_drop, Array.length_toList] at hql
         rw [yA, if_pos om, zY] at hq
         have hx := zA (l := xs) (i := q) om
         have := hrel q _ u hx (by simpa using hq)
         refine this.oneCell ?_
         exact zZ.1 hall _ (zE hx)
        ·rw [(hone i x h1).2] at h2
         cases j with
         | zero =>
          cases h2
          have hi' := yE h1
          rw [Nat.mul_one, Nat.add_zero, yA, if_pos om, zY] at h3
          exact hrel i _ u h1 (by simpa using h3)
         | succ j => simp at h2
        ·have hql := yE hu
         simp only [zW, List.length_drop, Array.length_toList] at hql
         rw [yA, if_pos om, zY] at hu
         rw [Addr.add_lit, cell_own o6]
         simpa using hu
     ·cases he
    ·cases he
   ·cases he
  ·cases he
 ·cases he
theorem copy_sound {T : Nat → Option TI} (hT : ∀ t i, T t = some i → tiOf P t = some i) {t' : Nat} {ty : TypeId} {h' : List AObj} (hi : HInv S β w h) {d s y : D} (hd : copyD T t h d s = some (y, h'))
  {u : Value} (hv : RelD S β w v d) (hu : RelD S β w u s) : ∃ z w', (Builtin.copy_ #[t, t'] ty #[v, u]).run P w = .ok z w' ∧ Ext DR S β w S β w' ∧ HInv S β w' h' ∧ RelD S β w' z y := by
 unfold copyD at hd
 split at hd
 case h_2 => cases hd
 rename_i r off len full
 split at hd
 case h_2 => cases hd
 rename_i ti hti
 split at hd
 case h_2 => cases hd
 rename_i e k es hkind hes
 split at hd
 case h_2 => cases hd
 rename_i i he
 split at hd
 case isFalse => cases hd
 rename_i hc
 obtain ⟨hk1, rfl, hlen⟩ := hc
 obtain ⟨xs, hxs, hy⟩ := zB.1 hd
 obtain ⟨rfl, rfl⟩ := zM hy
 obtain ⟨hsol, base, c, rfl, hc1, hc2, hbase, _⟩ := elemsOf_sound hi hxs hu
 cases hv with
 | osl _ _ _ b c' k0 p cap _ hb hlc hp hcap =>
 subst hp
 obtain ⟨o1, o2, o3, o4, o5, cur, ety, o6, o7, o8⟩ := hi.obj r _ b c' k0 hes hb
 subst o1
 obtain ⟨_, desc, _, _, g2, _, _, g5, _, _, _, _⟩ := tiOf_spec (hT t ti hti)
 obtain ⟨info, _, z, q1, _, q3, q4, q5, _, q6, _, _⟩ := tiOf_spec (hT e i he)
 have hdesc : desc = .slice e := by
  rw [hkind] at g5
  cases desc <;> simp [tkOf] at g5 <;> first | (rw [g5]; done) | skip
  all_goals first | (split at g5 <;> cases g5; done) | skip
 subst hdesc
 have hsz : (P.info? e).map (·.size) = some 1 := by rw [q1, Option.map_some, q6, hk1]
 by_cases hn : min xs.length len = 0
 ·have e1 : xs.take len = [] := by
   cases xs with
   | nil => simp
   | cons _ _ =>
    have : len = 0 := by simp at hn; omega
    rw [this]; rfl
  have e2 : h.set r (.row 1 (es.take off ++ (xs.take len ++ es.drop (off + min xs.length len)))) = h := by
   rw [e1, hn, Nat.add_zero, List.nil_append, List.take_append_drop]
   refine List.ext_getElem? fun j => ?_
   rw [zR]
   split
   ·rename_i g; subst g
    split
    ·exact hes.symm
    ·rename_i g; rw [zS om] at hes; cases hes
   ·rfl
  rw [e2, hn]
  exact ⟨_, w, run_copy_none w t t' ty e _ _ len cap xs.length c g2 hsz hn, Ext.refl _ _ _, hi, .v _ _ (.int _ _)⟩
 ·have hx : xs ≠ [] := fun g => hn (by rw [g]; simp)
  obtain ⟨a, news, rfl, hl, hcell⟩ := hbase hx
  have hnl : news.length = xs.length := by simpa using hl.len
  have h1 : (news.take len).length = Nat.min xs.length len := by
   rw [zW, hnl]
   exact Nat.min_comm _ _
  have hcur : es.length ≤ cur.size := by rw [o7, Nat.mul_one]; exact o4
  have hfit : off + (news.take len).length ≤ cur.size := by
   rw [zW]
   have := Nat.min_le_left len news.length
   omega
  have hrun := run_copy_row (P := P) w t t' ty e b off len cap a xs.length c cur ety (news.take len) g2 hsz o6 h1
   (fun j u hu => hcell j u (by
    rw [yA] at hu
    split at hu
    ·exact hu
    ·cases hu)) hfit (fun u hu => hl.one u (List.mem_of_mem_take hu))
  have hrun' : (Builtin.copy_ #[t, t'] ty #[.slice (some ⟨b, off * 1, none⟩) len cap, .slice (some a) xs.length c]).run P w = .ok (goInt (news.take len).length) (w.setRow b (spliceA cur off (news.take len))) := by
   rw [Nat.mul_one]; exact hrun
  have hmin : (news.take len).length = min xs.length len := h1
  rw [hmin] at hrun'
  have hpos : 0 < min xs.length len := Nat.pos_of_ne_zero hn
  have hel : (es.take off ++ (xs.take len ++ es.drop (off + min xs.length len))).length = es.length := by
   simp only [List.length_append, zW, List.length_drop]
   omega
  have hget : ∀ (q : Nat), (es.take off ++ (xs.take len ++ es.drop (off + min xs.length len)))[q]? = if off ≤ q ∧ q < off + min xs.length len then xs[q - off]? else es[q]? := by
   intro q
   have hto : (es.take off).length = off := by rw [zW]; omega
   by_cases g1 : q < off
   ·rw [if_neg om, zJ om, yA, if_pos g1]
   ·rw [zK om, hto]
    by_cases g2 : q < off + min xs.length len
    ·rw [if_pos ⟨om, g2⟩, zJ (by rw [zW]; omega), yA, if_pos om]
    ·rw [if_neg om, zK (by rw [zW]; omega), zY, zW]
     congr 1
     omega
  obtain ⟨e1, e2⟩ := own_write (DR := DR) (w' := w.setRow b (spliceA cur off (news.take len))) (o' := .row 1 (es.take off ++ (xs.take len ++ es.drop (off + min xs.length len)))) hi hes rfl hb (by simp) (fun j hj => setRow_other w b j _ hj) rfl rfl rfl (zL _) rfl (fun hk => by
   refine ⟨rfl, o2, o3, by rw [hel]; exact o4, fun q y hy => ?_, _, ety, setRow_heap w b cur _ ety _ o6, by rw [spliceA_size hfit]; exact o7, fun q j y y' v' hy hy' hv' => ?_⟩
   ·rw [hget] at hy
    split at hy
    ·exact hsol _ y hy
    ·exact o5 q y hy
   ·have hj : j = 0 := by
     have hj := yE hy'
     have : y.cells.length = 1 := by
      rw [hget] at hy
      split at hy
      ·exact (hsol _ y hy).2
      ·exact (o5 q y hy).2
     omega
    subst hj
    rw [Nat.mul_one, Nat.add_zero] at hv'
    rw [spliceA_get hfit] at hv'
    rw [hget] at hy
    rw [hmin] at hv'
    split at hy
    ·rename_i hq
     rw [if_pos hq, yA, if_pos om] at hv'
     exact (hl.rel (q - off) 0 y y' v' hy hy' (by simpa using hv')).mono hk
    ·rename_i hq
     rw [if_neg hq] at hv'
     exact (o8 q 0 y y' v' hy hy' (by simpa using hv')).mono hk)
  exact ⟨_, _, hrun', e1, e2, .v _ _ (.int _ _)⟩
variable {DR : Prop}
variable {S : Nat → Nat → Prop} {h : List AObj} {w : World} {β : Blocks}
theorem HInv.kill (hi : HInv S β w h) (r : Nat) : HInv S β w (h.set r .dead) := by
 have back : ∀ (q : Nat) (y : AObj), (h.set r .dead)[q]? = some y → y.live = true → h[q]? = some y := by
  intro q y gq ly
  rw [zR] at gq
  split at gq
  ·split at gq
   ·cases gq; cases ly
   ·cases gq
  ·exact gq
 refine ⟨by simp [hi.len], fun q o b c k g1 g2 => ?_, fun q o b c k g1 l1 g2 => hi.lt q o b c k (back _ _ g1 l1) l1 g2, fun r1 r2 o1 o2 b c1 k1 c2 k2 g1 l1 g2 l2 g3 g4 => hi.inj r1 r2 o1 o2 b c1 k1 c2 k2 (back _ _ g1 l1) l1 (back _ _ g2 l2) l2 g3 g4,
  fun q o b c k i g1 l1 g2 => hi.own q o b c k i (back _ _ g1 l1) l1 g2, hi.sb, hi.gl, hi.dl⟩
 cases hl : o.live with
 | true => exact hi.obj q o b c k (back _ _ g1 hl) g2
 | false => cases o <;> first | trivial | cases hl
variable {k : Nat}
theorem HInv.move (hi : HInv S β w h) {r b c : Nat} {o : AObj} (hr : h[r]? = some o) (hl : o.live = true) (hb : β[r]? = some (b, c, k)) :
  Ext DR S β w S (β ++ [(b, c, k)]) w ∧ HInv S (β ++ [(b, c, k)]) w (h.set r .dead ++ [o]) := by
 have hp : ∀ (q : Nat) x, β[q]? = some x → (β ++ [(b, c, k)])[q]? = some x := fun q x hx => (yF _ _ _ _).2 (.inl ⟨hx, yE hx⟩)
 have hk := hi.kill r
 have hlen := hi.len
 have hK : Keeps S w S w := fun _ _ h => ⟨h, rfl⟩
 have notr : ∀ (q : Nat) (y : AObj), (h.set r .dead)[q]? = some y → y.live = true → q ≠ r := by
  intro q y gq ly e
  subst e
  rw [zR, if_pos rfl] at gq
  split at gq
  ·cases gq; cases ly
  ·cases gq
 have back : ∀ (q : Nat) (y : AObj), (h.set r .dead)[q]? = some y → y.live = true → h[q]? = some y := by
  intro q y gq ly
  have hne := notr q y gq ly
  rw [zR, if_neg (fun e => hne e.symm)] at gq
  exact gq
 constructor
 ·refine ⟨hK, hp, zL _, fun _ _ _ => rfl, fun q b' c' k' hq => ?_, rfl, rfl, rfl, fun _ => zL _, fun _ _ h => .inl h⟩
  rcases (yF _ _ _ _).1 hq with ⟨h1, _⟩ | ⟨_, h1⟩
  ·exact .inr ⟨q, c', k', h1⟩
  ·cases h1; exact .inr ⟨r, c, _, hb⟩
 ·refine ⟨by simp [hlen], fun q o' b' c' k' g1 g2 => ?_, fun q o' b' c' k' g1 l1 g => ?_, fun q1 q2 o1 o2 b' c1 k1 c2 k2 g1 l1 g2 l2 g3 g4 => ?_, fun q o' b' c' k' i g1 l1 g2 => ?_, hi.sb, hi.gl, fun q b' c' k' hq => ?_⟩
  ·rcases (yF _ _ _ _).1 g1 with ⟨g1, j1⟩ | ⟨j1, g1⟩ <;> rcases (yF _ _ _ _).1 g2 with ⟨g2, j2⟩ | ⟨j2, g2⟩
   ·exact (hk.obj q o' b' c' k' g1 g2).mono hK hp (fun _ => rfl)
   ·simp at j1; omega
   ·simp at j1; omega
   ·cases g2; subst g1; exact (hi.obj r o b c k hr hb).mono hK hp (fun _ => rfl)
  ·rcases (yF _ _ _ _).1 g with ⟨g, jj⟩ | ⟨_, g⟩
   ·rcases (yF _ _ _ _).1 g1 with ⟨g1, j1⟩ | ⟨j1, g1⟩
    ·exact hi.lt q o' b' c' k' (back _ _ g1 l1) l1 g
    ·simp at j1; omega
   ·cases g; exact hi.lt r o b c k hr hl hb
  ·rcases (yF _ _ _ _).1 g1 with ⟨g1, j1⟩ | ⟨j1, g1⟩ <;> rcases (yF _ _ _ _).1 g2 with ⟨g2, j2⟩ | ⟨j2, g2⟩ <;>
    rcases (yF _ _ _ _).1 g3 with ⟨g3, j3⟩ | ⟨j3, g3⟩ <;> rcases (yF _ _ _ _).1 g4 with ⟨g4, j4⟩ | ⟨j4, g4⟩
   ·exact hi.inj q1 q2 o1 o2 b' c1 k1 c2 k2 (back _ _ g1 l1) l1 (back _ _ g2 l2) l2 g3 g4
   all_goals (try simp only [zP] at j1)
   all_goals (try simp only [zP] at j2)
   all_goals first
    | omega
    | (simp only [Prod.mk.injEq] at g4; obtain ⟨q3, q4, q5⟩ := g4; rw [← q3] at g3; have := hi.inj q1 r o1 o b c1 k1 _ _ (back _ _ g1 l1) l1 hr hl g3 hb; exact absurd this (notr q1 o1 g1 l1))
    | (simp only [Prod.mk.injEq] at g3; obtain ⟨q3, q4, q5⟩ := g3; rw [← q3] at g4; have := hi.inj q2 r o2 o b c2 k2 _ _ (back _ _ g2 l2) l2 hr hl g4 hb; exact absurd this (notr q2 o2 g2 l2))
  ·rcases (yF _ _ _ _).1 g1 with ⟨g1, j1⟩ | ⟨j1, g1⟩ <;> rcases (yF _ _ _ _).1 g2 with ⟨g2, j2⟩ | ⟨j2, g2⟩
   ·exact hi.own q o' b' c' k' i (back _ _ g1 l1) l1 g2
   ·simp at j1; omega
   ·simp at j1; omega
   ·cases g2; subst g1; exact hi.own r o b c k i hr hl hb
  ·rcases (yF _ _ _ _).1 hq with ⟨h1, _⟩ | ⟨_, h1⟩
   ·exact hi.dl _ _ _ _ h1
   ·cases h1; exact hi.dl _ _ _ _ hb
variable {P : Program} {e t ty : Nat} {i : TypeInfo}
theorem run_append_zero (ht : P.underlying t = some (.slice e)) (hi : P.info? e = some i) (base base' : Option Addr) (n c c' : Nat) (h : n ≤ c) (w : World) :
  (Builtin.append_ #[t, t] ty #[.slice base n c, .slice base' 0 c']).run P w = .ok (.slice base n c) w := by
 cases base' <;> cases base <;> simp [Builtin.append_, run_underlying ht, run_sizeOf hi, Builtin.lenOf, h, Builtin.firstCells, loadCells, loadCellsFrom, storeCells]
theorem append_room {e' : Nat} (ht : P.underlying t = some (.slice e)) (hi : P.info? e = some i) {g sLen sCap : Nat} {cur : Array Value} (hg : w.heap[g]? = some (.cells cur e' (0, 0)))
  (a : Addr) (m c : Nat) (news : List Value) (hl : news.length = m * i.size) (hnews : ∀ (j : Nat) u, news[j]? = some u → w.cell? (a.add j) = some u) (h1 : ∀ u ∈ news, u.oneCell' = true)
  (hroom : sLen + m ≤ sCap) (hfit : sLen * i.size + news.length ≤ cur.size) :
  (Builtin.append_ #[t, t] ty #[.slice (some ⟨g, 0, none⟩) sLen sCap, .slice (some a) m c]).run P w = .ok (.slice (some ⟨g, 0, none⟩) (sLen + m) sCap) (w.setRow g (spliceA cur (sLen * i.size) news)) := by
 have hf := run_firstCells_some (P := P) w i.size m a m c news hl hnews
 have hst := run_store_own (P := P) (w := w) (off := sLen * i.size) (vs := news) hg hfit h1
 simp [Builtin.append_, run_underlying ht, run_sizeOf hi, Builtin.lenOf, hroom, hf, Addr.add_lit, hst]
theorem size_zeros (z : Array Value) (n : Nat) : (Builtin.zeroCells z n).size = n * z.size := by simp [Builtin.zeroCells]
variable {all : List Value} {ys : List V} {z : Array Value}
theorem grown_own (hi : HInv S β w h) (hk : 0 < k) (hs : Solid k ys) (hl : Laid S w k ys all) (hz : z.size = k) (need old e : Nat) (hneed : need = ys.length) (hm : need ≤ maxLen) :
  ∃ β', Ext DR S β w S β' (w.drew.alloc (.cells (all.toArray ++ Builtin.zeroCells z (grownCap w need old e - need)) e)) ∧
   HInv S β' (w.drew.alloc (.cells (all.toArray ++ Builtin.zeroCells z (grownCap w need old e - need)) e)) (h ++ [.row k ys]) ∧
   RelD S β' (w.drew.alloc (.cells (all.toArray ++ Builtin.zeroCells z (grownCap w need old e - need)) e)) (.slice (some ⟨w.heap.size, 0, none⟩) need (grownCap w need old e)) (.osl h.length 0 need false) := by
 have hge := grownCap_ge w need old e
 have hcm := grownCap_le_maxLen w need old e hm
 have hi' := hi.drew
 have hsz : (all.toArray ++ Builtin.zeroCells z (grownCap w need old e - need)).size = grownCap w need old e * k := by
  simp only [Array.size_append, List.size_toArray, size_zeros, hl.len, hz, ← Nat.add_mul]
  congr 1; omega
 have hkp := keeps_alloc hi' (.cells (all.toArray ++ Builtin.zeroCells z (grownCap w need old e - need)) e) S (fun _ _ h => h)
 obtain ⟨e1, e2⟩ := own_alloc (DR := DR) hi' (all.toArray ++ Builtin.zeroCells z (grownCap w need old e - need)) e (grownCap w need old e) k (.row k ys) rfl
  ⟨rfl, hk, hcm, om, hs, _, e, heap_alloc_new w.drew _, hsz, fun i j x y v hx hy hv => by
   have hj := yE hy
   rw [(hs i x hx).2] at hj
   have := mul_lt_of (k := k) (yE hx) hj
   rw [Array.getElem?_append_left (by simp [hl.len]; exact this)] at hv
   exact RelV.mono hkp (RelV.mono (w := w) (w' := w.drew) (fun _ _ h => ⟨h, rfl⟩) (hl.rel i j x y v hx hy (by simpa using hv)))⟩
 refine ⟨_, (Ext.drew S β w).trans e1, e2, ?_⟩
 refine .osl _ 0 need w.heap.size (grownCap w need old e) k 0 _ false (by rw [← hi.len]; simp) om (by simp) (by simp)
theorem flat_cell {k : Nat} (hk : 0 < k) : ∀ {xs : List V}, Solid k xs → (xs.flatMap V.cells).length = xs.length * k ∧ ∀ (q : Nat) (y : V), (xs.flatMap V.cells)[q]? = some y → ∃ (i j : Nat) (x : V), xs[i]? = some x ∧ x.cells[j]? = some y ∧ q = i * k + j
 | [], _ => ⟨by simp, fun q y h => by simp at h⟩
 | x :: r, hs => by
  have hx := (hs 0 x rfl).2
  obtain ⟨h1, h2⟩ := flat_cell hk (xs := r) (fun i y h => hs (i + 1) y h)
  rw [List.flatMap_cons]
  refine ⟨by rw [List.length_append, h1, hx, List.length_cons, Nat.add_mul]; omega, fun q y h => ?_⟩
  rcases Nat.lt_or_ge q k with g | g
  ·rw [zJ om] at h
   exact ⟨0, q, x, rfl, h, om⟩
  ·rw [zK om] at h
   obtain ⟨i, j, z, e1, e2, e3⟩ := h2 _ y h
   exact ⟨i + 1, j, z, e1, e2, by rw [Nat.add_mul]; omega⟩
theorem grown_grid (hi : HInv S β w h) (hk : 0 < k) {cs : List D} (need old e : Nat) (hal : all.length = need * k) (hcl : cs.length = need * k) (hrel : ∀ (j : Nat) v d, all[j]? = some v → cs[j]? = some d → RelD S β w v d) (hz : z.size = k) (hm : need ≤ maxLen) :
  ∃ β', Ext DR S β w S β' (w.drew.alloc (.cells (all.toArray ++ Builtin.zeroCells z (grownCap w need old e - need)) e)) ∧
   HInv S β' (w.drew.alloc (.cells (all.toArray ++ Builtin.zeroCells z (grownCap w need old e - need)) e)) (h ++ [.grid k cs]) ∧
   RelD S β' (w.drew.alloc (.cells (all.toArray ++ Builtin.zeroCells z (grownCap w need old e - need)) e)) (.slice (some ⟨w.heap.size, 0, none⟩) need (grownCap w need old e)) (.osl h.length 0 need false) := by
 have hge := grownCap_ge w need old e
 have hcm := grownCap_le_maxLen w need old e hm
 have hi' := hi.drew
 have hsz : (all.toArray ++ Builtin.zeroCells z (grownCap w need old e - need)).size = grownCap w need old e * k := by
  simp only [Array.size_append, List.size_toArray, size_zeros, hal, hz, ← Nat.add_mul]
  congr 1; omega
 have hkp := keeps_alloc hi' (.cells (all.toArray ++ Builtin.zeroCells z (grownCap w need old e - need)) e) S (fun _ _ h => h)
 have hle : need * k ≤ grownCap w need old e * k := yD _ hge
 obtain ⟨e1, e2⟩ := own_alloc (DR := DR) hi' (all.toArray ++ Builtin.zeroCells z (grownCap w need old e - need)) e (grownCap w need old e) k (.grid k cs) rfl
  ⟨rfl, hk, hcm, om, _, e, heap_alloc_new w.drew _, hsz, fun j v d hv hd => by
   have hj := yE hd
   rw [Array.getElem?_append_left (by simp [hal]; omega)] at hv
   exact RelD.mono hkp (fun r x hx => (yF _ _ _ _).2 (.inl ⟨hx, yE hx⟩)) (RelD.mono (w := w) (w' := w.drew) (fun _ _ h => ⟨h, rfl⟩) (fun _ _ h => h) (hrel j v d (by simpa using hv) hd))⟩
 refine ⟨_, (Ext.drew S β w).trans e1, e2, ?_⟩
 refine .osl _ 0 need w.heap.size (grownCap w need old e) k 0 _ false (by rw [← hi.len]; simp) om (by simp) (by simp)
theorem grown_tok (hi : HInv S β w h) (hk : 0 < k) (hs : Solid k ys) (hl : Laid S w k ys all) (hz : z.size = k) (need old e : Nat) (hneed : need = ys.length) (hm : need ≤ maxLen) :
  ∃ S' β', Ext DR S β w S' β' (w.drew.alloc (.cells (all.toArray ++ Builtin.zeroCells z (grownCap w need old e - need)) e)) ∧
   HInv S' β' (w.drew.alloc (.cells (all.toArray ++ Builtin.zeroCells z (grownCap w need old e - need)) e)) (h ++ [.tok k need]) ∧
   RelD S' β' (w.drew.alloc (.cells (all.toArray ++ Builtin.zeroCells z (grownCap w need old e - need)) e)) (.slice (some ⟨w.heap.size, 0, none⟩) need (grownCap w need old e)) (.tsl h.length ys) := by
 have hge := grownCap_ge w need old e
 have hcm := grownCap_le_maxLen w need old e hm
 have hi' := hi.drew
 have hsz : (all.toArray ++ Builtin.zeroCells z (grownCap w need old e - need)).size = grownCap w need old e * k := by
  simp only [Array.size_append, List.size_toArray, size_zeros, hl.len, hz, ← Nat.add_mul]
  congr 1; omega
 obtain ⟨e1, e2⟩ := tok_alloc (DR := DR) hi' (all.toArray ++ Builtin.zeroCells z (grownCap w need old e - need)) e (grownCap w need old e) k need hk hcm hge hsz
 refine ⟨_, _, (Ext.drew S β w).trans e1, e2, ?_⟩
 subst hneed
 refine .tsl _ w.heap.size (grownCap w ys.length old e) k ys.length ys (by rw [← hi.len]; simp) rfl hs ?_
 refine rel_sl_of .plain (by decide) hs (heap_alloc_new w.drew _) (fun i hi => .inr ⟨rfl, hi⟩) hge (fun h => by cases h) hcm (by rw [hsz]; exact yD _ hge) (fun i j x y v hx hy hv => ?_)
 have hj := yE hy
 rw [(hs i x hx).2] at hj
 have := mul_lt_of (k := k) (yE hx) hj
 rw [Array.getElem?_append_left (by simp [hl.len]; exact this)] at hv
 exact RelV.mono e1.keeps (RelV.mono (w := w) (w' := w.drew) (fun _ _ h => ⟨h, rfl⟩) (hl.rel i j x y v hx hy (by simpa using hv)))
structure Src (P : Program) (w : World) (S : Nat → Nat → Prop) (t t' ty e k : Nat) (info : TypeInfo) (z u : Value) (xs : List V) : Prop where
 sol : Solid k xs
 zero : xs = [] → ∀ (base : Option Addr) (n c : Nat), n ≤ c → (Builtin.append_ #[t, t'] ty #[.slice base n c, u]).run P w = .ok (.slice base n c) w
 some : xs ≠ [] → ∃ news, Laid S w k xs news ∧
  (∀ {g sLen sCap : Nat} {cur : Array Value} {e' : Nat}, w.heap[g]? = some (.cells cur e' (0, 0)) → sLen + xs.length ≤ sCap → sLen * info.size + news.length ≤ cur.size →
   (Builtin.append_ #[t, t'] ty #[.slice (some ⟨g, 0, none⟩) sLen sCap, u]).run P w = .ok (.slice (some ⟨g, 0, none⟩) (sLen + xs.length) sCap) (w.setRow g (spliceA cur (sLen * info.size) news))) ∧
  (∀ (b : Addr) (sLen sCap : Nat) (olds : List Value), olds.length = sLen * info.size → (∀ (j : Nat) v, olds[j]? = some v → w.cell? (b.add j) = some v) → sCap < sLen + xs.length → ((sLen + xs.length : Nat) : Int) ≤ 9223372036854775807 →
   Builtin.nextslicecap (sLen + xs.length) sCap * info.bytes ≤ 281474976710656 → (Builtin.append_ #[t, t'] ty #[.slice (some b) sLen sCap, u]).run P w = .ok (.slice (some ⟨w.heap.size, 0, none⟩) (sLen + xs.length) (grownCap w (sLen + xs.length) sCap e))
    (w.drew.alloc (.cells (olds.toArray ++ news.toArray ++ Builtin.zeroCells z.cells (grownCap w (sLen + xs.length) sCap e - (sLen + xs.length))) e))) ∧
  ((xs.length : Int) ≤ 9223372036854775807 → xs.length * info.bytes ≤ 281474976710656 → (Builtin.append_ #[t, t'] ty #[.slice none 0 0, u]).run P w =
   .ok (.slice (some ⟨w.heap.size, 0, none⟩) xs.length (grownCap w xs.length 0 e)) (w.drew.alloc (.cells (news.toArray ++ Builtin.zeroCells z.cells (grownCap w xs.length 0 e - xs.length)) e)))
variable {d s x : D} {h' : List AObj} {rowM : Bool} {t' : Nat} {u v : Value}
theorem append_core {T : Nat → Option TI} (hT : ∀ t i, T t = some i → tiOf P t = some i) (hi : HInv S β w h)
  (hd : appendD T rowM t h s x = some (d, h')) (hv : RelD S β w v s)
  (hsrc : ∀ (e : Nat) (i : TI) (info : TypeInfo) (z : Value) (xs : List V), P.underlying t = some (.slice e) → P.info? e = some info → info.zero = some z → info.size = i.size → elemsOf i.size h x.unt = some xs → Src P w S t t' ty e i.size info z u xs) :
  ∃ y w' S' β', (Builtin.append_ #[t, t'] ty #[v, u]).run P w = .ok y w' ∧ Ext DR S β w S' β' w' ∧ HInv S' β' w' h' ∧ RelD S' β' w' y d := by
 unfold appendD at hd
 split at hd
 ·cases hd
 ·rename_i ti hti
  split at hd
  ·rename_i e hke
   split at hd
   ·cases hd
   ·rename_i i hie
    obtain ⟨info, desc, z, g1, g2, g3, g4, g5, g6, g7, g8, _⟩ := tiOf_spec (hT _ _ hti)
    obtain ⟨info', desc', z', k1, k2, k3, k4, k5, k6, k7, k8, _⟩ := tiOf_spec (hT _ _ hie)
    rw [hke] at g5
    have := tkOf_slice g5
    subst this
    split at hd
    ·cases hd
    ·rename_i hsz
     have hsz0 : i.size ≠ 0 := fun h => hsz (.inl h)
     have hzl : i.zero.cells.length = i.size := Decidable.of_not_not fun h => hsz (.inr h)
     have hzs : z'.cells.size = i.size := by rw [((ofValue_rel (S := S) (w := w) k4).cells (ofValue_solid k4)).1, hzl]
     split at hd
     ·cases hd
     ·rename_i xs hxs
      obtain ⟨sx, hzero, hcells⟩ := hsrc e i info' z' xs g2 k1 k3 k7 hxs
      split at hd
      ·-- a value that may be appended to
       rename_i q es
       cases hv with
       | tsl _ b c k n _ hb hn hss hvv =>
       have hval : RelD S β w (.slice (some ⟨b, 0, none⟩) n c) (.v (.sl .plain es)) := .v _ _ hvv
       split at hd
       ·rename_i k' n' hq
        split at hd
        ·rename_i hcond
         obtain ⟨rfl, rfl, hb1, hb2⟩ := hcond
         subst hn
         obtain ⟨rfl, rfl⟩ := zM (zC hd)
         cases xs with
         | nil =>
          have hnc : es.length ≤ c := by
           have hvv' := hvv
           generalize es.length = m at hvv'
           cases hvv' with
           | slemp fl a cap h hf hm => exact Nat.zero_le _
           | sl fl b off cap k' n es vals hn h hf hc hm hk hs' hr => exact hc
          obtain ⟨e1, e2⟩ := hi.move hq rfl hb
          refine ⟨_, w, S, _, hzero rfl _ _ _ hnc, e1, by simpa using e2, ?_⟩
          simp only [List.append_nil]
          exact .tsl _ b c _ _ es (by rw [← hi.len]; simp) rfl hss (hvv.mono e1.keeps)
         | cons x0 xr =>
          obtain ⟨news, hlaid, hroomL, hgrowL, hnilL⟩ := hcells (by simp)
          obtain ⟨rfl, o2, o3, o4, cur, e', o5, o6⟩ := hi.obj q _ b c k hq hb
          have hb2' : es.length + (x0 :: xr).length ≤ 9223372036854775807 := by unfold maxLen at hb2; omega
          have hnl : news.length = (x0 :: xr).length * info'.size := by rw [k7]; exact hlaid.len
          have hxl : (x0 :: xr).length ≠ 0 := by simp
          have hhead : headOk i.size es = true := by
           cases es with
           | nil => rfl
           | cons y0 yr => simp only [headOk, beq_iff_eq]; exact (hss 0 y0 rfl).2
          have hes : elemsOf i.size h (.v (.sl .plain es)) = some es := by simp only [elemsOf, hhead, if_true]
          obtain ⟨ss, sbase, sc, hveq, hsc, hsm, hscells, hxf⟩ := elemsOf_sound hi hes hval
          clear hxf
          simp only [Value.slice.injEq, true_and] at hveq
          obtain ⟨rfl, rfl⟩ := hveq
          have hold : ∃ olds, Laid S w i.size es olds ∧ ∀ (j : Nat) u, olds[j]? = some u → w.cell? ((⟨b, 0, none⟩ : Addr).add j) = some u := by
           by_cases h0 : es = []
           ·rw [h0]; exact ⟨[], ⟨by simp, by simp, fun i j x y u h => by simp at h⟩, fun j u h => by simp at h⟩
           ·obtain ⟨sa, olds, hsa, hol, hocell⟩ := hscells h0
            cases hsa
            exact ⟨olds, hol, hocell⟩
          obtain ⟨olds, hol, hocell⟩ := hold
          have hsol := ss.append sx
          have hlall := Laid.append sx ss hol hlaid
          by_cases hroom : es.length + (x0 :: xr).length ≤ c
          ·-- it fits
           have hfit : es.length * i.size + news.length ≤ cur.size := by rw [hlaid.len, o6, ← Nat.add_mul]; exact yD _ hroom
           have hrun := hroomL o5 hroom (by rw [k7]; exact hfit)
           rw [k7] at hrun
           have hg' := setRow_heap w b cur (spliceA cur (es.length * i.size) news) e' _ o5
           obtain ⟨e1, e2⟩ := tok_write (w' := w.setRow b (spliceA cur (es.length * i.size) news)) (n' := es.length + (x0 :: xr).length) hi hq hb o5 hg' (by rw [spliceA_size hfit]; exact o6)
            (fun j hj => by rw [spliceA_get hfit, if_neg om]) om hroom (by simp) (fun j hj => setRow_other w b j _ hj) rfl rfl rfl (zL _)
           obtain ⟨e3, e4⟩ := e2.move (DR := DR) (r := q) (o := .tok i.size (es.length + (x0 :: xr).length)) (by rw [zR]; simp [yE hq]) rfl hb
           rw [List.set_set] at e4
           refine ⟨_, _, _, _, hrun, e1.trans e3, e4, ?_⟩
           refine .tsl _ b c i.size (es.length + (x0 :: xr).length) _ (by rw [← hi.len]; simp) (by simp) hsol ?_
           have hcat : es.length + (x0 :: xr).length = (es ++ x0 :: xr).length := by simp
           have e1' := e1
           rw [hcat] at e1' ⊢
           refine rel_sl_of .plain (by decide) hsol hg' (fun i hi => .inr ⟨rfl, hi⟩) (by rw [← hcat]; exact hroom) (fun h => by cases h) o3 (by rw [spliceA_size hfit, o6, ← hcat]; exact yD _ hroom) (fun i' j x y u h1 h2 h3 => ?_)
           have hj := yE h2
           rw [(hsol i' x h1).2] at hj
           refine RelV.mono e1'.keeps (hlall.rel i' j x y u h1 h2 ?_)
           rw [spliceA_get hfit] at h3
           by_cases hi' : i' < es.length
           ·have h4 := mul_lt_of (k := i.size) hi' hj
            rw [if_neg om] at h3
            rw [zJ (by rw [hol.len]; exact h4)]
            have h5 := zA (l := olds) (i := i' * i.size + j) (by rw [hol.len]; exact h4)
            have h6 := hocell _ _ h5
            rw [Addr.add_lit, Nat.zero_add, cell_own o5, h3] at h6
            rw [h5, ← h6]
           ·have h5 : es.length * i.size ≤ i' * i.size := yD _ om
            rw [zK om] at h1
            have h6 := mul_lt_of (k := i.size) (yE h1) hj
            rw [if_pos (by rw [hlaid.len]; rw [Nat.sub_mul] at h6; omega)] at h3
            rw [zK (by rw [hol.len]; omega), hol.len]
            exact h3
          ·-- it grows
           have hrun := hgrowL ⟨b, 0, none⟩ es.length c olds (by rw [k7, hol.len]) hocell om om
            (growslice_fits om (by rw [k8]; omega))
           obtain ⟨S', β', e1, e2, e3⟩ := grown_tok (DR := DR) (hi.kill q) om hsol hlall hzs (es.length + (x0 :: xr).length) c e (by simp) om
           have ea : (olds ++ news).toArray = olds.toArray ++ news.toArray := by simp
           rw [ea] at e1 e2 e3
           exact ⟨_, _, S', β', hrun, e1, e2, by simpa using e3⟩
        ·cases hd
       ·cases hd
      ·-- a value
       rename_i fl es
       split at hd
       ·obtain ⟨rfl, rfl⟩ := zM (zC hd)
        have hv' := hv.of_v
        have hpad : ∃ β', Ext DR S β w S β' w ∧ HInv S β' w (h ++ [.dead]) := ⟨_, hi.pad⟩
        obtain ⟨β', e1, e2⟩ := hpad
        have hv2 := hv.mono e1.keeps e1.pre
        cases hv' with
        | slnil fl h => exact ⟨_, w, S, β', hzero rfl _ _ _ (zL _), e1, e2, hv2⟩
        | slemp fl a cap h hf hm => exact ⟨_, w, S, β', hzero rfl _ _ _ (Nat.zero_le _), e1, e2, hv2⟩
        | sl fl b off cap k' n es vals hn h hf hc hm hk hs' hr => exact ⟨_, w, S, β', hzero rfl _ _ _ hc, e1, e2, hv2⟩
       ·rename_i x0 xr
        split at hd
        ·rename_i hcond
         simp only [Bool.and_eq_true, decide_eq_true_eq] at hcond
         obtain ⟨⟨⟨hfull, hall⟩, hb1⟩, hb2⟩ := hcond
         have split2 : ∀ {hh : List AObj} {y : Value} {w' : World} {A : Prop}, (∃ β', A ∧ Ext DR S β w S β' w' ∧ HInv S β' w' (h ++ [.row i.size (es ++ x0 :: xr)]) ∧ RelD S β' w' y (.osl h.length 0 (es.length + (x0 :: xr).length) false)) →
           (∃ S' β', A ∧ Ext DR S β w S' β' w' ∧ HInv S' β' w' (h ++ [.tok i.size (es.length + (x0 :: xr).length)]) ∧ RelD S' β' w' y (.tsl h.length (es ++ x0 :: xr))) → ∃ S' β', A ∧ Ext DR S β w S' β' w' ∧ HInv S' β' w' h' ∧ RelD S' β' w' y d := by
          intro hh y w' A h1 h2
          split at hd
          ·obtain ⟨rfl, rfl⟩ := zM (zC hd)
           obtain ⟨β', h1⟩ := h1
           exact ⟨S, β', h1⟩
          ·obtain ⟨rfl, rfl⟩ := zM (zC hd)
           exact h2
         obtain ⟨news, hlaid, hroomL, hgrowL, hnilL⟩ := hcells (by simp)
         have hes : elemsOf i.size h (.v (.sl fl es)) = some es := by simp only [elemsOf, hall, if_true]
         obtain ⟨ss, sbase, sc, rfl, hsc, hsm, hscells, hsfull⟩ := elemsOf_sound hi hes hv
         obtain ⟨hsc', hsnil⟩ := hsfull fl es rfl hfull
         subst hsc'
         have hxl : (x0 :: xr).length ≠ 0 := by simp
         have hb2' : es.length + (x0 :: xr).length ≤ 9223372036854775807 := by unfold maxLen at hb2; omega
         have hnl : news.length = (x0 :: xr).length * info'.size := by rw [k7]; exact hlaid.len
         cases es with
         | nil =>
          -- nothing was there
          have hdone : ∃ y, (Builtin.append_ #[t, t'] ty #[.slice sbase 0 0, u]).run P w = .ok (.slice (some ⟨w.heap.size, 0, none⟩) (x0 :: xr).length (grownCap w (x0 :: xr).length 0 e)) y ∧
            y = w.drew.alloc (.cells (news.toArray ++ Builtin.zeroCells z'.cells (grownCap w (x0 :: xr).length 0 e - (x0 :: xr).length)) e) := by
           cases sbase with
           | none => exact ⟨_, hnilL (by simp only [List.length_nil] at hb2'; omega) (by rw [k8]; simp only [List.length_nil, Nat.zero_add] at hb1; omega), rfl⟩
           | some sa =>
            have := hgrowL sa 0 0 [] (by simp) (fun j v hv => by simp at hv) om (by simp only [List.length_nil] at hb2'; omega)
             (growslice_fits om (by rw [k8]; simp only [List.length_nil] at hb1; omega))
            simp only [Nat.zero_add, Array.empty_append] at this
            exact ⟨_, this, rfl⟩
          obtain ⟨y, hrun, rfl⟩ := hdone
          obtain ⟨β', e1, e2, e3⟩ := grown_own (DR := DR) hi om sx hlaid hzs (x0 :: xr).length 0 e rfl (by simp only [List.length_nil] at hb2; omega)
          obtain ⟨S2, β2, f1, f2, f3⟩ := grown_tok (DR := DR) hi om sx hlaid hzs (x0 :: xr).length 0 e rfl (by simp only [List.length_nil] at hb2; omega)
          obtain ⟨S', β'', q1, q2, q3, q4⟩ := split2 (hh := h) ⟨β', hrun, e1, by simpa using e2, by simpa using e3⟩ ⟨S2, β2, hrun, f1, by simpa using f2, by simpa using f3⟩
          exact ⟨_, _, S', β'', q1, q2, q3, q4⟩
         | cons y0 yr =>
          obtain ⟨sa, olds, rfl, hol, hocell⟩ := hscells (by simp)
          have hrun := hgrowL sa (y0 :: yr).length (y0 :: yr).length olds (by rw [k7]; exact hol.len) hocell om om
           (growslice_fits om (by rw [k8]; omega))
          obtain ⟨β', e1, e2, e3⟩ := grown_own (DR := DR) hi om (ss.append sx) (Laid.append sx ss hol hlaid) hzs ((y0 :: yr).length + (x0 :: xr).length) (y0 :: yr).length e (by simp; omega) om
          obtain ⟨S2, β2, f1, f2, f3⟩ := grown_tok (DR := DR) hi om (ss.append sx) (Laid.append sx ss hol hlaid) hzs ((y0 :: yr).length + (x0 :: xr).length) (y0 :: yr).length e (by simp; omega) om
          have ea : (olds ++ news).toArray = olds.toArray ++ news.toArray := by simp
          rw [ea] at e1 e2 e3 f1 f2 f3
          obtain ⟨S', β'', q1, q2, q3, q4⟩ := split2 (hh := h) ⟨β', hrun, e1, e2, e3⟩ ⟨S2, β2, hrun, f1, f2, f3⟩
          exact ⟨_, _, S', β'', q1, q2, q3, q4⟩
        ·cases hd
      ·-- an own slice
       rename_i r off len full
       by_cases hrw : rowM = false
       ·rw [if_pos hrw] at hd; cases hd
       rw [if_neg hrw] at hd
       split at hd
       ·rename_i k' es hes
        split at hd
        ·rename_i hcond
         obtain ⟨rfl, hle, hb1, hb2⟩ := hcond
         cases hv with
         | osl r off len b c k' p cap full hb hlen hp hcap =>
         obtain ⟨o1, o2, o3, o4, o5, cur, e', o6, o7, o8⟩ := hi.obj r _ b c _ hes hb
         subst o1
         subst hp
         have hb2' : len + xs.length ≤ 9223372036854775807 := by unfold maxLen at hb2; omega
         have hlc : len ≤ cap := by rw [hcap]; split <;> omega
         have helems : elemsOf i.size h (.osl r off len full) = some ((es.drop off).take len) := by simp [elemsOf, hes, hle]
         obtain ⟨ss, sbase, sc, hveq, hsc, hsm, hscells, hxf⟩ := elemsOf_sound hi helems (.osl r off len b c _ _ cap full hb hlen rfl hcap)
         clear hxf
         have hel : ((es.drop off).take len).length = len := by simp; omega
         split at hd
         ·rename_i hfull
          split at hd
          ·obtain ⟨rfl, rfl⟩ := zM (zC hd)
           exact ⟨_, w, S, β, hzero rfl _ _ _ hlc, Ext.refl _ _ _, hi, .osl r off len b c _ _ cap full hb hlen rfl hcap⟩
          ·rename_i x0 xr
           obtain ⟨rfl, rfl⟩ := zM (zC hd)
           obtain ⟨news, hlaid, hroomL, hgrowL, hnilL⟩ := hcells (by simp)
           rw [if_pos hfull] at hcap
           subst hcap
           have hxl : (x0 :: xr).length ≠ 0 := by simp
           have hnl : news.length = (x0 :: xr).length * info'.size := by rw [k7]; exact hlaid.len
           -- the old cells
           have hold : ∃ olds, Laid S w i.size ((es.drop off).take cap) olds ∧ ∀ (j : Nat) u, olds[j]? = some u → w.cell? ((⟨b, off * i.size, none⟩ : Addr).add j) = some u := by
            by_cases h0 : (es.drop off).take cap = []
            ·rw [h0]; exact ⟨[], ⟨by simp, by simp, fun i j x y u h => by simp at h⟩, fun j u h => by simp at h⟩
            ·obtain ⟨sa, olds, hsa, hol, hocell⟩ := hscells h0
             rw [hsa] at hveq
             simp only [Value.slice.injEq, Option.some.injEq] at hveq
             obtain ⟨rfl, _, _⟩ := hveq
             exact ⟨olds, hol, hocell⟩
           obtain ⟨olds, hol, hocell⟩ := hold
           have hrun := hgrowL ⟨b, off * i.size, none⟩ cap cap olds (by rw [k7, hol.len, hel]) hocell om om
            (growslice_fits om (by rw [k8]; omega))
           obtain ⟨β', e1, e2, e3⟩ := grown_own (DR := DR) hi om (ss.append sx) (Laid.append sx ss hol hlaid) hzs (cap + (x0 :: xr).length) cap e (by simp only [List.length_append, hel]) om
           have ea : (olds ++ news).toArray = olds.toArray ++ news.toArray := by simp
           rw [ea] at e1 e2 e3
           exact ⟨_, _, S, β', hrun, e1, e2, e3⟩
         ·rename_i hfull
          split at hd
          ·rename_i hoff
           subst hoff
           obtain ⟨rfl, rfl⟩ := zM (zC hd)
           simp only [hfull, if_false, Nat.sub_zero, Bool.false_eq_true] at hcap
           subst hcap
           simp only [Nat.zero_mul, List.drop_zero, Nat.zero_add] at *
           have hsmall : Solid i.size (es.take len) := by simpa using ss
           by_cases hx0 : xs = []
           ·subst hx0
            have hrun := hzero rfl (some ⟨b, 0, none⟩) len cap hlc
            obtain ⟨e1, e2⟩ := own_write (DR := DR) (o' := .row i.size (es.take len)) hi hes rfl hb rfl (fun _ _ => rfl) rfl rfl rfl (zL _) rfl (fun hk => ⟨rfl, o2, o3, by simp; omega, hsmall, cur, e', o6, o7, fun i' j x y v' h1 h2 h3 => by
             rw [yA] at h1
             split at h1
             ·exact o8 i' j x y v' h1 h2 h3
             ·cases h1⟩)
            obtain ⟨e3, e4⟩ := e2.move (DR := DR) (r := r) (o := .row i.size (es.take len)) (by rw [zR]; simp [yE hes]) rfl hb
            rw [List.set_set] at e4
            refine ⟨_, w, S, _, hrun, e1.trans e3, by simpa using e4, ?_⟩
            exact .osl _ 0 len b cap i.size 0 cap false (by rw [← hi.len]; simp) om (by simp) (by simp)
           ·obtain ⟨news, hlaid, hroomL, hgrowL, hnilL⟩ := hcells hx0
            have hnl : news.length = xs.length * info'.size := by rw [k7]; exact hlaid.len
            by_cases hroom : len + xs.length ≤ cap
            ·-- it fits
             have hfit : len * i.size + news.length ≤ cur.size := by rw [hlaid.len, o7, ← Nat.add_mul]; exact yD _ hroom
             have hrun := hroomL o6 hroom (by rw [k7]; exact hfit)
             rw [k7] at hrun
             have hsol2 := hsmall.append sx
             obtain ⟨e1, e2⟩ := own_write (DR := DR) (o' := .row i.size (es.take len ++ xs)) (w' := w.setRow b (spliceA cur (len * i.size) news)) hi hes rfl hb (by simp) (fun j hj => setRow_other w b j _ hj) rfl rfl rfl (zL _) rfl
              (fun hk => ⟨rfl, o2, o3, by simp; omega, hsol2, _, e', setRow_heap w b cur _ e' _ o6, by rw [spliceA_size hfit]; exact o7, fun i' j x y v' h1 h2 h3 => by
               have hj := yE h2
               rw [(hsol2 i' x h1).2] at hj
               rw [spliceA_get hfit] at h3
               refine RelV.mono hk ?_
               by_cases hi' : i' < len
               ·have h4 := mul_lt_of (k := i.size) hi' hj
                rw [if_neg om] at h3
                rw [zJ (by simp; omega), yA, if_pos hi'] at h1
                exact o8 i' j x y v' h1 h2 h3
               ·have h5 : len * i.size ≤ i' * i.size := yD _ om
                rw [zK (by simp; omega)] at h1
                have hmin : (es.take len).length = len := by simp; omega
                rw [hmin] at h1
                have h6 := mul_lt_of (k := i.size) (yE h1) hj
                have e5 : i' * i.size + j - len * i.size = (i' - len) * i.size + j := by rw [Nat.sub_mul]; omega
                rw [if_pos (by rw [hlaid.len]; rw [Nat.sub_mul] at h6; omega), e5] at h3
                exact hlaid.rel (i' - len) j x y v' h1 h2 h3⟩)
             obtain ⟨e3, e4⟩ := e2.move (DR := DR) (r := r) (o := .row i.size (es.take len ++ xs)) (by rw [zR]; simp [yE hes]) rfl hb
             rw [List.set_set] at e4
             refine ⟨_, _, S, _, hrun, e1.trans e3, e4, ?_⟩
             exact .osl _ 0 (len + xs.length) b cap i.size 0 cap false (by rw [← hi.len]; simp) om (by simp) (by simp)
            ·-- it grows
             have hold : ∃ olds, Laid S w i.size (es.take len) olds ∧ ∀ (j : Nat) u, olds[j]? = some u → w.cell? ((⟨b, 0, none⟩ : Addr).add j) = some u := by
              by_cases h0 : es.take len = []
              ·rw [h0]; exact ⟨[], ⟨by simp, by simp, fun i j x y u h => by simp at h⟩, fun j u h => by simp at h⟩
              ·obtain ⟨sa, olds, hsa, hol, hocell⟩ := hscells (by simpa using h0)
               rw [hsa] at hveq
               simp only [Value.slice.injEq, Option.some.injEq] at hveq
               obtain ⟨rfl, _, _⟩ := hveq
               exact ⟨olds, by simpa using hol, hocell⟩
             obtain ⟨olds, hol, hocell⟩ := hold
             have htl : (es.take len).length = len := by simp; omega
             have hrun := hgrowL ⟨b, 0, none⟩ len cap olds (by rw [k7, hol.len, htl]) hocell om om
              (growslice_fits om (by rw [k8]; omega))
             obtain ⟨β', e1, e2, e3⟩ := grown_own (DR := DR) (hi.kill r) om (hsmall.append sx) (Laid.append sx hsmall hol hlaid) hzs (len + xs.length) cap e (by simp only [List.length_append, htl]) om
             have ea : (olds ++ news).toArray = olds.toArray ++ news.toArray := by simp
             rw [ea] at e1 e2 e3
             refine ⟨_, _, S, β', hrun, e1, e2, by simpa using e3⟩
          ·cases hd
        ·cases hd
       ·-- cells that lead to own memory
        rename_i k' cs hes
        split at hd
        ·rename_i hcond
         obtain ⟨rfl, rfl, rfl, hcl, hb1, hb2⟩ := hcond
         obtain ⟨rfl, rfl⟩ := zM (zC hd)
         cases hv with
         | osl r off len b c k' p cap full hb hlen hp hcap =>
         obtain ⟨o1, o2, o3, o4, cur, e', o6, o7, o8⟩ := hi.obj r _ b c _ hes hb
         subst o1
         simp only [Nat.zero_mul] at hp
         subst hp
         simp only [Bool.false_eq_true, if_false, Nat.sub_zero] at hcap
         subst hcap
         simp only [Nat.zero_add] at hlen
         have hb2' : len + xs.length ≤ 9223372036854775807 := by unfold maxLen at hb2; omega
         obtain ⟨f1, f2⟩ := flat_cell o2 sx
         have hml : (cs.map D.unt).length = len * i.size := by rw [List.length_map, hcl]
         have hold : ∀ (j : Nat) v' d', cur[j]? = some v' → (cs.map D.unt)[j]? = some d' → RelD S β w v' d' := fun j v' d' h1 h2 => by
          rw [zG] at h2
          obtain ⟨d0, h3, rfl⟩ := zB.1 h2
          exact (o8 j v' d0 h1 h3).unt
         by_cases hx0 : xs = []
         ·subst hx0
          have hrun := hzero rfl (some ⟨b, 0, none⟩) len cap hlen
          obtain ⟨e1, e2⟩ := own_write (DR := DR) (o' := .grid i.size (cs.map D.unt)) hi hes rfl hb rfl (fun _ _ => rfl) rfl rfl rfl (zL _) rfl (fun hk => ⟨rfl, o2, o3, by rw [List.length_map]; exact o4, cur, e', o6, o7, hold⟩)
          obtain ⟨e3, e4⟩ := e2.move (DR := DR) (r := r) (o := .grid i.size (cs.map D.unt)) (by rw [zR]; simp [yE hes]) rfl hb
          rw [List.set_set] at e4
          refine ⟨_, w, S, _, hrun, e1.trans e3, by simpa using e4, ?_⟩
          exact .osl _ 0 len b cap i.size 0 cap false (by rw [← hi.len]; simp) om (by simp) (by simp)
         ·obtain ⟨news, hlaid, hroomL, hgrowL, hnilL⟩ := hcells hx0
          have hnl : news.length = xs.length * info'.size := by rw [k7]; exact hlaid.len
          have hnew : ∀ (q : Nat) v' d', news[q]? = some v' → ((xs.flatMap V.cells).map D.v)[q]? = some d' → RelD S β w v' d' := fun q v' d' h1 h2 => by
           rw [zG] at h2
           obtain ⟨y, h3, rfl⟩ := zB.1 h2
           obtain ⟨i', j', x', g1, g2, rfl⟩ := f2 q y h3
           exact .v _ _ (hlaid.rel i' j' x' y v' g1 g2 h1)
          have hcl2 : (cs.map D.unt ++ (xs.flatMap V.cells).map D.v).length = (len + xs.length) * i.size := by
           rw [List.length_append, hml, List.length_map, f1, Nat.add_mul]
          by_cases hroom : len + xs.length ≤ cap
          ·have hfit : len * i.size + news.length ≤ cur.size := by rw [hlaid.len, o7, ← Nat.add_mul]; exact yD _ hroom
           have hrun := hroomL o6 hroom (by rw [k7]; exact hfit)
           rw [k7] at hrun
           obtain ⟨e1, e2⟩ := own_write (DR := DR) (o' := .grid i.size (cs.map D.unt ++ (xs.flatMap V.cells).map D.v)) (w' := w.setRow b (spliceA cur (len * i.size) news)) hi hes rfl hb (by simp) (fun j hj => setRow_other w b j _ hj) rfl rfl rfl (zL _) rfl
            (fun hk => ⟨rfl, o2, o3, by rw [hcl2]; exact yD _ hroom, _, e', setRow_heap w b cur _ e' _ o6, by rw [spliceA_size hfit]; exact o7, fun j v' d' h1 h2 => by
             rw [spliceA_get hfit] at h1
             refine RelD.mono hk (fun _ _ h => h) ?_
             rcases Nat.lt_or_ge j (len * i.size) with g | g
             ·rw [if_neg om] at h1
              rw [zJ om] at h2
              exact hold j v' d' h1 h2
             ·rw [zK om, hml] at h2
              have h5 := yE h2
              rw [List.length_map, f1] at h5
              rw [if_pos (by rw [hlaid.len]; omega)] at h1
              exact hnew _ v' d' h1 h2⟩)
           obtain ⟨e3, e4⟩ := e2.move (DR := DR) (r := r) (o := .grid i.size (cs.map D.unt ++ (xs.flatMap V.cells).map D.v)) (by rw [zR]; simp [yE hes]) rfl hb
           rw [List.set_set] at e4
           refine ⟨_, _, S, _, hrun, e1.trans e3, e4, ?_⟩
           exact .osl _ 0 (len + xs.length) b cap i.size 0 cap false (by rw [← hi.len]; simp) om (by simp) (by simp)
          ·have hol : (cur.toList.take (len * i.size)).length = len * i.size := by
            rw [zW, Array.length_toList, o7]
            exact Nat.min_eq_left (yD _ hlen)
           have hrun := hgrowL ⟨b, 0, none⟩ len cap (cur.toList.take (len * i.size)) (by rw [k7, hol]) (fun j u hu => by
             rw [Addr.add_lit, cell_own o6]
             rw [yA] at hu
             split at hu
             ·simpa using hu
             ·cases hu) om om
            (growslice_fits om (by rw [k8]; omega))
           obtain ⟨β', e1, e2, e3⟩ := grown_grid (DR := DR) (hi.kill r) o2 (cs := cs.map D.unt ++ (xs.flatMap V.cells).map D.v) (all := cur.toList.take (len * i.size) ++ news) (len + xs.length) cap e (by rw [List.length_append, hol, hlaid.len, Nat.add_mul]) hcl2 (fun j v' d' h1 h2 => by
            rcases Nat.lt_or_ge j (len * i.size) with g | g
            ·rw [zJ om, yA, if_pos g] at h1
             rw [zJ om] at h2
             exact hold j v' d' (by simpa using h1) h2
            ·rw [zK om, hol] at h1
             rw [zK om, hml] at h2
             exact hnew _ v' d' h1 h2) hzs om
           have ea : (cur.toList.take (len * i.size) ++ news).toArray = (cur.toList.take (len * i.size)).toArray ++ news.toArray := by simp
           rw [ea] at e1 e2 e3
           refine ⟨_, _, S, β', hrun, e1, e2, by simpa using e3⟩
        ·cases hd
       ·cases hd
      ·cases hd
  ·cases hd
theorem append_sound {T : Nat → Option TI} (hT : ∀ t i, T t = some i → tiOf P t = some i) (hi : HInv S β w h)
  (hd : appendD T rowM t h s x = some (d, h')) (hv : RelD S β w v s) (hu : RelD S β w u x) :
  ∃ y w' S' β', (Builtin.append_ #[t, t] ty #[v, u]).run P w = .ok y w' ∧ Ext DR S β w S' β' w' ∧ HInv S' β' w' h' ∧ RelD S' β' w' y d := by
 refine append_core hT hi hd hv fun e i info z xs g2 k1 k3 k7 hxs => ?_
 obtain ⟨sx, base', c', rfl, hc', hm', hcells, hxf⟩ := elemsOf_sound hi hxs hu.unt
 refine ⟨sx, fun h0 base n c hn => ?_, fun h0 => ?_⟩
 ·subst h0
  exact run_append_zero g2 k1 base base' n c c' hn w
 ·obtain ⟨a, news, rfl, hlaid, hncell⟩ := hcells h0
  have hnl : news.length = xs.length * info.size := by rw [k7]; exact hlaid.len
  have hxl : 0 < xs.length := by cases xs with
   | nil => exact absurd rfl h0
   | cons y r => simp
  refine ⟨news, hlaid, fun {g sLen sCap cur e'} hg hroom hfit => append_room g2 k1 hg a xs.length c' news hnl hncell hlaid.one hroom hfit,
   fun b sLen sCap olds hlo ho hlt h63 hfit => run_append_grow (P := P) w t ty e info z g2 k1 k3 b sLen sCap olds hlo ho a xs.length c' news hnl hncell hlt h63 hfit,
   fun h63 h48 => run_append_nil w t ty e info z g2 k1 k3 a _ c' news hnl hncell hxl h63 h48⟩
theorem bytesV_laid (S : Nat → Nat → Prop) (w : World) (b : ByteArray) : Solid 1 (bytesV b) ∧ Laid S w 1 (bytesV b) (Lib.strCells b) := by
 have hl : (bytesV b).length = b.size := by simp [bytesV]
 refine ⟨fun i x hx => ?_, ⟨by rw [Lib.strCells_length, hl, Nat.mul_one], fun u hu => Lib.strCells_oneCell b u hu, fun i j x y u h1 h2 h3 => ?_⟩⟩
 ·obtain ⟨c, _, rfl⟩ := List.mem_map.1 (zE hx)
  exact ⟨rfl, rfl⟩
 ·simp only [bytesV, zG, zB] at h1
  obtain ⟨c, hc, rfl⟩ := h1
  have hj := yE h2
  have : j = 0 := by simp [V.cells] at hj; exact hj
  subst this
  cases h2
  simp only [Lib.strCells, zG, Nat.mul_one, Nat.add_zero, hc, Option.map_some, Option.some.injEq] at h3
  subst h3
  exact .int _ _
theorem append_str_sound {T : Nat → Option TI} (hT : ∀ t i, T t = some i → tiOf P t = some i) (hi : HInv S β w h)
  (hd : appendStrD T rowM t t' h s x = some (d, h')) (hv : RelD S β w v s) (hu : RelD S β w u x) :
  ∃ y w' S' β', (Builtin.append_ #[t, t'] ty #[v, u]).run P w = .ok y w' ∧ Ext DR S β w S' β' w' ∧ HInv S' β' w' h' ∧ RelD S' β' w' y d := by
 unfold appendStrD at hd
 split at hd <;> try (cases hd; done)
 rename_i i' b hti'
 split at hd <;> try (cases hd; done)
 rename_i hk'
 obtain ⟨_, desc, _, _, g2', _, _, g5', _⟩ := tiOf_spec (hT _ _ hti')
 rw [hk'] at g5'
 have hdesc := tkOf_str g5'
 subst hdesc
 cases hu with
 | v _ _ hu => cases hu with
 | str b =>
 refine append_core hT hi hd hv fun e i info z xs g2 k1 k3 k7 hxs => ?_
 have hb := bytesV_laid S w b
 have hbl : (bytesV b).length = b.size := by simp [bytesV]
 simp only [D.unt, elemsOf] at hxs
 split at hxs <;> try (cases hxs; done)
 rename_i hh
 cases hxs
 by_cases h0 : bytesV b = []
 ·refine ⟨fun i x hx => by rw [h0] at hx; simp at hx, fun _ base n c hn => ?_, fun h => absurd h0 h⟩
  have hz : b.size = 0 := by rw [← hbl, h0]; rfl
  have hf := Lib.run_firstCells_string (P := P) w info.size b
  have hc : Lib.strCells b = [] := List.eq_nil_of_length_eq_zero (by rw [Lib.strCells_length, hz])
  rw [hz] at hf
  cases base <;> simp [Builtin.append_, run_underlying g2, run_underlying g2', run_sizeOf k1, Builtin.lenOf, hz, hn, hf, hc, storeCells]
 ·have h1 : i.size = 1 := by
   cases hbv : bytesV b with
   | nil => exact absurd hbv h0
   | cons y r =>
    rw [hbv] at hh
    simp only [headOk, beq_iff_eq] at hh
    rw [← hh]
    exact (hb.1 0 y (by rw [hbv]; rfl)).2
  rw [h1] at k7 ⊢
  refine ⟨hb.1, fun h => absurd h h0, fun _ => ⟨_, hb.2, fun {g sLen sCap cur e'} hg hroom hfit => ?_, fun a sLen sCap olds hlo ho hlt h63 hfit => ?_, fun h63 h48 => ?_⟩⟩
  ·rw [hbl] at hroom ⊢
   rw [k7, Nat.mul_one] at hfit ⊢
   have hf := Lib.run_firstCells_string (P := P) w 1 b
   have hst := run_store_own (P := P) (w := w) (off := sLen) (vs := Lib.strCells b) hg hfit (Lib.strCells_oneCell b)
   simp [Builtin.append_, run_underlying g2, run_underlying g2', run_sizeOf k1, k7, Builtin.lenOf, hroom, hf, Addr.add_lit, hst]
  ·rw [hbl] at hlt h63 hfit ⊢
   exact Lib.run_append_grow_string (P := P) w t t' ty e info z g2 g2' k1 k3 a sLen sCap olds hlo ho b hlt h63 hfit
  ·rw [hbl] at h63 h48 ⊢
   have := run_append_nil_string (P := P) w t t' ty e info z g2 g2' k1 k3 b (by rw [← hbl]; exact List.length_pos_iff.2 h0) h63 h48
   have ea : (Lib.strCells b).toArray = b.data.map fun b => Value.int .u8 b.toNat := by apply Array.ext'; simp [Lib.strCells]
   rw [this, ea]
variable {S : Nat → Nat → Prop} {d : D} {v : Value} {w : World} {β : Blocks}
theorem natOf_spec {n : Nat} (h : natOf d = some n) (hv : RelD S β w v d) : ∃ k, v = .int k n := by
 unfold natOf at h
 split at h
 ·split at h
  ·cases h
   cases hv.of_v
   exact ⟨_, by congr 1; omega⟩
  ·cases h
 ·cases h
variable {P : Program}
theorem run_bound (k : IntKind) (n y : Nat) (c : BoundsCode) (h : n ≤ y) : (Instr.sliceBound (.int k n) y c).run P w = .ok n w := by
 simp only [Instr.sliceBound, asIntOf, Sem.run_bind, Sem.run_pure, Result.andThen_ok]
 rw [if_pos om]
 simp
def RelO (S : Nat → Nat → Prop) (β : Blocks) (w : World) (v : Option Value) (d : Option D) : Prop := match v, d with
 | none, none => True
 | some v, some d => RelD S β w v d
 | _, _ => False
variable {lo mx : Option D} {vhi vlo vmx : Option Value}
theorem bounds_sound (isSlice : Bool) {len cap : Nat} (hlc : len ≤ cap) {hi : Option D} {l h : Nat} {m : Option Nat}
  (hb : boundsD len lo hi mx = some (l, h, m)) (h1 : RelO S β w vlo lo) (h2 : RelO S β w vhi hi) (h3 : RelO S β w vmx mx) :
  (Instr.sliceBounds isSlice len cap vlo vhi vmx).run P w = .ok (l, h, m.getD cap) w ∧ l ≤ h ∧ h ≤ m.getD cap ∧ m.getD cap ≤ cap ∧ h ≤ len := by
 unfold boundsD at hb
 split at hb
 ·rename_i l' h' hl hh
  split at hb
  ·cases hb
   cases vmx with
   | some _ => exact h3.elim
   | none =>
   have hhr : ∀ (code : BoundsCode), (match vhi with | some v => Instr.sliceBound v cap code | none => pure len : Sem Nat).run P w = .ok h w := by
    intro code
    cases hi with
    | none => cases vhi with
     | none => simp [natOr] at hh; subst hh; rfl
     | some _ => exact h2.elim
    | some d => cases vhi with
     | none => exact h2.elim
     | some v => obtain ⟨k, rfl⟩ := natOf_spec hh h2; exact run_bound k h cap code om
   have hlr : ∀ (code : BoundsCode), (match vlo with | some v => Instr.sliceBound v h code | none => pure 0 : Sem Nat).run P w = .ok l w := by
    intro code
    cases lo with
    | none => cases vlo with
     | none => simp [natOr] at hl; subst hl; rfl
     | some _ => exact h1.elim
    | some d => cases vlo with
     | none => exact h1.elim
     | some v => obtain ⟨k, rfl⟩ := natOf_spec hl h1; exact run_bound k l h code om
   refine ⟨?_, om, by simp; omega, by simp, om⟩
   simp only [Instr.sliceBounds, Sem.run_bind, Sem.run_pure, Result.andThen_ok, Option.isSome_none]
   have e1 := hhr (if isSlice = true then .sliceAcap else .sliceAlen)
   have e2 := hlr .sliceB
   cases vhi <;> cases vlo <;> simp_all
  ·cases hb
 ·rename_i l' h' m0 hl hh
  split at hb
  ·rename_i m' dh hm
   split at hb
   ·rename_i hc
    cases hb
    cases vmx with
    | none => exact h3.elim
    | some vm =>
     obtain ⟨km, rfl⟩ := natOf_spec hm h3
     cases vhi with
     | none => exact h2.elim
     | some vh =>
      obtain ⟨kh, rfl⟩ := natOf_spec (show natOf dh = some h from hh) h2
      have hlr : ∀ (code : BoundsCode), (match vlo with | some v => Instr.sliceBound v h code | none => pure 0 : Sem Nat).run P w = .ok l w := by
       intro code
       cases lo with
       | none => cases vlo with
        | none => simp [natOr] at hl; subst hl; rfl
        | some _ => exact h1.elim
       | some d => cases vlo with
        | none => exact h1.elim
        | some v => obtain ⟨k, rfl⟩ := natOf_spec hl h1; exact run_bound k l h code om
      refine ⟨?_, om, by simp; omega, by simp; omega, om⟩
      simp only [Instr.sliceBounds, Sem.run_bind, run_bound km m' cap _ (show m' ≤ cap by omega), Result.andThen_ok, run_bound kh h m' _ (show h ≤ m' by omega), Option.isSome_some, if_true, Option.getD_some]
      have e2 := hlr .slice3C
      cases vlo <;> simp_all
   ·cases hb
  ·cases hb
 ·cases hb
variable {hig : Option D} {t : Nat} {x : D}
theorem cutRow_sound {DR : Prop} {T : Nat → Option TI} (hT : ∀ t i, T t = some i → tiOf P t = some i) {hp h' : List AObj} (hi : HInv S β w hp)
  (hd : cutRowD T hp t x lo hig mx = some (d, h')) (hv : RelD S β w v x) (h1 : RelO S β w vlo lo) (h2 : RelO S β w vhi hig) (h3 : RelO S β w vmx mx) :
  ∃ y, (Instr.sliceAt t v vlo vhi vmx).run P w = .ok y w ∧ Ext DR S β w S β w ∧ HInv S β w h' ∧ RelD S β w y d := by
 unfold cutRowD at hd
 split at hd
 ·rename_i r len dj
  split at hd
  ·cases hd
  ·rename_i ti hti
   obtain ⟨info, desc, z, g1, g2, g3, g4, g5, g6, g7, g8, _⟩ := tiOf_spec (hT _ _ hti)
   split at hd
   ·rename_i e j k es hk hj hes
    rw [hk] at g5
    have := tkOf_slice g5
    subst this
    split at hd
    ·rename_i hc
     obtain ⟨hsz, hjl⟩ := hc
     obtain ⟨rfl, rfl⟩ := zM (zC hd)
     unfold sizeT at hsz
     obtain ⟨i, hie, rfl⟩ := zB.1 hsz
     obtain ⟨info', desc', z', k1, k2, k3, k4, k5, k6, k7, k8, _⟩ := tiOf_spec (hT _ _ hie)
     cases hv with
     | osl r off len b c k p cap full hbb hlen hpp hcap =>
     simp only [Bool.false_eq_true, if_false, Nat.sub_zero] at hcap
     subst hcap
     have hob := hi.obj r _ b cap k hes hbb
     obtain ⟨o1, o2, o3, o4, o5, cur, et, o6, o7, o8⟩ := hob
     subst o1
     have hb : boundsD len none (some dj) none = some (0, j, none) := by
      simp [boundsD, natOr, hj, hjl]
     obtain ⟨hrb, hl1, hl2, hl3, hl4⟩ := bounds_sound (P := P) true (show len ≤ cap by omega) hb h1 h2 h3
     have hrun : (Instr.sliceAt t (.slice (some ⟨b, p, none⟩) len cap) vlo vhi vmx).run P w = .ok (.slice (some ⟨b, p, none⟩) j cap) w := by
      simp only [Instr.sliceAt, Sem.run_bind, run_underlying g2, Result.andThen_ok, Instr.slice, hrb, run_sizeOf k1, k7, Sem.run_pure, Option.map_some, Addr.add_lit, Nat.zero_mul, Nat.add_zero, Nat.sub_zero, Option.getD_none, ite_self]
     obtain ⟨e1, e2⟩ := own_write (DR := DR) (w' := w) (o' := .row i.size (es.take j)) hi hes rfl hbb rfl (fun _ _ => rfl) rfl rfl rfl (zL _) rfl fun _ =>
      ⟨rfl, o2, o3, by rw [zW]; omega, fun q x hx => o5 q x (by rw [yA] at hx; split at hx; exact hx; cases hx), cur, et, o6, o7,
       fun q j' x y v hx => o8 q j' x y v (by rw [yA] at hx; split at hx; exact hx; cases hx)⟩
     exact ⟨_, hrun, e1, e2, .osl r 0 j b cap i.size p cap false hbb om hpp (by simp)⟩
    ·cases hd
   ·cases hd
 ·cases hd
theorem slice_sound {T : Nat → Option TI} (hT : ∀ t i, T t = some i → tiOf P t = some i) {hp : List AObj} (hi : HInv S β w hp)
  (hd : sliceD T hp t x lo hig mx = some d) (hv : RelD S β w v x) (h1 : RelO S β w vlo lo) (h2 : RelO S β w vhi hig) (h3 : RelO S β w vmx mx) :
  ∃ y, (Instr.sliceAt t v vlo vhi vmx).run P w = .ok y w ∧ RelD S β w y d := by
 unfold sliceD at hd
 split at hd
 ·cases hd
 ·rename_i ti hti
  obtain ⟨info, desc, z, g1, g2, g3, g4, g5, g6, g7, g8, _⟩ := tiOf_spec (hT _ _ hti)
  split at hd
  ·-- a string
   rename_i s hk
   rw [hk] at g5
   have := tkOf_str g5
   subst this
   split at hd
   ·rename_i l h hb
    cases hd
    have hvv := hv.of_v
    cases hvv
    obtain ⟨hr, hl1, hl2, hl3, hl4⟩ := bounds_sound (P := P) false (zL s.size) hb h1 h2 h3
    have hm : vmx = none := by
     cases vmx with
     | none => rfl
     | some _ =>
      cases mx with
      | none => exact h3.elim
      | some _ =>
       unfold boundsD at hb
       split at hb
       ·rename_i hmx; cases hmx
       ·split at hb
        ·split at hb <;> cases hb
        ·cases hb
       ·cases hb
    subst hm
    refine ⟨.string (s.extract l h), ?_, .v _ _ (.str _)⟩
    simp only [Instr.sliceAt, Sem.run_bind, run_underlying g2, Result.andThen_ok, Instr.slice, Option.isSome_none, Bool.false_eq_true, if_false, hr, Sem.run_pure]
   ·cases hd
  ·-- a value
   rename_i e fl es hk
   rw [hk] at g5
   have := tkOf_slice g5
   subst this
   split at hd
   ·rename_i l h m k hb hsz
    split at hd
    ·rename_i hho
     cases hd
     unfold sizeT at hsz
     obtain ⟨i, hie, rfl⟩ := zB.1 hsz
     obtain ⟨info', desc', z', k1, k2, k3, k4, k5, k6, k7, k8, _⟩ := tiOf_spec (hT _ _ hie)
     have hrun : ∀ (base : Option Addr) (cap : Nat), es.length ≤ cap → (Instr.sliceAt t (.slice base es.length cap) vlo vhi vmx).run P w =
       .ok (.slice (if m.getD cap = l then base else base.map (·.add (l * i.size))) (h - l) (m.getD cap - l)) w := by
      intro base cap hc
      have hr := (bounds_sound (P := P) true hc hb h1 h2 h3).1
      simp only [Instr.sliceAt, Sem.run_bind, run_underlying g2, Result.andThen_ok, Instr.slice, hr, run_sizeOf k1, k7, Sem.run_pure]
     have hfullcap : ∀ cap : Nat, es.length ≤ cap → (fl.isFull = true → cap = es.length) → fullTo fl.isFull es.length h m = true → m.getD cap = h := by
      intro cap hc hf hfull
      cases m with
      | none => simp [fullTo] at hfull; have := hf hfull.1; simp; omega
      | some m => simpa [fullTo] using hfull
     have hflag : (if fullTo fl.isFull es.length h m = true then SFlag.full else SFlag.plain).isNil ≠ some true := by split <;> decide
     have hflag' : (if fullTo fl.isFull es.length h m = true then SFlag.full else SFlag.plain).isFull = true → fullTo fl.isFull es.length h m = true := by
      intro hh
      split at hh
      ·assumption
      ·cases hh
     have hvv := hv.of_v
     generalize hes : V.sl fl es = vsl at hvv
     cases hvv <;> try (cases hes; done)
     ·-- nil
      cases hes
      obtain ⟨hr, hl1, hl2, hl3, hl4⟩ := bounds_sound (P := P) true (zL 0) (len := 0) (cap := 0) (by simpa using hb) h1 h2 h3
      have hl0 : l = 0 := by simp at hl4; omega
      have hh0 : h = 0 := by simpa using hl4
      subst hl0 hh0
      refine ⟨_, hrun none 0 (zL _), .v _ _ ?_⟩
      have : m.getD 0 = 0 := by omega
      simp only [this, if_true, Nat.sub_self, List.drop_nil, List.take_nil]
      exact .slnil _ (by split <;> decide)
     ·-- empty
      rename_i fl' a cap hn hf hm
      cases hes
      obtain ⟨hr, hl1, hl2, hl3, hl4⟩ := bounds_sound (P := P) true (Nat.zero_le cap) (len := 0) (cap := cap) (by simpa using hb) h1 h2 h3
      have hl0 : l = 0 := by simp at hl4; omega
      have hh0 : h = 0 := by simpa using hl4
      subst hl0 hh0
      refine ⟨_, hrun (some a) cap (Nat.zero_le _), .v _ _ ?_⟩
      simp only [List.drop_nil, List.take_nil, Nat.sub_zero, Nat.zero_mul, Option.map_some, Addr.add_zero', ite_self]
      exact .slemp _ a _ hflag (fun hh => by have := hfullcap cap (Nat.zero_le _) (by simpa using hf) (hflag' hh); omega) om
     ·rename_i fl' b off cap k' n es' vals hn hnil hf hc hm hsol hs hr
      cases hes
      subst hn
      obtain ⟨hrb, hl1, hl2, hl3, hl4⟩ := bounds_sound (P := P) true hc hb h1 h2 h3
      refine ⟨_, hrun (some ⟨b, off, none⟩) cap hc, .v _ _ ?_⟩
      have hlen : ((es.drop l).take (h - l)).length = h - l := by simp; omega
      by_cases heq : h - l = 0
      ·have hempty : (es.drop l).take (h - l) = [] := by rw [heq]; rfl
       rw [hempty, heq]
       have hcap0 : (if fullTo fl.isFull es.length h m = true then SFlag.full else SFlag.plain).isFull = true → m.getD cap - l = 0 := fun hh => by have := hfullcap cap hc hf (hflag' hh); omega
       split
       ·exact .slemp _ _ _ hflag hcap0 om
       ·exact .slemp _ _ _ hflag hcap0 om
      ·have hml : ¬ m.getD cap = l := by omega
       simp only [hml, if_false, Option.map_some, Addr.add_lit]
       have hkk : k' = i.size := by
        cases es with
        | nil => simp at hl4; omega
        | cons x0 r => rw [← (hsol 0 x0 rfl).2]; simpa [headOk] using hho
       subst hkk
       refine .sl _ b (off + l * i.size) _ i.size (h - l) _ (fun q => vals (l * i.size + q)) hlen.symm hflag (fun hh => by have := hfullcap cap hc hf (hflag' hh); omega) om om (fun q x hx => ?_) (fun q j hq hj => ?_) (fun q j x y hx hy => ?_)
       ·rw [yA] at hx
        split at hx
        ·rw [zY] at hx; exact hsol _ x hx
        ·cases hx
       ·have := hs (l + q) j om hj
        rw [Nat.add_mul] at this
        have e1 : off + l * i.size + (q * i.size + j) = off + (l * i.size + q * i.size + j) := by omega
        have e2 : l * i.size + (q * i.size + j) = l * i.size + q * i.size + j := by omega
        rw [e1, e2]
        exact this
       ·rw [yA] at hx
        split at hx
        ·rw [zY] at hx
         have := hr (l + q) j x y hx hy
         rw [Nat.add_mul, Nat.add_assoc] at this
         exact this
        ·cases hx
    ·cases hd
   ·cases hd
  ·-- an own slice
   rename_i e r off len full hk
   rw [hk] at g5
   have := tkOf_slice g5
   subst this
   split at hd
   ·rename_i l h m k hb hsz
    split at hd
    ·rename_i hsh
     unfold sizeT at hsz
     obtain ⟨i, hie, rfl⟩ := zB.1 hsz
     obtain ⟨info', desc', z', k1, k2, k3, k4, k5, k6, k7, k8, _⟩ := tiOf_spec (hT _ _ hie)
     cases hv with
     | osl r off len b c k p cap full hbb hlen hpp hcap =>
     have hlc : len ≤ cap := by rw [hcap]; split <;> omega
     obtain ⟨hrb, hl1, hl2, hl3, hl4⟩ := bounds_sound (P := P) true hlc hb h1 h2 h3
     have hkk : k = i.size ∧ c ≤ maxLen := by
      unfold shapeOk at hsh
      split at hsh
      ·rename_i k' es hes
       obtain ⟨o1, o2, o3, _⟩ := hi.obj r _ b c k hes hbb
       rw [beq_iff_eq] at hsh
       exact ⟨om, o3⟩
      ·rename_i cs hcs
       obtain ⟨o1, o2, _⟩ := hi.obj r _ b c k hcs hbb
       rw [beq_iff_eq] at hsh
       exact ⟨om, o2⟩
      ·cases hsh
     obtain ⟨rfl, hcm⟩ := hkk
     subst hpp
     have hrun : (Instr.sliceAt t (.slice (some ⟨b, off * i.size, none⟩) len cap) vlo vhi vmx).run P w =
       .ok (.slice (if m.getD cap = l then some ⟨b, off * i.size, none⟩ else some ⟨b, off * i.size + l * i.size, none⟩) (h - l) (m.getD cap - l)) w := by
      simp only [Instr.sliceAt, Sem.run_bind, run_underlying g2, Result.andThen_ok, Instr.slice, hrb, run_sizeOf k1, k7, Sem.run_pure, Option.map_some, Addr.add_lit]
     have hcapm : cap ≤ maxLen := by rw [hcap]; split <;> omega
     have hfullcap : fullTo full len h m = true → m.getD cap = h := by
      intro hfull
      cases m with
      | none => simp [fullTo] at hfull; rw [if_pos hfull.1] at hcap; simp; omega
      | some m => simpa [fullTo] using hfull
     split at hd
     ·rename_i hlh
      rw [beq_iff_eq] at hlh
      cases hd
      subst hlh
      refine ⟨_, hrun, .v _ _ ?_⟩
      rw [Nat.sub_self]
      have hcap0 : (if fullTo full len l m = true then SFlag.full else SFlag.plain).isFull = true → m.getD cap - l = 0 := by
       intro hh
       split at hh
       ·rename_i hf; have := hfullcap hf; omega
       ·cases hh
      split <;> exact .slemp _ _ _ (by split <;> decide) hcap0 om
     ·rename_i hlh
      split at hd
      ·rename_i hmf
       cases hd
       refine ⟨_, hrun, ?_⟩
       have hne : l ≠ h := by simpa using hlh
       have hml : ¬ m.getD cap = l := by omega
       rw [if_neg hml]
       refine .osl r (off + l) (h - l) b c i.size _ _ _ hbb om (by rw [Nat.add_mul]) ?_
       cases hf : fullTo full len h m with
       | true => rw [hfullcap hf]; simp
       | false =>
        rw [hf] at hmf
        simp only [Bool.or_false] at hmf
        cases m with
        | some m => simp at hmf
        | none =>
         simp only [Option.getD_none, Bool.false_eq_true, if_false]
         cases full with
         | false => simp at hcap; omega
         | true => simp at hmf
      ·cases hd
    ·cases hd
   ·cases hd
  ·-- a beginning of an array of one's own
   rename_i n e r hk
   rw [hk] at g5
   have := tkOf_array g5
   subst this
   split at hd
   ·rename_i dj
    split at hd
    ·rename_i j cs hj hcs hsz
     split at hd
     ·rename_i hc
      obtain ⟨hjn, hcl⟩ := hc
      cases hd
      unfold sizeT at hsz
      obtain ⟨i, hie, hs1⟩ := zB.1 hsz
      obtain ⟨info', desc', z', k1, k2, k3, k4, k5, k6, k7, k8, _⟩ := tiOf_spec (hT _ _ hie)
      cases hv with
      | ptr r off b c k hbb =>
      obtain ⟨o1, o2, o3, _⟩ := hi.obj r _ b c k hcs hbb
      subst o1
      have hlo : vlo = none := by cases vlo with | none => rfl | some _ => exact h1.elim
      have hmx : vmx = none := by cases vmx with | none => rfl | some _ => exact h3.elim
      subst hlo hmx
      obtain ⟨u, rfl⟩ : ∃ u, vhi = some u := by cases vhi with | none => exact h2.elim | some u => exact ⟨u, rfl⟩
      have h2 : RelD S β w u dj := h2
      obtain ⟨kj, rfl⟩ := natOf_spec hj h2
      have ha : P.arrayLen t = n := by simp [Program.arrayLen, g2]
      have he : P.elem t = e := by simp [Program.elem, g2]
      refine ⟨.slice (some ⟨b, 0, none⟩) j n, ?_, .osl r 0 j b c 1 0 n false hbb om (by simp) (by simp; omega)⟩
      rw [run_sliceAt_array_h w t ⟨b, 0, none⟩ (by rw [g2, ha, he]) kj (j : Int) om (by rw [ha]; omega), he, run_sizeOf k1, ha]
      simp [slicedAt, Addr.add_lit]
     ·cases hd
    ·cases hd
   ·cases hd
  ·cases hd
variable {DR : Prop}
variable {P : Program} {S : Nat → Nat → Prop} {d : D} {h : List AObj} {t : Nat} {w : World} {β : Blocks}
theorem makeSlice_sound {T : Nat → Option TI} (hT : ∀ t i, T t = some i → tiOf P t = some i) {h' : List AObj} (hi : HInv S β w h) {l c : D}
  (hd : makeSliceD T t h l c = some (d, h')) {vl vc : Value} (h1 : RelD S β w vl l) (h2 : RelD S β w vc c) :
  ∃ y w' β', (Instr.makeSlice t vl vc).run P w = .ok y w' ∧ Ext DR S β w S β' w' ∧ HInv S β' w' h' ∧ RelD S β' w' y d := by
 unfold makeSliceD at hd
 split at hd
 ·cases hd
 ·rename_i ti hti
  split at hd
  ·rename_i e n cc hke hn hcc
   split at hd
   ·cases hd
   ·rename_i i hie
    obtain ⟨info, desc, z, g1, g2, g3, g4, g5, g6, g7, g8, _⟩ := tiOf_spec (hT _ _ hti)
    obtain ⟨info', desc', z', k1, k2, k3, k4, k5, k6, k7, k8, _⟩ := tiOf_spec (hT _ _ hie)
    rw [hke] at g5
    have := tkOf_slice g5
    subst this
    obtain ⟨kl, rfl⟩ := natOf_spec hn h1
    obtain ⟨kc, rfl⟩ := natOf_spec hcc h2
    split at hd
    ·rename_i hc
     obtain ⟨c1, c2, c3, c4, c5, c6⟩ := hc
     have hrun := run_make (P := P) w t e info' z' g2 k1 k3 kl kc n cc om om (by rw [k8]; have : ((i.bytes * cc : Nat) : Int) ≤ 281474976710656 := (by rw [Nat.mul_comm]; omega); rwa [Int.natCast_mul] at this) (by unfold maxLen at c3; omega)
     simp only [zN, k7] at hrun
     have hz : RelV S w z' i.zero := ofValue_rel k4
     obtain ⟨z1, z2⟩ := hz.cells c5
     have hcell : ∀ q v, (madeCells z'.cells (cc * i.size))[q]? = some v → z'.cells[q % i.size]? = some v := by
      intro q v hq
      have hlt := (Array.getElem?_eq_some_iff.1 hq).1
      rw [size_madeCells] at hlt
      unfold madeCells at hq
      rw [Array.getElem?_map, Array.getElem?_range, if_pos hlt] at hq
      simp only [Option.map_some, Option.some.injEq] at hq
      have hm : q % z'.cells.size < z'.cells.size := Nat.mod_lt _ om
      rw [getElem!_pos z'.cells _ hm] at hq
      have e1 : z'.cells.size = i.size := by omega
      rw [← e1, zD hm, hq]
     have hkp := keeps_alloc hi (.cells (madeCells z'.cells (cc * i.size)) e) S (fun _ _ h => h)
     have row : ∀ (d : D) (h'' : List AObj), (d, h'') = (D.osl h.length 0 n false, h ++ [.row i.size (List.replicate n i.zero)]) →
       ∃ y w' β', (Instr.makeSlice t (.int kl n) (.int kc cc)).run P w = .ok y w' ∧ Ext DR S β w S β' w' ∧ HInv S β' w' h'' ∧ RelD S β' w' y d := by
      intro d h'' he
      obtain ⟨rfl, rfl⟩ := zM he
      have f1 : ∀ (q : Nat) (x : V), (List.replicate n i.zero)[q]? = some x → x.solid = true ∧ x.cells.length = i.size := by
       intro q x hx
       have := List.mem_replicate.1 (zE hx)
       rw [this.2]; exact ⟨c5, c6⟩
      have f2 : ∀ (q j : Nat) (x y : V) (v : Value), (List.replicate n i.zero)[q]? = some x → x.cells[j]? = some y → (madeCells z'.cells (cc * i.size))[q * i.size + j]? = some v → RelV S (w.alloc (.cells (madeCells z'.cells (cc * i.size)) e)) v y := by
       intro q j x y v hx hy hv
       have := List.mem_replicate.1 (zE hx)
       rw [this.2] at hy
       have hj := yE hy
       have := hcell _ _ hv
       rw [mod_mul_add om] at this
       exact RelV.mono hkp (z2 j v y this hy)
      obtain ⟨e1, e2⟩ := own_alloc (DR := DR) hi (madeCells z'.cells (cc * i.size)) e cc i.size (.row i.size (List.replicate n i.zero)) rfl
       ⟨rfl, c4, c3, by simp; omega, f1, _, e, heap_alloc_new w _, size_madeCells _ _, f2⟩
      exact ⟨_, _, _, hrun, e1, e2, .osl _ 0 n w.heap.size cc i.size 0 cc false (by rw [← hi.len]; simp) om (by simp) (by simp)⟩
     have mixed : ∀ (d : D) (h'' : List AObj), i.size = 1 → i.zero.scalar = true → (d, h'') = (D.osl h.length 0 n false, h ++ [.cells (List.replicate cc (.v i.zero))]) →
       ∃ y w' β', (Instr.makeSlice t (.int kl n) (.int kc cc)).run P w = .ok y w' ∧ Ext DR S β w S β' w' ∧ HInv S β' w' h'' ∧ RelD S β' w' y d := by
      intro d h'' hs1 hsc he
      obtain ⟨rfl, rfl⟩ := zM he
      have f2 : ∀ (q : Nat) (v : Value) (x : D), (madeCells z'.cells (cc * i.size))[q]? = some v → (List.replicate cc (D.v i.zero))[q]? = some x → RelD S (β ++ [(w.heap.size, cc, 1)]) (w.alloc (.cells (madeCells z'.cells (cc * i.size)) e)) v x := by
       intro q v x hv hx
       have := List.mem_replicate.1 (zE hx)
       rw [this.2]
       have hcl : i.zero.cells = [i.zero] := by
        cases hzz : i.zero <;> first | rfl | (rw [hzz] at hsc; cases hsc)
       have := hcell _ _ hv
       rw [hs1, Nat.mod_one] at this
       exact .v _ _ (RelV.mono hkp (z2 0 v i.zero this (by rw [hcl]; rfl)))
      obtain ⟨e1, e2⟩ := own_alloc (DR := DR) hi (madeCells z'.cells (cc * i.size)) e cc 1 (.cells (List.replicate cc (.v i.zero))) rfl
       ⟨rfl, c3, by simp, _, e, heap_alloc_new w _, by rw [size_madeCells, hs1, Nat.mul_one], f2⟩
      exact ⟨_, _, _, hrun, e1, e2, .osl _ 0 n w.heap.size cc 1 0 cc false (by rw [← hi.len]; simp) om (by simp) (by simp)⟩
     split at hd
     ·split at hd
      ·rename_i hs; exact mixed _ _ hs.1 hs.2 (zC hd).symm
      ·cases hd
     ·split at hd
      ·rename_i hs; exact mixed _ _ hs.1 hs.2 (zC hd).symm
      ·cases hd
     ·split at hd
      ·rename_i hs; exact mixed _ _ hs.1 hs.2 (zC hd).symm
      ·cases hd
     ·exact row _ _ (zC hd).symm
    ·cases hd
  ·cases hd
theorem run_indexAt {e : Nat} {i : TypeInfo} (ht : P.underlying t = some (.slice e)) (hi : P.info? e = some i) (a : Addr) (len cap : Nat) (k : IntKind) (j : Nat) (hj : j < len) :
  (Instr.indexAt t (.slice (some a) len cap) (.int k j)).run P w = .ok (.pointer (some (a.add (j * i.size)))) w := by
 simp only [Instr.indexAt, asIntOf, Sem.run_bind, Sem.run_pure, Result.andThen_ok, run_underlying ht]
 rw [if_pos om]
 simp only [Sem.run_bind, run_sizeOf hi, Result.andThen_ok, Sem.run_pure, zN]
variable {ix x : D} {u v : Value}
theorem indexAddr_sound {T : Nat → Option TI} (hT : ∀ t i, T t = some i → tiOf P t = some i) (hi : HInv S β w h)
  (hd : indexAddrH T h t x ix = some d) (hv : RelD S β w v x) (hu : RelD S β w u ix) : ∃ y, (Instr.indexAt t v u).run P w = .ok y w ∧ RelD S β w y d := by
 unfold indexAddrH at hd
 split at hd
 ·rename_i r off len full
  split at hd
  ·cases hd
  ·rename_i ti hti
   split at hd
   ·rename_i e j hke hj
    obtain ⟨info, desc, z, g1, g2, g3, g4, g5, g6, g7, g8, _⟩ := tiOf_spec (hT _ _ hti)
    rw [hke] at g5
    have := tkOf_slice g5
    subst this
    obtain ⟨kj, rfl⟩ := natOf_spec hj hu
    split at hd
    ·rename_i hlt
     cases hv with
     | osl r off len b c k p cap full hb hlen hp hcap =>
     subst hp
     split at hd
     ·rename_i k0 k' es hk0 hes
      split at hd
      ·rename_i hkk
       subst hkk
       cases hd
       unfold sizeT at hk0
       obtain ⟨i, hie, rfl⟩ := zB.1 hk0
       obtain ⟨info', desc', z', k1, k2, k3, k4, k5, k6, k7, k8, _⟩ := tiOf_spec (hT _ _ hie)
       obtain ⟨o1, _⟩ := hi.obj r _ b c k hes hb
       refine ⟨_, run_indexAt g2 k1 _ len cap kj j hlt, ?_⟩
       rw [Addr.add_lit, k7]
       exact .eptr r (off + j) 0 b c k _ hb (by rw [← o1, Nat.add_mul, Nat.add_zero])
      ·cases hd
     ·rename_i hk0 hcs
      cases hd
      unfold sizeT at hk0
      obtain ⟨i, hie, hs1⟩ := zB.1 hk0
      obtain ⟨info', desc', z', k1, k2, k3, k4, k5, k6, k7, k8, _⟩ := tiOf_spec (hT _ _ hie)
      obtain ⟨o1, _⟩ := hi.obj r _ b c k hcs hb
      refine ⟨_, run_indexAt g2 k1 _ len cap kj j hlt, ?_⟩
      rw [Addr.add_lit, k7, hs1, o1, Nat.mul_one, Nat.mul_one]
      exact .ptr r (off + j) b c k hb
     ·rename_i k0 k' cs hk0 hcs
      split at hd
      ·rename_i hkk
       subst hkk
       cases hd
       unfold sizeT at hk0
       obtain ⟨i, hie, rfl⟩ := zB.1 hk0
       obtain ⟨info', desc', z', k1, k2, k3, k4, k5, k6, k7, k8, _⟩ := tiOf_spec (hT _ _ hie)
       obtain ⟨o1, _⟩ := hi.obj r _ b c k hcs hb
       refine ⟨_, run_indexAt g2 k1 _ len cap kj j hlt, ?_⟩
       rw [Addr.add_lit, k7, ← o1, ← Nat.add_mul]
       exact .ptr r ((off + j) * i.size) b c k hb
      ·cases hd
     ·cases hd
    ·cases hd
   ·cases hd
 ·unfold indexAddrD at hd
  split at hd
  ·cases hd
  ·rename_i ti hti
   split at hd
   ·rename_i e fl es j hke hj hne
    obtain ⟨info, desc, z, g1, g2, g3, g4, g5, g6, g7, g8, _⟩ := tiOf_spec (hT _ _ hti)
    rw [hke] at g5
    have := tkOf_slice g5
    subst this
    obtain ⟨kj, rfl⟩ := natOf_spec hj hu
    split at hd
    ·rename_i k0 x0 hk0 hx0
     split at hd
     ·rename_i hl
      rw [beq_iff_eq] at hl
      cases hd
      unfold sizeT at hk0
      obtain ⟨i, hie, rfl⟩ := zB.1 hk0
      obtain ⟨info', desc', z', k1, k2, k3, k4, k5, k6, k7, k8, _⟩ := tiOf_spec (hT _ _ hie)
      have hlt := yE hx0
      have hvv := hv.of_v
      generalize hes : V.sl fl es = vsl at hvv
      cases hvv <;> try (cases hes; done)
      ·cases hes; simp at hlt
      ·cases hes; simp at hlt
      ·rename_i fl' b off cap k' n es' vals hn hnil hf hc hm hsol hs hr
       cases hes
       subst hn
       refine ⟨_, run_indexAt g2 k1 _ _ cap kj j hlt, ?_⟩
       have hk' : k' = i.size := by rw [← (hsol j x0 hx0).2, hl]
       rw [Addr.add_lit, k7, ← hk']
       refine .vptr b (off + j * k') x0.cells (fun q => vals (j * k' + q)) (fun q hq => ?_) (fun q y hy => hr j q x0 y hx0 hy)
       have := hs j q hlt om
       rw [← Nat.add_assoc] at this
       exact this
     ·cases hd
    ·cases hd
   ·cases hd
variable {f : Nat}
theorem fieldAddr_sound0 {T : Nat → Option TI} (hT : ∀ t i, T t = some i → tiOf P t = some i)
  (hnp : ∀ cs, x ≠ .v (.ptr cs)) (hd : fieldAddrD T t f x = some d) (hv : RelD S β w v x) : ∃ y, (Instr.fieldAt t v f).run P w = .ok y w ∧ RelD S β w y d := by
 unfold fieldAddrD at hd
 split at hd
 ·cases hd
 ·rename_i ti hti
  split at hd
  ·rename_i fs hkf
   obtain ⟨info, desc, z, g1, g2, g3, g4, g5, g6, g7, g8, _⟩ := tiOf_spec (hT _ _ hti)
   rw [hkf] at g5
   obtain ⟨fields, rfl, rfl, _⟩ := tkOf_struct g5
   split at hd
   ·cases hd
   ·rename_i o ft hf
    simp only [zG] at hf
    obtain ⟨fd, hfd, he⟩ := zB.1 hf
    cases he
    split at hd
    ·cases hd
    ·cases hd
    ·rename_i k hk
     unfold sizeT at hk
     obtain ⟨i, hie, hsz⟩ := zB.1 hk
     obtain ⟨info', desc', z', k1, k2, k3, k4, k5, k6, k7, k8, _⟩ := tiOf_spec (hT _ _ hie)
     have hrun : ∀ a : Addr, (Instr.fieldAt t (.pointer (some a)) f).run P w = .ok (.pointer (some (a.add fd.offset))) w := by
      intro a
      have hfd' : fields[f]? = some fd := by simpa using hfd
      simp [Instr.fieldAt, run_underlying g2, hfd', Instr.sureAddr, fieldPlace, run_sizeOf k1, k7, hsz]
     cases hv with
     | ptr r off b c k h => cases hd; exact ⟨_, hrun _, by rw [Addr.add_lit]; exact .ptr r _ b c k h⟩
     | eptr r q off b c k p h hp => cases hd; exact ⟨_, hrun _, by rw [Addr.add_lit]; exact .eptr r q _ b c k _ h om⟩
     | vptr b off cells vals hs hr =>
      cases hd
      refine ⟨_, hrun _, ?_⟩
      rw [Addr.add_lit]
      refine .vptr b (off + fd.offset) _ (fun q => vals (fd.offset + q)) (fun q hq => ?_) (fun q x hx => hr _ x (by rw [zY] at hx; exact hx))
      have := hs (fd.offset + q) (by simp at hq; omega)
      rw [← Nat.add_assoc] at this
      exact this
     | v _ y h => cases y <;> first | (simp at hd; done) | exact absurd rfl (hnp _)
     | _ => simp at hd
  ·cases hd
theorem fieldAddr_sound {T : Nat → Option TI} (hT : ∀ t i, T t = some i → tiOf P t = some i)
  (hd : fieldAddrD T t f x = some d) (hv : RelD S β w v x) : ∃ y, (Instr.fieldAt t v f).run P w = .ok y w ∧ RelD S β w y d := by
 by_cases hp : ∃ cs, x = .v (.ptr cs)
 ·obtain ⟨cs, rfl⟩ := hp
  exact fieldAddr_sound0 (x := .vptr cs) hT (by simp) hd hv.of_v.as_vptr
 ·exact fieldAddr_sound0 hT (fun cs e => hp ⟨cs, e⟩) hd hv
variable {off : Nat}
theorem part_sound {i : TI} (ht : tiOf P t = some i) {vs : Array Value} {cs : List D} (hl : vs.size = cs.length)
  (hr : ∀ (j : Nat) v x, vs[j]? = some v → cs[j]? = some x → RelD S β w v x) (hd : (cut cs off i.size).bind (mkOf i.kind.isAgg) = some d) : ∃ y, (part t vs off).run P w = .ok y w ∧ RelD S β w y d := by
 obtain ⟨info, desc, z, g1, g2, g3, g4, g5, g6, g7, g8, _⟩ := tiOf_spec ht
 obtain ⟨p, hp, hm⟩ := Option.bind_eq_some_iff.1 hd
 obtain ⟨c1, c2, c3⟩ := cut_spec hp
 rw [← g5] at g6 hm
 unfold part
 simp only [Sem.run_bind, run_isAgg g2 g6, Result.andThen_ok]
 cases hagg : (tkOf desc).isAgg with
 | true =>
  rw [hagg] at hm
  simp only [mkOf, if_true, Option.some.injEq] at hm
  subst hm
  simp only [if_true, Sem.run_bind, run_sizeOf g1, g7, Result.andThen_ok, Sem.run_pure]
  refine ⟨_, rfl, rel_mkAgg (by simp; omega) (fun j v x hv hx => ?_)⟩
  have hj := yE hx
  rw [c3 j om] at hx
  rw [Array.getElem?_extract] at hv
  split at hv
  ·exact hr _ v x hv hx
  ·cases hv
 | false =>
  rw [hagg] at hm
  simp only [mkOf, Bool.false_eq_true, if_false] at hm
  cases p with
  | nil => cases hm
  | cons x r =>
   cases r with
   | cons _ _ => cases hm
   | nil =>
    simp only [Option.some.injEq] at hm
    subst hm
    have h0 := c3 0 (by simp at c1; omega)
    simp only [List.getElem?_cons_zero, Nat.add_zero] at h0
    have hlt := yE h0.symm
    have hv : vs[off]? = some vs[off] := zD om
    simp only [Bool.false_eq_true, if_false, hv, Sem.run_pure]
    exact ⟨_, rfl, hr off _ x hv h0.symm⟩
theorem mkOf_cut_map {n : Nat} {agg : Bool} (l : List V) : (cut (l.map D.v) off n).bind (mkOf agg) = ((cut l off n).bind (mkOfV agg)).map .v := by
 unfold cut
 simp only [List.length_map]
 split
 ·simp only [Option.bind_some, ← List.map_drop, ← List.map_take, mkOf_map]
 ·rfl
theorem field_sound {T : Nat → Option TI} (hT : ∀ t i, T t = some i → tiOf P t = some i)
  (hd : fieldD T t f x = some d) (hv : RelD S β w v x) : ∃ y, (Instr.field t v f).run P w = .ok y w ∧ RelD S β w y d := by
 unfold fieldD at hd
 split at hd
 ·cases hd
 ·rename_i ti hti
  split at hd
  ·rename_i fs hkf
   obtain ⟨info, desc, z, g1, g2, g3, g4, g5, g6, g7, g8, _⟩ := tiOf_spec (hT _ _ hti)
   rw [hkf] at g5
   obtain ⟨fields, rfl, rfl, _⟩ := tkOf_struct g5
   split at hd
   ·cases hd
   ·rename_i o ft hf
    simp only [zG] at hf
    obtain ⟨fd, hfd, he⟩ := zB.1 hf
    cases he
    have hfd' : fields[f]? = some fd := by simpa using hfd
    split at hd
    ·cases hd
    ·rename_i i hie
     have hrun : ∀ vs : Array Value, (Instr.field t (.agg vs) f).run P w = (part fd.type vs fd.offset).run P w := by
      intro vs
      simp [Instr.field, run_underlying g2, hfd', asAgg]
     split at hd
     ·rename_i cs
      have hvv := hv.of_v
      cases hvv with
      | agg vs cs hl hr =>
      have := part_sound (S := S) (β := β) (w := w) (hT _ _ hie) (vs := vs) (cs := cs.map .v) (by simpa using hl) (fun j v x hv hx => by
       simp only [zG] at hx
       obtain ⟨y, hy, rfl⟩ := zB.1 hx
       exact .v _ _ (hr j v y hv hy)) (off := fd.offset) (d := d) (by rw [mkOf_cut_map]; exact hd)
      obtain ⟨y, h1, h2⟩ := this
      exact ⟨y, by rw [hrun]; exact h1, h2⟩
     ·rename_i cs
      cases hv with
      | agg vs cs hl hr =>
      obtain ⟨y, h1, h2⟩ := part_sound (S := S) (β := β) (w := w) (hT _ _ hie) hl hr hd
      exact ⟨y, by rw [hrun]; exact h1, h2⟩
     ·cases hd
  ·cases hd
theorem index_sound {T : Nat → Option TI} (hT : ∀ t i, T t = some i → tiOf P t = some i)
  (hd : indexD T t x ix = some d) (hv : RelD S β w v x) (hu : RelD S β w u ix) : ∃ y, (Instr.index t v u).run P w = .ok y w ∧ RelD S β w y d := by
 unfold indexD at hd
 split at hd
 ·cases hd
 ·rename_i ti hti
  split at hd
  ·rename_i s j hks hj
   obtain ⟨info, desc, z, g1, g2, g3, g4, g5, g6, g7, g8, _⟩ := tiOf_spec (hT _ _ hti)
   rw [hks] at g5
   have := tkOf_str g5
   subst this
   obtain ⟨kj, rfl⟩ := natOf_spec hj hu
   cases hv.of_v
   split at hd
   ·rename_i b hb
    cases hd
    refine ⟨.int .u8 b.toNat, ?_, .v _ _ (.int _ _)⟩
    simp only [Instr.index, asIntOf, Sem.run_bind, Sem.run_pure, Result.andThen_ok, run_underlying g2]
    rw [if_pos om]
    simp [hb]
   ·cases hd
  ·cases hd
theorem len_sound {T : Nat → Option TI} (hT : ∀ t i, T t = some i → tiOf P t = some i) {ty : Nat}
  (hd : lenD T t x = some d) (hv : RelD S β w v x) : ∃ y, (Builtin.len_ #[t] ty #[v]).run P w = .ok y w ∧ RelD S β w y d := by
 unfold lenD at hd
 split at hd
 ·cases hd
 ·rename_i ti hti
  obtain ⟨info, desc, z, g1, g2, g3, g4, g5, g6, g7, g8, _⟩ := tiOf_spec (hT _ _ hti)
  split at hd
  ·rename_i e fl es hk
   rw [hk] at g5
   have := tkOf_slice g5
   subst this
   cases hd
   have hlen : ∃ base c, v = .slice base es.length c := by
    have hvv := hv.of_v
    generalize hes : V.sl fl es = vsl at hvv
    cases hvv <;> try (cases hes; done)
    ·cases hes; exact ⟨_, _, rfl⟩
    ·cases hes; exact ⟨_, _, rfl⟩
    ·rename_i hn _ _ _ _ _ _ _
     cases hes; subst hn; exact ⟨_, _, rfl⟩
   obtain ⟨base, c, rfl⟩ := hlen
   exact ⟨_, by simp [Builtin.len_, run_underlying g2, goInt], .v _ _ (.int _ _)⟩
  ·rename_i e r off len full hk
   rw [hk] at g5
   have := tkOf_slice g5
   subst this
   cases hd
   cases hv
   exact ⟨_, by simp [Builtin.len_, run_underlying g2, goInt], .v _ _ (.int _ _)⟩
  ·rename_i s hk
   rw [hk] at g5
   have := tkOf_str g5
   subst this
   cases hd
   cases hv.of_v
   exact ⟨_, by simp [Builtin.len_, run_underlying g2, goInt], .v _ _ (.int _ _)⟩
  ·cases hd
end Go.Abs
