
import Derived.Test.YtblpjlaihgcilafFwO
namespace Go.Fw
open Go Go.RowKit
def sizeT (P : Program) (t : TypeId) : Option Nat := (P.info? t).map (·.size)
def constX : Value → Option X
  | .int k n => some (.c (.int k n))
  | .bool b => some (.c (.bool b))
  | .float k b => if b < 2 ^ k.format.width then some (.c (.flt k (canonF k b))) else none
  | .string s => some (.c (.str s))
  | .slice none 0 0 => some .nils
  | .pointer none => some (.c .nilptr)
  | .nilFunc => some (.c .nilfn)
  | .nilIface => some (.c .niliface)
  | _ => none
def constXs : List Value → Option (List X)
  | [] => some []
  | v :: r => match constX v, constXs r with
    | some x, some xs => some (x :: xs)
    | _, _ => none
def constAV : Value → Option AV
  | .agg cs => (constXs cs.toList).map fun xs => .v (.agg xs)
  | v => (constX v).map fun x => .v (.one x)
abbrev Rho := Operand → Option AV
def rho (env : List (Nat × AV)) : Rho
  | .tmp t => env.lookup t
  | .const v => constAV v
  | .func f => some (.v (.one (.c (.fn f 0 fun _ => .nilptr))))
  | .global _ => none
abbrev cv (c : C) : AV := .v (.one (.c c))
abbrev iv (k : IntKind) (n : Int) : AV := cv (.int k n)
abbrev bv (b : Bool) : AV := cv (.bool b)
abbrev fv (k : FloatKind) (c : Nat) : AV := cv (.flt k c)
abbrev sv (s : ByteArray) : AV := cv (.str s)
def intBin (op : BinOp) (k : IntKind) (a b : Int) : Option (C × Prop) :=
  match op with
  | .add => some (.int k (k.wrap (a + b)), True)
  | .sub => some (.int k (k.wrap (a - b)), True)
  | .mul => some (.int k (k.wrap (a * b)), True)
  | .quo => some (.int k (k.wrap (a.tdiv b)), b ≠ 0)
  | .rem => some (.int k (a.tmod b), b ≠ 0)
  | .and => some (.int k (bits .and k a b), True)
  | .or => some (.int k (bits .or k a b), True)
  | .xor => some (.int k (bits .xor k a b), True)
  | .andNot => some (.int k (bits .andNot k a b), True)
  | .eql => some (.bool (a == b), True)
  | .neq => some (.bool (a != b), True)
  | .lss => some (.bool (a < b), True)
  | .leq => some (.bool (a ≤ b), True)
  | .gtr => some (.bool (a > b), True)
  | .geq => some (.bool (a ≥ b), True)
  | _ => none
def shiftOp (op : BinOp) (k : IntKind) (a : Int) (b : Int) : Option (C × Prop) :=
  match op with
  | .shl => some (.int k (k.wrap (a * 2 ^ (min b.toNat k.bits))), 0 ≤ b)
  | .shr => some (.int k (a.fdiv (2 ^ (min b.toNat k.bits))), 0 ≤ b)
  | _ => none
def fltBin (op : BinOp) (k : FloatKind) (a b : Nat) : Option C :=
  match op with
  | .add => some (.flt k (optF k (k.format.add a b)))
  | .sub => some (.flt k (optF k (k.format.sub a b)))
  | .mul => some (.flt k (optF k (k.format.mul a b)))
  | .quo => some (.flt k (optF k (k.format.div a b)))
  | .eql | .neq | .lss | .leq | .gtr | .geq => some (.bool (cmpBits op k a b))
  | _ => none
def strBin (op : BinOp) (a b : ByteArray) : Option (C × Prop) :=
  match op with
  | .add => some (.str (a ++ b), ((a.size + b.size : Nat) : Int) ≤ 9223372036854775807)
  | .eql => some (.bool (a.toList == b.toList), True)
  | .neq => some (.bool (!(a.toList == b.toList)), True)
  | .lss => some (.bool (Op.bytesLess a.toList b.toList), True)
  | .leq => some (.bool (Op.bytesLess a.toList b.toList || a.toList == b.toList), True)
  | .gtr => some (.bool (!(Op.bytesLess a.toList b.toList || a.toList == b.toList)), True)
  | .geq => some (.bool (!(Op.bytesLess a.toList b.toList)), True)
  | _ => none
def boolBin (P : Program) (op : BinOp) (t : TypeId) (a b : Bool) : Option C :=
  match P.underlying t, op with
  | some .bool, .eql => some (.bool (a == b))
  | some .bool, .neq => some (.bool (!(a == b)))
  | _, _ => none
structure Eff where
  av : AV
  new : List (Nat × Ob) := []
  gone : List Nat := []
  ob : Prop := True
def eqCells (P : Program) : List Field → List X → List X → Nat → Option Bool
  | [], [], [], _ => some true
  | f :: fs, .c (.flt k a) :: xs, .c (.flt k' b) :: ys, j => match P.underlying f.type with
    | some (.float _) => if f.offset = j ∧ f.name ≠ "_" ∧ k = k' then (eqCells P fs xs ys (j + 1)).map fun r => cmpBits .eql k a b && r else none
    | _ => none
  | _, _, _, _ => none
def eqAgg (P : Program) (op : BinOp) (t : TypeId) (xs ys : List X) : Option Eff :=
  match P.underlying t with
  | some (.struct fs) => if P.stoodInHeld t = false ∧ P.eqGuardType P.depth t = false then match op with
    | .eql => (eqCells P fs.toList xs ys 0).map fun r => { av := bv r }
    | .neq => (eqCells P fs.toList xs ys 0).map fun r => { av := bv (!r) }
    | _ => none
    else none
  | _ => none
def evBin (P : Program) (op : BinOp) (t : TypeId) (x y : AV) : Option Eff :=
  match x, y with
  | .v (.one (.c (.int k a))), .v (.one (.c (.int k' b))) =>
    match op with
    | .shl | .shr => (shiftOp op k a b).map fun r => { av := cv r.1, ob := r.2 }
    | _ => if k = k' then (intBin op k a b).map fun r => { av := cv r.1, ob := r.2 } else none
  | .v (.one (.c (.flt k a))), .v (.one (.c (.flt k' b))) => if k = k' then (fltBin op k a b).map fun r => { av := cv r } else none
  | .v (.one (.c (.str a))), .v (.one (.c (.str b))) => (strBin op a b).map fun r => { av := cv r.1, ob := r.2 }
  | .v (.one (.c (.bool a))), .v (.one (.c (.bool b))) => (boolBin P op t a b).map fun r => { av := cv r }
  | .v (.agg xs), .v (.agg ys) => eqAgg P op t xs ys
  | _, _ => none
def nilBin (P : Program) (op : BinOp) (t : TypeId) (oy : Operand) (x y : AV) : Option Eff :=
  match op, oy, P.underlying t, x, y with
  | .neq, .const _, some (.interface _), .v (.one (.c .niliface)), .v (.one (.c .niliface)) => some { av := bv false }
  | .eql, .const _, some (.interface _), .v (.one (.c .niliface)), .v (.one (.c .niliface)) => some { av := bv true }
  | .neq, .const _, some (.interface _), .v (.one (.c (.err b))), .v (.one (.c .niliface)) => some { av := bv b }
  | .eql, .const _, some (.interface _), .v (.one (.c (.err b))), .v (.one (.c .niliface)) => some { av := bv (!b) }
  | _, _, _, _, _ => none
def evUn (op : UnOp) (x : AV) : Option Eff :=
  match op, x with
  | .not, .v (.one (.c (.bool b))) => some { av := bv (!b) }
  | .neg, .v (.one (.c (.flt k c))) => some { av := fv k (negBits k c) }
  | .neg, .v (.one (.c (.int k n))) => some { av := iv k (k.wrap (0 - n)) }
  | _, _ => none
def evConv (P : Program) (src dst : TypeId) (x : AV) : Option Eff :=
  match P.underlying src, P.underlying dst, x with
  | some _, some (.int k), .v (.one (.c (.int _ n))) => some { av := iv k (k.wrap n) }
  | some _, some (.float k), .v (.one (.c (.int _ n))) => some { av := fv k (canonF k (k.nearest n)) }
  | some _, some (.int k), .v (.one (.c (.flt s b))) => some { av := iv k ((floatToIntVal s b k).getD 0), ob := (floatToIntVal s b k).isSome = true }
  | some _, some (.float k), .v (.one (.c (.flt s b))) => some { av := fv k ((convBits s b k).getD 0), ob := (convBits s b k).isSome = true }
  | some _, some .string, .v (.one (.c (.str s))) => some { av := sv s }
  | _, _, _ => none
/-! ### Calls -/
inductive CT where
  | one (c : C)
  | agg (cs : List C)
def CTRep (w : World) : CT → Value → Prop
  | .one c, v => CRep w (fun _ _ => False) c v
  | .agg cs, v => ∃ vs : Array Value, v = .agg vs ∧ vs.size = cs.length ∧ ∀ (j : Nat) (c : C), cs[j]? = some c → ∃ u, vs[j]? = some u ∧ CRep w (fun _ _ => False) c u
def CTsRep (w : World) (ts : List CT) (vs : Array Value) : Prop := vs.size = ts.length ∧ ∀ (j : Nat) (t : CT), ts[j]? = some t → ∃ u, vs[j]? = some u ∧ CTRep w t u
def RTRep (w : World) (F : Nat → Nat → Prop) : CT → Value → Prop
  | .one c, v => OwnC w c (F 0) v
  | .agg cs, v => ∃ vs : Array Value, v = .agg vs ∧ vs.size = cs.length ∧ ∀ (j : Nat) (c : C), cs[j]? = some c → ∃ u, vs[j]? = some u ∧ OwnC w c (F j) u
def RTsRep (w : World) (F : Nat → Nat → Nat → Prop) : List CT → Value → Prop
  | [t], v => RTRep w (F 0) t v
  | ts, v => ∃ vs : Array Value, v = .tuple vs ∧ vs.size = ts.length ∧ ∀ (i : Nat) (t : CT), ts[i]? = some t → ∃ u, vs[i]? = some u ∧ RTRep w (F i) t u
def Res (lo : Nat) (w : World) (res : List CT) (v : Value) : Prop :=
  ∃ F : Nat → Nat → Nat → Prop, (∀ i j b, F i j b → lo ≤ b ∧ b < w.heap.size) ∧ (∀ i j i' j' b, F i j b → F i' j' b → i = i' ∧ j = j') ∧ RTsRep w F res v
def Invk (P : Program) (f : FuncId) (args : Array Value) (w : World) (Q : Value → World → Prop) : Prop :=
  match (callFunc f args).run P w with
  | .ok (.enter g as) w1 => w1 = w ∧ Calls P g as w fun e w' => ∃ v, e = .returned v ∧ Q v w'
  | .ok (.value v) w1 => Q v w1
  | _ => False
def CallOK (P : Program) (f : FuncId) (args res : List CT) : Prop :=
  ∀ w vs, Gd w → CTsRep w args vs → Invk P f vs w fun v w' => Below w.heap.size w w' ∧ Res w.heap.size w' res v
def isC (Hs : Nat → Option Ob) : X → C → Prop
  | .c c, d => d = c
  | .nils, .seq n _ _ => n = 0
  | .arr id, d => match Hs id with
    | some (.arr _ n sz get) => d = .seq n sz get
    | _ => False
  | .sub id i j, d => match Hs id with
    | some (.arr _ _ _ get) => d = get i j
    | _ => False
  | .lst _ n sz get, d => d = .seq n sz get
  | .fx _ _ c, d => d = c
  | _, _ => False
def isCs (Hs : Nat → Option Ob) : List X → List C → Prop
  | [], [] => True
  | x :: xs, c :: cs => isC Hs x c ∧ isCs Hs xs cs
  | _, _ => False
def isClo (Hs : Nat → Option Ob) : List Nat → (Nat → C) → Prop
  | [], _ => True
  | id :: r, cap => (match Hs id, cap 0 with
    | some (.box xs), .ptr m get => isCs Hs xs ((List.range m).map get)
    | _, _ => False) ∧ isClo Hs r fun j => cap (j + 1)
def isP (Hs : Nat → Option Ob) : X → C → Prop
  | .ptr id off, .ptr m get => match Hs id with
    | some (.box xs) => off = 0 ∧ isCs Hs xs ((List.range m).map get)
    | _ => False
  | .c (.ptr m g), .ptr m' get => m' = m ∧ ∀ j, j < m → get j = g j
  | .clo f ids, .fn f' m cap => f' = f ∧ m = ids.length ∧ isClo Hs ids cap
  | x, c => isC Hs x c
def isCT (Hs : Nat → Option Ob) : AV → CT → Prop
  | .v (.one x), .one c => isP Hs x c
  | .v (.agg xs), .agg cs => isCs Hs xs cs
  | _, _ => False
def isCTs (Hs : Nat → Option Ob) : List AV → List CT → Prop
  | [], [] => True
  | a :: as, c :: cs => isCT Hs a c ∧ isCTs Hs as cs
  | _, _ => False
end Go.Fw
