
import Derived.Test.YtblpjlaihgcilafFwP
namespace Go.Fw
open Go Go.RowKit
inductive Dst where
  | view
  | lst (id : Nat)
  | arr (id : Nat)
  | own (id : Nat)
inductive MC where
  | ro (c : C)
  | mu (c c' : C)
  | mv (c : C)
inductive BC where
  | ro (c : C)
  | set (c c' : C)
  | mu (c c' : C)
def BC.mc : BC → MC
  | .ro c => .ro c
  | .set c _ => .ro c
  | .mu c c' => .mu c c'
inductive MT where
  | one (c : MC)
  | agg (cs : List MC)
  | box (m : Nat) (keep : Nat → Bool) (get get' : Nat → C)
  
  | boxm (cs : List BC)
  
  | ext (p p' : EP)
inductive Hint where
  | no
  
  | dec (b : Bool)
  
  | box (id : Nat)
  
  | obj (id n : Nat) (get : Nat → Nat → C)
  
  | objA (id n : Nat) (get : Nat → Nat → C)
  
  | objD (id n : Nat) (get : Nat → Nat → C)
  
  | objK (id n : Nat) (get : Nat → Nat → C)
  | objKA (id n : Nat) (get : Nat → Nat → C)
  | seq (n : Nat) (get : Nat → Nat → C)
  | str (s : ByteArray)
  
  | set (n : Nat) (get : Nat → Nat → C) (row : List C)
  | call (args res : List CT) (ds : List (List Dst))
  
  | callM (ts : List MT) (res : List CT) (ds : List (List Dst)) (us : Option (Nat × (Nat → Nat → C)))
def hd1 : List Dst → Dst
  | [] => .view
  | d :: _ => d
def hd2 : List (List Dst) → List Dst
  | [] => []
  | d :: _ => d
def mkX : C → Dst → X × List (Nat × Ob)
  | .seq n sz g, .lst id => (.lst id n sz g, [(id, .lst n sz g)])
  | .seq n sz g, .arr id => (.arr id, [(id, .arr false n sz g)])
  | .seq n sz g, .own id => (.arr id, [(id, .arr true n sz g)])
  | c, _ => (.c c, [])
def mkXs : List C → List Dst → List X × List (Nat × Ob)
  | [], _ => ([], [])
  | c :: cs, ds =>
    let x := mkX c (hd1 ds)
    let r := mkXs cs ds.tail
    (x.1 :: r.1, x.2 ++ r.2)
def mkTV : CT → List Dst → TV × List (Nat × Ob)
  | .one c, ds => let x := mkX c (hd1 ds); (.one x.1, x.2)
  | .agg cs, ds => let r := mkXs cs ds; (.agg r.1, r.2)
def mkTVs : List CT → List (List Dst) → List TV × List (Nat × Ob)
  | [], _ => ([], [])
  | t :: ts, ds =>
    let x := mkTV t (hd2 ds)
    let r := mkTVs ts ds.tail
    (x.1 :: r.1, x.2 ++ r.2)
def mkAV : List CT → List (List Dst) → AV × List (Nat × Ob)
  | [t], ds => let x := mkTV t (hd2 ds); (.v x.1, x.2)
  | ts, ds => let r := mkTVs ts ds; (.tup r.1, r.2)
def TV.cells : TV → List X
  | .one x => [x]
  | .agg xs => xs
def rhos (ρ : Rho) : List Operand → Option (List AV)
  | [] => some []
  | x :: r => match ρ x, rhos ρ r with
    | some a, some as => some (a :: as)
    | _, _ => none
def evCall (P : Program) (f : FuncId) (Hs : Nat → Option Ob) (as : List AV) (h : Hint) : Option Eff :=
  match h with
  | .call args res ds => let r := mkAV res ds; some { av := r.1, new := r.2, ob := isCTs Hs as args ∧ CallOK P f args res }
  | _ => none
def singleX : List X → Option TV
  | [x] => some (.one x)
  | _ => none
def asTV (P : Program) (t : TypeId) (xs : List X) : Option TV :=
  match P.underlying t with
  | some (.struct _) => some (.agg xs)
  | some (.array _ _) => some (.agg xs)
  | some _ => singleX xs
  | none => none
def unfx : X → X
  | .fx _ _ c => .c c
  | x => x
def loadX (d : Bool) (id i j : Nat) (c : C) : X :=
  match d with
  | false => .c c
  | true => match c with
    | .seq _ _ _ => .sub id i j
    | c => .c c
def evLoad (P : Program) (Hs : Nat → Option Ob) (t : TypeId) (a : AV) : Option Eff :=
  match sizeT P t, a with
  | some n, .v (.one (.ptr id off)) => match Hs id with
    | some (.box xs) => if off + n ≤ xs.length then (asTV P t (((xs.drop off).take n).map unfx)).map fun t => { av := .v t } else none
    | _ => none
  | some n, .v (.one (.c (.ptr m get))) => if n ≤ m then (asTV P t ((List.range n).map fun j => .c (get j))).map fun t => { av := .v t } else none
  | some n, .v (.one (.elt id i off)) => match Hs id with
    | some (.arr d _ sz get) => if off + n ≤ sz then (asTV P t ((List.range n).map fun j => loadX d id i (off + j) (get i (off + j)))).map fun t => { av := .v t } else none
    | _ => none
  | _, _ => none
def fieldT (P : Program) (t : TypeId) (k : Nat) : Option (TypeId × Nat × Nat) :=
  match P.underlying t with
  | some (.struct fs) => match fs[k]? with
    | some f => (sizeT P f.type).map fun n => (f.type, f.offset, n)
    | none => none
  | _ => none
def evFieldAddr (P : Program) (t : TypeId) (a : AV) (k : Nat) : Option Eff :=
  match fieldT P t k, a with
  | some (_, o, n), .v (.one (.ptr id off)) => if n ≠ 0 then some { av := .v (.one (.ptr id (off + o))) } else none
  | some (_, o, n), .v (.one (.c (.ptr m get))) => if n ≠ 0 ∧ o + n ≤ m then some { av := cv (.ptr n fun j => get (o + j)) } else none
  | some (_, o, n), .v (.one (.elt id i off)) => if n ≠ 0 then some { av := .v (.one (.elt id i (off + o))) } else none
  | _, _ => none
def evField (P : Program) (t : TypeId) (a : AV) (k : Nat) : Option Eff :=
  match fieldT P t k, a with
  | some (ft, o, n), .v (.agg xs) => if o + n ≤ xs.length then (asTV P ft ((xs.drop o).take n)).map fun t => { av := .v t } else none
  | _, _ => none
def evIndexAddr (P : Program) (Hs : Nat → Option Ob) (t : TypeId) (a i : AV) : Option Eff :=
  match P.underlying t, a, i with
  | some (.slice e), .v (.one (.c (.seq n sz get))), .v (.one (.c (.int _ i))) =>
    if sizeT P e = some sz then some { av := cv (.ptr sz fun j => get i.toNat j), ob := 0 ≤ i ∧ i < (n : Int) } else none
  | some (.slice e), .v (.one (.lst _ n sz get)), .v (.one (.c (.int _ i))) =>
    if sizeT P e = some sz then some { av := cv (.ptr sz fun j => get i.toNat j), ob := 0 ≤ i ∧ i < (n : Int) } else none
  | some (.slice e), .v (.one (.arr id)), .v (.one (.c (.int _ i))) => match Hs id with
    | some (.arr _ n sz _) => if sizeT P e = some sz then some { av := .v (.one (.elt id i.toNat 0)), ob := 0 ≤ i ∧ i < (n : Int) } else none
    | _ => none
  | _, _, _ => none
def bt (s : ByteArray) (i : Nat) : Int := (((s.data.toList[i]?).getD 0).toNat : Int)
def evIndex (P : Program) (t : TypeId) (a i : AV) : Option Eff :=
  match P.underlying t, a, i with
  | some .string, .v (.one (.c (.str s))), .v (.one (.c (.int _ i))) => some { av := iv .u8 (bt s i.toNat), ob := 0 ≤ i ∧ i < (s.size : Int) }
  | _, _, _ => none
def evLen (P : Program) (Hs : Nat → Option Ob) (t : TypeId) (a : AV) : Option Eff :=
  match P.underlying t, a with
  | some .string, .v (.one (.c (.str s))) => some { av := iv .i64 s.size }
  | some (.slice _), .v (.one (.c (.seq n _ _))) => some { av := iv .i64 n }
  | some (.slice _), .v (.one (.lst _ n _ _)) => some { av := iv .i64 n }
  | some (.slice _), .v (.one .nils) => some { av := iv .i64 0 }
  | some (.slice _), .v (.one (.arr id)) => match Hs id with
    | some (.arr _ n _ _) => some { av := iv .i64 n }
    | _ => none
  | _, _ => none
def zeroXs (P : Program) (t : TypeId) : Option (List X) :=
  match P.info? t with
  | some i => match i.zero with
    | some z => constXs z.cells.toList
    | none => none
  | none => none
def fillX (place : Nat → Option (Nat × Nat)) : List X → List (Nat × TV) → Option (List X)
  | cells, [] => some cells
  | cells, (i, t) :: r => match place i with
    | none => none
    | some (off, size) => if t.cells.length = size ∧ off + t.cells.length ≤ cells.length then
        fillX place (cells.take off ++ t.cells ++ cells.drop (off + t.cells.length)) r else none
def partsX (ρ : Rho) : List (Nat × Operand) → Option (List (Nat × TV))
  | [] => some []
  | (i, x) :: r => match ρ x, partsX ρ r with
    | some (.v t), some ps => some ((i, t) :: ps)
    | _, _ => none
def placesT (P : Program) (t : TypeId) : Option (List (Nat × Nat)) :=
  match P.underlying t with
  | some (.struct fs) => fs.toList.mapM fun f => (P.info? f.type).map fun i => (f.offset, i.size)
  | _ => none
def evBuild (P : Program) (ρ : Rho) (t : TypeId) (parts : List (Nat × Operand)) : Option Eff :=
  match zeroXs P t, placesT P t, partsX ρ parts with
  | some z, some pl, some ps => (fillX (pl.toArray[·]?) z ps).map fun xs => { av := .v (.agg xs) }
  | _, _, _ => none
def goneX : X → List Nat
  | .lst id _ _ _ => [id]
  | .arr id => [id]
  | _ => []
def evOp0 (P : Program) (ρ : Rho) (Hs : Nat → Option Ob) (o : Oper) (h : Hint) : Option Eff :=
  match o.op with
  | .move x => (ρ x).map fun v => { av := v }
  | .assign x => (ρ x).map fun v => { av := v }
  | .pick c x y => match ρ c with
    | some (.v (.one (.c (.bool true)))) => (ρ x).map fun v => { av := v }
    | some (.v (.one (.c (.bool false)))) => (ρ y).map fun v => { av := v }
    | _ => none
  | .binOp op t x y _ => match ρ x, ρ y with
    | some u, some v => match evBin P op t u v with
      | some E => some E
      | none => nilBin P op t y u v
    | _, _ => none
  | .unOp op _ x => match ρ x with
    | some u => evUn op u
    | none => none
  | .convert src dst x => match ρ x with
    | some u => evConv P src dst u
    | none => none
  | .nilCheck x => match ρ x with
    | some (.v (.one (.ptr id off))) => some { av := .v (.one (.ptr id off)) }
    | some (.v (.one (.elt id i off))) => some { av := .v (.one (.elt id i off)) }
    | some (.v (.one (.c (.ptr m get)))) => some { av := cv (.ptr m get) }
    | some (.v (.one (.c (.fn f m get)))) => some { av := cv (.fn f m get) }
    | some (.v (.one (.clo f ids))) => some { av := .v (.one (.clo f ids)) }
    | _ => none
  | .load t x => match ρ x with
    | some u => evLoad P Hs t u
    | none => none
  | .fieldAddr t x k => match ρ x with
    | some u => evFieldAddr P t u k
    | none => none
  | .field t x k => match ρ x with
    | some u => evField P t u k
    | none => none
  | .indexAddr t x i => match ρ x, ρ i with
    | some u, some v => evIndexAddr P Hs t u v
    | _, _ => none
  | .index t x i => match ρ x, ρ i with
    | some u, some v => evIndex P t u v
    | _, _ => none
  | .extract x k => match ρ x with
    | some (.tup ts) => (ts[k]?).map fun t => { av := .v t }
    | _ => none
  | .alloc t => match h, zeroXs P t with
    | .box id, some xs => some { av := .v (.one (.ptr id 0)), new := [(id, .box xs)] }
    | _, _ => none
  | .box _ x => match h, ρ x with
    | .box id, some (.v t) => some { av := .v (.one (.ptr id 0)), new := [(id, .box t.cells)] }
    | _, _ => none
  | .build t parts => evBuild P ρ t parts.toList
  | .makeFunc (.func f) first captured => if first.size = 0 then match rhos ρ captured.toList with
      | some as => (as.mapM fun (a : AV) => match a with
          | .v (.one (.ptr id 0)) => some id
          | _ => none).map fun ids => { av := .v (.one (.clo f ids)) }
      | none => none
    else none
  | .call c => match c.callee with
    | .builtin .len => match c.args.toList, c.argTypes.toList with
      | [x], [t] => match ρ x with
        | some u => evLen P Hs t u
        | none => none
      | _, _ => none
    | .builtin .min => match c.args.toList with
      | [x, y] => match ρ x, ρ y with
        | some (.v (.one (.c (.int k a)))), some (.v (.one (.c (.int _ b)))) => some { av := iv k (if b < a then b else a) }
        | some (.v (.one (.c (.flt k a)))), some (.v (.one (.c (.flt k' b)))) => if k = k' then some { av := fv k (extBits false k a b) } else none
        | _, _ => none
      | _ => none
    | .builtin .max => match c.args.toList with
      | [x, y] => match ρ x, ρ y with
        | some (.v (.one (.c (.int k a)))), some (.v (.one (.c (.int _ b)))) => some { av := iv k (if b > a then b else a) }
        | some (.v (.one (.c (.flt k a)))), some (.v (.one (.c (.flt k' b)))) => if k = k' then some { av := fv k (extBits true k a b) } else none
        | _, _ => none
      | _ => none
    | .value f => match ρ f, rhos ρ c.args.toList with
      | some (.v (.one (.c (.fn f m cap)))), some as => evCall P f Hs (as ++ (List.range m).map fun j => cv (cap j)) h
      | some (.v (.one (.clo f ids))), some as => evCall P f Hs (as ++ ids.map fun id => .v (.one (.ptr id 0))) h
      | _, _ => none
    | _ => none
  | _ => none
/-! ### What owns -/
def scalarC : C → Prop
  | .int _ _ | .bool _ | .flt _ _ | .str _ => True
  | .fn _ m _ => m = 0
  | _ => False
def isRX (Hs : Nat → Option Ob) : X → C → Prop
  | .c c, d => d = c ∧ scalarC c
  | .nils, .seq n _ _ => n = 0
  | .arr id, d => match Hs id with
    | some (.arr _ n sz g) => d = .seq n sz g
    | _ => False
  | .lst id _ _ _, d => match Hs id with
    | some (.lst n sz g) => d = .seq n sz g
    | _ => False
  | _, _ => False
def isRXs (Hs : Nat → Option Ob) : List X → List C → Prop
  | [], [] => True
  | x :: xs, c :: cs => isRX Hs x c ∧ isRXs Hs xs cs
  | _, _ => False
def isRT (Hs : Nat → Option Ob) : TV → CT → Prop
  | .one x, .one c => isRX Hs x c
  | .agg xs, .agg cs => isRXs Hs xs cs
  | _, _ => False
def isRTs (Hs : Nat → Option Ob) : List TV → List CT → Prop
  | [], [] => True
  | x :: xs, c :: cs => isRT Hs x c ∧ isRTs Hs xs cs
  | _, _ => False
def elemT (P : Program) (t : TypeId) : Option (TypeId × Nat × Nat) :=
  match P.underlying t with
  | some (.slice e) => match P.info? e with
    | some i => match i.zero with
      | some z => if z.cells.size = i.size ∧ 0 < i.size ∧ 0 < i.bytes then some (e, i.size, i.bytes) else none
      | none => none
    | none => none
  | _ => none
def AppOb (n m sz : Nat) (get get2 get' : Nat → Nat → C) : Prop :=
  (∀ i j, i < n → j < sz → get' i j = get i j) ∧ ∀ i j, i < m → j < sz → get' (n + i) j = get2 i j
def srcOf (Hs : Nat → Option Ob) (sz : Nat) : AV → Option (Nat × (Nat → Nat → C) × List Nat × Prop)
  | .v (.one .nils) => some (0, fun _ _ => .nilptr, [], True)
  | .v (.one (.c (.seq m sz2 get))) => if sz2 = sz then some (m, get, [], ∀ i j, i < m → j < sz → scalarC (get i j)) else none
  | .v (.one (.lst id _ _ _)) => match Hs id with
    | some (.lst m sz2 get) => if sz2 = sz then some (m, get, [id], True) else none
    | _ => none
  | .v (.one (.arr id)) => match Hs id with
    | some (.arr _ m sz2 get) => if sz2 = sz then some (m, get, [id], True) else none
    | _ => none
  | _ => none
def srcK (Hs : Nat → Option Ob) (sz : Nat) : AV → Option (Nat × (Nat → Nat → C) × List Nat × Prop)
  | .v (.one (.lst _ m sz2 get)) => if sz2 = sz then some (m, get, [], ∀ i j, i < m → j < sz → scalarC (get i j)) else none
  | .v (.one (.arr id)) => match Hs id with
    | some (.arr _ m sz2 get) => if sz2 = sz then some (m, get, [], ∀ i j, i < m → j < sz → scalarC (get i j)) else none
    | _ => none
  | _ => none
def keepsH : Hint → Bool
  | .objK _ _ _ => true
  | .objKA _ _ _ => true
  | _ => false
def srcH (h : Hint) (Hs : Nat → Option Ob) (sz : Nat) (x : AV) : Option (Nat × (Nat → Nat → C) × List Nat × Prop) := if keepsH h then srcK Hs sz x else srcOf Hs sz x
inductive Kd where
  | kl | ka | kd
def objH : Hint → Option (Kd × Nat × Nat × (Nat → Nat → C))
  | .obj id n get => some (.kl, id, n, get)
  | .objA id n get => some (.ka, id, n, get)
  | .objD id n get => some (.kd, id, n, get)
  | .objK id n get => some (.kl, id, n, get)
  | .objKA id n get => some (.ka, id, n, get)
  | _ => none
def obX (l : Kd) (id n sz : Nat) (get : Nat → Nat → C) : X :=
  match l with
  | .kl => .lst id n sz get
  | _ => .arr id
def obO (l : Kd) (n sz : Nat) (get : Nat → Nat → C) : Ob :=
  match l with
  | .kl => .lst n sz get
  | .ka => .arr false n sz get
  | .kd => .arr true n sz get
def deepG (Hs : Nat → Option Ob) (g : Nat) : Bool :=
  match Hs g with
  | some (.arr true _ _ _) => true
  | _ => false
def okKd (Hs : Nat → Option Ob) (l : Kd) (gone : List Nat) : Bool :=
  match l with
  | .kd => gone.all (deepG Hs)
  | _ => true
def dstOf (Hs : Nat → Option Ob) (sz : Nat) : AV → Option (Nat × (Nat → Nat → C) × List Nat)
  | .v (.one .nils) => some (0, fun _ _ => .nilptr, [])
  | .v (.one (.lst id _ _ _)) => match Hs id with
    | some (.lst m sz2 get) => if sz2 = sz then some (m, get, [id]) else none
    | _ => none
  | .v (.one (.arr id)) => match Hs id with
    | some (.arr _ m sz2 get) => if sz2 = sz then some (m, get, [id]) else none
    | _ => none
  | _ => none
def notLst : AV → Bool
  | .v (.one (.lst _ _ _ _)) => false
  | _ => true
def okApp (l : Kd) (s : AV) : Bool :=
  match l with
  | .kl => true
  | _ => notLst s
def evAppend (P : Program) (Hs : Nat → Option Ob) (t : TypeId) (s x : AV) (h : Hint) : Option Eff :=
  match objH h, elemT P t with
  | some (l, id, n', get'), some (_, sz, bytes) => match dstOf Hs sz s, srcH h Hs sz x with
    | some (n, get, g1), some (m, get2, g2, ob) => if okApp l s && okKd Hs l (g1 ++ g2) then
      some { av := .v (.one (obX l id n' sz get')), new := [(id, obO l n' sz get')], gone := g1 ++ g2, ob := n' = n + m ∧ AppOb n m sz get get2 get' ∧ ob ∧ (n + m) * bytes ≤ 140737488355328 } else none
    | _, _ => none
  | _, _ => none
def zeroRow (Hs : Nat → Option Ob) : List X → (Nat → C) → Prop
  | [], _ => True
  | x :: xs, g => isRX Hs x (g 0) ∧ zeroRow Hs xs fun j => g (j + 1)
def evMake (P : Program) (t : TypeId) (l c : AV) (h : Hint) : Option Eff :=
  match objH h, elemT P t, l, c with
  | some (isl, id, n, get), some (e, sz, bytes), .v (.one (.c (.int _ l))), .v (.one (.c (.int _ c))) => match zeroXs P e with
    | some zs => some { av := .v (.one (obX isl id n sz get)), new := [(id, obO isl n sz get)], ob := 0 ≤ l ∧ l = c ∧ (n : Int) = l ∧ n * bytes ≤ 140737488355328 ∧ ∀ i, i < n → zeroRow (fun _ => none) zs (get i) }
    | none => none
  | _, _, _, _ => none
def repXs (zs : List X) : Nat → List X
  | 0 => []
  | n + 1 => zs ++ repXs zs n
def cellsOf (sz : Nat) (get : Nat → Nat → C) (n : Nat) : List C := (List.range (n * sz)).map fun k => get (k / sz) (k % sz)
def evBuildSlice (P : Program) (ρ : Rho) (Hs : Nat → Option Ob) (t : TypeId) (len : Nat) (parts : List (Nat × Operand)) (h : Hint) : Option Eff :=
  match objH h, elemT P t with
  | some (l, id, n, get), some (e, sz, _) => match zeroXs P e, partsX ρ parts with
    | some zs, some ps => match fillX (fun i => some (i * sz, sz)) (repXs zs len) ps with
      | some xs => if len * sz ≤ 16777216 ∧ okKd Hs l (xs.flatMap goneX) = true then
          some { av := .v (.one (obX l id n sz get)), new := [(id, obO l n sz get)], gone := xs.flatMap goneX, ob := n = len ∧ isRXs Hs xs (cellsOf sz get len) } else none
      | none => none
    | _, _ => none
  | _, _ => none
def isVX : X → C → Prop
  | .c c, d => d = c
  | .nils, d => match d with
    | .seq n _ _ => n = 0
    | _ => False
  | .lst _ n sz g, d => d = .seq n sz g
  | .fx _ _ c, d => d = c
  | _, _ => False
def isVXs : List X → List C → Prop
  | [], [] => True
  | x :: xs, c :: cs => isVX x c ∧ isVXs xs cs
  | _, _ => False
def evBuildView (P : Program) (ρ : Rho) (t : TypeId) (len : Nat) (parts : List (Nat × Operand)) (n : Nat) (get : Nat → Nat → C) : Option Eff :=
  match elemT P t with
  | some (e, sz, _) => match zeroXs P e, partsX ρ parts with
    | some zs, some ps => match fillX (fun i => some (i * sz, sz)) (repXs zs len) ps with
      | some xs => if len * sz ≤ 16777216 then some { av := .v (.one (.c (.seq n sz get))), ob := n = len ∧ isVXs xs (cellsOf sz get len) } else none
      | none => none
    | _, _ => none
  | none => none
def viewOf : AV → Option (Nat × Nat × (Nat → Nat → C))
  | .v (.one (.c (.seq n sz get))) => some (n, sz, get)
  | .v (.one (.lst _ n sz get)) => some (n, sz, get)
  | .v (.one .nils) => some (0, 0, fun _ _ => .nilptr)
  | _ => none
def boundOf (ρ : Rho) (d : Int) : Option Operand → Option Int
  | none => some d
  | some x => match ρ x with
    | some (.v (.one (.c (.int _ i)))) => some i
    | _ => none
def evSlice (P : Program) (ρ : Rho) (t : TypeId) (x : Operand) (lo hi mx : Option Operand) (h : Hint) : Option Eff :=
  match P.underlying t, ρ x, mx with
  | some .string, some (.v (.one (.c (.str s)))), none => match boundOf ρ 0 lo, boundOf ρ s.size hi with
    | some l, some r => some { av := sv (s.extract l.toNat r.toNat), ob := 0 ≤ l ∧ l ≤ r ∧ r ≤ (s.size : Int) }
    | _, _ => none
  | some (.slice e), some av, none => match h, viewOf av, sizeT P e with
    | .seq n' get', some (n, sz, get), some sz' => if sz = sz' ∨ n = 0 then match boundOf ρ 0 lo, boundOf ρ n hi with
      | some l, some r => some { av := cv (.seq n' sz' get'), ob := 0 ≤ l ∧ l ≤ r ∧ r ≤ (n : Int) ∧ (n' : Int) = r - l ∧ ∀ i j, i < n' → j < sz' → get' i j = get (l.toNat + i) j }
      | _, _ => none
      else none
    | _, _, _ => none
  | _, _, _ => none
def evPart (P : Program) (ρ : Rho) (Hs : Nat → Option Ob) (t : TypeId) (x : Operand) (lo hi mx : Option Operand) : Option Eff :=
  match P.underlying t, ρ x, mx with
  | some (.slice e), some (.v (.one (.arr i))), none => match Hs i, sizeT P e, boundOf ρ 0 lo with
    | some (.arr _ n sz _), some sz', some l => match boundOf ρ n hi with
      | some r => if sz = sz' then some { av := .prt i l.toNat (r.toNat - l.toNat), ob := 0 ≤ l ∧ l < (n : Int) ∧ l ≤ r ∧ r ≤ (n : Int) } else none
      | none => none
    | _, _, _ => none
  | _, _, _ => none
def isKd : Kd → Bool
  | .kd => true
  | _ => false
def evCut (P : Program) (ρ : Rho) (Hs : Nat → Option Ob) (t : TypeId) (x : Operand) (lo hi mx : Option Operand) (h : Hint) : Option Eff :=
  match P.underlying t, ρ x, mx, objH h with
  | some (.slice e), some (.v (.one (.arr i))), none, some (l, id, n', get') => match Hs i, sizeT P e, boundOf ρ 0 lo with
    | some (.arr _ n sz get), some sz', some lo' => match boundOf ρ n hi with
      | some r => if sz = sz' ∧ isKd l = false then
          some { av := .v (.one (obX l id n' sz get')), new := [(id, obO l n' sz get')], gone := [i], ob := lo' = 0 ∧ 0 ≤ r ∧ r ≤ (n : Int) ∧ (n' : Int) = r ∧ ∀ a b, a < n' → b < sz → get' a b = get a b } else none
      | none => none
    | _, _, _ => none
  | _, _, _, _ => none
def bytesOb (s : ByteArray) (n : Nat) (get : Nat → Nat → C) : Prop := n = s.size ∧ ∀ i, i < n → get i 0 = .int .u8 (bt s i)
def evConvL (P : Program) (Hs : Nat → Option Ob) (src dst : TypeId) (x : AV) (h : Hint) : Option Eff :=
  match P.underlying src, P.underlying dst, x, objH h, h with
  | some .string, some (.slice e), .v (.one (.c (.str s))), some (l, id, n, get), _ => match P.underlying e with
    | some (.int .u8) => some { av := .v (.one (obX l id n 1 get)), new := [(id, obO l n 1 get)], ob := bytesOb s n get }
    | _ => none
  | some (.slice e), some .string, x, _, .str s => match P.underlying e with
    | some (.int .u8) => match x with
      | .v (.one (.c (.seq n 1 get))) => some { av := sv s, ob := bytesOb s n get }
      | .v (.one (.lst _ n 1 get)) => some { av := sv s, ob := bytesOb s n get }
      | .v (.one .nils) => some { av := sv s, ob := s.size = 0 }
      | .v (.one (.arr id)) => match Hs id with
        | some (.arr _ n 1 get) => some { av := sv s, ob := bytesOb s n get }
        | _ => none
      | _ => none
    | _ => none
  | _, _, _, _, _ => none
def evFreeze (P : Program) (Hs : Nat → Option Ob) (src dst : TypeId) (x : AV) (h : Hint) : Option Eff :=
  match P.underlying src, P.underlying dst, objH h with
  | some (.slice _), some (.slice e), some (l, id, n, get) => match P.underlying e with
    | some (.int .u8) => if src = dst ∧ isKd l = false then match x with
        | .v (.one (.lst i _ _ _)) => match Hs i, l with
          | some (.lst k 1 g), .kl => some { av := .v (.one (obX .kl id n 1 get)), new := [(id, obO .kl n 1 get)], gone := [i], ob := 0 < k ∧ n = k ∧ ∀ j, j < n → get j 0 = g j 0 }
          | _, _ => none
        | .v (.one (.arr i)) => match Hs i with
          | some (.arr _ k 1 g) => some { av := .v (.one (obX l id n 1 get)), new := [(id, obO l n 1 get)], gone := [i], ob := 0 < k ∧ n = k ∧ ∀ j, j < n → get j 0 = g j 0 }
          | _ => none
        | _ => none
      else none
    | _ => none
  | _, _, _ => none
def evList (P : Program) (ρ : Rho) (Hs : Nat → Option Ob) (o : Oper) (h : Hint) : Option Eff :=
  match o.op with
  | .convert src dst x => match ρ x with
    | some u => match evFreeze P Hs src dst u h with
      | some E => some E
      | none => evConvL P Hs src dst u h
    | none => none
  | .makeSlice t l c => match ρ l, ρ c with
    | some l, some c => evMake P t l c h
    | _, _ => none
  | .buildSlice t len parts => match h with
    | .seq n get => evBuildView P ρ t len parts.toList n get
    | h => evBuildSlice P ρ Hs t len parts.toList h
  | .slice t x lo hi mx => match evCut P ρ Hs t x lo hi mx h with
    | some E => some E
    | none => match evSlice P ρ t x lo hi mx h with
      | some E => some E
      | none => evPart P ρ Hs t x lo hi mx
  | .call c => match c.callee, c.args.toList, c.argTypes.toList with
    | .builtin .append, [s, x], [t, u] => if u = t then match ρ s, ρ x with
        | some s, some x => evAppend P Hs t s x h
        | _, _ => none
      else none
    | _, _, _ => none
  | _ => none
def decE : Option Eff → Hint → Option Eff
  | some E, .dec b => match E.av with
    | .v (.one (.c (.bool c))) => some { E with av := bv b, ob := E.ob ∧ c = b }
    | _ => none
  | e, _ => e
def evOpA (P : Program) (ρ : Rho) (Hs : Nat → Option Ob) (o : Oper) (h : Hint) : Option Eff :=
  match evOp0 P ρ Hs o h with
  | some E => some E
  | none => evList P ρ Hs o h
def evOp (P : Program) (ρ : Rho) (Hs : Nat → Option Ob) (o : Oper) (h : Hint) : Option Eff := decE (evOpA P ρ Hs o h) h
def Eff.heap (E : Eff) (H : List (Nat × Ob)) : List (Nat × Ob) := E.new ++ H.filter fun p => !E.gone.contains p.1
def Eff.ids (E : Eff) : List Nat := E.new.map (·.1)
def OpGo (P : Program) (n0 : Nat → Prop) (o : Oper) (a : Act) (w : World) (H : List (Nat × Ob)) (m : Mem) (E : Eff) : Prop :=
  match (execOp a.eval o).run P w with
  | .ok (.value v) w' => ∃ m', HeapOK n0 (E.heap H) m' w' ∧ Step n0 E.ids E.gone H m w (E.heap H) m' w' ∧ AVRep (E.heap H) m' w' E.av v
  | .ok (.enter f as) w1 => w1 = w ∧ Calls P f as w fun e w' => ∃ v, e = .returned v ∧ ∃ m', HeapOK n0 (E.heap H) m' w' ∧ Step n0 E.ids E.gone H m w (E.heap H) m' w' ∧ AVRep (E.heap H) m' w' E.av v
  | _ => False
end Go.Fw
