/- The abstract machine: what an operation of the model's code does to an abstract state, and the precondition of code over abstract states. No conditions. -/
import Derived.Test.YtbmfoijakgccgaaAmA
namespace Go.Proofs.Ytbmfoijakgccgaa.Am
open Go Go.RowKit
set_option linter.unusedSimpArgs false
set_option linter.unusedVariables false

/-- What the walk of one function is told: the program, the places (by the slot that is written) whose new slice becomes an array of the call's own, the types that are three i64 and nothing else, the boxes that may be written. -/
structure Cfg where
  P : Program
  own : Nat → Bool
  verT : TypeId → Bool
  wr : Nat → Bool

def Cfg.isAg (G : Cfg) (t : TypeId) : Option Bool := (G.P.underlying t).map fun d => match d with | .struct _ | .array _ _ => true | _ => false
def Cfg.csz (G : Cfg) (t : TypeId) : Option Nat := (G.P.info? t).map (·.size)
def Cfg.bts (G : Cfg) (t : TypeId) : Option Nat := (G.P.info? t).map (·.bytes)
def Cfg.foff (G : Cfg) (t : TypeId) (f : Nat) : Option (Nat × TypeId) := match G.P.underlying t with | some (.struct fs) => (fs[f]?).map fun x => (x.offset, x.type) | _ => none
def Cfg.elemT (G : Cfg) (t : TypeId) : Option TypeId := match G.P.underlying t with | some (.slice e) => some e | _ => none
def Cfg.arrT (G : Cfg) (t : TypeId) : Option (Nat × TypeId) := match G.P.underlying t with | some (.array n e) => some (n, e) | _ => none
def Cfg.isStr (G : Cfg) (t : TypeId) : Bool := match G.P.underlying t with | some .string => true | _ => false
def Cfg.isBool (G : Cfg) (t : TypeId) : Bool := match G.P.underlying t with | some .bool => true | _ => false
def Cfg.boolOK (G : Cfg) (t : TypeId) : Value → Bool | .bool _ => G.isBool t | _ => true
def Cfg.intK (G : Cfg) (t : TypeId) : Option IntKind := match G.P.underlying t with | some (.int k) => some k | _ => none

/-- The abstract value of a cell of a zero value, or of a constant. -/
def ofVal : Value → AV
  | .slice none 0 0 => .nil
  | .agg cs => .agg (cs.toList.map .v)
  | x => .v x
def ofCell : Value → AV
  | .slice none 0 0 => .nil
  | x => .v x
/-- The fields of a struct: where each begins, how many cells it has. -/
def Cfg.flds (G : Cfg) (t : TypeId) : Option (List (Nat × Nat)) := match G.P.underlying t with | some (.struct fs) => fs.toList.mapM (fun f => (G.P.info? f.type).map fun i => (f.offset, i.size)) | _ => none
/-- What is asked of a type: a zero value is there, of the type's size. -/
def Cfg.zerOK (G : Cfg) (t : TypeId) : Bool := match G.P.info? t with | some i => (match i.zero with | some z => z.cells.size == i.size && z.cells.all (·.oneCell') | none => false) | none => false
def Cfg.zer (G : Cfg) (t : TypeId) : Option (List AV) := (G.P.info? t).bind fun i => i.zero.map fun z => z.cells.toList.map ofCell

def St.ev (st : St) : Operand → AV
  | .tmp t => st.env t
  | .const x => ofVal x
  | .func f => .clo f [] []
  | .global _ => .dead

/-- An array is what version n of place i was. -/
def Mem.ok (m : Mem) (i n : Nat) : Bool := (m.arrs i).live && (m.arrs i).ver == n

/-- The elements of a slice. -/
def Mem.elems (m : Mem) : AV → Option (List (List AV))
  | .sl _ es => some es
  | .nil => some []
  | .arr i n off len => if m.ok i n = true then some (((m.arrs i).es.drop off).take len) else none
  | _ => none

/-- The cells from a pointed place on. -/
def Mem.cellsAt (m : Mem) : AV → Option (List AV)
  | .box k off => (m.boxes[k]?).map (·.drop off)
  | .el _ cs => some cs
  | .ael i n idx off => if m.ok i n then ((m.arrs i).es[idx]?).map (·.drop off) else none
  | _ => none

def Cfg.loadOf (G : Cfg) (t : TypeId) (cs : List AV) : Option AV :=
  match G.isAg t with
  | some true => (G.csz t).bind fun n => if n ≤ cs.length then some (.agg (cs.take n)) else none
  | some false => cs.head?
  | none => none

def splice (cs vs : List AV) (off : Nat) : List AV := cs.take off ++ vs ++ cs.drop (off + vs.length)

/-- The value that is stored is of the type's size, its cells are cells. -/
def Cfg.storeOf (G : Cfg) (t : TypeId) (a : AV) : Option (List AV) :=
  if G.csz t = some a.cells.length ∧ a.cells.all AV.one = true then some a.cells else none

def Mem.putAt (G : Cfg) (m : Mem) (p : AV) (vs : List AV) : Option Mem :=
  match p with
  | .box k off => (m.boxes[k]?).bind fun cs => if off + vs.length ≤ cs.length ∧ G.wr k = true then some { m with boxes := m.boxes.set k (splice cs vs off) } else none
  | .ael i n idx off => if m.ok i n then ((m.arrs i).es[idx]?).bind fun cs => if off + vs.length ≤ cs.length then
      some { m with arrs := fun j => if j = i then { m.arrs i with es := (m.arrs i).es.set idx (splice cs vs off) } else m.arrs j } else none else none
  | _ => none

/-- A new array at place d. -/
def Mem.made (m : Mem) (d : Nat) (e : TypeId) (es : List (List AV)) : AV × Mem :=
  (.arr d ((m.arrs d).ver + 1) 0 es.length, { m with arrs := fun j => if j = d then ⟨(m.arrs d).ver + 1, true, e, es⟩ else m.arrs j })

/-- Arrays of the call's own that are stored somewhere are from then on read alone. -/
def sealCells : List AV → Mem → List AV × Mem
  | [], m => ([], m)
  | .arr i n off len :: cs, m =>
    if m.ok i n then
      let m' : Mem := { m with arrs := fun j => if j = i then { m.arrs i with live := false } else m.arrs j }
      let r := sealCells cs m'
      (.sl false (((m.arrs i).es.drop off).take len) :: r.1, r.2)
    else let r := sealCells cs m; (.dead :: r.1, r.2)
  | c :: cs, m => let r := sealCells cs m; (c :: r.1, r.2)
def sealRows : List (List AV) → Mem → List (List AV) × Mem
  | [], m => ([], m)
  | e :: es, m => let r := sealCells e m; let q := sealRows es r.2; (r.1 :: q.1, q.2)

def bAt (s : ByteArray) (i : Nat) : Int := ((s.data.toList.getD i 0).toNat : Int)

/-- The bits that both numbers have. -/
def andF (k : IntKind) (a b : Int) : Int := k.wrap ((BitVec.ofInt k.bits a &&& BitVec.ofInt k.bits b).toNat : Int)

/-- Numbers, strings, bools. -/
def abin (op : BinOp) : Value → Value → Option Value
  | .int k a, .int k' b =>
    if k = k' then
      match op with
      | .add => some (.int k (k.wrap (a + b)))
      | .sub => some (.int k (k.wrap (a - b)))
      | .mul => some (.int k (k.wrap (a * b)))
      | .quo => if b = 0 then none else some (.int k (k.wrap (a.tdiv b)))
      | .rem => if b = 0 then none else some (.int k (a.tmod b))
      | .eql => some (.bool (decide (a = b)))
      | .neq => some (.bool (decide (a ≠ b)))
      | .lss => some (.bool (decide (a < b)))
      | .leq => some (.bool (decide (a ≤ b)))
      | .gtr => some (.bool (decide (a > b)))
      | .geq => some (.bool (decide (a ≥ b)))
      | .and => some (.int k (andF k a b))
      | _ => none
    else none
  | .string a, .string b =>
    match op with
    | .add => if a.size + b.size ≤ 140737488355328 then some (.string (a ++ b)) else none
    | .eql => some (.bool (decide (a = b)))
    | .neq => some (.bool (decide (a ≠ b)))
    | .lss => some (.bool (Op.bytesLess a.data.toList b.data.toList))
    | .gtr => some (.bool (!(Op.bytesLess a.data.toList b.data.toList || decide (a = b))))
    | _ => none
  | .bool a, .bool b =>
    match op with
    | .eql => some (.bool (a == b))
    | .neq => some (.bool (a != b))
    | _ => none
  | _, _ => none

/-- Shifts, and bits by a mask of ones: the two kinds of a shift's operands may differ. -/
def ashift (op : BinOp) : Value → Value → Option Value
  | .int k a, .int _ b =>
    match op with
    | .shl => if b < 0 then none else some (.int k (k.wrap (a * 2 ^ (min b.toNat k.bits))))
    | .shr => if b < 0 then none else some (.int k (a.fdiv (2 ^ (min b.toNat k.bits))))
    | _ => none
  | _, _ => none

def Cfg.bin (G : Cfg) (op : BinOp) (t : TypeId) (a b : AV) : Option AV :=
  match a, b with
  | .v x, .v y => if G.boolOK t x = true then (match op with | .shl | .shr => ashift op x y | _ => abin op x y).map .v else none
  | .agg [.v (.int .i64 a1), .v (.int .i64 a2), .v (.int .i64 a3)], .agg [.v (.int .i64 b1), .v (.int .i64 b2), .v (.int .i64 b3)] =>
    if G.verT t then
      match op with
      | .eql => some (.v (.bool (decide (a1 = b1 ∧ a2 = b2 ∧ a3 = b3))))
      | .neq => some (.v (.bool (decide (¬ (a1 = b1 ∧ a2 = b2 ∧ a3 = b3)))))
      | _ => none
    else none
  | _, _ => none

def aun (op : UnOp) : AV → Option AV
  | .v (.bool b) => match op with | .not => some (.v (.bool (!b))) | _ => none
  | .v (.int k n) => match op with | .neg => some (.v (.int k (k.wrap (0 - n)))) | _ => none
  | _ => none

def apick (c a b : AV) : Option AV :=
  match c with
  | .v (.bool t) =>
    match a, b with
    | .v (.bool x), .v (.bool y) => some (.v (.bool (bif t then x else y)))
    | x, y => some (bif t then x else y)
  | _ => none

def lowOf : Option AV → Option Nat
  | none => some 0
  | some (.v (.int _ n)) => if 0 ≤ n then some n.toNat else none
  | _ => none
def upOf (len : Nat) : Option AV → Option Nat
  | none => some len
  | some (.v (.int _ n)) => if 0 ≤ n ∧ n ≤ len then some n.toNat else none
  | _ => none

/-- A part of a slice: from lo on, up to hi (of a slice within its length). -/
def aslice (G : Cfg) (dst : Option Tmp) (t : TypeId) (m : Mem) (x : AV) (lo hi : Option AV) : Option (AV × Mem) :=
  match x with
  | .v (.string s) => if G.isStr t = true then (lowOf lo).bind fun l => (upOf s.size hi).bind fun h => if l ≤ h then some (.v (.string (s.extract l h)), m) else none else none
  | .sl col es => (G.elemT t).bind fun e => (G.csz e).bind fun n => (lowOf lo).bind fun l => (upOf es.length hi).bind fun h => if l ≤ h ∧ es.all (·.length == n) = true then some (.sl col ((es.drop l).take (h - l)), m) else none
  | .nil => (G.elemT t).bind fun e => (G.csz e).bind fun _ => (lowOf lo).bind fun l => (upOf 0 hi).bind fun h => if l ≤ h then some (.nil, m) else none
  | .arr i n off len =>
    if m.ok i n = true then
      (G.elemT t).bind fun e => (G.csz e).bind fun z => (lowOf lo).bind fun l => (upOf len hi).bind fun h => if l ≤ h ∧ e = (m.arrs i).elem ∧ 0 < z then
        if (dst.map G.own).getD false = true then
          if l = 0 ∧ off = 0 ∧ len = (m.arrs i).es.length then some (.arr i (n + 1) 0 h, { m with arrs := fun j => if j = i then ⟨(m.arrs i).ver + 1, true, e, (m.arrs i).es.take h⟩ else m.arrs j }) else none
        else some (.arr i n (off + l) (h - l), m)
      else none
    else none
  | _ => none

/-- What a struct is built of: the parts laid into the zero value's cells. -/
def fillAV (place : Nat → Option (Nat × Nat)) : List AV → List (Nat × AV) → Option (List AV)
  | cs, [] => some cs
  | cs, (i, a) :: r => match place i with
    | none => none
    | some (off, size) => if a.cells.length = size ∧ off + a.cells.length ≤ cs.length ∧ a.cells.all AV.one = true then fillAV place (splice cs a.cells off) r else none

def bytesOf : List (List AV) → Option (List UInt8)
  | [] => some []
  | [.v (.int .u8 n)] :: r => if 0 ≤ n ∧ n < 256 then (bytesOf r).map (UInt8.ofNat n.toNat :: ·) else none
  | _ => none

def Cfg.conv (G : Cfg) (m : Mem) (s d : TypeId) (a : AV) : Option AV :=
  match a with
  | .v (.int _ n) => (G.intK d).map fun k => .v (.int k (k.wrap n))
  | .v (.string x) => if G.isStr d = true ∧ G.isStr s = true then some (.v (.string x)) else none
  | x => if G.isStr d = true ∧ ((G.elemT s).bind G.intK) = some .u8 then (m.elems x).bind fun es => (bytesOf es).map fun l => .v (.string ⟨l.toArray⟩) else none

/-- append(s, x...): of the call's own arrays and of nil alone. -/
def aappend (G : Cfg) (dst : Option Tmp) (t tx : TypeId) (m : Mem) (s x : AV) : Option (AV × Mem) :=
  (G.elemT t).bind fun e => (G.csz e).bind fun n => (G.bts e).bind fun by_ => (m.elems x).bind fun xs =>
    if tx = t ∧ 0 < n ∧ 0 < by_ ∧ xs.all (·.length == n) = true ∧ xs.all (·.all AV.one) = true ∧ G.zerOK e = true then
      match s with
      | .nil => if xs.length * by_ ≤ 140737488355328 then
          if xs = [] then some (.nil, m) else dst.bind fun d => some ((sealRows xs m).2.made d e (sealRows xs m).1)
        else none
      | .arr i k off len =>
        if (sealRows xs m).2.ok i k = true ∧ off = 0 ∧ len = ((sealRows xs m).2.arrs i).es.length ∧ (len + xs.length) * by_ ≤ 140737488355328 ∧ ((sealRows xs m).2.arrs i).elem = e then
          some (.arr i (k + 1) 0 (len + xs.length), { (sealRows xs m).2 with arrs := fun j => if j = i then ⟨((sealRows xs m).2.arrs i).ver + 1, true, e, ((sealRows xs m).2.arrs i).es ++ (sealRows xs m).1⟩ else (sealRows xs m).2.arrs j })
        else none
      | _ => none
    else none

def abuiltin (G : Cfg) (dst : Option Tmp) (m : Mem) (b : Builtin) (args : List AV) (tys : List TypeId) : Option (AV × Mem) :=
  match b, args, tys with
  | .len, [.v (.string s)], [t] => if G.isStr t = true then some (.v (.int .i64 s.size), m) else none
  | .len, [a], [t] => (G.elemT t).bind fun _ => (m.elems a).map fun es => (.v (.int .i64 es.length), m)
  | .append, [s, x], [t, tx] => aappend G dst t tx m s x
  | _, _, _ => none

/-- What an operation that calls no Go function yields. -/
def aval (G : Cfg) (o : Oper) (st : St) : Option (AV × Mem) :=
  let m := st.mem
  let val (a : Option AV) : Option (AV × Mem) := a.map (·, m)
  match o.op with
  | .move x | .assign x => some (st.ev x, m)
  | .pick c a b => val (apick (st.ev c) (st.ev a) (st.ev b))
  | .alloc t => if G.zerOK t = true then (G.zer t).map fun cs => (.box m.boxes.length 0, { m with boxes := m.boxes ++ [cs] }) else none
  | .box _ x => if (st.ev x).cells.all AV.one = true then some (.box m.boxes.length 0, { m with boxes := m.boxes ++ [(st.ev x).cells] }) else none
  | .load t p => val ((m.cellsAt (st.ev p)).bind (G.loadOf t))
  | .store t p x => (G.storeOf t (st.ev x)).bind fun vs => (Mem.putAt G m (st.ev p) vs).map fun m' => (.dead, m')
  | .nilCheck x => match st.ev x with | .box k off => some (.box k off, m) | .el c cs => some (.el c cs, m) | .clo f p q => some (.clo f p q, m) | _ => none
  | .binOp op t x y _ => val (G.bin op t (st.ev x) (st.ev y))
  | .unOp op _ x => val (aun op (st.ev x))
  | .convert s d x => if (G.P.underlying s).isSome = true then val (G.conv m s d (st.ev x)) else none
  | .makeFunc (.func f) first captured => some (.clo f (first.toList.map st.ev) (captured.toList.map st.ev), m)
  | .slice t x lo hi none => aslice G o.dst t m (st.ev x) (lo.map st.ev) (hi.map st.ev)
  | .fieldAddr t p f => (G.foff t f).bind fun q => (G.csz q.2).bind fun z => if 0 < z then match st.ev p with
    | .box k off => some (.box k (off + q.1), m)
    | .el c cs => some (.el c (cs.drop q.1), m)
    | .ael i n idx off => if m.ok i n = true then some (.ael i n idx (off + q.1), m) else none
    | _ => none
    else none
  | .field t x f => (G.foff t f).bind fun q => match st.ev x with
    | .agg cs => val (G.loadOf q.2 (cs.drop q.1))
    | _ => none
  | .indexAddr t x ix => match st.ev ix with
    | .v (.int _ n) => if 0 ≤ n then match st.ev x with
      | .sl c es => (G.elemT t).bind fun e => (G.csz e).bind fun z => match es[n.toNat]? with
        | some cs => if cs.length = z ∧ es.all (·.length == z) = true then some (.el c cs, m) else none
        | none => none
      | .arr i k off len => (G.elemT t).bind fun e => if m.ok i k = true ∧ n.toNat < len ∧ (m.arrs i).elem = e then some (.ael i k (off + n.toNat) 0, m) else none
      | .box k off => (G.arrT t).bind fun q => (G.csz q.2).bind fun z => if n.toNat < q.1 then some (.box k (off + n.toNat * z), m) else none
      | _ => none
      else none
    | _ => none
  | .index t x ix => match st.ev x, st.ev ix with
    | .v (.string s), .v (.int _ n) => if G.isStr t = true ∧ 0 ≤ n ∧ n < s.size then some (.v (.int .u8 (bAt s n.toNat)), m) else none
    | _, _ => none
  | .extract x k => match st.ev x with | .tup vs => val vs[k]? | _ => none
  | .build t parts => (G.flds t).bind fun places => if G.zerOK t = true then (G.zer t).bind fun z => val ((fillAV (places[·]?) z (parts.toList.map fun p => (p.1, st.ev p.2))).map .agg) else none
  | .buildSlice t len parts => (G.elemT t).bind fun e => (G.csz e).bind fun z =>
    let rows := parts.toList.map fun p => (st.ev p.2).cells
    if parts.toList.map (·.1) = List.range len ∧ rows.all (·.length == z) = true ∧ rows.all (·.all AV.one) = true ∧ 0 < z ∧ len * z ≤ 1000 ∧ G.zerOK e = true then
      if (o.dst.map G.own).getD false = true then o.dst.map fun d => (sealRows rows m).2.made d e (sealRows rows m).1
      else if len = 0 then some (.nil, m) else some (.sl false (sealRows rows m).1, (sealRows rows m).2)
    else none
  | .makeSlice t l c => (G.elemT t).bind fun e => (G.csz e).bind fun z => (G.bts e).bind fun by_ => (G.zer e).bind fun zs => match st.ev l, st.ev c with
    | .v (.int .i64 n), .v (.int .i64 k) => if 0 ≤ n ∧ k = n ∧ n * by_ ≤ 140737488355328 ∧ 0 < z ∧ n ≤ 140737488355328 ∧ G.zerOK e = true then o.dst.map fun d => m.made d e (List.replicate n.toNat zs) else none
    | _, _ => none
  | .call c => match c.callee with
    | .builtin b => abuiltin G o.dst m b (c.args.toList.map st.ev) c.argTypes.toList
    | _ => none
  | _ => none

end Go.Proofs.Ytbmfoijakgccgaa.Am
