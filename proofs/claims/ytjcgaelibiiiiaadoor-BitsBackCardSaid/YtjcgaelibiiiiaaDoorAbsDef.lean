/-
  THE ABSTRACT INTERPRETER: the model's Code, run over abstract values (slices by value, no addresses, no orders). Definitions alone. By this seat's session.
-/
import Derived.Orders
set_option linter.unusedVariables false
namespace Go.Abs

/-- A table of two levels, padded with a default. -/
def setPad {α : Type} (d : α) : List α → Nat → α → List α
  | [], 0, v => [v]
  | [], n + 1, v => d :: setPad d [] n v
  | _ :: xs, 0, v => v :: xs
  | x :: xs, n + 1, v => x :: setPad d xs n v
structure Tbl (α : Type) where
  rows : List (List α)
def Tbl.get {α : Type} (d : α) (t : Tbl α) (k : Nat) : α := (t.rows.getD (k / 16) []).getD (k % 16) d
def Tbl.set {α : Type} (d : α) (t : Tbl α) (k : Nat) (v : α) : Tbl α := ⟨setPad [] t.rows (k / 16) (setPad d (t.rows.getD (k / 16) []) (k % 16) v)⟩

/-- An object: of this call alone (by a key that its site gives it), or one that calls share. -/
inductive OId where
  | loc (k : Nat)
  | glob (n : Nat)
instance : DecidableEq OId := fun a b =>
  match a, b with
  | .loc j, .loc k => if h : j = k then isTrue (by rw [h]) else isFalse (fun e => h (OId.loc.inj e))
  | .glob j, .glob k => if h : j = k then isTrue (by rw [h]) else isFalse (fun e => h (OId.glob.inj e))
  | .loc _, .glob _ => isFalse (fun e => OId.noConfusion e)
  | .glob _, .loc _ => isFalse (fun e => OId.noConfusion e)

inductive AVal where
  | raw (v : Value)
  | e0
  | sl (es : List (List AVal))
  | hs (o : OId) (g lo n : Nat)
  | hp (o : OId) (g i off : Nat)
  | ip (cs : List AVal)
  | clo (f : FuncId) (first caps : List AVal)
  | iface (t : TypeId) (a : AVal)
  | agg (cs : List AVal)
  | tup (vs : List AVal)
  | undef
instance : Inhabited AVal := ⟨.undef⟩

inductive OSt where
  | dead
  | ro (sz : Nat) (es : List (List AVal))
  | row (sz : Nat) (es : List (List AVal))
  | box (cs : List AVal)
structure AObj where
  gen : Nat
  st : OSt
def AObj.none : AObj := ⟨0, .dead⟩
structure GS where
  G : Tbl AObj
  n : Nat
structure Mem where
  L : Tbl AObj
  gs : GS
structure St where
  fr : Tbl AVal
  m : Mem

def Mem.obj (m : Mem) : OId → AObj
  | .loc k => m.L.get .none k
  | .glob k => m.gs.G.get .none k
def Mem.put (m : Mem) : OId → AObj → Mem
  | .loc k, x => { m with L := m.L.set .none k x }
  | .glob k, x => { m with gs := { m.gs with G := m.gs.G.set .none k x } }
def St.get (s : St) (t : Nat) : AVal := s.fr.get .undef t
def St.set (s : St) (t : Nat) (v : AVal) : St := { s with fr := s.fr.set .undef t v }

/-- What is returned: a value, or a row that is handed over. -/
inductive RV where
  | v (a : AVal)
  | row (sz : Nat) (es : List (List AVal))

abbrev CallF := FuncId → List AVal → Nat → GS → Option (List RV × GS)

structure Env where
  funcs : Nat → Option Func
  under : Nat → Option TypeDesc
  size : Nat → Option Nat
  zero : Nat → Option (List AVal)
  bytes : Nat → Option Nat
  /-- equality at a type of so many plain cells is cell by cell -/
  eqs : Nat → Option Nat
  globals : Nat → Option (List AVal)
  /-- does a function write what its callers see -/
  eff : Nat → Bool
  /-- sites whose objects are shared -/
  site : Nat → Nat → Bool
  /-- appends onto nothing whose result is only read -/
  pureApp : Nat → Nat → Bool
  ext : Nat → Option (List AVal → Nat → GS → Option (List RV × GS))

def guardO (b : Bool) : Option Unit := if b then some () else none

def AVal.cells : AVal → List AVal
  | .agg cs => cs
  | a => [a]
def Env.isAgg (env : Env) (t : TypeId) : Option Bool :=
  match env.under t with
  | some (.struct _) => some true
  | some (.array _ _) => some true
  | some _ => some false
  | none => none
/-- The value of a type out of its cells. -/
def Env.pack (env : Env) (t : TypeId) (cs : List AVal) : Option AVal :=
  match env.isAgg t, cs with
  | some true, cs => some (.agg cs)
  | some false, [c] => some c
  | _, _ => none
def rawCell : Value → Bool
  | .agg _ => false
  | .tuple _ => false
  | _ => true
/-- May it be a cell of what is never written again? -/
def AVal.fixed : AVal → Bool
  | .raw v => rawCell v
  | .sl _ => true
  | .ip _ => true
  | .iface _ a => (match a with | .raw v => rawCell v | .sl _ => true | _ => false)
  | _ => false
/-- May it be a cell of a shared object, an argument, a captured value? -/
def AVal.shared.sharedOne : AVal → Bool
  | .raw v => rawCell v
  | .sl _ => true
  | .ip _ => true
  | .hs (.glob _) _ _ _ => true
  | .hp (.glob _) _ _ _ => true
  | _ => false
def AVal.shared : AVal → Bool
  | .raw v => rawCell v
  | .sl _ => true
  | .ip _ => true
  | .e0 => true
  | .hs (.glob _) _ _ _ => true
  | .hp (.glob _) _ _ _ => true
  | .clo _ first caps => first.all AVal.shared.sharedOne && caps.all AVal.shared.sharedOne
  | .iface _ a => (match a with | .raw v => rawCell v | .sl _ => true | .hp (.glob _) _ _ _ => true | _ => false)
  | _ => false
def AVal.isCell : AVal → Bool
  | .raw v => rawCell v
  | .agg _ => false
  | .tup _ => false
  | .undef => false
  | _ => true

def ofConst.ofCell : Value → Option AVal
  | .slice none 0 0 => some .e0
  | .slice _ _ _ => none
  | .agg _ => none
  | .tuple _ => none
  | .pointer (some _) => none
  | .func _ _ _ => none
  | .iface _ _ => none
  | v => some (.raw v)
def ofConst : Value → Option AVal
  | .slice none 0 0 => some .e0
  | .slice _ _ _ => none
  | .agg cs => (cs.toList.mapM ofConst.ofCell).map .agg
  | .tuple _ => none
  | .pointer (some _) => none
  | .func _ _ _ => none
  | .iface _ _ => none
  | v => some (.raw v)

def aEval (env : Env) (s : St) : Operand → Option AVal
  | .tmp t => some (s.get t)
  | .const v => ofConst v
  | .global g => (env.globals g).map .ip
  | .func f => some (.clo f [] [])

def mayWrite (base : Nat) : OId → Bool
  | .loc _ => true
  | .glob n => base ≤ n

/-- The memory behind two steps, where one turned. -/
def orM (a b : Option Mem) : Option Mem :=
  match b with
  | some m => some m
  | none => a
/-- A cell for what is never written again: a row of one's own is given up. -/
def frz (base : Nat) (m : Mem) (a : AVal) : Option (AVal × Option Mem) :=
  match a with
  | .e0 => some (.sl [], none)
  | .hs o g lo n =>
    let x := m.obj o
    if x.gen = g then
      match x.st with
      | .ro _ es => if lo + n ≤ es.length then some (.sl ((es.drop lo).take n), none) else none
      | .row sz es => if lo + n ≤ es.length && mayWrite base o then some (.sl ((es.drop lo).take n), some (m.put o ⟨g, .ro sz es⟩)) else none
      | _ => none
    else none
  | a => if a.fixed then some (a, none) else none
def frzL (base : Nat) : Mem → List AVal → Option (List AVal × Option Mem)
  | _, [] => some ([], none)
  | m, a :: l =>
    match frz base m a with
    | none => none
    | some (b, m1) => match frzL base (m1.getD m) l with
      | none => none
      | some (bs, m2) => some (b :: bs, orM m1 m2)
/-- A cell as it is handed to a call, or into a shared object. -/
def pass (base : Nat) (m : Mem) (a : AVal) : Option (AVal × Option Mem) :=
  match a with
  | .e0 => some (.sl [], none)
  | .hs (.loc k) g lo n => frz base m (.hs (.loc k) g lo n)
  | a => if a.shared then some (a, none) else none
def passL (base : Nat) : Mem → List AVal → Option (List AVal × Option Mem)
  | _, [] => some ([], none)
  | m, a :: l =>
    match pass base m a with
    | none => none
    | some (b, m1) => match passL base (m1.getD m) l with
      | none => none
      | some (bs, m2) => some (b :: bs, orM m1 m2)
/-- An argument. -/
def passV (base : Nat) (m : Mem) (a : AVal) : Option (AVal × Option Mem) :=
  match a with
  | .agg cs => (passL base m cs).map fun (cs, m) => (.agg cs, m)
  | a => pass base m a
def passVs (base : Nat) : Mem → List AVal → Option (List AVal × Option Mem)
  | _, [] => some ([], none)
  | m, a :: l =>
    match passV base m a with
    | none => none
    | some (b, m1) => match passVs base (m1.getD m) l with
      | none => none
      | some (bs, m2) => some (b :: bs, orM m1 m2)

def sub (cs : List AVal) (off n : Nat) : Option (List AVal) := if off + n ≤ cs.length then some ((cs.drop off).take n) else none
def splice (cs : List AVal) (off : Nat) (new : List AVal) : Option (List AVal) :=
  if off + new.length ≤ cs.length then some (cs.take off ++ new ++ cs.drop (off + new.length)) else none

def Mem.read (m : Mem) (o : OId) (g i off n : Nat) : Option (List AVal) :=
  let x := m.obj o
  if x.gen = g then
    match x.st with
    | .ro _ es => (es[i]?).bind fun e => sub e off n
    | .row _ es => (es[i]?).bind fun e => sub e off n
    | .box cs => if i = 0 then sub cs off n else none
    | .dead => none
  else none
def Mem.write (base : Nat) (m : Mem) (o : OId) (g i off : Nat) (new : List AVal) : Option Mem :=
  let x := m.obj o
  if x.gen = g && mayWrite base o then
    match x.st with
    | .row _ _ =>
      (frzL base m new).bind fun (new, m1) =>
        let m' := m1.getD m
        let y := m'.obj o
        if y.gen = g then
          match y.st with
          | .row sz es => (es[i]?).bind fun e => (splice e off new).map fun e' => m'.put o ⟨g, .row sz (es.set i e')⟩
          | _ => none
        else none
    | .box cs =>
      if i = 0 then
        match o with
        | .loc _ => if new.all AVal.isCell then (splice cs off new).map fun cs' => m.put o ⟨g, .box cs'⟩ else none
        | .glob _ => if new.all AVal.shared then (splice cs off new).map fun cs' => m.put o ⟨g, .box cs'⟩ else none
      else none
    | _ => none
  else none

/-- A new object at a site: its name, its generation, the memory. -/
def newObj (glob : Bool) (key : Nat) (m : Mem) (st : OSt) : OId × Nat × Mem :=
  if glob then (.glob m.gs.n, 0, { m with gs := { G := m.gs.G.set .none m.gs.n ⟨0, st⟩, n := m.gs.n + 1 } })
  else (.loc key, (m.L.get .none key).gen + 1, { m with L := m.L.set .none key ⟨(m.L.get .none key).gen + 1, st⟩ })

/-- The elements of a slice that is only read. -/
def Mem.elems (m : Mem) (a : AVal) : Option (List (List AVal)) :=
  match a with
  | .e0 => some []
  | .sl es => some es
  | .hs o g lo n =>
    let x := m.obj o
    if x.gen = g then
      match x.st with
      | .ro _ es => if lo + n ≤ es.length then some ((es.drop lo).take n) else none
      | .row _ es => if lo + n ≤ es.length then some ((es.drop lo).take n) else none
      | _ => none
    else none
  | _ => none

def maxBytes : Nat := 140737488355328

/-- append(a, b...), the result at a site. -/
def aAppend (env : Env) (base : Nat) (glob pureA : Bool) (key : Nat) (m : Mem) (elem : TypeId) (a b : AVal) : Option (AVal × Option Mem) :=
  (env.size elem).bind fun sz => (env.bytes elem).bind fun by_ => (env.zero elem).bind fun z =>
  (m.elems b).bind fun ys =>
  if sz = 0 || by_ = 0 || !(ys.all fun e => e.length == sz && e.all AVal.fixed) || z.length != sz then none else
  match a with
  | .e0 =>
    if ys.isEmpty then some (if pureA then .sl [] else .e0, none)
    else if decide (ys.length * by_ ≤ maxBytes) then
      if pureA then some (.sl ys, none)
      else let (o, g, m') := newObj glob key m (.row sz ys); some (.hs o g 0 ys.length, some m')
    else none
  | .hs o g lo n =>
    let x := m.obj o
    if x.gen = g && mayWrite base o && lo == 0 then
      match x.st with
      | .row sz' es =>
        if sz' = sz && es.length = n && decide ((n + ys.length) * by_ ≤ maxBytes) then
          some (.hs o (g + 1) 0 (n + ys.length), some (m.put o ⟨g + 1, .row sz (es ++ ys)⟩))
        else none
      | _ => none
    else none
  | _ => none

def Env.elemOf (env : Env) (t : TypeId) : Option TypeId :=
  match env.under t with
  | some (.slice e) => some e
  | _ => none

def aLen (env : Env) (t : Option TypeId) (x : AVal) : Option AVal :=
  match t.bind env.under, x with
  | some (.slice _), .e0 => some (.raw (.int .i64 0))
  | some (.slice _), .sl es => some (.raw (.int .i64 es.length))
  | some (.slice _), .hs _ _ _ n => some (.raw (.int .i64 n))
  | some .string, .raw (.string s) => some (.raw (.int .i64 s.size))
  | some (.array n _), _ => some (.raw (.int .i64 n))
  | _, _ => none

/-- Plain operators on numbers and bools. -/
def aInt (op : BinOp) (k : IntKind) (a b : Int) : Option Value :=
  match op with
  | .add => some (.int k (k.wrap (a + b)))
  | .sub => some (.int k (k.wrap (a - b)))
  | .mul => some (.int k (k.wrap (a * b)))
  | .quo => if b = 0 then none else some (.int k (k.wrap (a.tdiv b)))
  | .rem => if b = 0 then none else some (.int k (a.tmod b))
  | .and => some (.int k (k.wrap (BitVec.ofInt k.bits a &&& BitVec.ofInt k.bits b).toNat))
  | .or => some (.int k (k.wrap (BitVec.ofInt k.bits a ||| BitVec.ofInt k.bits b).toNat))
  | .xor => some (.int k (k.wrap (BitVec.ofInt k.bits a ^^^ BitVec.ofInt k.bits b).toNat))
  | .andNot => some (.int k (k.wrap (BitVec.ofInt k.bits a &&& ~~~(BitVec.ofInt k.bits b)).toNat))
  | .eql => some (.bool (a == b))
  | .neq => some (.bool (a != b))
  | .lss => some (.bool (a < b))
  | .leq => some (.bool (a ≤ b))
  | .gtr => some (.bool (a > b))
  | .geq => some (.bool (a ≥ b))
  | _ => none
def aShift (op : BinOp) (k : IntKind) (a b : Int) : Option Value :=
  if b < 0 then none else
  match op with
  | .shl => some (.int k (k.wrap (a * 2 ^ (min b.toNat k.bits))))
  | .shr => some (.int k (a.fdiv (2 ^ (min b.toNat k.bits))))
  | _ => none
def eqCell : AVal → AVal → Option Bool
  | .raw (.int k a), .raw (.int k' b) => if k = k' then some (a == b) else none
  | _, _ => none
def eqCells : List AVal → List AVal → Option Bool
  | [], [] => some true
  | a :: l, b :: r => match eqCell a b, eqCells l r with
    | some x, some y => some (x && y)
    | _, _ => none
  | _, _ => none
def aStr (op : BinOp) (a b : ByteArray) : Option Value :=
  match op with
  | .add => if a.size + b.size ≤ 9223372036854775807 then some (.string (a ++ b)) else none
  | .eql => some (.bool (a.toList == b.toList))
  | .neq => some (.bool !(a.toList == b.toList))
  | .lss => some (.bool (Op.bytesLess a.toList b.toList))
  | _ => none
/-- A comparison with a literal nil. -/
def boolIs (op : BinOp) (b : Bool) : Option AVal :=
  match op with
  | .eql => some (.raw (.bool b))
  | .neq => some (.raw (.bool !b))
  | _ => none
def nilCmp (env : Env) (op : BinOp) (t : TypeId) (x : AVal) (c : Value) : Option AVal :=
  match c, env.under t, x with
  | .slice none 0 0, some (.slice _), .sl (_ :: _) => boolIs op false
  | .slice none 0 0, some (.slice _), .hs _ _ _ _ => boolIs op false
  | .pointer none, some (.pointer _), .hp _ _ _ _ => boolIs op false
  | .pointer none, some (.pointer _), .ip _ => boolIs op false
  | .pointer none, some (.pointer _), .raw (.pointer none) => boolIs op true
  | .nilIface, some (.interface _), .iface _ _ => boolIs op false
  | .nilIface, some (.interface _), .raw .nilIface => boolIs op true
  | .nilFunc, some (.func _ _ _), .clo _ _ _ => boolIs op false
  | _, _, _ => none
def nilCmpO (env : Env) (op : BinOp) (t : TypeId) (x : AVal) (y : Operand) : Option AVal :=
  match y with
  | .const c => nilCmp env op t x c
  | _ => none
def aBin (env : Env) (op : BinOp) (t : TypeId) (x y : AVal) : Option AVal :=
  match x, y with
  | .raw (.int k a), .raw (.int k' b) =>
    match op with
    | .shl | .shr => (aShift op k a b).map .raw
    | _ => if k = k' then
        match env.under t with
        | some (.int _) => (aInt op k a b).map .raw
        | _ => none
      else none
  | .raw (.bool a), .raw (.bool b) =>
    match env.under t, op with
    | some .bool, .eql => some (.raw (.bool (a == b)))
    | some .bool, .neq => some (.raw (.bool (!(a == b))))
    | _, _ => none
  | .raw (.string a), .raw (.string b) => (aStr op a b).map .raw
  | .agg xs, .agg ys =>
    match env.eqs t, op with
    | some n, .eql => if xs.length = n && ys.length = n then (eqCells xs ys).map fun b => .raw (.bool b) else none
    | some n, .neq => if xs.length = n && ys.length = n then (eqCells xs ys).map fun b => .raw (.bool (!b)) else none
    | _, _ => none
  | _, _ => none
def aUn (op : UnOp) (x : AVal) : Option AVal :=
  match op, x with
  | .not, .raw (.bool b) => some (.raw (.bool !b))
  | .neg, .raw (.int k n) => some (.raw (.int k (k.wrap (0 - n))))
  | _, _ => none
def aConvert (env : Env) (src dst : TypeId) (x : AVal) : Option AVal :=
  match env.under src, env.under dst, x with
  | some _, some (.int k), .raw (.int _ n) => some (.raw (.int k (k.wrap n)))
  | _, _, _ => none

def fieldOf (env : Env) (s : TypeId) (i : Nat) : Option (Nat × Nat × TypeId) :=
  match env.under s with
  | some (.struct fs) => match fs[i]? with
    | some f => (env.size f.type).bind fun n => if n = 0 then none else some (f.offset, n, f.type)
    | none => none
  | _ => none

/-- A value's parts filled in. -/
def aFill (place : Nat → Option (Nat × Nat)) : List AVal → List (Nat × AVal) → Option (List AVal)
  | cs, [] => some cs
  | cs, (i, v) :: rest =>
    match place i with
    | none => none
    | some (off, size) => if v.cells.length = size && v.cells.all AVal.isCell then (splice cs off v.cells).bind fun cs => aFill place cs rest else none
def placeIn (env : Env) (t : TypeId) : Nat → Option (Nat × Nat) := fun i =>
  match env.under t with
  | some (.struct fs) => match fs[i]? with
    | some f => (env.size f.type).map fun n => (f.offset, n)
    | none => none
  | some (.array _ e) => (env.size e).map fun n => (i * n, n)
  | _ => none

/-- The elements of a slice's literal, in order, each given. -/
def aElems (base sz : Nat) : Mem → Nat → List (Nat × AVal) → Option (List (List AVal) × Option Mem)
  | _, _, [] => some ([], none)
  | m, k, (i, v) :: rest =>
    if i = k && v.cells.length = sz then
      match frzL base m v.cells with
      | none => none
      | some (cs, m1) => match aElems base sz (m1.getD m) (k + 1) rest with
        | none => none
        | some (es, m2) => some (cs :: es, orM m1 m2)
    else none

def evals (env : Env) (s : St) (l : List Operand) : Option (List AVal) := l.mapM (aEval env s)
def evalParts (env : Env) (s : St) (l : List (Nat × Operand)) : Option (List (Nat × AVal)) := l.mapM fun (i, x) => (aEval env s x).map fun a => (i, a)

def aInd (n : Nat) (i : AVal) : Option Nat :=
  match i with
  | .raw (.int _ z) => if 0 ≤ z && z < (n : Int) then some z.toNat else none
  | _ => none
def aBound (y : Nat) (i : AVal) : Option Nat :=
  match i with
  | .raw (.int _ z) => if 0 ≤ z && z ≤ (y : Int) then some z.toNat else none
  | _ => none

def aByte (b : ByteArray) (i : AVal) : Option Value :=
  match i with
  | .raw (.int _ z) => if 0 ≤ z then (b[z.toNat]?).map fun c => .int .u8 c.toNat else none
  | _ => none
def aHi (env : Env) (s : St) (hi : Option Operand) (n : Nat) : Option Nat :=
  match hi with
  | some h => (aEval env s h).bind (aBound n)
  | none => some n
def aLo (env : Env) (s : St) (lo : Option Operand) (h : Nat) : Option Nat :=
  match lo with
  | some l => (aEval env s l).bind (aBound h)
  | none => some 0
def aMaxL : Int → List AVal → Option Int
  | a, [] => some a
  | a, .raw (.int _ b) :: l => aMaxL (if b > a then b else a) l
  | _, _ => none
def aMinL : Int → List AVal → Option Int
  | a, [] => some a
  | a, .raw (.int _ b) :: l => aMinL (if b < a then b else a) l
  | _, _ => none

/-- An operation that is no call: its value, and the memory, where that turned. -/
def aOp (env : Env) (f base : Nat) (o : Oper) (s : St) : Option (AVal × Option Mem) :=
  let d := o.dst.getD 0
  match o.op with
  | .move x => (aEval env s x).map (·, none)
  | .assign x => (aEval env s x).map (·, none)
  | .pick c a b => (aEval env s c).bind fun c => match c with
    | .raw (.bool t) => (aEval env s a).bind fun a => (aEval env s b).map fun b => (if t then a else b, none)
    | _ => none
  | .alloc t => (env.zero t).bind fun z => (env.size t).bind fun n =>
    if z.length = n && 0 < n then let (o, g, m) := newObj (env.site f d) (4 * d) s.m (.box z); some (.hp o g 0 0, some m) else none
  | .box t x => (aEval env s x).bind fun x => (env.size t).bind fun n =>
    if x.cells.length = n && 0 < n && x.cells.all AVal.isCell && (!env.site f d || x.cells.all AVal.shared) then
      let (o, g, m) := newObj (env.site f d) (4 * d) s.m (.box x.cells); some (.hp o g 0 0, some m) else none
  | .build t parts => (evalParts env s parts.toList).bind fun ps => (env.zero t).bind fun z =>
    match env.isAgg t with
    | some true => (aFill (placeIn env t) z ps).map fun cs => (.agg cs, none)
    | _ => none
  | .buildSlice t len parts => (env.elemOf t).bind fun e => (env.size e).bind fun sz => (env.zero e).bind fun z => (evalParts env s parts.toList).bind fun ps =>
    if len = 0 then (if ps.isEmpty then some (.e0, none) else none)
    else if sz = 0 || z.length != sz || ps.length != len || decide (16777216 < len * sz) then none
    else (aElems base sz s.m 0 ps).map fun (es, m) =>
      if env.site f d then let (o, g, m') := newObj true (4 * d) (m.getD s.m) (.row sz es); (.hs o g 0 es.length, some m') else (.sl es, m)
  | .load t a => (aEval env s a).bind fun a => (env.size t).bind fun n =>
    match a with
    | .ip cs => (sub cs 0 n).bind fun cs => (env.pack t cs).map (·, none)
    | .hp o g i off => (s.m.read o g i off n).bind fun cs => (env.pack t cs).map (·, none)
    | _ => none
  | .store t a x => (aEval env s a).bind fun a => (aEval env s x).bind fun x => (env.size t).bind fun n =>
    match a with
    | .hp o g i off => if x.cells.length = n then (s.m.write base o g i off x.cells).map fun m => (.undef, some m) else none
    | _ => none
  | .nilCheck x => (aEval env s x).bind fun x => match x with
    | .hp .. => some (x, none)
    | .ip _ => some (x, none)
    | .clo .. => some (x, none)
    | _ => none
  | .binOp op t x y _ => (aEval env s x).bind fun a => match nilCmpO env op t a y with
    | some r => some (r, none)
    | none => (aEval env s y).bind fun b => (aBin env op t a b).map (·, none)
  | .unOp op _ x => (aEval env s x).bind fun x => (aUn op x).map (·, none)
  | .convert src dst x => (aEval env s x).bind fun x => (aConvert env src dst x).map (·, none)
  | .makeInterface t x => (aEval env s x).bind fun x => match env.under t with
    | some (.interface _) => none
    | some _ => some (.iface t x, none)
    | none => none
  | .makeFunc fn first captured => match fn with
    | .func g => (evals env s first.toList).bind fun fs => (evals env s captured.toList).bind fun cs => if fs.all AVal.isCell && cs.all AVal.isCell then some (.clo g fs cs, none) else none
    | _ => none
  | .makeSlice t l c => (env.elemOf t).bind fun e => (env.size e).bind fun sz => (env.zero e).bind fun z => (env.bytes e).bind fun by_ => (aEval env s l).bind fun l => (aEval env s c).bind fun c =>
    match l, c with
    | .raw (.int .i64 l), .raw (.int .i64 c) =>
      if 0 ≤ l && l ≤ c && decide (c.toNat * by_ ≤ maxBytes) && 0 < sz && z.length = sz && z.all AVal.isCell && decide (c ≤ 9223372036854775807) then
        (frzL base s.m z).bind fun (z, m1) =>
          if m1.isSome then none else
          let (o, g, m) := newObj (env.site f d) (4 * d) s.m (.row sz (List.replicate l.toNat z)); some (.hs o g 0 l.toNat, some m)
      else none
    | _, _ => none
  | .slice t x lo hi mx => (aEval env s x).bind fun x =>
    match env.under t, mx with
    | some (.slice e), none => (env.size e).bind fun sz =>
      match x with
      | .sl es => (aHi env s hi es.length).bind fun h => (aLo env s lo h).bind fun l =>
        if (match es with | e :: _ => e.length == sz | [] => true) then some (.sl ((es.take h).drop l), none) else none
      | .hs o g lo0 n => (aHi env s hi n).bind fun h => (aLo env s lo h).bind fun l =>
        if h - l = 0 then some (.sl [], none) else
        let x := s.m.obj o
        if x.gen = g then
          match x.st with
          | .ro sz' _ => if sz' = sz then some (.hs o g (lo0 + l) (h - l), none) else none
          | .row sz' _ => if sz' = sz then some (.hs o g (lo0 + l) (h - l), none) else none
          | _ => none
        else none
      | .e0 => (aHi env s hi 0).bind fun h => (aLo env s lo h).map fun _ => (.e0, none)
      | _ => none
    | _, _ => none
  | .fieldAddr t x i => (aEval env s x).bind fun x => (fieldOf env t i).bind fun (off, _, _) =>
    match x with
    | .hp o g i k => some (.hp o g i (k + off), none)
    | .ip cs => some (.ip (cs.drop off), none)
    | _ => none
  | .field t x i => (aEval env s x).bind fun x => (fieldOf env t i).bind fun (off, n, ft) =>
    match x with
    | .agg cs => (sub cs off n).bind fun cs => (env.pack ft cs).map (·, none)
    | _ => none
  | .indexAddr t x i => (aEval env s x).bind fun x => (aEval env s i).bind fun i =>
    match env.under t with
    | some (.slice e) => (env.size e).bind fun sz =>
      match x with
      | .sl es => (aInd es.length i).bind fun k => (es[k]?).bind fun c => if c.length = sz && 0 < sz then some (.ip c, none) else none
      | .hs o g lo n => (aInd n i).bind fun k =>
        let x := s.m.obj o
        if x.gen = g then
          match x.st with
          | .ro sz' _ => if sz' = sz then some (.hp o g (lo + k) 0, none) else none
          | .row sz' _ => if sz' = sz then some (.hp o g (lo + k) 0, none) else none
          | _ => none
        else none
      | _ => none
    | some (.array len e) => (env.size e).bind fun sz =>
      if sz = 0 then none else
      match x with
      | .hp o g j off => (aInd len i).map fun k => (.hp o g j (off + k * sz), none)
      | .ip cs => (aInd len i).map fun k => (.ip (cs.drop (k * sz)), none)
      | _ => none
    | _ => none
  | .index t x i => (aEval env s x).bind fun x => (aEval env s i).bind fun i =>
    match env.under t, x with
    | some (.array len e), .agg cs => (env.size e).bind fun sz => (aInd len i).bind fun k => (sub cs (k * sz) sz).bind fun cs => (env.pack e cs).map (·, none)
    | some .string, .raw (.string b) => (aByte b i).map fun c => (.raw c, none)
    | _, _ => none
  | .extract t j => (aEval env s t).bind fun t => match t with
    | .tup vs => (vs[j]?).map (·, none)
    | _ => none
  | .call c => match c.callee with
    | .builtin b => (evals env s c.args.toList).bind fun args =>
      match b, args with
      | .len, [x] => (aLen env c.argTypes[0]? x).map (·, none)
      | .append, [x, y] => (if c.argTypes.size = 2 && c.argTypes.getD 0 0 == c.argTypes.getD 1 1 then env.elemOf (c.argTypes.getD 0 0) else none).bind fun e => aAppend env base (env.site f d) (env.pureApp f d) (4 * d) s.m e x y
      | .max, .raw (.int k a) :: l => (aMaxL a l).map fun n => (.raw (.int k n), none)
      | .min, .raw (.int k a) :: l => (aMinL a l).map fun n => (.raw (.int k n), none)
      | _, _ => none
    | _ => none
  | _ => none

/-- The results of a call, as they lie in the caller's. -/
def place1 (glob : Bool) (key : Nat) (m : Mem) : RV → AVal × Mem
  | .v a => (a, m)
  | .row sz es => let (o, g, m) := newObj glob key m (.row sz es); (.hs o g 0 es.length, m)
def placeL (glob : Bool) : Nat → Mem → List RV → List AVal × Mem
  | _, m, [] => ([], m)
  | key, m, r :: rs =>
    let (a, m) := place1 glob key m r
    let (as, m) := placeL glob (key + 1) m rs
    (a :: as, m)
/-- A row that is only read from here on. -/
def frozenRV : RV → RV
  | .row _ es => .v (.sl es)
  | .v a => .v a
def asSeen (pr : Bool) (rs : List RV) : List RV := if pr then rs.map frozenRV else rs
def isRow : RV → Bool
  | .row _ _ => true
  | .v _ => false

def callee? (env : Env) (s : St) (o : Oper) : Option (FuncId × List AVal) :=
  match o.op with
  | .call c => match c.callee with
    | .value f => (aEval env s f).bind fun f => match f with
      | .clo g first caps => (evals env s c.args.toList).map fun args => (g, first ++ args ++ caps)
      | _ => none
    | _ => none
  | _ => none
def isCall (o : Oper) : Bool :=
  match o.op with
  | .call c => match c.callee with
    | .builtin _ => false
    | _ => true
  | _ => false

/-- A call: its value, and the memory where that turned. -/
def aCall (C : CallF) (env : Env) (f base : Nat) (o : Oper) (s : St) : Option (AVal × Option Mem) :=
  let d := o.dst.getD 0
  (callee? env s o).bind fun (g, args) => (passVs base s.m args).bind fun (args, m1) =>
    let m := m1.getD s.m
    let eff := env.eff g
    (C g args (if eff then base else m.gs.n) m.gs).bind fun (rs0, gs) =>
      let rs := asSeen (env.pureApp f d) rs0
      if rs.length ≤ 4 then
        let m2 := if eff then { m with gs := gs } else m
        let (vs, m3) := placeL (env.site f d) (4 * d) m2 rs
        some (match vs with | [v] => v | vs => .tup vs, if eff || rs.any isRow then some m3 else m1)
      else none

/-- What a temporary holds where its operation was passed over. -/
def offV : AVal := .raw undef
def wantedA (ops : Array Oper) (o : Oper) (s : St) : Option Bool :=
  match o.guard with
  | none => some true
  | some (j, want) => match (ops[j]?).bind (·.dst) with
    | some t => match s.get t with
      | .raw (.bool b) => some (b == want)
      | .raw (.tuple _) => some false
      | _ => none
    | none => none

def runOp (C : CallF) (env : Env) (f base : Nat) (o : Oper) (s : St) : Option (AVal × Option Mem) :=
  if isCall o then aCall C env f base o s else aOp env f base o s
def putOp (nt : Nat) (o : Oper) (v : AVal) (m : Option Mem) (s : St) : Option St :=
  let s := match m with | some m => { s with m := m } | none => s
  match o.dst with
  | some d => if d < nt then some (s.set d v) else none
  | none => some s
/-- The operations in the order of the text; of each, whether the memory turned. -/
def runOps (C : CallF) (env : Env) (f base nt : Nat) (ops : Array Oper) : List Oper → St → Option (St × List Bool)
  | [], s => some (s, [])
  | o :: rest, s =>
    match wantedA ops o s with
    | none => none
    | some false => match putOp nt o offV none s with
      | none => none
      | some s => match runOps C env f base nt ops rest s with
        | none => none
        | some (s, fl) => some (s, false :: fl)
    | some true => match runOp C env f base o s with
      | none => none
      | some (v, m) => match putOp nt o v m s with
        | none => none
        | some s => match runOps C env f base nt ops rest s with
          | none => none
          | some (s, fl) => some (s, m.isSome :: fl)

/-- Does an operation look at memory at all? -/
def touches (o : Oper) : Bool :=
  match o.op with
  | .move _ | .assign _ | .pick .. | .build .. | .nilCheck _ | .binOp .. | .unOp .. | .convert .. | .makeInterface .. | .makeFunc .. | .fieldAddr .. | .field .. | .index .. | .extract .. => false
  | _ => true
/-- Which operations stand ahead of each, whatever the order. -/
def maskOf (acc : List Nat) (o : Oper) : Nat := o.after.toList.foldl (fun s e => if Region.binds .any e then s ||| 2 ^ e.on ||| acc.getD e.on 0 else s) 0
def befGo : List Oper → List Nat → List Nat
  | [], acc => acc
  | o :: l, acc => befGo l (acc ++ [maskOf acc o])
def befores (ops : Array Oper) : List Nat := befGo ops.toList []
def comparable (b : List Nat) (i j : Nat) : Bool := (b.getD j 0).testBit i || (b.getD i 0).testBit j
def drawOk (ops : Array Oper) (fl : List Bool) : Bool :=
  if fl.any id then
    let b := befores ops
    (List.range ops.size).all fun i => !(fl.getD i false) || ((ops[i]?).map touches).getD false && (List.range ops.size).all fun j => i == j || comparable b i j || !((ops[j]?).map touches).getD true
  else true

inductive AExit where
  | normal
  | exit (id : Nat)
  | ret

def exec (C : CallF) (env : Env) (f base nt : Nat) : Nat → Code → St → Option (AExit × St)
  | 0, _, _ => none
  | n + 1, c, s =>
    match c with
    | .skip => some (.normal, s)
    | .label _ => some (.normal, s)
    | .region _ ops draw => match runOps C env f base nt ops ops.toList s with
      | none => none
      | some (s, fl) => if draw && !drawOk ops fl then none else some (.normal, s)
    | .seq a b => match exec C env f base nt n a s with
      | some (.normal, s) => exec C env f base nt n b s
      | r => r
    | .cond c a b => match aEval env s c with
      | some (.raw (.bool t)) => exec C env f base nt n (if t then a else b) s
      | _ => none
    | .block id b => match exec C env f base nt n b s with
      | some (.exit j, s) => if j = id then some (.normal, s) else some (.exit j, s)
      | r => r
    | .loop b => match exec C env f base nt n b s with
      | some (.normal, s) => exec C env f base nt n (.loop b) s
      | r => r
    | .scope b => exec C env f base nt n b s
    | .exit id => some (.exit id, s)
    | .ret => some (.ret, s)
    | _ => none

/-- A result's cells as they are handed over. -/
def giveCells (base : Nat) (m : Mem) (a : AVal) : Option (RV × Mem) :=
  match a with
  | .agg cs => (frzL base m cs).map fun (cs, m1) => (.v (.agg cs), m1.getD m)
  | .hs o g lo n =>
    let x := m.obj o
    if x.gen = g then
      match x.st with
      | .row sz es => if lo = 0 && es.length = n && mayWrite base o then some (.row sz es, m.put o ⟨g, .dead⟩) else (frz base m a).map fun (a, m1) => (.v a, m1.getD m)
      | _ => (frz base m a).map fun (a, m1) => (.v a, m1.getD m)
    else none
  | a => (frz base m a).map fun (a, m1) => (.v a, m1.getD m)
/-- The same where the callee's shared objects live on. -/
def giveShared (base : Nat) (m : Mem) (a : AVal) : Option (RV × Mem) :=
  match a with
  | .hp (.glob k) g i off => some (.v (.hp (.glob k) g i off), m)
  | .hs (.glob k) g lo n => some (.v (.hs (.glob k) g lo n), m)
  | .agg cs => (passL base m cs).map fun (cs, m1) => (.v (.agg cs), m1.getD m)
  | .clo f first caps => if (AVal.clo f first caps).shared then some (.v (.clo f first caps), m) else none
  | a => giveCells base m a
def gives (eff : Bool) (base : Nat) : Mem → List AVal → Option (List RV × Mem)
  | m, [] => some ([], m)
  | m, a :: l =>
    match (if eff then giveShared base m a else giveCells base m a) with
    | none => none
    | some (r, m) => match gives eff base m l with
      | none => none
      | some (rs, m) => some (r :: rs, m)
def resultOf (env : Env) (s : St) : ResultVar → Option AVal
  | .tmp t => some (s.get t)
  | .cell a t => match s.get a with
    | .hp o g i off => (env.size t).bind fun n => (s.m.read o g i off n).bind fun cs => env.pack t cs
    | _ => none

def enterFr (args : List AVal) : Tbl AVal := (args.foldl (fun (p : Nat × Tbl AVal) a => (p.1 + 1, p.2.set .undef p.1 a)) (0, ⟨[]⟩)).2

def call (env : Env) : Nat → CallF
  | 0 => fun _ _ _ _ => none
  | n + 1 => fun f args base gs =>
    match env.ext f with
    | some g => g args base gs
    | none =>
      match env.funcs f with
      | none => none
      | some fn =>
        match fn.body with
        | none => none
        | some c =>
          if args.length ≤ fn.ntmps then
            match exec (call env n) env f base fn.ntmps n c ⟨enterFr args, ⟨⟨[]⟩, gs⟩⟩ with
            | none => none
            | some (.exit _, _) => none
            | some (_, s) =>
              (fn.results.toList.mapM (resultOf env s)).bind fun rs => (gives (env.eff f) base s.m rs).map fun (rs, m) => (rs, m.gs)
          else none

end Go.Abs
