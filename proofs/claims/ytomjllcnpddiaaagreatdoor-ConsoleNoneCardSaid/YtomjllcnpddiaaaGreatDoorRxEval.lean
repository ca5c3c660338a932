/- A reflective evaluator of the model's code over an abstract heap of named blocks. Definitions alone. -/
import Derived.Test.YtomjllcnpddiaaaGreatDoorRxPre
set_option linter.unusedSimpArgs false
set_option linter.unusedVariables false
set_option linter.unusedSectionVars false
namespace Go.Rx
open Go
noncomputable section

/-! ### Abstract blocks, states -/
inductive Ent where
  /-- 'ex': the block is just this long, and begins where its name does -/
  | cells (cs : List Value) (elem : TypeId) (fz : Nat × Nat) (ex : Bool)
  | map (es : List MapEntry) (clock : Nat)
  | loop (l : Loop)
  | deferred (ds : Option (List Deferred))

structure St where
  h : PT Ent
  next : Nat
  log : List Nat

structure Fr where
  fn : FuncId
  tm : List Value
  df : List Deferred
  round : Option Nat

/-- A type's underlying form, in short. -/
inductive TD where
  | bool
  | int (k : IntKind)
  | string
  | unsafePointer
  | pointer (e : TypeId)
  | slice (e : TypeId)
  | array (n : Nat) (e : TypeId)
  | map (k e : TypeId)
  | struct (fs : List (Nat × TypeId))
  | func
  | interface
  | other
def TD.of : TypeDesc → TD
  | .bool => .bool
  | .int k => .int k
  | .string => .string
  | .unsafePointer => .unsafePointer
  | .pointer e => .pointer e
  | .slice e => .slice e
  | .array n e => .array n e
  | .map k e => .map k e
  | .struct fs => .struct (fs.toList.map fun f => (f.offset, f.type))
  | .func _ _ _ => .func
  | .interface _ => .interface
  | _ => .other
def TD.agg : TD → Bool
  | .struct _ | .array _ _ => true
  | _ => false
/-- What a type is: its underlying form, cells, bytes, its zero cells. -/
structure TI where
  desc : TD
  size : Nat
  bytes : Nat
  zero : List Value

structure Env where
  /-- how many package-level variables there are -/
  ng : Nat
  fn : Nat → Option Func
  ty : Nat → Option TI
  /-- functions without a body that touch nothing -/
  ext : Nat → List Value → Option Value
  /-- internal/bytealg.MakeNoZero: the type of a byte -/
  noZero : Nat → Option TypeId
  /-- for unsafe.String: the type of a byte -/
  byteRow : Nat → Bool

inductive Out where
  | normal
  | exit (id : Nat)
  | ret
  | val (v : Value)

structure R where
  out : Out
  tm : List Value
  df : List Deferred
  s : St

inductive Task where
  | code (c : Code) (fr : Fr)
  | call (f : FuncId) (args : List Value)
  | yield (l : Nat) (args : List Value)

/-! ### Pure parts of the model -/
/-- A program of the model that touches no memory and asks nothing. -/
def pureRun {α : Type} (P : Program) : Sem α → Option α
  | .pure a => some a
  | .program k => pureRun P (k P)
  | .mark _ k => pureRun P k
  | _ => none

/-- Values that lead nowhere. -/
def scalar : Value → Bool
  | .bool _ | .int _ _ | .string _ | .pointer none | .nilIface | .nilFunc | .map none => true
  | .slice none 0 0 => true
  | _ => false
/-- Constants that lead nowhere, aggregates of such included. -/
def closed : Value → Bool
  | .agg cs => alln scalar cs.toList
  | .tuple cs => alln scalar cs.toList
  | v => scalar v

/-! ### Cells -/
/-- A cell of which something is known. -/
def known : Value → Bool
  | .tuple _ => false
  | _ => true
/-- A value of one cell. -/
def oneCell : Value → Bool
  | .agg _ | .tuple _ => false
  | _ => true
def cellsOf : Value → List Value
  | .agg cs => cs.toList
  | v => [v]

def St.cells {α : Type} (s : St) (b : Nat) (f : List Value → TypeId → Nat × Nat → Bool → Option α) : Option α :=
  match s.h.get b with
  | some (.cells cs e fz ex) => f cs e fz ex
  | _ => none
def St.put (s : St) (b : Nat) (e : Option Ent) : St := ⟨s.h.set b e, s.next, b :: s.log⟩
/-- A new block, under the next name. -/
def St.new (s : St) (e : Ent) : St := ⟨s.h.set s.next (some e), Nat.succ s.next, s.log⟩

def St.loadN (s : St) (b off n : Nat) : Option (List Value) :=
  s.cells b fun cs _ _ _ => takeOk known (dropn cs off) n
def St.load1 (s : St) (b off : Nat) : Option Value :=
  s.cells b fun cs _ _ _ => ob (nth cs off) fun v => chk (known v) (some v)
/-- None of these cells is frozen. -/
def thawed (off n : Nat) (fz : Nat × Nat) : Bool := sel (Nat.beq fz.1 fz.2) true (sel (Nat.ble fz.2 off) true (Nat.ble (Nat.add off n) fz.1))
def St.storeN (s : St) (b off : Nat) (vs : List Value) : Option St :=
  s.cells b fun cs e fz ex =>
    chk (Nat.ble (Nat.add off (lengthn vs)) (lengthn cs)) (chk (thawed off (lengthn vs) fz) (chk (alln oneCell vs)
      (some (s.put b (some (.cells (splice vs cs off) e fz ex))))))

section
variable (P : Program) (E : Env)

def loadVarA (s : St) (t : TypeId) (b off : Nat) : Option Value :=
  ob (E.ty t) fun i => sel i.desc.agg (ob (s.loadN b off i.size) fun l => some (.agg ⟨l⟩)) (s.load1 b off)
def storeVarA (s : St) (t : TypeId) (b off : Nat) (v : Value) : Option St :=
  ob (E.ty t) fun i => chk (Nat.beq (lengthn (cellsOf v)) i.size) (s.storeN b off (cellsOf v))
def ptr (b off : Nat) : Value := .pointer (some ⟨b, off, none⟩)

def partA (t : TypeId) (cs : List Value) (off : Nat) : Option Value :=
  ob (E.ty t) fun i => sel i.desc.agg (ob (takeOk (fun _ => true) (dropn cs off) i.size) fun l => some (.agg ⟨l⟩)) (nth cs off)

/-- Parts into cells. -/
def fillA (place : Nat → Option (Nat × Nat)) (cells : List Value) : List (Nat × Value) → Option (List Value)
  | [] => some cells
  | p :: rest =>
    ob (place p.1) fun q =>
      chk (Nat.beq (lengthn (cellsOf p.2)) q.2) (chk (Nat.ble (Nat.add q.1 q.2) (lengthn cells)) (fillA place (splice (cellsOf p.2) cells q.1) rest))
def place (fs : List (Nat × TypeId)) (i : Nat) : Option (Nat × Nat) :=
  ob (nth fs i) fun f => ob (E.ty f.2) fun i => some (f.1, i.size)

def repeatList (l : List Value) : Nat → List Value
  | 0 => []
  | n + 1 => appn l (repeatList l n)

/-! ### Slices: '.spot' of a slice's address: 'some es': its capacity is at least what is written, its elements are of 'es' cells -/
def isOpen (a : Addr) : Bool := a.spot.isSome
def plainA (a : Addr) : Bool := a.spot.isNone

def asIntA : Value → Option Int
  | .int _ n => some n
  | _ => none
/-- A bound: a number that is no more than another, or none. -/
def boundA (dflt most : Nat) : Option Value → Option Nat
  | none => chk (Nat.ble dflt most) (some dflt)
  | some (.int _ (.ofNat n)) => chk (Nat.ble n most) (some n)
  | _ => none

/-- Bounds of a slice expression: from, to, the capacity's end. -/
def boundsA (len cap : Nat) (lo hi mx : Option Value) : Option (Nat × Nat × Nat) :=
  ob (boundA cap cap mx) fun m =>
    ob (match hi, mx with | none, some _ => none | hi, _ => boundA len m hi) fun h =>
      ob (boundA 0 h lo) fun l => some (l, h, m)

def sliceA (t : TypeId) (x : Value) (lo hi mx : Option Value) : Option Value :=
  ob (E.ty t) fun i =>
    match i.desc, x with
    | .slice e, .slice (some a) len cap =>
      ob (boundsA len cap lo hi mx) fun b => ob (E.ty e) fun ei =>
        match a.spot, mx with
        | some es, none => chk (Nat.beq es ei.size) (some (.slice (some ⟨a.block, Nat.add a.off (Nat.mul b.1 ei.size), some es⟩) (Nat.sub b.2.1 b.1) (Nat.sub b.2.2 b.1)))
        | _, _ => sel (Nat.beq b.2.2 b.1) (some (.slice (some ⟨a.block, a.off, none⟩) 0 0))
            (some (.slice (some ⟨a.block, Nat.add a.off (Nat.mul b.1 ei.size), none⟩) (Nat.sub b.2.1 b.1) (Nat.sub b.2.2 b.1)))
    | .slice e, .slice none 0 0 => ob (E.ty e) fun _ => ob (boundsA 0 0 lo hi mx) fun _ => some (.slice none 0 0)
    | .array n e, .pointer (some a) =>
      ob (boundsA n n lo hi mx) fun b => ob (E.ty e) fun ei =>
        chk (plainA a) (some (.slice (some ⟨a.block, sel (Nat.beq b.2.2 b.1) a.off (Nat.add a.off (Nat.mul b.1 ei.size)), none⟩) (Nat.sub b.2.1 b.1) (Nat.sub b.2.2 b.1)))
    | .string, .string s =>
      match mx with
      | some _ => none
      | none => ob (boundsA s.size s.size lo hi none) fun b => some (.string (s.extract b.1 b.2.1))
    | _, _ => none

def indexAddrA (t : TypeId) (x ix : Value) : Option Value :=
  ob (E.ty t) fun ti =>
    match ix with
    | .int _ (.ofNat i) =>
      match ti.desc, x with
      | .array n e, .pointer (some a) => ob (E.ty e) fun ei => chk (plainA a) (chk (Nat.blt i n) (some (ptr a.block (Nat.add a.off (Nat.mul i ei.size)))))
      | .slice e, .slice (some a) len _ => ob (E.ty e) fun ei => chk (Nat.blt i len) (some (ptr a.block (Nat.add a.off (Nat.mul i ei.size))))
      | _, _ => none
    | _ => none

def lenOfA : Value → Option Nat
  | .slice _ n _ => some n
  | .string b => some b.size
  | _ => none
def byteVals (l : List UInt8) : List Value := List.rec [] (fun c _ ih => .int .u8 (.ofNat c.toNat) :: ih) l
def firstCellsA (s : St) (size n : Nat) : Value → Option (List Value)
  | .slice (some a) len _ => sel (Nat.beq n 0) (some []) (chk (Nat.ble n len) (s.loadN a.block a.off (Nat.mul n size)))
  | .slice none _ _ => sel (Nat.beq n 0) (some []) none
  | .string b => some (byteVals (b.extract 0 n).data.toList)
  | _ => none

/-- A growing append: a new block; the elder block's name is dropped where its capacity is open. -/
def growA (s : St) (e : TypeId) (ei : TI) (fz need : Nat) (cs : List Value) : Option (Value × St) :=
  chk (Nat.ble (Nat.mul need ei.bytes) 1099511627776)
    (some (.slice (some ⟨s.next, 0, some ei.size⟩) need need, s.new (.cells cs e (fz, fz) false)))
/-- What is appended: how many, and their cells. -/
def newA (s : St) (ei : TI) (u : TD) (y : Value) : Option (Nat × List Value) :=
  match u, y with
  | .int _, .int .i64 (.ofNat m) => chk (Nat.ble m 1048576) (chk (Nat.ble ei.bytes 1048576) (some (m, repeatList ei.zero m)))
  | .slice _, _ | .string, _ => ob (lenOfA y) fun n => ob (firstCellsA s ei.size n y) fun l => some (n, l)
  | _, _ => none
def appendA (s : St) (t u : TypeId) (x y : Value) : Option (Value × St) :=
  ob (E.ty t) fun ti =>
    match ti.desc with
    | .slice e =>
      ob (E.ty e) fun ei => ob (E.ty u) fun ui => ob (newA s ei ui.desc y) fun w =>
        chk (alln oneCell w.2) (chk (Nat.beq (lengthn w.2) (Nat.mul w.1 ei.size)) (chk (Nat.blt 0 ei.bytes)
          (match x with
          | .slice none 0 0 => sel (Nat.beq w.1 0) (some (.slice none 0 0, s)) (growA s e ei 0 w.1 w.2)
          | .slice (some a) len cap =>
            sel (Nat.ble (Nat.add len w.1) cap)
              (sel (Nat.beq w.1 0) (some (x, s)) (ob (s.storeN a.block (Nat.add a.off (Nat.mul len ei.size)) w.2) fun s => some (.slice (some a) (Nat.add len w.1) cap, s)))
              (ob (sel (Nat.beq len 0) (some []) (s.loadN a.block a.off (Nat.mul len ei.size))) fun old =>
                sel (isOpen a)
                  (s.cells a.block fun _ e' fz _ => chk (Nat.beq e' e) (chk (Nat.beq fz.1 fz.2) (chk (Nat.beq (a.spot.getD 0) ei.size) (growA (s.put a.block none) e ei fz.1 (Nat.add len w.1) (appn old w.2)))))
                  (growA s e ei 0 (Nat.add len w.1) (appn old w.2)))
          | _ => none)))
    | _ => none

def copyA (s : St) (t : TypeId) (x y : Value) : Option (Value × St) :=
  ob (E.ty t) fun ti =>
    match ti.desc, x with
    | .slice e, .slice base dLen _ =>
      ob (E.ty e) fun ei => ob (lenOfA y) fun m => ob (firstCellsA s ei.size (Nat.min m dLen) y) fun new =>
        match base with
        | none => some (.int .i64 (.ofNat (Nat.min m dLen)), s)
        | some a => sel (Nat.beq (Nat.min m dLen) 0) (some (.int .i64 0, s)) (ob (s.storeN a.block a.off new) fun s => some (.int .i64 (.ofNat (Nat.min m dLen)), s))
    | _, _ => none

/-! ### Equality -/
/-- '==' where a side is nil, or two addresses lie in one block. -/
def eqA (ty : Nat → Option TI) (d : TD) (x y : Value) : Option Bool :=
  match d, x, y with
  | .bool, .bool a, .bool b => some (a == b)
  | .pointer _, .pointer none, .pointer b => some b.isNone
  | .pointer _, .pointer (some _), .pointer none => some false
  | .pointer e, .pointer (some a), .pointer (some b) =>
    ob (ty e) fun i => chk (Nat.blt 0 i.size) (chk (Nat.beq a.block b.block) (chk (plainA a) (chk (plainA b) (some (Nat.beq a.off b.off)))))
  | .slice _, .slice none _ _, .slice b _ _ => some b.isNone
  | .slice _, .slice (some _) _ _, .slice none _ _ => some false
  | .map _ _, .map none, .map b => some b.isNone
  | .map _ _, .map (some _), .map none => some false
  | .func, .nilFunc, .nilFunc => some true
  | .func, .nilFunc, .func _ _ _ => some false
  | .func, .func _ _ _, .nilFunc => some false
  | .interface, .nilIface, .nilIface => some true
  | .interface, .nilIface, .iface _ _ => some false
  | .interface, .iface _ _, .nilIface => some false
  | _, _, _ => none

def isConstO : Operand → Bool
  | .const _ => true
  | _ => false

/-- A binary operation: at two numbers, at two strings; '==' and '!='. -/
def binA (op : BinOp) (t : TypeId) (xo yo : Operand) (x y : Value) : Option Value :=
  match x, y with
  | .int _ _, .int _ _ | .string _, .string _ => ob (pureRun P (binOp op t x y)) fun v => chk (scalar v) (some v)
  | .nilIface, .nilIface =>
    chk (sel (isConstO xo) true (isConstO yo)) (ob (E.ty t) fun i => match op with
      | .eql => ob (eqA E.ty i.desc x y) fun b => some (.bool b)
      | .neq => ob (eqA E.ty i.desc x y) fun b => some (.bool (!b))
      | _ => none)
  | _, _ => ob (E.ty t) fun i => match op with
      | .eql => ob (eqA E.ty i.desc x y) fun b => some (.bool b)
      | .neq => ob (eqA E.ty i.desc x y) fun b => some (.bool (!b))
      | _ => none

def bytesOf (l : List Value) : Option (List UInt8) :=
  List.rec (some []) (fun v _ ih => match v with
    | .int .u8 n => ob ih fun r => some (UInt8.ofNat n.toNat :: r)
    | _ => none) l

def convertA (s : St) (src dst : TypeId) (x : Value) : Option (Value × St) :=
  ob (E.ty dst) fun d => ob (E.ty src) fun sd =>
    match x with
    | .int _ n =>
      match sd.desc, d.desc with
      | .int _, .int k => some (.int k (k.wrap n), s)
      | _, _ => none
    | .string b =>
      match sd.desc, d.desc with
      | .string, .string => some (x, s)
      | .string, .slice e =>
        ob (E.ty e) fun ei => match ei.desc with
          | .int .u8 => chk (Nat.beq ei.size 1) (some (.slice (some ⟨s.next, 0, some 1⟩) b.size b.size, s.new (.cells (byteVals b.data.toList) e (1, 1) false)))
          | _ => none
      | _, _ => none
    | .pointer none =>
      match sd.desc, d.desc with
      | .pointer _, .unsafePointer | .unsafePointer, .pointer _ => some (x, s)
      | _, _ => none
    | .pointer (some a) =>
      s.cells a.block fun cs e _ ex => chk (plainA a) (chk ex
        (match sd.desc, d.desc with
        | .pointer t, .unsafePointer => ob (E.ty t) fun ti => chk (Nat.blt 0 ti.size) (chk (Nat.blt a.off (lengthn cs)) (some (x, s)))
        | .unsafePointer, .pointer u => ob (E.ty u) fun _ => chk (liesAt P P.depth e (Nat.div (lengthn cs) (P.cellsOf e)) a.off u 1) (some (x, s))
        | _, _ => none))
    | .slice a len _ =>
      match sd.desc, d.desc with
      | .slice e, .string =>
        ob (E.ty e) fun ei => match ei.desc with
          | .int .u8 => match a with
            | none => some (.string .empty, s)
            | some a => ob (sel (Nat.beq len 0) (some []) (s.loadN a.block a.off len)) fun l => ob (bytesOf l) fun bs => some (.string ⟨⟨bs⟩⟩, s)
          | _ => none
      | _, _ => none
    | _ => none

/-! ### Maps: keys that are scalars of one kind -/
def keyFits (d : TD) (v : Value) : Bool :=
  match d, v with
  | .int k, .int k' _ => k == k'
  | .string, .string _ => true
  | .bool, .bool _ => true
  | _, _ => false
def sameKey : Value → Value → Bool
  | .int _ a, .int _ b => a == b
  | .string a, .string b => a == b
  | .bool a, .bool b => a == b
  | _, _ => false
def findA (k : Value) (es : List MapEntry) : Option Value := List.rec none (fun e _ ih => sel (sameKey k e.key) (some e.val) ih) es
def storeA (k v : Value) (clock : Nat) (es : List MapEntry) : List MapEntry :=
  List.rec [⟨k, v, clock⟩] (fun e l ih => sel (sameKey k e.key) (⟨k, v, e.born⟩ :: l) (e :: ih)) es
def dropA (k : Value) (es : List MapEntry) : List MapEntry := List.rec [] (fun e l ih => sel (sameKey k e.key) l (e :: ih)) es
def hasA (k : Value) (es : List MapEntry) : Bool := List.rec false (fun e _ ih => sel (sameKey k e.key) true ih) es

def zeroA (i : TI) : Option Value := sel i.desc.agg (some (.agg ⟨i.zero⟩)) (nth i.zero 0)

def entriesA (s : St) (d : TD) (m : Value) : Option (List MapEntry) :=
  match m with
  | .map none => some []
  | .map (some r) =>
    match s.h.get r with
    | some (.map es _) => chk (alln (fun e => keyFits d e.key) es) (some es)
    | _ => none
  | _ => none

def lookupA (s : St) (t : TypeId) (m k : Value) (ok : Bool) : Option Value :=
  ob (E.ty t) fun ti =>
    match ti.desc with
    | .map kt et => ob (E.ty kt) fun ki => ob (E.ty et) fun ei => chk (keyFits ki.desc k) (ob (entriesA s ki.desc m) fun es =>
      match findA k es with
      | some v => some (sel ok (.tuple #[v, .bool true]) v)
      | none => ob (zeroA ei) fun z => some (sel ok (.tuple #[z, .bool false]) z))
    | _ => none

def mapUpdateA (s : St) (t : TypeId) (m k v : Value) : Option St :=
  ob (E.ty t) fun ti =>
    match ti.desc, m with
    | .map kt _, .map (some r) => ob (E.ty kt) fun ki => chk (keyFits ki.desc k)
      (match s.h.get r with
      | some (.map es clock) => chk (alln (fun e => keyFits ki.desc e.key) es) (some (s.put r (some (.map (storeA k v clock es) (sel (hasA k es) clock (Nat.succ clock))))))
      | _ => none)
    | _, _ => none

/-! ### One operation -/
def ev (tm : List Value) : Operand → Option Value
  | .tmp t => some (nthD undef tm t)
  | .const v => chk (closed v) (some v)
  | .global g => chk (Nat.blt g E.ng) (some (ptr g 0))
  | .func f => some (.func (.func f) #[] #[])
def evs (tm : List Value) (l : List Operand) : Option (List Value) :=
  List.rec (some []) (fun x _ ih => ob (ev E tm x) fun v => ob ih fun r => some (v :: r)) l
def evPairs (tm : List Value) (l : List (Nat × Operand)) : Option (List (Nat × Value)) :=
  List.rec (some []) (fun x _ ih => ob (ev E tm x.2) fun v => ob ih fun r => some ((x.1, v) :: r)) l
def evOpt (tm : List Value) : Option Operand → Option (Option Value)
  | none => some none
  | some x => ob (ev E tm x) fun v => some (some v)

abbrev Rec := Task → St → Option R

/-- Who is called, with what. -/
inductive Who where
  | func (f : FuncId) (args : List Value)
  | yield (l : Nat) (args : List Value)

def whoOf (f : Value) (args : List Value) : Option Who :=
  match f with
  | .func (.func g) first captured => some (.func g (appn first.toList (appn args captured.toList)))
  | .func (.yield l) ⟨[]⟩ ⟨[]⟩ => some (.yield l args)
  | _ => none

def valOf (r : R) : Option (Value × St) :=
  match r.out with
  | .val v => some (v, r.s)
  | _ => none

def callA (E : Env) (rec : Rec) (s : St) : Who → Option (Value × St)
  | .func g args =>
    match E.fn g with
    | some _ => ob (rec (.call g args) s) valOf
    | none =>
      match E.noZero g, args with
      | some e, [.int .i64 (.ofNat n)] => chk (Nat.ble n 1048576) (some (.slice (some ⟨s.next, 0, some 1⟩) n n, s.new (.cells (List.replicate n undef) e (0, 0) false)))
      | none, args => ob (E.ext g args) fun v => some (v, s)
      | _, _ => none
  | .yield l args => ob (rec (.yield l args) s) valOf

def isInt : Value → Bool
  | .int _ _ => true
  | _ => false

/-- A builtin. -/
def builtinA (s : St) (b : Builtin) (ts : List TypeId) (args : List Value) : Option (Value × St) :=
  match b, ts, args with
  | .len, t :: _, x :: _ =>
    ob (E.ty t) fun ti =>
      match ti.desc, x with
      | .string, .string b => some (.int .i64 (.ofNat b.size), s)
      | .array n _, _ => some (.int .i64 (.ofNat n), s)
      | .slice _, .slice _ n _ => some (.int .i64 (.ofNat n), s)
      | .map _ _, .map none => some (.int .i64 0, s)
      | .map _ _, .map (some r) =>
        match s.h.get r with
        | some (.map es _) => some (.int .i64 (.ofNat (lengthn es)), s)
        | _ => none
      | _, _ => none
  | .cap, t :: _, x :: _ =>
    ob (E.ty t) fun ti =>
      match ti.desc, x with
      | .slice _, .slice none _ n => some (.int .i64 (.ofNat n), s)
      | .slice _, .slice (some a) _ n => chk (plainA a) (some (.int .i64 (.ofNat n), s))
      | _, _ => none
  | .append, [t, u], [x, y] => appendA E s t u x y
  | .copy, [t, _], [x, y] => copyA E s t x y
  | .min, _, x :: rest => chk (alln isInt (x :: rest)) (ob (pureRun P (rest.foldlM Builtin.min2 x)) fun v => chk (scalar v) (some (v, s)))
  | .max, _, x :: rest => chk (alln isInt (x :: rest)) (ob (pureRun P (rest.foldlM Builtin.max2 x)) fun v => chk (scalar v) (some (v, s)))
  | .unsafeSliceData, _, [x] =>
    match x with
    | .slice none _ _ => some (.pointer none, s)
    | .slice (some a) _ c => sel (Nat.beq c 0) none (some (ptr a.block a.off, s))
    | _ => none
  | .unsafeString, t :: _, [p, n] =>
    match p, n with
    | .pointer none, .int _ (.ofNat 0) => some (.string .empty, s)
    | .pointer (some a), .int _ (.ofNat n) =>
      sel (Nat.beq n 0) (some (.string .empty, s))
        (ob (E.ty t) fun ti => match ti.desc with
          | .pointer u => s.cells a.block fun cs e fz ex =>
            chk (E.byteRow e) (chk (Nat.beq u e) (chk (Nat.beq fz.1 0) (chk (plainA a) (chk (Nat.beq a.off 0) (chk (Nat.ble n 1099511627776)
              (ob (s.loadN a.block a.off n) fun l => ob (bytesOf l) fun bs => some (.string ⟨⟨bs⟩⟩, s.put a.block (some (.cells cs e (0, Nat.max fz.2 n) ex)))))))))
          | _ => none)
    | _, _ => none
  | .delete, t :: _, [m, k] =>
    ob (E.ty t) fun ti =>
      match ti.desc, m with
      | .map kt _, .map (some r) => ob (E.ty kt) fun ki => chk (keyFits ki.desc k)
        (match s.h.get r with
        | some (.map es clock) => chk (alln (fun e => keyFits ki.desc e.key) es) (some (.tuple #[], s.put r (some (.map (dropA k es) clock))))
        | _ => none)
      | _, _ => none
  | _, _, _ => none

/-- One operation that calls no code. -/
def opA (tm : List Value) (s : St) (o : Op) : Option (Value × St) :=
  match o with
  | .move x | .assign x => ob (ev E tm x) fun v => some (v, s)
  | .pick c a b => ob (ev E tm c) fun c => ob (ev E tm a) fun a => ob (ev E tm b) fun b => match c with
    | .bool c => some (sel c a b, s)
    | _ => none
  | .alloc t => ob (E.ty t) fun ti => some (ptr s.next 0, s.new (.cells ti.zero t (0, 0) true))
  | .box t x => ob (ev E tm x) fun v => some (ptr s.next 0, s.new (.cells (cellsOf v) t (0, 0) true))
  | .build t parts =>
    ob (E.ty t) fun ti => ob (evPairs E tm parts.toList) fun ps => match ti.desc with
    | .struct fs => chk (alln (fun f => (E.ty f.2).isSome) fs) (ob (fillA (place E fs) ti.zero ps) fun cs => some (.agg ⟨cs⟩, s))
    | .array _ e => ob (E.ty e) fun ei => ob (fillA (fun i => some (Nat.mul i ei.size, ei.size)) ti.zero ps) fun cs => some (.agg ⟨cs⟩, s)
    | _ => none
  | .buildSlice t len parts =>
    ob (E.ty t) fun ti => match ti.desc with
    | .slice e => ob (E.ty e) fun ei => ob (evPairs E tm parts.toList) fun ps =>
      chk (Nat.ble (Nat.mul len ei.size) 1048576)
        (ob (fillA (fun i => some (Nat.mul i ei.size, ei.size)) (repeatList ei.zero len) ps) fun cs =>
          some (.slice (some ⟨s.next, 0, none⟩) len len, s.new (.cells cs e (0, 0) true)))
    | _ => none
  | .insert t m k v | .mapUpdate t m k v =>
    ob (ev E tm m) fun m => ob (ev E tm k) fun k => ob (ev E tm v) fun v => ob (mapUpdateA E s t m k v) fun s => some (undef, s)
  | .load t x => ob (ev E tm x) fun x => match x with
    | .pointer (some a) => chk (plainA a) (ob (loadVarA E s t a.block a.off) fun v => some (v, s))
    | _ => none
  | .store t x y => ob (ev E tm x) fun x => ob (ev E tm y) fun v => match x with
    | .pointer (some a) => chk (plainA a) (ob (storeVarA E s t a.block a.off v) fun s => some (undef, s))
    | _ => none
  | .nilCheck x => ob (ev E tm x) fun v => match v with
    | .pointer (some _) => some (v, s)
    | .func (.func _) _ _ | .func (.yield _) _ _ => some (v, s)
    | _ => none
  | .binOp op t x y _ => ob (ev E tm x) fun a => ob (ev E tm y) fun b => ob (binA P E op t x y a b) fun v => some (v, s)
  | .unOp op _ x => ob (ev E tm x) fun v => match v with
    | .int _ _ | .bool _ => ob (pureRun P (Op.unary op v)) fun v => chk (scalar v) (some (v, s))
    | _ => none
  | .convert src dst x => ob (ev E tm x) fun v => convertA P E s src dst v
  | .makeInterface t x => ob (ev E tm x) fun v => ob (E.ty t) fun ti => match ti.desc with
    | .interface | .other => none
    | _ => some (.iface t v, s)
  | .makeFunc fn first captured => ob (evs E tm first.toList) fun first => ob (evs E tm captured.toList) fun captured => match fn with
    | .func _ => some (.func fn ⟨first⟩ ⟨captured⟩, s)
    | _ => none
  | .makeMap _ none => some (.map (some s.next), s.new (.map [] 0))
  | .makeSlice t l c =>
    ob (E.ty t) fun ti => match ti.desc with
    | .slice e => ob (E.ty e) fun ei => ob (ev E tm l) fun l => ob (ev E tm c) fun c => match l, c with
      | .int .i64 (.ofNat l), .int .i64 (.ofNat c) =>
        chk (Nat.ble l c) (chk (Nat.ble c 1048576) (chk (Nat.ble ei.bytes 1048576)
          (some (.slice (some ⟨s.next, 0, none⟩) l c, s.new (.cells (repeatList ei.zero c) e (0, 0) true)))))
      | _, _ => none
    | _ => none
  | .slice t x lo hi mx =>
    ob (ev E tm x) fun v => ob (evOpt E tm lo) fun lo => ob (evOpt E tm hi) fun hi => ob (evOpt E tm mx) fun mx => ob (sliceA E t v lo hi mx) fun v => some (v, s)
  | .fieldAddr t x i => ob (ev E tm x) fun x => match x with
    | .pointer (some a) => ob (E.ty t) fun ti => match ti.desc with
      | .struct fs => ob (nth fs i) fun f => ob (E.ty f.2) fun fi => chk (Nat.blt 0 fi.size) (chk (plainA a) (some (ptr a.block (Nat.add a.off f.1), s)))
      | _ => none
    | _ => none
  | .field t x i => ob (ev E tm x) fun x => match x with
    | .agg cs => ob (E.ty t) fun ti => match ti.desc with
      | .struct fs => ob (nth fs i) fun f => ob (partA E f.2 cs.toList f.1) fun v => some (v, s)
      | _ => none
    | _ => none
  | .indexAddr t x i => ob (ev E tm x) fun v => ob (ev E tm i) fun i => ob (indexAddrA E t v i) fun v => some (v, s)
  | .index t x i => ob (ev E tm x) fun v => ob (ev E tm i) fun i => ob (E.ty t) fun ti => match i with
    | .int _ (.ofNat n) => match ti.desc, v with
      | .string, .string b => ob (nth b.data.toList n) fun c => some (.int .u8 (.ofNat c.toNat), s)
      | .array len e, .agg cs => ob (E.ty e) fun ei => chk (Nat.blt n len) (ob (partA E e cs.toList (Nat.mul n ei.size)) fun v => some (v, s))
      | _, _ => none
    | _ => none
  | .lookup t m k ok => ob (ev E tm m) fun m => ob (ev E tm k) fun k => ob (lookupA E s t m k ok) fun v => some (v, s)
  | .extract x i => ob (ev E tm x) fun x => match x with
    | .tuple vs => ob (nth vs.toList i) fun v => some (v, s)
    | _ => none
  | .call { callee := .builtin b, args, argTypes } => ob (evs E tm args.toList) fun args => builtinA P E s b argTypes.toList args
  | _ => none

/-- One operation. -/
def op1 (rec : Rec) (tm : List Value) (s : St) (o : Op) : Option (Value × St) :=
  match o with
  | .call { callee := .value f, args, .. } => ob (ev E tm f) fun f => ob (evs E tm args.toList) fun args => ob (whoOf f args) fun who => callA E rec s who
  | o => opA P E tm s o

def putT (tm : List Value) (dst : Option Tmp) (v : Value) : List Value := Option.rec tm (fun d => setn v tm d) dst

def yieldedA (all : List Oper) (tm : List Value) (j : Nat) : Option Bool :=
  match ob (ob (nth all j) fun o => o.dst) fun t => nth tm t with
  | some (.bool b) => some b
  | _ => none
def wantedA (all : List Oper) (tm : List Value) (g : Option (Nat × Bool)) : Bool :=
  match g with
  | none => true
  | some (j, want) => match yieldedA all tm j with
    | some b => b == want
    | none => false

def seqOps (rec : Rec) (all : List Oper) (l : List Oper) : List Value → St → Option (List Value × St) :=
  List.rec (fun tm s => some (tm, s)) (fun o _ ih tm s =>
    sel (wantedA all tm o.guard) (ob (op1 P E rec tm s o.op) fun r => ih (putT tm o.dst r.1) r.2) (ih (putT tm o.dst undef) s)) l

/-! ### A region whose order is open -/
/-- What an operation has done: the operations that it waits for (a mask), the names that it may have looked at (none: all), the names that it has written, and its new names. -/
structure Rec1 where
  mask : Nat
  dom : Option (List Nat)
  log : List Nat
  lo : Nat
  hi : Nat

/-- The masks of what each operation waits for, directly or not. -/
def maskOf (acc : List Nat) (o : Oper) : Nat :=
  o.after.toList.foldl (fun m e => if Region.binds .any e then m ||| 2 ^ e.on ||| nthD 0 acc e.on else m) 0
def masks (acc : List Nat) : List Oper → List Nat
  | [] => acc
  | o :: l => masks (acc ++ [maskOf acc o]) l

def namesOf : Value → List Nat
  | .pointer (some a) => [a.block]
  | .slice (some a) _ _ => [a.block]
  | .map (some r) => [r]
  | _ => []

def isCall : Op → Bool
  | .call { callee := .value _, .. } => true
  | _ => false

/-- The names that an operation may look at. -/
def foot (tm : List Value) (o : Op) : Option (List Nat) :=
  match o with
  | .load _ x | .store _ x _ | .insert _ x _ _ | .mapUpdate _ x _ _ | .lookup _ x _ _ | .convert _ _ x => ob (ev E tm x) fun v => some (namesOf v)
  | .call { callee := .builtin _, args, .. } => ob (evs E tm args.toList) fun l => some (l.flatMap namesOf)
  | _ => some []

def restrict (h : PT Ent) : List Nat → PT Ent
  | [] => .leaf
  | n :: l => (restrict h l).set n (h.get n)
def merge (h h' : PT Ent) : List Nat → PT Ent
  | [] => h
  | n :: l => (merge h h' l).set n (h'.get n)
def upto (lo : Nat) : Nat → List Nat
  | 0 => []
  | n + 1 => lo :: upto (lo + 1) n

def hasN (n : Nat) (l : List Nat) : Bool := List.rec false (fun a _ ih => sel (Nat.beq n a) true ih) l
def touches (W : Rec1) : Option (List Nat) → Bool
  | none => !(W.log.isEmpty && Nat.beq W.lo W.hi)
  | some l => l.any fun n => hasN n W.log || (Nat.ble W.lo n && Nat.blt n W.hi)

/-- No operation of 'done' that is apart from an operation with this mask touches what that one writes, nor the other way round. -/
def clear (me : Rec1) : Nat → List Rec1 → Bool
  | _, [] => true
  | j, r :: l => (me.mask.testBit j || (!touches r me.dom && !touches me r.dom && !touches r (some me.log) && !touches me (some r.log))) && clear me (j + 1) l

/-- Temporaries: what one operation writes no operation apart from it names. -/
def tmpsOf (ops : List Oper) (o : Oper) : List Tmp :=
  (o.op.operands.toList.filterMap fun | .tmp t => some t | _ => none) ++ (match o.guard with | some (j, _) => ((ops[j]?).bind (·.dst)).toList | none => [])
def apart1 (ops : List Oper) (a b : Oper) : Bool :=
  (match a.dst with | some d => !hasN d (tmpsOf ops b) && b.dst != some d | none => true) &&
  (match b.dst with | some d => !hasN d (tmpsOf ops a) | none => true)
def apartAll (ops : List Oper) (m : Nat) (o : Oper) : Nat → List Oper → Bool
  | _, [] => true
  | j, p :: l => (m.testBit j || apart1 ops o p) && apartAll ops m o (j + 1) l
def tmpsOkGo (ops : List Oper) (ms : List Nat) (before : List Oper) : List Oper → Bool
  | [] => true
  | o :: l => apartAll ops (nthD 0 ms before.length) o 0 before && tmpsOkGo ops ms (before ++ [o]) l
/-- Every edge that binds leads back; and the temporaries are apart. -/
def edgesOk (i : Nat) : List Oper → Bool
  | [] => true
  | o :: l => o.after.toList.all (fun e => !Region.binds .any e || Nat.blt e.on i) && edgesOk (i + 1) l
def tmpsOk (ops : List Oper) : Bool := edgesOk 0 ops && tmpsOkGo ops (masks [] ops) [] ops

def drawOps (rec : Rec) (all : List Oper) (ms : List Nat) (l : List Oper) : List Rec1 → List Value → St → Option (List Value × St) :=
  List.rec (fun _ tm s => some (tm, s)) (fun o _ ih done tm s =>
    sel (wantedA all tm o.guard)
      (sel (isCall o.op)
        (ob (op1 P E rec tm ⟨s.h, s.next, []⟩ o.op) fun r =>
          chk (clear ⟨nthD 0 ms (lengthn done), none, r.2.log, s.next, r.2.next⟩ 0 done)
            (ih (appn done [⟨nthD 0 ms (lengthn done), none, r.2.log, s.next, r.2.next⟩]) (putT tm o.dst r.1) ⟨r.2.h, r.2.next, appn r.2.log s.log⟩))
        (ob (foot E tm o.op) fun ft =>
          ob (opA P E tm ⟨restrict s.h ft, s.next, []⟩ o.op) fun r =>
            chk (clear ⟨nthD 0 ms (lengthn done), some ft, r.2.log, s.next, r.2.next⟩ 0 done)
              (ih (appn done [⟨nthD 0 ms (lengthn done), some ft, r.2.log, s.next, r.2.next⟩]) (putT tm o.dst r.1)
                ⟨merge s.h r.2.h (appn r.2.log (upto s.next (Nat.sub r.2.next s.next))), r.2.next, appn r.2.log s.log⟩)))
      (ih (appn done [⟨nthD 0 ms (lengthn done), some [], [], s.next, s.next⟩]) (putT tm o.dst undef) s)) l

/-! ### Code -/
def setAll (tm : List Value) : List Tmp → List Value → List Value
  | t :: ts, v :: vs => setAll (setn v tm t) ts vs
  | _, _ => tm

def St.loopAt (s : St) (l : Nat) : Option Loop :=
  match s.h.get l with
  | some (.loop r) => some r
  | _ => none

def takeAll : List Deferred → St → Option St
  | [], s => some s
  | { target := .collected b, .. } :: ds, s =>
    match s.h.get b with
    | some (.deferred (some [])) => takeAll ds (s.put b (some (.deferred none)))
    | _ => none
  | _, _ => none

def resultsA (s : St) (tm : List Value) : List ResultVar → Option (List Value)
  | [] => some []
  | .tmp t :: l => ob (resultsA s tm l) fun r => some (nthD undef tm t :: r)
  | .cell a t :: l =>
    match nthD undef tm a with
    | .pointer (some a) => chk (plainA a) (ob (loadVarA E s t a.block a.off) fun v => ob (resultsA s tm l) fun r => some (v :: r))
    | _ => none

def resultA (l : List Value) : Value :=
  match l with
  | [v] => v
  | l => .tuple ⟨l⟩

def jumpOf : Out → Option (Option Code)
  | .normal => some none
  | .ret => some (some .ret)
  | .exit id => some (some (.exit id))
  | .val _ => none

def isReady : LoopState → Bool
  | .ready => true
  | _ => false
def isBusy : LoopState → Bool
  | .busy => true
  | _ => false

/-- What leads to the block of a round's deferred calls: its name, the mark, the state. -/
def loopMark (round : Option Nat) (s : St) : Option (Nat × List Deferred × St) :=
  match round with
  | some l => ob (s.loopAt l) fun r => some (r.defers, [], s)
  | none => some (s.next, [{ target := .collected s.next, args := #[] }], s.new (.deferred (some [])))

def F (rec : Rec) : Task → St → Option R
  | .code c fr, s =>
    match c with
    | .skip | .label _ => some ⟨.normal, fr.tm, fr.df, s⟩
    | .region _ ops draw =>
      sel draw
        (chk (tmpsOk ops.toList) (ob (drawOps P E rec ops.toList (masks [] ops.toList) ops.toList [] fr.tm s) fun r => some ⟨.normal, r.1, fr.df, r.2⟩))
        (ob (seqOps P E rec ops.toList ops.toList fr.tm s) fun r => some ⟨.normal, r.1, fr.df, r.2⟩)
    | .seq a b =>
      ob (rec (.code a fr) s) fun r => match r.out with
        | .normal => rec (.code b ⟨fr.fn, r.tm, r.df, fr.round⟩) r.s
        | _ => some r
    | .cond x a b =>
      ob (ev E fr.tm x) fun v => match v with
        | .bool c => rec (.code (sel c a b) fr) s
        | _ => none
    | .block id c =>
      ob (rec (.code c fr) s) fun r => match r.out with
        | .exit i => some ⟨sel (Nat.beq i id) .normal (.exit i), r.tm, r.df, r.s⟩
        | _ => some r
    | .loop c =>
      ob (rec (.code c fr) s) fun r => match r.out with
        | .normal => rec (.code (.loop c) ⟨fr.fn, r.tm, r.df, fr.round⟩) r.s
        | _ => some r
    | .exit id => some ⟨.exit id, fr.tm, fr.df, s⟩
    | .ret => some ⟨.ret, fr.tm, fr.df, s⟩
    | .rangeFunc f params assign body =>
      ob (ev E fr.tm f) fun g => ob (loopMark fr.round s) fun m =>
        ob (whoOf g [.func (.yield m.2.2.next) #[] #[]]) fun who => match who with
        | .yield _ _ => none
        | .func _ _ =>
          ob (callA E rec (m.2.2.new (.loop { state := .ready, pending := none, fn := fr.fn, tmps := ⟨fr.tm⟩, params, assign, body, defers := m.1 })) who) fun r =>
            ob (r.2.loopAt m.2.2.next) fun l => chk (!isBusy l.state)
              (match l.pending with
              | none => some ⟨.normal, fr.tm, appn m.2.1 fr.df, r.2.put m.2.2.next (some (.loop { l with state := .exhausted }))⟩
              | some c => rec (.code c ⟨fr.fn, fr.tm, appn m.2.1 fr.df, fr.round⟩) (r.2.put m.2.2.next (some (.loop { l with state := .exhausted }))))
    | _ => none
  | .call f args, s =>
    ob (E.fn f) fun fn => ob fn.body fun body =>
      ob (rec (.code body ⟨f, appn args (List.replicate (Nat.sub fn.ntmps (lengthn args)) undef), [], none⟩) s) fun r =>
        match r.out with
        | .normal | .ret => ob (takeAll r.df r.s) fun s => ob (resultsA E s r.tm fn.results.toList) fun l => some ⟨.val (resultA l), [], [], s⟩
        | _ => none
  | .yield L args, s =>
    ob (s.loopAt L) fun l => chk (isReady l.state) (chk (Nat.beq (lengthn args) l.params.size)
      (ob (rec (.code l.assign ⟨l.fn, setAll l.tmps.toList l.params.toList args, [], some L⟩) s) fun r =>
        match r.out, r.df with
        | .normal, [] =>
          ob (r.s.loopAt L) fun l1 => chk (isReady l1.state)
            (ob (rec (.code l.body ⟨l.fn, r.tm, [], some L⟩) (r.s.put L (some (.loop { l1 with state := .busy })))) fun r2 =>
              ob (jumpOf r2.out) fun jump => ob (r2.s.loopAt L) fun l2 => match r2.df with
                | [] => some ⟨.val (.bool jump.isNone), [], [], r2.s.put L (some (.loop { l2 with state := if jump.isNone then .ready else .done, pending := jump }))⟩
                | _ => none)
        | _, _ => none))

def run (n : Nat) : Rec := Nat.rec (fun _ _ => none) (fun _ ih => F P E ih) n
end
end
end Go.Rx
