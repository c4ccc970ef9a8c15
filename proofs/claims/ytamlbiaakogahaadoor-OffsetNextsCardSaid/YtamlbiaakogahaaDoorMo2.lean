/- The abstract evaluator, part 2: its definitions: operations, regions, code. Sound: part 3 and on. -/
import Derived.Test.YtamlbiaakogahaaDoorMo1
namespace Go.Mo
open Go
noncomputable section

structure Blk where
  gs : List Seg
  wr : Bool

/-- A computation that reads blocks. -/
inductive Rd (α : Type) where
  | pure (a : α)
  | read (id : Nat) (k : Blk → Rd α)
  | fail

def Rd.run {α : Type} (m : Nat → Option Blk) : Rd α → Option (α × List Nat)
  | .pure a => some (a, [])
  | .read id k =>
    match m id with
    | none => none
    | some b =>
      match (k b).run m with
      | none => none
      | some (a, fp) => some (a, id :: fp)
  | .fail => none

/-- What an operation comes to: its value; the blocks that it lays; the block that it writes; what was taken for granted of tests. -/
structure Out where
  v : V
  news : List (List Seg)
  wr : Option (Nat × Blk)
  obs : List (Bool × Bool)

abbrev Env := Nat → List V → Nat → Rd (V × List (List Seg))

/-- The program; its functions' contracts; what a call of one takes for granted of its arguments. -/
structure Cx where
  P : Program
  env : Env
  obl : Nat → List V → List (Bool × Bool)

def Rd.ofOpt {α β : Type} (x : Option α) (f : α → Rd β) : Rd β :=
  match x with
  | some a => f a
  | none => .fail

def okV (v : V) : Rd Out := .pure ⟨v, [], none, []⟩
def okS (x : Sc) : Rd Out := .pure ⟨.s x, [], none, []⟩
def okSc (x : Option Sc) : Rd Out :=
  match x with
  | some x => .pure ⟨.s x, [], none, []⟩
  | none => .fail
def okSegs (x : Option (List Seg)) : Rd Out :=
  match x with
  | some gs => .pure ⟨.a gs, [], none, []⟩
  | none => .fail

/-! ### Types -/

def scOf : Value → Sc
  | .int .u8 (.ofNat n) => bif Nat.ble 256 n then .any else .b8 (BitVec.ofNat 8 n)
  | .int .u32 (.ofNat n) => bif Nat.ble 4294967296 n then .any else .b32 (BitVec.ofNat 32 n)
  | .int .u64 (.ofNat n) => bif Nat.ble 18446744073709551616 n then .any else .b64 (BitVec.ofNat 64 n)
  | .int .i64 n => .i .i64 n
  | .int .i8 n => .i .i8 n
  | .int .i16 n => .i .i16 n
  | .int .i32 n => .i .i32 n
  | .int .u16 n => .i .u16 n
  | .bool b => .bool b
  | .pointer none => .nil
  | .slice none 0 0 => .nilSlice
  | .nilIface => .nilIface
  | _ => .any

def zeros (k : IntKind) : List Value → Bool
  | [] => true
  | .int k' (.ofNat 0) :: r => (k == k') && zeros k r
  | _ => false

/-- One segment for the cells of a field. -/
def chunk (vs : List Value) : Option Seg :=
  match vs with
  | [] => none
  | [v] => some (.s (scOf v))
  | v :: _ =>
    match v with
    | .int .u8 _ => bif zeros .u8 vs then some (.b8 vs.length (List.replicate vs.length 0)) else none
    | .int .u32 _ => bif zeros .u32 vs then some (.b32 vs.length (List.replicate vs.length 0)) else none
    | .int .i64 _ => bif zeros .i64 vs then some (.is vs.length (List.replicate vs.length 0)) else none
    | _ => none

def chunks : List Nat → List Value → Option (List Seg)
  | [], [] => some []
  | [], _ => none
  | n :: ns, vs =>
    match chunk (vs.take n), chunks ns (vs.drop n) with
    | some g, some gs => some (g :: gs)
    | _, _ => none

def tySize (P : Program) (t : TypeId) : Option Nat :=
  match P.info? t with
  | some i => some i.size
  | none => none

def tySizes (P : Program) (fs : List Field) : Option (List Nat) :=
  match fs with
  | [] => some []
  | f :: r =>
    match tySize P f.type, tySizes P r with
    | some n, some ns => some (n :: ns)
    | _, _ => none

/-- A type's zero value, cut by its fields. -/
def zeroSegs (P : Program) (t : TypeId) : Option (List Seg) :=
  match P.info? t with
  | none => none
  | some i =>
    match i.zero with
    | none => none
    | some z =>
      match P.underlying t with
      | some (.struct fs) =>
        match tySizes P fs.toList with
        | some ns => chunks ns z.cells.toList
        | none => none
      | some (.array _ _) => chunks [i.size] z.cells.toList
      | _ => chunks [1] z.cells.toList

/-- Is it a struct or an array; its size. -/
def tyAgg (P : Program) (t : TypeId) : Option (Bool × Nat) :=
  match P.info? t with
  | none => none
  | some i =>
    match P.underlying t with
    | some (.struct _) => some (true, i.size)
    | some (.array _ _) => some (true, i.size)
    | some _ => some (false, i.size)
    | none => none

def tyArr (P : Program) (t : TypeId) : Option (Nat × TypeId × Nat) :=
  match P.underlying t with
  | some (.array n e) =>
    match P.info? e with
    | some i => some (n, e, i.size)
    | none => none
  | _ => none

def tySlice (P : Program) (t : TypeId) : Option (TypeId × Nat) :=
  match P.underlying t with
  | some (.slice e) =>
    match P.info? e with
    | some i => some (e, i.size)
    | none => none
  | _ => none

/-! ### Numbers -/

def scInt : Sc → Option (IntKind × Int)
  | .i k n => some (k, n)
  | .si n => some (.i64, n)
  | .b8 x => some (.u8, (x.toNat : Int))
  | .b32 x => some (.u32, (x.toNat : Int))
  | .b64 x => some (.u64, (x.toNat : Int))
  | _ => none

def scNat (x : Sc) : Option Nat :=
  match scInt x with
  | some (_, .ofNat n) => some n
  | _ => none

/-- A number wrapped; one that is within an int's range as it is. -/
def wrapF (k : IntKind) (n : Int) : Int :=
  match k with
  | .i64 =>
    match n with
    | .ofNat m => bif Nat.ble 9223372036854775808 m then IntKind.i64.wrap (.ofNat m) else .ofNat m
    | .negSucc m => IntKind.i64.wrap (.negSucc m)
  | k => k.wrap n

def knownRes (op : BinOp) (k : IntKind) (a b : Int) : Option Int :=
  match op with
  | .add => some (wrapF k (a + b))
  | .sub => some (wrapF k (a - b))
  | .mul => some (wrapF k (a * b))
  | .and => some (wrapF k (BitVec.ofInt k.bits a &&& BitVec.ofInt k.bits b).toNat)
  | .or => some (wrapF k (BitVec.ofInt k.bits a ||| BitVec.ofInt k.bits b).toNat)
  | .xor => some (wrapF k (BitVec.ofInt k.bits a ^^^ BitVec.ofInt k.bits b).toNat)
  | .andNot => some (wrapF k (BitVec.ofInt k.bits a &&& ~~~(BitVec.ofInt k.bits b)).toNat)
  | .quo => match b with | .ofNat 0 => none | _ => some (wrapF k (a.tdiv b))
  | .rem => match b with | .ofNat 0 => none | _ => some (a.tmod b)
  | _ => none

def intRes (op : BinOp) (k : IntKind) (a b : Int) : Option Int :=
  match op with
  | .add => some (k.wrap (a + b))
  | .sub => some (k.wrap (a - b))
  | .mul => some (k.wrap (a * b))
  | .and => some (k.wrap (BitVec.ofInt k.bits a &&& BitVec.ofInt k.bits b).toNat)
  | .or => some (k.wrap (BitVec.ofInt k.bits a ||| BitVec.ofInt k.bits b).toNat)
  | .xor => some (k.wrap (BitVec.ofInt k.bits a ^^^ BitVec.ofInt k.bits b).toNat)
  | .andNot => some (k.wrap (BitVec.ofInt k.bits a &&& ~~~(BitVec.ofInt k.bits b)).toNat)
  | .quo => match b with | .ofNat 0 => none | _ => some (k.wrap (a.tdiv b))
  | .rem => match b with | .ofNat 0 => none | _ => some (a.tmod b)
  | _ => none

def bvRes {w : Nat} (op : BinOp) (x y : BitVec w) : Option (BitVec w) :=
  match op with
  | .add => some (x + y)
  | .sub => some (x - y)
  | .mul => some (x * y)
  | .and => some (x &&& y)
  | .or => some (x ||| y)
  | .xor => some (x ^^^ y)
  | .andNot => some (x &&& ~~~y)
  | .quo => match y.toNat with | 0 => none | _ => some (x / y)
  | .rem => match y.toNat with | 0 => none | _ => some (x % y)
  | _ => none

def shiftRes (op : BinOp) (x : Sc) (n : Nat) : Option Sc :=
  match op, x with
  | .shl, .i k a => some (.i k (wrapF k (a * ((2 ^ Nat.min n k.bits : Nat) : Int))))
  | .shr, .i k a => some (.i k (a.fdiv ((2 ^ Nat.min n k.bits : Nat) : Int)))
  | .shl, .si a => some (.si (IntKind.i64.wrap (a * ((2 ^ Nat.min n 64 : Nat) : Int))))
  | .shr, .si a => some (.si (a.fdiv ((2 ^ Nat.min n 64 : Nat) : Int)))
  | .shl, .b8 a => some (.b8 (a <<< n))
  | .shr, .b8 a => some (.b8 (a >>> n))
  | .shl, .b32 a => some (.b32 (a <<< n))
  | .shr, .b32 a => some (.b32 (a >>> n))
  | .shl, .b64 a => some (.b64 (a <<< n))
  | .shr, .b64 a => some (.b64 (a >>> n))
  | _, _ => none

def cmpRes (op : BinOp) (a b : Int) : Option Bool :=
  match op with
  | .eql => some (decide (a = b))
  | .neq => some (!decide (a = b))
  | .lss => some (decide (a < b))
  | .leq => some (decide (a ≤ b))
  | .gtr => some (decide (b < a))
  | .geq => some (decide (b ≤ a))
  | _ => none

def known : Sc → Bool
  | .i _ _ => true
  | _ => false

/-- A test's answer: reckoned, or taken for granted. -/
def answer (ans : Option Bool) (b : Bool) : Rd Out :=
  match ans with
  | none => .pure ⟨.s (.bool b), [], none, []⟩
  | some c => .pure ⟨.s (.bool c), [], none, [(b, c)]⟩

def binKnown (op : BinOp) (k : IntKind) (a b : Int) : Rd Out :=
  match cmpRes op a b with
  | some r => .pure ⟨.s (.bool r), [], none, []⟩
  | none => match knownRes op k a b with | some r => okS (.i k r) | none => .fail

def binBv {w : Nat} (ans : Option Bool) (op : BinOp) (mk : BitVec w → Sc) (x y : BitVec w) : Rd Out :=
  match cmpRes op (x.toNat : Int) (y.toNat : Int) with
  | some r => answer ans r
  | none => match bvRes op x y with | some r => okS (mk r) | none => .fail

def binSym (ans : Option Bool) (op : BinOp) (a b : Int) : Rd Out :=
  match cmpRes op a b with
  | some r => answer ans r
  | none => match intRes op .i64 a b with | some r => okS (.si r) | none => .fail

def isShift : BinOp → Bool
  | .shl => true
  | .shr => true
  | _ => false

def binInts (ans : Option Bool) (op : BinOp) (x y : Sc) : Rd Out :=
  bif isShift op then
    match scNat y with
    | some n => okSc (shiftRes op x n)
    | none => .fail
  else
    match x with
    | .i k a =>
      match y with
      | .i k' b => bif k == k' then binKnown op k a b else .fail
      | .si b => bif k == .i64 then binSym ans op a b else .fail
      | _ => .fail
    | .si a =>
      match y with
      | .i k b => bif k == .i64 then binSym ans op a b else .fail
      | .si b => binSym ans op a b
      | _ => .fail
    | .b8 x => match y with | .b8 y => binBv ans op .b8 x y | _ => .fail
    | .b32 x => match y with | .b32 y => binBv ans op .b32 x y | _ => .fail
    | .b64 x => match y with | .b64 y => binBv ans op .b64 x y | _ => .fail
    | _ => .fail

def neqB (op : BinOp) (b : Bool) : Option Bool :=
  match op with
  | .eql => some b
  | .neq => some (!b)
  | _ => none

def isPtrTy (P : Program) (t : TypeId) : Bool :=
  match P.underlying t with
  | some (.pointer _) => true
  | _ => false

def isBoolTy (P : Program) (t : TypeId) : Bool :=
  match P.underlying t with
  | some .bool => true
  | _ => false

def u8Arr (P : Program) (t : TypeId) : Option Nat :=
  match P.underlying t with
  | some (.array n e) =>
    match P.underlying e, P.info? e with
    | some (.int .u8), some i => bif Nat.beq i.size 1 && !(P.eqGuardType P.depth t) then some n else none
    | _, _ => none
  | _ => none

def abinA (K : Cx) (ans : Option Bool) (op : BinOp) (t : TypeId) (x y : List Seg) : Rd Out :=
  match x, y with
  | [.b8 n l], [.b8 m l'] =>
    match u8Arr K.P t with
    | some k =>
      bif Nat.beq n k && Nat.beq m k then
        match neqB op (decide (l = l')) with
        | some b => answer ans b
        | none => .fail
      else .fail
    | none => .fail
  | _, _ => .fail

def okBool (x : Option Bool) : Rd Out :=
  match x with
  | some b => okS (.bool b)
  | none => .fail

def abinS (K : Cx) (ans : Option Bool) (op : BinOp) (t : TypeId) (x y : Sc) : Rd Out :=
  match x with
  | .ptr _ _ => match y with | .nil => bif isPtrTy K.P t then okBool (neqB op false) else .fail | _ => .fail
  | .nil =>
    match y with
    | .ptr _ _ => bif isPtrTy K.P t then okBool (neqB op false) else .fail
    | .nil => bif isPtrTy K.P t then okBool (neqB op true) else .fail
    | _ => .fail
  | .bool a => match y with | .bool b => bif isBoolTy K.P t then okBool (neqB op (a == b)) else .fail | _ => .fail
  | x => binInts ans op x y

def abin (K : Cx) (ans : Option Bool) (op : BinOp) (t : TypeId) (x y : V) : Rd Out :=
  match x with
  | .s x => match y with | .s y => abinS K ans op t x y | _ => .fail
  | .a x => match y with | .a y => abinA K ans op t x y | _ => .fail
  | .t _ => .fail

def aun (op : UnOp) (x : V) : Rd Out :=
  match op, x with
  | .not, .s (.bool b) => okS (.bool (!b))
  | .neg, .s (.i k n) => okS (.i k (wrapF k (0 - n)))
  | .neg, .s (.si n) => okS (.si (IntKind.i64.wrap (0 - n)))
  | _, _ => .fail

def convRes (k : IntKind) (x : Sc) : Option Sc :=
  match k, x with
  | .u8, .b8 y => some (.b8 y)
  | .u8, .b32 y => some (.b8 (y.setWidth 8))
  | .u8, .b64 y => some (.b8 (y.setWidth 8))
  | .u8, .i _ n => some (.b8 (BitVec.ofInt 8 n))
  | .u8, .si n => some (.b8 (BitVec.ofInt 8 n))
  | .u32, .b8 y => some (.b32 (y.setWidth 32))
  | .u32, .b32 y => some (.b32 y)
  | .u32, .b64 y => some (.b32 (y.setWidth 32))
  | .u32, .i _ n => some (.b32 (BitVec.ofInt 32 n))
  | .u32, .si n => some (.b32 (BitVec.ofInt 32 n))
  | .u64, .b8 y => some (.b64 (y.setWidth 64))
  | .u64, .b32 y => some (.b64 (y.setWidth 64))
  | .u64, .b64 y => some (.b64 y)
  | .u64, .i _ n => some (.b64 (BitVec.ofInt 64 n))
  | .u64, .si n => some (.b64 (BitVec.ofInt 64 n))
  | .i64, .b8 y => some (.si (y.toNat : Int))
  | .i64, .b32 y => some (.si (y.toNat : Int))
  | .i64, .b64 y => some (.si (IntKind.i64.wrap (y.toNat : Int)))
  | .i64, .si n => some (.si (IntKind.i64.wrap n))
  | k, .i _ n => some (.i k (wrapF k n))
  | k, .b8 y => some (.i k (k.wrap (y.toNat : Int)))
  | _, _ => none

def aconv (K : Cx) (src dst : TypeId) (x : V) : Rd Out :=
  match K.P.underlying src, K.P.underlying dst, x with
  | some _, some (.int k), .s x => okSc (convRes k x)
  | _, _, _ => .fail

/-! ### Memory -/

def newB (fresh : Nat) (gs : List Seg) : Rd Out := .pure ⟨.s (.ptr fresh 0), [gs], none, []⟩

def segsOfV : V → Option (List Seg)
  | .s x => bif x.solid then some [.s x] else none
  | .a gs => bif solidSegs gs then some gs else none
  | .t _ => none

def abox (fresh : Nat) (x : V) : Rd Out :=
  match segsOfV x with
  | some gs => newB fresh gs
  | none => .fail

def aload (K : Cx) (t : TypeId) (x : V) : Rd Out :=
  match x with
  | .s (.ptr b off) =>
    match tyAgg K.P t with
    | some (true, n) => .read b fun blk => okSegs (getSegs blk.gs off n)
    | some (false, _) => .read b fun blk => okSc (getSc blk.gs off)
    | none => .fail
  | .s (.pix b off x) =>
    match tyAgg K.P t with
    | some (false, _) => .read b fun blk => okSc (getPix blk.gs off x)
    | _ => .fail
  | _ => .fail

def astore (K : Cx) (t : TypeId) (x y : V) : Rd Out :=
  match x, segsOfV y, tySize K.P t with
  | .s (.ptr b off), some (p :: ps), some n =>
    bif Nat.beq (segsSize (p :: ps)) n then
      .read b fun blk => bif blk.wr then
        match putSegs blk.gs off (p :: ps) with
        | some gs => .pure ⟨.s .undef, [], some (b, ⟨gs, true⟩), []⟩
        | none => .fail
      else .fail
    else .fail
  | _, _, _ => .fail

/-- A pointer into a row at a byte's place, as any pointer. -/
def unpix : V → V
  | .s (.pix b off x) => .s (.ptr b (off + x.toNat))
  | v => v

def aindexAddr (K : Cx) (t : TypeId) (x ix : V) : Rd Out :=
  match x, ix with
  | .s (.ptr b off), .s ix =>
    match tyArr K.P t with
    | some (n, _, sz) =>
      match ix with
      | .b8 i =>
        bif Nat.ble 256 n && Nat.beq sz 1 then okS (.pix b off i)
        else bif Nat.blt i.toNat n then okS (.ptr b (off + i.toNat * sz)) else .fail
      | ix => match scNat ix with
        | some i => bif Nat.blt i n then okS (.ptr b (off + i * sz)) else .fail
        | none => .fail
    | none => .fail
  | .s (.slice b off len _), .s ix =>
    match tySlice K.P t with
    | some (_, sz) =>
      match scNat ix with
      | some i => bif Nat.blt i len then okS (.ptr b (off + i * sz)) else .fail
      | none => .fail
    | none => .fail
  | .s (.osl b off len _), .s ix =>
    match tySlice K.P t with
    | some (_, sz) =>
      match scNat ix with
      | some i => bif Nat.blt i len then okS (.ptr b (off + i * sz)) else .fail
      | none => .fail
    | none => .fail
  | _, _ => .fail

def afieldAddr (K : Cx) (t : TypeId) (x : V) (f : Nat) : Rd Out :=
  match x, K.P.underlying t with
  | .s (.ptr b off), some (.struct fs) =>
    match fs[f]? with
    | some f =>
      match tySize K.P f.type with
      | some n => bif Nat.beq n 0 then .fail else okS (.ptr b (off + f.offset))
      | none => .fail
    | none => .fail
  | _, _ => .fail

def apart (K : Cx) (t : TypeId) (gs : List Seg) (off : Nat) : Rd Out :=
  match tyAgg K.P t with
  | some (true, n) => okSegs (getSegs gs off n)
  | some (false, _) => okSc (getSc gs off)
  | none => .fail

def aindex (K : Cx) (t : TypeId) (x ix : V) : Rd Out :=
  match x, ix with
  | .a gs, .s ix =>
    match tyArr K.P t with
    | some (n, e, sz) =>
      match ix with
      | .b8 i =>
        bif Nat.ble 256 n && Nat.beq sz 1 then
          match tyAgg K.P e with
          | some (false, _) => okSc (getPix gs 0 i)
          | _ => .fail
        else .fail
      | ix => match scNat ix with
        | some i => bif Nat.blt i n then apart K e gs (i * sz) else .fail
        | none => .fail
    | none => .fail
  | _, _ => .fail

def afield (K : Cx) (t : TypeId) (x : V) (f : Nat) : Rd Out :=
  match x, K.P.underlying t with
  | .a gs, some (.struct fs) =>
    match fs[f]? with
    | some f => apart K f.type gs f.offset
    | none => .fail
  | _, _ => .fail

def aextract (x : V) (i : Nat) : Rd Out :=
  match x with
  | .t l =>
    match l[i]? with
    | some (true, [.s x]) => okS x
    | some (false, gs) => okV (.a gs)
    | _ => .fail
  | _ => .fail

def capsOf (ev : Operand → V) : List Operand → Option (List (Nat × Nat))
  | [] => some []
  | x :: r =>
    match ev x, capsOf ev r with
    | .s (.ptr b o), some l => some ((b, o) :: l)
    | _, _ => none

def amakeFunc (ev : Operand → V) (fn : Fn) (first captured : Array Operand) : Rd Out :=
  match fn, first.toList, capsOf ev captured.toList with
  | .func f, [], some l => okS (.fn f l)
  | _, _, _ => .fail

/-- The bounds of a slice expression; all numbers known. -/
def bnd (ev : Operand → V) (x : Option Operand) (d : Nat) : Option Nat :=
  match x with
  | none => some d
  | some x =>
    match ev x with
    | .s x => scNat x
    | _ => none

def aslice (K : Cx) (ev : Operand → V) (t : TypeId) (x : V) (lo hi mx : Option Operand) : Rd Out :=
  match mx, x with
  | none, .s (.ptr b off) =>
    match tyArr K.P t with
    | some (n, _, sz) =>
      match bnd ev lo 0, bnd ev hi n with
      | some l, some h => bif Nat.ble l h && Nat.ble h n then okS (.slice b (bif Nat.beq n l then off else off + l * sz) (h - l) (n - l)) else .fail
      | _, _ => .fail
    | none => .fail
  | none, .s (.slice b off len cap) =>
    match tySlice K.P t with
    | some (_, sz) =>
      match bnd ev lo 0, bnd ev hi len with
      | some l, some h => bif Nat.ble l h && Nat.ble h cap then okS (.slice b (bif Nat.beq cap l then off else off + l * sz) (h - l) (cap - l)) else .fail
      | _, _ => .fail
    | none => .fail
  | none, .s (.osl b off len z) =>
    match tySlice K.P t with
    | some (_, sz) =>
      match bnd ev lo 0, bnd ev hi len with
      | some l, some h =>
        bif Nat.ble l h && Nat.ble h len && Nat.beq z sz then
          okS (bif Nat.blt l len then .osl b (off + l * sz) (h - l) sz else .empty)
        else .fail
      | _, _ => .fail
    | none => .fail
  | _, _ => .fail

def atoArr (K : Cx) (t : TypeId) (x : V) : Rd Out :=
  match x, tyArr K.P t with
  | .s (.slice b off len _), some (n, _, _) => bif Nat.ble n len then okS (.ptr b off) else .fail
  | .s (.osl b off len _), some (n, _, _) => bif Nat.ble n len then okS (.ptr b off) else .fail
  | _, _ => .fail

def afill (place : Nat → Option (Nat × Nat)) (ev : Operand → V) : List Seg → List (Nat × Operand) → Option (List Seg)
  | gs, [] => some gs
  | gs, (i, x) :: r =>
    match place i, segsOfV (ev x) with
    | some (off, size), some (p :: ps) =>
      bif Nat.beq (segsSize (p :: ps)) size then
        match putSegs gs off (p :: ps) with
        | some gs' => afill place ev gs' r
        | none => none
      else none
    | _, _ => none

def abuild (K : Cx) (ev : Operand → V) (t : TypeId) (parts : List (Nat × Operand)) : Rd Out :=
  match zeroSegs K.P t, K.P.underlying t with
  | some z, some (.struct fs) =>
    match tySizes K.P fs.toList with
    | some ns => okSegs (afill (fun i => match fs.toList[i]?, ns[i]? with | some f, some n => some (f.offset, n) | _, _ => none) ev z parts)
    | none => .fail
  | some z, some (.array _ e) =>
    match tySize K.P e with
    | some sz => okSegs (afill (fun i => some (i * sz, sz)) ev z parts)
    | none => .fail
  | _, _ => .fail

def zeroRow (n : Nat) : List Seg → Option Seg
  | [.s (.b8 _)] => some (.b8 n (List.replicate n 0))
  | [.s (.i .i64 _)] => some (.is n (List.replicate n 0))
  | [.b8 k _] => some (.b8 (n * k) (List.replicate (n * k) 0))
  | _ => none

/-- The zero of a slice's element: what the row that is laid leans on. -/
def zeroElemOk : List Seg → Bool
  | [.s (.b8 x)] => x.toNat == 0
  | [.s (.i _ x)] => x == 0
  | [.b8 k l] => l == List.replicate k 0
  | _ => false

def abuildSlice (K : Cx) (fresh : Nat) (ev : Operand → V) (t : TypeId) (len : Nat) (parts : List (Nat × Operand)) : Rd Out :=
  match tySlice K.P t with
  | some (e, sz) =>
    bif Nat.beq len 0 then
      match parts with
      | [] => .pure ⟨.s (.slice fresh 0 0 0), [[]], none, []⟩
      | _ => .fail
    else
    match zeroSegs K.P e with
    | some z =>
      bif Nat.ble (len * sz) 16777216 && !(Nat.beq (len * sz) 0) && zeroElemOk z && Nat.beq (segsSize z) sz then
        match zeroRow len z with
        | some g =>
          match afill (fun i => some (i * sz, sz)) ev [g] parts with
          | some gs => .pure ⟨.s (.slice fresh 0 len len), [gs], none, []⟩
          | none => .fail
        | none => .fail
      else .fail
    | none => .fail
  | none => .fail

def capArgs : List (Nat × Nat) → List V
  | [] => []
  | (b, o) :: r => .s (.ptr b o) :: capArgs r

def alen (x : V) : Rd Out :=
  match x with
  | .s (.slice _ _ n _) => okS (.i .i64 n)
  | .s (.osl _ _ n _) => okS (.i .i64 n)
  | .s .nilSlice => okS (.i .i64 0)
  | .s .empty => okS (.i .i64 0)
  | _ => .fail

def amax (mn : Bool) (x y : V) : Rd Out :=
  match x, y with
  | .s x, .s y =>
    match scInt x, scInt y with
    | some (.i64, a), some (.i64, b) =>
      let r := bif mn then (if b < a then b else a) else (if b > a then b else a)
      bif known x && known y then okS (.i .i64 r) else okS (.si r)
    | _, _ => .fail
  | _, _ => .fail

/-- A slice that is read: where, how many elements. -/
def srcOf : V → Option (Option (Nat × Nat) × Nat)
  | .s (.slice b off len _) => some (some (b, off), len)
  | .s (.osl b off len _) => some (some (b, off), len)
  | .s .nilSlice => some (none, 0)
  | .s .empty => some (none, 0)
  | _ => none

/-- The first n elements of a slice that is read, handed on. -/
def readSrc {α : Type} (x : Option (Nat × Nat)) (cells : Nat) (k : List Seg → Rd α) : Rd α :=
  bif Nat.beq cells 0 then k [] else
  match x with
  | some (b, off) => .read b fun blk =>
    match getSegs blk.gs off cells with
    | some gs => bif solidSegs gs then k gs else .fail
    | none => .fail
  | none => .fail

def acopyTo (b off : Nat) (n : Nat) (gs : List Seg) : Rd Out :=
  match gs with
  | [] => okS (.i .i64 n)
  | p :: ps => .read b fun dst =>
    bif dst.wr then
      match putSegs dst.gs off (p :: ps) with
      | some gs => .pure ⟨.s (.i .i64 n), [], some (b, ⟨gs, true⟩), []⟩
      | none => .fail
    else .fail

def acopy (K : Cx) (t : TypeId) (x y : V) : Rd Out :=
  match tySlice K.P t, srcOf y with
  | some (_, sz), some (src, len') =>
    match x with
    | .s (.slice b off len _) => readSrc src (Nat.min len' len * sz) (acopyTo b off (Nat.min len' len))
    | .s (.osl b off len _) => readSrc src (Nat.min len' len * sz) (acopyTo b off (Nat.min len' len))
    | .s .nilSlice => okS (.i .i64 0)
    | .s .empty => okS (.i .i64 0)
    | _ => .fail
  | _, _ => .fail

/-- Two rows side by side; bytes behind bytes as one. -/
def joinSegs : List Seg → List Seg → List Seg
  | [], hs => hs
  | [.b8 n l], .b8 k l' :: hs => .b8 (n + k) (l ++ l') :: hs
  | [.is n l], .is k l' :: hs => .is (n + k) (l ++ l') :: hs
  | [.is n l], .s (.i .i64 x) :: hs => .is (n + 1) (l ++ [x]) :: hs
  | [.is n l], .s (.si x) :: hs => .is (n + 1) (l ++ [x]) :: hs
  | [.s (.si y)], .s (.si x) :: hs => .is 2 [y, x] :: hs
  | [.s (.si y)], .s (.i .i64 x) :: hs => .is 2 [y, x] :: hs
  | [.b8 n l], .s (.b8 x) :: hs => .b8 (n + 1) (l ++ [x]) :: hs
  | g :: gs, hs => g :: joinSegs gs hs

/-- What is appended to. -/
inductive Dst where
  | none
  | known (b off len cap : Nat)
  | free (b off len : Nat)

def dstOf (sz : Nat) : V → Option Dst
  | .s .nilSlice => some .none
  | .s (.slice b off len cap) => some (.known b off len cap)
  | .s (.osl b off len z) => bif Nat.beq z sz then some (.free b off len) else none
  | _ => none

def appendLimit : Nat := 1000000

/-- A row that was made anew: the old elements and the new ones. -/
def appendNew (fresh sz len : Nat) (kill : Option (Nat × Blk)) (old new : List Seg) : Rd Out :=
  .pure ⟨.s (.osl fresh 0 len sz), [joinSegs old new], kill, []⟩

/-- The cells before off, and the n from there on. -/
def halves (gs : List Seg) (off n : Nat) : Option (List Seg × List Seg) :=
  bif Nat.beq off 0 then some ([], gs) else
  match getSegs gs 0 off, getSegs gs off n with
  | some pre, some old => some (pre, old)
  | _, _ => none

def appendNone (x : V) : Rd Out :=
  match x with
  | .s .nilSlice => okV x
  | .s .empty => okV x
  | .s (.osl _ _ _ _) => okV x
  | .s (.slice _ _ len cap) => bif Nat.ble len cap then okV x else .fail
  | _ => .fail

def aappend (K : Cx) (fresh : Nat) (t : TypeId) (x y : V) : Rd Out :=
  match tySlice K.P t, srcOf y with
  | some (e, sz), some (src, k) =>
    bif Nat.beq k 0 then appendNone x else
    match K.P.info? e, dstOf sz x with
    | some i, some d =>
      match i.zero with
      | none => .fail
      | some zv =>
      bif Nat.ble i.bytes 64 && !(Nat.beq sz 0) && Nat.beq zv.cells.size sz then
        match d with
        | .none => bif Nat.ble k appendLimit then readSrc src (k * sz) fun new => appendNew fresh sz k none [] new else .fail
        | .known b off len cap =>
          bif Nat.ble (len + k) appendLimit then
            bif Nat.ble (len + k) cap then
              readSrc src (k * sz) fun new =>
                match new with
                | [] => .fail
                | p :: ps => .read b fun blk => bif blk.wr then
                  match putSegs blk.gs (off + len * sz) (p :: ps) with
                  | some gs => .pure ⟨.s (.slice b off (len + k) cap), [], some (b, ⟨gs, true⟩), []⟩
                  | none => .fail
                  else .fail
            else readSrc (some (b, off)) (len * sz) fun old => readSrc src (k * sz) fun new => appendNew fresh sz (len + k) none old new
          else .fail
        | .free b off len =>
          bif Nat.ble (len + k) appendLimit then
            .read b fun blk =>
              match halves blk.gs off (len * sz) with
              | some (pre, old) =>
                bif blk.wr && Nat.beq (segsSize blk.gs) (off + len * sz) && solidSegs old then
                  readSrc src (k * sz) fun new => appendNew fresh sz (len + k) (some (b, ⟨pre, false⟩)) old new
                else .fail
              | none => .fail
          else .fail
      else .fail
    | _, _ => .fail
  | _, _ => .fail

def abuiltin (K : Cx) (fresh : Nat) (b : Builtin) (argTypes : List TypeId) (args : List V) : Rd Out :=
  match b, argTypes, args with
  | .len, t :: _, [x] => match tySlice K.P t with | some _ => alen x | none => .fail
  | .max, _, [x, y] => amax false x y
  | .min, _, [x, y] => amax true x y
  | .copy, t :: _, [x, y] => acopy K t x y
  | .append, t :: t' :: _, [x, y] => (match tySlice K.P t' with | some _ => aappend K fresh t x y | none => .fail)
  | _, _, _ => .fail

def rdOut (ob : List (Bool × Bool)) : Rd (V × List (List Seg)) → Rd Out
  | .pure (v, news) => .pure ⟨v, news, none, ob⟩
  | .read id k => .read id fun b => rdOut ob (k b)
  | .fail => .fail

def acall (K : Cx) (fresh : Nat) (ev : Operand → V) (c : Call) : Rd Out :=
  match c.callee with
  | .value f =>
    match ev f with
    | .s (.fn n caps) =>
      rdOut (K.obl n (c.args.toList.map ev ++ capArgs caps)) (K.env n (c.args.toList.map ev ++ capArgs caps) fresh)
    | _ => .fail
  | .builtin b => abuiltin K fresh b c.argTypes.toList (c.args.toList.map ev)
  | _ => .fail

def amakeIface (K : Cx) (t : TypeId) (x : V) : Rd Out :=
  match x with
  | .s x =>
    match K.P.underlying t, scInt x with
    | some (.int _), some (k, n) => okS (.iface t k n)
    | _, _ => .fail
  | _ => .fail

def aop (K : Cx) (ans : Option Bool) (fresh : Nat) (ev : Operand → V) (o : Oper) : Rd Out :=
  match o.op with
  | .move x => okV (ev x)
  | .assign x => okV (ev x)
  | .pick c a b => match ev c with | .s (.bool t) => okV (bif t then ev a else ev b) | _ => .fail
  | .alloc t => match zeroSegs K.P t with | some gs => newB fresh gs | none => .fail
  | .box _ x => abox fresh (ev x)
  | .load t x => aload K t (ev x)
  | .store t x y => astore K t (unpix (ev x)) (ev y)
  | .nilCheck x => match ev x with | .s (.ptr b o) => okS (.ptr b o) | _ => .fail
  | .binOp op t x y _ => abin K ans op t (ev x) (ev y)
  | .unOp op _ x => aun op (ev x)
  | .convert s d x => aconv K s d (ev x)
  | .makeFunc fn first captured => amakeFunc ev fn first captured
  | .slice t x lo hi mx => aslice K ev t (ev x) lo hi mx
  | .sliceToArrayPointer t x => atoArr K t (ev x)
  | .fieldAddr t x f => afieldAddr K t (ev x) f
  | .field t x f => afield K t (ev x) f
  | .indexAddr t x ix => aindexAddr K t (ev x) (ev ix)
  | .index t x ix => aindex K t (ev x) (ev ix)
  | .extract x i => aextract (ev x) i
  | .build t parts => abuild K ev t parts.toList
  | .buildSlice t len parts => abuildSlice K fresh ev t len parts.toList
  | .makeInterface t x => amakeIface K t (ev x)
  | .call c => acall K fresh ev c
  | _ => .fail

/-! ### Frames, memory, regions -/

def getL {α : Type} (d : α) (l : List α) (n : Nat) : α := nth d l n

/-- Set, the list made longer where it must be. -/
def padSet {α : Type} : List (Option α) → Nat → α → List (Option α)
  | [], 0, y => [some y]
  | [], n + 1, y => none :: padSet [] n y
  | _ :: r, 0, y => some y :: r
  | x :: r, n + 1, y => x :: padSet r n y

/-- The slots: a tree; slot 0 at the root, the odd ones on the left. -/
inductive Fr where
  | nil
  | node (l : Fr) (v : V) (r : Fr)

def Fr.get (f : Fr) : Nat → V :=
  Fr.rec (motive := fun _ => Nat → V) (fun _ => .s .any) (fun _ v _ gl gr i => bif Nat.beq i 0 then v else bif Nat.beq (i % 2) 1 then gl (i / 2) else gr (i / 2 - 1)) f

theorem Fr.get_nil (i : Nat) : Fr.nil.get i = .s .any := rfl
theorem Fr.get_node (l : Fr) (v : V) (r : Fr) (i : Nat) : (Fr.node l v r).get i = bif Nat.beq i 0 then v else bif Nat.beq (i % 2) 1 then l.get (i / 2) else r.get (i / 2 - 1) := rfl

def Fr.set (f : Fr) : Nat → V → Fr :=
  Fr.rec (motive := fun _ => Nat → V → Fr) (fun _ _ => .nil)
    (fun l v r sl sr i y => bif Nat.beq i 0 then .node l y r else bif Nat.beq (i % 2) 1 then .node (sl (i / 2) y) v r else .node l v (sr (i / 2 - 1) y)) f

theorem Fr.set_nil (i : Nat) (y : V) : Fr.nil.set i y = .nil := rfl
theorem Fr.set_node (l : Fr) (v : V) (r : Fr) (i : Nat) (y : V) : (Fr.node l v r).set i y =
    bif Nat.beq i 0 then .node l y r else bif Nat.beq (i % 2) 1 then .node (l.set (i / 2) y) v r else .node l v (r.set (i / 2 - 1) y) := rfl

/-- A tree of n slots. -/
def Fr.full : Nat → Nat → Fr
  | 0, _ => .nil
  | f + 1, n => bif Nat.beq n 0 then .nil else .node (Fr.full f (n / 2)) (.s .undef) (Fr.full f ((n - 1) / 2))

def Fr.ofArgs (f : Fr) : Nat → List V → Fr
  | _, [] => f
  | i, x :: r => Fr.ofArgs (f.set i x) (i + 1) r

structure St where
  fr : Fr
  n : Nat
  mem : List (Option Blk)
  orc : List (Option Bool)
  obs : List (Bool × Bool)

def evL (fr : Fr) : Operand → V
  | .tmp t => fr.get t
  | .const v => .s (scOf v)
  | .global _ => .s .any
  | .func f => .s (.fn f [])

def memL (mem : List (Option Blk)) (i : Nat) : Option Blk := getL none mem i

def layNews (mem : List (Option Blk)) (fresh : Nat) : List (List Seg) → List (Option Blk)
  | [] => mem
  | gs :: r => layNews (padSet mem fresh ⟨gs, true⟩) (fresh + 1) r

def layWr (mem : List (Option Blk)) : Option (Nat × Blk) → List (Option Blk)
  | none => mem
  | some (b, x) => padSet mem b x

/-- Is the operation to be carried out? -/
def guardL (ops : List Oper) (fr : Fr) (o : Oper) : Option Bool :=
  match o.guard with
  | none => some true
  | some (j, want) =>
    match getL none (ops.map some) j with
    | none => none
    | some oj =>
      match oj.dst with
      | none => none
      | some d =>
        match fr.get d with
        | .s (.bool b) => some (b == want)
        | .s .undef => some false
        | _ => none

/-- Does the operation take a test's answer? -/
def asksB (fr : Fr) (o : Oper) : Bool :=
  match o.op with
  | .binOp op _ x y _ =>
    (match op with | .eql => true | .neq => true | .lss => true | .leq => true | .gtr => true | .geq => true | _ => false) &&
    (match evL fr x, evL fr y with
     | .a _, .a _ => true
     | .s x, .s y =>
       match scInt x, scInt y with
       | some _, some _ => !(known x && known y)
       | _, _ => false
     | _, _ => false)
  | _ => false

structure Info where
  i : Nat
  run : Bool
  ans : Option Bool
  fresh : Nat
  out : Out
  fp : List Nat

def putL (fr : Fr) (dst : Option Tmp) (v : V) : Fr :=
  match dst with
  | none => fr
  | some d => fr.set d v

/-- Is there such a slot in the tree? -/
def Fr.has : Fr → Nat → Bool
  | .nil, _ => false
  | .node l _ r, i => bif Nat.beq i 0 then true else bif Nat.beq (i % 2) 1 then l.has (i / 2) else r.has (i / 2 - 1)

def dstOk (n : Nat) (dst : Option Tmp) : Bool :=
  match dst with
  | none => true
  | some d => Nat.ble (d + 1) n

/-- One operation of a region. -/
def astep (K : Cx) (ops : List Oper) (i : Nat) (o : Oper) (s : St) : Option (Info × St) :=
  bif dstOk s.n o.dst then
    match guardL ops s.fr o with
    | none => none
    | some false => some (⟨i, false, none, 0, ⟨.s .undef, [], none, []⟩, []⟩, { s with fr := putL s.fr o.dst (.s .undef) })
    | some true =>
      let asks := asksB s.fr o
      let ans : Option Bool := bif asks then (match s.orc with | a :: _ => a | [] => none) else none
      let orc := bif asks then s.orc.tail else s.orc
      let fresh := s.mem.length
      match (aop K ans fresh (evL s.fr) o).run (memL s.mem) with
      | none => none
      | some (out, fp) =>
        some (⟨i, true, ans, fresh, out, fp⟩,
          { fr := putL s.fr o.dst out.v, n := s.n, mem := layNews (layWr s.mem out.wr) fresh out.news, orc, obs := out.obs ++ s.obs })
  else none

/-- The region's operations, in the order of the text. -/
def aops (K : Cx) (ops : List Oper) : Nat → List Oper → St → Option (List Info × St)
  | _, [], s => some ([], s)
  | i, o :: r, s =>
    match astep K ops i o s with
    | none => none
    | some (x, s') =>
      match aops K ops (i + 1) r s' with
      | none => none
      | some (xs, s'') => some (x :: xs, s'')

/-! #### May two operations change places? -/

def memB (l : List Nat) (x : Nat) : Bool := l.any (Nat.beq x)

def Info.lays (x : Info) : List Nat :=
  (match x.out.wr with | some (b, _) => [b] | none => []) ++ (List.range x.out.news.length).map (x.fresh + ·)

def disjB (a b : List Nat) : Bool := a.all fun x => !(memB b x)

def freeB (x y : Info) : Bool :=
  disjB x.lays y.fp && disjB x.lays y.lays && disjB y.lays x.fp

/-- A list, each number once. -/
def uniqGo : Nat → List Nat → List Nat
  | _, [] => []
  | m, x :: r => bif Nat.beq (m / 2 ^ x % 2) 1 then uniqGo m r else x :: uniqGo (m + 2 ^ x) r

/-- The operations that each waits for, straight or through others. -/
def waitsL : List Oper → List (List Nat) → List (List Nat)
  | [], acc => acc
  | o :: r, acc =>
    let ds := o.after.toList.filter (Region.binds .any ·) |>.map (·.on)
    waitsL r (acc ++ [uniqGo 0 (ds ++ ds.flatMap fun d => getL [] acc d)])

def pairOk (ops : Array Oper) (ws : List (List Nat)) (x y : Info) : Bool :=
  memB (getL [] ws y.i) x.i ||
    (freeB x y && (match ops[x.i]?, ops[y.i]? with | some a, some b => a.apart ops b | _, _ => false))

def pairsOk (ops : Array Oper) (ws : List (List Nat)) : List Info → Bool
  | [] => true
  | x :: r => r.all (pairOk ops ws x) && pairsOk ops ws r

/-- Each operation waits for earlier ones alone. -/
def edgesB : Nat → List Oper → Bool
  | _, [] => true
  | i, o :: r => (o.after.toList.all fun e => !(Region.binds .any e) || Nat.blt e.on i) && edgesB (i + 1) r

def aregion (K : Cx) (ops : Array Oper) (draw : Bool) (s : St) : Option St :=
  match aops K ops.toList 0 ops.toList s with
  | none => none
  | some (xs, s') =>
    bif draw then (bif pairsOk ops (waitsL ops.toList []) xs && edgesB 0 ops.toList then some s' else none) else some s'

/-! ### Code -/

inductive Ex where
  | normal
  | exit (id : Nat)
  | ret

def aloop (body : St → Option (Ex × St)) : Nat → St → Option (Ex × St)
  | 0, _ => none
  | n + 1, s =>
    match body s with
    | some (.normal, s') => aloop body n s'
    | r => r

def acode (K : Cx) (fuel : Nat) : Code → St → Option (Ex × St)
  | .skip, s => some (.normal, s)
  | .label _, s => some (.normal, s)
  | .region _ ops draw, s =>
    match aregion K ops draw s with
    | some s' => some (.normal, s')
    | none => none
  | .seq a b, s =>
    match acode K fuel a s with
    | some (.normal, s') => acode K fuel b s'
    | r => r
  | .cond c a b, s =>
    match evL s.fr c with
    | .s (.bool true) => acode K fuel a s
    | .s (.bool false) => acode K fuel b s
    | _ => none
  | .block id a, s =>
    match acode K fuel a s with
    | some (.exit id', s') => bif Nat.beq id' id then some (.normal, s') else some (.exit id', s')
    | r => r
  | .loop a, s => aloop (acode K fuel a) fuel s
  | .scope a, s => acode K fuel a s
  | .exit id, s => some (.exit id, s)
  | .ret, s => some (.ret, s)
  | _, _ => none

def aresult (K : Cx) (s : St) : ResultVar → Option (Bool × List Seg)
  | .tmp t =>
    match s.fr.get t with
    | .s x => some (true, [.s x])
    | .a gs => some (false, gs)
    | .t _ => none
  | .cell a t =>
    match s.fr.get a, tyAgg K.P t with
    | .s (.ptr b off), some (true, n) =>
      match memL s.mem b with
      | some blk => match getSegs blk.gs off n with | some gs => some (false, gs) | none => none
      | none => none
    | .s (.ptr b off), some (false, _) =>
      match memL s.mem b with
      | some blk => match getSc blk.gs off with | some x => some (true, [.s x]) | none => none
      | none => none
    | _, _ => none

def aresultsL (K : Cx) (s : St) : List ResultVar → Option (List (Bool × List Seg))
  | [] => some []
  | r :: rs =>
    match aresult K s r, aresultsL K s rs with
    | some x, some xs => some (x :: xs)
    | _, _ => none

def aresults (K : Cx) (s : St) (rs : List ResultVar) : Option V :=
  match aresultsL K s rs with
  | some [(true, [.s x])] => some (.s x)
  | some [(false, gs)] => some (.a gs)
  | some [_] => none
  | some l => some (.t l)
  | none => none

/-- A call of a function with a body: arguments, the blocks that they point to, the tests' answers. -/
def afunc (K : Cx) (fuel : Nat) (fn : Func) (args : List V) (mem : List (Option Blk)) (orc : List (Option Bool)) : Option (V × St) :=
  match fn.body with
  | none => none
  | some c =>
    match acode K fuel c { fr := (Fr.full 12 fn.ntmps).ofArgs 0 args, n := fn.ntmps, mem, orc, obs := [] } with
    | some (.normal, s) => match aresults K s fn.results.toList with | some v => some (v, s) | none => none
    | some (.ret, s) => match aresults K s fn.results.toList with | some v => some (v, s) | none => none
    | _ => none
end
end Go.Mo
