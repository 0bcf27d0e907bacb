/- The abstract interpreter: a small language of operations, its compiler out of the model's code, and what it comes to. -/
import Derived.Test.YtmmlolampgnamaaDoorAx0
import Derived.Laws.Cover4
import Derived.Laws.BytesArg
namespace Go.Proofs.YtmmlolampgnamaaDoor.Ax
open Go.RowKit

/-- Arguments and answers between calls. -/
inductive A where
  | c (x : D)
  | agg (l : List D)
  deriving Inhabited
inductive Rc where
  | d (x : D)
  | new (E : Nat) (rows : List (List D))
  | nil
  deriving Inhabited
inductive RR where
  | c (x : Rc)
  | agg (l : List Rc)
  | tup (l : List (Sum Rc (List Rc)))
  deriving Inhabited

/-- What a cell holds, by its type: no more than a hint. -/
inductive Kd where
  | int (k : IntKind)
  | bool
  | str
  | sl
  | raw
  deriving Inhabited

inductive AOp where
  | mov (x : Operand)
  | pick (c a b : Operand)
  | alloc (z : List Cl)
  | box (x : Operand)
  | build (z : List Cl) (parts : List (Nat × Nat × Operand))
  | bslice (z : List Cl) (len : Nat) (parts : List (Nat × Operand))
  | load (n : Option Nat) (sh : List Kd) (x : Operand)
  | store (n : Nat) (p x : Operand)
  | nilchk (x : Operand)
  | bin (op : BinOp) (x y : Operand)
  | binB (neg : Bool) (x y : Operand)
  | eqs (neg : Bool) (n : Nat) (fs : List (Nat × Nat)) (x y : Operand)
  | un (op : UnOp) (x : Operand)
  | cint (k : IntKind) (x : Operand)
  | mkslice (z : List Cl) (bytes : Nat) (l c : Operand)
  | slice (x : Operand) (lo hi : Option Operand) (E : Nat)
  | sliceS (x : Operand) (lo hi : Option Operand)
  | sliceA (n E : Nat) (x : Operand) (hi mx : Operand)
  | faddr (off : Nat) (x : Operand)
  | field (off : Nat) (n : Option Nat) (x : Operand)
  | iaddrA (len E : Nat) (x i : Operand)
  | iaddrS (E : Nat) (x i : Operand)
  | idxS (x i : Operand)
  | idxA (len E : Nat) (n : Option Nat) (x i : Operand)
  | iter (x : Operand)
  | next (x : Operand)
  | ofRune (x : Operand)
  | ofRunes (x : Operand)
  | ofBytes (x : Operand)
  | toBytes (x : Operand)
  | len (x : Operand)
  | lenS (x : Operand)
  | lenA (n : Nat)
  | minmax (mx : Bool) (x : Operand) (xs : List Operand)
  | append (E bytes : Nat) (x y : Operand)
  | call (f : Operand) (args : List Operand)
  | extract (x : Operand) (i : Nat)
  | mkfn (f : FuncId) (caps : List Operand)
  deriving Inhabited

structure AInst where
  dst : Option Nat
  guard : Option (Option Nat × Bool)
  op : AOp
  tag : Nat
  deriving Inhabited

def ofVal : Value → Option Cl
  | .int k n => some (.d (.int k n))
  | .bool b => some (.d (.bool b))
  | .string s => some (.d (.str s))
  | .slice none 0 0 => some .nil
  | .pointer none => some (.d .nilp)
  | .nilFunc => some (.d .nilf)
  | _ => none

def mapO {α β : Type} (f : α → Option β) : List α → Option (List β)
  | [] => some []
  | x :: xs => match f x, mapO f xs with
    | some y, some ys => some (y :: ys)
    | _, _ => none

def zeroC (P : Program) (t : TypeId) : Option (List Cl) :=
  match P.info? t with
  | some i => match i.zero with
    | some v => mapO ofVal v.cells.toList
    | none => none
  | none => none

/-- none: no such type; some none: one cell; some (some n): n cells, as one value. -/
def shapeOf (P : Program) (t : TypeId) : Option (Option Nat) :=
  match P.underlying t, P.info? t with
  | some (.struct _), some i => some (some i.size)
  | some (.array _ _), some i => some (some i.size)
  | some _, some _ => some none
  | _, _ => none

def sizeIn (P : Program) (t : TypeId) : Option Nat := (P.info? t).map (·.size)

/-- The cells of a struct's scalars that are compared, one behind the other. -/
def eqCells (P : Program) : Nat → TypeId → Nat → Option (List (Nat × Nat))
  | 0, _, _ => none
  | d + 1, t, off =>
    match P.underlying t with
    | some .bool => some [(off, 0)]
    | some (.int _) => some [(off, 1)]
    | some .string => some [(off, 2)]
    | some (.struct fs) =>
      match sizeIn P t with
      | some n => if P.stoodInHeld t = false then (mapO (fun (f : Field) => match sizeIn P f.type with
          | some k => if f.name ≠ "_" ∧ f.offset + k ≤ n ∧ 0 < k then eqCells P d f.type (off + f.offset) else none
          | none => none) fs.toList).map List.flatten else none
      | none => none
    | some (.array len e) =>
      match sizeIn P t, sizeIn P e with
      | some n, some k => if len * k = n ∧ 0 < k then (mapO (fun i => eqCells P d e (off + i * k)) (List.range len)).map List.flatten else none
      | _, _ => none
    | _ => none

def kindsOf (P : Program) : Nat → TypeId → List Kd
  | 0, _ => []
  | d + 1, t => match P.underlying t with
    | some (.int k) => [.int k]
    | some .bool => [.bool]
    | some .string => [.str]
    | some (.slice _) => [.sl]
    | some (.struct fs) => fs.toList.flatMap fun f => kindsOf P d f.type
    | some (.array n e) => (List.replicate n (kindsOf P d e)).flatten
    | _ => [.raw]

def comp (P : Program) (o : Oper) : Option AOp :=
  match o.op with
  | .move x => some (.mov x)
  | .assign x => some (.mov x)
  | .pick c a b => some (.pick c a b)
  | .alloc t => (zeroC P t).map .alloc
  | .box _ x => some (.box x)
  | .build t parts =>
    match zeroC P t, P.underlying t with
    | some z, some (.struct fs) => match fs.toList.mapM (fun f => (P.info? f.type).map fun i => (f.offset, i.size)) with
      | some places => (mapO (fun (p : Nat × Operand) => (places[p.1]?).map fun q => (q.1, q.2, p.2)) parts.toList).map (.build z)
      | none => none
    | some z, some (.array _ e) => match P.info? e with
      | some ie => some (.build z (parts.toList.map fun p => (p.1 * ie.size, ie.size, p.2)))
      | none => none
    | _, _ => none
  | .buildSlice t len parts =>
    match P.underlying t with
    | some (.slice e) => match zeroC P e, sizeIn P e with
      | some z, some n => if z.length = n ∧ 0 < n ∧ len * n ≤ 16777216 then some (.bslice z len parts.toList) else none
      | _, _ => none
    | _ => none
  | .load t x => (shapeOf P t).map fun n => .load n (kindsOf P 20 t) x
  | .store t p x => (sizeIn P t).map fun n => .store n p x
  | .nilCheck x => some (.nilchk x)
  | .binOp op t x y _ =>
    match P.underlying t with
    | some (.struct _) => if P.eqGuardType P.depth t = false then match op, eqCells P 20 t 0, sizeIn P t with
      | .eql, some l, some n => some (.eqs false n l x y)
      | .neq, some l, some n => some (.eqs true n l x y)
      | _, _, _ => none else none
    | some (.array _ _) => if P.eqGuardType P.depth t = false then match op, eqCells P 20 t 0, sizeIn P t with
      | .eql, some l, some n => some (.eqs false n l x y)
      | .neq, some l, some n => some (.eqs true n l x y)
      | _, _, _ => none else none
    | some (.int _) | some .string => some (.bin op x y)
    | some .bool => match op with
      | .eql => some (.binB false x y)
      | .neq => some (.binB true x y)
      | _ => none
    | _ => none
  | .unOp op _ x => some (.un op x)
  | .convert src dst x =>
    match P.underlying src, P.underlying dst with
    | some (.int _), some (.int k) => some (.cint k x)
    | some (.int _), some .string => some (.ofRune x)
    | some (.slice u), some .string => match P.underlying u with
      | some (.int .i32) => some (.ofRunes x)
      | some (.int .u8) => some (.ofBytes x)
      | _ => none
    | some .string, some (.slice u) => match P.underlying u with
      | some (.int .u8) => some (.toBytes x)
      | _ => none
    | _, _ => none
  | .makeSlice t l c =>
    match P.underlying t with
    | some (.slice e) => match zeroC P e, P.info? e with
      | some z, some i => if z.length = i.size ∧ 0 < i.size then some (.mkslice z i.bytes l c) else none
      | _, _ => none
    | _ => none
  | .slice t x lo hi mx =>
    match P.underlying t with
    | some (.slice e) => match mx, P.info? e with
      | none, some i => some (.slice x lo hi i.size)
      | _, _ => none
    | some .string => match mx with
      | none => some (.sliceS x lo hi)
      | _ => none
    | some (.array n e) => match lo, hi, mx, sizeIn P e with
      | none, some h, some m, some E => if E = 1 then some (.sliceA n E x h m) else none
      | _, _, _, _ => none
    | _ => none
  | .fieldAddr t x f =>
    match P.underlying t with
    | some (.struct fs) => match fs[f]? with
      | some fd => match sizeIn P fd.type with
        | some n => if n ≠ 0 then some (.faddr fd.offset x) else none
        | none => none
      | none => none
    | _ => none
  | .field t x f =>
    match P.underlying t with
    | some (.struct fs) => match fs[f]? with
      | some fd => (shapeOf P fd.type).map fun n => .field fd.offset n x
      | none => none
    | _ => none
  | .indexAddr t x i =>
    match P.underlying t with
    | some (.array n e) => (sizeIn P e).map fun E => .iaddrA n E x i
    | some (.slice e) => match sizeIn P e with
      | some E => if 0 < E then some (.iaddrS E x i) else none
      | none => none
    | _ => none
  | .index t x i =>
    match P.underlying t with
    | some .string => some (.idxS x i)
    | some (.array len e) => match shapeOf P e, sizeIn P e with
      | some n, some E => if 0 < E then some (.idxA len E n x i) else none
      | _, _ => none
    | _ => none
  | .range t x =>
    match P.underlying t with
    | some .string => some (.iter x)
    | _ => none
  | .next x true => some (.next x)
  | .extract x i => some (.extract x i)
  | .makeFunc (.func f) first caps => if first.size = 0 then some (.mkfn f caps.toList) else none
  | .call c =>
    match c.callee with
    | .value f => some (.call f c.args.toList)
    | .builtin .len => match c.args.toList, c.argTypes[0]? with
      | [x], some t => match P.underlying t with
        | some (.slice _) => some (.len x)
        | some .string => some (.lenS x)
        | some (.array n _) => some (.lenA n)
        | _ => none
      | _, _ => none
    | .builtin .max => match c.args.toList with
      | x :: xs => some (.minmax true x xs)
      | _ => none
    | .builtin .min => match c.args.toList with
      | x :: xs => some (.minmax false x xs)
      | _ => none
    | .builtin .append => match c.args.toList, c.argTypes.toList with
      | [x, y], t :: u :: _ => match P.underlying t, P.underlying u with
        | some (.slice e), some (.slice _) => match P.info? e with
          | some i => if 0 < i.size ∧ (i.zero.map fun v => v.cells.size) = some i.size then some (.append i.size i.bytes x y) else none
          | none => none
        | _, _ => none
      | _, _ => none
    | _ => none
  | _ => none

structure Ef where
  v : AV
  up : List (Nat × Blk)
  rd : List Nat

structure Cx where
  off : Nat
  call : FuncId → List A → Option RR
  calli : FuncId → List AV → List (Nat × Blk) → Option (AV × List (Nat × Blk))
  inl : FuncId → Bool
  /-- Closures that hand a slice's rows on, the last one first; what a row is. -/
  back : FuncId → Option (Option Nat × List Kd) := fun _ => none
  /-- Variables that are never written: they lie still from the beginning on. -/
  fz : List Nat := []

def cellsOf : AV → Option (List Cl)
  | .c x => some [x]
  | .agg cs => some cs
  | .tup _ => none

def genOf (lk : Nat → Option Blk) (t : Nat) : Nat := match lk t with | some b => b.g | none => 0

/-- The rows that a slice of the call's own holds. -/
def rowsOf (lk : Nat → Option Blk) (t g : Nat) : Option (Bool × Nat × List (List D)) :=
  match lk t with
  | some ⟨g', fz, .arr E rows⟩ => if g' = g then some (fz, E, rows) else none
  | _ => none

/-- A cell as data: what it is, and which rows it leans on. -/
def dOf (lk : Nat → Option Blk) : Cl → Option (D × List Nat)
  | .d x => some (x, [])
  | .nil => some (.sl [], [])
  | .clip rows => some (.sl rows, [])
  | .own t g _ => match rowsOf lk t g with
    | some (_, _, rows) => some (.sl rows, [t])
    | none => none
  | _ => none
def dsOf (lk : Nat → Option Blk) : List Cl → Option (List D × List Nat)
  | [] => some ([], [])
  | x :: xs => match dOf lk x, dsOf lk xs with
    | some (y, l), some (ys, ls) => some (y :: ys, l ++ ls)
    | _, _ => none
def freeze (lk : Nat → Option Blk) : List Nat → List (Nat × Blk)
  | [] => []
  | t :: ts => match lk t with
    | some b => (t, ⟨b.g, true, b.k⟩) :: freeze lk ts
    | none => freeze lk ts

def splice {α : Type} (l : List α) (i : Nat) (xs : List α) : List α := l.take i ++ xs ++ l.drop (i + xs.length)

def Cl.told : Cl → Bool
  | .undef => false
  | _ => true

def fillC : List Cl → List (Nat × Nat × AV) → Option (List Cl)
  | cs, [] => some cs
  | cs, (off, n, v) :: rest => match cellsOf v with
    | some l => if l.length = n ∧ off + n ≤ cs.length ∧ l.all Cl.told = true then fillC (splice cs off l) rest else none
    | none => none

def fillR (lk : Nat → Option Blk) (E : Nat) : List (List D) → List (Nat × AV) → Option (List (List D) × List Nat)
  | rs, [] => some (rs, [])
  | rs, (i, v) :: rest => match cellsOf v with
    | some l => match dsOf lk l with
      | some (ds, ts) => if ds.length = E ∧ i < rs.length then match fillR lk E (rs.set i ds) rest with
          | some (rs', ts') => some (rs', ts ++ ts')
          | none => none
        else none
      | none => none
    | none => none

def ibin (op : BinOp) (k : IntKind) (x y : Int) : Option D :=
  match op with
  | .add => some (.int k (k.wrap (x + y)))
  | .sub => some (.int k (k.wrap (x - y)))
  | .mul => some (.int k (k.wrap (x * y)))
  | .quo => if y = 0 then none else some (.int k (k.wrap (x.tdiv y)))
  | .rem => if y = 0 then none else some (.int k (x.tmod y))
  | .and => some (.int k (bits .and k x y))
  | .or => some (.int k (bits .or k x y))
  | .xor => some (.int k (bits .xor k x y))
  | .andNot => some (.int k (bits .andNot k x y))
  | .eql => some (.bool (x == y))
  | .neq => some (.bool (x != y))
  | .lss => some (.bool (decide (x < y)))
  | .leq => some (.bool (decide (x ≤ y)))
  | .gtr => some (.bool (decide (y < x)))
  | .geq => some (.bool (decide (y ≤ x)))
  | _ => none

def sbin (op : BinOp) (x y : ByteArray) : Option D :=
  match op with
  | .add => if x.size + y.size ≤ 9223372036854775807 then some (.str (x ++ y)) else none
  | .eql => some (.bool (x.toList == y.toList))
  | .neq => some (.bool (!(x.toList == y.toList)))
  | .lss => some (.bool (Op.bytesLess x.toList y.toList))
  | _ => none

def dbin (op : BinOp) : D → D → Option D
  | .int k x, .int k' y =>
    match op with
    | .shl => if y < 0 then none else some (.int k (k.wrap (x * 2 ^ min y.toNat k.bits)))
    | .shr => if y < 0 then none else some (.int k (x.fdiv (2 ^ min y.toNat k.bits)))
    | _ => if k = k' then ibin op k x y else none
  | .str x, .str y => sbin op x y
  | _, _ => none

def eqCl : Nat → Cl → Cl → Option Bool
  | 1, .d (.int k x), .d (.int k' y) => if k = k' then some (x == y) else none
  | 0, .d (.bool x), .d (.bool y) => some (x == y)
  | 2, .d (.str x), .d (.str y) => some (x.toList == y.toList)
  | _, _, _ => none
def eqAll : List (Nat × Nat) → List Cl → List Cl → Option Bool
  | [], _, _ => some true
  | i :: is, xs, ys => match xs[i.1]?, ys[i.1]? with
    | some x, some y => match eqCl i.2 x y, eqAll is xs ys with
      | some a, some b => some (a && b)
      | _, _ => none
    | _, _ => none

def hasRef : D → Bool
  | .sl _ | .rptr _ | .fn _ _ => true
  | _ => false
def rcRef : Rc → Bool
  | .d x => hasRef x
  | .new _ rows => !(rows.all fun r => r.all fun d => !(hasRef d))
  | .nil => false
def rrRef : RR → Bool
  | .c x => rcRef x
  | .agg l => l.any rcRef
  | .tup l => l.any fun | .inl x => rcRef x | .inr xs => xs.any rcRef

/-- What comes back from a call, as cells of the frame: what is new gets a tag, from T on. -/
def impC (lk : Nat → Option Blk) (T : Nat) : Rc → Cl × List (Nat × Blk)
  | .d x => (.d x, [])
  | .new E rows => (.own T (genOf lk T + 1) rows.length, [(T, ⟨genOf lk T + 1, false, .arr E rows⟩)])
  | .nil => (.nil, [])
def impCs (lk : Nat → Option Blk) (T : Nat) : List Rc → List Cl × List (Nat × Blk)
  | [] => ([], [])
  | x :: xs => ((impC lk T x).1 :: (impCs lk (T + 1) xs).1, (impC lk T x).2 ++ (impCs lk (T + 1) xs).2)
def imp1s (lk : Nat → Option Blk) (T : Nat) : List (Sum Rc (List Rc)) → List (Sum Cl (List Cl)) × List (Nat × Blk)
  | [] => ([], [])
  | .inl x :: xs => (.inl (impC lk T x).1 :: (imp1s lk (T + 1) xs).1, (impC lk T x).2 ++ (imp1s lk (T + 1) xs).2)
  | .inr l :: xs => (.inr (impCs lk T l).1 :: (imp1s lk (T + l.length) xs).1, (impCs lk T l).2 ++ (imp1s lk (T + l.length) xs).2)
def imp (lk : Nat → Option Blk) (T : Nat) : RR → AV × List (Nat × Blk)
  | .c x => (.c (impC lk T x).1, (impC lk T x).2)
  | .agg l => (.agg (impCs lk T l).1, (impCs lk T l).2)
  | .tup l => (.tup (imp1s lk T l).1, (imp1s lk T l).2)

def argOf (lk : Nat → Option Blk) : AV → Option (A × List Nat)
  | .c x => match dOf lk x with
    | some (y, l) => some (.c y, l)
    | none => none
  | .agg cs => match dsOf lk cs with
    | some (ys, l) => some (.agg ys, l)
    | none => none
  | .tup _ => none
def argsOf (lk : Nat → Option Blk) : List AV → Option (List A × List Nat)
  | [] => some ([], [])
  | x :: xs => match argOf lk x, argsOf lk xs with
    | some (y, l), some (ys, ls) => some (y :: ys, l ++ ls)
    | _, _ => none

def asInt? : AV → Option Int
  | .c (.d (.int _ n)) => some n
  | _ => none

def setL {α : Type} (l : List (Nat × α)) (t : Nat) (b : α) : List (Nat × α) :=
  match l with
  | [] => [(t, b)]
  | (u, c) :: r => if u = t then (t, b) :: r else (u, c) :: setL r t b
def getL {α : Type} (l : List (Nat × α)) (t : Nat) : Option α :=
  match l with
  | [] => none
  | (u, c) :: r => if u = t then some c else getL r t


def subN (E : Nat) (rows : List (List D)) (i : Nat) (j : Nat) : Option (List D) :=
  match rows[i]? with
  | some r => if r.length = E then some (r.drop j) else none
  | none => none

def pickN (n : Option Nat) (cs : List Cl) : Option AV :=
  match n with
  | none => (cs[0]?).map .c
  | some n => if n ≤ cs.length then some (.agg (cs.take n)) else none

def loadE (lk : Nat → Option Blk) (n : Option Nat) : AV → Option Ef
  | .c (.bptr t g j) => match lk t with
    | some ⟨g', _, .box cells⟩ => if g' = g ∧ j ≤ cells.length then (pickN n (cells.drop j)).map fun v => ⟨v, [], [t]⟩ else none
    | _ => none
  | .c (.aptr t g i j) => match lk t with
    | some ⟨g', _, .arr E rows⟩ => if g' = g then (subN E rows i j).bind fun r => (pickN n (r.map .d)).map fun v => ⟨v, [], [t]⟩ else none
    | _ => none
  | .c (.d (.rptr cells)) => (pickN n (cells.map .d)).map fun v => ⟨v, [], []⟩
  | _ => none

def storeE (lk : Nat → Option Blk) (n : Nat) (v : AV) : AV → Option Ef
  | .c (.bptr t g j) => match lk t, cellsOf v with
    | some ⟨g', false, .box cells⟩, some l => if g' = g ∧ l.length = n ∧ j + n ≤ cells.length ∧ l.all Cl.told = true then some ⟨.c .undef, [(t, ⟨g, false, .box (splice cells j l)⟩)], []⟩ else none
    | _, _ => none
  | .c (.aptr t g i j) => match lk t, cellsOf v with
    | some ⟨g', false, .arr E rows⟩, some l => match dsOf lk l, rows[i]? with
      | some (ds, ts), some r => if g' = g ∧ ds.length = n ∧ r.length = E ∧ j + n ≤ E ∧ ts.contains t = false then
          some ⟨.c .undef, (t, ⟨g, false, .arr E (rows.set i (splice r j ds))⟩) :: freeze lk ts, []⟩ else none
      | _, _ => none
    | _, _ => none
  | _ => none

def sliceD (rows : List (List D)) (l h : Int) : Option (List (List D)) :=
  if 0 ≤ l ∧ l ≤ h ∧ h ≤ rows.length then some ((rows.take h.toNat).drop l.toNat) else none
def boundOr (ev : Operand → AV) (d : Int) : Option Operand → Option Int
  | none => some d
  | some x => asInt? (ev x)

def sliceSE (ev : Operand → AV) (lo hi : Option Operand) : AV → Option Ef
  | .c (.d (.str s)) => match boundOr ev 0 lo, boundOr ev s.size hi with
    | some l, some h => if 0 ≤ l ∧ l ≤ h ∧ h ≤ s.size then some ⟨.c (.d (.str (s.extract l.toNat h.toNat))), [], []⟩ else none
    | _, _ => none
  | _ => none

/-- The rows that an append begins with, where they may be written behind. -/
def baseOf (lk : Nat → Option Blk) (E : Nat) : AV → Option (List (List D) × List Nat)
  | .c .nil => some ([], [])
  | .c (.clip rows) => some (rows, [])
  | .c (.own t g _) => match rowsOf lk t g with
    | some (false, E', rows) => if E' = E then some (rows, [t]) else none
    | _ => none
  | _ => none
def srcOf (lk : Nat → Option Blk) : AV → Option (List (List D) × List Nat)
  | .c (.d (.sl rows)) => some (rows, [])
  | .c .nil => some ([], [])
  | .c (.clip rows) => some (rows, [])
  | .c (.own t g _) => match rowsOf lk t g with
    | some (_, _, rows) => some (rows, [t])
    | none => none
  | _ => none
def intRow (k : IntKind) : List D → Option Int
  | [.int k' n] => if k' = k then some n else none
  | _ => none
def kill (lk : Nat → Option Blk) : List Nat → List (Nat × Blk)
  | [] => []
  | t :: ts => (t, ⟨genOf lk t, false, .dead⟩) :: kill lk ts

/-- A slice of the call's own is cut short: it is the same memory, told anew. -/
def moves (fz : Bool) : Option Operand → Option Operand → Bool
  | none, some _ => !fz
  | _, _ => false
def sliceE (ev : Operand → AV) (lk : Nat → Option Blk) (T : Nat) (lo hi : Option Operand) (E : Nat) : AV → Option Ef
  | .c (.d (.sl rows)) => match boundOr ev 0 lo, boundOr ev rows.length hi with
    | some l, some h => if rows.all (fun r => r.length == E) then (sliceD rows l h).map fun r => ⟨.c (.d (.sl r)), [], []⟩ else none
    | _, _ => none
  | .c (.own t g _) => match rowsOf lk t g with
    | some (fz, E', rows) => match boundOr ev 0 lo, boundOr ev rows.length hi with
      | some l, some h => if E' = E then match moves fz lo hi with
          | true => if 0 ≤ h ∧ h ≤ rows.length then some ⟨.c (.own T (genOf lk T + 1) h.toNat), kill lk [t] ++ [(T, ⟨genOf lk T + 1, false, .arr E (rows.take h.toNat)⟩)], [t]⟩ else none
          | false => (sliceD rows l h).map fun r => ⟨.c (.d (.sl r)), freeze lk [t], [t]⟩ else none
      | _, _ => none
    | none => none
  | .c .nil => match boundOr ev 0 lo, boundOr ev 0 hi with
    | some l, some h => if l = 0 ∧ h = 0 then some ⟨.c (.d (.sl [])), [], []⟩ else none
    | _, _ => none
  | _ => none
def isClip : AV → Bool
  | .c (.clip _) => true
  | _ => false

def callE (cx : Cx) (lk : Nat → Option Blk) (T : Nat) (f : FuncId) (as : List A) (ts : List Nat) : Option Ef :=
  match cx.call f as with
  | some r => some ⟨(imp lk T r).1, (if rrRef r then freeze lk ts else []) ++ (imp lk T r).2, ts⟩
  | none => none

/-- A variable that a closure holds: it is written no more. -/
def capOf (lk : Nat → Option Blk) : AV → Option (D × List Nat)
  | .c (.bptr t g 0) => match lk t with
    | some ⟨g', _, .box cells⟩ => if g' = g then match dsOf lk cells with
        | some (ds, ts) => some (D.rptr ds, t :: ts)
        | none => none
      else none
    | _ => none
  | _ => none

/-- A string's bytes, as rows. -/
def bytesR (s : ByteArray) : List (List D) := s.data.toList.map fun b => [D.int .u8 b.toNat]
def eff (cx : Cx) (ev : Operand → AV) (lk : Nat → Option Blk) (T : Nat) : AOp → Option Ef
  | .mov x => some ⟨ev x, [], []⟩
  | .pick c a b => match ev c with
    | .c (.d (.bool t)) => some ⟨if t then ev a else ev b, [], []⟩
    | _ => none
  | .alloc z => some ⟨.c (.bptr T (genOf lk T + 1) 0), [(T, ⟨genOf lk T + 1, false, .box z⟩)], []⟩
  | .box x => match cellsOf (ev x) with
    | some l => if l.all Cl.told = true then some ⟨.c (.bptr T (genOf lk T + 1) 0), [(T, ⟨genOf lk T + 1, cx.fz.contains T, .box l⟩)], []⟩ else none
    | none => none
  | .build z parts => match fillC z (parts.map fun p => (p.1, p.2.1, ev p.2.2)) with
    | some cs => some ⟨.agg cs, [], []⟩
    | none => none
  | .bslice z len parts => match dsOf lk z with
    | some (zd, []) => match fillR lk z.length (List.replicate len zd) (parts.map fun p => (p.1, ev p.2)) with
      | some (rows, ts) => if ts.contains T = false then some ⟨.c (.own T (genOf lk T + 1) len), (T, ⟨genOf lk T + 1, false, .arr z.length rows⟩) :: freeze lk ts, []⟩ else none
      | none => none
    | _ => none
  | .load n _ x => loadE lk n (ev x)
  | .store n p x => storeE lk n (ev x) (ev p)
  | .nilchk x => match ev x with
    | .c (.bptr t g j) => some ⟨.c (.bptr t g j), [], []⟩
    | .c (.aptr t g i j) => some ⟨.c (.aptr t g i j), [], []⟩
    | .c (.d (.rptr l)) => some ⟨.c (.d (.rptr l)), [], []⟩
    | .c (.d (.fn f l)) => some ⟨.c (.d (.fn f l)), [], []⟩
    | _ => none
  | .bin op x y => match ev x, ev y with
    | .c (.d a), .c (.d b) => (dbin op a b).map fun r => ⟨.c (.d r), [], []⟩
    | _, _ => none
  | .binB neg x y => match ev x, ev y with
    | .c (.d (.bool a)), .c (.d (.bool b)) => some ⟨.c (.d (.bool (if neg then !(a == b) else (a == b)))), [], []⟩
    | _, _ => none
  | .eqs neg n fs x y => match ev x, ev y with
    | .agg a, .agg b => if a.length = n ∧ b.length = n then (eqAll fs a b).map fun r => ⟨.c (.d (.bool (if neg then !r else r))), [], []⟩ else none
    | _, _ => none
  | .un op x => match op, ev x with
    | .not, .c (.d (.bool b)) => some ⟨.c (.d (.bool (!b))), [], []⟩
    | .neg, .c (.d (.int k n)) => some ⟨.c (.d (.int k (k.wrap (0 - n)))), [], []⟩
    | .xor, .c (.d (.int k n)) => some ⟨.c (.d (.int k (bits .xor k (if k.signed then -1 else k.max) n))), [], []⟩
    | _, _ => none
  | .cint k x => match ev x with
    | .c (.d (.int _ n)) => some ⟨.c (.d (.int k (k.wrap n))), [], []⟩
    | _ => none
  | .mkslice z bytes l c => match dsOf lk z, ev l, ev c with
    | some (zd, []), .c (.d (.int .i64 n)), .c (.d (.int .i64 m)) =>
      if n = m ∧ 0 ≤ n ∧ (bytes + 1) * n ≤ 140737488355328 then some ⟨.c (.own T (genOf lk T + 1) n.toNat), [(T, ⟨genOf lk T + 1, false, .arr z.length (List.replicate n.toNat zd)⟩)], []⟩ else none
    | _, _, _ => none
  | .slice x lo hi E => sliceE ev lk T lo hi E (ev x)
  | .sliceS x lo hi => sliceSE ev lo hi (ev x)
  | .sliceA n E x hi mx => match ev x with
    | .c (.bptr t g j) => match lk t, asInt? (ev hi), asInt? (ev mx) with
      | some ⟨g', fz, .box cells⟩, some h, some m => match dsOf lk ((cells.drop j).take n) with
        | some (ds, []) => if g' = g ∧ h = m ∧ 0 ≤ h ∧ h ≤ n ∧ j + n ≤ cells.length ∧ E = 1 then some ⟨.c (.clip ((ds.take h.toNat).map fun d => [d])), cond fz [] (freeze lk [t]), [t]⟩ else none
        | _ => none
      | _, _, _ => none
    | _ => none
  | .faddr off x => match ev x with
    | .c (.bptr t g j) => some ⟨.c (.bptr t g (j + off)), [], []⟩
    | .c (.aptr t g i j) => some ⟨.c (.aptr t g i (j + off)), [], []⟩
    | .c (.d (.rptr l)) => some ⟨.c (.d (.rptr (l.drop off))), [], []⟩
    | _ => none
  | .field off n x => match ev x with
    | .agg cs => if off ≤ cs.length then (pickN n (cs.drop off)).map fun v => ⟨v, [], []⟩ else none
    | _ => none
  | .iaddrA len E x i => match ev x, ev i with
    | .c (.bptr t g j), .c (.d (.int _ i)) => if 0 ≤ i ∧ i < len then some ⟨.c (.bptr t g (j + i.toNat * E)), [], []⟩ else none
    | .c (.aptr t g k j), .c (.d (.int _ i)) => if 0 ≤ i ∧ i < len then some ⟨.c (.aptr t g k (j + i.toNat * E)), [], []⟩ else none
    | .c (.d (.rptr l)), .c (.d (.int _ i)) => if 0 ≤ i ∧ i < len then some ⟨.c (.d (.rptr (l.drop (i.toNat * E)))), [], []⟩ else none
    | _, _ => none
  | .iaddrS E x i => match ev x, ev i with
    | .c (.d (.sl rows)), .c (.d (.int _ i)) => if 0 ≤ i then (subN E rows i.toNat 0).map fun r => ⟨.c (.d (.rptr r)), [], []⟩ else none
    | .c (.own t g n), .c (.d (.int _ i)) => match rowsOf lk t g with
      | some (_, E', _) => if E' = E ∧ 0 ≤ i ∧ i < n then some ⟨.c (.aptr t g i.toNat 0), [], [t]⟩ else none
      | none => none
    | _, _ => none
  | .idxA len E n x i => match ev i with
    | .c (.d (.int _ k)) => match ev x with
      | .agg l => if 0 ≤ k ∧ k < (len : Int) ∧ l.length = len * E then (pickN n (l.drop (k.toNat * E))).map fun y => ⟨y, [], []⟩ else none
      | _ => none
    | _ => none
  | .iter x => match ev x with
    | .c (.d (.str s)) => some ⟨.c (.bptr T (genOf lk T + 1) 0), [(T, ⟨genOf lk T + 1, false, .iter s 0⟩)], []⟩
    | _ => none
  | .next x => match ev x with
    | .c (.bptr t g 0) => match lk t with
      | some ⟨g', false, .iter s pos⟩ => if g' = g then (if pos < s.size then
            some ⟨.tup [.inl (.d (.bool true)), .inl (.d (.int .i64 pos)), .inl (.d (.int .i32 (Utf8.decode s pos).1))], [(t, ⟨g, false, .iter s (pos + (Utf8.decode s pos).2)⟩)], [t]⟩
          else some ⟨.tup [.inl (.d (.bool false))], [], [t]⟩) else none
      | _ => none
    | _ => none
  | .ofRune x => match ev x with
    | .c (.d (.int _ n)) => some ⟨.c (.d (.str (Utf8.encode n))), [], []⟩
    | _ => none
  | .ofRunes x => match srcOf lk (ev x) with
    | some (rows, ts) => (mapO (intRow .i32) rows).map fun ns => ⟨.c (.d (.str (runesBytes ns))), [], ts⟩
    | none => none
  | .ofBytes x => match srcOf lk (ev x) with
    | some (rows, ts) => (mapO (intRow .u8) rows).map fun ns => ⟨.c (.d (.str (strOfNums ns))), [], ts⟩
    | none => none
  | .toBytes x => match ev x with
    | .c (.d (.str s)) => if s.size ≤ 1000000 then some ⟨.c (.own T (genOf lk T + 1) (bytesR s).length), [(T, ⟨genOf lk T + 1, false, .arr 1 (bytesR s)⟩)], []⟩ else none
    | _ => none
  | .idxS x i => match ev x, ev i with
    | .c (.d (.str s)), .c (.d (.int _ i)) => if 0 ≤ i then match s[i.toNat]? with
        | some b => some ⟨.c (.d (.int .u8 b.toNat)), [], []⟩
        | none => none
      else none
    | _, _ => none
  | .len x => match ev x with
    | .c (.d (.sl rows)) => some ⟨.c (.d (.int .i64 rows.length)), [], []⟩
    | .c (.own _ _ n) => some ⟨.c (.d (.int .i64 n)), [], []⟩
    | .c .nil => some ⟨.c (.d (.int .i64 0)), [], []⟩
    | .c (.clip rows) => some ⟨.c (.d (.int .i64 rows.length)), [], []⟩
    | _ => none
  | .lenS x => match ev x with
    | .c (.d (.str s)) => some ⟨.c (.d (.int .i64 s.size)), [], []⟩
    | _ => none
  | .lenA n => some ⟨.c (.d (.int .i64 n)), [], []⟩
  | .minmax mx x xs => match ev x with
    | .c (.d (.int k n)) => match mapO asInt? (xs.map ev) with
      | some l => some ⟨.c (.d (.int k (l.foldl (fun a b => if mx then (if b > a then b else a) else (if b < a then b else a)) n))), [], []⟩
      | none => none
    | _ => none
  | .append E bytes x y => match baseOf lk E (ev x), srcOf lk (ev y) with
    | some (r1, ts1), some (r2, ts2) =>
      if r2.all (fun r => r.length == E) = true ∧ (isClip (ev x) && r2.isEmpty) = false ∧ r1.all (fun r => r.length == E) = true ∧ (r1.length + r2.length + 100) * (bytes + 1) ≤ 70368744177664 then
        some ⟨.c (.own T (genOf lk T + 1) (r1.length + r2.length)), kill lk ts1 ++ [(T, ⟨genOf lk T + 1, false, .arr E (r1 ++ r2)⟩)], ts2⟩
      else none
    | _, _ => none
  | .call f args => match ev f with
    | .c (.d (.fn f caps)) => if cx.inl f then none else match argsOf lk (args.map ev) with
      | some (as, ts) => callE cx lk T f (as ++ caps.map .c) ts
      | none => none
    | _ => none
  | .extract x i => match ev x with
    | .tup vs => match vs[i]? with
      | some (.inl c) => some ⟨.c c, [], []⟩
      | some (.inr cs) => some ⟨.agg cs, [], []⟩
      | none => none
    | _ => none
  | .mkfn f caps => match mapO (capOf lk) (caps.map ev) with
    | some l => some ⟨.c (.d (.fn f (l.map (·.1)))), freeze lk (l.flatMap (·.2)), l.flatMap (·.2)⟩
    | none => none

def evalF (sl : Nat → AV) : Operand → AV
  | .tmp t => sl t
  | .const v => match ofVal v with
    | some x => .c x
    | none => .c .undef
  | .global _ => .c .undef
  | .func f => .c (.d (.fn f []))

structure St where
  slots : List AV
  blk : List (Nat × Blk)

def upd (l : List (Nat × Blk)) : List (Nat × Blk) → List (Nat × Blk)
  | [] => l
  | (t, b) :: r => upd (setL l t b) r

def putS (s : List AV) (d : Option Nat) (v : AV) : List AV :=
  match d with
  | some d => s.set d v
  | none => s

def slotsF (s : List AV) (t : Nat) : AV := s.getD t (.c .undef)


/-- Is the operation carried out: none: the guard can't be told. -/
def wantF (sl : Nat → AV) : Option (Option Nat × Bool) → Option Bool
  | none => some true
  | some (none, _) => none
  | some (some t, want) => match sl t with
    | .c (.d (.bool b)) => some (b == want)
    | .tup [] => some false
    | _ => none

def instA (cx : Cx) (i : AInst) (s : St) : Option (St × Ef) :=
  match wantF (slotsF s.slots) i.guard with
  | some true => match eff cx (evalF (slotsF s.slots)) (getL s.blk) (i.tag) i.op with
    | some e => some (⟨putS s.slots i.dst e.v, upd s.blk e.up⟩, e)
    | none => none
  | some false => some (⟨putS s.slots i.dst (.tup []), s.blk⟩, ⟨.tup [], [], []⟩)
  | none => none

/-- A region's operations, one behind the other: the state, and what each came to. -/
def runI (cx : Cx) : List AInst → St → Option (St × List Ef)
  | [], s => some (s, [])
  | i :: is, s => match instA cx i s with
    | some (s', f) => match runI cx is s' with
      | some (s2, fs) => some (s2, f :: fs)
      | none => none
    | none => none

def tempsOp : Operand → List Nat
  | .tmp t => [t]
  | _ => []
def AOp.temps : AOp → List Nat
  | .mov x | .box x | .load _ _ x | .nilchk x | .un _ x | .cint _ x | .faddr _ x | .field _ _ x | .len x | .lenS x | .extract x _ | .iter x | .next x | .ofRune x | .ofRunes x | .ofBytes x | .toBytes x => tempsOp x
  | .pick c a b => tempsOp c ++ tempsOp a ++ tempsOp b
  | .alloc _ | .lenA _ => []
  | .build _ ps => ps.flatMap fun p => tempsOp p.2.2
  | .bslice _ _ ps => ps.flatMap fun p => tempsOp p.2
  | .store _ p x => tempsOp p ++ tempsOp x
  | .bin _ x y | .binB _ x y | .eqs _ _ _ x y | .mkslice _ _ x y | .iaddrA _ _ x y | .iaddrS _ x y | .idxS x y | .idxA _ _ _ x y | .append _ _ x y => tempsOp x ++ tempsOp y
  | .slice x lo hi _ | .sliceS x lo hi => tempsOp x ++ (lo.toList.flatMap tempsOp ++ hi.toList.flatMap tempsOp)
  | .sliceA _ _ x hi mx => tempsOp x ++ tempsOp hi ++ tempsOp mx
  | .minmax _ x xs => tempsOp x ++ xs.flatMap tempsOp
  | .call f xs => tempsOp f ++ xs.flatMap tempsOp
  | .mkfn _ cs => cs.flatMap tempsOp
def AInst.temps (i : AInst) : List Nat := i.op.temps ++ (match i.guard with | some (some t, _) => [t] | _ => [])

/-- The first one writes what the second one touches. -/
def confl (a b : AInst × Ef) : Bool :=
  (match a.1.dst with
    | some t => b.1.temps.contains t || b.1.dst == some t
    | none => false) ||
  a.2.up.any fun p => b.2.rd.contains p.1 || b.2.up.any fun q => q.1 == p.1

def reach (after : List (List Nat)) : Nat → Nat → Nat → Bool
  | 0, _, _ => false
  | k + 1, j, i => (after.getD j []).any fun e => e == i || reach after k e i

/-- What an operation waits for, in whichever order. -/
def anyAfter (o : Oper) : List Nat := (o.after.toList.filter (Region.binds .any)).map (·.on)
/-- What stands behind a place, numbered anew. -/
def tailAfter (b : Nat) (after : List (List Nat)) : List (List Nat) := (after.drop b).map fun l => l.filterMap fun x => if b ≤ x then some (x - b) else none
def conflS (a b : AInst) : Bool := match a.dst with
  | some t => b.temps.contains t || b.dst == some t
  | none => false
def conflT (a b : Ef) : Bool := a.up.any fun p => b.rd.contains p.1 || b.up.any fun q => q.1 == p.1
def ordOK (after : List (List Nat)) (n i j : Nat) : Bool := if i < j then reach after n j i else reach after n i j
/-- What stands against each other by the temps: told once for a region. -/
def okS (after : List (List Nat)) (is : List AInst) : Bool :=
  (List.range is.length).all fun i => (List.range is.length).all fun j =>
    match is[i]?, is[j]? with
    | some x, some y => i == j || !(conflS x y) || ordOK after is.length i j
    | _, _ => true
/-- And by memory. -/
def okT (after : List (List Nat)) (fs : List Ef) : Bool :=
  (List.range fs.length).all fun i =>
    match fs[i]? with
    | some x => x.up.isEmpty || (List.range fs.length).all fun j => match fs[j]? with
      | some y => i == j || !(conflT x y) || ordOK after fs.length i j
      | none => true
    | none => true
def okDraw (after : List (List Nat)) (is : List AInst) (fs : List Ef) : Bool := match okS after is with
  | true => okT after fs
  | false => false

inductive RVar where
  | tmp (t : Nat)
  | cell (a : Nat) (n : Option Nat)
  deriving Inhabited
def resAV (s : St) : RVar → Option AV
  | .tmp t => some (slotsF s.slots t)
  | .cell a n => (loadE (getL s.blk) n (slotsF s.slots a)).map (·.v)
def packI : List AV → Option AV
  | [v] => some v
  | vs => (mapO (fun v => match v with
    | .c x => some (Sum.inl x)
    | .agg l => some (Sum.inr l)
    | .tup _ => none) vs).map .tup
/-- Behind a function that was run in its caller's place. -/
def inlS (d : Option Nat) (rs : List RVar) (slots : List AV) (s2 : St) : Option St := match mapO (resAV s2) rs with
  | some vs => (packI vs).map fun v => ⟨putS slots d v, s2.blk⟩
  | none => none
def inlStart (m : Nat) (xs : List Operand) (s : St) : St := ⟨xs.map (evalF (slotsF s.slots)) ++ List.replicate (m - xs.length) (.c .undef), s.blk⟩

inductive ACode where
  | skip
  | region (is : List AInst)
  | draw (is : List AInst) (after : List (List Nat))
  | seq (x y : ACode)
  | cond (c : Operand) (x y : ACode)
  | block (id : Nat) (x : ACode)
  | loop (x : ACode)
  | forget (keep : List Nat) (x : ACode)
  | exit (id : Nat)
  | ret
  | inl (d : Option Nat) (m : Nat) (body : ACode) (rs : List RVar) (xs : List Operand)
  /-- A range over such a closure; and where so many rows are still to come. -/
  | back (g : Operand) (p q : Nat) (x y : ACode)
  | rnd (n : Nat) (rows : List (List D)) (sh : Option Nat × List Kd) (p q : Nat) (x y : ACode) (blk0 : List (Nat × Blk))
  deriving Inhabited
/-- Nothing is forgotten, run in place, or ranged over. -/
def plainR : ACode → Bool
  | .seq x y => plainR x && plainR y
  | .cond _ x y => plainR x && plainR y
  | .block _ x => plainR x
  | .loop x => plainR x
  | .forget _ _ => false
  | .inl _ _ _ _ _ => false
  | .back _ _ _ _ _ => false
  | .rnd _ _ _ _ _ _ _ _ => false
  | _ => true
/-- A function that is run in its caller's place. -/
structure Inl where
  m : Nat
  body : ACode
  rs : List RVar
structure Zo where
  off : Nat
  I : FuncId → Option Inl
  back : FuncId → Option (Option Nat × List Kd)
def Z0 : Zo := ⟨0, fun _ => none, fun _ => none⟩
def inlOf (Z : Zo) (o : Oper) : Option (FuncId × Inl × List Operand) :=
  match o.op, o.guard with
  | .call c, none => match c.callee with
    | .value (.func f) => (Z.I f).map fun i => (f, i, c.args.toList)
    | _ => none
  | _, _ => none
def splitI (Z : Zo) : List Oper → Option (List Oper × Oper × (FuncId × Inl × List Operand) × List Oper)
  | [] => none
  | o :: l => match inlOf Z o with
    | some q => some ([], o, q, l)
    | none => (splitI Z l).map fun (a, x, q, b) => (o :: a, x, q, b)

def dstOK (N : Nat) : Option Nat → Bool
  | some d => decide (d < N)
  | none => true

def compI (P : Program) (N off : Nat) (ops : Array Oper) (o : Oper) : Option AInst :=
  match comp P o with
  | some ao => if dstOK N o.dst = true then
      some ⟨o.dst, o.guard.map fun g => ((ops[g.1]?).bind (·.dst), g.2), ao, off + (o.dst.getD 0) * 64⟩ else none
  | none => none

/-- So a place is told from a loop's body: where a walk may stop, and what is kept there. -/
def cutMark : Nat := 1000000007
/-- At a loop's head: forget; or, where nothing is said to be kept, nothing. -/
def wrapF : List Nat → ACode → ACode
  | [], c => c
  | l, c => .forget l c
/-- One variable, at most, may be laid at any time. -/
def floatOK (P : Program) (N : Nat) (is1 : List AInst) (xs : List Operand) (dst : Option Nat) (l2 : List Oper) : List Nat → Bool
  | [] => true
  | [q] => match l2[q]? with
    | some oq => match oq.op, oq.dst with
      | .alloc t, some d => (zeroC P t).isSome && oq.guard.isNone && decide (d < N) && is1.all (fun i => !(i.temps.contains d) && !(i.dst == some d)) && xs.all (fun x => !((tempsOp x).contains d)) && !(dst == some d)
      | _, _ => false
    | none => false
  | _ => false
theorem floatOK_one {P : Program} {N : Nat} {is1 : List AInst} {xs : List Operand} {dst : Option Nat} {l2 : List Oper} {q : Nat} (h : floatOK P N is1 xs dst l2 [q] = true) :
    ∃ oq t d z, l2[q]? = some oq ∧ oq.op = .alloc t ∧ oq.guard = none ∧ oq.dst = some d ∧ d < N ∧ zeroC P t = some z ∧ (∀ i ∈ is1, d ∉ i.temps ∧ i.dst ≠ some d) ∧ (∀ x ∈ xs, d ∉ tempsOp x) ∧ dst ≠ some d := by
  rw [floatOK] at h
  split at h
  · rename_i oq hoq
    split at h
    · rename_i t d ho hd
      simp only [Bool.and_eq_true, Option.isSome_iff_exists, Option.isNone_iff_eq_none, decide_eq_true_eq, List.all_eq_true, Bool.not_eq_true', List.contains_eq_mem, decide_eq_false_iff_not, beq_eq_false_iff_ne] at h
      obtain ⟨⟨⟨⟨⟨⟨z, h1⟩, h2⟩, h3⟩, h4⟩, h5⟩, h6⟩ := h
      exact ⟨oq, t, d, z, hoq, ho, h2, hd, h3, h1, h4, h5, h6⟩
    · cases h
  · cases h
def compC (P : Program) (Z : Zo) (N : Nat) (K : Code → List Nat) : Code → Option ACode
  | .skip => some .skip
  | .region _ ops false => match splitI Z ops.toList with
    | none => (mapO (compI P N Z.off ops) ops.toList).map .region
    | some (l1, o, (_, i, xs), l2) => match mapO (compI P N Z.off ops) l1, mapO (compI P N Z.off ops) l2 with
      | some is1, some is2 => if dstOK N o.dst = true ∧ xs.length ≤ i.m then some (.seq (.region is1) (.seq (.inl o.dst i.m i.body i.rs xs) (.region is2))) else none
      | _, _ => none
  | .region _ ops true => if P.follows .mixedOrders = true ∧ (ops.toList.zipIdx.all fun (o, i) => o.after.all fun e => !Region.binds .any e || decide (e.on < i)) = true then
      (match splitI Z ops.toList with
      | none => (mapO (compI P N Z.off ops) ops.toList).map fun is => .draw is (ops.toList.map anyAfter)
      | some (l1, o, (_, i, xs), l2) => match mapO (compI P N Z.off ops) l1, mapO (compI P N Z.off ops) l2 with
        | some is1, some is2 => if dstOK N o.dst = true ∧ xs.length ≤ i.m ∧ ((List.range l1.length).all fun j => reach (ops.toList.map anyAfter) ops.size l1.length j) = true ∧ floatOK P N is1 xs o.dst l2 ((List.range l2.length).filter fun j => !(reach (ops.toList.map anyAfter) ops.size (l1.length + 1 + j) l1.length)) = true then
            some (.seq (.draw is1 (ops.toList.map anyAfter)) (.seq (.inl o.dst i.m i.body i.rs xs) (.draw is2 (tailAfter (l1.length + 1) (ops.toList.map anyAfter))))) else none
        | _, _ => none) else none
  | .seq x y => match compC P Z N K x, compC P Z N K y with
    | some ax, some ay => some (.seq ax (wrapF (K (.block cutMark y)) ay))
    | _, _ => none
  | .cond c x y => match compC P Z N K x, compC P Z N K y with
    | some x, some y => some (.cond c x y)
    | _, _ => none
  | .block id x => (compC P Z N K x).map (.block id)
  | .loop x => (compC P Z N K x).map fun c => .loop (wrapF (K x) c)
  | .exit id => some (.exit id)
  | .ret => some .ret
  | .rangeFunc g ps x y => match ps.toList, compC P Z N K x, compC P Z N K y with
    | [p, q], some ax, some ay => if p < N ∧ q < N ∧ p ≠ q ∧ plainR ax = true ∧ plainR ay = true then some (.back g p q ax ay) else none
    | _, _, _ => none
  | _ => none

/-! What is forgotten at a loop's head: temps that are not kept, blocks that nobody holds; what is held is of the first generation again. -/
def tagsC : Cl → List Nat
  | .own t _ _ | .bptr t _ _ | .aptr t _ _ _ => [t]
  | _ => []
def tagsV : AV → List Nat
  | .c x => tagsC x
  | .agg l => l.flatMap tagsC
  | .tup _ => []
def tagsK : BK → List Nat
  | .box cells => cells.flatMap tagsC
  | _ => []
def closeT (blk : List (Nat × Blk)) : Nat → List Nat → List Nat
  | 0, l => l
  | n + 1, l => closeT blk n (l ++ l.flatMap fun t => match getL blk t with
    | some b => tagsK b.k
    | none => [])
def isDead : BK → Bool
  | .dead => true
  | _ => false
def curOf (tags : List Nat) (lk : Nat → Option Blk) (t : Nat) : Option Nat :=
  match lk t with
  | some b => if tags.contains t && !(isDead b.k) then some b.g else none
  | none => none
def renC (cur : Nat → Option Nat) : Cl → Cl
  | .own t g n => if cur t = some g then .own t 1 n else .undef
  | .bptr t g j => if cur t = some g then .bptr t 1 j else .undef
  | .aptr t g i j => if cur t = some g then .aptr t 1 i j else .undef
  | x => x
def renV (cur : Nat → Option Nat) : AV → AV
  | .c x => .c (renC cur x)
  | .agg l => .agg (l.map (renC cur))
  | .tup _ => .c .undef
def renK (cur : Nat → Option Nat) : BK → BK
  | .box cells => .box (cells.map (renC cur))
  | k => k
def renB (cur : Nat → Option Nat) (t : Nat) (b : Blk) : Blk :=
  match cur t with
  | some _ => ⟨1, b.fz, renK cur b.k⟩
  | none => ⟨0, false, .dead⟩
def keepS (keep : List Nat) (cur : Nat → Option Nat) : List AV → Nat → List AV
  | [], _ => []
  | v :: vs, i => (if keep.contains i then renV cur v else .c .undef) :: keepS keep cur vs (i + 1)
def heldBy (keep : List Nat) : List AV → Nat → List Nat
  | [], _ => []
  | v :: vs, i => if keep.contains i then tagsV v ++ heldBy keep vs (i + 1) else heldBy keep vs (i + 1)
def forget0 (keep : List Nat) (s : St) : St :=
  let tags := closeT s.blk 2 (heldBy keep s.slots 0)
  let cur := curOf tags (getL s.blk)
  ⟨keepS keep cur s.slots 0, s.blk.map fun p => (p.1, renB cur p.1 p.2)⟩
/-- What is nil at a loop's head may be taken for a slice of the call's own without rows: a temp (1), a cell of a temp (2), a cell of a variable (3). -/
def deadAt (lk : Nat → Option Blk) (T : Nat) : Bool := match lk T with
  | some b => isDead b.k
  | none => true
def nil1 (s : St) (kind a j T E : Nat) : St :=
  match deadAt (getL s.blk) T with
  | true => match kind with
    | 1 => match slotsF s.slots a with
      | .c .nil => ⟨s.slots.set a (.c (.own T (genOf (getL s.blk) T + 1) 0)), setL s.blk T ⟨genOf (getL s.blk) T + 1, false, .arr E []⟩⟩
      | _ => s
    | 2 => match slotsF s.slots a with
      | .agg cs => match cs[j]? with
        | some .nil => ⟨s.slots.set a (.agg (cs.set j (.own T (genOf (getL s.blk) T + 1) 0))), setL s.blk T ⟨genOf (getL s.blk) T + 1, false, .arr E []⟩⟩
        | _ => s
      | _ => s
    | 3 => match getL s.blk a with
      | some ⟨g2, false, .box cs⟩ => match cs[j]? with
        | some .nil => ⟨s.slots, setL (setL s.blk T ⟨genOf (getL s.blk) T + 1, false, .arr E []⟩) a ⟨g2, false, .box (cs.set j (.own T (genOf (getL s.blk) T + 1) 0))⟩⟩
        | _ => s
      | _ => s
    | _ => s
  | false => s
/-- The blocks by their numbers, without those that are gone. -/
def gone (b : Blk) : Bool := isDead b.k && b.g == 0
def delK (t : Nat) : List (Nat × Blk) → List (Nat × Blk)
  | [] => []
  | q :: l => if q.1 = t then delK t l else q :: delK t l
/-- Rows of the call's own under another number. -/
def mvC (t0 g0 T G : Nat) : Cl → Cl
  | .own t g n => if t = t0 then (if g = g0 then .own T G n else .undef) else .own t g n
  | .bptr t g j => if t = t0 then .undef else .bptr t g j
  | .aptr t g i j => if t = t0 then (if g = g0 then .aptr T G i j else .undef) else .aptr t g i j
  | x => x
def mvV (t0 g0 T G : Nat) : AV → AV
  | .c x => .c (mvC t0 g0 T G x)
  | .agg l => .agg (l.map (mvC t0 g0 T G))
  | .tup _ => .c .undef
def mvK (t0 g0 T G : Nat) : BK → BK
  | .box cells => .box (cells.map (mvC t0 g0 T G))
  | k => k
def mvS (s : St) (t0 T : Nat) : St := match getL s.blk t0 with
  | some ⟨g0, fz, .arr E rows⟩ => if t0 ≠ T ∧ deadAt (getL s.blk) T = true then
      ⟨s.slots.map (mvV t0 g0 T (genOf (getL s.blk) T + 1)), setL ((delK t0 s.blk).map fun p => (p.1, ⟨p.2.g, p.2.fz, mvK t0 g0 T (genOf (getL s.blk) T + 1) p.2.k⟩)) T ⟨genOf (getL s.blk) T + 1, fz, .arr E rows⟩⟩ else s
  | _ => s
def tagOf : Cl → Option Nat
  | .own t _ _ => some t
  | _ => none
def mv1 (s : St) (kind a j T : Nat) : St :=
  match (match kind with
    | 1 => match slotsF s.slots a with
      | .c x => tagOf x
      | _ => none
    | 2 => match slotsF s.slots a with
      | .agg cs => (cs[j]?).bind tagOf
      | _ => none
    | 3 => match getL s.blk a with
      | some ⟨_, _, .box cs⟩ => (cs[j]?).bind tagOf
      | _ => none
    | _ => none) with
  | some t => mvS s t T
  | none => s
/-- In the row of what is kept such a place is one great number. -/
def nils : List Nat → St → St
  | [], s => s
  | q :: l, s => if q < 1000000000000000 then nils l s else nils l (nil1 (mv1 s (q / 1000000000000000000000) (q / 1000000000000000 % 1000000) (q / 1000000000000 % 1000) (q / 1000 % 1000000000)) (q / 1000000000000000000000) (q / 1000000000000000 % 1000000) (q / 1000000000000 % 1000) (q / 1000 % 1000000000) (q % 1000))
def insK (p : Nat × Blk) : List (Nat × Blk) → List (Nat × Blk)
  | [] => [p]
  | q :: l => if p.1 < q.1 then p :: q :: l else if p.1 = q.1 then p :: l else q :: insK p l
def canon : List (Nat × Blk) → List (Nat × Blk)
  | [] => []
  | p :: l => match gone p.2 with
    | true => delK p.1 (canon l)
    | false => insK p (canon l)
def canonS (s : St) : St := ⟨s.slots, canon s.blk⟩
def forget (keep : List Nat) (s : St) : St := canonS (nils keep (forget0 keep s))

inductive Ex where
  | normal
  | exit (id : Nat)
  | ret
  deriving Inhabited, DecidableEq

def aloop (f : St → Option (Ex × St)) : Nat → St → Option (Ex × St)
  | 0, _ => none
  | n + 1, s => match f s with
    | some (.normal, s') => aloop f n s'
    | some (e, s') => some (e, s')
    | none => none

/-- At a round's end: what was laid in it, and nobody holds, is forgotten; its generations are those of the loop's start again. -/
def resetG (held : List Nat) (blk0 : List (Nat × Blk)) (t : Nat) (b : Blk) : Blk := match getL blk0 t with
  | some b0 => if b0.g < b.g ∧ held.contains t = false then ⟨b0.g, false, .dead⟩ else b
  | none => b
def resetB (blk0 blk : List (Nat × Blk)) : List (Nat × Blk) := blk.map fun p => (p.1, resetG (blk.flatMap fun p => tagsK p.2.k) blk0 p.1 p.2)
def okBack (sh : Option Nat) (rows : List (List D)) : Bool := (rows.all fun r => r.length == sh.getD 1) && decide (rows.length ≤ 4611686018427387904)
def aback (f g : St → Option (Ex × St)) (rows : List (List D)) (sh : Option Nat) (p q : Nat) (slots : List AV) (blk0 : List (Nat × Blk)) : Nat → List (Nat × Blk) → Option (Ex × St)
  | 0, blk => some (.normal, ⟨slots, blk⟩)
  | k + 1, blk => match rows[k]? with
    | some row => match pickN sh (row.map .d) with
      | some v => match f ⟨(slots.set p (.c (.d (.int .i64 k)))).set q v, blk⟩ with
        | some (.normal, s1) => match g s1 with
          | some (.normal, s2) => aback f g rows sh p q slots blk0 k (resetB blk0 s2.blk)
          | some (e, s2) => some (e, ⟨slots, s2.blk⟩)
          | none => none
        | _ => none
      | none => none
    | none => none

/-- What code comes to, in so many rounds of each loop at most. -/
def acode (cx : Cx) (n : Nat) : ACode → St → Option (Ex × St)
  | .skip, s => some (.normal, s)
  | .region is, s => match runI cx is s with
    | some (s', _) => some (.normal, s')
    | none => none
  | .draw is after, s => match runI cx is s with
    | some (s', fs) => if okDraw after is fs = true then some (.normal, s') else none
    | none => none
  | .seq x y, s => match acode cx n x s with
    | some (.normal, s') => acode cx n y s'
    | some (e, s') => some (e, s')
    | none => none
  | .cond c x y, s => match evalF (slotsF s.slots) c with
    | .c (.d (.bool b)) => if b = true then acode cx n x s else acode cx n y s
    | _ => none
  | .block id x, s => match acode cx n x s with
    | some (.exit k, s') => some (if k = id then .normal else .exit k, s')
    | some (e, s') => some (e, s')
    | none => none
  | .loop x, s => aloop (acode cx n x) n s
  | .forget keep x, s => acode cx n x (forget keep s)
  | .exit id, s => some (.exit id, s)
  | .ret, s => some (.ret, s)
  | .inl d m body rs xs, s => match acode cx n body (inlStart m xs s) with
    | some (.exit _, _) => none
    | some (_, s2) => (inlS d rs s.slots s2).map fun s' => (.normal, s')
    | none => none
  | .back g p q x y, s => match evalF (slotsF s.slots) g with
    | .c (.d (.fn f [.rptr [.sl rows]])) => match cx.back f with
      | some sh => if okBack sh.1 rows = true then aback (acode cx n x) (acode cx n y) rows sh.1 p q s.slots s.blk rows.length s.blk else none
      | none => none
    | _ => none
  | .rnd m rows sh p q x y blk0, s => aback (acode cx n x) (acode cx n y) rows sh.1 p q s.slots blk0 m s.blk

end Go.Proofs.YtmmlolampgnamaaDoor.Ax
