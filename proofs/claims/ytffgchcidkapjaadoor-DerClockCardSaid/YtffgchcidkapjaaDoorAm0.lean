/- The abstract machine, definitions: values, blocks, one primitive for each operation, runs of code, calls. -/
import Derived.Tactics
import Derived.Below
import Derived.StillTail
namespace Go.GAM

/-- An abstract address: a block, the version of its array, a cell. -/
structure AA where
  id : Nat
  ver : Nat
  off : Nat
deriving DecidableEq, Inhabited

inductive AV where
  | u
  | b (x : Bool)
  | i (k : IntKind) (n : Int)
  | s (l : List UInt8)
  | p (a : Option AA)
  | sl (a : Option AA) (len : Nat) (cap : Option Nat)
  | ag (cs : List AV)
  | tu (vs : List AV)
  | fn (f : Fn) (first cap : List AV)
  | nf
  | ifc (t : TypeId) (v : AV)
  | ni
  | mp (r : Option Nat)
deriving Inhabited

/-- A block: its cells, the cells of one element, the least version that may be read, whether its array ends with its last cell, whether it is never written, whether it is a package's variable. -/
structure ABlk where
  cells : List AV
  sz : Nat
  floor : Nat
  ex : Bool
  ro : Bool
  gl : Bool := false

abbrev AHeap := List ABlk
abbrev Env := List (Nat × AV)

def ofV1 : Value → AV
  | .bool x => .b x
  | .int k n => .i k n
  | .string s => .s s.data.toList
  | .pointer none => .p none
  | .slice none 0 0 => .sl none 0 none
  | .nilFunc => .nf
  | .nilIface => .ni
  | .map none => .mp none
  | _ => .u

def ofV : Value → AV
  | .agg cs => .ag (cs.toList.map ofV1)
  | .tuple cs => .tu (cs.toList.map ofV1)
  | .iface t v => .ifc t (ofV1 v)
  | v => ofV1 v

def AV.parts : AV → List AV
  | .ag cs => cs
  | v => [v]
def AV.cellOK : AV → Bool
  | .u | .ag _ | .tu _ => false
  | _ => true
def AV.sizeOK : AV → Bool
  | .u => false
  | _ => true
/-- No address in it. -/
def AV.leaf : AV → Bool
  | .b _ | .i _ _ | .s _ | .p none | .sl none 0 none | .nf | .ni | .mp none => true
  | _ => false
def AV.pure : AV → Bool
  | .ag cs | .tu cs => cs.all AV.leaf
  | v => v.leaf

def lk : Env → Nat → AV
  | [], _ => .u
  | (t, v) :: r, n => bif Nat.beq t n then v else lk r n
def put (e : Env) (d : Option Nat) (v : AV) : Env :=
  match d with
  | some t => (t, v) :: e
  | none => e
def restr (L : List Nat) (e : Env) : Env := L.map fun t => (t, lk e t)

/-- The address of a package's variable. -/
def gvar (h : AHeap) (g : Nat) : AV :=
  match h[g]? with
  | some b => bif b.gl && Nat.ble b.floor b.cells.length then .p (some ⟨g, b.cells.length, 0⟩) else .u
  | none => .u

def ev (e : Env) (h : AHeap) : Operand → AV
  | .tmp t => lk e t
  | .const v => ofV v
  | .global g => gvar h g
  | .func f => .fn (.func f) [] []

def rdOK (b : ABlk) (a : AA) (n : Nat) : Prop := b.floor ≤ a.ver ∧ a.ver ≤ b.cells.length ∧ a.off + n ≤ a.ver

/-! ### primitives that leave the heap alone -/

def aIf (c : AV) (A B : Prop) : Prop :=
  match c with
  | .b true => A
  | .b false => B
  | _ => False

/-- Kinds of integers, compared. -/
def kc : IntKind → Nat
  | .i8 => 0 | .i16 => 1 | .i32 => 2 | .i64 => 3 | .u8 => 4 | .u16 => 5 | .u32 => 6 | .u64 => 7
def kEq (k k' : IntKind) : Bool := Nat.beq (kc k) (kc k')

def asB (v : AV) (K : Bool → Prop) : Prop :=
  match v with
  | .b c => K c
  | _ => False
def asI (k : IntKind) (v : AV) (K : Int → Prop) : Prop :=
  match v with
  | .i k' n => bif kEq k k' then K n else False
  | _ => False
def asS (v : AV) (K : List UInt8 → Prop) : Prop :=
  match v with
  | .s l => K l
  | _ => False
/-- A value of a type, in its form. -/
def shape (P : Program) (t : TypeId) (v : AV) (K : AV → Prop) : Prop :=
  match P.underlying t with
  | some .bool => asB v fun c => K (.b c)
  | some (.int k) => asI k v fun n => K (.i k n)
  | some .string => asS v fun l => K (.s l)
  | _ => K v

def pPick (c x y : AV) (K : AV → Prop) : Prop := aIf c (K x) (K y)

def pLoad1 (x : AV) (h : AHeap) (K : AV → Prop) : Prop :=
  match x with
  | .p (some a) => ∃ b, h[a.id]? = some b ∧ rdOK b a 1 ∧ K (b.cells.getD a.off .u)
  | _ => False
def pLoadN (n : Nat) (x : AV) (h : AHeap) (K : AV → Prop) : Prop :=
  match x with
  | .p (some a) => ∃ b, h[a.id]? = some b ∧ rdOK b a n ∧ K (.ag ((b.cells.drop a.off).take n))
  | _ => False

def pNil (x : AV) (K : AV → Prop) : Prop :=
  match x with
  | .p none | .ni | .nf | .u => False
  | .fn (.func _) _ _ => K x
  | .fn _ _ _ => False
  | _ => K x

def bitsOp (op : BinOp) (k : IntKind) (x y : Int) : Int :=
  let a := BitVec.ofInt k.bits x
  let b := BitVec.ofInt k.bits y
  match op with
  | .and => k.wrap (a &&& b).toNat
  | .or => k.wrap (a ||| b).toNat
  | .xor => k.wrap (a ^^^ b).toNat
  | _ => k.wrap (a &&& ~~~b).toNat

/-- '==' of values without addresses inside: by type. -/
def aEq (P : Program) : Nat → TypeId → AV → AV → Option Bool
  | 0, _, _, _ => none
  | d + 1, t, x, y =>
    match P.underlying t, x, y with
    | some .bool, .b a, .b b => some (a == b)
    | some (.int _), .i k a, .i k' b => if k = k' then some (a == b) else none
    | some .string, .s a, .s b => some (a == b)
    | some (.struct fs), .ag xs, .ag ys =>
      if P.stoodInHeld t then none else
      fs.toList.foldr (fun f acc =>
        if f.name = "_" then acc else
        let prt (cs : List AV) : AV := match P.underlying f.type with
          | some (.struct _) | some (.array _ _) => .ag ((cs.drop f.offset).take (P.cellsOf f.type))
          | _ => cs.getD f.offset .u
        match aEq P d f.type (prt xs) (prt ys), acc with
        | some r, some a => some (r && a)
        | _, _ => none) (some true)
    | _, _, _ => none

def isPtr (P : Program) (t : TypeId) : Bool := match P.underlying t with | some (.pointer _) => true | _ => false
def isSl (P : Program) (t : TypeId) : Bool := match P.underlying t with | some (.slice _) => true | _ => false
def isFn (P : Program) (t : TypeId) : Bool := match P.underlying t with | some (.func ..) => true | _ => false
def isIf (P : Program) (t : TypeId) : Bool := match P.underlying t with | some (.interface _) => true | _ => false
def isMap (P : Program) (t : TypeId) : Bool := match P.underlying t with | some (.map ..) => true | _ => false

def eqOut (op : BinOp) (r : Bool) (K : AV → Prop) : Prop :=
  match op with
  | .eql => K (.b r)
  | .neq => K (.b (!r))
  | _ => False

def pShl (k : IntKind) (a b : Int) (K : Int → Prop) : Prop := 0 ≤ b ∧ K (k.wrap (a * 2 ^ (min b.toNat k.bits)))
def pShr (k : IntKind) (a b : Int) (K : Int → Prop) : Prop := 0 ≤ b ∧ K (a.fdiv (2 ^ (min b.toNat k.bits)))
def pQuo (k : IntKind) (a b : Int) (K : Int → Prop) : Prop := b ≠ 0 ∧ K (k.wrap (a.tdiv b))
def pRem (a b : Int) (K : Int → Prop) : Prop := b ≠ 0 ∧ K (a.tmod b)
def pCat (a b : List UInt8) (K : List UInt8 → Prop) : Prop := ((a.length + b.length : Nat) : Int) ≤ 9223372036854775807 ∧ K (a ++ b)

def pBin (P : Program) (op : BinOp) (t : TypeId) (x y : AV) (K : AV → Prop) : Prop :=
  match x, y with
  | .i k a, .i k' b =>
    match op with
    | .shl => pShl k a b fun n => K (.i k n)
    | .shr => pShr k a b fun n => K (.i k n)
    | .add => bif kEq k k' then K (.i k (k.wrap (a + b))) else False
    | .sub => bif kEq k k' then K (.i k (k.wrap (a - b))) else False
    | .mul => bif kEq k k' then K (.i k (k.wrap (a * b))) else False
    | .quo => bif kEq k k' then pQuo k a b fun n => K (.i k n) else False
    | .rem => bif kEq k k' then pRem a b fun n => K (.i k n) else False
    | .and => bif kEq k k' then K (.i k (bitsOp .and k a b)) else False
    | .or => bif kEq k k' then K (.i k (bitsOp .or k a b)) else False
    | .xor => bif kEq k k' then K (.i k (bitsOp .xor k a b)) else False
    | .andNot => bif kEq k k' then K (.i k (bitsOp .andNot k a b)) else False
    | .eql => bif kEq k k' then K (.b (decide (a = b))) else False
    | .neq => bif kEq k k' then K (.b (!decide (a = b))) else False
    | .lss => bif kEq k k' then K (.b (decide (a < b))) else False
    | .leq => bif kEq k k' then K (.b (decide (a ≤ b))) else False
    | .gtr => bif kEq k k' then K (.b (decide (b < a))) else False
    | .geq => bif kEq k k' then K (.b (decide (b ≤ a))) else False
  | .s a, .s b =>
    match op with
    | .add => pCat a b fun l => K (.s l)
    | .eql => K (.b (decide (a = b)))
    | .neq => K (.b (!decide (a = b)))
    | .lss => K (.b (Op.bytesLess a b))
    | .leq => K (.b (Op.bytesLess a b || decide (a = b)))
    | .gtr => K (.b (!(Op.bytesLess a b || decide (a = b))))
    | .geq => K (.b (!Op.bytesLess a b))
    | _ => False
  | .b a, .b b => match P.underlying t with
    | some .bool => eqOut op (a == b) K
    | _ => False
  | .p none, .p b => bif isPtr P t then eqOut op b.isNone K else False
  | .p (some _), .p none => bif isPtr P t then eqOut op false K else False
  | .sl none _ _, .sl b _ _ => bif isSl P t then eqOut op b.isNone K else False
  | .sl (some _) _ _, .sl none _ _ => bif isSl P t then eqOut op false K else False
  | .nf, .nf => bif isFn P t then eqOut op true K else False
  | .nf, .fn .. => bif isFn P t then eqOut op false K else False
  | .fn .., .nf => bif isFn P t then eqOut op false K else False
  | .ni, .ifc .. => bif isIf P t then eqOut op false K else False
  | .ifc .., .ni => bif isIf P t then eqOut op false K else False
  | .mp none, .mp b => bif isMap P t then eqOut op b.isNone K else False
  | .mp (some _), .mp none => bif isMap P t then eqOut op false K else False
  | .ag xs, .ag ys => bif P.eqGuardType P.depth t then False else match aEq P 64 t (.ag xs) (.ag ys) with
    | some r => eqOut op r K
    | none => False
  | _, _ => False

def pUn (op : UnOp) (x : AV) (K : AV → Prop) : Prop :=
  match op, x with
  | .neg, .i k n => K (.i k (k.wrap (0 - n)))
  | .xor, .i k n => K (.i k (bitsOp .xor k (if k.signed then -1 else k.max) n))
  | .not, .b c => K (.b (!c))
  | _, _ => False

def pConvInt (k : IntKind) (x : AV) (K : AV → Prop) : Prop :=
  match x with
  | .i _ n => K (.i k (k.wrap n))
  | _ => False
def pConvStr (x : AV) (K : AV → Prop) : Prop :=
  match x with
  | .s _ => K x
  | _ => False

/-- The cells of a slice (of elements of sz cells). -/
def slCells (sz : Nat) (x : AV) (h : AHeap) (K : List AV → Prop) : Prop :=
  match x with
  | .sl none _ _ => K []
  | .sl (some a) len _ => ∃ b, h[a.id]? = some b ∧ b.sz = sz ∧ rdOK b a (len * sz) ∧ K ((b.cells.drop a.off).take (len * sz))
  | _ => False

def isByte : AV → Bool
  | .i .u8 _ => true
  | _ => false
def toByte : AV → UInt8
  | .i _ n => UInt8.ofNat n.toNat
  | _ => 0
def byteAV (c : UInt8) : AV := .i .u8 (c.toNat : Int)

def pBytesStr (x : AV) (h : AHeap) (K : List UInt8 → Prop) : Prop :=
  slCells 1 x h fun cs => cs.all isByte = true ∧ K (cs.map toByte)

def pIface (t : TypeId) (x : AV) (K : AV → Prop) : Prop := K (.ifc t x)

/-- A bound of a slice expression, lo to hi. -/
def bound (x : Option AV) (dflt : Nat) (K : Nat → Prop) : Prop :=
  match x with
  | none => K dflt
  | some (.i _ n) => 0 ≤ n ∧ K n.toNat
  | _ => False

def pSliceStr (x : AV) (lo hi : Option AV) (K : List UInt8 → Prop) : Prop :=
  match x with
  | .s l => bound hi l.length fun m => bound lo 0 fun n => n ≤ m ∧ m ≤ l.length ∧ K ((l.take m).drop n)
  | _ => False

/-- x[lo:hi:mx] of a slice: what is reached lies in what is known. -/
def pSliceSl (sz : Nat) (x : AV) (lo hi mx : Option AV) (h : AHeap) (K : AV → Prop) : Prop :=
  match x with
  | .sl none _ _ => bound mx 0 fun m => bound hi 0 fun j => bound lo 0 fun i => m = 0 ∧ j = 0 ∧ i = 0 ∧ (mx.isSome = true → hi.isSome = true) ∧ K (.sl none 0 none)
  | .sl (some a) len cap => 0 < sz ∧ (mx.isSome = true → hi.isSome = true) ∧
      bound hi len fun j => bound lo 0 fun i => i ≤ j ∧
        (∃ b, h[a.id]? = some b ∧ b.floor ≤ b.cells.length ∧ b.floor ≤ a.ver ∧ b.sz = sz ∧
          match mx with
          | none => (j ≤ len ∨ (cap = none ∧ a.off + j * sz ≤ a.ver) ∨ (∃ c, cap = some c ∧ j ≤ c)) ∧ K (.sl (some ⟨a.id, a.ver, a.off + i * sz⟩) (j - i) (cap.map (· - i)))
          | some m => bound (some m) 0 fun m => j ≤ m ∧ (m ≤ len ∨ (cap = none ∧ a.off + m * sz ≤ a.ver) ∨ (∃ c, cap = some c ∧ m ≤ c)) ∧ K (.sl (some ⟨a.id, a.ver, a.off + i * sz⟩) (j - i) (some (m - i))))
  | _ => False

/-- A slice of an array of n elements behind a pointer. -/
def pSliceArr (n sz : Nat) (x : AV) (lo hi : Option AV) (h : AHeap) (K : AV → Prop) : Prop :=
  match x with
  | .p (some a) => 0 < sz ∧ bound hi n fun j => bound lo 0 fun i => i ≤ j ∧ j ≤ n ∧
      ∃ b, h[a.id]? = some b ∧ b.sz = sz ∧ rdOK b a (n * sz) ∧ K (.sl (some ⟨a.id, a.ver, a.off + i * sz⟩) (j - i) (some (n - i)))
  | _ => False

def pFieldAddr (off : Nat) (x : AV) (K : AV → Prop) : Prop :=
  match x with
  | .p (some a) => K (.p (some ⟨a.id, a.ver, a.off + off⟩))
  | _ => False
def pField1 (off : Nat) (x : AV) (K : AV → Prop) : Prop :=
  match x with
  | .ag cs => off < cs.length ∧ K (cs.getD off .u)
  | _ => False
def pFieldN (off n : Nat) (x : AV) (K : AV → Prop) : Prop :=
  match x with
  | .ag cs => K (.ag ((cs.drop off).take n))
  | _ => False

def pIdxAddrSl (sz : Nat) (x i : AV) (h : AHeap) (K : AV → Prop) : Prop :=
  match x, i with
  | .sl (some a) len _, .i _ n => 0 ≤ n ∧ n < len ∧ (∃ b, h[a.id]? = some b ∧ b.floor ≤ a.ver ∧ b.floor ≤ b.cells.length) ∧ K (.p (some ⟨a.id, a.ver, a.off + n.toNat * sz⟩))
  | _, _ => False
def pIdxAddrArr (len sz : Nat) (x i : AV) (K : AV → Prop) : Prop :=
  match x, i with
  | .p (some a), .i _ n => 0 ≤ n ∧ n < len ∧ K (.p (some ⟨a.id, a.ver, a.off + n.toNat * sz⟩))
  | _, _ => False
def pIdxStr (x i : AV) (K : Int → Prop) : Prop :=
  match x, i with
  | .s l, .i _ n => 0 ≤ n ∧ n < l.length ∧ K ((l.getD n.toNat 0).toNat : Int)
  | _, _ => False
def pIdxArr1 (len : Nat) (x i : AV) (K : AV → Prop) : Prop :=
  match x, i with
  | .ag cs, .i _ n => 0 ≤ n ∧ n < len ∧ n < cs.length ∧ K (cs.getD n.toNat .u)
  | _, _ => False

def pExtract (i : Nat) (x : AV) (K : AV → Prop) : Prop :=
  match x with
  | .tu vs => i < vs.length ∧ K (vs.getD i .u)
  | _ => False

def pLenStr (x : AV) (K : Int → Prop) : Prop :=
  match x with
  | .s l => K l.length
  | _ => False
def pLenSl (x : AV) (K : Int → Prop) : Prop :=
  match x with
  | .sl _ n _ => K n
  | _ => False
def mmI (mx : Bool) (a b : Int) : Int := bif mx then (if b > a then b else a) else (if b < a then b else a)
def pMM (mx : Bool) (xs : List AV) (K : AV → Prop) : Prop :=
  match xs with
  | [.i k a, .i _ b] => K (.i k (mmI mx a b))
  | [.i k a, .i _ b, .i _ c] => K (.i k (mmI mx (mmI mx a b) c))
  | _ => False

/-- places of the parts of a struct or array -/
def fillA : List AV → List (Nat × Nat × AV) → Option (List AV)
  | cells, [] => some cells
  | cells, (off, size, v) :: rest =>
    if v.sizeOK && v.parts.length == size && off + v.parts.length ≤ cells.length then fillA (v.parts.zipIdx.foldl (fun cs (c, j) => cs.set (off + j) c) cells) rest else none

def pBuild (zeros : List AV) (parts : List (Nat × Nat × AV)) (K : AV → Prop) : Prop :=
  match fillA zeros parts with
  | some cs => K (.ag cs)
  | none => False

/-! ### primitives that make or write memory -/

def newBlk (cells : List AV) (sz : Nat) (ex : Bool) : ABlk := ⟨cells, sz, cells.length, ex, false, false⟩

def pAlloc (cells : List AV) (h : AHeap) (K : AV → AHeap → Prop) : Prop :=
  K (.p (some ⟨h.length, cells.length, 0⟩)) (h ++ [newBlk cells 1 true])

def pBox (x : AV) (h : AHeap) (K : AV → AHeap → Prop) : Prop :=
  x.sizeOK = true ∧ K (.p (some ⟨h.length, x.parts.length, 0⟩)) (h ++ [newBlk x.parts 1 true])

def pBuildSl (sz len : Nat) (zeros : List AV) (parts : List (Nat × Nat × AV)) (h : AHeap) (K : AV → AHeap → Prop) : Prop :=
  match fillA zeros parts with
  | some cs => cs.length = len * sz ∧ K (.sl (some ⟨h.length, cs.length, 0⟩) len none) (h ++ [newBlk cs sz true])
  | none => False

def wr : List AV → Nat → List AV → List AV
  | cs, _, [] => cs
  | cs, o, x :: r => wr (cs.set o x) (o + 1) r

def pStore (n : Nat) (x v : AV) (h : AHeap) (K : AHeap → Prop) : Prop :=
  match x with
  | .p (some a) => ∃ b, h[a.id]? = some b ∧ b.ro = false ∧ b.floor ≤ a.ver ∧ a.ver = b.cells.length ∧ a.off + n ≤ a.ver ∧
      v.sizeOK = true ∧ v.parts.length = n ∧ v.parts.all AV.cellOK = true ∧ K (h.set a.id { b with cells := wr b.cells a.off v.parts, floor := b.cells.length })
  | _ => False

def pStrBytes (x : AV) (h : AHeap) (K : AV → AHeap → Prop) : Prop :=
  match x with
  | .s l => K (.sl (some ⟨h.length, l.length, 0⟩) l.length none) (h ++ [newBlk (l.map byteAV) 1 false])
  | _ => False

def pMake (sz bytes : Nat) (zeros : List AV) (len cap : AV) (h : AHeap) (K : AV → AHeap → Prop) : Prop :=
  match len, cap with
  | .i _ l, .i _ c => 0 ≤ l ∧ l ≤ c ∧ (bytes : Int) * c ≤ 281474976710656 ∧ c ≤ 9223372036854775807 ∧ zeros.length = sz ∧ 0 < sz ∧
      K (.sl (some ⟨h.length, c.toNat * sz, 0⟩) l.toNat none) (h ++ [newBlk (List.replicate c.toNat zeros).flatten sz true])
  | _, _ => False

/-- The elements that are appended: their cells and their number. -/
def newsOf (sz : Nat) (x : AV) (h : AHeap) (K : List AV → Nat → Prop) : Prop :=
  match x with
  | .sl none _ _ => K [] 0
  | .sl (some a) len c => slCells sz (.sl (some a) len c) h fun cs => K cs len
  | .s l => sz = 1 ∧ K (l.map byteAV) l.length
  | _ => False

def dead : ABlk := ⟨[], 1, 1, true, false, false⟩

/-- append: the way is the prover's choice; each is true of every capacity that the array may have. -/
def pAppend (sz bytes : Nat) (s x : AV) (h : AHeap) (K : AV → AHeap → Prop) : Prop :=
  0 < sz ∧ newsOf sz x h fun news k =>
    match s with
    | .sl none _ _ => k * bytes ≤ 140737488355328 ∧ (k : Int) ≤ 9223372036854775807 ∧ if k = 0 then K (.sl none 0 none) h else K (.sl (some ⟨h.length, news.length, 0⟩) k none) (h ++ [newBlk news sz false])
    | .sl (some a) len cap => (len + k) * bytes ≤ 140737488355328 ∧ ((len + k : Nat) : Int) ≤ 9223372036854775807 ∧
        ∃ b, h[a.id]? = some b ∧ b.sz = sz ∧ rdOK b a (len * sz) ∧
          (-- nothing is appended
           (k = 0 ∧ K s h) ∨
           -- the array is full: it is made anew
           (0 < k ∧ ((∃ c, cap = some c ∧ c < len + k) ∨ (b.ex = true ∧ a.ver = b.cells.length ∧ cap = none ∧ b.cells.length < a.off + (len + k) * sz)) ∧
             K (.sl (some ⟨h.length, ((b.cells.drop a.off).take (len * sz) ++ news).length, 0⟩) (len + k) none)
               (h ++ [newBlk ((b.cells.drop a.off).take (len * sz) ++ news) sz false])) ∨
           -- there is room in what is known: it is written in place
           (0 < k ∧ b.ro = false ∧ a.ver = b.cells.length ∧ a.off + (len + k) * sz ≤ b.cells.length ∧ (cap = none ∨ ∃ c, cap = some c ∧ len + k ≤ c) ∧ news.all AV.cellOK = true ∧
             K (.sl (some a) (len + k) cap) (h.set a.id { b with cells := wr b.cells (a.off + len * sz) news, floor := b.cells.length })) ∨
           -- the slice ends where what is known ends: the block grows
           (0 < k ∧ b.ro = false ∧ a.ver = b.cells.length ∧ a.off = 0 ∧ len * sz = b.cells.length ∧ cap = none ∧ b.ex = false ∧ b.gl = false ∧ news.all AV.cellOK = true ∧
             K (.sl (some ⟨a.id, (b.cells ++ news).length, 0⟩) (len + k) none) (h.set a.id { b with cells := b.cells ++ news })) ∨
           -- it ends there, but begins later: the block is given up for a new one
           (0 < k ∧ b.ro = false ∧ a.ver = b.cells.length ∧ a.off + len * sz = b.cells.length ∧ cap = none ∧ news.all AV.cellOK = true ∧
             K (.sl (some ⟨h.length, ((b.cells.drop a.off).take (len * sz) ++ news).length, 0⟩) (len + k) none)
               (h.set a.id dead ++ [newBlk ((b.cells.drop a.off).take (len * sz) ++ news) sz false])))
    | _ => False

def pCopy (sz : Nat) (d x : AV) (h : AHeap) (K : AV → AHeap → Prop) : Prop :=
  0 < sz ∧ newsOf sz x h fun news k =>
    match d with
    | .sl none _ _ => K (.i .i64 0) h
    | .sl (some a) len _ => ∃ b, h[a.id]? = some b ∧ b.sz = sz ∧ rdOK b a (len * sz) ∧ b.ro = false ∧ a.ver = b.cells.length ∧ (news.take (min k len * sz)).all AV.cellOK = true ∧
        K (.i .i64 (min k len : Nat)) (h.set a.id { b with cells := wr b.cells a.off (news.take (min k len * sz)), floor := b.cells.length })
    | _ => False

abbrev CallR := FuncId → List AV → AHeap → (AV → AHeap → Prop) → Prop

/-- Above it lie the numbers of the yields of the ranges over functions that are under way. -/
def yid0 : Nat := 1099511627776
def pCall (R : CallR) (f : FuncId) (args : List AV) (h : AHeap) (K : AV → AHeap → Prop) : Prop := bif Nat.blt f yid0 then R f args h K else False
def pCallV (R : CallR) (f : AV) (args : List AV) (h : AHeap) (K : AV → AHeap → Prop) : Prop :=
  match f with
  | .fn (.func f) first cap => pCall R f (first ++ args ++ cap) h K
  | .fn (.yield l) [] [] => R (yid0 + l) args h K
  | _ => False

/-! ### operations -/

def zeroO (P : Program) (t : TypeId) : Option (List AV) := ((P.info? t).bind (·.zero)).map fun z => (ofV z).parts

def zeroOK (P : Program) (t : TypeId) : Bool := match zeroO P t with
  | some zs => Nat.beq zs.length (P.cellsOf t)
  | none => false

def isAggT (P : Program) (t : TypeId) : Option Bool :=
  match P.underlying t with
  | some (.struct _) | some (.array _ _) => some true
  | some _ => some false
  | none => none

def placesOf (P : Program) (t : TypeId) (vs : List (Nat × AV)) : Option (List (Nat × Nat × AV)) :=
  match P.underlying t with
  | some (.struct fs) => bif fs.toList.all (fun f => (P.info? f.type).isSome) then vs.mapM fun (i, v) => (fs.toList[i]?).map fun f => (f.offset, P.cellsOf f.type, v) else none
  | some (.array _ e) => bif (P.info? e).isSome then some (vs.map fun (i, v) => (i * P.cellsOf e, P.cellsOf e, v)) else none
  | _ => none

/-- The operations that leave the heap alone. -/
def aopN (P : Program) (o : Oper) (e : Env) (h : AHeap) (K : AV → Prop) : Prop :=
  match o.op with
  | .move x | .assign x => K (ev e h x)
  | .pick c x y => pPick (ev e h c) (ev e h x) (ev e h y) K
  | .load t x =>
    match isAggT P t with
    | some true => pLoadN (P.cellsOf t) (ev e h x) h K
    | some false => pLoad1 (ev e h x) h K
    | none => False
  | .nilCheck x => pNil (ev e h x) K
  | .binOp op t x y _ => pBin P op t (ev e h x) (ev e h y) K
  | .unOp op _ x => pUn op (ev e h x) K
  | .convert src dst x =>
    match P.underlying src, P.underlying dst with
    | some _, some (.int k) => pConvInt k (ev e h x) K
    | some .string, some .string => pConvStr (ev e h x) K
    | some (.slice el), some .string => match P.underlying el with
      | some (.int .u8) => pBytesStr (ev e h x) h fun l => K (.s l)
      | _ => False
    | _, _ => False
  | .makeInterface t x => match P.underlying t with
    | some (.interface _) | none => False
    | some _ => pIface t (ev e h x) K
  | .makeFunc fn first cap => K (.fn fn (first.toList.map (ev e h)) (cap.toList.map (ev e h)))
  | .slice t x lo hi mx =>
    match P.underlying t with
    | some .string => match mx with
      | none => pSliceStr (ev e h x) (lo.map (ev e h)) (hi.map (ev e h)) fun l => K (.s l)
      | some _ => False
    | some (.slice el) => bif (P.info? el).isSome then pSliceSl (P.cellsOf el) (ev e h x) (lo.map (ev e h)) (hi.map (ev e h)) (mx.map (ev e h)) h K else False
    | some (.array n el) => match mx with
      | none => bif (P.info? el).isSome then pSliceArr n (P.cellsOf el) (ev e h x) (lo.map (ev e h)) (hi.map (ev e h)) h K else False
      | some _ => False
    | _ => False
  | .fieldAddr t x f =>
    match P.underlying t with
    | some (.struct fs) => match fs[f]? with
      | some fl => bif Nat.beq (P.cellsOf fl.type) 0 then False else pFieldAddr fl.offset (ev e h x) K
      | none => False
    | _ => False
  | .field t x f =>
    match P.underlying t with
    | some (.struct fs) => match fs[f]? with
      | some fl => match isAggT P fl.type with
        | some true => pFieldN fl.offset (P.cellsOf fl.type) (ev e h x) K
        | some false => pField1 fl.offset (ev e h x) K
        | none => False
      | none => False
    | _ => False
  | .indexAddr t x ix =>
    match P.underlying t with
    | some (.slice el) => bif (P.info? el).isSome then pIdxAddrSl (P.cellsOf el) (ev e h x) (ev e h ix) h K else False
    | some (.array n el) => bif (P.info? el).isSome then pIdxAddrArr n (P.cellsOf el) (ev e h x) (ev e h ix) K else False
    | _ => False
  | .index t x ix =>
    match P.underlying t with
    | some .string => pIdxStr (ev e h x) (ev e h ix) fun n => K (.i .u8 n)
    | some (.array n el) => match isAggT P el with
      | some false => bif Nat.beq (P.cellsOf el) 1 then pIdxArr1 n (ev e h x) (ev e h ix) K else False
      | _ => False
    | _ => False
  | .build t parts =>
    match zeroO P t, placesOf P t (parts.toList.map fun (i, x) => (i, ev e h x)) with
    | some zs, some ps => pBuild zs ps K
    | _, _ => False
  | .extract x i => pExtract i (ev e h x) K
  | .call { callee := .builtin .len, args, argTypes } =>
    match (argTypes[0]?).bind P.underlying with
    | some .string => match args.toList with
      | [x] => pLenStr (ev e h x) fun n => K (.i .i64 n)
      | _ => False
    | some (.slice _) => match args.toList with
      | [x] => pLenSl (ev e h x) fun n => K (.i .i64 n)
      | _ => False
    | some (.array n _) => match args.toList with
      | [_] => K (.i .i64 n)
      | _ => False
    | _ => False
  | .call { callee := .builtin .min, args, .. } => pMM false (args.toList.map (ev e h)) K
  | .call { callee := .builtin .max, args, .. } => pMM true (args.toList.map (ev e h)) K
  | _ => False

def isEff (P : Program) (o : Oper) : Bool :=
  match o.op with
  | .alloc _ | .box .. | .buildSlice .. | .store .. | .makeSlice .. => true
  | .convert src dst _ => match P.underlying src, P.underlying dst with
    | some .string, some (.slice _) => true
    | _, _ => false
  | .call { callee := .builtin b, .. } => match b with
    | .len | .min | .max => false
    | _ => true
  | .call _ => true
  | _ => false

/-- The operations that make or write memory, or call. -/
def aopE (P : Program) (R : CallR) (o : Oper) (e : Env) (h : AHeap) (K : AV → AHeap → Prop) : Prop :=
  match o.op with
  | .alloc t => match zeroO P t with
    | some zs => pAlloc zs h K
    | none => False
  | .box _ x => pBox (ev e h x) h K
  | .buildSlice t len parts =>
    match P.underlying t with
    | some (.slice el) => match zeroO P el with
      | some zs => bif Nat.blt 0 (P.cellsOf el) && Nat.ble (len * P.cellsOf el) 16777216 && Nat.beq zs.length (P.cellsOf el) then
          pBuildSl (P.cellsOf el) len (List.replicate len zs).flatten (parts.toList.map fun (i, x) => (i * P.cellsOf el, P.cellsOf el, ev e h x)) h K else False
      | none => False
    | _ => False
  | .store t a x => match isAggT P t with
    | some _ => pStore (P.cellsOf t) (ev e h a) (ev e h x) h (K (.tu []))
    | none => False
  | .makeSlice t l c =>
    match P.underlying t with
    | some (.slice el) => match zeroO P el with
      | some zs => pMake (P.cellsOf el) (P.bytesOf el) zs (ev e h l) (ev e h c) h K
      | none => False
    | _ => False
  | .convert src dst x =>
    match P.underlying src, P.underlying dst with
    | some .string, some (.slice el) => match P.underlying el with
      | some (.int .u8) => pStrBytes (ev e h x) h K
      | _ => False
    | _, _ => False
  | .call { callee := .builtin .append, args, argTypes } =>
    match (argTypes[0]?).bind P.underlying, (argTypes[1]?).bind P.underlying, args.toList with
    | some (.slice el), some (.slice _), [x, y] => bif zeroOK P el then pAppend (P.cellsOf el) (P.bytesOf el) (ev e h x) (ev e h y) h K else False
    | some (.slice el), some .string, [x, y] => bif zeroOK P el then pAppend (P.cellsOf el) (P.bytesOf el) (ev e h x) (ev e h y) h K else False
    | _, _, _ => False
  | .call { callee := .builtin .copy, args, argTypes } =>
    match (argTypes[0]?).bind P.underlying, args.toList with
    | some (.slice el), [x, y] => bif (P.info? el).isSome then pCopy (P.cellsOf el) (ev e h x) (ev e h y) h K else False
    | _, _ => False
  | .call { callee := .builtin _, .. } => False
  | .call { callee := .value (.func f), args, .. } => pCall R f (args.toList.map (ev e h)) h K
  | .call { callee := .value f, args, .. } => pCallV R (ev e h f) (args.toList.map (ev e h)) h K
  | _ => False

def aop (P : Program) (R : CallR) (o : Oper) (e : Env) (h : AHeap) (K : AV → AHeap → Prop) : Prop :=
  bif isEff P o then aopE P R o e h K else aopN P o e h fun v => K v h

def pGuard (want x : Bool) (A B : Prop) : Prop :=
  match want with
  | true => bif x then A else B
  | false => bif x then B else A

/-- One operation of a region, behind its guard. -/
def guardA (ops : Array Oper) (o : Oper) (e : Env) (A B : Env → Prop) : Prop :=
  match o.guard with
  | none => A e
  | some (j, want) =>
    match (ops[j]?).bind (·.dst) with
    | none => B e
    | some t => match lk e t with
      | .b x => pGuard want x (A (put e (some t) (.b want))) (B (put e (some t) (.b (!want))))
      | .tu _ => B e
      | _ => False

def dstOK (nt : Nat) (o : Oper) : Bool := match o.dst with | some d => Nat.blt d nt | none => true

def shapeO (P : Program) (o : Oper) (v : AV) (K : AV → Prop) : Prop :=
  match o.dst with
  | some _ => shape P o.type v K
  | none => K v

/-- nt: the number of temporaries. -/
def aOps (P : Program) (R : CallR) (nt : Nat) (ops : Array Oper) : List Oper → Env → AHeap → (Env → AHeap → Prop) → Prop
  | [], e, h, K => K e h
  | o :: rest, e, h, K => bif dstOK nt o then
      guardA ops o e (fun e => aop P R o e h fun v h' => shapeO P o v fun v => aOps P R nt ops rest (put e o.dst v) h' K) (fun e => aOps P R nt ops rest (put e o.dst (.tu [])) h K) else False

/-! ### Regions of open order -/

/-- An order in which a region's operations are taken: 'neu' is an operation that changes nothing, 'eff' one that must come just here (or, after 'alt', another one). -/
inductive Ord where
  | done
  | stop
  | neu (i : Nat) (r : Ord)
  | eff (i : Nat) (r alt : Ord)
deriving Inhabited

def Ord.isStop : Ord → Bool
  | .stop => true
  | _ => false

def readsA (P : Program) (o : Oper) : Bool :=
  (o.op.operands.toList.any fun | .global _ => true | _ => false) ||
  match o.op with
  | .load .. => true
  | .convert s _ _ => match P.underlying s with
    | some (.slice _) => true
    | _ => false
  | .slice t .. => match P.underlying t with
    | some .string => false
    | _ => true
  | .indexAddr t .. => match P.underlying t with
    | some (.slice _) => true
    | _ => false
  | _ => false

def sameAt (e : Env) (d : Option Nat) (v : AV) : Prop := match d with
  | some t => lk e t = v
  | none => True

/-- The operation, once more: it yields what it yielded. -/
def pendA (P : Program) (ops : Array Oper) (o : Oper) (e : Env) (h : AHeap) (A : Prop) : Prop :=
  let go : Prop := aopN P o (restr (o.looksAt ops) e) h fun v => shapeO P o v fun v => sameAt e o.dst v ∧ A
  match o.guard with
  | none => go
  | some (j, want) =>
    match (ops[j]?).bind (·.dst) with
    | none => sameAt e o.dst (.tu []) ∧ A
    | some t => match lk e t with
      | .b x => pGuard want x go (sameAt e o.dst (.tu []) ∧ A)
      | .tu _ => sameAt e o.dst (.tu []) ∧ A
      | _ => False

def againA (P : Program) (ops : Array Oper) (i : Nat) (e : Env) (h : AHeap) (A : Prop) : List Nat → Prop
  | [] => A
  | k :: r => match ops[k]? with
    | none => againA P ops i e h A r
    | some o => bif readsA P o && !isEff P o && !Region.waitsFor .any ops i k then pendA P ops o e h (againA P ops i e h A r) else againA P ops i e h A r

def aOrd (P : Program) (R : CallR) (nt : Nat) (ops : Array Oper) : Ord → List Nat → Env → AHeap → (Env → AHeap → Prop) → Prop
  | .done, _, e, h, K => K e h
  | .stop, _, _, _, _ => True
  | .neu i r, D, e, h, K => match ops[i]? with
    | none => False
    | some o => bif dstOK nt o && !isEff P o then
        guardA ops o e (fun e => aopN P o (restr (o.looksAt ops) e) h fun v => shapeO P o v fun v => aOrd P R nt ops r (i :: D) (put e o.dst v) h K)
          (fun e => aOrd P R nt ops r (i :: D) (put e o.dst (.tu [])) h K)
      else False
  | .eff i r alt, D, e, h, K => match ops[i]? with
    | none => False
    | some o => bif dstOK nt o then
        (let now : Prop := guardA ops o e (fun e => aop P R o (restr (o.looksAt ops) e) h fun v h' => shapeO P o v fun v =>
            bif isEff P o then againA P ops i (put e o.dst v) h' (aOrd P R nt ops r (i :: D) (put e o.dst v) h' K) D else aOrd P R nt ops r (i :: D) (put e o.dst v) h' K)
          (fun e => aOrd P R nt ops r (i :: D) (put e o.dst (.tu [])) h K)
        bif alt.isStop then now else now ∧ aOrd P R nt ops alt D e h K)
      else False

def dstAt (ops : Array Oper) (i : Nat) : Option Nat := (ops[i]?).bind (·.dst)
def looksO (ops : Array Oper) (i : Nat) : List Nat := match ops[i]? with
  | some o => o.looksAt ops
  | none => []
def clash (ops : Array Oper) (x y : Nat) : Bool := match dstAt ops x with
  | some d => (looksO ops y).contains d
  | none => false
def sameDst (ops : Array Oper) (x y : Nat) : Bool := match dstAt ops x, dstAt ops y with
  | some d, some d' => Nat.beq d d'
  | _, _ => false
def waits (ops : Array Oper) (x y : Nat) : Bool := Region.waitsFor .any ops x y

/-- An operation may be taken next. -/
def fits (ops : Array Oper) (eff : Bool) (D : List Nat) (x : Nat) : Bool :=
  (D.all fun j => (!clash ops j x || waits ops x j) && ((!clash ops x j && !sameDst ops x j) || (eff && waits ops x j))) &&
  (match ops[x]? with
   | some o => o.after.all fun e => !Region.binds .any e || D.contains e.on
   | none => false) && !D.contains x && (eff || !clash ops x x)

def heads : Ord → List Nat
  | .eff i _ alt => i :: heads alt
  | _ => []

/-- Nothing else is ready. -/
def onlyB (ops : Array Oper) (D E : List Nat) : Bool :=
  (List.range ops.size).all fun i => D.contains i || E.contains i || (List.range ops.size).any fun j => waits ops i j && !D.contains j

def ordOK (ops : Array Oper) : Bool → Ord → List Nat → Bool
  | _, .done, D => (List.range ops.size).all fun i => D.contains i
  | first, .stop, _ => !first
  | first, .neu i r, D => first && fits ops false D i && ordOK ops true r (i :: D)
  | first, .eff i r alt, D => (!first || onlyB ops D (i :: heads alt)) && fits ops true D i && ordOK ops true r (i :: D) && ordOK ops false alt D

inductive Ann where
  | leaf
  | ord (o : Ord)
  | seq (j : Nat) (live : List Nat) (a b : Ann)
  | br (a b : Ann)
  | one (a : Ann)
  | loop (j : Nat) (live : List Nat) (a : Ann)
deriving Inhabited

def Ann.a : Ann → Ann
  | .seq _ _ a _ | .br a _ | .one a | .loop _ _ a => a
  | .leaf | .ord _ => .leaf
def Ann.b : Ann → Ann
  | .seq _ _ _ b | .br _ b => b
  | _ => .leaf
def Ann.live : Ann → List Nat
  | .seq _ l _ _ | .loop _ l _ => l
  | _ => []
def Ann.o : Ann → Ord
  | .ord o => o
  | _ => .stop
def Ann.j : Ann → Nat
  | .seq j _ _ _ | .loop j _ _ => j
  | _ => 0

abbrev Kx := Exit → Env → AHeap → Prop

def kSeq (next : Env → AHeap → Prop) (K : Kx) : Kx
  | .normal, e, h => next e h
  | x, e, h => K x e h
def kBlock (id : Nat) (K : Kx) : Kx
  | .exit id', e, h => bif Nat.beq id' id then K .normal e h else K (.exit id') e h
  | x, e, h => K x e h

/-- The least predicate that is closed under F. -/
def aLoop (F : (Env → AHeap → Prop) → Env → AHeap → Prop) (e : Env) (h : AHeap) : Prop :=
  ∀ I : Env → AHeap → Prop, (∀ e h, F I e h → I e h) → I e h

def aexec (P : Program) (R : CallR) (nt : Nat) (ann : Ann) (c : Code) (e : Env) (h : AHeap) (K : Kx) : Prop :=
  match c with
  | .skip => K .normal e h
  | .region _ ops draw =>
    bif draw then (bif ordOK ops true ann.o [] then aOrd P R nt ops ann.o [] e h (K .normal) else False)
    else aOps P R nt ops ops.toList e h (K .normal)
  | .seq x y => aexec P R nt ann.a x e h (kSeq (fun e h => aexec P R nt ann.b y (restr ann.live e) h K) K)
  | .cond c x y => aIf (ev e h c) (aexec P R nt ann.a x e h K) (aexec P R nt ann.b y e h K)
  | .block id x => aexec P R nt ann.a x e h (kBlock id K)
  | .loop x => aLoop (fun I e h => aexec P R nt ann.a x e h (kSeq (fun e h => I (restr ann.live e) h) K)) (restr ann.live e) h
  | .exit id => K (.exit id) e h
  | .label _ => K .normal e h
  | .ret => K .ret e h
  | _ => False

def initEnv : Nat → List AV → Env
  | _, [] => []
  | k, v :: r => (k, v) :: initEnv (k + 1) r

/-! ### places in a text: a path down a body (0: the first part, 1: the second) -/

def loopF (P : Program) (R : CallR) (nt : Nat) (ann : Ann) (x : Code) (K : Kx) : (Env → AHeap → Prop) → Env → AHeap → Prop :=
  fun I e h => aexec P R nt ann.a x e h (kSeq (fun e h => I (restr ann.live e) h) K)

/-- The code at a place, run with all that comes behind it; 'head': at a loop's head; 'round': one round of it. -/
inductive Way where
  | run | head | round

def aAt (P : Program) (R : CallR) (nt : Nat) (way : Way) : List Nat → Ann → Code → Env → AHeap → Kx → Prop
  | [], ann, c, e, h, K =>
    match way with
    | .run => aexec P R nt ann c e h K
    | .head => match c with
      | .loop x => aLoop (loopF P R nt ann x K) e h
      | _ => False
    | .round => match c with
      | .loop x => loopF P R nt ann x K (aLoop (loopF P R nt ann x K)) e h
      | _ => False
  | d :: path, ann, c, e, h, K =>
    match c with
    | .seq x y => bif Nat.beq d 0 then aAt P R nt way path ann.a x e h (kSeq (fun e h => aexec P R nt ann.b y (restr ann.live e) h K) K) else aAt P R nt way path ann.b y e h K
    | .cond _ x y => bif Nat.beq d 0 then aAt P R nt way path ann.a x e h K else aAt P R nt way path ann.b y e h K
    | .block id x => aAt P R nt way path ann.a x e h (kBlock id K)
    | .loop x => aAt P R nt way path ann.a x e h (kSeq (fun e h => aLoop (loopF P R nt ann x K) (restr ann.live e) h) K)
    | _ => False

/-! ### calls -/

/-- Renaming at a return: the blocks 'keep' move down to n, n + 1, .. -/
def renId (n : Nat) (keep : List Nat) (id : Nat) : Nat := if id < n then id else n + keep.idxOf id
def okId (n : Nat) (keep : List Nat) (id : Nat) : Bool := decide (id < n) || keep.contains id
def renA (n : Nat) (keep : List Nat) (a : AA) : AA := ⟨renId n keep a.id, a.ver, a.off⟩

def ren1 (n : Nat) (keep : List Nat) : AV → AV
  | .p (some a) => .p (some (renA n keep a))
  | .sl (some a) l c => .sl (some (renA n keep a)) l c
  | v => v
def ok1 (n : Nat) (keep : List Nat) : AV → Bool
  | .p (some a) => okId n keep a.id
  | .sl (some a) _ _ => okId n keep a.id
  | .b _ | .i _ _ | .s _ | .p none | .sl none _ _ | .nf | .ni | .u => true
  | _ => false
def ren (n : Nat) (keep : List Nat) : AV → AV
  | .ag cs => .ag (cs.map (ren1 n keep))
  | .tu cs => .tu (cs.map (ren1 n keep))
  | v => ren1 n keep v
def okR (n : Nat) (keep : List Nat) : AV → Bool
  | .ag cs | .tu cs => cs.all (ok1 n keep)
  | v => ok1 n keep v

def renB (n : Nat) (keep : List Nat) (b : ABlk) : ABlk := { b with cells := b.cells.map (ren1 n keep), gl := false }

/-- What is handed back, with the heap; or, of the heap, what was there, and the blocks 'keep', moved down. -/
def kRet (h0 : AHeap) (K : AV → AHeap → Prop) (r : AV) (h : AHeap) : Prop :=
  K r h ∨ ∃ keep : List Nat, keep.Nodup ∧ okR h0.length keep r = true ∧
    (∀ id ∈ keep, h0.length ≤ id ∧ ∃ b, h[id]? = some b ∧ b.cells.all (ok1 h0.length keep) = true) ∧
    (∀ id, id < h0.length → h[id]? = h0[id]? ∨ ∃ b, h[id]? = some b ∧ b.cells.all (ok1 h0.length []) = true) ∧
    h0.length ≤ h.length ∧
    K (ren h0.length keep r) (h.take h0.length ++ keep.filterMap fun id => (h[id]?).map (renB h0.length keep))

def resA (P : Program) (h : AHeap) (e : Env) (r : ResultVar) (K : AV → Prop) : Prop :=
  match r with
  | .tmp t => K (lk e t)
  | .cell a t => match isAggT P t with
    | some true => pLoadN (P.cellsOf t) (lk e a) h K
    | some false => pLoad1 (lk e a) h K
    | none => False

def resAll (P : Program) (h : AHeap) (e : Env) : List ResultVar → (List AV → Prop) → Prop
  | [], K => K []
  | r :: rs, K => resA P h e r fun v => resAll P h e rs fun vs => K (v :: vs)

def tup : List AV → AV
  | [v] => v
  | vs => .tu vs

def kFun (P : Program) (fn : Func) (K : AV → AHeap → Prop) : Kx
  | .normal, e, h | .ret, e, h => resAll P h e fn.results.toList fun vs => K (tup vs) h
  | _, _, _ => False

/-- One call of a function with a body. -/
def aF (P : Program) (R : CallR) (f : FuncId) (args : List AV) (h : AHeap) (K : AV → AHeap → Prop) : Prop :=
  ∃ fn body ann, P.funcs[f]? = some fn ∧ fn.body = some body ∧ (fn.name == "runtime.NumGoroutine") = false ∧ args.length ≤ fn.ntmps ∧
    aexec P R fn.ntmps ann body (initEnv 0 args) h (kFun P fn (kRet h K))

/-- Calls: the least relation closed under the bodies, and under rules X for functions that are given. -/
def acall (P : Program) (X : CallR) (f : FuncId) (args : List AV) (h : AHeap) (K : AV → AHeap → Prop) : Prop :=
  ∀ R : CallR, (∀ f args h K K', (∀ v h, K v h → K' v h) → R f args h K → R f args h K') → (∀ f args h K, X f args h K → R f args h K) → (∀ f args h K, aF P R f args h K → R f args h K) → R f args h K

end Go.GAM
