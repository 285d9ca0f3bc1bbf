/- Lemmas (several texts in one). -/
import Derived.Tactics
import Derived.Below
import Derived.StillTail
import Derived.Laws.StructEq
import Derived.Laws.Slices
import Derived.Laws.IdiomStrings
import Derived.Laws.IdiomCopy
import Derived.Laws.Append
import Derived.Laws.MakeOwn
import Derived.TacticsIn
import Derived.OrdersIn
import Derived.RangeFuncLeaves
import Derived.RangeFuncRecord
import Derived.Lib.AppendZeros
namespace Go.GAM
structure AA where
 id:Nat
 ver:Nat
 off:Nat
deriving DecidableEq,Inhabited
inductive AV where
 | u
 | b (x:Bool)
 | i (k:IntKind) (n:Int)
 | s (l:List UInt8)
 | p (a:Option AA)
 | sl (a:Option AA) (len:Nat) (cap:Option Nat)
 | ag (cs:List AV)
 | tu (vs:List AV)
 | fn (f:Fn) (first cap:List AV)
 | nf
 | ifc (t:TypeId) (v:AV)
 | ni
 | mp (r:Option Nat)
deriving Inhabited
structure ABlk where
 cells:List AV
 sz:Nat
 floor:Nat
 ex:Bool
 ro:Bool
 gl:Bool:=false
 mp:Option (List (AV × AV) ⊕ Loop):=none
 ty:Option TypeId:=none
abbrev aA:=List ABlk
abbrev Env:=List (Nat × AV)
def aBC:Value→AV
 | .bool x=>.b x
 | .int k n=>.i k n
 | .string s=>.s s.data.toList
 | .pointer none=>.p none
 | .slice none 0 0=>.sl none 0 none
 | .nilFunc=>.nf
 | .nilIface=>.ni
 | .map none=>.mp none
 | _=>.u
def ofV:Value→AV
 | .agg cs=>.ag (cs.toList.map aBC)
 | .tuple cs=>.tu (cs.toList.map aBC)
 | .iface t v=>.ifc t (aBC v)
 | v=>aBC v
def AV.parts:AV→List AV
 | .ag cs=>cs
 | v=>[v]
def AV.cellOK:AV→Bool
 | .u | .ag _ | .tu _=>false
 | _=>true
def AV.sizeOK:AV→Bool
 | .u=>false
 | _=>true
def AV.leaf:AV→Bool
 | .b _ | .i _ _ | .s _ | .p none | .sl none 0 none | .nf | .ni | .mp none=>true
 | _=>false
def AV.pure:AV→Bool
 | .ag cs | .tu cs=>cs.all AV.leaf
 | v=>v.leaf
def lk:Env→Nat→AV
 | [],_=>.u
 | (t,v) :: r,n=>bif Nat.beq t n then v else lk r n
def put (e:Env) (d:Option Nat) (v:AV):Env:=
 match d with
 | some t=>(t,v) :: e
 | none=>e
def restr (L:List Nat) (e:Env):Env:=L.map fun t=>(t,lk e t)
def aIC (h:aA) (g:Nat):AV:=
 match h[g]? with
 | some b=>bif b.gl&&Nat.ble b.floor b.cells.length then .p (some ⟨g,b.cells.length,0⟩) else .u
 | none=>.u
def ev (e:Env) (h:aA):Operand→AV
 | .tmp t=>lk e t
 | .const v=>ofV v
 | .global g=>aIC h g
 | .func f=>.fn (.func f) [] []
def aDL (b:ABlk) (a:AA) (n:Nat):Prop:=b.floor≤a.ver∧a.ver≤b.cells.length∧a.off+n≤a.ver
def aIf (c:AV) (A B:Prop):Prop:=
 match c with
 | .b true=>A
 | .b false=>B
 | _=>False
def kc:IntKind→Nat
 | .i8=>0 | .i16=>1 | .i32=>2 | .i64=>3 | .u8=>4 | .u16=>5 | .u32=>6 | .u64=>7
def kEq (k k':IntKind):Bool:=Nat.beq (kc k) (kc k')
def asB (v:AV) (K:Bool→Prop):Prop:=
 match v with
 | .b c=>K c
 | _=>False
def asI (k:IntKind) (v:AV) (K:Int→Prop):Prop:=
 match v with
 | .i k' n=>bif kEq k k' then K n else False
 | _=>False
def asS (v:AV) (K:List UInt8→Prop):Prop:=
 match v with
 | .s l=>K l
 | _=>False
def shape (P:Program) (t:TypeId) (v:AV) (K:AV→Prop):Prop:=
 match P.underlying t with
 | some .bool=>asB v fun c=>K (.b c)
 | some (.int k)=>asI k v fun n=>K (.i k n)
 | some .string=>asS v fun l=>K (.s l)
 | _=>K v
def aST (c x y:AV) (K:AV→Prop):Prop:=aIf c (K x) (K y)
def aD (x:AV) (h:aA) (K:AV→Prop):Prop:=
 match x with
 | .p (some a)=>∃ b,h[a.id]? = some b∧aDL b a 1∧K (b.cells.getD a.off .u)
 | _=>False
def dC (n:Nat) (x:AV) (h:aA) (K:AV→Prop):Prop:=
 match x with
 | .p (some a)=>∃ b,h[a.id]? = some b∧aDL b a n∧K (.ag ((b.cells.drop a.off).take n))
 | _=>False
def aK (x:AV) (K:AV→Prop):Prop:=
 match x with
 | .p none | .ni | .nf | .u=>False
 | .fn (.func _) _ _=>K x
 | .fn _ _ _=>False
 | _=>K x
def bA (op:BinOp) (k:IntKind) (x y:Int):Int:=
 let a:=BitVec.ofInt k.bits x
 let b:=BitVec.ofInt k.bits y
 match op with
 | .and=>k.wrap (a &&& b).toNat
 | .or=>k.wrap (a ||| b).toNat
 | .xor=>k.wrap (a ^^^ b).toNat
 | _=>k.wrap (a &&& ~~~b).toNat
def aEq (P : Program) : Nat → TypeId → AV → AV → Option Bool
 | 0,_,_,_=>none
 | d + 1, t, x, y =>
  match P.underlying t,x,y with
  | some .bool,.b a,.b b=>some (a == b)
  | some (.int _),.i k a,.i k' b=>if k=k' then some (a == b) else none
  | some .string,.s a,.s b=>some (a == b)
  | some (.struct fs), .ag xs, .ag ys =>
   if P.stoodInHeld t then none else
   fs.toList.foldr (fun f acc=>
    if f.name = "_" then acc else
    let prt (cs:List AV):AV:=match P.underlying f.type with
     | some (.struct _) | some (.array _ _)=>.ag ((cs.drop f.offset).take (P.cellsOf f.type))
     | _=>cs.getD f.offset .u
    match aEq P d f.type (prt xs) (prt ys),acc with
    | some r,some a=>some (r&&a)
    | _,_=>none) (some true)
  | _,_,_=>none
def lF (P:Program) (t:TypeId):Bool:=match P.underlying t with | some (.pointer _)=>true | _=>false
def aDB (P:Program) (t:TypeId):Bool:=match P.underlying t with | some (.pointer e)=>(P.info? e).isSome | _=>false
def aMC (P:Program) (t:TypeId):Bool:=match P.underlying t with | some (.slice _)=>true | _=>false
def aGK (P:Program) (t:TypeId):Bool:=match P.underlying t with | some (.func ..)=>true | _=>false
def aHC (P:Program) (t:TypeId):Bool:=match P.underlying t with | some (.interface _)=>true | _=>false
def aCJ (P:Program) (t:TypeId):Bool:=match P.underlying t with | some (.map ..)=>true | _=>false
def eP (op:BinOp) (r:Bool) (K:AV→Prop):Prop:=
 match op with
 | .eql=>K (.b r)
 | .neq=>K (.b (!r))
 | _=>False
def mU (k:IntKind) (a b:Int) (K:Int→Prop):Prop:=0≤b∧K (k.wrap (a * 2 ^ (min b.toNat k.bits)))
def s9 (k:IntKind) (a b:Int) (K:Int→Prop):Prop:=0≤b∧K (a.fdiv (2 ^ (min b.toNat k.bits)))
def aD2 (k:IntKind) (a b:Int) (K:Int→Prop):Prop:=b≠0∧K (k.wrap (a.tdiv b))
def aDF (a b:Int) (K:Int→Prop):Prop:=b≠0∧K (a.tmod b)
def aHX (a b:List UInt8) (K:List UInt8→Prop):Prop:=((a.length+b.length:Nat):Int)≤9223372036854775807∧K (a++b)
def cI (P : Program) (op : BinOp) (t : TypeId) (x y : AV) (K : AV → Prop) : Prop :=
 match x,y with
 | .i k a, .i k' b =>
  match op with
  | .shl=>mU k a b fun n=>K (.i k n)
  | .shr=>s9 k a b fun n=>K (.i k n)
  | .add=>bif kEq k k' then K (.i k (k.wrap (a+b))) else False
  | .sub=>bif kEq k k' then K (.i k (k.wrap (a - b))) else False
  | .mul=>bif kEq k k' then K (.i k (k.wrap (a * b))) else False
  | .quo=>bif kEq k k' then aD2 k a b fun n=>K (.i k n) else False
  | .rem=>bif kEq k k' then aDF a b fun n=>K (.i k n) else False
  | .and=>bif kEq k k' then K (.i k (bA .and k a b)) else False
  | .or=>bif kEq k k' then K (.i k (bA .or k a b)) else False
  | .xor=>bif kEq k k' then K (.i k (bA .xor k a b)) else False
  | .andNot=>bif kEq k k' then K (.i k (bA .andNot k a b)) else False
  | .eql=>bif kEq k k' then K (.b (decide (a=b))) else False
  | .neq=>bif kEq k k' then K (.b (!decide (a=b))) else False
  | .lss=>bif kEq k k' then K (.b (decide (a<b))) else False
  | .leq=>bif kEq k k' then K (.b (decide (a≤b))) else False
  | .gtr=>bif kEq k k' then K (.b (decide (b<a))) else False
  | .geq=>bif kEq k k' then K (.b (decide (b≤a))) else False
 | .s a, .s b =>
  match op with
  | .add=>aHX a b fun l=>K (.s l)
  | .eql=>K (.b (decide (a=b)))
  | .neq=>K (.b (!decide (a=b)))
  | .lss=>K (.b (Op.bytesLess a b))
  | .leq=>K (.b (Op.bytesLess a b||decide (a=b)))
  | .gtr=>K (.b (!(Op.bytesLess a b||decide (a=b))))
  | .geq=>K (.b (!Op.bytesLess a b))
  | _=>False
 | .b a, .b b => match P.underlying t with
  | some .bool=>eP op (a == b) K
  | _=>False
 | .p none,.p b=>bif lF P t then eP op b.isNone K else False
 | .p (some _),.p none=>bif lF P t then eP op false K else False
 | .p (some a),.p (some b)=>bif aDB P t&&Nat.beq a.id b.id&&Nat.beq a.ver b.ver&&Nat.beq a.off b.off then eP op true K else False
 | .sl none _ _,.sl b _ _=>bif aMC P t then eP op b.isNone K else False
 | .sl (some _) _ _,.sl none _ _=>bif aMC P t then eP op false K else False
 | .nf,.nf=>bif aGK P t then eP op true K else False
 | .nf,.fn ..=>bif aGK P t then eP op false K else False
 | .fn ..,.nf=>bif aGK P t then eP op false K else False
 | .ni,.ifc ..=>bif aHC P t then eP op false K else False
 | .ifc ..,.ni=>bif aHC P t then eP op false K else False
 | .mp none,.mp b=>bif aCJ P t then eP op b.isNone K else False
 | .mp (some _),.mp none=>bif aCJ P t then eP op false K else False
 | .ag xs, .ag ys => bif P.eqGuardType P.depth t then False else match aEq P 64 t (.ag xs) (.ag ys) with
  | some r=>eP op r K
  | none=>False
 | _,_=>False
def pUn (op:UnOp) (x:AV) (K:AV→Prop):Prop:=
 match op,x with
 | .neg,.i k n=>K (.i k (k.wrap (0 - n)))
 | .xor,.i k n=>K (.i k (bA .xor k (if k.signed then -1 else k.max) n))
 | .not,.b c=>K (.b (!c))
 | _,_=>False
def yX (k:IntKind) (x:AV) (K:AV→Prop):Prop:=
 match x with
 | .i _ n=>K (.i k (k.wrap n))
 | _=>False
def zS (x:AV) (K:AV→Prop):Prop:=
 match x with
 | .s _=>K x
 | _=>False
def nH (x:AV) (h:aA) (K:AV→Prop):Prop:=
 match x with
 | .p none=>K x
 | .p (some a)=>∃ b,h[a.id]? = some b∧aDL b a 1∧K x
 | _=>False
def eL (P:Program) (u:TypeId) (x:AV) (h:aA) (K:AV→Prop):Prop:=
 match x with
 | .p none=>K x
 | .p (some a)=>∃ b t,h[a.id]? = some b∧b.ty=some t∧b.floor≤b.cells.length∧a.ver=b.cells.length∧liesAt P P.depth t (b.cells.length / P.cellsOf t) a.off u 1=true∧K x
 | _=>False
def fG (sz:Nat) (x:AV) (h:aA) (K:List AV→Prop):Prop:=
 match x with
 | .sl none _ _=>K []
 | .sl (some a) len _=>(len=0∧K [])∨∃ b,h[a.id]? = some b∧aDL b a (len * sz)∧K ((b.cells.drop a.off).take (len * sz))
 | _=>False
def nW:AV→Bool
 | .i .u8 _=>true
 | _=>false
def toByte:AV→UInt8
 | .i _ n=>UInt8.ofNat n.toNat
 | _=>0
def byteAV (c:UInt8):AV:=.i .u8 (c.toNat:Int)
def cJ (x:AV) (h:aA) (K:List UInt8→Prop):Prop:=
 fG 1 x h fun cs=>cs.all nW=true∧K (cs.map toByte)
def aTZ (t:TypeId) (x:AV) (K:AV→Prop):Prop:=K (.ifc t x)
def gM (x:Option AV) (dflt:Nat) (K:Nat→Prop):Prop:=
 match x with
 | none=>K dflt
 | some (.i _ n)=>0≤n∧K n.toNat
 | _=>False
def bV (x:AV) (lo hi:Option AV) (K:List UInt8→Prop):Prop:=
 match x with
 | .s l=>gM hi l.length fun m=>gM lo 0 fun n=>n≤m∧m≤l.length∧K ((l.take m).drop n)
 | _=>False
def bW (sz:Nat) (x:AV) (lo hi mx:Option AV) (h:aA) (K:AV→Prop):Prop:=
  match x with
  | .sl none _ _=>gM mx 0 fun m=>gM hi 0 fun j=>gM lo 0 fun i=>m=0∧j=0∧i=0∧(mx.isSome=true→hi.isSome=true)∧K (.sl none 0 none)
  | .sl (some a) len cap => 0 < sz ∧ (mx.isSome = true → hi.isSome = true) ∧
      gM hi len fun j=>gM lo 0 fun i=>i≤j ∧
        (∃ b,h[a.id]? = some b∧b.floor≤b.cells.length∧b.floor≤a.ver∧(b.sz=sz∨(i=0∧mx.isNone=true∧(j≤len∨∃ c,cap=some c∧j≤c))) ∧
          match mx with
          | none=>(j≤len∨(cap=none∧a.off+j * sz≤a.ver)∨(∃ c,cap=some c∧j≤c))∧K (.sl (some ⟨a.id,a.ver,a.off+i * sz⟩) (j - i) (cap.map (· - i)))
          | some m=>gM (some m) 0 fun m=>j≤m∧(m≤len∨(cap=none∧a.off+m * sz≤a.ver)∨(∃ c,cap=some c∧m≤c))∧K (.sl (some ⟨a.id,a.ver,a.off+i * sz⟩) (j - i) (some (m - i))))
  | _=>False
def mV (n sz:Nat) (x:AV) (lo hi:Option AV) (h:aA) (K:AV→Prop):Prop:=
 match x with
 | .p (some a)=>0<sz∧gM hi n fun j=>gM lo 0 fun i=>i≤j∧j≤n ∧
   ∃ b,h[a.id]? = some b∧b.sz=sz∧aDL b a (n * sz)∧K (.sl (some ⟨a.id,a.ver,a.off+i * sz⟩) (j - i) (some (n - i)))
 | _=>False
def aB (off:Nat) (x:AV) (K:AV→Prop):Prop:=
 match x with
 | .p (some a)=>K (.p (some ⟨a.id,a.ver,a.off+off⟩))
 | _=>False
def uR (off:Nat) (x:AV) (K:AV→Prop):Prop:=
 match x with
 | .ag cs=>off<cs.length∧K (cs.getD off .u)
 | _=>False
def tS (off n:Nat) (x:AV) (K:AV→Prop):Prop:=
 match x with
 | .ag cs=>K (.ag ((cs.drop off).take n))
 | _=>False
def aU (sz:Nat) (x i:AV) (h:aA) (K:AV→Prop):Prop:=
 match x,i with
 | .sl (some a) len _,.i _ n=>0≤n∧n<len∧(∃ b,h[a.id]? = some b∧b.floor≤a.ver∧b.floor≤b.cells.length)∧K (.p (some ⟨a.id,a.ver,a.off+n.toNat * sz⟩))
 | _,_=>False
def bT (len sz:Nat) (x i:AV) (K:AV→Prop):Prop:=
 match x,i with
 | .p (some a),.i _ n=>0≤n∧n<len∧K (.p (some ⟨a.id,a.ver,a.off+n.toNat * sz⟩))
 | _,_=>False
def cK (x i:AV) (K:Int→Prop):Prop:=
 match x,i with
 | .s l,.i _ n=>0≤n∧n<l.length∧K ((l.getD n.toNat 0).toNat:Int)
 | _,_=>False
def qO (len:Nat) (x i:AV) (K:AV→Prop):Prop:=
 match x,i with
 | .ag cs,.i _ n=>0≤n∧n<len∧n<cs.length∧K (cs.getD n.toNat .u)
 | _,_=>False
def aO (i:Nat) (x:AV) (K:AV→Prop):Prop:=
 match x with
 | .tu vs=>i<vs.length∧K (vs.getD i .u)
 | _=>False
def yQ (x:AV) (K:Int→Prop):Prop:=
 match x with
 | .s l=>K l.length
 | _=>False
def bR (x:AV) (K:Int→Prop):Prop:=
 match x with
 | .sl _ n _=>K n
 | _=>False
def mmI (mx:Bool) (a b:Int):Int:=bif mx then (if b > a then b else a) else (if b<a then b else a)
def pMM (mx:Bool) (xs:List AV) (K:AV→Prop):Prop:=
 match xs with
 | [.i k a,.i _ b]=>K (.i k (mmI mx a b))
 | [.i k a,.i _ b,.i _ c]=>K (.i k (mmI mx (mmI mx a b) c))
 | _=>False
def eZ : List AV → List (Nat × Nat × AV) → Option (List AV)
 | cells,[]=>some cells
 | cells, (off, size, v) :: rest =>
  if v.sizeOK&&v.parts.length == size&&off+v.parts.length≤cells.length then eZ (v.parts.zipIdx.foldl (fun cs (c,j)=>cs.set (off+j) c) cells) rest else none
def f9 (zeros:List AV) (parts:List (Nat × Nat × AV)) (K:AV→Prop):Prop:=
 match eZ zeros parts with
 | some cs=>K (.ag cs)
 | none=>False
def bC (cells:List AV) (sz:Nat) (ex:Bool) (ty:Option TypeId:=none):ABlk:=⟨cells,sz,cells.length,ex,false,false,none,ty⟩
def eK (ty:Option TypeId) (cells:List AV) (h:aA) (K:AV→aA→Prop):Prop:=
 K (.p (some ⟨h.length,cells.length,0⟩)) (h++[bC cells 1 true ty])
def dS (ty:Option TypeId) (x:AV) (h:aA) (K:AV→aA→Prop):Prop:=
 x.sizeOK=true∧K (.p (some ⟨h.length,x.parts.length,0⟩)) (h++[bC x.parts 1 true ty])
def bP (sz len:Nat) (zeros:List AV) (parts:List (Nat × Nat × AV)) (h:aA) (K:AV→aA→Prop):Prop:=
 match eZ zeros parts with
 | some cs=>cs.length=len * sz∧K (.sl (some ⟨h.length,cs.length,0⟩) len none) (h++[bC cs sz true])
 | none=>False
def wr:List AV→Nat→List AV→List AV
 | cs,_,[]=>cs
 | cs,o,x :: r=>wr (cs.set o x) (o+1) r
def aP (n:Nat) (x v:AV) (h:aA) (K:aA→Prop):Prop:=
 match x with
 | .p (some a)=>∃ b,h[a.id]? = some b∧b.ro=false∧b.floor≤a.ver∧a.ver=b.cells.length∧a.off+n≤a.ver ∧
   v.sizeOK=true∧v.parts.length=n∧v.parts.all AV.cellOK=true∧K (h.set a.id { b with cells:=wr b.cells a.off v.parts,floor:=b.cells.length })
 | _=>False
def gX (x:AV) (h:aA) (K:AV→aA→Prop):Prop:=
 match x with
 | .s l=>K (.sl (some ⟨h.length,l.length,0⟩) l.length none) (h++[bC (l.map byteAV) 1 false])
 | _=>False
def xF (sz bytes:Nat) (zeros:List AV) (len cap:AV) (h:aA) (K:AV→aA→Prop):Prop:=
 match len,cap with
 | .i _ l,.i _ c=>0≤l∧l≤c∧(bytes:Int) * c≤281474976710656∧c≤9223372036854775807∧zeros.length=sz∧0<sz ∧
   K (.sl (some ⟨h.length,c.toNat * sz,0⟩) l.toNat none) (h++[bC (List.replicate c.toNat zeros).flatten sz true])
 | _,_=>False
def fH (sz:Nat) (x:AV) (h:aA) (K:List AV→Nat→Prop):Prop:=
 match x with
 | .sl none _ _=>K [] 0
 | .sl (some a) len c=>fG sz (.sl (some a) len c) h fun cs=>K cs len
 | .s l=>sz=1∧K (l.map byteAV) l.length
 | _=>False
def dead:ABlk:=⟨[],1,1,true,false,false,none,none⟩
def fX (es:List (AV × AV)):ABlk:=⟨[],1,1,true,false,false,some (.inl es),none⟩
def lB (rec:Loop):ABlk:=⟨[],1,1,true,false,false,some (.inr rec),none⟩
def aU2:List (AV × AV) ⊕ Loop→Option (List (AV × AV))
 | .inl es=>some es
 | .inr _=>none
def xE (P:Program) (t:TypeId):Bool:=match P.underlying t with
 | some (.int _) | some .string | some .bool=>true
 | _=>false
def aBH (P:Program) (t:TypeId):Bool:=match P.underlying t with
 | some (.int _) | some .string | some .bool=>true
 | some (.struct fs)=>fs.toList.all fun f=>xE P f.type
 | _=>false
def aMS (P : Program) (t : TypeId) (k : AV) : Bool := match P.underlying t with
 | some (.struct fs) => match k with
  | .ag cs=>fs.toList.all fun f=>Nat.blt f.offset cs.length
  | _=>false
 | _=>true
def xA:AV→Bool
 | .b _ | .i _ _ | .s _=>true
 | _=>false
def aB5:AV→Bool
 | .ag cs=>cs.all xA
 | v=>xA v
def sB (P : Program) (kt : TypeId) (k : AV) : List (AV × AV) → Nat → Option (Option (Nat × AV))
 | [],_=>some none
 | e :: r, i => match aEq P 64 kt k e.1 with
  | some true=>some (some (i,e.2))
  | some false=>sB P kt k r (i+1)
  | none=>none
def aG0 (x:AV) (h:aA):Option (List (AV × AV)):=match x with
 | .mp none=>some []
 | .mp (some id)=>((h[id]?).bind (·.mp)).bind aU2
 | _=>none
def aGS (P:Program) (t:TypeId):Option AV:=((P.info? t).bind (·.zero)).map ofV
def oE (P : Program) (kt el : TypeId) (ok : Bool) (x k : AV) (h : aA) (K : AV → Prop) : Prop :=
 aMS P kt k=true∧match aG0 x h with
 | none=>False
 | some es => match sB P kt k es 0 with
  | some (some (_,v))=>K (bif ok then .tu [v,.b true] else v)
  | some none => match aGS P el with
   | some z=>K (bif ok then .tu [z,.b false] else z)
   | none=>False
  | none=>False
def tL (h:aA) (K:AV→aA→Prop):Prop:=K (.mp (some h.length)) (h++[fX []])
def nY (P:Program) (kt:TypeId) (x k v:AV) (h:aA) (K:aA→Prop):Prop:=
 match x with
 | .mp (some id)=>aMS P kt k=true∧aB5 k=true∧∃ b es,h[id]? = some b∧b.mp=some (.inl es) ∧
   match sB P kt k es 0 with
   | some (some (i,_))=>(∃ v0,es[i]? = some (k,v0))∧K (h.set id (fX (es.set i (k,v))))
   | some none=>K (h.set id (fX (es++[(k,v)])))
   | none=>False
 | _=>False
def gW (a b:Option TypeId):Option TypeId:=match a,b with
 | some x,some y=>bif Nat.beq x y then some x else none
 | _,_=>none
def bU (ty : Option TypeId) (sz bytes : Nat) (s x : AV) (h : aA) (K : AV → aA → Prop) : Prop :=
  0 < sz ∧ fH sz x h fun news k =>
    match s with
    | .sl none _ _=>k * bytes≤140737488355328∧(k:Int)≤9223372036854775807∧if k=0 then K (.sl none 0 none) h else K (.sl (some ⟨h.length,news.length,0⟩) k none) (h++[bC news sz false ty])
    | .sl (some a) len cap => (len + k) * bytes ≤ 140737488355328 ∧ ((len + k : Nat) : Int) ≤ 9223372036854775807 ∧
        ∃ b, h[a.id]? = some b ∧ b.sz = sz ∧ aDL b a (len * sz) ∧
          (
           (k=0∧K s h) ∨
           (0<k∧((∃ c,cap=some c∧c<len+k)∨(b.ex=true∧a.ver=b.cells.length∧cap=none∧b.cells.length<a.off+(len+k) * sz)) ∧
             K (.sl (some ⟨h.length, ((b.cells.drop a.off).take (len * sz) ++ news).length, 0⟩) (len + k) none)
               (h++[bC ((b.cells.drop a.off).take (len * sz)++news) sz false ty])) ∨
           (0<k∧b.ro=false∧a.ver=b.cells.length∧a.off+(len+k) * sz≤b.cells.length∧(cap=none∨∃ c,cap=some c∧len+k≤c)∧news.all AV.cellOK=true ∧
             K (.sl (some a) (len+k) cap) (h.set a.id { b with cells:=wr b.cells (a.off+len * sz) news,floor:=b.cells.length })) ∨
           (0<k∧b.ro=false∧a.ver=b.cells.length∧a.off=0∧len * sz=b.cells.length∧cap=none∧b.ex=false∧b.gl=false∧news.all AV.cellOK=true ∧
             K (.sl (some ⟨a.id,(b.cells++news).length,0⟩) (len+k) none) (h.set a.id { b with cells:=b.cells++news,ty:=gW b.ty ty })) ∨
           (0<k∧b.ro=false∧a.ver=b.cells.length∧a.off+len * sz=b.cells.length∧cap=none∧news.all AV.cellOK=true ∧
             K (.sl (some ⟨h.length, ((b.cells.drop a.off).take (len * sz) ++ news).length, 0⟩) (len + k) none)
               (h.set a.id dead++[bC ((b.cells.drop a.off).take (len * sz)++news) sz false])))
    | _=>False
def uT (ty:Option TypeId) (sz bytes:Nat) (zeros:List AV) (s n:AV) (h:aA) (K:AV→aA→Prop):Prop:=
 match s,n with
 | .sl none _ _,.i .i64 n=>0<n∧n * (bytes:Int)≤140737488355328∧n≤1099511627776∧0<sz∧zeros.length=sz ∧
   K (.sl (some ⟨h.length,n.toNat * sz,0⟩) n.toNat none) (h++[bC (List.replicate n.toNat zeros).flatten sz false ty])
 | _,_=>False
def iA (x:AV) (h:aA) (K:AV→aA→Prop):Prop:=
 match x with
 | .sl none _ _=>K (.p none) h
 | .sl (some a) len _=>0<len∧K (.p (some a)) h
 | _=>False
def aRI (sz:Nat) (x:AV) (h:aA) (K:AV→aA→Prop):Prop:=
 match x with
 | .sl none _ _=>K (.i .i64 0) h
 | .sl (some _) _ (some c)=>K (.i .i64 (c:Nat)) h
 | .sl (some a) len none=>(∃ b c,h[a.id]? = some b∧b.floor≤b.cells.length∧b.ex=true∧a.ver=b.cells.length∧b.sz=sz∧0<sz∧a.off+c * sz=b.cells.length∧K (.i .i64 (c:Nat)) h) ∨
   (∀ c:Nat,len≤c→K (.i .i64 (c:Nat)) h)
 | _=>False
def mH (P:Program) (x n:AV) (h:aA) (K:AV→aA→Prop):Prop:=
 match x,n with
 | .p none,.i _ n=>n=0∧K (.s []) h
 | .p (some a),.i _ n=>∃ b t,h[a.id]? = some b∧b.ty=some t∧P.underlying t=some (.int .u8)∧P.cellsOf t=1∧0<n∧n≤9223372036854775807∧b.ro=false∧b.floor≤b.cells.length∧a.ver=b.cells.length ∧
   a.off+n.toNat≤b.cells.length∧((b.cells.drop a.off).take n.toNat).all nW=true∧K (.s (((b.cells.drop a.off).take n.toNat).map toByte)) (h.set a.id { b with ro:=true })
 | _,_=>False
def y2 (sz : Nat) (d x : AV) (h : aA) (K : AV → aA → Prop) : Prop :=
  0 < sz ∧ fH sz x h fun news k =>
    match d with
    | .sl none _ _=>K (.i .i64 0) h
    | .sl (some a) len _=>∃ b,h[a.id]? = some b∧b.sz=sz∧aDL b a (len * sz)∧b.ro=false∧a.ver=b.cells.length∧(news.take (min k len * sz)).all AV.cellOK=true ∧
        K (.i .i64 (min k len:Nat)) (h.set a.id { b with cells:=wr b.cells a.off (news.take (min k len * sz)),floor:=b.cells.length })
    | _=>False
abbrev a0:=FuncId→List AV→aA→(AV→aA→Prop)→Prop
def yid0:Nat:=1099511627776
def oF (R:a0) (f:FuncId) (args:List AV) (h:aA) (K:AV→aA→Prop):Prop:=bif Nat.blt f yid0 then R f args h K else False
def cL (R:a0) (f:AV) (args:List AV) (h:aA) (K:AV→aA→Prop):Prop:=
 match f with
 | .fn (.func f) first cap=>oF R f (first++args++cap) h K
 | .fn (.yield l) [] []=>R (yid0+l) args h K
 | _=>False
def aQU (P : Program) (t : TypeId) (name : String) : Option FuncId :=
 match (P.info? t).bind fun i=>i.methods.find? (·.name == name) with
 | some m => match m.path.toList, m.func with
  | [], some (f, pr) => match P.underlying t, pr with
   | some (.pointer _),true=>some f
   | some (.pointer _),false=>none
   | some _,false=>some f
   | _,_=>none
  | _,_=>none
 | none=>none
def yU (P : Program) (R : a0) (x : AV) (name : String) (args : List AV) (h : aA) (K : AV → aA → Prop) : Prop :=
 match x with
 | .ifc t v => match aQU P t name with
  | some f=>oF R f (v :: args) h K
  | none=>False
 | _=>False
def eW (P:Program) (t:TypeId):Option (List AV):=((P.info? t).bind (·.zero)).map fun z=>(ofV z).parts
def sR (P:Program) (t:TypeId):Bool:=match eW P t with
 | some zs=>Nat.beq zs.length (P.cellsOf t)
 | none=>false
def isB (P:Program) (t:TypeId):Bool:=match P.underlying t with
 | some (.int .u8)=>true
 | _=>false
def aTS (P:Program) (t:TypeId):Bool:=match P.underlying t with
 | some (.pointer u)=>isB P u
 | _=>false
def tyS (P:Program) (t:TypeId):Option TypeId:=match P.underlying t with
 | some (.struct _)=>some t
 | _=>none
def tyB (P:Program) (t:TypeId):Option TypeId:=match P.underlying t with
 | some (.int .u8)=>some t
 | _=>none
def dN (P:Program) (t:TypeId):Option Bool:=
 match P.underlying t with
 | some (.struct _) | some (.array _ _)=>some true
 | some _=>some false
 | none=>none
def uV (P:Program) (t:TypeId) (vs:List (Nat × AV)):Option (List (Nat × Nat × AV)):=
 match P.underlying t with
 | some (.struct fs)=>bif fs.toList.all (fun f=>(P.info? f.type).isSome) then vs.mapM fun (i,v)=>(fs.toList[i]?).map fun f=>(f.offset,P.cellsOf f.type,v) else none
 | some (.array _ e)=>bif (P.info? e).isSome then some (vs.map fun (i,v)=>(i * P.cellsOf e,P.cellsOf e,v)) else none
 | _=>none
def bX (P : Program) (o : Oper) (e : Env) (h : aA) (K : AV → Prop) : Prop :=
  match o.op with
  | .move x | .assign x=>K (ev e h x)
  | .pick c x y=>aST (ev e h c) (ev e h x) (ev e h y) K
  | .load t x =>
    match dN P t with
    | some true=>dC (P.cellsOf t) (ev e h x) h K
    | some false=>aD (ev e h x) h K
    | none=>False
  | .nilCheck x=>aK (ev e h x) K
  | .binOp op t x y _=>cI P op t (ev e h x) (ev e h y) K
  | .unOp op _ x=>pUn op (ev e h x) K
  | .convert src dst x =>
    match P.underlying src,P.underlying dst with
    | some _,some (.int k)=>yX k (ev e h x) K
    | some .string,some .string=>zS (ev e h x) K
    | some (.slice el), some .string => match P.underlying el with
      | some (.int .u8)=>cJ (ev e h x) h fun l=>K (.s l)
      | _=>False
    | some (.pointer t),some .unsafePointer=>bif Nat.beq (P.cellsOf t) 0 then False else nH (ev e h x) h K
    | some .unsafePointer,some (.pointer u)=>bif (P.info? u).isSome then eL P u (ev e h x) h K else False
    | _,_=>False
  | .makeInterface t x => match P.underlying t with
    | some (.interface _) | none=>False
    | some _=>aTZ t (ev e h x) K
  | .makeFunc fn first cap=>K (.fn fn (first.toList.map (ev e h)) (cap.toList.map (ev e h)))
  | .slice t x lo hi mx =>
    match P.underlying t with
    | some .string => match mx with
      | none=>bV (ev e h x) (lo.map (ev e h)) (hi.map (ev e h)) fun l=>K (.s l)
      | some _=>False
    | some (.slice el)=>bif (P.info? el).isSome then bW (P.cellsOf el) (ev e h x) (lo.map (ev e h)) (hi.map (ev e h)) (mx.map (ev e h)) h K else False
    | some (.array n el) => match mx with
      | none=>bif (P.info? el).isSome then mV n (P.cellsOf el) (ev e h x) (lo.map (ev e h)) (hi.map (ev e h)) h K else False
      | some _=>False
    | _=>False
  | .fieldAddr t x f =>
    match P.underlying t with
    | some (.struct fs) => match fs[f]? with
      | some fl=>bif Nat.beq (P.cellsOf fl.type) 0 then False else aB fl.offset (ev e h x) K
      | none=>False
    | _=>False
  | .field t x f =>
    match P.underlying t with
    | some (.struct fs) => match fs[f]? with
      | some fl => match dN P fl.type with
        | some true=>tS fl.offset (P.cellsOf fl.type) (ev e h x) K
        | some false=>uR fl.offset (ev e h x) K
        | none=>False
      | none=>False
    | _=>False
  | .indexAddr t x ix =>
    match P.underlying t with
    | some (.slice el)=>bif (P.info? el).isSome then aU (P.cellsOf el) (ev e h x) (ev e h ix) h K else False
    | some (.array n el)=>bif (P.info? el).isSome then bT n (P.cellsOf el) (ev e h x) (ev e h ix) K else False
    | _=>False
  | .index t x ix =>
    match P.underlying t with
    | some .string=>cK (ev e h x) (ev e h ix) fun n=>K (.i .u8 n)
    | some (.array n el) => match dN P el with
      | some false=>bif Nat.beq (P.cellsOf el) 1 then qO n (ev e h x) (ev e h ix) K else False
      | _=>False
    | _=>False
  | .build t parts =>
    match eW P t,uV P t (parts.toList.map fun (i,x)=>(i,ev e h x)) with
    | some zs,some ps=>f9 zs ps K
    | _,_=>False
  | .extract x i=>aO i (ev e h x) K
  | .lookup t x ix ok =>
    match P.underlying t with
    | some (.map kt el)=>bif aBH P kt then oE P kt el ok (ev e h x) (ev e h ix) h K else False
    | _=>False
  | .call { callee := .builtin .len, args, argTypes } =>
    match (argTypes[0]?).bind P.underlying with
    | some .string => match args.toList with
      | [x]=>yQ (ev e h x) fun n=>K (.i .i64 n)
      | _=>False
    | some (.slice _) => match args.toList with
      | [x]=>bR (ev e h x) fun n=>K (.i .i64 n)
      | _=>False
    | some (.array n _) => match args.toList with
      | [_]=>K (.i .i64 n)
      | _=>False
    | _=>False
  | .call { callee:=.builtin .min,args,.. }=>pMM false (args.toList.map (ev e h)) K
  | .call { callee:=.builtin .max,args,.. }=>pMM true (args.toList.map (ev e h)) K
  | _=>False
def eO (P : Program) (o : Oper) : Bool :=
 match o.op with
 | .alloc _ | .box .. | .buildSlice .. | .store .. | .makeSlice .. | .makeMap .. | .mapUpdate .. | .insert ..=>true
 | .convert src dst _ => match P.underlying src, P.underlying dst with
  | some .string,some (.slice _)=>true
  | _,_=>false
 | .call { callee := .builtin b, .. } => match b with
  | .len | .min | .max=>false
  | _=>true
 | .call _=>true
 | _=>false
def d9 (P : Program) (R : a0) (o : Oper) (e : Env) (h : aA) (K : AV → aA → Prop) : Prop :=
 match o.op with
 | .alloc t => match eW P t with
  | some zs=>eK (tyS P t) zs h K
  | none=>False
 | .box t x=>dS (tyS P t) (ev e h x) h K
 | .buildSlice t len parts =>
  match P.underlying t with
  | some (.slice el) => match eW P el with
   | some zs=>bif Nat.blt 0 (P.cellsOf el)&&Nat.ble (len * P.cellsOf el) 16777216&&Nat.beq zs.length (P.cellsOf el) then
     bP (P.cellsOf el) len (List.replicate len zs).flatten (parts.toList.map fun (i,x)=>(i * P.cellsOf el,P.cellsOf el,ev e h x)) h K else False
   | none=>False
  | _=>False
 | .store t a x => match dN P t with
  | some _=>aP (P.cellsOf t) (ev e h a) (ev e h x) h (K (.tu []))
  | none=>False
 | .makeSlice t l c =>
  match P.underlying t with
  | some (.slice el) => match eW P el with
   | some zs=>xF (P.cellsOf el) (P.bytesOf el) zs (ev e h l) (ev e h c) h K
   | none=>False
  | _=>False
 | .convert src dst x =>
  match P.underlying src,P.underlying dst with
  | some .string, some (.slice el) => match P.underlying el with
   | some (.int .u8)=>gX (ev e h x) h K
   | _=>False
  | _,_=>False
 | .call { callee := .builtin .append, args, argTypes } =>
  match (argTypes[0]?).bind P.underlying,(argTypes[1]?).bind P.underlying,args.toList with
  | some (.slice el),some (.slice _),[x,y]=>bif sR P el then bU (tyB P el) (P.cellsOf el) (P.bytesOf el) (ev e h x) (ev e h y) h K else False
  | some (.slice el),some .string,[x,y]=>bif sR P el then bU (tyB P el) (P.cellsOf el) (P.bytesOf el) (ev e h x) (ev e h y) h K else False
  | some (.slice el), some (.int _), [x, y] => match eW P el with
   | some zs=>uT (tyB P el) (P.cellsOf el) (P.bytesOf el) zs (ev e h x) (ev e h y) h K
   | none=>False
  | _,_,_=>False
 | .call { callee := .builtin .copy, args, argTypes } =>
  match (argTypes[0]?).bind P.underlying,args.toList with
  | some (.slice el),[x,y]=>bif (P.info? el).isSome then y2 (P.cellsOf el) (ev e h x) (ev e h y) h K else False
  | _,_=>False
 | .makeMap t none => match P.underlying t with
  | some (.map _ _)=>tL h K
  | _=>False
 | .mapUpdate t m k x | .insert t m k x => match P.underlying t with
  | some (.map kt _)=>bif aBH P kt then nY P kt (ev e h m) (ev e h k) (ev e h x) h (K (.tu [])) else False
  | _=>False
 | .call { callee := .builtin .unsafeSliceData, args, .. } =>
  match args.toList with
  | [x]=>iA (ev e h x) h K
  | _=>False
 | .call { callee := .builtin .cap, args, argTypes } =>
  match (argTypes[0]?).bind P.underlying,args.toList with
  | some (.slice el),[x]=>aRI (P.cellsOf el) (ev e h x) h K
  | _,_=>False
 | .call { callee := .builtin .unsafeString, args, argTypes } =>
  match argTypes.toList,args.toList with
  | [pt,_],[x,n]=>bif aTS P pt then mH P (ev e h x) (ev e h n) h K else False
  | _,_=>False
 | .call { callee:=.builtin _,.. }=>False
 | .call { callee:=.invoke r name,args,.. }=>yU P R (ev e h r) name (args.toList.map (ev e h)) h K
 | .call { callee:=.value (.func f),args,.. }=>oF R f (args.toList.map (ev e h)) h K
 | .call { callee:=.value f,args,.. }=>cL R (ev e h f) (args.toList.map (ev e h)) h K
 | _=>False
def aop (P:Program) (R:a0) (o:Oper) (e:Env) (h:aA) (K:AV→aA→Prop):Prop:=
 bif eO P o then d9 P R o e h K else bX P o e h fun v=>K v h
def y7 (want x:Bool) (A B:Prop):Prop:=
 match want with
 | true=>bif x then A else B
 | false=>bif x then B else A
def f8 (ops : Array Oper) (o : Oper) (e : Env) (A B : Env → Prop) : Prop :=
 match o.guard with
 | none=>A e
 | some (j, want) =>
  match (ops[j]?).bind (·.dst) with
  | none=>B e
  | some t => match lk e t with
   | .b x=>y7 want x (A (put e (some t) (.b want))) (B (put e (some t) (.b (!want))))
   | .tu _=>B e
   | _=>False
def iI (nt:Nat) (o:Oper):Bool:=match o.dst with | some d=>Nat.blt d nt | none=>true
def cP (P:Program) (o:Oper) (v:AV) (K:AV→Prop):Prop:=
 match o.dst with
 | some _=>shape P o.type v K
 | none=>K v
def aBD (P:Program) (R:a0) (nt:Nat) (ops:Array Oper):List Oper→Env→aA→(Env→aA→Prop)→Prop
 | [],e,h,K=>K e h
 | o :: rest, e, h, K => bif iI nt o then
   f8 ops o e (fun e=>aop P R o e h fun v h'=>cP P o v fun v=>aBD P R nt ops rest (put e o.dst v) h' K) (fun e=>aBD P R nt ops rest (put e o.dst (.tu [])) h K) else False
inductive Ord where
 | done
 | stop
 | neu (i:Nat) (r:Ord)
 | eff (i:Nat) (r alt:Ord)
deriving Inhabited
def Ord.isStop:Ord→Bool
 | .stop=>true
 | _=>false
def jY (P : Program) (o : Oper) : Bool :=
 (o.op.operands.toList.any fun | .global _=>true | _=>false) ||
 match o.op with
 | .load .. | .lookup ..=>true
 | .convert s _ _ => match P.underlying s with
  | some (.slice _) | some (.pointer _) | some .unsafePointer=>true
  | _=>false
 | .slice t .. => match P.underlying t with
  | some .string=>false
  | _=>true
 | .indexAddr t .. => match P.underlying t with
  | some (.slice _)=>true
  | _=>false
 | _=>false
def dM (e:Env) (d:Option Nat) (v:AV):Prop:=match d with
 | some t=>lk e t=v
 | none=>True
def xR (P : Program) (ops : Array Oper) (o : Oper) (e : Env) (h : aA) (A : Prop) : Prop :=
 let go:Prop:=bX P o (restr (o.looksAt ops) e) h fun v=>cP P o v fun v=>dM e o.dst v∧A
 match o.guard with
 | none=>go
 | some (j, want) =>
  match (ops[j]?).bind (·.dst) with
  | none=>dM e o.dst (.tu [])∧A
  | some t => match lk e t with
   | .b x=>y7 want x go (dM e o.dst (.tu [])∧A)
   | .tu _=>dM e o.dst (.tu [])∧A
   | _=>False
def aRN (ops:Array Oper):Nat→List Nat→List Nat
 | 0,s=>s
 | j+1,s=>aRN ops j (bif s.any (fun x=>Region.waitsFor .any ops x j) then j :: s else s)
def nN (ops:Array Oper) (i k:Nat):Bool:=Region.waitsFor .any ops i k||(aRN ops i [i]).any (Nat.beq k)
def iV (P : Program) (ops : Array Oper) (i : Nat) (e : Env) (h : aA) (A : Prop) : List Nat → Prop
 | []=>A
 | k :: r => match ops[k]? with
  | none=>iV P ops i e h A r
  | some o=>bif jY P o && !eO P o && !nN ops i k then xR P ops o e h (iV P ops i e h A r) else iV P ops i e h A r
def iB (P : Program) (R : a0) (nt : Nat) (ops : Array Oper) : Ord → List Nat → Env → aA → (Env → aA → Prop) → Prop
  | .done,_,e,h,K=>K e h
  | .stop,_,_,_,_=>True
  | .neu i r, D, e, h, K => match ops[i]? with
    | none=>False
    | some o => bif iI nt o && !eO P o then
        f8 ops o e (fun e=>bX P o (restr (o.looksAt ops) e) h fun v=>cP P o v fun v=>iB P R nt ops r (i :: D) (put e o.dst v) h K)
          (fun e=>iB P R nt ops r (i :: D) (put e o.dst (.tu [])) h K)
      else False
  | .eff i r alt, D, e, h, K => match ops[i]? with
    | none=>False
    | some o => bif iI nt o then
        (let now:Prop:=f8 ops o e (fun e=>aop P R o (restr (o.looksAt ops) e) h fun v h'=>cP P o v fun v=>
            bif eO P o then iV P ops i (put e o.dst v) h' (iB P R nt ops r (i :: D) (put e o.dst v) h' K) D else iB P R nt ops r (i :: D) (put e o.dst v) h' K)
          (fun e=>iB P R nt ops r (i :: D) (put e o.dst (.tu [])) h K)
        bif alt.isStop then now else now∧iB P R nt ops alt D e h K)
      else False
def uC (ops:Array Oper) (i:Nat):Option Nat:=(ops[i]?).bind (·.dst)
def aO2 (ops:Array Oper) (i:Nat):List Nat:=match ops[i]? with
 | some o=>o.looksAt ops
 | none=>[]
def mJ (ops:Array Oper) (x y:Nat):Bool:=match uC ops x with
 | some d=>(aO2 ops y).contains d
 | none=>false
def qR (ops:Array Oper) (x y:Nat):Bool:=match uC ops x,uC ops y with
 | some d,some d'=>Nat.beq d d'
 | _,_=>false
def lA (ops:Array Oper) (x y:Nat):Bool:=Region.waitsFor .any ops x y
def xX (ops:Array Oper) (eff:Bool) (D:List Nat) (x:Nat):Bool:=
  (D.all fun j=>(!mJ ops j x||lA ops x j)&&((!mJ ops x j && !qR ops x j)||(eff&&lA ops x j))) &&
  (match ops[x]? with
   | some o=>o.after.all fun e=>!Region.binds .any e||D.contains e.on
   | none=>false) && !D.contains x&&(eff || !mJ ops x x)
def aCY:Ord→List Nat
 | .eff i _ alt=>i :: aCY alt
 | _=>[]
def aSU (ops:Array Oper) (D E:List Nat):Bool:=
 (List.range ops.size).all fun i=>D.contains i||E.contains i||(List.range ops.size).any fun j=>lA ops i j && !D.contains j
def jD (ops:Array Oper):Bool→Ord→List Nat→Bool
 | _,.done,D=>(List.range ops.size).all fun i=>D.contains i
 | first,.stop,_=>!first
 | first,.neu i r,D=>first&&xX ops false D i&&jD ops true r (i :: D)
 | first,.eff i r alt,D=>(!first||aSU ops D (i :: aCY alt))&&xX ops true D i&&jD ops true r (i :: D)&&jD ops false alt D
inductive Ann where
 | leaf
 | ord (o:Ord)
 | seq (j:Nat) (live:List Nat) (a b:Ann)
 | br (a b:Ann)
 | one (a:Ann)
 | loop (j:Nat) (live:List Nat) (a:Ann)
deriving Inhabited
def Ann.a:Ann→Ann
 | .seq _ _ a _ | .br a _ | .one a | .loop _ _ a=>a
 | .leaf | .ord _=>.leaf
def Ann.b:Ann→Ann
 | .seq _ _ _ b | .br _ b=>b
 | _=>.leaf
def Ann.live:Ann→List Nat
 | .seq _ l _ _ | .loop _ l _=>l
 | _=>[]
def Ann.o:Ann→Ord
 | .ord o=>o
 | _=>.stop
def Ann.j:Ann→Nat
 | .seq j _ _ _ | .loop j _ _=>j
 | _=>0
abbrev Kx:=Exit→Env→aA→Prop
def pY (next:Env→aA→Prop) (K:Kx):Kx
 | .normal,e,h=>next e h
 | x,e,h=>K x e h
def gP (id:Nat) (K:Kx):Kx
 | .exit id',e,h=>bif Nat.beq id' id then K .normal e h else K (.exit id') e h
 | x,e,h=>K x e h
def wQ (K:Kx):Kx
 | .goto _,_,_=>False
 | x,e,h=>K x e h
def qD (F:(Env→aA→Prop)→Env→aA→Prop) (e:Env) (h:aA):Prop:=
 ∀ I:Env→aA→Prop,(∀ e h,F I e h→I e h)→I e h
def oM:Code→Nat→Bool
 | .seq a b,l=>oM a l||oM b l
 | .label l',l=>Nat.beq l' l
 | _,_=>false
def pM:Code→Bool
 | .goto _=>true
 | .seq a b | .cond _ a b=>pM a||pM b
 | .block _ c | .loop c | .scope c=>pM c
 | _=>false
def dX (x:Code) (I:Nat→Env→aA→Prop) (K:Kx):Kx
 | .goto l,e,h=>bif oM x l then I l e h else K (.goto l) e h
 | ex,e,h=>K ex e h
def lM (F:(Nat→Env→aA→Prop)→Nat→Env→aA→Prop) (l:Nat) (e:Env) (h:aA):Prop:=
 ∀ I:Nat→Env→aA→Prop,(∀ l e h,F I l e h→I l e h)→I l e h
mutual
def b9 (P : Program) (R : a0) (nt : Nat) (ann : Ann) (c : Code) (e : Env) (h : aA) (K : Kx) : Prop :=
 match c with
 | .skip=>K .normal e h
 | .region _ ops draw =>
  bif draw then (bif jD ops true ann.o [] then iB P R nt ops ann.o [] e h (K .normal) else False)
  else aBD P R nt ops ops.toList e h (K .normal)
 | .seq x y=>b9 P R nt ann.a x e h (pY (fun e h=>b9 P R nt ann.b y (restr ann.live e) h K) K)
 | .cond c x y=>aIf (ev e h c) (b9 P R nt ann.a x e h K) (b9 P R nt ann.b y e h K)
 | .block id x=>b9 P R nt ann.a x e h (gP id K)
 | .scope x=>bif pM x then b9 P R nt ann.a x e h (dX x (lM fun I l e h=>aFrom P R nt ann.a x l e h (dX x I K)) K)
   else b9 P R nt ann.a x e h (wQ K)
 | .loop x=>qD (fun I e h=>b9 P R nt ann.a x e h (pY (fun e h=>I (restr ann.live e) h) K)) (restr ann.live e) h
 | .exit id=>K (.exit id) e h
 | .label _=>K .normal e h
 | .goto l=>K (.goto l) e h
 | .ret=>K .ret e h
 | _=>False
termination_by structural c
def aFrom (P:Program) (R:a0) (nt:Nat) (ann:Ann) (c:Code) (l:Nat) (e:Env) (h:aA) (K:Kx):Prop:=
 match c with
 | .seq x y=>bif oM x l then aFrom P R nt ann.a x l e h (pY (fun e h=>b9 P R nt ann.b y (restr ann.live e) h K) K) else aFrom P R nt ann.b y l e h K
 | .label l'=>bif Nat.beq l' l then K .normal e h else False
 | _=>False
termination_by structural c
end
def fE:Nat→List AV→Env
 | _,[]=>[]
 | k,v :: r=>(k,v) :: fE (k+1) r
def oK (P:Program) (R:a0) (nt:Nat) (ann:Ann) (x:Code) (K:Kx):(Env→aA→Prop)→Env→aA→Prop:=
 fun I e h=>b9 P R nt ann.a x e h (pY (fun e h=>I (restr ann.live e) h) K)
inductive Way where
 | run | head | round
def aAt (P : Program) (R : a0) (nt : Nat) (way : Way) : List Nat → Ann → Code → Env → aA → Kx → Prop
 | [], ann, c, e, h, K =>
  match way with
  | .run=>b9 P R nt ann c e h K
  | .head => match c with
   | .loop x=>qD (oK P R nt ann x K) e h
   | _=>False
  | .round => match c with
   | .loop x=>oK P R nt ann x K (qD (oK P R nt ann x K)) e h
   | _=>False
 | d :: path, ann, c, e, h, K =>
  match c with
  | .seq x y=>bif Nat.beq d 0 then aAt P R nt way path ann.a x e h (pY (fun e h=>b9 P R nt ann.b y (restr ann.live e) h K) K) else aAt P R nt way path ann.b y e h K
  | .cond _ x y=>bif Nat.beq d 0 then aAt P R nt way path ann.a x e h K else aAt P R nt way path ann.b y e h K
  | .block id x=>aAt P R nt way path ann.a x e h (gP id K)
  | .scope x=>bif pM x then aAt P R nt way path ann.a x e h (dX x (lM fun I l e h=>aFrom P R nt ann.a x l e h (dX x I K)) K) else aAt P R nt way path ann.a x e h (wQ K)
  | .loop x=>aAt P R nt way path ann.a x e h (pY (fun e h=>qD (oK P R nt ann x K) (restr ann.live e) h) K)
  | _=>False
def oL (n:Nat) (keep:List Nat) (id:Nat):Nat:=if id<n then id else n+keep.idxOf id
def sX (n:Nat) (keep:List Nat) (id:Nat):Bool:=decide (id<n)||keep.contains id
def aL0 (n:Nat) (keep:List Nat) (a:AA):AA:=⟨oL n keep a.id,a.ver,a.off⟩
def z5 (n:Nat) (keep:List Nat):AV→AV
 | .p (some a)=>.p (some (aL0 n keep a))
 | .sl (some a) l c=>.sl (some (aL0 n keep a)) l c
 | v=>v
def ok1 (n:Nat) (keep:List Nat):AV→Bool
 | .p (some a)=>sX n keep a.id
 | .sl (some a) _ _=>sX n keep a.id
 | .b _ | .i _ _ | .s _ | .p none | .sl none _ _ | .nf | .ni | .u=>true
 | _=>false
def ren (n:Nat) (keep:List Nat):AV→AV
 | .ag cs=>.ag (cs.map (z5 n keep))
 | .tu cs=>.tu (cs.map (z5 n keep))
 | v=>z5 n keep v
def okR (n:Nat) (keep:List Nat):AV→Bool
 | .ag cs | .tu cs=>cs.all (ok1 n keep)
 | v=>ok1 n keep v
def j8 (n:Nat) (keep:List Nat) (b:ABlk):ABlk:={ b with cells:=b.cells.map (z5 n keep),gl:=false }
def aH (h0 : aA) (K : AV → aA → Prop) (r : AV) (h : aA) : Prop :=
 K r h ∨ ∃ keep : List Nat, keep.Nodup ∧ okR h0.length keep r = true ∧
  (∀ id∈keep,h0.length≤id∧∃ b,h[id]? = some b∧b.cells.all (ok1 h0.length keep)=true∧b.mp=none) ∧
  (∀ id,id<h0.length→h[id]? = h0[id]? ∨ ∃ b,h[id]? = some b∧b.cells.all (ok1 h0.length [])=true∧b.mp=none) ∧
  h0.length≤h.length ∧
  K (ren h0.length keep r) (h.take h0.length++keep.filterMap fun id=>(h[id]?).map (j8 h0.length keep))
def aM2 (P : Program) (h : aA) (e : Env) (r : ResultVar) (K : AV → Prop) : Prop :=
 match r with
 | .tmp t=>K (lk e t)
 | .cell a t => match dN P t with
  | some true=>dC (P.cellsOf t) (lk e a) h K
  | some false=>aD (lk e a) h K
  | none=>False
def fJ (P:Program) (h:aA) (e:Env):List ResultVar→(List AV→Prop)→Prop
 | [],K=>K []
 | r :: rs,K=>aM2 P h e r fun v=>fJ P h e rs fun vs=>K (v :: vs)
def tup:List AV→AV
 | [v]=>v
 | vs=>.tu vs
def zH (P:Program) (fn:Func) (K:AV→aA→Prop):Kx
 | .normal,e,h | .ret,e,h=>fJ P h e fn.results.toList fun vs=>K (tup vs) h
 | _,_,_=>False
def aF (P : Program) (R : a0) (f : FuncId) (args : List AV) (h : aA) (K : AV → aA → Prop) : Prop :=
 ∃ fn body ann, P.funcs[f]? = some fn ∧ fn.body = some body ∧ (fn.name == "runtime.NumGoroutine") = false ∧ args.length ≤ fn.ntmps ∧
  b9 P R fn.ntmps ann body (fE 0 args) h (zH P fn (aH h K))
def fA (P:Program) (X:a0) (f:FuncId) (args:List AV) (h:aA) (K:AV→aA→Prop):Prop:=
 ∀ R:a0,(∀ f args h K K',(∀ v h,K v h→K' v h)→R f args h K→R f args h K')→(∀ f args h K,X f args h K→R f args h K)→(∀ f args h K,aF P R f args h K→R f args h K)→R f args h K
end Go.GAM
set_option linter.unusedVariables false
namespace Go.GAM
structure Loc where
 B:Nat
 base:Nat
 cap:Nat
 sz:Nat
abbrev Mu:=Nat→Nat→Option Loc
mutual
inductive aX (μ:Mu):AV→Value→Prop
 | u (v):aX μ .u v
 | b (x):aX μ (.b x) (.bool x)
 | i (k n):aX μ (.i k n) (.int k n)
 | s (l) (x:ByteArray) (h:x.data.toList=l):aX μ (.s l) (.string x)
 | pn:aX μ (.p none) (.pointer none)
 | p (a l o) (h:μ a.id a.ver=some l) (ho:o=l.base+a.off):aX μ (.p (some a)) (.pointer (some ⟨l.B,o,none⟩))
 | sn:aX μ (.sl none 0 none) (.slice none 0 0)
 | sl (a len capo c addr l) (h:μ a.id a.ver=some l) (hl:len≤c) (hf:a.off+c * l.sz≤l.cap)
   (hc:capo=none→a.off+c * l.sz=l.cap) (hs:∀ k,capo=some k→c=k) (ha:c≠0→addr=⟨l.B,l.base+a.off,none⟩) :
   aX μ (.sl (some a) len capo) (.slice (some addr) len c)
 | ag (cs vs) (h:VRels μ cs vs.toList):aX μ (.ag cs) (.agg vs)
 | tu (cs vs) (h:VRels μ cs vs.toList):aX μ (.tu cs) (.tuple vs)
 | fn (f a b a' b') (h:VRels μ a a'.toList) (h':VRels μ b b'.toList):aX μ (.fn f a b) (.func f a' b')
 | nf:aX μ .nf .nilFunc
 | ifc (t v v') (h:aX μ v v'):aX μ (.ifc t v) (.iface t v')
 | ni:aX μ .ni .nilIface
 | mpn:aX μ (.mp none) (.map none)
 | mp (id l) (h:μ id 0=some l):aX μ (.mp (some id)) (.map (some l.B))
inductive VRels (μ:Mu):List AV→List Value→Prop
 | nil:VRels μ [] []
 | cons (a v aq vs) (h:aX μ a v) (t:VRels μ aq vs):VRels μ (a :: aq) (v :: vs)
end
def Sub (μ μ':Mu):Prop:=∀ id ver l,μ id ver=some l→μ' id ver=some l
theorem lY {a b:Nat} (h:a≠b):Nat.beq a b=false:=by
 cases hb:Nat.beq a b with
 | false=>rfl
 | true=>exact absurd (Nat.eq_of_beq_eq_true hb) h
theorem Sub.refl (μ:Mu):Sub μ μ:=fun _ _ _ h=>h
theorem Sub.trans {a b c:Mu} (h:Sub a b) (k:Sub b c):Sub a c:=fun _ _ _ x=>k _ _ _ (h _ _ _ x)
mutual
theorem aX.mono {μ μ':Mu} (hs:Sub μ μ'):∀ {a v},aX μ a v→aX μ' a v
 | _,_,.u v=>.u v
 | _,_,.b x=>.b x
 | _,_,.i k n=>.i k n
 | _,_,.s l x h=>.s l x h
 | _,_,.pn=>.pn
 | _,_,.p a l o h ho=>.p a l o (hs _ _ _ h) ho
 | _,_,.sn=>.sn
 | _,_,.sl a len capo c addr l h hl hf hc h2 ha=>.sl a len capo c addr l (hs _ _ _ h) hl hf hc h2 ha
 | _,_,.ag cs vs h=>.ag cs vs (h.mono hs)
 | _,_,.tu cs vs h=>.tu cs vs (h.mono hs)
 | _,_,.fn f a b a' b' h h'=>.fn f a b a' b' (h.mono hs) (h'.mono hs)
 | _,_,.nf=>.nf
 | _,_,.ifc t v v' h=>.ifc t v v' (h.mono hs)
 | _,_,.ni=>.ni
 | _,_,.mpn=>.mpn
 | _,_,.mp id l h=>.mp id l (hs _ _ _ h)
theorem VRels.mono {μ μ':Mu} (hs:Sub μ μ'):∀ {a v},VRels μ a v→VRels μ' a v
 | _,_,.nil=>.nil
 | _,_,.cons a v aq vs h t=>.cons a v aq vs (h.mono hs) (t.mono hs)
end
theorem VRels.length {μ:Mu}:∀ {a v},VRels μ a v→a.length=v.length
 | _,_,.nil=>rfl
 | _,_,.cons _ _ _ _ _ t=>by simp [t.length]
theorem VRels.get {μ:Mu}:∀ {a v},VRels μ a v→∀ (i:Nat) (d:Value),i<a.length→aX μ (a.getD i .u) (v.getD i d)
 | _,_,.nil,i,_,h=>by simp at h
 | _,_,.cons a v aq vs h t,0,_,_=>by simpa using h
 | _, _, .cons a v aq vs h t, i + 1, d, hi => by
  have:=t.get i d (by simpa using hi)
  simpa using this
theorem VRels.get? {μ:Mu} {aq:List AV} {vs:List Value} (h:VRels μ aq vs) {i:Nat} (hi:i<aq.length):∃ v,vs[i]? = some v∧aX μ (aq.getD i .u) v:=by
 have hl:=h.length
 refine ⟨vs[i],List.getElem?_eq_getElem (by omega), ?_⟩
 have:=h.get i undef hi
 rwa [List.getD_eq_getElem?_getD (l:=vs),List.getElem?_eq_getElem (by omega:i<vs.length)] at this
theorem VRels.append {μ:Mu}:∀ {a v a' v'},VRels μ a v→VRels μ a' v'→VRels μ (a++a') (v++v')
 | _,_,_,_,.nil,h=>h
 | _,_,_,_,.cons a v aq vs h t,h'=>.cons _ _ _ _ h (t.append h')
theorem VRels.take {μ:Mu}:∀ {a v} (n:Nat),VRels μ a v→VRels μ (a.take n) (v.take n)
 | _,_,0,_=>by simp only [List.take_zero]; exact .nil
 | _,_,n+1,.nil=>by simp only [List.take_nil]; exact .nil
 | _,_,n+1,.cons a v aq vs h t=>by simp only [List.take_succ_cons]; exact .cons _ _ _ _ h (t.take n)
theorem VRels.drop {μ:Mu}:∀ {a v} (n:Nat),VRels μ a v→VRels μ (a.drop n) (v.drop n)
 | _,_,0,h=>h
 | _,_,n+1,.nil=>by simp only [List.drop_nil]; exact .nil
 | _,_,n+1,.cons a v aq vs h t=>by simp only [List.drop_succ_cons]; exact t.drop n
theorem VRels.set {μ:Mu} {x:AV} {y:Value} (hx:aX μ x y):∀ {a v} (n:Nat),VRels μ a v→VRels μ (a.set n x) (v.set n y)
 | _,_,_,.nil=>.nil
 | _,_,0,.cons a v aq vs h t=>.cons _ _ _ _ hx t
 | _,_,n+1,.cons a v aq vs h t=>.cons _ _ _ _ h (t.set hx n)
theorem VRels.of_get {μ:Mu}:∀ {a:List AV} {v:List Value},a.length=v.length→(∀ i,i<a.length→∃ y,v[i]? = some y∧aX μ (a.getD i .u) y)→VRels μ a v
 | [],[],_,_=>.nil
 | [],_ :: _,h,_=>by simp at h
 | _ :: _,[],h,_=>by simp at h
 | a :: aq, v :: vs, hl, h => by
  refine .cons _ _ _ _ ?_ (VRels.of_get (by simpa using hl) fun i hi=>?_)
  ·obtain ⟨y, hy, hr⟩ := h 0 (by simp)
   simp at hy hr; subst hy; exact hr
  ·obtain ⟨y, hy, hr⟩ := h (i + 1) (by simpa using hi)
   exact ⟨y,by simpa using hy,by simpa using hr⟩
def fB:AV→Value
 | .b x=>.bool x
 | .i k n=>.int k n
 | .s l=>.string ⟨l.toArray⟩
 | .p none=>.pointer none
 | .sl none 0 none=>.slice none 0 0
 | .nf=>.nilFunc
 | .ni=>.nilIface
 | .mp none=>.map none
 | _=>undef
def aLZ:AV→Value
 | .ag cs=>.agg (cs.map fB).toArray
 | .tu cs=>.tuple (cs.map fB).toArray
 | v=>fB v
theorem aX.leaf_eq {μ:Mu} {a:AV} {v:Value} (h:aX μ a v) (hl:a.leaf=true):v=fB a:=by
 cases h <;> first | rfl | (simp [AV.leaf] at hl; done) | skip
 rename_i l x h
 subst h
 rfl
theorem VRels.leaf_eq {μ:Mu}:∀ {a v},VRels μ a v→a.all AV.leaf=true→v=a.map fB
 | _,_,.nil,_=>rfl
 | _, _, .cons a v aq vs h t, hl => by
  simp only [List.all_cons,Bool.and_eq_true] at hl
  rw [List.map_cons,h.leaf_eq hl.1,t.leaf_eq hl.2]
theorem aX.pure_eq {μ:Mu} {a:AV} {v:Value} (h:aX μ a v) (hl:a.pure=true):v=aLZ a:=by
 cases h with
 | ag cs vs h=>show Value.agg vs=Value.agg _; rw [← h.leaf_eq hl]
 | tu cs vs h=>show Value.tuple vs=Value.tuple _; rw [← h.leaf_eq hl]
 | u v=>simp [AV.pure,AV.leaf] at hl
 | b x=>rfl
 | i k n=>rfl
 | s l x h=>exact (aX.s l x h:aX μ _ _).leaf_eq rfl
 | pn=>rfl
 | p a l o h ho=>simp [AV.pure,AV.leaf] at hl
 | sn=>rfl
 | sl=>simp [AV.pure,AV.leaf] at hl
 | fn=>simp [AV.pure,AV.leaf] at hl
 | nf=>rfl
 | ifc=>simp [AV.pure,AV.leaf] at hl
 | ni=>rfl
 | mpn=>rfl
 | mp=>simp [AV.pure,AV.leaf] at hl
theorem uO (μ : Mu) (v : Value) : aX μ (aBC v) v := by
 cases v <;> simp only [aBC] <;> first | exact .u _ | exact .b _ | exact .i _ _ | exact .s _ _ rfl | exact .nf | exact .ni | skip
 case pointer a=>cases a <;> first | exact .pn | exact .u _
 case slice a l c=>
  cases a with
  | some a=>exact .u _
  | none => cases l with
   | succ l=>exact .u _
   | zero => cases c with
    | succ c=>exact .u _
    | zero=>exact .sn
 case map r=>cases r <;> first | exact .mpn | exact .u _
theorem qS (μ:Mu):∀ vs:List Value,VRels μ (vs.map aBC) vs
 | []=>.nil
 | v :: vs=>.cons _ _ _ _ (uO μ v) (qS μ vs)
theorem aC7 (μ:Mu) (v:Value):aX μ (ofV v) v:=by
 cases v <;> simp only [ofV] <;> first | exact uO μ _ | exact .ag _ _ (qS μ _) | exact .tu _ _ (qS μ _) | exact .ifc _ _ _ (uO μ _)
structure aU9 (w:World) (μ:Mu) (own:Nat→Option Nat) (id:Nat) (b:ABlk) (l0:Loc) (ver:Nat) (l:Loc):Prop where
 own:own l.B=some id
 sz:l.sz=b.sz
 le:ver≤l.cap
 base:l.B=l0.B→l.base=l0.base
 cells:∀ j,j<ver→∃ cv,w.cell? ⟨l.B,l.base+j,none⟩=some cv∧aX μ (b.cells.getD j .u) cv
structure oG (w:World) (Fz:Nat→Prop) (μ:Mu) (own:Nat→Option Nat) (id:Nat) (b:ABlk) (l:Loc):Prop where
 cur:μ id b.cells.length=some l
 owned:own l.B=some id
 sz:l.sz=b.sz
 len:b.cells.length≤l.cap
 ex:b.ex=true→l.cap=b.cells.length
 ro:b.ro=false→¬ Fz l.B
 gl:b.gl=true→l.B=id∧l.base=0
 nomap:b.mp=none
 tyok:∀ t,b.ty=some t→l.base=0∧∃ c fr,w.heap[l.B]? = some (.cells c t fr)
 row:∃ c el fr,w.heap[l.B]? = some (.cells c el fr)∧l.base+l.cap≤c.size
 free:b.ro=false→∀ j,j<l.cap→w.frozen? ⟨l.B,l.base+j,none⟩=false
 vers:∀ ver,b.floor≤ver→ver≤b.cells.length→∀ l',μ id ver=some l'→aU9 w μ own id b l ver l'
inductive eU (μ:Mu):List (AV × AV)→List MapEntry→Prop
 | nil:eU μ [] []
 | cons (k v e es ents) (hk:aX μ k e.key) (hv:aX μ v e.val) (t:eU μ es ents):eU μ ((k,v) :: es) (e :: ents)
theorem eU.mono {μ μ':Mu} (hs:Sub μ μ'):∀ {es ents},eU μ es ents→eU μ' es ents
 | _,_,.nil=>.nil
 | _,_,.cons k v e es ents hk hv t=>.cons k v e es ents (hk.mono hs) (hv.mono hs) (t.mono hs)
def z4 (w:World) (μ:Mu) (B:Nat):List (AV × AV) ⊕ Loop→Prop
 | .inl es=>∃ ents clock,w.heap[B]? = some (.map ents clock)∧eU μ es ents.toList
 | .inr rec=>w.heap[B]? = some (.loop rec)
theorem z4.keep {w w':World} {μ μ':Mu} {B:Nat} {m:List (AV × AV) ⊕ Loop} (h:z4 w μ B m) (e:w'.heap[B]? = w.heap[B]?) (hs:Sub μ μ'):z4 w' μ' B m:=by
 cases m with
 | inl es=>obtain ⟨ents,clock,h1,h2⟩:=h; exact ⟨ents,clock,e.trans h1,h2.mono hs⟩
 | inr rec=>exact e.trans h
theorem z4.obj {w:World} {μ:Mu} {B:Nat} {m:List (AV × AV) ⊕ Loop} (h:z4 w μ B m):∃ o,w.heap[B]? = some o∧((∃ ents clock,o = .map ents clock)∨∃ rec,o = .loop rec):=by
 cases m with
 | inl es=>obtain ⟨ents,clock,h1,h2⟩:=h; exact ⟨_,h1,.inl ⟨_,_,rfl⟩⟩
 | inr rec=>exact ⟨_,h,.inr ⟨_,rfl⟩⟩
def aS3 (w:World) (Fz:Nat→Prop) (μ:Mu) (own:Nat→Option Nat) (id:Nat) (m:List (AV × AV) ⊕ Loop):Prop:=
 ∃ l,μ id 0=some l∧own l.B=some id∧¬ Fz l.B∧z4 w μ l.B m
structure Rel (w0:World) (Fz:Nat→Prop) (μ:Mu) (own:Nat→Option Nat) (h:aA) (w:World):Prop where
 os:w.os=w0.os
 tape:w.tape=w0.tape
 output:w.output=w0.output
 size0:w0.heap.size≤w.heap.size
 fz:∀ B,Fz B→B<w0.heap.size∧w.heap[B]? = w0.heap[B]?
 ownlt:∀ B id,own B=some id→B<w.heap.size
 mulen:∀ id ver l,μ id ver=some l→∃ b,h[id]? = some b∧(b.floor≤b.cells.length→ver≤b.cells.length)
 blk:∀ id b,h[id]? = some b→b.floor≤b.cells.length→∃ l,oG w Fz μ own id b l
 maps:∀ id b es,h[id]? = some b→b.mp=some es→aS3 w Fz μ own id es
def dY (w w':World):Prop:=∀ B,B<w.heap.size→w'.heap[B]? = w.heap[B]?
theorem dY.refl (w:World):dY w w:=fun _ _=>rfl
theorem dY.cell {w w':World} (h:dY w w') {a:Addr} {v:Value} (hc:w.cell? a=some v):w'.cell? a=some v:=by
 have:=World.block_lt_of_cell? w a hc
 simp only [World.cell?] at hc ⊢
 rw [h _ this]
 exact hc
structure bK (ds:List Deferred) (μ:Mu) (nt:Nat) (e:Env) (a:Act):Prop where
 size:a.tmps.size=nt
 defers:a.defers=ds
 val:∀ t,aX μ (lk e t) (a.tmps.getD t undef)
theorem bK.mono {ds:List Deferred} {μ μ':Mu} (hs:Sub μ μ') {nt:Nat} {e:Env} {a:Act} (h:bK ds μ nt e a):bK ds μ' nt e a:=⟨h.1,h.2,fun t=>(h.3 t).mono hs⟩
theorem qL (e:Env) (d:Option Nat) (v:AV) (t:Nat):lk (put e d v) t=if d=some t then v else lk e t:=by
 cases d with
 | none=>simp [put]
 | some d =>
  simp only [put,lk]
  by_cases h:d=t
  ·subst h; simp
  ·have : Nat.beq d t = false := lY h
   simp [this,h]
theorem bK.put {ds : List Deferred} {μ : Mu} {nt : Nat} {e : Env} {a : Act} (h : bK ds μ nt e a) {o : Oper} (ho : iI nt o = true) {v : AV} {cv : Value} (hv : aX μ v cv) :
  bK ds μ nt (GAM.put e o.dst v) (a.put o.dst cv):=by
 refine ⟨?_, ?_,fun t=>?_⟩
 ·cases hd:o.dst <;> simp [Act.put,h.1]
 ·cases hd:o.dst <;> simp [Act.put,h.2]
 ·rw [qL]
  cases hd:o.dst with
  | none=>simpa [Act.put] using h.3 t
  | some d =>
   have hlt:d<nt:=by
    simp only [iI,hd] at ho
    exact Nat.le_of_ble_eq_true ho
   by_cases ht:d=t
   ·subst ht
    simp [Act.put,h.1,hlt,hv]
   ·simp only [Act.put, Option.some.injEq, ht, if_false]
    have:=h.3 t
    simpa [Array.getElem?_setIfInBounds_ne ht] using this
theorem aHG (e:Env) (t:Nat):∀ L:List Nat,lk (restr L e) t=lk e t∨lk (restr L e) t = .u
 | []=>.inr rfl
 | x :: L => by
  simp only [restr,List.map_cons,lk]
  by_cases h:x=t
  ·subst h; simp
  ·have : Nat.beq x t = false := lY h
   simp only [this,cond_false]
   exact aHG e t L
theorem bK.restr {ds:List Deferred} {μ:Mu} {nt:Nat} {e:Env} {a:Act} (h:bK ds μ nt e a) (L:List Nat):bK ds μ nt (GAM.restr L e) a:=by
 refine ⟨h.1,h.2,fun t=>?_⟩
 rcases aHG e t L with hh | hh <;> rw [hh]
 ·exact h.3 t
 ·exact .u _
section
variable {w0:World} {Fz:Nat→Prop} {μ:Mu} {own:Nat→Option Nat} {h:aA} {w:World}
theorem Rel.read (R:Rel w0 Fz μ own h w) {a:AA} {b:ABlk} {l:Loc} {n:Nat} (hb:h[a.id]? = some b) (hr:aDL b a n) (hl:μ a.id a.ver=some l) :
  ∀ j,j<n→∃ cv,w.cell? ⟨l.B,l.base+(a.off+j),none⟩=some cv∧aX μ (b.cells.getD (a.off+j) .u) cv:=by
 obtain ⟨h1,h2,h3⟩:=hr
 obtain ⟨l0,hk⟩:=R.blk _ _ hb (Nat.le_trans h1 h2)
 have hv:=hk.vers _ h1 h2 _ hl
 intro j hj
 exact hv.cells (a.off+j) (by omega)
theorem Rel.cur (R:Rel w0 Fz μ own h w) {id:Nat} {b:ABlk} {l:Loc} (hb:h[id]? = some b) (hf:b.floor≤b.cells.length) (hl:μ id b.cells.length=some l):oG w Fz μ own id b l:=by
 obtain ⟨l0,hk⟩:=R.blk _ _ hb hf
 have:l0=l:=Option.some.inj (hk.cur.symm.trans hl)
 subst this
 exact hk
theorem Rel.ev {ds : List Deferred} (R : Rel w0 Fz μ own h w) {nt : Nat} {e : Env} {a : Act} (hE : bK ds μ nt e a) (x : Operand) : aX μ (ev e h x) (a.eval x) := by
 cases x with
 | tmp t=>exact hE.3 t
 | const v=>exact aC7 μ v
 | func f=>exact .fn _ _ _ _ _ .nil .nil
 | global g =>
  simp only [GAM.ev,aIC,Act.eval]
  cases hb:h[g]? with
  | none=>exact .u _
  | some b =>
   dsimp only
   cases hc:(b.gl&&Nat.ble b.floor b.cells.length) with
   | false=>exact .u _
   | true =>
    simp only [Bool.and_eq_true] at hc
    obtain ⟨l,hl⟩:=R.blk _ _ hb (Nat.le_of_ble_eq_true hc.2)
    obtain ⟨h1,h2⟩:=hl.gl hc.1
    have:=aX.p (μ:=μ) ⟨g,b.cells.length,0⟩ l 0 hl.cur (by simp [h2])
    rw [h1] at this
    exact this
theorem Rel.evs {ds:List Deferred} (R:Rel w0 Fz μ own h w) {nt:Nat} {e:Env} {a:Act} (hE:bK ds μ nt e a):∀ xs:List Operand,VRels μ (xs.map (GAM.ev e h)) (xs.map a.eval)
 | []=>.nil
 | x :: xs=>.cons _ _ _ _ (R.ev hE x) (R.evs hE xs)
end
theorem aW {P:Program} {t:TypeId} {d:TypeDesc} (h:P.underlying t=some d) (w:World):(underlying t).run P w = .ok d w:=by simp [underlying,h]
theorem aEN {P:Program} {t:TypeId} {d:TypeDesc} (h:P.underlying t=some d):∃ i,P.info? t=some i∧P.cellsOf t=i.size∧P.bytesOf t=i.bytes:=by
 unfold Program.underlying at h
 cases hi:P.info? t with
 | none=>simp [hi] at h
 | some i=>exact ⟨i,rfl,by simp [Program.cellsOf,hi],by simp [Program.bytesOf,hi]⟩
theorem kM {P:Program} {t:TypeId} {d:TypeDesc} (h:P.underlying t=some d) (w:World):(sizeOf t).run P w = .ok (P.cellsOf t) w:=by
 obtain ⟨i,hi,hs,_⟩:=aEN h
 simp [sizeOf,typeInfo,hi,hs]
theorem dF {P:Program} {t:TypeId} {r:Bool} (h:dN P t=some r) (w:World):(isAgg t).run P w = .ok r w∧∃ d,P.underlying t=some d:=by
 unfold dN at h
 cases hd:P.underlying t with
 | none=>simp [hd] at h
 | some d=>cases d <;> simp [hd] at h <;> subst h <;> exact ⟨by simp [isAgg,aW hd],_,rfl⟩
end Go.GAM
set_option linter.unusedSimpArgs false
namespace Go.GAM
section
variable {P:Program} {w0:World} {Fz:Nat→Prop} {μ:Mu} {own:Nat→Option Nat} {h:aA} {w:World}
def aAC (P:Program) (w:World) (s:Sem Value) (cv:Value):Prop:=∀ w',dY w w'→s.run P w' = .ok cv w'
theorem qX {c:AV} {A B:Prop} {cv:Value} (hk:aIf c A B) (hc:aX μ c cv):(cv = .bool true∧A)∨(cv = .bool false∧B):=by
 cases hc with
 | b x => cases x with
  | true=>exact .inl ⟨rfl,hk⟩
  | false=>exact .inr ⟨rfl,hk⟩
 | _=>exact hk.elim
theorem eS {k k':IntKind} (h:kEq k k'=true):k=k':=by
 cases k <;> cases k' <;> first | rfl | (simp [kEq,kc] at h)
theorem aHE {t:TypeId} {v:AV} {cv:Value} {K:AV→Prop} (hv:aX μ v cv) (hk:shape P t v K):K v:=by
 unfold shape at hk
 split at hk
 ·cases v <;> first | exact hk | exact hk.elim
 ·cases v <;> first | exact hk.elim | skip
  rename_i k _ k' n
  simp only [asI] at hk
  cases he:kEq k k' with
  | false=>rw [he] at hk; exact hk.elim
  | true =>
   rw [he] at hk
   have:=eS he
   subst this
   exact hk
 ·cases v <;> first | exact hk | exact hk.elim
 ·exact hk
theorem xJ (R:Rel w0 Fz μ own h w) {x:AV} {cx:Value} {K:AV→Prop} {t:TypeId} (ht:dN P t=some false) (hx:aX μ x cx) (hk:aD x h K) :
  ∃ v cv,K v∧aX μ v cv∧aAC P w (Instr.loadAt t cx) cv:=by
 cases hx with
 | p a l o hl ho =>
  subst ho
  obtain ⟨b,hb,hr,hK⟩:=hk
  obtain ⟨cv,hcv,hv⟩:=R.read hb hr hl 0 (by omega)
  refine ⟨_,cv,hK,hv,fun w' hs=>?_⟩
  have:=hs.cell hcv
  simp only [Nat.add_zero] at this
  simp [Instr.loadAt,Instr.sureAddr,loadVar,(dF ht w').1,this]
 | _=>exact hk.elim
theorem aE0 (R : Rel w0 Fz μ own h w) {x : AV} {cx : Value} {K : AV → Prop} {src dst t : TypeId} (h1 : P.underlying src = some (.pointer t)) (h2 : P.underlying dst = some .unsafePointer) (hz : Nat.beq (P.cellsOf t) 0 = false) (hx : aX μ x cx) (hk : nH x h K) :
  ∃ v cv,K v∧aX μ v cv∧aAC P w (convert src dst cx) cv:=by
 cases hx with
 | pn=>exact ⟨_,_,hk,.pn,fun w' hs=>by simp [convert,aW h1,aW h2,Conv.unsafePointer]⟩
 | p a l o hl ho =>
  subst ho
  obtain ⟨b,hb,hr,hK⟩:=hk
  obtain ⟨cv,hcv,hv⟩:=R.read hb hr hl 0 (by omega)
  refine ⟨_,_,hK,.p a l _ hl rfl,fun w' hs=>?_⟩
  have hc:=hs.cell hcv
  simp only [Nat.add_zero] at hc
  obtain ⟨c,el,fr,hb',hlt⟩:∃ c el fr,w'.heap[l.B]? = some (.cells c el fr)∧l.base+a.off<c.size:=by
   simp only [World.cell?] at hc
   split at hc
   ·rename_i c el fr hh
    exact ⟨c,el,fr,hh,by simpa using (Array.getElem?_eq_some_iff.1 (by simpa using hc)).1⟩
   ·cases hc
  obtain ⟨j,hj,hjs⟩:∃ j,P.info? t=some j∧j.size≠0:=by
   cases hi:P.info? t with
   | none=>simp [Program.cellsOf,hi] at hz
   | some j=>exact ⟨j,rfl,fun e=>by simp [Program.cellsOf,hi,e] at hz⟩
  have hsh:w'.shape? l.B=some (el,c.size):=by simp [World.shape?,hb']
  simp [convert,aW h1,aW h2,Conv.unsafePointer,Conv.seenAt,viewAt,cellsIn,hsh,sizeOf,typeInfo,hj,hjs]
  intro hle
  omega
 | _=>exact hk.elim
theorem aI9 {P:Program} {xX:TypeId→Bool} {d:Nat} {e:TypeId} {c c' off n:Nat} (hc:c≤c') (h:rowAt P xX d e c off n=true):rowAt P xX d e c' off n=true:=by
 cases d with
 | zero=>simp [rowAt] at h
 | succ d =>
  unfold rowAt at h ⊢
  simp only at h ⊢
  split at h
  ·cases h
  rename_i hs
  rw [if_neg hs]
  simp only [Bool.or_eq_true,Bool.and_eq_true,decide_eq_true_eq] at h ⊢
  rcases h with ⟨⟨h1,h2⟩,h3⟩ | ⟨h1,h2⟩
  ·exact .inl ⟨⟨h1,by omega⟩,h3⟩
  ·exact .inr ⟨by omega,h2⟩
theorem wZ {P : Program} : ∀ {d : Nat} {e : TypeId} {c c' off : Nat} {u : TypeId} {n : Nat}, c ≤ c' → liesAt P d e c off u n = true → liesAt P d e c' off u n = true
 | 0,_,_,_,_,_,_,_,h=>by simp [liesAt] at h
 | d + 1, e, c, c', off, u, n, hc, h => by
  unfold liesAt at h ⊢
  simp only [Bool.or_eq_true] at h ⊢
  rcases h with h | h
  ·exact .inl (aI9 hc h)
  ·right
   split at h
   ·rename_i m u' hu
    exact wZ hc h
   ·cases h
theorem vQ (R:Rel w0 Fz μ own h w) {x:AV} {cx:Value} {K:AV→Prop} {src dst u:TypeId} (h1:P.underlying src=some .unsafePointer) (h2:P.underlying dst=some (.pointer u)) (hu:(P.info? u).isSome=true) (hx:aX μ x cx) (hk:eL P u x h K) :
  ∃ v cv,K v∧aX μ v cv∧aAC P w (convert src dst cx) cv:=by
 cases hx with
 | pn=>exact ⟨_,_,hk,.pn,fun w' hs=>by simp [convert,aW h1,aW h2,Conv.unsafePointer]⟩
 | p a l o hl ho =>
  subst ho
  obtain ⟨b,t,hb,ht,hlv,hver,hlies,hK⟩:=hk
  refine ⟨_,_,hK,.p a l _ hl rfl,fun w' hs=>?_⟩
  rw [hver] at hl
  have hk:=R.cur hb hlv hl
  obtain ⟨hb0,c,fr,hrow⟩:=hk.tyok t ht
  have hsz:b.cells.length≤c.size:=by
   obtain ⟨c',el,fr',hr',hsz⟩:=hk.row
   rw [hrow] at hr'; cases hr'
   have:=hk.len; omega
  have hlt:l.B<w.heap.size:=(Array.getElem?_eq_some_iff.1 hrow).1
  have hrow':w'.heap[l.B]? = some (.cells c t fr):=(hs l.B hlt).trans hrow
  have hsh:w'.shape? l.B=some (t,c.size):=by simp [World.shape?,hrow']
  obtain ⟨j,hj⟩:=Option.isSome_iff_exists.1 hu
  have hl2:=wZ (Nat.div_le_div_right hsz) hlies
  simp [convert,aW h1,aW h2,Conv.unsafePointer,Conv.seenAt,viewAt,hsh,sizeOf,typeInfo,hj,hb0,variablesAt,hl2]
 | _=>exact hk.elim
theorem xI (R : Rel w0 Fz μ own h w) {x : AV} {cx : Value} {K : AV → Prop} {t : TypeId} (ht : dN P t = some true) (hx : aX μ x cx) (hk : dC (P.cellsOf t) x h K) :
  ∃ v cv,K v∧aX μ v cv∧aAC P w (Instr.loadAt t cx) cv:=by
 cases hx with
 | p a l o hl ho =>
  subst ho
  obtain ⟨b,hb,hr,hK⟩:=hk
  have hrd:=R.read hb hr hl
  generalize hn:P.cellsOf t=n at *
  have hch:∀ j, ∃ cv,j<n→w.cell? ⟨l.B,l.base+(a.off+j),none⟩=some cv∧aX μ (b.cells.getD (a.off+j) .u) cv:=fun j=>by
   by_cases hj:j<n
   ·obtain ⟨cv,hc⟩:=hrd j hj; exact ⟨cv,fun _=>hc⟩
   ·exact ⟨undef,fun h=>absurd h hj⟩
  obtain ⟨f,hf⟩:=Classical.axiomOfChoice hch
  refine ⟨_,.agg ((List.range n).map f).toArray,hK,.ag _ _ ?_,fun w' hs=>?_⟩
  ·have hlen : ((b.cells.drop a.off).take n).length = n := by
    have:=hr.2.1; have:=hr.2.2
    simp; omega
   refine VRels.of_get (by simp [hlen]) fun i hi=>?_
   rw [hlen] at hi
   refine ⟨f i,by simp [hi], ?_⟩
   have h2:=(hf i hi).2
   have h3:((b.cells.drop a.off).take n).getD i .u=b.cells.getD (a.off+i) .u:=by
    simp [List.getD_eq_getElem?_getD,List.getElem?_take,hi]
   rw [h3]; exact h2
  ·have hl2 := run_loadCells (P := P) w' ⟨l.B, l.base + a.off, none⟩ n f (fun j hj => by
    have:=hs.cell (hf j hj).1
    by_cases h0:j=0
    ·subst h0; simpa [Addr.add] using this
    ·simpa [Addr.add,h0,Nat.add_assoc] using this)
   obtain ⟨d,hd⟩:=(dF ht w').2
   simp [Instr.loadAt,Instr.sureAddr,loadVar,(dF ht w').1,kM hd,hn,hl2]
 | _=>exact hk.elim
theorem lP (R : Rel w0 Fz μ own h w) {x : AV} {cx : Value} {K : List AV → Prop} {sz : Nat} (hx : aX μ x cx) (hk : fG sz x h K) :
  ∃ cs vs,K cs∧VRels μ cs vs∧∃ a len c,cx = .slice a len c∧(a=none→len=0∧c=0)∧cs.length=len * sz∧(∀ adr,a=some adr→len * sz≠0→∀ w',dY w w'→∀ j v,vs[j]? = some v→w'.cell? (adr.add j)=some v):=by
 cases hx with
 | sn=>exact ⟨[],[],hk,.nil,none,0,0,rfl,fun _=>⟨rfl,rfl⟩,by simp,fun _ h=>by cases h⟩
 | sl a len capo c addr l hl hle hf hc hs ha =>
  rcases hk with ⟨h0,hK⟩ | hk
  ·subst h0
   exact ⟨[],[],hK,.nil,some addr,0,c,rfl,by simp,by simp,fun adr hadr hne=>by simp at hne⟩
  obtain ⟨b,hb,hr,hK⟩:=hk
  have hrd:=R.read hb hr hl
  have hlen:((b.cells.drop a.off).take (len * sz)).length=len * sz:=by
   have:=hr.2.1; have:=hr.2.2
   simp; omega
  have hch:∀ j, ∃ cv,j<len * sz→w.cell? ⟨l.B,l.base+(a.off+j),none⟩=some cv∧aX μ (b.cells.getD (a.off+j) .u) cv:=fun j=>by
   by_cases hj:j<len * sz
   ·obtain ⟨cv,hc⟩:=hrd j hj; exact ⟨cv,fun _=>hc⟩
   ·exact ⟨undef,fun h=>absurd h hj⟩
  obtain ⟨f,hf⟩:=Classical.axiomOfChoice hch
  refine ⟨_,(List.range (len * sz)).map f,hK, ?_,some addr,len,c,rfl,by simp,hlen,fun adr hadr hne w' hsm j v hj=>?_⟩
  ·refine VRels.of_get (by simp [hlen]) fun i hi => ?_
   rw [hlen] at hi
   refine ⟨f i,by simp [hi], ?_⟩
   have h3:((b.cells.drop a.off).take (len * sz)).getD i .u=b.cells.getD (a.off+i) .u:=by
    simp [List.getD_eq_getElem?_getD,List.getElem?_take,hi]
   rw [h3]; exact (hf i hi).2
  ·have hjl : j < len * sz := by
    have:=(List.getElem?_eq_some_iff.1 hj).1
    simpa using this
   simp [hjl] at hj
   subst hj
   have hc0:c≠0:=by
    intro h0; subst h0
    have:len=0:=by omega
    subst this; simp at hne
   have hadr':adr=⟨l.B,l.base+a.off,none⟩:=by
    have:=Option.some.inj hadr
    rw [← this]; exact ha hc0
   subst hadr'
   have:=hsm.cell (hf j hjl).1
   by_cases h0:j=0
   ·subst h0; simpa [Addr.add] using this
   ·simpa [Addr.add,h0,Nat.add_assoc] using this
 | _=>exact hk.elim
theorem aP7 (cs:List AV) (vs:List Value) (h:VRels μ cs vs) (hb:cs.all nW=true):∃ ns:List Int,vs=ns.map (Value.int .u8)∧cs.map toByte=ns.map (fun n=>UInt8.ofNat n.toNat):=by
 induction cs generalizing vs with
 | nil=>cases h; exact ⟨[],rfl,rfl⟩
 | cons c cs ih =>
  cases h with
  | cons _ v _ vs h t =>
   simp only [List.all_cons,Bool.and_eq_true] at hb
   obtain ⟨ns,h1,h2⟩:=ih _ t hb.2
   cases h <;> first | (simp [nW] at hb; done) | skip
   rename_i k n
   cases k <;> first | (simp [nW] at hb; done) | skip
   exact ⟨n :: ns,by simp [h1],by simp [h2,toByte]⟩
theorem aI1 (ns:List Int) (r:ByteArray):(ns.foldl (fun r n=>r.push (UInt8.ofNat n.toNat)) r).data.toList=r.data.toList++ns.map (fun n=>UInt8.ofNat n.toNat):=by
 induction ns generalizing r with
 | nil=>simp
 | cons n ns ih=>rw [List.foldl_cons,ih]; simp [ByteArray.push]
theorem zG (R:Rel w0 Fz μ own h w) {x:AV} {cx:Value} {K:AV→Prop} {src dst el:TypeId} (h1:P.underlying src=some (.slice el)) (h2:P.underlying dst=some .string)
  (h3:P.underlying el=some (.int .u8)) (hx:aX μ x cx) (hk:cJ x h fun l=>K (.s l)):∃ v cv,K v∧aX μ v cv∧aAC P w (convert src dst cx) cv:=by
 obtain ⟨cs,vs,⟨hb,hK⟩,hr,a,len,c,rfl,hn,hlen,hrd⟩:=lP R hx hk
 obtain ⟨ns,rfl,hns⟩:=aP7 cs vs hr hb
 have hl:=hr.length
 cases a with
 | none =>
  obtain ⟨rfl,rfl⟩:=hn rfl
  have hcs:cs=[]:=by simpa using hlen
  subst hcs
  refine ⟨_,.string .empty,hK,   .s _ _ (by simp),fun w' hs=>?_⟩
  rw [run_convert_bytes_string w' src dst el none 0 0 h1 h3 h2]
  simp [Conv.bytesToString]
 | some adr =>
  refine ⟨_,.string (ns.foldl (fun r n=>r.push (UInt8.ofNat n.toNat)) ByteArray.empty),hK,.s _ _ (by rw [aI1,hns] <;> rfl),fun w' hs=>?_⟩
  rw [run_convert_bytes_string w' src dst el (some adr) len c h1 h3 h2]
  refine run_bytesToString w' adr len c ns ?_
  have hlen':(ns.map (Value.int .u8)).length=len:=by rw [← hl,hlen]; simp
  rw [← hlen']
  refine run_loadCells_list w' adr _ fun j v hj=>?_
  refine hrd adr rfl ?_ w' hs j v hj
  have:=(List.getElem?_eq_some_iff.1 hj).1
  omega
theorem nX {l:List UInt8} {x:ByteArray} (h:x.data.toList=l):x.size=l.length:=by subst h; show x.data.size=_; simp
theorem aLQ {x:AV} {cx:Value} {K:AV→Prop} {dst:Option Tmp} {op0:Operand} {t:TypeId} {pos:String} {af:Array Edge} {g:Option (Nat × Bool)} {ρ:Operand→Value} (hρ:ρ op0=cx)
  (hx:aX μ x cx) (hk:aK x K):∃ v cv,K v∧aX μ v cv∧∀ w',(execOp ρ { dst,op:=.nilCheck op0,type:=t,pos,after:=af,guard:=g }).run P w' = .ok (.value cv) w':=by
 subst hρ
 have hx':=hx
 generalize hcx:ρ op0=cx at *
 cases hx with
 | u | pn | nf | ni=>exact hk.elim
 | fn f a b a' b' h1 h2 =>
  cases f with
  | func f=>exact ⟨_,_,hk,hx',fun w'=>by simp [execOp,hcx]⟩
  | _=>exact hk.elim
 | _=>exact ⟨_,_,hk,hx',fun w'=>by simp [execOp,hcx]⟩
end
end Go.GAM
namespace Go.GAM
section
variable {P:Program} {w0:World} {Fz:Nat→Prop} {μ:Mu} {own:Nat→Option Nat} {h:aA} {w:World}
theorem aFY {op:BinOp} {r:Bool} {K:AV→Prop} (hk:eP op r K):(op = .eql∧K (.b r))∨(op = .neq∧K (.b (!r))):=by
 cases op <;> first | exact hk.elim | exact .inl ⟨rfl,hk⟩ | exact .inr ⟨rfl,hk⟩
theorem nB (x y:ByteArray):(x.toList == y.toList)=decide (x.data.toList=y.data.toList):=by
 rw [ByteArray.toList_eq,ByteArray.toList_eq]
 rw [Bool.eq_iff_iff]; simp
theorem aS {c:Bool} {A:Prop} (h:bif c then A else False):c=true∧A:=by
 cases c
 ·exact False.elim h
 ·exact ⟨rfl,h⟩
theorem aBT {op:BinOp} {t:TypeId} {k k':IntKind} {a b:Int} {K:AV→Prop} (hk:cI P op t (.i k a) (.i k' b) K) :
  ∃ v cv,K v∧aX μ v cv∧∀ w',(binOp op t (.int k a) (.int k' b)).run P w' = .ok cv w':=by
 cases op with
 | shl=>obtain ⟨hb,hK⟩:=hk; exact ⟨_,_,hK,.i _ _,fun w'=>by simp [binOp,Op.shift,Int.not_lt.2 hb]⟩
 | shr=>obtain ⟨hb,hK⟩:=hk; exact ⟨_,_,hK,.i _ _,fun w'=>by simp [binOp,Op.shift,Int.not_lt.2 hb]⟩
 | add=>obtain ⟨he,hK⟩:=aS hk; have:=eS he; subst this; exact ⟨_,_,hK,.i _ _,fun w'=>by simp [binOp,Op.intArith]⟩
 | sub=>obtain ⟨he,hK⟩:=aS hk; have:=eS he; subst this; exact ⟨_,_,hK,.i _ _,fun w'=>by simp [binOp,Op.intArith]⟩
 | mul=>obtain ⟨he,hK⟩:=aS hk; have:=eS he; subst this; exact ⟨_,_,hK,.i _ _,fun w'=>by simp [binOp,Op.intArith]⟩
 | quo=>obtain ⟨he,hb,hK⟩:=aS hk; have:=eS he; subst this; exact ⟨_,_,hK,.i _ _,fun w'=>by simp [binOp,Op.intDiv,hb]⟩
 | rem=>obtain ⟨he,hb,hK⟩:=aS hk; have:=eS he; subst this; exact ⟨_,_,hK,.i _ _,fun w'=>by simp [binOp,Op.intDiv,hb]⟩
 | and=>obtain ⟨he,hK⟩:=aS hk; have:=eS he; subst this; exact ⟨_,_,hK,.i _ _,fun w'=>by simp [binOp,Op.intBits,bA]⟩
 | or=>obtain ⟨he,hK⟩:=aS hk; have:=eS he; subst this; exact ⟨_,_,hK,.i _ _,fun w'=>by simp [binOp,Op.intBits,bA]⟩
 | xor=>obtain ⟨he,hK⟩:=aS hk; have:=eS he; subst this; exact ⟨_,_,hK,.i _ _,fun w'=>by simp [binOp,Op.intBits,bA]⟩
 | andNot=>obtain ⟨he,hK⟩:=aS hk; have:=eS he; subst this; exact ⟨_,_,hK,.i _ _,fun w'=>by simp [binOp,Op.intBits,bA]⟩
 | eql=>obtain ⟨he,hK⟩:=aS hk; have:=eS he; subst this; exact ⟨_,_,hK,.b _,fun w'=>by simp [binOp,Op.intCmp]; rfl⟩
 | neq=>obtain ⟨he,hK⟩:=aS hk; have:=eS he; subst this; exact ⟨_,_,hK,.b _,fun w'=>by simp [binOp,Op.intCmp,bne]; rfl⟩
 | lss=>obtain ⟨he,hK⟩:=aS hk; have:=eS he; subst this; exact ⟨_,_,hK,.b _,fun w'=>by simp [binOp,Op.intCmp]⟩
 | leq=>obtain ⟨he,hK⟩:=aS hk; have:=eS he; subst this; exact ⟨_,_,hK,.b _,fun w'=>by simp [binOp,Op.intCmp]⟩
 | gtr=>obtain ⟨he,hK⟩:=aS hk; have:=eS he; subst this; exact ⟨_,_,hK,.b _,fun w'=>by simp [binOp,Op.intCmp]⟩
 | geq=>obtain ⟨he,hK⟩:=aS hk; have:=eS he; subst this; exact ⟨_,_,hK,.b _,fun w'=>by simp [binOp,Op.intCmp]⟩
theorem aBE {op:BinOp} {t:TypeId} {x y:ByteArray} {K:AV→Prop} (hk:cI P op t (.s x.data.toList) (.s y.data.toList) K) :
  ∃ v cv,K v∧aX μ v cv∧∀ w',(binOp op t (.string x) (.string y)).run P w' = .ok cv w':=by
 have hlt:Op.bytesLess x.toList y.toList=Op.bytesLess x.data.toList y.data.toList:=by rw [ByteArray.toList_eq,ByteArray.toList_eq]
 cases op <;> simp only [cI] at hk <;> first | exact hk.elim | skip
 case add=>
  obtain ⟨hb,hK⟩:=hk
  refine ⟨_,.string (x++y),hK,.s _ _ (by simp),fun w'=>?_⟩
  have h1:x.data.toList.length=x.size:=(nX rfl).symm
  have h2:y.data.toList.length=y.size:=(nX rfl).symm
  rw [h1,h2] at hb
  have:¬ (((x.size+y.size:Nat):Int) > IntKind.i64.max):=by
   have:IntKind.i64.max=9223372036854775807:=by decide
   omega
  simp only [binOp,Op.stringOp,if_neg this]
  rfl
 case eql=>exact ⟨_,_,hk,.b _,fun w'=>by simp only [binOp,Op.stringOp,nB]; rfl⟩
 case neq=>exact ⟨_,_,hk,.b _,fun w'=>by simp only [binOp,Op.stringOp,nB]; rfl⟩
 case lss=>exact ⟨_,_,hk,.b _,fun w'=>by simp only [binOp,Op.stringOp,hlt]; rfl⟩
 case leq=>exact ⟨_,_,hk,.b _,fun w'=>by simp only [binOp,Op.stringOp,hlt,nB]; rfl⟩
 case gtr=>exact ⟨_,_,hk,.b _,fun w'=>by simp only [binOp,Op.stringOp,hlt,nB]; rfl⟩
 case geq=>exact ⟨_,_,hk,.b _,fun w'=>by simp only [binOp,Op.stringOp,hlt]; rfl⟩
theorem cD {op:BinOp} {t:TypeId} {x y:Value} {r:Bool} {K:AV→Prop} (hk:eP op r K) (hn:∀ op,op = .eql∨op = .neq→binOp op t x y=(match op with | .eql=>(do pure (.bool (← Op.equal t x y))) | _=>(do pure (.bool (!(← Op.equal t x y))))))
  (he:∀ w',(Op.equal t x y).run P w' = .ok r w'):∃ v cv,K v∧aX μ v cv∧∀ w',(binOp op t x y).run P w' = .ok cv w':=by
 rcases aFY hk with ⟨rfl,hK⟩ | ⟨rfl,hK⟩
 ·exact ⟨_,_,hK,.b _,fun w'=>by rw [hn _ (.inl rfl)]; simp [he]⟩
 ·exact ⟨_,_,hK,.b _,fun w'=>by rw [hn _ (.inr rfl)]; simp [he]⟩
def prt (P:Program) (f:Field) (cs:List AV):AV:=
 match P.underlying f.type with
 | some (.struct _) | some (.array _ _)=>.ag ((cs.drop f.offset).take (P.cellsOf f.type))
 | _=>cs.getD f.offset .u
theorem aAJ {f:Field} {cs:List AV} {vs:Array Value} (hv:VRels μ cs vs.toList) (hu:(prt P f cs).sizeOK=true) (hd:(P.underlying f.type).isSome=true) :
  ∃ cv,aX μ (prt P f cs) cv∧∀ w',(part f.type vs f.offset).run P w' = .ok cv w':=by
 obtain ⟨d,hd⟩:=Option.isSome_iff_exists.1 hd
 have agg:(prt P f cs = .ag ((cs.drop f.offset).take (P.cellsOf f.type))∧∀ w',(isAgg f.type).run P w' = .ok true w')∨(prt P f cs=cs.getD f.offset .u∧∀ w',(isAgg f.type).run P w' = .ok false w'):=by
  unfold prt
  cases d <;> simp only [hd] <;> first | exact .inl ⟨trivial,fun w'=>by simp [isAgg,aW hd]⟩ | exact .inr ⟨trivial,fun w'=>by simp [isAgg,aW hd]⟩
 rcases agg with ⟨h1,h2⟩ | ⟨h1,h2⟩
 ·rw [h1] at hu ⊢
  refine ⟨.agg (vs.extract f.offset (f.offset+P.cellsOf f.type)),.ag _ _ ?_,fun w'=>?_⟩
  ·have := (hv.drop f.offset).take (P.cellsOf f.type)
   simpa [Array.toList_extract,List.extract] using this
  ·simp [part,h2,kM hd]
 ·rw [h1] at hu ⊢
  have hlt:f.offset<cs.length:=by
   rcases Nat.lt_or_ge f.offset cs.length with h | h
   ·exact h
   ·simp [List.getD_eq_getElem?_getD,List.getElem?_eq_none h,AV.sizeOK] at hu
  obtain ⟨v,hv1,hv2⟩:=hv.get? hlt
  refine ⟨v,hv2,fun w'=>?_⟩
  have:vs[f.offset]? = some v:=by simpa using hv1
  simp [part,h2,this]
theorem aI5 {d:Nat} {t:TypeId} {x y:AV} {r:Bool} (h:aEq P d t x y=some r):x.sizeOK=true∧y.sizeOK=true∧(P.underlying t).isSome=true:=by
 cases d with
 | zero=>simp [aEq] at h
 | succ d =>
  unfold aEq at h
  split at h <;> first | (cases h; done) | (rename_i hu; exact ⟨rfl,rfl,by simp [hu]⟩)
theorem kA (d n : Nat) (ih : ∀ (t : TypeId) (x y : AV) (cx cy : Value) (r : Bool), aEq P d t x y = some r → aX μ x cx → aX μ y cy → ∀ w', (Op.equalIn (d + n) t cx cy).run P w' = .ok r w')
  (xs ys:List AV) (vx vy:Array Value) (hx:VRels μ xs vx.toList) (hy:VRels μ ys vy.toList):∀ (fs:List Field) (r:Bool),
  fs.foldr (fun f acc=>if f.name = "_" then acc else match aEq P d f.type (prt P f xs) (prt P f ys),acc with | some r,some a=>some (r&&a) | _,_=>none) (some true)=some r →
  ∀ w',(Op.eqFields (d+n) vx vy fs).run P w' = .ok r w'
 | [],r,h,w'=>by simp at h; subst h; simp [Op.eqFields]
 | f :: fs, r, h, w' => by
  simp only [List.foldr_cons] at h
  simp only [Op.eqFields,Sem.run_ite]
  split at h
  ·rename_i hn
   rw [if_neg (by simp [hn])]
   exact kA d n ih xs ys vx vy hx hy fs r h w'
  ·rename_i hn
   rw [if_pos (by simpa using hn)]
   split at h
   ·rename_i r1 a h1 h2
    simp only [Option.some.injEq] at h
    obtain ⟨s1,s2,s3⟩:=aI5 h1
    obtain ⟨c1,hc1,hr1⟩:=aAJ hx s1 s3
    obtain ⟨c2,hc2,hr2⟩:=aAJ hy s2 s3
    simp only [Sem.run_bind,hr1,hr2,Result.andThen_ok,ih _ _ _ _ _ _ h1 hc1 hc2]
    cases r1 with
    | false=>simp at h; subst h; simp
    | true=>simp at h; subst h; simp [kA d n ih xs ys vx vy hx hy fs _ h2 w']
   ·cases h
theorem wE : ∀ (d : Nat) (t : TypeId) (x y : AV) (cx cy : Value) (r : Bool), aEq P d t x y = some r → aX μ x cx → aX μ y cy → ∀ n w', (Op.equalIn (d + n) t cx cy).run P w' = .ok r w' := by
 intro d
 induction d with
 | zero=>intro t x y cx cy r hk; simp [aEq] at hk
 | succ d ih =>
  intro t x y cx cy r hk hx hy n w'
  rw [show d+1+n=(d+n)+1 by omega]
  unfold aEq at hk
  split at hk
  ·rename_i a b hu
   cases hx; cases hy
   simp only [Option.some.injEq] at hk; subst hk
   simp [Op.equalIn,aW hu]
  ·rename_i k0 k a k' b hu
   cases hx; cases hy
   split at hk
   ·simp only [Option.some.injEq] at hk; subst hk
    rename_i hkk; subst hkk
    simp [Op.equalIn,aW hu]
   ·cases hk
  ·rename_i a b hu
   cases hx with | s _ x hx=>cases hy with | s _ y hy=>
   subst hx; subst hy
   simp only [Option.some.injEq] at hk; subst hk
   simp only [Op.equalIn,Sem.run_bind,aW hu,Result.andThen]
   have:(x == y)=(x.data.toList == y.data.toList):=by rw [beq_toListBytes,ByteArray.toList_eq,ByteArray.toList_eq]
   simp [this]
  ·rename_i fs xs ys hu
   cases hx with | ag _ vx hx=>cases hy with | ag _ vy hy=>
   split at hk
   ·cases hk
   rename_i hst
   have hst':P.stoodInHeld t=false:=by simpa using hst
   have hf:P.fieldsOf t=fs:=by simp [Program.fieldsOf,hu]
   rw [run_equalIn_struct w' (d+n) t vx vy (by rw [hf]; exact hu) hst',hf]
   exact kA d n (fun t x y cx cy r h1 h2 h3 w'=>ih t x y cx cy r h1 h2 h3 n w') xs ys vx vy hx hy fs.toList r hk w'
  ·cases hk
theorem vG {t:TypeId} (h:lF P t=true):∃ e,P.underlying t=some (.pointer e):=by
 unfold lF at h; split at h <;> first | exact ⟨_,by assumption⟩ | cases h
theorem aAA {t:TypeId} (h:aMC P t=true):∃ e,P.underlying t=some (.slice e):=by
 unfold aMC at h; split at h <;> first | exact ⟨_,by assumption⟩ | cases h
theorem zN {t:TypeId} (h:aGK P t=true):∃ a b c,P.underlying t=some (.func a b c):=by
 unfold aGK at h; split at h <;> first | exact ⟨_,_,_,by assumption⟩ | cases h
theorem aG3 {t:TypeId} (h:aHC P t=true):∃ e,P.underlying t=some (.interface e):=by
 unfold aHC at h; split at h <;> first | exact ⟨_,by assumption⟩ | cases h
theorem vX {t:TypeId} (h:aCJ P t=true):∃ a b,P.underlying t=some (.map a b):=by
 unfold aCJ at h; split at h <;> first | exact ⟨_,_,by assumption⟩ | cases h
theorem cU {t:TypeId} {x y:Value} {r:Bool} (h:∀ d w',(Op.equalIn (d+1) t x y).run P w' = .ok r w') (w':World):(Op.equal t x y).run P w' = .ok r w':=h 9999 w'
theorem aMB {op : BinOp} {t : TypeId} {x y : AV} {cx cy : Value} {K : AV → Prop} (hx : aX μ x cx) (hy : aX μ y cy) (hk : cI P op t x y K) :
  ∃ v cv,K v∧aX μ v cv∧∀ (ox oy:Operand) w',(do eqGuard op t ox oy cx cy; binOp op t cx cy:Sem Value).run P w' = .ok cv w':=by
 have go:(∀ (ox oy:Operand) w',(eqGuard op t ox oy cx cy).run P w' = .ok () w')→(∃ v cv,K v∧aX μ v cv∧∀ w',(binOp op t cx cy).run P w' = .ok cv w') →
   ∃ v cv,K v∧aX μ v cv∧∀ (ox oy:Operand) w',(do eqGuard op t ox oy cx cy; binOp op t cx cy:Sem Value).run P w' = .ok cv w':=fun h1 ⟨v,cv,h2,h3,h4⟩=>⟨v,cv,h2,h3,fun ox oy w'=>by simp [h1,h4]⟩
 cases hx with
 | i k a =>
  cases hy with
  | i k' b=>exact go (fun ox oy w'=>by cases op <;> simp [eqGuard]) (aBT hk)
  | _=>exact hk.elim
 | s l x hx =>
  cases hy with
  | s l' y hy=>subst hx; subst hy; exact go (fun ox oy w'=>by cases op <;> simp [eqGuard]) (aBE hk)
  | _=>exact hk.elim
 | b a =>
  cases hy with
  | b b =>
   simp only [cI] at hk
   split at hk <;> first | exact hk.elim | skip
   rename_i hu
   exact go (fun ox oy w'=>by cases op <;> simp [eqGuard]) (cD hk (by rintro op (rfl | rfl) <;> simp [binOp]) fun w'=>cU (fun d w'=>by simp [Op.equalIn,aW hu]) w')
  | _=>exact hk.elim
 | pn =>
  cases hy with
  | pn =>
   obtain ⟨hu,hk⟩:=aS hk
   obtain ⟨e,hu⟩:=vG hu
   exact go (fun ox oy w'=>by cases op <;> simp [eqGuard]) (cD hk (by rintro op (rfl | rfl) <;> simp [binOp]) fun w'=>cU (fun d w'=>by simp [Op.equalIn,aW hu]) w')
  | p a l o hl ho =>
   obtain ⟨hu,hk⟩:=aS hk
   obtain ⟨e,hu⟩:=vG hu
   exact go (fun ox oy w'=>by cases op <;> simp [eqGuard]) (cD hk (by rintro op (rfl | rfl) <;> simp [binOp]) fun w'=>cU (fun d w'=>by simp [Op.equalIn,aW hu]) w')
  | _=>exact hk.elim
 | p a l o hl ho =>
  cases hy with
  | pn =>
   obtain ⟨hu,hk⟩:=aS hk
   obtain ⟨e,hu⟩:=vG hu
   exact go (fun ox oy w'=>by cases op <;> simp [eqGuard]) (cD hk (by rintro op (rfl | rfl) <;> simp [binOp]) fun w'=>cU (fun d w'=>by simp [Op.equalIn,aW hu]) w')
  | p a' l' o' hl' ho' =>
   obtain ⟨i1,v1,o1⟩:=a
   obtain ⟨i2,v2,o2⟩:=a'
   obtain ⟨hc,hq⟩:=aS hk
   clear hk
   simp only [Bool.and_eq_true] at hc
   obtain ⟨⟨⟨hu,q1⟩,q2⟩,q3⟩:=hc
   obtain rfl:i1=i2:=Nat.eq_of_beq_eq_true q1
   obtain rfl:v1=v2:=Nat.eq_of_beq_eq_true q2
   obtain rfl:o1=o2:=Nat.eq_of_beq_eq_true q3
   simp only at hl hl' ho ho'
   rw [hl] at hl'; cases hl'
   subst ho; subst ho'
   obtain ⟨e,j,hu,hj⟩:∃ e j,P.underlying t=some (.pointer e)∧P.info? e=some j:=by
    unfold aDB at hu
    split at hu
    ·rename_i e he
     obtain ⟨j,hj⟩:=Option.isSome_iff_exists.1 hu
     exact ⟨e,j,he,hj⟩
    ·cases hu
   exact go (fun ox oy w'=>by cases op <;> simp [eqGuard]) (cD hq (by rintro op (rfl | rfl) <;> simp [binOp]) fun w'=>cU (fun d w'=>by simp [Op.equalIn,aW hu,sizeOf,typeInfo,hj,sameAddr]) w')
  | _=>exact hk.elim
 | sn =>
  cases hy with
  | sn =>
   obtain ⟨hu,hk⟩:=aS hk
   obtain ⟨e,hu⟩:=aAA hu
   exact go (fun ox oy w'=>by cases op <;> simp [eqGuard]) (cD hk (by rintro op (rfl | rfl) <;> simp [binOp]) fun w'=>cU (fun d w'=>by simp [Op.equalIn,aW hu]) w')
  | sl =>
   obtain ⟨hu,hk⟩:=aS hk
   obtain ⟨e,hu⟩:=aAA hu
   exact go (fun ox oy w'=>by cases op <;> simp [eqGuard]) (cD hk (by rintro op (rfl | rfl) <;> simp [binOp]) fun w'=>cU (fun d w'=>by simp [Op.equalIn,aW hu]) w')
  | _=>exact hk.elim
 | sl =>
  cases hy with
  | sn =>
   obtain ⟨hu,hk⟩:=aS hk
   obtain ⟨e,hu⟩:=aAA hu
   exact go (fun ox oy w'=>by cases op <;> simp [eqGuard]) (cD hk (by rintro op (rfl | rfl) <;> simp [binOp]) fun w'=>cU (fun d w'=>by simp [Op.equalIn,aW hu]) w')
  | _=>exact hk.elim
 | nf =>
  cases hy with
  | nf =>
   obtain ⟨hu,hk⟩:=aS hk
   obtain ⟨_,_,_,hu⟩:=zN hu
   exact go (fun ox oy w'=>by cases op <;> simp [eqGuard]) (cD hk (by rintro op (rfl | rfl) <;> simp [binOp]) fun w'=>cU (fun d w'=>by simp [Op.equalIn,aW hu]) w')
  | fn =>
   obtain ⟨hu,hk⟩:=aS hk
   obtain ⟨_,_,_,hu⟩:=zN hu
   exact go (fun ox oy w'=>by cases op <;> simp [eqGuard]) (cD hk (by rintro op (rfl | rfl) <;> simp [binOp]) fun w'=>cU (fun d w'=>by simp [Op.equalIn,aW hu]) w')
  | _=>exact hk.elim
 | fn =>
  cases hy with
  | nf =>
   obtain ⟨hu,hk⟩:=aS hk
   obtain ⟨_,_,_,hu⟩:=zN hu
   exact go (fun ox oy w'=>by cases op <;> simp [eqGuard]) (cD hk (by rintro op (rfl | rfl) <;> simp [binOp]) fun w'=>cU (fun d w'=>by simp [Op.equalIn,aW hu]) w')
  | _=>exact hk.elim
 | ni =>
  cases hy with
  | ifc =>
   obtain ⟨hu,hk⟩:=aS hk
   obtain ⟨_,hu⟩:=aG3 hu
   exact go (fun ox oy w'=>by cases op <;> simp [eqGuard]) (cD hk (by rintro op (rfl | rfl) <;> simp [binOp]) fun w'=>cU (fun d w'=>by simp [Op.equalIn,aW hu]) w')
  | _=>exact hk.elim
 | ifc =>
  cases hy with
  | ni =>
   obtain ⟨hu,hk⟩:=aS hk
   obtain ⟨_,hu⟩:=aG3 hu
   exact go (fun ox oy w'=>by cases op <;> simp [eqGuard]) (cD hk (by rintro op (rfl | rfl) <;> simp [binOp]) fun w'=>cU (fun d w'=>by simp [Op.equalIn,aW hu]) w')
  | _=>exact hk.elim
 | mpn =>
  cases hy with
  | mpn =>
   obtain ⟨hu,hk⟩:=aS hk
   obtain ⟨_,_,hu⟩:=vX hu
   exact go (fun ox oy w'=>by cases op <;> simp [eqGuard]) (cD hk (by rintro op (rfl | rfl) <;> simp [binOp]) fun w'=>cU (fun d w'=>by simp [Op.equalIn,aW hu]) w')
  | mp =>
   obtain ⟨hu,hk⟩:=aS hk
   obtain ⟨_,_,hu⟩:=vX hu
   exact go (fun ox oy w'=>by cases op <;> simp [eqGuard]) (cD hk (by rintro op (rfl | rfl) <;> simp [binOp]) fun w'=>cU (fun d w'=>by simp [Op.equalIn,aW hu]) w')
  | _=>exact hk.elim
 | mp =>
  cases hy with
  | mpn =>
   obtain ⟨hu,hk⟩:=aS hk
   obtain ⟨_,_,hu⟩:=vX hu
   exact go (fun ox oy w'=>by cases op <;> simp [eqGuard]) (cD hk (by rintro op (rfl | rfl) <;> simp [binOp]) fun w'=>cU (fun d w'=>by simp [Op.equalIn,aW hu]) w')
  | _=>exact hk.elim
 | ag cs vs hc =>
  cases hy with
  | ag cs' vs' hc' =>
   simp only [cI] at hk
   cases hg:P.eqGuardType P.depth t with
   | true=>rw [hg] at hk; exact hk.elim
   | false=>
   rw [hg] at hk
   simp only [cond_false] at hk
   split at hk <;> first | exact hk.elim | skip
   rename_i r hr
   exact go (fun ox oy w'=>run_eqGuard_agg w' op t ox oy vs vs' hg) (cD hk (by rintro op (rfl | rfl) <;> simp [binOp]) fun w'=>wE 64 t _ _ _ _ r hr (.ag _ _ hc) (.ag _ _ hc') 9936 w')
  | _=>exact hk.elim
 | _=>exact hk.elim
theorem aCX {t:TypeId} (h:xE P t=true):(∃ k,P.underlying t=some (.int k))∨P.underlying t=some .string∨P.underlying t=some .bool:=by
 unfold xE at h
 split at h
 ·exact .inl ⟨_,by assumption⟩
 ·exact .inr (.inl (by assumption))
 ·exact .inr (.inr (by assumption))
 ·cases h
theorem eA {t:TypeId} (h:xE P t=true) (em:Bool) (n:Nat) (v:Value) (w':World):(Instr.checkKey em (n+1) t v).run P w' = .ok () w':=by
 rcases aCX h with ⟨k,hu⟩ | hu | hu <;> simp [Instr.checkKey,aW hu]
theorem jE {xs : List AV} {vx : Array Value} (hx : VRels μ xs vx.toList) (em : Bool) (n : Nat) (w' : World) : ∀ fs : List Field, (fs.all fun f => xE P f.type) = true → (fs.all fun f => Nat.blt f.offset xs.length) = true →
  (forIn fs PUnit.unit fun (f:Field) (_:PUnit)=>(if f.name ≠ "_" then do
    let x ← part f.type vx f.offset
    Instr.checkKey em (n+1) f.type x
    pure (ForInStep.yield PUnit.unit)
   else pure (ForInStep.yield PUnit.unit):Sem (ForInStep PUnit))).run P w' = .ok PUnit.unit w'
 | [],_,_=>by simp
 | f :: fs, h1, h2 => by
  simp only [List.all_cons,Bool.and_eq_true] at h1 h2
  obtain ⟨v,hv1,_⟩:=hx.get? (Nat.le_of_ble_eq_true h2.1)
  have hv:vx[f.offset]? = some v:=by simpa using hv1
  have hp:(part f.type vx f.offset).run P w' = .ok v w':=by
   have ha:(isAgg f.type).run P w' = .ok false w':=by
    rcases aCX h1.1 with ⟨k,hu⟩ | hu | hu <;> simp [isAgg,aW hu]
   simp [part,ha,hv]
  rw [List.forIn_cons,Sem.run_bind]
  have e:(if f.name ≠ "_" then do
    let x ← part f.type vx f.offset
    Instr.checkKey em (n+1) f.type x
    pure (ForInStep.yield PUnit.unit)
   else pure (ForInStep.yield PUnit.unit):Sem (ForInStep PUnit)).run P w' = .ok (ForInStep.yield PUnit.unit) w':=by
   by_cases hn:f.name = "_"
   ·simp [hn]
   ·simp [hn,hp,eA h1.1]
  rw [e]
  exact jE hx em n w' fs h1.2 h2.2
theorem uE {kt : TypeId} {k : AV} {ck : Value} (h1 : aBH P kt = true) (h2 : aMS P kt k = true) (hk : aX μ k ck) (em : Bool) (w' : World) : (Instr.checkKey em 10000 kt ck).run P w' = .ok () w' := by
 unfold aBH at h1
 split at h1
 ·exact eA (n:=9999) (by simp [xE, *]) em ck w'
 ·exact eA (n:=9999) (by simp [xE, *]) em ck w'
 ·exact eA (n:=9999) (by simp [xE, *]) em ck w'
 ·rename_i fs hu
  unfold aMS at h2
  rw [hu] at h2
  simp only at h2
  split at h2
  ·rename_i cs
   cases hk with
   | ag _ vs hv =>
    have:=jE (P:=P) hv em 9998 w' fs.toList h1 h2
    unfold Instr.checkKey
    simp only [Sem.run_bind,aW hu,Result.andThen_ok]
    rw [← Array.forIn_toList]
    exact (congrArg (fun r=>Result.andThen r fun _ w'=>Sem.run P (pure ():Sem Unit) w') this).trans (by simp)
  ·cases h2
 ·cases h1
theorem aR4 {d:Nat} {kt:TypeId} {q:IntKind} (hu:P.underlying kt=some (.int q)) (x y:AV):aEq P (d+1) kt x y=match x,y with
  | .i k a,.i k' b=>if k=k' then some (a == b) else none
  | _,_=>none:=by
 cases x <;> cases y <;> simp only [aEq,hu]
theorem aRJ {d:Nat} {kt:TypeId} (hu:P.underlying kt=some .string) (x y:AV):aEq P (d+1) kt x y=match x,y with
  | .s a,.s b=>some (a == b)
  | _,_=>none:=by
 cases x <;> cases y <;> simp only [aEq,hu]
theorem aP3 {d:Nat} {kt:TypeId} (hu:P.underlying kt=some .bool) (x y:AV):aEq P (d+1) kt x y=match x,y with
  | .b a,.b b=>some (a == b)
  | _,_=>none:=by
 cases x <;> cases y <;> simp only [aEq,hu]
theorem sA {kt:TypeId} {d:TypeDesc} (hu:P.underlying kt=some d) {k k':AV} {ck ck':Value} {r:Bool} (h:aEq P 64 kt k k'=some r) (hk:aX μ k ck) (hk':aX μ k' ck'):Instr.sameNow d ck ck'=some r∨Instr.sameNow d ck ck'=none:=by
 unfold Instr.sameNow
 split
 ·rename_i q q1 a q2 b
  rw [aR4 (d:=63) hu] at h
  cases hk <;> cases hk' <;> first | (cases h; done) | skip
  simp only at h
  split at h
  ·rename_i hq; cases h; rw [if_pos hq]; exact .inl rfl
  ·cases h
 ·rename_i a b
  rw [aRJ (d:=63) hu] at h
  cases hk <;> cases hk' <;> first | (cases h; done) | skip
  rename_i l hl l' hl'
  subst hl; subst hl'
  cases h
  refine .inl (congrArg some ?_)
  rw [beq_toListBytes,ByteArray.toList_eq,ByteArray.toList_eq]
 ·rename_i a b
  rw [aP3 (d:=63) hu] at h
  cases hk <;> cases hk' <;> first | (cases h; done) | skip
  cases h
  exact .inl rfl
 ·exact .inr rfl
def aF2 (μ:Mu):Option (Nat × AV)→Option (Nat × Value)→Prop
 | none,none=>True
 | some (j,v),some (j',cv)=>j=j'∧aX μ v cv
 | _,_=>False
theorem yZ {kt : TypeId} {k : AV} {ck : Value} (hk : aX μ k ck) : ∀ (es : List (AV × AV)) (ents : List MapEntry) (i : Nat) (r : Option (Nat × AV)), eU μ es ents → sB P kt k es i = some r →
  ∃ cr:Option (Nat × Value),(∀ w',(Instr.findAsking kt ck ents i).run P w' = .ok cr w')∧(∀ d,P.underlying kt=some d→Instr.findNow d ck ents i=some cr∨Instr.findNow d ck ents i=none)∧aF2 μ r cr:=by
 intro es ents i r hm
 induction hm generalizing i r with
 | nil =>
  intro h
  cases h
  exact ⟨none,fun w'=>by simp [Instr.findAsking],fun _ _=>.inl rfl,trivial⟩
 | cons k' v e es ents hk' hv t ih =>
  intro h
  unfold sB at h
  split at h
  ·rename_i he
   cases h
   have h:aEq P 64 kt k k'=some true:=he
   have hrun:∀ w',(Op.equal kt ck e.key).run P w' = .ok true w':=fun w'=>wE 64 kt k k' ck e.key true h hk hk' 9936 w'
   refine ⟨some (i,e.val), ?_,fun d hd=>?_,rfl,hv⟩
   ·intro w'; simp [Instr.findAsking,hrun]
   ·rcases sA hd h hk hk' with hs | hs
    ·exact .inl (by simp [Instr.findNow,hs])
    ·exact .inr (by simp [Instr.findNow,hs])
  ·rename_i he
   obtain ⟨cr,h1,h2,h3⟩:=ih (i+1) r h
   have h:aEq P 64 kt k k'=some false:=he
   have hrun:∀ w',(Op.equal kt ck e.key).run P w' = .ok false w':=fun w'=>wE 64 kt k k' ck e.key false h hk hk' 9936 w'
   refine ⟨cr, ?_,fun d hd=>?_,h3⟩
   ·intro w'; simp [Instr.findAsking,hrun,h1]
   ·rcases sA hd h hk hk' with hs | hs
    ·simp only [Instr.findNow,hs]; exact h2 d hd
    ·exact .inr (by simp [Instr.findNow,hs])
  ·cases h
theorem pQ {kt:TypeId} {k:AV} {ck:Value} (hkt:aBH P kt=true) (hk:aX μ k ck) {es:List (AV × AV)} {ents:List MapEntry} {r:Option (Nat × AV)} (hm:eU μ es ents) (h:sB P kt k es 0=some r) :
  ∃ cr:Option (Nat × Value),(∀ w',(Instr.findKey kt ck ents).run P w' = .ok cr w')∧aF2 μ r cr:=by
 obtain ⟨cr,h1,h2,h3⟩:=yZ hk es ents 0 r hm h
 obtain ⟨d,hd⟩:∃ d,P.underlying kt=some d:=by
  unfold aBH at hkt
  split at hkt <;> first | exact ⟨_,by assumption⟩ | cases hkt
 refine ⟨cr,fun w'=>?_,h3⟩
 unfold Instr.findKey
 simp only [Sem.run_bind,aW hd,Result.andThen_ok]
 rcases h2 d hd with hs | hs <;> rw [hs]
 ·simp
 ·exact h1 w'
theorem aQD {op:UnOp} {x:AV} {cx:Value} {K:AV→Prop} (hx:aX μ x cx) (hk:pUn op x K):∃ v cv,K v∧aX μ v cv∧∀ w',(Op.unary op cx).run P w' = .ok cv w':=by
 cases op <;> cases hx <;> first | exact hk.elim | skip
 ·exact ⟨_,_,hk,.i _ _,fun w'=>by simp [Op.unary,Op.intArith]⟩
 ·exact ⟨_,_,hk,.i _ _,fun w'=>by simp [Op.unary,Op.intBits,bA]⟩
 ·exact ⟨_,_,hk,.b _,fun w'=>by simp [Op.unary]⟩
end
end Go.GAM
namespace Go.GAM
section
variable {ds:List Deferred} {rd:Option Nat} {P:Program} {w0:World} {Fz:Nat→Prop} {μ:Mu} {own:Nat→Option Nat} {h:aA} {w:World}
inductive o7 (μ:Mu):Option AV→Option Value→Prop
 | none:o7 μ none none
 | some (a v) (h:aX μ a v):o7 μ (some a) (some v)
theorem Rel.evo (R:Rel w0 Fz μ own h w) {nt:Nat} {e:Env} {a:Act} (hE:bK ds μ nt e a):∀ x:Option Operand,o7 μ (x.map (GAM.ev e h)) (x.map a.eval)
 | none=>.none
 | some x=>.some _ _ (R.ev hE x)
def tG (cx:Option Value) (d n:Nat):Prop:=(cx=none∧n=d)∨∃ k z,cx=some (.int k z)∧0≤z∧n=z.toNat
theorem cV {x:Option AV} {cx:Option Value} {d:Nat} {K:Nat→Prop} (hx:o7 μ x cx) (hk:gM x d K):∃ n,K n∧tG cx d n∧(x.isSome=cx.isSome):=by
 cases hx with
 | none=>exact ⟨d,hk,.inl ⟨rfl,rfl⟩,rfl⟩
 | some a v h =>
  cases h <;> first | exact hk.elim | skip
  obtain ⟨h0,hK⟩:=hk
  exact ⟨_,hK,.inr ⟨_,_,rfl,h0,rfl⟩,rfl⟩
theorem jP (k:IntKind) (z:Int) (y n:Nat) (code:BoundsCode) (h0:0≤z) (hn:n=z.toNat) (hy:n≤y) (w':World):(Instr.sliceBound (.int k z) y code).run P w' = .ok n w':=by
 have:z≤y:=by omega
 simp [Instr.sliceBound,asIntOf,h0,this,hn]
theorem gQ {isSlice:Bool} {len cap L H M:Nat} {clo chi cmx:Option Value} (hm:tG cmx cap M) (hh:tG chi len H) (hl:tG clo 0 L)
  (h1:M≤cap) (h2:H≤M) (h3:L≤H) (hmh:cmx.isSome=true→chi.isSome=true) (w':World):(Instr.sliceBounds isSlice len cap clo chi cmx).run P w' = .ok (L,H,M) w':=by
 rcases hm with ⟨rfl,rfl⟩ | ⟨km,zm,rfl,hm0,hm1⟩ <;> rcases hh with ⟨rfl,rfl⟩ | ⟨kh,zh,rfl,hh0,hh1⟩ <;> rcases hl with ⟨rfl,rfl⟩ | ⟨kl,zl,rfl,hl0,hl1⟩
 all_goals first
  | (simp at hmh; done)
  | (simp [Instr.sliceBounds]; done)
  | (simp [Instr.sliceBounds,jP _ _ _ _ _ hl0 hl1 h3]; done)
  | (simp [Instr.sliceBounds,jP _ _ _ _ _ hh0 hh1 h2]; done)
  | (simp [Instr.sliceBounds,jP _ _ _ _ _ hh0 hh1 h2,jP _ _ _ _ _ hl0 hl1 h3]; done)
  | (simp [Instr.sliceBounds,jP _ _ _ _ _ hm0 hm1 h1,jP _ _ _ _ _ hh0 hh1 h2]; done)
  | simp [Instr.sliceBounds,jP _ _ _ _ _ hm0 hm1 h1,jP _ _ _ _ _ hh0 hh1 h2,jP _ _ _ _ _ hl0 hl1 h3]
theorem pS (x:ByteArray) (a b:Nat):(x.extract a b).data.toList=(x.data.toList.take b).drop a:=by
 rw [ByteArray.data_extract,Array.toList_extract]
 show (x.data.toList.drop a).take (b - a)=_
 rw [List.drop_take]
theorem zO {t:TypeId} {x:AV} {cx:Value} {lo hi:Option AV} {clo chi:Option Value} {K:AV→Prop} (ht:P.underlying t=some .string) (hx:aX μ x cx) (hlo:o7 μ lo clo) (hhi:o7 μ hi chi)
  (hk:bV x lo hi fun l=>K (.s l)):∃ v cv,K v∧aX μ v cv∧∀ w',(Instr.sliceAt t cx clo chi none).run P w' = .ok cv w':=by
 cases hx <;> first | exact hk.elim | skip
 rename_i l s hs
 simp only [bV] at hk
 obtain ⟨m,hk,hm,_⟩:=cV hhi hk
 obtain ⟨n,⟨h1,h2,hK⟩,hn,_⟩:=cV hlo hk
 have hsz:=nX hs
 rw [← hsz] at h2 hm
 refine ⟨_,.string (s.extract n m),hK,.s _ _ (by rw [pS,hs]),fun w'=>?_⟩
 have hb:=gQ (P:=P) (isSlice:=false) (.inl ⟨rfl,rfl⟩) hm hn (Nat.le_refl _) h2 h1 (by simp) w'
 simp [Instr.sliceAt,Instr.slice,aW ht,hb]
theorem aBG (R : Rel w0 Fz μ own h w) {t el : TypeId} {x : AV} {cx : Value} {lo hi mx : Option AV} {clo chi cmx : Option Value} {K : AV → Prop} (ht : P.underlying t = some (.slice el)) (hel : (P.info? el).isSome = true)
  (hx:aX μ x cx) (hlo:o7 μ lo clo) (hhi:o7 μ hi chi) (hmx:o7 μ mx cmx)
  (hk:bW (P.cellsOf el) x lo hi mx h K):∃ v cv,K v∧aX μ v cv∧∀ w',(Instr.sliceAt t cx clo chi cmx).run P w' = .ok cv w':=by
 obtain ⟨i,hi0⟩:=Option.isSome_iff_exists.1 hel
 have hsize:∀ w',(sizeOf el).run P w' = .ok (P.cellsOf el) w':=fun w'=>by simp [sizeOf,typeInfo,hi0,Program.cellsOf]
 generalize P.cellsOf el=sz at *
 cases hx <;> first | exact hk.elim | skip
 ·
  simp only [bW] at hk
  obtain ⟨m,hk,hm,hms⟩:=cV hmx hk
  obtain ⟨j,hk,hj,hjs⟩:=cV hhi hk
  obtain ⟨i,⟨rfl,rfl,rfl,hmh,hK⟩,hi,_⟩:=cV hlo hk
  refine ⟨_,_,hK,.sn,fun w'=>?_⟩
  have hb:=gQ (P:=P) (isSlice:=true) hm hj hi (Nat.le_refl _) (Nat.le_refl _) (Nat.le_refl _) (by rw [← hms, ← hjs]; exact hmh) w'
  simp [Instr.sliceAt,Instr.slice,aW ht,hb,hsize]
 ·rename_i a len capo c addr l hl hle hf hc hs ha
  obtain ⟨hsz,hmh,hk⟩:=hk
  obtain ⟨j,hk,hj,hjs⟩:=cV hhi hk
  obtain ⟨i,⟨hij,b,hb,hfl,hfv,hbs,hk⟩,hi,_⟩:=cV hlo hk
  obtain ⟨b',hb',hver⟩:=R.mulen _ _ _ hl
  rw [hb] at hb'; cases hb'
  have hver:=hver hfl
  obtain ⟨l0,hl0⟩:=R.blk _ _ hb hfl
  have hv:=hl0.vers _ hfv hver _ hl
  rcases hbs with hbs | ⟨rfl,hmx0,hjc⟩
  rotate_left
  ·
   have hjc:j≤c:=by
    rcases hjc with h | ⟨k,h1,h2⟩
    ·omega
    ·rw [hs _ h1]; exact h2
   cases hmx with
   | some=>cases hmx0
   | none =>
    obtain ⟨_,hK⟩:=hk
    refine ⟨_,.slice (some addr) (j - 0) (c - 0),hK, ?_,fun w'=>?_⟩
    ·refine .sl _ _ _ _ _ l hl (by omega) (by simpa using hf) (fun h => ?_) (fun k hk => ?_) fun h => ?_
     ·have h : capo = none := by simpa using h
      simpa using hc h
     ·cases hcap : capo with
      | none=>simp [hcap] at hk
      | some k'=>simp [hcap] at hk; rw [hs _ hcap,hk] <;> rfl
     ·have := ha (by simpa using h)
      simpa using this
    ·have hbr := gQ (P := P) (isSlice := true) (len := len) (.inl ⟨rfl, rfl⟩) hj hi (Nat.le_refl c) hjc hij (by simp) w'
     simp only [Instr.sliceAt,Sem.run_bind,aW ht,Result.andThen_ok,Instr.slice,hbr,hsize,Sem.run_pure]
     congr 3
     split <;> simp [Addr.add]
  have hlsz:l.sz=sz:=by rw [hv.sz]; exact hbs
  have hvc:=hv.le
  rw [hlsz] at hf hc
  have hle':∀ j,(j≤len∨(capo=none∧a.off+j * sz≤a.ver)∨(∃ c,capo=some c∧j≤c))→j≤c:=by
   rintro j (h | ⟨h1,h2⟩ | ⟨k,h1,h2⟩)
   ·omega
   ·have h3 := hc h1
    have:j * sz≤c * sz:=by omega
    exact Nat.le_of_mul_le_mul_right this hsz
   ·rw [hs _ h1]; exact h2
  have fin:∀ (M:Nat) (capo':Option Nat),M≤c→i≤M→j≤M→(capo'=none→capo=none∧M=c)→(∀ k,capo'=some k→M - i=k) →
    aX μ (.sl (some ⟨a.id,a.ver,a.off+i * sz⟩) (j - i) capo') (.slice (some (if M=i then addr else addr.add (i * sz))) (j - i) (M - i)):=by
   intro M capo' h1 h2 h2' h3 h4
   have e1:i * sz+(M - i) * sz=M * sz:=by rw [← Nat.add_mul]; congr 1; omega
   have e2:M * sz≤c * sz:=Nat.mul_le_mul_right _ h1
   refine .sl _ _ _ _ _ l hl (by omega) ?_ ?_ h4 ?_
   ·rw [hlsz]; show a.off+i * sz+(M - i) * sz≤l.cap; omega
   ·intro h; obtain ⟨h5, rfl⟩ := h3 h
    rw [hlsz]; show a.off+i * sz+(M - i) * sz=l.cap
    have:=hc h5; omega
   ·intro h
    rw [if_neg (by omega),ha (by omega)]
    by_cases h0:i * sz=0
    ·simp [Addr.add,h0]
    ·simp [Addr.add,h0,Nat.add_assoc]
  cases hmx with
  | none =>
   obtain ⟨hj',hK⟩:=hk
   have hjc:=hle' j hj'
   refine ⟨_,_,hK,fin c _ (Nat.le_refl _) (by omega) hjc (fun h=>⟨by simpa using h,rfl⟩) (fun k hk=>?_),fun w'=>?_⟩
   ·cases hcap : capo with
    | none=>simp [hcap] at hk
    | some k'=>simp [hcap] at hk; rw [hs _ hcap]; exact hk
   ·have hbr := gQ (P := P) (isSlice := true) (len := len) (.inl ⟨rfl, rfl⟩) hj hi (Nat.le_refl c) hjc hij (by simp) w'
    simp only [Instr.sliceAt,Sem.run_bind,aW ht,Result.andThen_ok,Instr.slice,hbr,hsize,Sem.run_pure]
    congr 3
    split <;> rfl
  | some m cm hmr =>
   obtain ⟨M,⟨hjM,hM',hK⟩,hM,_⟩:=cV (d:=0) (.some _ _ hmr) hk
   have hMc:=hle' M hM'
   have hM2:tG (some cm) c M:=by
    rcases hM with ⟨h,_⟩ | h
    ·cases h
    ·exact .inr h
   refine ⟨_,_,hK,fin M _ hMc (by omega) hjM (fun h=>by cases h) (fun k hk=>by simpa using hk),fun w'=>?_⟩
   have hjs':chi.isSome=true:=by rw [← hjs]; exact hmh rfl
   have hbr:=gQ (P:=P) (isSlice:=true) (len:=len) hM2 hj hi hMc hjM hij (fun _=>hjs') w'
   simp only [Instr.sliceAt,Sem.run_bind,aW ht,Result.andThen_ok,Instr.slice,hbr,hsize,Sem.run_pure]
   congr 3
   split <;> rfl
theorem aAR (R:Rel w0 Fz μ own h w) {t el:TypeId} {n:Nat} {x:AV} {cx:Value} {lo hi:Option AV} {clo chi:Option Value} {K:AV→Prop} (ht:P.underlying t=some (.array n el)) (hel:(P.info? el).isSome=true)
  (hx:aX μ x cx) (hlo:o7 μ lo clo) (hhi:o7 μ hi chi)
  (hk:mV n (P.cellsOf el) x lo hi h K):∃ v cv,K v∧aX μ v cv∧∀ w',(Instr.sliceAt t cx clo chi none).run P w' = .ok cv w':=by
 obtain ⟨i,hi0⟩:=Option.isSome_iff_exists.1 hel
 have hsize:∀ w',(sizeOf el).run P w' = .ok (P.cellsOf el) w':=fun w'=>by simp [sizeOf,typeInfo,hi0,Program.cellsOf]
 generalize P.cellsOf el=sz at *
 cases hx <;> first | exact hk.elim | skip
 rename_i a l o hl ho
 subst ho
 obtain ⟨hsz,hk⟩:=hk
 obtain ⟨j,hk,hj,hjs⟩:=cV hhi hk
 obtain ⟨i,⟨hij,hjn,b,hb,hbs,hr,hK⟩,hi,_⟩:=cV hlo hk
 obtain ⟨l0,hl0⟩:=R.blk _ _ hb (Nat.le_trans hr.1 hr.2.1)
 have hv:=hl0.vers _ hr.1 hr.2.1 _ hl
 have hlsz:l.sz=sz:=by rw [hv.sz]; exact hbs
 have hvc:=hv.le
 have hr3:=hr.2.2
 have e1:i * sz+(n - i) * sz=n * sz:=by rw [← Nat.add_mul]; congr 1; omega
 refine ⟨_,.slice (some (if n=i then ⟨l.B,l.base+a.off,none⟩ else (⟨l.B,l.base+a.off,none⟩:Addr).add (i * sz))) (j - i) (n - i),hK,.sl _ _ _ _ _ l hl (by omega) ?_ (fun h=>by cases h) (fun k hk=>by simpa using hk) ?_,fun w'=>?_⟩
 ·rw [hlsz]; show a.off+i * sz+(n - i) * sz≤l.cap; omega
 ·intro h
  rw [if_neg (by omega)]
  by_cases h0:i * sz=0
  ·simp [Addr.add,h0]
  ·simp [Addr.add,h0,Nat.add_assoc]
 ·have hbr := gQ (P := P) (isSlice := false) (.inl ⟨rfl, rfl⟩) hj hi (Nat.le_refl n) hjn hij (by simp) w'
  simp only [Instr.sliceAt,Sem.run_bind,aW ht,Result.andThen_ok,Instr.sureAddr,hbr,hsize,Sem.run_pure]
theorem xV {t:TypeId} {fs:Array Field} {fl:Field} {f:Nat} {x:AV} {cx:Value} {K:AV→Prop} (ht:P.underlying t=some (.struct fs)) (hf:fs[f]? = some fl) (hz:Nat.beq (P.cellsOf fl.type) 0=false)
  (hx:aX μ x cx) (hk:aB fl.offset x K):∃ v cv,K v∧aX μ v cv∧∀ w',(Instr.fieldAt t cx f).run P w' = .ok cv w':=by
 cases hx <;> first | exact hk.elim | skip
 rename_i a l o hl ho
 subst ho
 refine ⟨_,.pointer (some ⟨l.B,l.base+(a.off+fl.offset),none⟩),hk,.p ⟨a.id,a.ver,a.off+fl.offset⟩ l _ hl rfl,fun w'=>?_⟩
 have hinfo:∃ i,P.info? fl.type=some i∧P.cellsOf fl.type=i.size:=by
  cases hi:P.info? fl.type with
  | none=>simp [Program.cellsOf,hi] at hz
  | some i=>exact ⟨i,rfl,by simp [Program.cellsOf,hi]⟩
 obtain ⟨i,hi,his⟩:=hinfo
 have hne:i.size≠0:=by
  intro h0; rw [his,h0] at hz; simp at hz
 have e:(⟨l.B,l.base+a.off,none⟩:Addr).add fl.offset=⟨l.B,l.base+(a.off+fl.offset),none⟩:=by
  by_cases h0:fl.offset=0
  ·simp [Addr.add,h0]
  ·simp [Addr.add,h0,Nat.add_assoc]
 simp [Instr.fieldAt,aW ht,hf,Instr.sureAddr,fieldPlace,sizeOf,typeInfo,hi,hne,e]
theorem aGM {t:TypeId} {fs:Array Field} {fl:Field} {f:Nat} {x:AV} {cx:Value} {K:AV→Prop} {r:Bool} (ht:P.underlying t=some (.struct fs)) (hf:fs[f]? = some fl) (hr:dN P fl.type=some r)
  (hx:aX μ x cx) (hk:(match r with | true=>tS fl.offset (P.cellsOf fl.type) x K | false=>uR fl.offset x K)):∃ v cv,K v∧aX μ v cv∧∀ w',(Instr.field t cx f).run P w' = .ok cv w':=by
 obtain ⟨d,hd⟩:=(dF hr default).2
 cases r with
 | true =>
  cases hx <;> first | exact hk.elim | skip
  rename_i cs vs hv
  refine ⟨_,.agg (vs.extract fl.offset (fl.offset+P.cellsOf fl.type)),hk,.ag _ _ ?_,fun w'=>?_⟩
  ·have := (hv.drop fl.offset).take (P.cellsOf fl.type)
   simpa [Array.toList_extract,List.extract] using this
  ·simp [Instr.field,aW ht,hf,asAgg,part,(dF hr w').1,kM hd]
 | false =>
  cases hx <;> first | exact hk.elim | skip
  rename_i cs vs hv
  obtain ⟨hlt,hK⟩:=hk
  obtain ⟨v,hv1,hv2⟩:=hv.get? hlt
  have:vs[fl.offset]? = some v:=by simpa using hv1
  exact ⟨_,v,hK,hv2,fun w'=>by simp [Instr.field,aW ht,hf,asAgg,part,(dF hr w').1,this]⟩
theorem qK (B base off k:Nat):(⟨B,base+off,none⟩:Addr).add k=⟨B,base+(off+k),none⟩:=by
 by_cases h0:k=0
 ·simp [Addr.add,h0]
 ·simp [Addr.add,h0,Nat.add_assoc]
theorem yB (R:Rel w0 Fz μ own h w) {t el:TypeId} {x i:AV} {cx ci:Value} {K:AV→Prop} (ht:P.underlying t=some (.slice el)) (hel:(P.info? el).isSome=true) (hx:aX μ x cx) (hi:aX μ i ci)
  (hk:aU (P.cellsOf el) x i h K):∃ v cv,K v∧aX μ v cv∧∀ w',(Instr.indexAt t cx ci).run P w' = .ok cv w':=by
 obtain ⟨inf,hi0⟩:=Option.isSome_iff_exists.1 hel
 have hsize:∀ w',(sizeOf el).run P w' = .ok (P.cellsOf el) w':=fun w'=>by simp [sizeOf,typeInfo,hi0,Program.cellsOf]
 generalize P.cellsOf el=sz at *
 cases hx with
 | sl a len capo c addr l hl hle hf hc hs ha =>
  cases hi with
  | i k n =>
   obtain ⟨h0,h1,_,hK⟩:=hk
   refine ⟨_,.pointer (some ⟨l.B,l.base+(a.off+n.toNat * sz),none⟩),hK,.p ⟨a.id,a.ver,a.off+n.toNat * sz⟩ l _ hl rfl,fun w'=>?_⟩
   rw [ha (by omega)]
   simp only [Instr.indexAt,Sem.run_bind,asIntOf,Sem.run_pure,Result.andThen_ok,aW ht,hsize]
   rw [if_pos ⟨h0,h1⟩]
   simp [hsize,qK]
  | _=>exact hk.elim
 | _=>cases hi <;> exact hk.elim
theorem vE {t el:TypeId} {len:Nat} {x i:AV} {cx ci:Value} {K:AV→Prop} (ht:P.underlying t=some (.array len el)) (hel:(P.info? el).isSome=true) (hx:aX μ x cx) (hi:aX μ i ci)
  (hk:bT len (P.cellsOf el) x i K):∃ v cv,K v∧aX μ v cv∧∀ w',(Instr.indexAt t cx ci).run P w' = .ok cv w':=by
 obtain ⟨inf,hi0⟩:=Option.isSome_iff_exists.1 hel
 have hsize:∀ w',(sizeOf el).run P w' = .ok (P.cellsOf el) w':=fun w'=>by simp [sizeOf,typeInfo,hi0,Program.cellsOf]
 generalize P.cellsOf el=sz at *
 cases hx with
 | p a l o hl ho =>
  subst ho
  cases hi with
  | i k n =>
   obtain ⟨h0,h1,hK⟩:=hk
   refine ⟨_,.pointer (some ⟨l.B,l.base+(a.off+n.toNat * sz),none⟩),hK,.p ⟨a.id,a.ver,a.off+n.toNat * sz⟩ l _ hl rfl,fun w'=>?_⟩
   simp only [Instr.indexAt,Sem.run_bind,asIntOf,Sem.run_pure,Result.andThen_ok,aW ht,hsize,Instr.sureAddr]
   rw [if_pos ⟨h0,h1⟩]
   simp [hsize,qK]
  | _=>exact hk.elim
 | _=>cases hi <;> exact hk.elim
theorem aEQ {t : TypeId} {x i : AV} {cx ci : Value} {K : AV → Prop} (ht : P.underlying t = some .string) (hx : aX μ x cx) (hi : aX μ i ci)
  (hk:cK x i fun n=>K (.i .u8 n)):∃ v cv,K v∧aX μ v cv∧∀ w',(Instr.index t cx ci).run P w' = .ok cv w':=by
 cases hx with
 | s l s hs =>
  cases hi with
  | i k n =>
   obtain ⟨h0,h1,hK⟩:=hk
   have hsz:=nX hs
   have hlt:n.toNat<s.size:=by omega
   have hg:s[n.toNat]? = some s[n.toNat]:=ByteArray.getElem?_lt' s _ hlt
   refine ⟨_,.int .u8 (s[n.toNat].toNat:Int),hK, ?_,fun w'=>?_⟩
   ·have : l.getD n.toNat 0 = s[n.toNat] := by
     subst hs
     have h2:n.toNat<s.data.toList.length:=by rw [← hsz]; exact hlt
     rw [List.getD_eq_getElem?_getD,List.getElem?_eq_getElem h2]
     simp; rfl
    rw [this]; exact .i _ _
   ·simp [Instr.index,asIntOf,aW ht,h0,hg]
  | _=>exact hk.elim
 | _=>cases hi <;> exact hk.elim
theorem aA5 {t el:TypeId} {n:Nat} {x i:AV} {cx ci:Value} {K:AV→Prop} (ht:P.underlying t=some (.array n el)) (hel:dN P el=some false) (h1':P.cellsOf el=1) (hx:aX μ x cx) (hi:aX μ i ci)
  (hk:qO n x i K):∃ v cv,K v∧aX μ v cv∧∀ w',(Instr.index t cx ci).run P w' = .ok cv w':=by
 obtain ⟨d,hd⟩:=(dF hel default).2
 cases hx with
 | ag cs vs hv =>
  cases hi with
  | i k z =>
   obtain ⟨h0,h1,h2,hK⟩:=hk
   obtain ⟨v,hv1,hv2⟩:=hv.get? (i:=z.toNat) (by omega)
   have:vs[z.toNat]? = some v:=by simpa using hv1
   refine ⟨_,v,hK,hv2,fun w'=>?_⟩
   simp only [Instr.index,Sem.run_bind,asIntOf,Sem.run_pure,Result.andThen_ok,aW ht]
   rw [if_pos ⟨h0,h1⟩]
   simp [kM hd,h1',part,(dF hel w').1,this]
  | _=>exact hk.elim
 | _=>cases hi <;> exact hk.elim
theorem vO {v:AV} {cv:Value} (h:aX μ v cv) (hs:v.sizeOK=true):VRels μ v.parts cv.cells.toList:=by
 cases h <;> first | (simp [AV.sizeOK] at hs; done) | skip
 case ag cs vs h=>exact h
 all_goals (refine .cons _ _ _ _ ?_ .nil; constructor <;> assumption)
theorem aGN (off:Nat):∀ (ps:List AV) (vs:List Value),VRels μ ps vs→∀ (k:Nat) (cells:List AV) (arr:Array Value),VRels μ cells arr.toList →
  VRels μ ((ps.zipIdx k).foldl (fun cs (c,j)=>cs.set (off+j) c) cells) ((vs.zipIdx k).foldl (fun (cs:Array Value) (c,j)=>cs.setIfInBounds (off+j) c) arr).toList
 | [],_,.nil,k,cells,arr,h=>by simpa using h
 | p :: ps, _, .cons _ v _ vs hp ht, k, cells, arr, h => by
  simp only [List.zipIdx_cons,List.foldl_cons]
  refine aGN off ps vs ht (k+1) _ _ ?_
  have:=h.set hp (off+k)
  simpa [Array.toList_setIfInBounds] using this
inductive mP (μ:Mu) (place:Nat→Option (Nat × Nat)):List (Nat × Nat × AV)→List (Nat × Value)→Prop
 | nil:mP μ place [] []
 | cons (off size v i cv ps cs) (hp:place i=some (off,size)) (hv:aX μ v cv) (ht:mP μ place ps cs):mP μ place ((off,size,v) :: ps) ((i,cv) :: cs)
theorem nI {place:Nat→Option (Nat × Nat)}:∀ {ps:List (Nat × Nat × AV)} {cs:List (Nat × Value)},mP μ place ps cs→∀ (cells:List AV) (arr:Array Value) (out:List AV),VRels μ cells arr.toList→eZ cells ps=some out →
  ∃ res,Instr.fill place arr cs=some res∧VRels μ out res.toList
 | _,_,.nil,cells,arr,out,h,hf=>by simp only [eZ,Option.some.injEq] at hf; subst hf; exact ⟨arr,rfl,h⟩
 | _, _, .cons off size v i cv ps cs hp hv ht, cells, arr, out, h, hf => by
  simp only [eZ] at hf
  split at hf
  ·rename_i hc
   simp only [Bool.and_eq_true,beq_iff_eq,decide_eq_true_eq] at hc
   obtain ⟨⟨h1,h2⟩,h3⟩:=hc
   have hpr:=vO hv h1
   have hl1:v.parts.length=cv.cells.size:=by have:=hpr.length; simpa using this
   have hl2:cells.length=arr.size:=by have:=h.length; simpa using this
   have:=aGN off _ _ hpr 0 cells arr h
   obtain ⟨res,hr1,hr2⟩:=nI ht _ ((cv.cells.toList.zipIdx 0).foldl (fun (cs:Array Value) (c,j)=>cs.setIfInBounds (off+j) c) arr) out this hf
   refine ⟨res, ?_,hr2⟩
   simp only [Instr.fill,hp]
   rw [if_neg (by simp; omega)]
   rw [← Array.foldl_toList,Array.toList_zipIdx]
   exact hr1
  ·cases hf
theorem aH8 (v:Value):(aBC v).parts=[aBC v]:=by
 unfold aBC
 split <;> rfl
theorem mF {t : TypeId} {zs : List AV} (hz : eW P t = some zs) (μ : Mu) : ∃ i z, P.info? t = some i ∧ i.zero = some z ∧ VRels μ zs z.cells.toList := by
 unfold eW at hz
 cases hi:P.info? t with
 | none=>simp [hi] at hz
 | some i =>
  cases hzz:i.zero with
  | none=>simp [hi,hzz] at hz
  | some z =>
   simp [hi,hzz] at hz
   subst hz
   refine ⟨i,z,rfl,hzz, ?_⟩
   cases z <;> first
    | exact .cons _ _ _ _ (aC7 μ _) .nil
    | (simp only [ofV]; rw [aH8]; exact .cons _ _ _ _ (uO μ _) .nil)
    | exact qS μ _
theorem uX {t:TypeId} {i:TypeInfo} {z:Value} (hi:P.info? t=some i) (hz:i.zero=some z) (w':World):(zeroValue t).run P w' = .ok z w':=by
 simp [zeroValue,typeInfo,hi,hz]
theorem aHW (fs:List Field):∀ (hall:fs.all (fun f=>(P.info? f.type).isSome)=true) (w':World),(fs.mapM (m:=Sem) fun f=>do pure (f.offset, ← sizeOf f.type)).run P w' = .ok (fs.map fun f=>(f.offset,P.cellsOf f.type)) w':=by
 induction fs with
 | nil=>intro _ w'; rfl
 | cons f fs ih =>
  intro hall w'
  simp only [List.all_cons,Bool.and_eq_true] at hall
  obtain ⟨i,hi⟩:=Option.isSome_iff_exists.1 hall.1
  have:=ih hall.2 w'
  simp only [bind_pure_comp] at this
  simp [List.mapM_cons,sizeOf,typeInfo,hi,Program.cellsOf]
  simp [sizeOf,typeInfo,Program.cellsOf] at this
  rw [this]
  simp
end
end Go.GAM
namespace Go.GAM
section
variable {ds:List Deferred} {rd:Option Nat} {P:Program} {w0:World} {Fz:Nat→Prop} {μ:Mu} {own:Nat→Option Nat} {h:aA} {w:World}
theorem aGY {t : TypeId} {zs : List AV} {parts : List (Nat × AV)} {cparts : Array (Nat × Value)} {ps : List (Nat × Nat × AV)} {K : AV → Prop} (hz : eW P t = some zs) (hp : uV P t parts = some ps)
  (hlen:parts.length=cparts.toList.length) (hrel:∀ (i:Nat) (x:Nat × AV) (y:Nat × Value),parts[i]? = some x→cparts.toList[i]? = some y→x.1=y.1∧aX μ x.2 y.2) (hk:f9 zs ps K) :
  ∃ v cv,K v∧aX μ v cv∧∀ w',(Instr.build t cparts).run P w' = .ok cv w':=by
 obtain ⟨i,z,hi,hzz,hzr⟩:=mF hz μ
 unfold f9 at hk
 cases hf:eZ zs ps with
 | none=>rw [hf] at hk; exact hk.elim
 | some out =>
  rw [hf] at hk
  unfold uV at hp
  have conv:∀ (place:Nat→Option (Nat × Nat)) (pl:List (Nat × AV)) (cl:List (Nat × Value)) (ps:List (Nat × Nat × AV)),pl.length=cl.length→(∀ (i:Nat) (x:Nat × AV) (y:Nat × Value),pl[i]? = some x→cl[i]? = some y→x.1=y.1∧aX μ x.2 y.2) →
    ps.length=pl.length→(∀ (i:Nat) (x:Nat × AV) (q:Nat × Nat × AV),pl[i]? = some x→ps[i]? = some q→place x.1=some (q.1,q.2.1)∧q.2.2=x.2)→mP μ place ps cl:=by
   intro place pl
   induction pl with
   | nil=>intro cl ps h1 _ h3 _; cases cl <;> cases ps <;> first | exact .nil | simp at h1 h3
   | cons x pl ih =>
    intro cl ps h1 h2 h3 h4
    cases cl with
    | nil=>simp at h1
    | cons y cl =>
     cases ps with
     | nil=>simp at h3
     | cons q ps =>
      obtain ⟨e1,e2⟩:=h2 0 x y rfl rfl
      obtain ⟨e3,e4⟩:=h4 0 x q rfl rfl
      obtain ⟨o,s,v⟩:=q
      obtain ⟨yi,yv⟩:=y
      simp only at e1 e2 e3 e4
      subst e4
      rw [e1] at e3
      exact .cons o s _ yi yv ps cl e3 e2 (ih cl ps (by simpa using h1) (fun i x y hx hy=>h2 (i+1) x y hx hy) (by simpa using h3) (fun i x q hx hq=>h4 (i+1) x q hx hq))
  split at hp
  ·rename_i fs hu
   cases hall:fs.toList.all (fun f=>(P.info? f.type).isSome) with
   | false=>rw [hall] at hp; cases hp
   | true =>
    rw [hall] at hp
    simp only [cond_true] at hp
    have hpl:∀ (pl:List (Nat × AV)) (ps:List (Nat × Nat × AV)),pl.mapM (fun (x:Nat × AV)=>(fs.toList[x.1]?).map fun f=>(f.offset,P.cellsOf f.type,x.2))=some ps →
      ps.length=pl.length∧∀ (i:Nat) (x:Nat × AV) (q:Nat × Nat × AV),pl[i]? = some x→ps[i]? = some q→((fs.toList.map fun f=>(f.offset,P.cellsOf f.type))[x.1]?)=some (q.1,q.2.1)∧q.2.2=x.2:=by
     intro pl
     induction pl with
     | nil=>intro ps h; simp at h; subst h; simp
     | cons x pl ih =>
      intro ps h
      simp only [List.mapM_cons,Option.bind_eq_bind,Option.bind_eq_some_iff,Option.pure_def,Option.some.injEq] at h
      obtain ⟨q,hq,qs,hqs,rfl⟩:=h
      obtain ⟨l1,l2⟩:=ih qs hqs
      refine ⟨by simp [l1],fun i x' q' hx hq'=>?_⟩
      cases i with
      | zero =>
       simp at hx hq'; subst hx; subst hq'
       simp only [Option.map_eq_some_iff] at hq
       obtain ⟨f,hf1,hf2⟩:=hq
       subst hf2
       simp [hf1]
      | succ i=>exact l2 i x' q' (by simpa using hx) (by simpa using hq')
    obtain ⟨l1,l2⟩:=hpl parts ps hp
    have hpr:=conv (fun i=>(fs.toList.map fun f=>(f.offset,P.cellsOf f.type))[i]?) parts cparts.toList ps hlen hrel l1 l2
    obtain ⟨res,hr1,hr2⟩:=nI hpr zs z.cells out hzr hf
    refine ⟨_,.agg res,hk,.ag _ _ hr2,fun w'=>?_⟩
    have hpm:∀ w',(fs.mapM (m:=Sem) fun f=>do pure (f.offset, ← sizeOf f.type)).run P w' = .ok (fs.toList.map fun f=>(f.offset,P.cellsOf f.type)).toArray w':=fun w'=>by
     rw [Array.mapM_eq_mapM_toList]
     have:=aHW fs.toList hall w'
     rw [Sem.run_map,this]
     first | done | rfl
    simp only [Instr.build,Sem.run_bind,uX hi hzz,Result.andThen_ok,aW hu,hpm]
    simp only [List.getElem?_toArray,hr1]
    rfl
  ·rename_i n el hu
   cases hs:(P.info? el).isSome with
   | false=>rw [hs] at hp; cases hp
   | true =>
    rw [hs] at hp
    simp only [cond_true,Option.some.injEq] at hp
    subst hp
    obtain ⟨ie,hie⟩:=Option.isSome_iff_exists.1 hs
    have hpr:=conv (fun i=>some (i * P.cellsOf el,P.cellsOf el)) parts cparts.toList (parts.map fun (i,v)=>(i * P.cellsOf el,P.cellsOf el,v)) hlen hrel (by simp) (fun i x q hx hq=>by
     rw [List.getElem?_map,hx] at hq; simp only [Option.map_some,Option.some.injEq] at hq; subst hq; exact ⟨rfl,rfl⟩)
    obtain ⟨res,hr1,hr2⟩:=nI hpr zs z.cells out hzr hf
    refine ⟨_,.agg res,hk,.ag _ _ hr2,fun w'=>?_⟩
    have hsz:(sizeOf el).run P w' = .ok (P.cellsOf el) w':=by simp [sizeOf,typeInfo,hie,Program.cellsOf]
    simp only [Instr.build,Sem.run_bind,uX hi hzz,Result.andThen_ok,aW hu,hsz]
    simp only [hr1]
    rfl
  ·cases hp
theorem aF7 {mx : Bool} {xs : List AV} {cs : List Value} {K : AV → Prop} (hx : VRels μ xs cs) (hk : pMM mx xs K) :
  ∃ v cv,K v∧aX μ v cv∧∀ ts t w',(bif mx then Builtin.max_ ts t cs.toArray else Builtin.min_ ts t cs.toArray:Sem Value).run P w' = .ok cv w':=by
 cases hx with
 | nil=>exact hk.elim
 | cons a v aq vs h1 t1 =>
  cases t1 with
  | nil=>cases h1 <;> exact hk.elim
  | cons a2 v2 as2 vs2 h2 t2 =>
   cases t2 with
   | nil =>
    cases h1 <;> first | exact hk.elim | skip
    cases h2 <;> first | exact hk.elim | skip
    refine ⟨_,_,hk,.i _ _,fun ts t w'=>?_⟩
    cases mx
    ·simp [Builtin.min_,Builtin.min2,mmI]
    ·simp [Builtin.max_,Builtin.max2,mmI]
   | cons a3 v3 as3 vs3 h3 t3 =>
    cases t3 with
    | nil =>
     cases h1 <;> first | exact hk.elim | skip
     cases h2 <;> first | exact hk.elim | skip
     cases h3 <;> first | exact hk.elim | skip
     refine ⟨_,_,hk,.i _ _,fun ts t w'=>?_⟩
     cases mx
     ·simp [Builtin.min_,Builtin.min2,mmI]
     ·simp [Builtin.max_,Builtin.max2,mmI]
    | cons=>cases h1 <;> cases h2 <;> cases h3 <;> exact hk.elim
theorem aDW {x:AV} {cx:Value} {K:AV→Prop} (hx:aX μ x cx) (hk:yQ x fun n=>K (.i .i64 n)) :
  ∃ v cv,K v∧aX μ v cv∧∀ ts t ty w',ts[0]? = some t→P.underlying t=some .string→(Builtin.len_ ts ty #[cx]).run P w' = .ok cv w':=by
 cases hx <;> first | exact hk.elim | skip
 case s l s hs=>
  refine ⟨_,.int .i64 s.size,hk, ?_,fun ts t ty w' h1 ht=>by simp [Builtin.len_,h1,aW ht,goInt]⟩
  rw [nX hs]; exact .i _ _
theorem aFD {x:AV} {cx:Value} {K:AV→Prop} (hx:aX μ x cx) (hk:bR x fun n=>K (.i .i64 n)) :
  ∃ v cv,K v∧aX μ v cv∧∀ ts t ty e w',ts[0]? = some t→P.underlying t=some (.slice e)→(Builtin.len_ ts ty #[cx]).run P w' = .ok cv w':=by
 cases hx <;> first | exact hk.elim | skip
 case sn=>exact ⟨_,_,hk,.i _ _,fun ts t ty e w' h1 ht=>by simp [Builtin.len_,h1,aW ht,goInt]⟩
 case sl a len capo c addr l h1 h2 h3 h4 h5 h6=>exact ⟨_,_,hk,.i _ _,fun ts t ty e w' h1 ht=>by simp [Builtin.len_,h1,aW ht,goInt]⟩
theorem wT (R:Rel w0 Fz μ own h w) {nt:Nat} {e:Env} {a:Act} (hE:bK ds μ nt e a) (parts:Array (Nat × Operand)) :
  (parts.toList.map fun (i,x)=>(i,ev e h x)).length=(parts.map fun (i,x)=>(i,a.eval x)).toList.length ∧
  ∀ (i:Nat) (x:Nat × AV) (y:Nat × Value),(parts.toList.map fun (i,x)=>(i,ev e h x))[i]? = some x→(parts.map fun (i,x)=>(i,a.eval x)).toList[i]? = some y→x.1=y.1∧aX μ x.2 y.2:=by
 refine ⟨by simp,fun i x y hx hy=>?_⟩
 rw [Array.toList_map,List.getElem?_map] at hy
 rw [List.getElem?_map] at hx
 cases hp:parts.toList[i]? with
 | none=>rw [hp] at hx; cases hx
 | some p =>
  rw [hp] at hx hy
  simp only [Option.map_some,Option.some.injEq] at hx hy
  subst hx; subst hy
  exact ⟨rfl,R.ev hE _⟩
theorem aML {t:TypeId} {z:AV} (h:aGS P t=some z):∃ cz,(∀ w',(zeroValue t).run P w' = .ok cz w')∧aX μ z cz:=by
 unfold aGS at h
 obtain ⟨cz,hc,rfl⟩:=Option.map_eq_some_iff.1 h
 obtain ⟨i,hi,hz⟩:=Option.bind_eq_some_iff.1 hc
 exact ⟨cz,fun w'=>by simp [zeroValue,typeInfo,hi,hz],aC7 μ cz⟩
theorem aDP (R : Rel w0 Fz μ own h w) {t kt el : TypeId} {ok : Bool} (ht : P.underlying t = some (.map kt el)) (hkt : aBH P kt = true) {x k : AV} {cx ck : Value} (hx : aX μ x cx) (hkr : aX μ k ck) {K : AV → Prop} (hk : oE P kt el ok x k h K) :
  ∃ v cv,K v∧aX μ v cv∧∀ w',dY w w'→(Instr.lookup t cx ck ok).run P w' = .ok cv w':=by
 obtain ⟨hkv,hk⟩:=hk
 have hes:∃ es ents,aG0 x h=some es∧eU μ es ents.toList∧((cx = .map none∧ents = #[])∨∃ B clock,cx = .map (some B)∧∀ w',dY w w'→w'.heap[B]? = some (.map ents clock)):=by
  unfold aG0 at hk ⊢
  cases hx <;> first | exact hk.elim | skip
  case mpn=>exact ⟨[], #[],rfl,.nil,.inl ⟨rfl,rfl⟩⟩
  case mp id l hl=>
   simp only at hk ⊢
   cases hb:((h[id]?).bind (·.mp)).bind aU2 with
   | none=>rw [hb] at hk; exact hk.elim
   | some es =>
    obtain ⟨m,hb0,hbm⟩:=Option.bind_eq_some_iff.1 hb
    obtain ⟨b,hb1,hb2⟩:=Option.bind_eq_some_iff.1 hb0
    cases m with
    | inr _=>cases hbm
    | inl es1=>
    cases hbm
    obtain ⟨l',m1,m2,m3,ents,clock,m4,m5⟩:=R.maps id b _ hb1 hb2
    rw [hl] at m1; cases m1
    refine ⟨es,ents,rfl,m5,.inr ⟨l.B,clock,rfl,fun w' hs=>?_⟩⟩
    have hlt:l.B<w.heap.size:=(Array.getElem?_eq_some_iff.1 m4).1
    exact (hs _ hlt).trans m4
 obtain ⟨es,ents,e1,e2,e3⟩:=hes
 rw [e1] at hk
 simp only at hk
 cases hf:sB P kt k es 0 with
 | none=>rw [hf] at hk; exact hk.elim
 | some r =>
  rw [hf] at hk
  have fin:∀ v cv (b:Bool),aX μ v cv→(∀ w',dY w w'→∃ cr:Option (Nat × Value),(Instr.findKey kt ck ents.toList).run P w' = .ok cr w'∧(match cr with
    | some (_,v)=>(v,true)=(cv,b) | none=>b=false∧(zeroValue el).run P w' = .ok cv w')) →
    ∀ w',dY w w'→(Instr.lookup t cx ck ok).run P w' = .ok (if ok=true then .tuple #[cv,.bool b] else cv) w':=by
   intro v cv b hv hc w' hs
   obtain ⟨cr,c1,c2⟩:=hc w' hs
   have hck:=uE (P:=P) hkt hkv hkr
   rcases e3 with ⟨rfl,rfl⟩ | ⟨B,clock,rfl,hg⟩
   ·unfold Instr.lookup
    cases cr with
    | none =>
     obtain ⟨rfl,c2⟩:=c2
     simp [aW ht,hck,c1,c2]
    | some p =>
     obtain ⟨i,v⟩:=p
     cases c2
     simp [aW ht,hck,c1]
   ·have hg : (getObj B).run P w' = .ok (.map ents clock) w' := by simp [getObj, Sem.run, hg w' hs]
    unfold Instr.lookup
    cases cr with
    | none =>
     obtain ⟨rfl,c2⟩:=c2
     simp [go_sem,aW ht,hck,c1,c2,hg]
    | some p =>
     obtain ⟨i,v⟩:=p
     cases c2
     simp [go_sem,aW ht,hck,c1,hg]
  cases r with
  | none =>
   simp only at hk
   cases hz:aGS P el with
   | none=>rw [hz] at hk; exact hk.elim
   | some z =>
    rw [hz] at hk
    obtain ⟨cz,hzr,hzv⟩:=aML (μ:=μ) hz
    refine ⟨_,_,hk, ?_,fin z cz false hzv fun w' hs=>?_⟩
    ·cases ok
     ·exact hzv
     ·exact .tu _ _ (.cons _ _ _ _ hzv (.cons _ _ _ _ (.b _) .nil))
    ·obtain ⟨cr, c1, c2⟩ := pQ hkt hkr e2 hf
     cases cr with
     | none=>exact ⟨none,c1 w',rfl,hzr w'⟩
     | some p=>exact c2.elim
  | some p =>
   obtain ⟨i,v⟩:=p
   obtain ⟨cr,c1,c2⟩:=pQ hkt hkr e2 hf
   cases cr with
   | none=>exact c2.elim
   | some q =>
    obtain ⟨j,cv⟩:=q
    obtain ⟨rfl,hv⟩:=c2
    refine ⟨_,_,hk, ?_,fin v cv true hv fun w' hs=>?_⟩
    ·cases ok
     ·exact hv
     ·exact .tu _ _ (.cons _ _ _ _ hv (.cons _ _ _ _ (.b _) .nil))
    ·exact ⟨_,c1 w',rfl⟩
theorem aJK (R : Rel w0 Fz μ own h w) {nt : Nat} {e : Env} {a : Act} (hE : bK ds μ nt e a) {o : Oper} {K : AV → Prop} (hk : bX P o e h K) :
  ∃ v cv,K v∧aX μ v cv∧∀ w',dY w w'→(execOp a.eval o).run P w' = .ok (.value cv) w':=by
 obtain ⟨dst,op,type,pos,after,guard⟩:=o
 have lift:∀ {s:Sem Value},(∃ v cv,K v∧aX μ v cv∧∀ w',dY w w'→s.run P w' = .ok cv w')→(∀ w' r,execOp a.eval ⟨dst,op,type,pos,after,guard⟩=(do pure (.value (← s)))) →
   ∃ v cv,K v∧aX μ v cv∧∀ w',dY w w'→(execOp a.eval ⟨dst,op,type,pos,after,guard⟩).run P w' = .ok (.value cv) w':=
  fun ⟨v,cv,h1,h2,h3⟩ he=>⟨v,cv,h1,h2,fun w' hs=>by rw [he w' true]; simp [h3 w' hs]⟩
 cases op with
 | move x=>exact ⟨_,_,hk,R.ev hE x,fun w' _=>by simp [execOp]⟩
 | assign x=>exact ⟨_,_,hk,R.ev hE x,fun w' _=>by simp [execOp]⟩
 | pick c x y =>
  rcases qX hk (R.ev hE c) with ⟨h1,h2⟩ | ⟨h1,h2⟩
  ·exact ⟨_,_,h2,R.ev hE x,fun w' _=>by simp [execOp,h1,asBool]⟩
  ·exact ⟨_,_,h2,R.ev hE y,fun w' _=>by simp [execOp,h1,asBool]⟩
 | load t x =>
  simp only [bX] at hk
  cases ht:dN P t with
  | none=>rw [ht] at hk; exact hk.elim
  | some r =>
   rw [ht] at hk
   cases r with
   | true=>exact lift (xI R ht (R.ev hE x) hk) (fun _ _=>rfl)
   | false=>exact lift (xJ R ht (R.ev hE x) hk) (fun _ _=>rfl)
 | nilCheck x =>
  obtain ⟨v,cv,h1,h2,h3⟩:=aLQ (P:=P) (dst:=dst) (t:=type) (pos:=pos) (af:=after) (g:=guard) rfl (R.ev hE x) hk
  exact ⟨v,cv,h1,h2,fun w' _=>h3 w'⟩
 | binOp op t x y yt =>
  obtain ⟨v,cv,h1,h2,h3⟩:=aMB (R.ev hE x) (R.ev hE y) hk
  refine ⟨v,cv,h1,h2,fun w' _=>?_⟩
  have:=h3 x y w'
  simp only [execOp,Sem.run_bind] at this ⊢
  rw [this] <;> rfl
 | unOp op t x =>
  obtain ⟨v,cv,h1,h2,h3⟩:=aQD (P:=P) (R.ev hE x) hk
  exact ⟨v,cv,h1,h2,fun w' _=>by simp [execOp,h3]⟩
 | convert src dst' x =>
  simp only [bX] at hk
  have hx:=R.ev hE x
  split at hk
  ·rename_i ds k h1 h2
   generalize GAM.ev e h x=ax at *
   obtain ⟨cx,hcx⟩:∃ c,a.eval x=c:=⟨_,rfl⟩
   rw [hcx] at hx
   cases hx <;> first | exact hk.elim | skip
   exact ⟨_,_,hk,.i _ _,fun w' _=>by simp [execOp,hcx,convert,aW h1,aW h2,Conv.intToInt]⟩
  ·rename_i h1 h2
   generalize GAM.ev e h x=ax at *
   obtain ⟨cx,hcx⟩:∃ c,a.eval x=c:=⟨_,rfl⟩
   rw [hcx] at hx
   cases hx <;> first | exact hk.elim | skip
   rename_i l s hs
   exact ⟨_,_,hk,.s l s hs,fun w' _=>by simp [execOp,hcx,convert,aW h1,aW h2]⟩
  ·rename_i el h1 h2
   split at hk
   ·rename_i h3
    obtain ⟨v,cv,g1,g2,g3⟩:=zG R h1 h2 h3 hx hk
    exact ⟨v,cv,g1,g2,fun w' hs=>by simp [execOp,g3 w' hs]⟩
   ·exact hk.elim
  ·rename_i t h1 h2
   cases hz:Nat.beq (P.cellsOf t) 0 with
   | true=>rw [hz] at hk; exact hk.elim
   | false =>
    rw [hz] at hk
    obtain ⟨v,cv,g1,g2,g3⟩:=aE0 (P:=P) R h1 h2 hz hx hk
    exact ⟨v,cv,g1,g2,fun w' hs=>by simp [execOp,g3 w' hs]⟩
  ·rename_i u h1 h2
   obtain ⟨hu,hk⟩:=aS hk
   obtain ⟨v,cv,g1,g2,g3⟩:=vQ (P:=P) R h1 h2 hu hx hk
   exact ⟨v,cv,g1,g2,fun w' hs=>by simp [execOp,g3 w' hs]⟩
  ·exact hk.elim
 | makeInterface t x =>
  simp only [bX] at hk
  split at hk
  ·exact hk.elim
  ·exact hk.elim
  ·rename_i d hni hd
   refine ⟨_,_,hk,.ifc t _ _ (R.ev hE x),fun w' _=>?_⟩
   have:(Instr.makeInterface t (a.eval x)).run P w' = .ok (.iface t (a.eval x)) w':=by
    cases d <;> first | exact absurd rfl (hni _) | simp [Instr.makeInterface,aW hd]
   simp [execOp,this]
 | makeFunc f first cap =>
  refine ⟨_,.func f (first.map a.eval) (cap.map a.eval),hk,.fn _ _ _ _ _ ?_ ?_,fun w' _=>by simp [execOp,Instr.makeFunc]⟩
  ·rw [Array.toList_map]; exact R.evs hE _
  ·rw [Array.toList_map]; exact R.evs hE _
 | slice t x lo hi mx =>
  simp only [bX] at hk
  have hx:=R.ev hE x
  have hlo:=R.evo hE lo
  have hhi:=R.evo hE hi
  have hmx:=R.evo hE mx
  split at hk
  ·rename_i ht
   split at hk
   ·obtain ⟨v, cv, g1, g2, g3⟩ := zO (P := P) ht hx hlo hhi hk
    exact ⟨v,cv,g1,g2,fun w' _=>by simpa [execOp] using congrArg (fun r=>r.andThen fun v w'=>Result.ok (Next.value v) w') (g3 w')⟩
   ·exact hk.elim
  ·rename_i el ht
   obtain ⟨hel,hk⟩:=aS hk
   obtain ⟨v,cv,g1,g2,g3⟩:=aBG (P:=P) R ht hel hx hlo hhi hmx hk
   exact ⟨v,cv,g1,g2,fun w' _=>by simp [execOp,g3 w']⟩
  ·rename_i n el ht
   split at hk
   ·obtain ⟨hel, hk⟩ := aS hk
    obtain ⟨v,cv,g1,g2,g3⟩:=aAR (P:=P) R ht hel hx hlo hhi hk
    exact ⟨v,cv,g1,g2,fun w' _=>by simpa [execOp] using congrArg (fun r=>r.andThen fun v w'=>Result.ok (Next.value v) w') (g3 w')⟩
   ·exact hk.elim
  ·exact hk.elim
 | fieldAddr t x f =>
  simp only [bX] at hk
  split at hk
  ·rename_i fs ht
   split at hk
   ·rename_i fl hf
    cases hz:Nat.beq (P.cellsOf fl.type) 0 with
    | true=>rw [hz] at hk; exact hk.elim
    | false =>
     rw [hz] at hk
     obtain ⟨v,cv,g1,g2,g3⟩:=xV (P:=P) ht hf hz (R.ev hE x) hk
     exact ⟨v,cv,g1,g2,fun w' _=>by simp [execOp,g3 w']⟩
   ·exact hk.elim
  ·exact hk.elim
 | field t x f =>
  simp only [bX] at hk
  split at hk
  ·rename_i fs ht
   split at hk
   ·rename_i fl hf
    cases hr:dN P fl.type with
    | none=>rw [hr] at hk; exact hk.elim
    | some r =>
     rw [hr] at hk
     obtain ⟨v,cv,g1,g2,g3⟩:=aGM (P:=P) (r:=r) ht hf hr (R.ev hE x) (by cases r <;> exact hk)
     exact ⟨v,cv,g1,g2,fun w' _=>by simp [execOp,g3 w']⟩
   ·exact hk.elim
  ·exact hk.elim
 | indexAddr t x ix =>
  simp only [bX] at hk
  split at hk
  ·rename_i el ht
   obtain ⟨hel,hk⟩:=aS hk
   obtain ⟨v,cv,g1,g2,g3⟩:=yB (P:=P) R ht hel (R.ev hE x) (R.ev hE ix) hk
   exact ⟨v,cv,g1,g2,fun w' _=>by simp [execOp,g3 w']⟩
  ·rename_i n el ht
   obtain ⟨hel,hk⟩:=aS hk
   obtain ⟨v,cv,g1,g2,g3⟩:=vE (P:=P) ht hel (R.ev hE x) (R.ev hE ix) hk
   exact ⟨v,cv,g1,g2,fun w' _=>by simp [execOp,g3 w']⟩
  ·exact hk.elim
 | index t x ix =>
  simp only [bX] at hk
  split at hk
  ·rename_i ht
   obtain ⟨v,cv,g1,g2,g3⟩:=aEQ (P:=P) ht (R.ev hE x) (R.ev hE ix) hk
   exact ⟨v,cv,g1,g2,fun w' _=>by simp [execOp,g3 w']⟩
  ·rename_i n el ht
   split at hk
   ·rename_i hel
    cases h1:Nat.beq (P.cellsOf el) 1 with
    | false=>rw [h1] at hk; exact hk.elim
    | true =>
     rw [h1] at hk
     obtain ⟨v,cv,g1,g2,g3⟩:=aA5 (P:=P) ht hel (Nat.eq_of_beq_eq_true h1) (R.ev hE x) (R.ev hE ix) hk
     exact ⟨v,cv,g1,g2,fun w' _=>by simp [execOp,g3 w']⟩
   ·exact hk.elim
  ·exact hk.elim
 | build t parts =>
  simp only [bX] at hk
  split at hk
  ·rename_i zs ps hz hp
   obtain ⟨l1,l2⟩:=wT R hE parts
   obtain ⟨v,cv,g1,g2,g3⟩:=aGY (P:=P) hz hp l1 l2 hk
   exact ⟨v,cv,g1,g2,fun w' _=>by
    have:=g3 w'
    simp only [execOp,Sem.run_bind]
    rw [this] <;> rfl⟩
  ·exact hk.elim
 | extract x i =>
  have hx:=R.ev hE x
  simp only [bX] at hk
  generalize GAM.ev e h x=ax at *
  obtain ⟨cx,hcx⟩:∃ c,a.eval x=c:=⟨_,rfl⟩
  rw [hcx] at hx
  cases hx with
  | tu cs vs hv =>
   obtain ⟨hlt,hK⟩:=hk
   obtain ⟨v,hv1,hv2⟩:=hv.get? hlt
   have:vs[i]? = some v:=by simpa using hv1
   exact ⟨_,v,hK,hv2,fun w' _=>by simp [execOp,hcx,Instr.extract,this]⟩
  | _=>exact hk.elim
 | lookup t x ix ok =>
  simp only [bX] at hk
  split at hk
  ·rename_i kt el ht
   obtain ⟨hkt,hk⟩:=aS hk
   obtain ⟨v,cv,g1,g2,g3⟩:=aDP (P:=P) R ht hkt (R.ev hE x) (R.ev hE ix) hk
   exact ⟨v,cv,g1,g2,fun w' hs=>by simp [execOp,g3 w' hs]⟩
  ·exact hk.elim
 | call c =>
  obtain ⟨callee,args,argTypes⟩:=c
  cases callee with
  | builtin b =>
   cases b <;> first | exact False.elim hk | skip
   case len=>
    simp only [bX] at hk
    split at hk
    ·rename_i ht
     obtain ⟨t,ht0,ht⟩:=Option.bind_eq_some_iff.1 ht
     split at hk
     ·rename_i x hx
      obtain rfl:args = #[x]:=Array.ext' hx
      obtain ⟨v,cv,g1,g2,g3⟩:=aDW (P:=P) (R.ev hE x) hk
      exact ⟨v,cv,g1,g2,fun w' _=>by simp [execOp,resolve,invoke,builtin,g3 _ _ _ w' ht0 ht]⟩
     ·exact hk.elim
    ·rename_i el ht
     obtain ⟨t,ht0,ht⟩:=Option.bind_eq_some_iff.1 ht
     split at hk
     ·rename_i x hx
      obtain rfl:args = #[x]:=Array.ext' hx
      obtain ⟨v,cv,g1,g2,g3⟩:=aFD (P:=P) (R.ev hE x) hk
      exact ⟨v,cv,g1,g2,fun w' _=>by simp [execOp,resolve,invoke,builtin,g3 _ _ _ _ w' ht0 ht]⟩
     ·exact hk.elim
    ·rename_i n el ht
     obtain ⟨t,ht0,ht⟩:=Option.bind_eq_some_iff.1 ht
     split at hk
     ·rename_i x hx
      obtain rfl:args = #[x]:=Array.ext' hx
      refine ⟨_,_,hk,.i _ _,fun w' _=>?_⟩
      simp [execOp,resolve,invoke,builtin,Builtin.len_,ht0,aW ht,goInt]
     ·exact hk.elim
    ·exact hk.elim
   case min=>
    have hx:=R.evs hE args.toList
    obtain ⟨v,cv,g1,g2,g3⟩:=aF7 (P:=P) hx hk
    refine ⟨v,cv,g1,g2,fun w' _=>?_⟩
    have:=g3 argTypes type w'
    simp only [cond_false] at this
    have e:(args.toList.map a.eval).toArray=args.map a.eval:=by apply Array.ext'; simp
    rw [e] at this
    simp [execOp,resolve,invoke,builtin,this]
   case max=>
    have hx:=R.evs hE args.toList
    obtain ⟨v,cv,g1,g2,g3⟩:=aF7 (P:=P) hx hk
    refine ⟨v,cv,g1,g2,fun w' _=>?_⟩
    have:=g3 argTypes type w'
    simp only [cond_true] at this
    have e:(args.toList.map a.eval).toArray=args.map a.eval:=by apply Array.ext'; simp
    rw [e] at this
    simp [execOp,resolve,invoke,builtin,this]
  | _=>exact False.elim hk
 | _=>exact False.elim hk
end
end Go.GAM
namespace Go.GAM
section
variable {P:Program} {w0:World} {Fz:Nat→Prop} {μ:Mu} {own:Nat→Option Nat} {h:aA} {w:World}
theorem oG.keep {μ':Mu} {own':Nat→Option Nat} {w':World} {id:Nat} {b:ABlk} {l:Loc} (hb:oG w Fz μ own id b l)
  (hown:∀ B,own B=some id→own' B=some id∧w'.heap[B]? = w.heap[B]?) (hsub:Sub μ μ') (hid:∀ ver,μ' id ver=μ id ver):oG w' Fz μ' own' id b l:=by
 obtain ⟨c1,c2⟩:=hown _ hb.owned
 refine { cur:=by rw [hid]; exact hb.cur,owned:=c1,sz:=hb.sz,len:=hb.len,ex:=hb.ex,ro:=hb.ro,gl:=hb.gl,nomap:=hb.nomap,row:=by rw [c2]; exact hb.row,tyok:=by rw [c2]; exact hb.tyok,free:=fun hr j hj=>?_,vers:=fun ver h1 h2 l' hl'=>?_ }
 ·have := hb.free hr j hj
  simp only [World.frozen?] at this ⊢
  rw [c2]; exact this
 ·rw [hid] at hl'
  have hv:=hb.vers ver h1 h2 l' hl'
  obtain ⟨d1,d2⟩:=hown _ hv.own
  refine { own:=d1,sz:=hv.sz,le:=hv.le,base:=hv.base,cells:=fun j hj=>?_ }
  obtain ⟨cv,e1,e2⟩:=hv.cells j hj
  refine ⟨cv, ?_,e2.mono hsub⟩
  simp only [World.cell?] at e1 ⊢
  rw [d2]; exact e1
theorem Rel.step (R:Rel w0 Fz μ own h w) {μ':Mu} {own':Nat→Option Nat} {h':aA} {w':World}
  (hos:w'.os=w.os) (htape:w'.tape=w.tape) (hout:w'.output=w.output) (hsz:w.heap.size≤w'.heap.size)
  (hfz:∀ B,Fz B→w'.heap[B]? = w.heap[B]?)
  (hownlt:∀ B id,own' B=some id→B<w'.heap.size) (hsub:Sub μ μ')
  (hmulen:∀ id ver l,μ' id ver=some l→∃ b,h'[id]? = some b∧(b.floor≤b.cells.length→ver≤b.cells.length))
  (hblk:∀ id b,h'[id]? = some b →
   (h[id]? = some b∧(∀ ver,μ' id ver=μ id ver)∧(∀ B,own B=some id→own' B=some id∧w'.heap[B]? = w.heap[B]?)) ∨
   ((b.floor≤b.cells.length→∃ l,oG w' Fz μ' own' id b l)∧∀ es,b.mp=some es→aS3 w' Fz μ' own' id es)) :
  Rel w0 Fz μ' own' h' w' where
 os:=hos.trans R.os
 tape:=htape.trans R.tape
 output:=hout.trans R.output
 size0:=Nat.le_trans R.size0 hsz
 fz:=fun B hB=>⟨(R.fz B hB).1,(hfz B hB).trans (R.fz B hB).2⟩
 ownlt:=hownlt
 mulen:=hmulen
 blk := fun id b hb hl => by
  rcases hblk id b hb with ⟨h1,h2,h3⟩ | h1
  ·obtain ⟨l, hk⟩ := R.blk id b h1 hl
   exact ⟨l,hk.keep h3 hsub h2⟩
  ·exact h1.1 hl
 maps:=fun id b es hb he=>by
  rcases hblk id b hb with ⟨h1,h2,h3⟩ | h1
  ·obtain ⟨l, m1, m2, m3, m4⟩ := R.maps id b es h1 he
   obtain ⟨c1,c2⟩:=h3 _ m2
   exact ⟨l,(h2 0).trans m1,c1,m3,m4.keep c2 hsub⟩
  ·exact h1.2 es he
theorem Rel.drew (R:Rel w0 Fz μ own h w):Rel w0 Fz μ own h w.drew:=by
 refine R.step rfl rfl rfl (Nat.le_refl _) (fun _ _=>rfl) R.ownlt (Sub.refl _) R.mulen fun id b hb=>.inl ⟨hb,fun _=>rfl,fun B hB=>⟨hB,rfl⟩⟩
theorem cE (w:World) (o:Obj) {B:Nat} (hB:B<w.heap.size):(w.alloc o).heap[B]? = w.heap[B]?:=by
 show (w.heap.push o)[B]? = _
 simp [Array.getElem?_push,Nat.ne_of_lt hB]
theorem gB (w:World) (o:Obj):(w.alloc o).heap[w.heap.size]? = some o:=by
 show (w.heap.push o)[w.heap.size]? = _
 simp
def b8 (μ:Mu) (id ver:Nat) (l:Loc):Mu:=fun i v=>if i=id∧v=ver then some l else μ i v
def cQ (own:Nat→Option Nat) (B id:Nat):Nat→Option Nat:=fun b=>if b=B then some id else own b
theorem jW {id ver:Nat} {l:Loc} (hn:μ id ver=none):Sub μ (b8 μ id ver l):=by
 intro i v l' hl
 unfold b8
 by_cases hc:i=id∧v=ver
 ·obtain ⟨rfl,rfl⟩:=hc; rw [hn] at hl; cases hl
 ·rw [if_neg hc]; exact hl
theorem qH {c:Array Value} {el:TypeId} {fr:Nat × Nat} {B j:Nat} {w:World} (h:w.heap[B]? = some (.cells c el fr)):w.cell? ⟨B,j,none⟩=c[j]?:=by simp [World.cell?,h]
theorem wY {a b:Option TypeId} {t:TypeId} (h:gW a b=some t):a=some t∧b=some t:=by
 unfold gW at h
 split at h
 ·rename_i x y
  cases hb:Nat.beq x y with
  | true =>
   rw [hb] at h
   have:=Nat.eq_of_beq_eq_true hb
   subst this
   simp at h; subst h
   exact ⟨rfl,rfl⟩
  | false=>rw [hb] at h; simp at h
 ·cases h
theorem Rel.alloc (R : Rel w0 Fz μ own h w) {cells : List AV} {sz cap : Nat} {ex : Bool} {c : Array Value} {el : TypeId} {fr : Nat × Nat} {ty : Option TypeId}
  (hc:VRels μ cells (c.toList.take cells.length)) (hcap:cells.length≤cap) (hcc:cap≤c.size) (hex:ex=true→cap=cells.length) (hfr:∀ j,j<cap→(decide (fr.1≤j)&&decide (j<fr.2))=false) (hty:∀ t,ty=some t→t=el:=by intro t h; cases h) :
  Rel w0 Fz (b8 μ h.length cells.length ⟨w.heap.size,0,cap,sz⟩) (cQ own w.heap.size h.length) (h++[bC cells sz ex ty]) (w.alloc (.cells c el fr)) ∧
  Sub μ (b8 μ h.length cells.length ⟨w.heap.size,0,cap,sz⟩)∧b8 μ h.length cells.length ⟨w.heap.size,0,cap,sz⟩ h.length cells.length=some ⟨w.heap.size,0,cap,sz⟩:=by
 have hnone:∀ ver,μ h.length ver=none:=fun ver=>by
  cases hm:μ h.length ver with
  | none=>rfl
  | some l=>obtain ⟨b,hb,_⟩:=R.mulen _ _ _ hm; simp at hb
 have hs:Sub μ (b8 μ h.length cells.length ⟨w.heap.size,0,cap,sz⟩):=jW (hnone _)
 have hat:b8 μ h.length cells.length ⟨w.heap.size,0,cap,sz⟩ h.length cells.length=some ⟨w.heap.size,0,cap,sz⟩:=by simp [b8]
 refine ⟨?_,hs,hat⟩
 refine R.step rfl rfl rfl (by simp) (fun B hB=>cE w _ (Nat.lt_of_lt_of_le (R.fz B hB).1 R.size0)) ?_ hs ?_ ?_
 ·intro B id hB
  unfold cQ at hB
  split at hB
  ·subst_vars; simp
  ·have:=R.ownlt B id hB; simp; omega
 ·intro id ver l hl
  unfold b8 at hl
  split at hl
  ·rename_i hc'
   obtain ⟨rfl,rfl⟩:=hc'
   exact ⟨bC cells sz ex ty,by simp,fun _=>Nat.le_refl _⟩
  ·obtain ⟨b, hb, hl2⟩ := R.mulen _ _ _ hl
   have:id<h.length:=(List.getElem?_eq_some_iff.1 hb).1
   exact ⟨b,by rw [List.getElem?_append_left this]; exact hb,hl2⟩
 ·intro id b hb
  by_cases hid:id<h.length
  ·rw [List.getElem?_append_left hid] at hb
   refine .inl ⟨hb,fun ver=>by unfold b8; rw [if_neg (by omega)],fun B hB=>?_⟩
   have hlt:=R.ownlt B id hB
   exact ⟨by unfold cQ; rw [if_neg (by omega)]; exact hB,cE w _ hlt⟩
  ·rw [List.getElem?_append_right (by omega)] at hb
   have hid':id=h.length:=by
    obtain ⟨hlt,_⟩:=List.getElem?_eq_some_iff.1 hb
    simp at hlt; omega
   subst hid'
   simp at hb
   subst hb
   have hnew:=gB w (.cells c el fr)
   refine .inr ⟨fun hlv2=>⟨⟨w.heap.size,0,cap,sz⟩,{ cur:=hat,owned:=by simp [cQ],sz:=rfl,len:=hcap,ex:=hex,ro:=fun _ hF=>?_,gl:=fun hg=>by simp [bC] at hg,nomap:=rfl,tyok:=fun t ht=>(by obtain rfl:=hty t ht; exact ⟨rfl,c,fr,hnew⟩),row:=⟨c,el,fr,hnew,by simpa using hcc⟩,free:=fun _ j hj=>?_,vers:=fun ver h1 h2 l' hl'=>?_ }⟩,fun es he=>by first | (cases he; done) | (simp [bC] at he; done) | (have he:=hk.nomap.symm.trans he; cases he)⟩
   ·have h1 : w.heap.size < w0.heap.size := (R.fz _ hF).1
    have:=R.size0; omega
   ·simp only [World.frozen?,hnew]; simpa using hfr j hj
   ·have hver : ver = cells.length := Nat.le_antisymm h2 h1
    subst hver
    rw [hat] at hl'
    cases hl'
    refine { own:=by simp [cQ],sz:=rfl,le:=hcap,base:=fun _=>rfl,cells:=fun j hj=>?_ }
    obtain ⟨v,hv1,hv2⟩:=hc.get? hj
    have hv3:c[j]? = some v:=by
     rw [List.getElem?_take_of_lt hj] at hv1
     simpa using hv1
    exact ⟨v,by rw [qH hnew]; simpa using hv3,hv2.mono hs⟩
theorem eM:∀ (xs:List AV) (cs:List AV) (o:Nat),(wr cs o xs).length=cs.length
 | [],_,_=>rfl
 | x :: xs,cs,o=>by rw [wr,eM xs]; simp
theorem aKC : ∀ (xs : List AV) (cs : List AV) (o j : Nat), o + xs.length ≤ cs.length → (wr cs o xs).getD j .u = if o ≤ j ∧ j < o + xs.length then xs.getD (j - o) .u else cs.getD j .u
 | [],cs,o,j,_=>by simp only [wr,List.length_nil,Nat.add_zero]; rw [if_neg (by omega)]
 | x :: xs, cs, o, j, hl => by
  simp only [List.length_cons] at hl
  rw [wr,aKC xs _ (o+1) j (by simp; omega)]
  by_cases h1:o+1≤j∧j<o+1+xs.length
  ·rw [if_pos h1, if_pos (by simp; omega)]
   rw [show j - o=(j - (o+1))+1 by omega]
   simp
  ·rw [if_neg h1]
   by_cases h2:j=o
   ·subst h2
    rw [if_pos (by simp)]
    have:j<cs.length:=by omega
    simp [List.getD_eq_getElem?_getD,this]
   ·rw [if_neg (by simp only [List.length_cons]; omega)]
    simp [List.getD_eq_getElem?_getD,List.getElem?_set,Ne.symm h2]
theorem dA (b:Nat):∀ (vs:List Value) (o:Nat) (w:World) (B:Nat),B≠b→(w.setCells b o vs).heap[B]? = w.heap[B]?
 | [],_,_,_,_=>rfl
 | v :: r, o, w, B, hB => by
  rw [World.setCells,dA b r (o+1) _ B hB]
  simp [World.setCell,Array.getElem?_modify,Ne.symm hB]
theorem dK (b:Nat):∀ (vs:List Value) (o:Nat) (w:World),(w.setCells b o vs).heap.size=w.heap.size
 | [],_,_=>rfl
 | v :: r,o,w=>by rw [World.setCells,dK b r]; simp
theorem lH (b:Nat):∀ (vs:List Value) (o:Nat) (w:World),(w.setCells b o vs).os=w.os∧(w.setCells b o vs).tape=w.tape∧(w.setCells b o vs).output=w.output
 | [],_,_=>⟨rfl,rfl,rfl⟩
 | v :: r,o,w=>by rw [World.setCells]; exact lH b r (o+1) (w.setCell _ v)
theorem jL (b:Nat):∀ (vs:List Value) (o:Nat) (w:World) (c:Array Value) (el:TypeId) (fr:Nat × Nat),w.heap[b]? = some (.cells c el fr)→∃ c',(w.setCells b o vs).heap[b]? = some (.cells c' el fr)∧c'.size=c.size
 | [],_,w,c,el,fr,h=>⟨c,h,rfl⟩
 | v :: r, o, w, c, el, fr, h => by
  rw [World.setCells]
  obtain ⟨c',h1,h2⟩:=jL b r (o+1) (w.setCell ⟨b,o,none⟩ v) (c.setIfInBounds o v) el fr (by simp [World.setCell,Array.getElem?_modify,h])
  exact ⟨c',h1,by simpa using h2⟩
theorem aH0 {v:AV} {cv:Value} (h:aX μ v cv) (hc:v.cellOK=true):cv.oneCell'=true:=by
 cases h <;> first | rfl | (simp [AV.cellOK] at hc)
theorem fS:∀ {vs:List AV} {cvs:List Value},VRels μ vs cvs→vs.all AV.cellOK=true→∀ v∈cvs,v.oneCell'=true
 | _,_,.nil,_,v,hv=>by cases hv
 | _, _, .cons a x aq xs h t, hc, v, hv => by
  simp only [List.all_cons,Bool.and_eq_true] at hc
  rcases List.mem_cons.1 hv with rfl | hv
  ·exact aH0 h hc.1
  ·exact fS t hc.2 v hv
theorem Rel.room (R:Rel w0 Fz μ own h w) {id:Nat} {b:ABlk} {l:Loc} (hk:oG w Fz μ own id b l) (hro:b.ro=false) {off n:Nat} (hn:off+n≤l.cap) :
  (∀ j,j<n→(w.cell? ⟨l.B,l.base+off+j,none⟩).isSome=true)∧(∀ j,j<n→w.frozen? ⟨l.B,l.base+off+j,none⟩=false):=by
 obtain ⟨c,el,fr,h1,h2⟩:=hk.row
 refine ⟨fun j hj=>?_,fun j hj=>?_⟩
 ·rw [qH h1]
  have:l.base+off+j<c.size:=by omega
  simp [this]
 ·have := hk.free hro (off + j) (by omega)
  rwa [← Nat.add_assoc] at this
theorem Rel.write (R : Rel w0 Fz μ own h w) {id : Nat} {b : ABlk} {l : Loc} (hb : h[id]? = some b) (hlv : b.floor ≤ b.cells.length) (hk : oG w Fz μ own id b l) (hro : b.ro = false)
  {off:Nat} {xs:List AV} {vs:List Value} (hx:VRels μ xs vs) (hoff:off+xs.length≤b.cells.length) :
  Rel w0 Fz μ own (h.set id { b with cells:=wr b.cells off xs,floor:=b.cells.length }) (w.setCells l.B (l.base+off) vs):=by
 have hid:id<h.length:=(List.getElem?_eq_some_iff.1 hb).1
 obtain ⟨hos,htp,hot⟩:=lH l.B vs (l.base+off) w
 have hxl:=hx.length
 have hroom:=(R.room hk hro (off:=off) (n:=xs.length) (by have:=hk.len; omega)).1
 refine R.step hos htp hot (by rw [dK]; exact Nat.le_refl _) (fun B hB=>dA _ _ _ _ _ (fun e=>hk.ro hro (e ▸ hB))) (fun B id' hB=>by rw [dK]; exact R.ownlt B id' hB) (Sub.refl _) ?_ ?_
 ·intro i ver l' hl'
  obtain ⟨b',hb',hle⟩:=R.mulen _ _ _ hl'
  by_cases hi:i=id
  ·subst hi
   rw [hb] at hb'; cases hb'
   exact ⟨_,List.getElem?_set_self hid,fun _=>by simpa [eM] using hle hlv⟩
  ·exact ⟨b',by rw [List.getElem?_set_ne (Ne.symm hi)]; exact hb',hle⟩
 ·intro i b' hb'
  by_cases hi:i=id
  ·subst hi
   simp [hid] at hb'
   subst hb'
   obtain ⟨c,el,fr,hrow,hcs⟩:=hk.row
   obtain ⟨c',hrow',hcs'⟩:=jL l.B vs (l.base+off) w c el fr hrow
   refine .inr ⟨fun hlv2=>⟨l,{ cur:=by simpa [eM] using hk.cur,owned:=hk.owned,sz:=hk.sz,len:=by simpa [eM] using hk.len,ex:=by simpa [eM] using hk.ex,ro:=hk.ro,gl:=hk.gl,nomap:=hk.nomap,tyok:=fun t ht=>(by obtain ⟨t1,c2,fr2,t2⟩:=hk.tyok t ht; rw [hrow] at t2; cases t2; exact ⟨t1,c',fr,hrow'⟩),row:=⟨c',el,fr,hrow',by omega⟩,free:=fun hr j hj=>by rw [World.frozen?_setCells]; exact hk.free hr j hj,vers:=fun ver h1 h2 l' hl'=>?_ }⟩,fun es he=>by first | (cases he; done) | (simp [bC] at he; done) | (have he:=hk.nomap.symm.trans he; cases he)⟩
   simp only [eM] at h1 h2
   have hver:ver=b.cells.length:=Nat.le_antisymm h2 h1
   subst hver
   rw [hk.cur] at hl'; cases hl'
   have hv:=hk.vers _ hlv (Nat.le_refl _) _ hk.cur
   refine { own:=hv.own,sz:=hv.sz,le:=hv.le,base:=fun _=>rfl,cells:=fun j hj=>?_ }
   show ∃ cv,_∧aX μ ((wr b.cells off xs).getD j .u) cv
   rw [aKC xs b.cells off j hoff]
   by_cases hin:off≤j∧j<off+xs.length
   ·rw [if_pos hin]
    obtain ⟨v,hv1,hv2⟩:=hx.get? (i:=j - off) (by omega)
    have hjv:j - off<vs.length:=by omega
    refine ⟨v, ?_,hv2⟩
    have:=World.cell?_setCells_in l.B vs (l.base+off) w (fun j hj=>hroom j (by omega)) (j - off) hjv
    rw [show l.base+off+(j - off)=l.base+j by omega] at this
    rw [this]
    rw [List.getElem?_eq_getElem hjv] at hv1
    exact hv1
   ·rw [if_neg hin]
    obtain ⟨cv,e1,e2⟩:=hv.cells j hj
    refine ⟨cv, ?_,e2⟩
    rw [World.cell?_setCells_out l.B vs (l.base+off) w _ (fun _ _=>by simp only; omega)]
    exact e1
  ·rw [List.getElem?_set_ne (Ne.symm hi)] at hb'
   refine .inl ⟨hb',fun _=>rfl,fun B hB=>⟨hB,dA _ _ _ _ _ (fun e=>?_)⟩⟩
   subst e
   have:=hk.owned.symm.trans hB
   exact hi (Option.some.inj this).symm
theorem Rel.growIn (R : Rel w0 Fz μ own h w) {id : Nat} {b : ABlk} {l : Loc} (hb : h[id]? = some b) (hlv : b.floor ≤ b.cells.length) (hk : oG w Fz μ own id b l) (hro : b.ro = false) (hex : b.ex = false) {ty : Option TypeId}
  {xs:List AV} {vs:List Value} (hx:VRels μ xs vs) (hpos:0<xs.length) (hcap:b.cells.length+xs.length≤l.cap) :
  Rel w0 Fz (b8 μ id (b.cells++xs).length l) own (h.set id { b with cells:=b.cells++xs,ty:=gW b.ty ty }) (w.setCells l.B (l.base+b.cells.length) vs)∧Sub μ (b8 μ id (b.cells++xs).length l):=by
 have hid:id<h.length:=(List.getElem?_eq_some_iff.1 hb).1
 obtain ⟨hos,htp,hot⟩:=lH l.B vs (l.base+b.cells.length) w
 have hxl:=hx.length
 have hroom:=(R.room hk hro (off:=b.cells.length) (n:=xs.length) hcap).1
 have hn:μ id (b.cells++xs).length=none:=by
  cases hm:μ id (b.cells++xs).length with
  | none=>rfl
  | some l' =>
   obtain ⟨b',hb',hle⟩:=R.mulen _ _ _ hm
   rw [hb] at hb'; cases hb'
   have:=hle hlv
   simp at this; omega
 have hs:Sub μ (b8 μ id (b.cells++xs).length l):=jW hn
 refine ⟨?_,hs⟩
 refine R.step hos htp hot (by rw [dK]; exact Nat.le_refl _) (fun B hB=>dA _ _ _ _ _ (fun e=>hk.ro hro (e ▸ hB))) (fun B id' hB=>by rw [dK]; exact R.ownlt B id' hB) hs ?_ ?_
 ·intro i ver l' hl'
  unfold b8 at hl'
  split at hl'
  ·rename_i hc
   obtain ⟨rfl,rfl⟩:=hc
   exact ⟨_,List.getElem?_set_self hid,fun _=>Nat.le_refl _⟩
  ·obtain ⟨b', hb', hle⟩ := R.mulen _ _ _ hl'
   by_cases hi:i=id
   ·subst hi
    rw [hb] at hb'; cases hb'
    exact ⟨_,List.getElem?_set_self hid,fun _=>by have:=hle hlv; simp; omega⟩
   ·exact ⟨b',by rw [List.getElem?_set_ne (Ne.symm hi)]; exact hb',hle⟩
 ·intro i b' hb'
  by_cases hi:i=id
  ·subst hi
   simp [hid] at hb'
   subst hb'
   obtain ⟨c,el,fr,hrow,hcs⟩:=hk.row
   obtain ⟨c',hrow',hcs'⟩:=jL l.B vs (l.base+b.cells.length) w c el fr hrow
   refine .inr ⟨fun hlv2=>⟨l,{ cur:=by simp [b8],owned:=hk.owned,sz:=hk.sz,len:=by simpa using hcap,ex:=fun he=>by simp [hex] at he,ro:=hk.ro,gl:=hk.gl,nomap:=hk.nomap,tyok:=fun t ht=>(by obtain ⟨t1,c2,fr2,t2⟩:=hk.tyok t (wY ht).1; rw [hrow] at t2; cases t2; exact ⟨t1,c',fr,hrow'⟩),row:=⟨c',el,fr,hrow',by omega⟩,free:=fun hr j hj=>by rw [World.frozen?_setCells]; exact hk.free hr j hj,vers:=fun ver h1 h2 l' hl'=>?_ }⟩,fun es he=>by first | (cases he; done) | (simp [bC] at he; done) | (have he:=hk.nomap.symm.trans he; cases he)⟩
   have hvc:=hk.vers _ hlv (Nat.le_refl _) _ hk.cur
   simp only at h1 h2
   unfold b8 at hl'
   split at hl'
   ·rename_i hc
    obtain ⟨_,rfl⟩:=hc
    cases hl'
    refine { own:=hvc.own,sz:=hvc.sz,le:=by simpa using hcap,base:=fun _=>rfl,cells:=fun j hj=>?_ }
    show ∃ cv,_∧aX _ ((b.cells++xs).getD j .u) cv
    by_cases hin:j<b.cells.length
    ·obtain ⟨cv, e1, e2⟩ := hvc.cells j hin
     refine ⟨cv, ?_, ?_⟩
     ·rw [World.cell?_setCells_out l.B vs _ w _ (fun _ _ => by simp only; omega)]
      exact e1
     ·rw [List.getD_eq_getElem?_getD, List.getElem?_append_left hin, ← List.getD_eq_getElem?_getD]
      exact e2.mono hs
    ·have hjx : j - b.cells.length < xs.length := by simp at hj; omega
     obtain ⟨v,hv1,hv2⟩:=hx.get? hjx
     have hjv:j - b.cells.length<vs.length:=by omega
     refine ⟨v, ?_, ?_⟩
     ·have := World.cell?_setCells_in l.B vs (l.base + b.cells.length) w (fun j hj => hroom j (by omega)) (j - b.cells.length) hjv
      rw [show l.base+b.cells.length+(j - b.cells.length)=l.base+j by omega] at this
      rw [this]
      rw [List.getElem?_eq_getElem hjv] at hv1
      exact hv1
     ·rw [List.getD_eq_getElem?_getD, List.getElem?_append_right (by omega), ← List.getD_eq_getElem?_getD]
      exact hv2.mono hs
   ·rename_i hc
    have hverle:ver≤b.cells.length:=by
     obtain ⟨b',hb',hle⟩:=R.mulen _ _ _ hl'
     rw [hb] at hb'; cases hb'
     exact hle hlv
    have hv:=hk.vers ver h1 hverle l' hl'
    refine { own:=hv.own,sz:=hv.sz,le:=hv.le,base:=hv.base,cells:=fun j hj=>?_ }
    obtain ⟨cv,e1,e2⟩:=hv.cells j hj
    refine ⟨cv, ?_, ?_⟩
    ·rw [World.cell?_setCells_out l.B vs _ w _ (fun hB _ => by
      have:=hv.base hB
      simp only at hB ⊢
      omega)]
     exact e1
    ·rw [List.getD_eq_getElem?_getD, List.getElem?_append_left (by omega), ← List.getD_eq_getElem?_getD]
     exact e2.mono hs
  ·rw [List.getElem?_set_ne (Ne.symm hi)] at hb'
   refine .inl ⟨hb',fun ver=>by unfold b8; rw [if_neg (by omega)],fun B hB=>⟨hB,dA _ _ _ _ _ (fun e=>?_)⟩⟩
   subst e
   have:=hk.owned.symm.trans hB
   exact hi (Option.some.inj this).symm
theorem Rel.growNew (R : Rel w0 Fz μ own h w) {id : Nat} {b : ABlk} {l : Loc} (hb : h[id]? = some b) (hlv : b.floor ≤ b.cells.length) (hk : oG w Fz μ own id b l) (hro : b.ro = false) (hex : b.ex = false) (hgl : b.gl = false)
  {xs:List AV} {c:Array Value} {el:TypeId} {ty:Option TypeId} (hty:∀ t,ty=some t→t=el) (hx:VRels μ (b.cells++xs) (c.toList.take (b.cells++xs).length)) (hpos:0<xs.length) {cap:Nat} (hcap:(b.cells++xs).length≤cap) (hcc:cap≤c.size) :
  Rel w0 Fz (b8 μ id (b.cells++xs).length ⟨w.heap.size,0,cap,b.sz⟩) (cQ own w.heap.size id) (h.set id { b with cells:=b.cells++xs,ty:=gW b.ty ty }) (w.alloc (.cells c el))∧Sub μ (b8 μ id (b.cells++xs).length ⟨w.heap.size,0,cap,b.sz⟩):=by
 have hid:id<h.length:=(List.getElem?_eq_some_iff.1 hb).1
 have hn:μ id (b.cells++xs).length=none:=by
  cases hm:μ id (b.cells++xs).length with
  | none=>rfl
  | some l' =>
   obtain ⟨b',hb',hle⟩:=R.mulen _ _ _ hm
   rw [hb] at hb'; cases hb'
   have:=hle hlv
   simp at this; omega
 have hs:Sub μ (b8 μ id (b.cells++xs).length ⟨w.heap.size,0,cap,b.sz⟩):=jW hn
 refine ⟨?_,hs⟩
 have hnew:=gB w (.cells c el)
 refine R.step rfl rfl rfl (by simp) (fun B hB=>cE w _ (Nat.lt_of_lt_of_le (R.fz B hB).1 R.size0)) ?_ hs ?_ ?_
 ·intro B id' hB
  unfold cQ at hB
  split at hB
  ·subst_vars; simp
  ·have:=R.ownlt B id' hB; simp; omega
 ·intro i ver l' hl'
  unfold b8 at hl'
  split at hl'
  ·rename_i hc
   obtain ⟨rfl,rfl⟩:=hc
   exact ⟨_,List.getElem?_set_self hid,fun _=>Nat.le_refl _⟩
  ·obtain ⟨b', hb', hle⟩ := R.mulen _ _ _ hl'
   by_cases hi:i=id
   ·subst hi
    rw [hb] at hb'; cases hb'
    exact ⟨_,List.getElem?_set_self hid,fun _=>by have:=hle hlv; simp; omega⟩
   ·exact ⟨b',by rw [List.getElem?_set_ne (Ne.symm hi)]; exact hb',hle⟩
 ·intro i b' hb'
  by_cases hi:i=id
  ·subst hi
   simp [hid] at hb'
   subst hb'
   refine .inr ⟨fun hlv2=>⟨⟨w.heap.size,0,cap,b.sz⟩,{ cur:=by simp [b8],owned:=by simp [cQ],sz:=rfl,len:=hcap,ex:=fun he=>by simp [hex] at he,ro:=fun _ hF=>?_,gl:=fun hg=>by simp [hgl] at hg,nomap:=hk.nomap,tyok:=fun t ht=>(by obtain rfl:=hty t (wY ht).2; exact ⟨rfl,c,_,hnew⟩),row:=⟨c,el,_,hnew,by simpa using hcc⟩,free:=fun _ j hj=>?_,vers:=fun ver h1 h2 l' hl'=>?_ }⟩,fun es he=>by first | (cases he; done) | (simp [bC] at he; done) | (have he:=hk.nomap.symm.trans he; cases he)⟩
   ·have h1 : w.heap.size < w0.heap.size := (R.fz _ hF).1
    have:=R.size0; omega
   ·simp only [World.frozen?,hnew]; simp
   ·simp only at h1 h2
    unfold b8 at hl'
    split at hl'
    ·rename_i hc
     obtain ⟨_,rfl⟩:=hc
     cases hl'
     refine { own:=by simp [cQ],sz:=rfl,le:=hcap,base:=fun _=>rfl,cells:=fun j hj=>?_ }
     obtain ⟨v,hv1,hv2⟩:=hx.get? hj
     have hv3:c[j]? = some v:=by
      rw [List.getElem?_take_of_lt hj] at hv1
      simpa using hv1
     exact ⟨v,by rw [qH hnew]; simpa using hv3,hv2.mono hs⟩
    ·rename_i hc
     have hverle:ver≤b.cells.length:=by
      obtain ⟨b',hb',hle⟩:=R.mulen _ _ _ hl'
      rw [hb] at hb'; cases hb'
      exact hle hlv
     have hv:=hk.vers ver h1 hverle l' hl'
     have hlt:=R.ownlt _ _ hv.own
     refine { own:=by unfold cQ; rw [if_neg (by omega)]; exact hv.own,sz:=hv.sz,le:=hv.le,base:=fun hB=>?_,cells:=fun j hj=>?_ }
     ·simp only at hB; omega
     ·obtain ⟨cv, e1, e2⟩ := hv.cells j hj
      refine ⟨cv, ?_, ?_⟩
      ·rw [World.cell?_alloc_lt _ _ _ hlt]; exact e1
      ·rw [List.getD_eq_getElem?_getD, List.getElem?_append_left (by omega), ← List.getD_eq_getElem?_getD]
       exact e2.mono hs
  ·rw [List.getElem?_set_ne (Ne.symm hi)] at hb'
   refine .inl ⟨hb',fun ver=>by unfold b8; rw [if_neg (by omega)],fun B hB=>?_⟩
   have hlt:=R.ownlt B i hB
   exact ⟨by unfold cQ; rw [if_neg (by omega)]; exact hB,cE w _ hlt⟩
end
end Go.GAM
namespace Go.GAM
section
variable {P:Program} {w0:World} {Fz:Nat→Prop} {μ:Mu} {own:Nat→Option Nat} {h:aA} {w:World}
theorem Rel.kill (R:Rel w0 Fz μ own h w) {id:Nat}:Rel w0 Fz μ own (h.set id dead) w:=by
 refine R.step rfl rfl rfl (Nat.le_refl _) (fun _ _=>rfl) R.ownlt (Sub.refl _) ?_ ?_
 ·intro i ver l hl
  obtain ⟨b,hb,hle⟩:=R.mulen _ _ _ hl
  by_cases hi:i=id
  ·subst hi
   have:i<h.length:=(List.getElem?_eq_some_iff.1 hb).1
   exact ⟨dead,List.getElem?_set_self this,fun hf=>by simp [dead] at hf⟩
  ·exact ⟨b,by rw [List.getElem?_set_ne (Ne.symm hi)]; exact hb,hle⟩
 ·intro i b hb
  by_cases hi:i=id
  ·subst hi
   have:i<(h.set i dead).length:=(List.getElem?_eq_some_iff.1 hb).1
   rw [List.getElem?_set_self (by simpa using this)] at hb
   cases hb
   exact .inr ⟨fun hlv=>by simp [dead] at hlv,fun es he=>by simp [dead] at he⟩
  ·rw [List.getElem?_set_ne (Ne.symm hi)] at hb
   exact .inl ⟨hb,fun _=>rfl,fun B hB=>⟨hB,rfl⟩⟩
theorem aBV {α:Type} {l:List α} {i:Nat} {x:α} (r:List α) (hi:i<l.length):(l++r).set i x=l.set i x++r:=by
 rw [List.set_append_left _ _ hi]
theorem Rel.takeOver (R : Rel w0 Fz μ own h w) {id off : Nat} {b : ABlk} {l : Loc} (hb : h[id]? = some b) (hlv : b.floor ≤ b.cells.length) (hk : oG w Fz μ own id b l) (hro : b.ro = false)
  {xs:List AV} {vs:List Value} (hx:VRels μ xs vs) (hoff:off≤b.cells.length) (hcap:b.cells.length+xs.length≤l.cap) :
  let l':Loc:=⟨l.B,l.base+off,l.cap - off,l.sz⟩
  let ns:=b.cells.drop off++xs
  Rel w0 Fz (b8 μ h.length ns.length l') (cQ own l.B h.length) (h.set id dead++[bC ns l.sz false]) (w.setCells l.B (l.base+b.cells.length) vs)∧Sub μ (b8 μ h.length ns.length l'):=by
 intro l' ns
 have hid:id<h.length:=(List.getElem?_eq_some_iff.1 hb).1
 obtain ⟨hos,htp,hot⟩:=lH l.B vs (l.base+b.cells.length) w
 have hxl:=hx.length
 have hroom:=(R.room hk hro (off:=b.cells.length) (n:=xs.length) hcap).1
 have hnone:∀ ver,μ h.length ver=none:=fun ver=>by
  cases hm:μ h.length ver with
  | none=>rfl
  | some l=>obtain ⟨b,hb,_⟩:=R.mulen _ _ _ hm; simp at hb
 have hs:Sub μ (b8 μ h.length ns.length l'):=jW (hnone _)
 have hnl:ns.length=b.cells.length - off+xs.length:=by simp [ns]
 refine ⟨?_,hs⟩
 refine R.step hos htp hot (by rw [dK]; exact Nat.le_refl _) (fun B hB=>dA _ _ _ _ _ (fun e=>hk.ro hro (e ▸ hB))) ?_ hs ?_ ?_
 ·intro B i hB
  rw [dK]
  unfold cQ at hB
  split at hB
  ·rename_i hBB; subst hBB; exact R.ownlt _ _ hk.owned
  ·exact R.ownlt B i hB
 ·intro i ver lx hlx
  unfold b8 at hlx
  split at hlx
  ·rename_i hc
   obtain ⟨rfl,rfl⟩:=hc
   exact ⟨bC ns l.sz false,by simp,fun _=>Nat.le_refl _⟩
  ·obtain ⟨b', hb', hle⟩ := R.mulen _ _ _ hlx
   have hil:i<h.length:=(List.getElem?_eq_some_iff.1 hb').1
   rw [List.getElem?_append_left (by simpa using hil)]
   by_cases hi:i=id
   ·subst hi
    exact ⟨dead,List.getElem?_set_self hil,fun hf=>by simp [dead] at hf⟩
   ·exact ⟨b',by rw [List.getElem?_set_ne (Ne.symm hi)]; exact hb',hle⟩
 ·intro i b' hb'
  by_cases hil:i<h.length
  ·rw [List.getElem?_append_left (by simpa using hil)] at hb'
   by_cases hi:i=id
   ·subst hi
    rw [List.getElem?_set_self hil] at hb'
    cases hb'
    exact .inr ⟨fun hlv'=>by simp [dead] at hlv',fun es he=>by simp [dead] at he⟩
   ·rw [List.getElem?_set_ne (Ne.symm hi)] at hb'
    refine .inl ⟨hb',fun ver=>by unfold b8; rw [if_neg (by omega)],fun B hB=>?_⟩
    have hBne:B≠l.B:=fun e=>by
     subst e
     have:=hk.owned.symm.trans hB
     exact hi (Option.some.inj this).symm
    exact ⟨by unfold cQ; rw [if_neg hBne]; exact hB,dA _ _ _ _ _ hBne⟩
  ·rw [List.getElem?_append_right (by simpa using hil)] at hb'
   have hid':i=h.length:=by
    obtain ⟨hlt,_⟩:=List.getElem?_eq_some_iff.1 hb'
    simp at hlt; omega
   subst hid'
   simp at hb'
   subst hb'
   obtain ⟨c,el,fr,hrow,hcs⟩:=hk.row
   obtain ⟨c',hrow',hcs'⟩:=jL l.B vs (l.base+b.cells.length) w c el fr hrow
   refine .inr ⟨fun hlv2=>⟨l',{ cur:=by simp [b8,bC],owned:=by simp [cQ,l'],sz:=rfl,len:=?_,ex:=fun he=>by simp [bC] at he,ro:=fun _=>hk.ro hro,gl:=fun hg=>by simp [bC] at hg,nomap:=rfl,tyok:=fun t ht=>(by cases ht),row:=⟨c',el,fr,hrow', ?_⟩,free:=fun hr j hj=>?_,vers:=fun ver h1 h2 lx hlx=>?_ }⟩,fun es he=>by first | (cases he; done) | (simp [bC] at he; done) | (have he:=hk.nomap.symm.trans he; cases he)⟩
   ·show ns.length ≤ l.cap - off
    omega
   ·show l.base + off + (l.cap - off) ≤ c'.size
    have:=hk.len
    omega
   ·rw [World.frozen?_setCells]
    have hj':j<l.cap - off:=hj
    have:=hk.free hro (off+j) (by omega)
    show w.frozen? ⟨l.B,l.base+off+j,none⟩=false
    rwa [← Nat.add_assoc] at this
   ·have hver : ver = ns.length := Nat.le_antisymm h2 h1
    subst hver
    have hlx':lx=l':=by
     unfold b8 at hlx
     rw [if_pos ⟨rfl,rfl⟩] at hlx
     exact (Option.some.inj hlx).symm
    subst hlx'
    have hvc:=hk.vers _ hlv (Nat.le_refl _) _ hk.cur
    refine { own:=by simp [cQ,l'],sz:=rfl,le:=?_,base:=fun _=>rfl,cells:=fun j hj=>?_ }
    ·show ns.length ≤ l.cap - off
     omega
    ·show ∃ cv, (w.setCells l.B (l.base + b.cells.length) vs).cell? ⟨l.B, l.base + off + j, none⟩ = some cv ∧ aX _ (ns.getD j .u) cv
     by_cases hin:j<b.cells.length - off
     ·obtain ⟨cv, e1, e2⟩ := hvc.cells (off + j) (by omega)
      refine ⟨cv, ?_, ?_⟩
      ·rw [World.cell?_setCells_out l.B vs _ w _ (fun _ _ => by simp only; omega), Nat.add_assoc]
       exact e1
      ·have : ns.getD j .u = b.cells.getD (off + j) .u := by
        simp only [ns]
        rw [List.getD_eq_getElem?_getD,List.getElem?_append_left (by simpa using hin),List.getElem?_drop, ← List.getD_eq_getElem?_getD]
       rw [this]; exact e2.mono hs
     ·obtain ⟨v, hv1, hv2⟩ := hx.get? (i := j - (b.cells.length - off)) (by omega)
      have hjv:j - (b.cells.length - off)<vs.length:=by omega
      refine ⟨v, ?_, ?_⟩
      ·have := World.cell?_setCells_in l.B vs (l.base + b.cells.length) w (fun j hj => hroom j (by omega)) (j - (b.cells.length - off)) hjv
       rw [show l.base+b.cells.length+(j - (b.cells.length - off))=l.base+off+j by omega] at this
       rw [this]
       rw [List.getElem?_eq_getElem hjv] at hv1
       exact hv1
      ·have : ns.getD j .u = xs.getD (j - (b.cells.length - off)) .u := by
        simp only [ns]
        rw [List.getD_eq_getElem?_getD,List.getElem?_append_right (by simp; omega), ← List.getD_eq_getElem?_getD]
        simp
       rw [this]; exact hv2.mono hs
theorem uB (R : Rel w0 Fz μ own h w) {x : AV} {cx : Value} {K : List AV → Nat → Prop} {sz : Nat} (hx : aX μ x cx) (hk : fH sz x h K) :
  ∃ news k vs, K news k ∧ VRels μ news vs ∧ news.length = k * sz ∧ (∀ w', (Builtin.lenOf cx).run P w' = .ok k w') ∧
   ∀ n,n≤k→∀ w',dY w w'→(Builtin.firstCells sz n cx).run P w' = .ok (vs.take (n * sz)).toArray w':=by
 cases hx <;> first | exact hk.elim | skip
 case sn=>exact ⟨[],0,[],hk,.nil,by simp,fun w'=>by simp [Builtin.lenOf],fun n hn w' hs=>by simp [Builtin.firstCells]⟩
 case sl a len capo c addr l h1 h2 h3 h4 h5 h6=>
  have hk':fG sz (.sl (some a) len capo) h (fun cs=>K cs len):=hk
  obtain ⟨cs,vs,hK,hr,a',len',c',he,hn,hlen,hrd⟩:=lP R (aX.sl a len capo c addr l h1 h2 h3 h4 h5 h6) hk'
  cases he
  refine ⟨cs,_,vs,hK,hr,hlen,fun w'=>by simp [Builtin.lenOf],fun n hn' w' hs=>?_⟩
  have hvl:vs.length=len * sz:=by rw [← hr.length]; exact hlen
  have hle:n * sz≤len * sz:=Nat.mul_le_mul_right _ hn'
  refine run_firstCells_some w' sz n addr len c _ (by simp; omega) fun j v hj=>?_
  have hjl:j<n * sz:=by
   have:=(List.getElem?_eq_some_iff.1 hj).1
   simp at this; omega
  rw [List.getElem?_take_of_lt hjl] at hj
  exact hrd addr rfl (by omega) w' hs j v hj
 case s l s hs=>
  obtain ⟨rfl,hK⟩:=hk
  refine ⟨_,_,s.data.toList.map (fun b=>Value.int .u8 b.toNat),hK, ?_,by simp,fun w'=>by simp [Builtin.lenOf,nX hs],fun n hn w' hsm=>?_⟩
  ·subst hs
   have:∀ l:List UInt8,VRels μ (l.map byteAV) (l.map (fun b=>Value.int .u8 b.toNat)):=fun l=>by
    induction l with
    | nil=>exact .nil
    | cons c l ih=>exact .cons _ _ _ _ (.i _ _) ih
   exact this _
  ·simp only [Builtin.firstCells, Sem.run_pure, Nat.mul_one]
   congr 1
   apply Array.ext'
   simp only [Array.toList_map]
   rw [pS]
   simp [List.map_take]
structure aOT (P:Program) (t tx el:TypeId) (i:TypeInfo) (z:Value):Prop where
 ht:P.underlying t=some (.slice el)
 htx:(∃ e,P.underlying tx=some (.slice e))∨P.underlying tx=some .string
 hi:P.info? el=some i
 hz:i.zero=some z
theorem oA {t tx ty el:TypeId} {i:TypeInfo} {z:Value} (T:aOT P t tx el i z) {a:Addr} {sLen sCap k:Nat} {cx:Value} {new:Array Value} {w w2:World}
  (hlo:∀ w',(Builtin.lenOf cx).run P w' = .ok k w') (hn:sLen+k≤sCap) (hfc:(Builtin.firstCells i.size k cx).run P w = .ok new w) (hst:(storeCells (a.add (sLen * i.size)) new.toList).run P w = .ok () w2) :
  (Builtin.append_ #[t,tx] ty #[.slice (some a) sLen sCap,cx]).run P w = .ok (.slice (some a) (sLen+k) sCap) w2:=by
 rcases T.htx with ⟨e,he⟩ | he <;>
 simp [Builtin.append_,aW T.ht,aW he,sizeOf,typeInfo,T.hi,hlo,hn,hfc,hst]
theorem oJ {t tx ty el:TypeId} {i:TypeInfo} {z:Value} (T:aOT P t tx el i z) {sLen sCap:Nat} {cx:Value} {w:World} {a:Option Addr} (hsc:sLen≤sCap)
  (hlo:∀ w',(Builtin.lenOf cx).run P w' = .ok 0 w') (hfc:(Builtin.firstCells i.size 0 cx).run P w = .ok #[] w) :
  (Builtin.append_ #[t,tx] ty #[.slice a sLen sCap,cx]).run P w = .ok (.slice a sLen sCap) w:=by
 rcases T.htx with ⟨e,he⟩ | he <;> cases a <;>
 simp [Builtin.append_,aW T.ht,aW he,sizeOf,typeInfo,T.hi,hlo,hsc,hfc,storeCells]
theorem uD {t tx ty el:TypeId} {i:TypeInfo} {z:Value} (T:aOT P t tx el i z) {a:Option Addr} {sLen sCap k:Nat} {cx:Value} {new old:Array Value} {w:World}
  (hlo:∀ w',(Builtin.lenOf cx).run P w' = .ok k w') (hn:sCap<sLen+k) (h63:((sLen+k:Nat):Int)≤9223372036854775807) (hb:(sLen+k) * i.bytes≤140737488355328)
  (hfc:(Builtin.firstCells i.size k cx).run P w.drew = .ok new w.drew) (hfo:(Builtin.firstCells i.size sLen (.slice a sLen sCap)).run P w.drew = .ok old w.drew) :
  (Builtin.append_ #[t,tx] ty #[.slice a sLen sCap,cx]).run P w = .ok (.slice (some ⟨w.heap.size,0,none⟩) (sLen+k) (grownCap w (sLen+k) sCap el))
   (w.drew.alloc (.cells (old++new++Builtin.zeroCells z.cells (grownCap w (sLen+k) sCap el - (sLen+k))) el)):=by
 have hn':¬ (sLen+k≤sCap):=by omega
 have h63':¬ (9223372036854775807<((sLen:Int)+(k:Int))):=by omega
 have h48:=growslice_fits hn hb
 have h48':¬ (281474976710656<Builtin.nextslicecap (sLen+k) sCap * i.bytes):=by omega
 rcases T.htx with ⟨e,he⟩ | he <;>
 simp [Builtin.append_,aW T.ht,aW he,sizeOf,typeInfo,zeroValue,T.hi,T.hz,hlo,hn',h63',h48',Question.forced,hfc,hfo,newRow,grownCap, -Array.append_assoc, -Array.toList_append]
theorem eJ (zero:Array Value) (n:Nat):(Builtin.zeroCells zero n).size=n * zero.size:=by simp [Builtin.zeroCells]
theorem k8 (w:World) (need old:Nat) (e:TypeId):need≤grownCap w need old e:=by simp [grownCap,Question.cut]
end
end Go.GAM
namespace Go.GAM
section
variable {P:Program} {w0:World} {Fz:Nat→Prop} {μ:Mu} {own:Nat→Option Nat} {h:aA} {w:World}
def mN (P:Program) (w0:World) (Fz:Nat→Prop) (μ:Mu) (w:World) (K:AV→aA→Prop) (s:Sem Value):Prop:=
 ∃ v cv μ' own' h' w',K v h'∧aX μ' v cv∧Rel w0 Fz μ' own' h' w'∧Sub μ μ'∧s.run P w = .ok cv w'
theorem dY.drew (w:World):dY w w.drew:=fun _ _=>rfl
theorem sS (R:Rel w0 Fz μ own h w) {t tx ty el:TypeId} {i:TypeInfo} {z:Value} (T:aOT P t tx el i z) {sz:Nat} (hsz:i.size=sz) (h0:0<sz) (hzl:z.cells.size=sz)
  {ao:Option Addr} {sLen sCap k:Nat} {cx:Value} {olds news:List AV} {vo vs:List Value} (ho:VRels μ olds vo) (hr:VRels μ news vs) (hol:olds.length=sLen * sz) (hnl:news.length=k * sz)
  (hlo:∀ w',(Builtin.lenOf cx).run P w' = .ok k w') (hn:sCap<sLen+k) (h63:((sLen+k:Nat):Int)≤9223372036854775807) (hb:(sLen+k) * i.bytes≤140737488355328)
  {tyo:Option TypeId} (hty:∀ t,tyo=some t→t=el:=by intro t h; cases h)
  (hfc:(Builtin.firstCells sz k cx).run P w.drew = .ok vs.toArray w.drew) (hfo:(Builtin.firstCells sz sLen (.slice ao sLen sCap)).run P w.drew = .ok vo.toArray w.drew) :
  ∃ μ' own' w' cv, Rel w0 Fz μ' own' (h ++ [bC (olds ++ news) sz false tyo]) w' ∧ Sub μ μ' ∧ aX μ' (.sl (some ⟨h.length, (olds ++ news).length, 0⟩) (sLen + k) none) cv ∧
   (Builtin.append_ #[t,tx] ty #[.slice ao sLen sCap,cx]).run P w = .ok cv w':=by
 subst hsz
 have hrun:=uD (ty:=ty) T hlo hn h63 hb hfc hfo
 have hcap:=k8 w (sLen+k) sCap el
 generalize grownCap w (sLen+k) sCap el=gc at *
 have hvo:=ho.length
 have hvs:=hr.length
 have hall:VRels μ (olds++news) ((vo.toArray++vs.toArray++Builtin.zeroCells z.cells (gc - (sLen+k))).toList.take (olds++news).length):=by
  have e:(vo.toArray++vs.toArray++Builtin.zeroCells z.cells (gc - (sLen+k))).toList.take (olds++news).length=vo++vs:=by
   simp only [Array.toList_append]
   rw [List.take_append_of_le_length (by simp; omega),List.take_of_length_le (by simp; omega)]
  rw [e]; exact ho.append hr
 have hsize:(vo.toArray++vs.toArray++Builtin.zeroCells z.cells (gc - (sLen+k))).size=gc * i.size:=by
  simp only [Array.size_append,eJ,hzl,List.size_toArray, ← hvo, ← hvs,hol,hnl]
  rw [← Nat.add_mul, ← Nat.add_mul]
  congr 1; omega
 have hle:(olds++news).length≤gc * i.size:=by
  simp only [List.length_append,hol,hnl, ← Nat.add_mul]
  exact Nat.mul_le_mul_right _ hcap
 obtain ⟨A1,A2,A3⟩:=R.drew.alloc (cells:=olds++news) (sz:=i.size) (cap:=gc * i.size) (ex:=false) (el:=el) (fr:=(0,0)) (ty:=tyo) (hty:=hty) hall hle (by omega) (by simp) (by simp)
 refine ⟨_,_,_,_,A1,A2,.sl _ _ _ gc _ _ A3 hcap (by simp) (fun _=>by simp) (fun _ h=>by cases h) (fun _=>rfl), ?_⟩
 exact hrun
theorem aLT (R : Rel w0 Fz μ own h w) {t tx ty el : TypeId} {s x : AV} {cs cx : Value} {K : AV → aA → Prop}
  (ht:P.underlying t=some (.slice el)) (htx:(∃ e,P.underlying tx=some (.slice e))∨P.underlying tx=some .string) (hz:sR P el=true)
  (hs:aX μ s cs) (hx:aX μ x cx) {tyo:Option TypeId} (hty:∀ t,tyo=some t→t=el) (hk:bU tyo (P.cellsOf el) (P.bytesOf el) s x h K):mN P w0 Fz μ w K (Builtin.append_ #[t,tx] ty #[cs,cx]):=by
 unfold sR at hz
 cases hz0:eW P el with
 | none=>rw [hz0] at hz; cases hz
 | some zs=>
 rw [hz0] at hz
 obtain ⟨i,z,hi,hzz,hzr⟩:=mF hz0 μ
 have hcs:P.cellsOf el=i.size:=by simp [Program.cellsOf,hi]
 have hbs:P.bytesOf el=i.bytes:=by simp [Program.bytesOf,hi]
 have hzl:z.cells.size=i.size:=by
  have h1:=hzr.length
  have h2:=Nat.eq_of_beq_eq_true hz
  simp at h1
  omega
 rw [hcs,hbs] at hk
 have T:aOT P t tx el i z:=⟨ht,htx,hi,hzz⟩
 obtain ⟨hsz,hk⟩:=hk
 have hk':=uB (P:=P) R hx hk
 clear hk
 obtain ⟨news,k,vs,hk,hr,hnl,hlo,hfc⟩:=hk'
 have hvl:vs.length=k * i.size:=by rw [← hr.length]; exact hnl
 have hfck:∀ w',dY w w'→(Builtin.firstCells i.size k cx).run P w' = .ok vs.toArray w':=fun w' hs=>by
  have:=hfc k (Nat.le_refl _) w' hs
  rwa [List.take_of_length_le (by omega)] at this
 cases hs <;> first | exact hk.elim | skip
 case sn=>
  obtain ⟨hb,h63,hk⟩:=hk
  by_cases h0:k=0
  ·subst h0
   rw [if_pos rfl] at hk
   have hf0:=hfc 0 (Nat.le_refl _) w (dY.refl w)
   simp only [Nat.zero_mul,List.take_zero] at hf0
   exact ⟨_,_,μ,own,h,w,hk,.sn,R,Sub.refl _,oJ T (Nat.le_refl _) hlo hf0⟩
  ·rw [if_neg h0] at hk
   obtain ⟨μ',own',w',cv,h1,h2,h3,h4⟩:=sS (ty:=ty) (hty:=hty) R T rfl hsz hzl (ao:=none) (sLen:=0) (sCap:=0) (olds:=[]) (vo:=[]) .nil hr (by simp) hnl hlo (by omega) (by simpa using h63) (by simpa using hb) (hfck _ (dY.drew w)) (by simp [Builtin.firstCells])
   simp only [List.nil_append,Nat.zero_add] at h1 h3
   exact ⟨_,cv,μ',own',_,w',hk,h3,h1,h2,h4⟩
 case sl a len capo c addr l hl hle hf hc hcs' ha =>
  obtain ⟨hb,h63,b,hbl,hbsz,hrd,hk⟩:=hk
  have hlv:b.floor≤b.cells.length:=Nat.le_trans hrd.1 hrd.2.1
  obtain ⟨l0,hl0⟩:=R.blk _ _ hbl hlv
  have hv:=hl0.vers _ hrd.1 hrd.2.1 _ hl
  have hlsz:l.sz=i.size:=by rw [hv.sz]; exact hbsz
  rw [hlsz] at hf hc
  obtain ⟨olds,vo,hoe,hor,a',len',c',he,_,hol,hrdo⟩:=lP (K:=fun cs=>cs=(b.cells.drop a.off).take (len * i.size)) R (aX.sl a len capo c addr l hl hle (by rw [hlsz]; exact hf) (by rw [hlsz]; exact hc) hcs' ha) (sz:=i.size) (.inr ⟨b,hbl,hrd,rfl⟩)
  cases he
  have hvol:vo.length=len * i.size:=by rw [← hor.length]; exact hol
  have hfo:∀ w',dY w w'→(Builtin.firstCells i.size len (.slice (some addr) len c)).run P w' = .ok vo.toArray w':=fun w' hsm=>
   run_firstCells_some w' i.size len addr len c vo (by omega) fun j v hj=>by
    have hjl:j<vo.length:=(List.getElem?_eq_some_iff.1 hj).1
    exact hrdo addr rfl (by omega) w' hsm j v hj
  subst hoe
  rcases hk with ⟨h0,hk⟩ | ⟨hpos,hfull,hk⟩ | ⟨hpos,hro,hver,hfit,hcp,hok,hk⟩ | ⟨hpos,hro,hver,hoff,hend,hcp,hex,hgl,hok,hk⟩ | ⟨hpos,hro,hver,hend,hcp,hok,hk⟩
  ·subst h0
   have hf0:=hfc 0 (Nat.le_refl _) w (dY.refl w)
   simp only [Nat.zero_mul,List.take_zero] at hf0
   exact ⟨_,_,μ,own,h,w,hk,.sl a len capo c addr l hl hle (by rw [hlsz]; exact hf) (by rw [hlsz]; exact hc) hcs' ha,R,Sub.refl _,oJ T hle hlo hf0⟩
  ·have hgrow : c < len + k := by
    rcases hfull with ⟨c',h1,h2⟩ | ⟨h1,h2,h3,h4⟩
    ·rw [hcs' _ h1]; exact h2
    ·rw [h2] at hl
     have hk0:=R.cur hbl hlv hl
     have e1:=hk0.ex h1
     have e2:=hc h3
     have:c * i.size<(len+k) * i.size:=by omega
     exact Nat.lt_of_mul_lt_mul_right this
   obtain ⟨μ',own',w',cv,h1,h2,h3,h4⟩:=sS (ty:=ty) R T rfl hsz hzl (ao:=some addr) (sLen:=len) (sCap:=c) hor hr hol hnl hlo hgrow h63 hb (hty:=hty) (hfck _ (dY.drew w)) (hfo _ (dY.drew w))
   exact ⟨_,cv,μ',own',_,w',hk,h3,h1,h2,h4⟩
  ·
   rw [hver] at hl
   have hk0:=R.cur hbl hlv hl
   have hcl:=hk0.len
   have hfits:len+k≤c:=by
    rcases hcp with h1 | ⟨c',h1,h2⟩
    ·have e2 := hc h1
     have:(len+k) * i.size≤c * i.size:=by omega
     exact Nat.le_of_mul_le_mul_right this hsz
    ·rw [hcs' _ h1]; exact h2
   have hadr:=ha (by omega)
   subst hadr
   have emul:(len+k) * i.size=len * i.size+k * i.size:=Nat.add_mul _ _ _
   have hroom:=R.room hk0 hro (off:=a.off+len * i.size) (n:=vs.length) (by omega)
   have hst:=run_storeCells_cells (P:=P) l.B (l.base+(a.off+len * i.size)) vs 0 w (by simpa using hroom.1) (by simpa using hroom.2) (fS hr hok)
   simp only [Nat.add_zero] at hst
   have hrun:=oA (ty:=ty) T hlo hfits (hfck w (dY.refl w)) (a:=⟨l.B,l.base+a.off,none⟩) (w2:=w.setCells l.B (l.base+(a.off+len * i.size)) vs) (by rw [qK]; exact hst)
   refine ⟨_,_,μ,own,_,_,hk, ?_,R.write hbl hlv hk0 hro hr (by omega),Sub.refl _,hrun⟩
   exact .sl a (len+k) capo c _ l (by rw [hver]; exact hl) hfits (by rw [hlsz]; exact hf) (by rw [hlsz]; exact hc) hcs' (fun _=>rfl)
  ·
   rw [hver] at hl
   have hk0:=R.cur hbl hlv hl
   have e2:=hc hcp
   have emul:(len+k) * i.size=len * i.size+k * i.size:=Nat.add_mul _ _ _
   have holds:(b.cells.drop a.off).take (len * i.size)=b.cells:=by rw [hoff,List.drop_zero,List.take_of_length_le (by omega)]
   rw [holds] at hor hol
   by_cases hfits:len+k≤c
   ·have hadr := ha (by omega)
    subst hadr
    have hmul:(len+k) * i.size≤c * i.size:=Nat.mul_le_mul_right _ hfits
    have hroom:=R.room hk0 hro (off:=b.cells.length) (n:=vs.length) (by omega)
    have hst:=run_storeCells_cells (P:=P) l.B (l.base+b.cells.length) vs 0 w (by simpa using hroom.1) (by simpa using hroom.2) (fS hr hok)
    simp only [Nat.add_zero] at hst
    have hrun:=oA (ty:=ty) T hlo hfits (hfck w (dY.refl w)) (a:=⟨l.B,l.base+a.off,none⟩) (w2:=w.setCells l.B (l.base+b.cells.length) vs) (by rw [qK,show a.off+len * i.size=b.cells.length by omega]; exact hst)
    have hnp:0<news.length:=by rw [hnl]; exact Nat.mul_pos hpos hsz
    obtain ⟨g1,g2⟩:=R.growIn (ty:=tyo) hbl hlv hk0 hro hex hr hnp (by omega)
    refine ⟨_,_,_,own,_,_,hk, ?_,g1,g2,hrun⟩
    exact .sl _ (len+k) none c _ l (by simp [b8]) hfits (by rw [hlsz]; simp only; omega) (fun _=>by rw [hlsz]; simp only; omega) (fun _ h=>by cases h) (fun _=>by rw [hoff])
   ·have hrun := uD (ty := ty) T hlo (by omega : c < len + k) h63 hb (hfck _ (dY.drew w)) (hfo _ (dY.drew w))
    have hcap:=k8 w (len+k) c el
    generalize grownCap w (len+k) c el=gc at *
    have hvs:=hr.length
    have hall:VRels μ (b.cells++news) ((vo.toArray++vs.toArray++Builtin.zeroCells z.cells (gc - (len+k))).toList.take (b.cells++news).length):=by
     have e:(vo.toArray++vs.toArray++Builtin.zeroCells z.cells (gc - (len+k))).toList.take (b.cells++news).length=vo++vs:=by
      simp only [Array.toList_append]
      rw [List.take_append_of_le_length (by simp; omega),List.take_of_length_le (by simp; omega)]
     rw [e]; exact hor.append hr
    have hsize:(vo.toArray++vs.toArray++Builtin.zeroCells z.cells (gc - (len+k))).size=gc * i.size:=by
     simp only [Array.size_append,eJ,hzl,List.size_toArray,hvol,hvl]
     rw [← Nat.add_mul, ← Nat.add_mul]
     congr 1; omega
    have hle2:(b.cells++news).length≤gc * i.size:=by
     simp only [List.length_append,hol,hnl, ← Nat.add_mul]
     exact Nat.mul_le_mul_right _ hcap
    have hnp:0<news.length:=by rw [hnl]; exact Nat.mul_pos hpos hsz
    obtain ⟨g1,g2⟩:=R.drew.growNew (el:=el) (ty:=tyo) hbl hlv (R.drew.cur hbl hlv hl) hro hex hgl hty hall hnp hle2 (by omega)
    refine ⟨_,_,_,_,_,_,hk, ?_,g1,g2,hrun⟩
    rw [hbsz]
    exact .sl _ (len+k) none gc _ ⟨w.heap.size,0,gc * i.size,i.size⟩ (by simp [b8]) hcap (by simp) (fun _=>by simp) (fun _ h=>by cases h) (fun _=>rfl)
  ·
   rw [hver] at hl
   have hk0:=R.cur hbl hlv hl
   have e2:=hc hcp
   have emul:(len+k) * i.size=len * i.size+k * i.size:=Nat.add_mul _ _ _
   have hidl:a.id<h.length:=(List.getElem?_eq_some_iff.1 hbl).1
   by_cases hfits:len+k≤c
   ·have hadr := ha (by omega)
    subst hadr
    have hmul:(len+k) * i.size≤c * i.size:=Nat.mul_le_mul_right _ hfits
    have hroom:=R.room hk0 hro (off:=b.cells.length) (n:=vs.length) (by omega)
    have hst:=run_storeCells_cells (P:=P) l.B (l.base+b.cells.length) vs 0 w (by simpa using hroom.1) (by simpa using hroom.2) (fS hr hok)
    simp only [Nat.add_zero] at hst
    have hrun:=oA (ty:=ty) T hlo hfits (hfck w (dY.refl w)) (a:=⟨l.B,l.base+a.off,none⟩) (w2:=w.setCells l.B (l.base+b.cells.length) vs) (by rw [qK,show a.off+len * i.size=b.cells.length by omega]; exact hst)
    obtain ⟨g1,g2⟩:=R.takeOver hbl hlv hk0 hro hr (off:=a.off) (by omega) (by omega)
    have holds:(b.cells.drop a.off).take (len * i.size)=b.cells.drop a.off:=List.take_of_length_le (by simp; omega)
    rw [holds] at hk
    rw [hlsz] at g1 g2
    refine ⟨_,_,_,_,_,_,hk, ?_,g1,g2,hrun⟩
    refine .sl _ (len+k) none c _ ⟨l.B,l.base+a.off,l.cap - a.off,i.size⟩ (by simp [b8]) hfits (by simp only; omega) (fun _=>by simp only; omega) (fun _ h=>by cases h) (fun _=>by simp)
   ·obtain ⟨μ', own', w', cv, h1, h2, h3, h4⟩ := sS (ty := ty) R T rfl hsz hzl (ao := some addr) (sLen := len) (sCap := c) hor hr hol hnl hlo (by omega) h63 hb (tyo := none) (hty := by intro t h; cases h) (hfck _ (dY.drew w)) (hfo _ (dY.drew w))
    have h1':=h1.kill (id:=a.id)
    rw [aBV _ hidl] at h1'
    exact ⟨_,cv,μ',own',_,w',hk,h3,h1',h2,h4⟩
theorem aJE (R : Rel w0 Fz μ own h w) {ts : Array TypeId} {t ty el : TypeId} {d x : AV} {cd cx : Value} {K : AV → aA → Prop} (h0 : ts[0]? = some t) (ht : P.underlying t = some (.slice el)) (hinf : (P.info? el).isSome = true)
  (hd:aX μ d cd) (hx:aX μ x cx) (hk:y2 (P.cellsOf el) d x h K):mN P w0 Fz μ w K (Builtin.copy_ ts ty #[cd,cx]):=by
 obtain ⟨i,hi⟩:=Option.isSome_iff_exists.1 hinf
 have hcs:P.cellsOf el=i.size:=by simp [Program.cellsOf,hi]
 rw [hcs] at hk
 obtain ⟨hsz,hk⟩:=hk
 have hk':=uB (P:=P) R hx hk
 clear hk
 obtain ⟨news,k,vs,hk,hr,hnl,hlo,hfc⟩:=hk'
 have hvl:vs.length=k * i.size:=by rw [← hr.length]; exact hnl
 cases hd <;> first | exact hk.elim | skip
 case sn=>
  refine ⟨_,_,μ,own,h,w,hk,.i _ _,R,Sub.refl _, ?_⟩
  have hf0:=hfc 0 (Nat.zero_le _) w (dY.refl w)
  simp only [Nat.zero_mul,List.take_zero] at hf0
  simp [Builtin.copy_,h0,aW ht,hlo,sizeOf,typeInfo,hi,hf0,goInt]
 case sl a len capo c addr l hl hle hf hc hcs' ha =>
  obtain ⟨b,hbl,hbsz,hrd,hro,hver,hok,hk⟩:=hk
  have hlv:b.floor≤b.cells.length:=Nat.le_trans hrd.1 hrd.2.1
  rw [hver] at hl
  have hk0:=R.cur hbl hlv hl
  have hfm:=hfc (min k len) (Nat.min_le_left _ _) w (dY.refl w)
  have hml:(min k len) * i.size≤len * i.size:=Nat.mul_le_mul_right _ (Nat.min_le_right _ _)
  have hmk:(min k len) * i.size≤k * i.size:=Nat.mul_le_mul_right _ (Nat.min_le_left _ _)
  have hrt:=hr.take (min k len * i.size)
  have hlt:(vs.take (min k len * i.size)).length=min k len * i.size:=by simp; omega
  have hlt2:(news.take (min k len * i.size)).length=min k len * i.size:=by simp; omega
  have hrd3:=hrd.2.2
  have hlen:=hk0.len
  have hst:∃ w2,(storeCells addr (vs.take (min k len * i.size))).run P w = .ok () w2∧Rel w0 Fz μ own (h.set a.id { b with cells:=wr b.cells a.off (news.take (min k len * i.size)),floor:=b.cells.length }) w2:=by
   have hW:=R.write hbl hlv hk0 hro hrt (off:=a.off) (by omega)
   by_cases hm0:min k len * i.size=0
   ·rw [hm0] at hW ⊢
    simp only [List.take_zero] at hW ⊢
    exact ⟨w,rfl,hW⟩
   ·have hc0 : c ≠ 0 := by
     intro h0
     have:len=0:=by omega
     subst this
     simp at hm0
    have hadr:=ha hc0
    subst hadr
    have hroom:=R.room hk0 hro (off:=a.off) (n:=min k len * i.size) (by omega)
    have hst:=run_storeCells_cells (P:=P) l.B (l.base+a.off) (vs.take (min k len * i.size)) 0 w (by rw [hlt]; simpa using hroom.1) (by rw [hlt]; simpa using hroom.2) (fS hrt hok)
    exact ⟨_,hst,by simpa using hW⟩
  obtain ⟨w2,hst,hW⟩:=hst
  refine ⟨_,_,μ,own,_,w2,hk,.i _ _,hW,Sub.refl _, ?_⟩
  have hnm:Nat.min k len=min k len:=rfl
  simp [Builtin.copy_,h0,aW ht,hlo,sizeOf,typeInfo,hi,hnm,hfm,hst,goInt]
end
end Go.GAM
namespace Go.GAM
section
variable {P:Program} {w0:World} {Fz:Nat→Prop} {μ:Mu} {own:Nat→Option Nat} {h:aA} {w:World}
def aII (P:Program) (f:FuncId) (cargs:List Value) (w:World) (post:Value→World→Prop):Prop:=
 (∃ g aq,(callFunc f cargs.toArray).run P w = .ok (.enter g aq) w∧Calls P g aq w fun e w'=>∃ v,e = .returned v∧post v w') ∨
 (∃ v w',(callFunc f cargs.toArray).run P w = .ok (.value v) w'∧post v w')
def iW (w0:World) (Fz:Nat→Prop) (μ:Mu) (K:AV→aA→Prop) (cv:Value) (w':World):Prop:=
 ∃ v μ' own' h',K v h'∧aX μ' v cv∧Rel w0 Fz μ' own' h' w'∧Sub μ μ'
abbrev FR (r:Option Nat):Fence:={ fn:=fun _=>True,depth:=none,alive:=false,round:=r }
def aEH (P:Program) (l:Nat) (cargs:List Value) (w:World) (post:Value→World→Prop):Prop:=
 ∃ f tmps assign body,(Instr.yield l cargs.toArray).run P w = .ok (.round l f tmps assign body) w∧RoundIn (FR none) 0 P l f tmps assign body w fun e w'=>∃ v,e = .returned v∧post v w'
def aKH (P : Program) (w0 : World) (Fz : Nat → Prop) (μb : Mu) (f : FuncId) (args : List AV) (h : aA) (K : AV → aA → Prop) : Prop :=
 ∀ (μ : Mu) (own : Nat → Option Nat) (w : World) (cargs : List Value), Sub μb μ → Rel w0 Fz μ own h w → VRels μ args cargs →
  if f<yid0 then aII P f cargs w (iW w0 Fz μ K) else aEH P (f - yid0) cargs w (iW w0 Fz μ K)
theorem tB (zs:List AV):∀ (n j:Nat),j<n * zs.length→(List.replicate n zs).flatten.getD j .u=zs.getD (j % zs.length) .u
 | 0,j,h=>by simp at h
 | n + 1, j, h => by
  rw [List.replicate_succ,List.flatten_cons]
  by_cases hj:j<zs.length
  ·rw [List.getD_eq_getElem?_getD,List.getElem?_append_left hj,Nat.mod_eq_of_lt hj,List.getD_eq_getElem?_getD]
  ·rw [List.getD_eq_getElem?_getD, List.getElem?_append_right (by omega), ← List.getD_eq_getElem?_getD, tB zs n (j - zs.length) (by rw [Nat.add_mul] at h; omega)]
   congr 1
   conv=>rhs; rw [Nat.mod_eq_sub_mod (by omega)]
theorem aAI {zs:List AV} {z:Array Value} (hz:VRels μ zs z.toList) (n:Nat) (hs:0<zs.length):VRels μ (List.replicate n zs).flatten ((Array.range (n * zs.length)).map (z[· % z.size]!)).toList:=by
 have hl:=hz.length
 refine VRels.of_get (by simp) fun j hj=>?_
 have hj':j<n * zs.length:=by simpa using hj
 have hm:j % zs.length<zs.length:=Nat.mod_lt _ hs
 obtain ⟨v,h1,h2⟩:=hz.get? hm
 refine ⟨v, ?_,by rw [tB zs n j hj']; exact h2⟩
 have hzs:z.size=zs.length:=by simpa using hl.symm
 have hg:z[j % z.size]! = v:=by
  rw [hzs]
  have hlt:j % zs.length<z.size:=by omega
  rw [getElem!_pos z _ hlt]
  have:z.toList[j % zs.length]? = some z[j % zs.length]:=by simp [hlt]
  exact Option.some.inj (this.symm.trans h1)
 simp [hj',hg]
theorem aA3 (R : Rel w0 Fz μ own h w) {t : TypeId} {K : AV → aA → Prop} (hk : tL h K) : mN P w0 Fz μ w K (Instr.makeMap t none) := by
 have hnone:∀ ver,μ h.length ver=none:=fun ver=>by
  cases hm:μ h.length ver with
  | none=>rfl
  | some l=>obtain ⟨b,hb,_⟩:=R.mulen _ _ _ hm; simp at hb
 have hs:Sub μ (b8 μ h.length 0 ⟨w.heap.size,0,0,1⟩):=jW (hnone _)
 refine ⟨_,.map (some w.heap.size),b8 μ h.length 0 ⟨w.heap.size,0,0,1⟩,cQ own w.heap.size h.length,_,w.alloc (.map #[] 0),hk,.mp h.length ⟨w.heap.size,0,0,1⟩ (by simp [b8]), ?_,hs, ?_⟩
 ·refine R.step rfl rfl rfl (by simp) (fun B hB => cE w _ (Nat.lt_of_lt_of_le (R.fz B hB).1 R.size0)) ?_ hs ?_ ?_
  ·intro B id hB
   unfold cQ at hB
   split at hB
   ·subst_vars; simp
   ·have:=R.ownlt B id hB; simp; omega
  ·intro id ver l hl
   unfold b8 at hl
   split at hl
   ·rename_i hc'
    obtain ⟨rfl,rfl⟩:=hc'
    exact ⟨fX [],by simp,fun _=>Nat.zero_le _⟩
   ·obtain ⟨b, hb, hl2⟩ := R.mulen _ _ _ hl
    have:id<h.length:=(List.getElem?_eq_some_iff.1 hb).1
    exact ⟨b,by rw [List.getElem?_append_left this]; exact hb,hl2⟩
  ·intro id b hb
   by_cases hid:id<h.length
   ·rw [List.getElem?_append_left hid] at hb
    refine .inl ⟨hb,fun ver=>by unfold b8; rw [if_neg (by omega)],fun B hB=>?_⟩
    have hlt:=R.ownlt B id hB
    exact ⟨by unfold cQ; rw [if_neg (by omega)]; exact hB,cE w _ hlt⟩
   ·rw [List.getElem?_append_right (by omega)] at hb
    have hid':id=h.length:=by
     obtain ⟨hlt,_⟩:=List.getElem?_eq_some_iff.1 hb
     simp at hlt; omega
    subst hid'
    simp at hb
    subst hb
    refine .inr ⟨fun hlv=>by simp [fX] at hlv,fun es he=>?_⟩
    simp only [fX,Option.some.injEq] at he
    subst he
    refine ⟨⟨w.heap.size,0,0,1⟩,by simp [b8],by simp [cQ],fun hF=>?_, #[],0,gB w _,.nil⟩
    have h1:w.heap.size<w0.heap.size:=(R.fz _ hF).1
    have:=R.size0; omega
 ·simp [Instr.makeMap,newObj,Sem.run]
theorem eU.app {μ:Mu} {k v:AV} {e:MapEntry} (hk:aX μ k e.key) (hv:aX μ v e.val):∀ {es ents},eU μ es ents→eU μ (es++[(k,v)]) (ents++[e])
 | _,_,.nil=>.cons _ _ _ _ _ hk hv .nil
 | _,_,.cons k' v' e' es ents hk' hv' t=>.cons _ _ _ _ _ hk' hv' (eU.app hk hv t)
theorem eU.set {μ:Mu} {k v:AV} {e:MapEntry} (hk:aX μ k e.key) (hv:aX μ v e.val):∀ {es ents} (i:Nat),eU μ es ents→eU μ (es.set i (k,v)) (ents.set i e)
 | _,_,_,.nil=>.nil
 | _,_,0,.cons k' v' e' es ents hk' hv' t=>.cons _ _ _ _ _ hk hv t
 | _,_,i+1,.cons k' v' e' es ents hk' hv' t=>.cons _ _ _ _ _ hk' hv' (eU.set hk hv i t)
theorem eU.at {μ:Mu}:∀ {es ents} {i:Nat} {k v:AV},eU μ es ents→es[i]? = some (k,v)→∃ e,ents[i]? = some e∧aX μ k e.key
 | _,_,i,k,v,.nil,h=>by simp at h
 | _,_,0,k,v,.cons k' v' e' es ents hk' hv' t,h=>by simp at h; obtain ⟨rfl,rfl⟩:=h; exact ⟨e',rfl,hk'⟩
 | _,_,i+1,k,v,.cons k' v' e' es ents hk' hv' t,h=>eU.at (i:=i) t (by simpa using h)
theorem y8 {k:AV} (h:aB5 k=true):k.pure=true:=by
 have key:∀ v,xA v=true→v.leaf=true:=by
  intro v hv; cases v <;> first | rfl | (simp [xA] at hv)
 cases k <;> simp only [aB5] at h <;> first | exact key _ h | (simp [xA] at h; done) | skip
 simp only [AV.pure]
 rw [List.all_eq_true] at h ⊢
 exact fun x hx=>key x (h x hx)
theorem rW {v:AV} (h:xA v=true) (n:Nat):Instr.sameBits n (fB v) (fB v)=true:=by
 cases v <;> first | (simp [xA] at h; done) | skip
 all_goals simp only [fB,Instr.sameBits,beq_self_eq_true,Bool.and_self]
 rw [beq_toListBytes]; simp
theorem aBO {k:AV} (h:aB5 k=true):Instr.sameBits 10000 (aLZ k) (aLZ k)=true:=by
 cases k <;> simp only [aB5] at h <;> first | exact rW h 10000 | skip
 rename_i cs
 simp only [aLZ]
 unfold Instr.sameBits
 simp only [beq_self_eq_true,Bool.true_and]
 rw [List.all_eq_true] at h
 rw [List.all_eq_true]
 rintro ⟨x,y⟩ hxy
 have:∀ (l:List AV),(∀ v∈l,xA v=true)→∀ p∈(l.map fB).zip (l.map fB),Instr.sameBits 9999 p.1 p.2=true:=by
  intro l
  induction l with
  | nil=>intro _ p hp; simp at hp
  | cons v l ih =>
   intro hl p hp
   simp only [List.map_cons,List.zip_cons_cons,List.mem_cons] at hp
   rcases hp with rfl | hp
   ·exact rW (hl v (by simp)) 9999
   ·exact ih (fun v hv=>hl v (by simp [hv])) p hp
 exact this cs h (x,y) hxy
theorem tJ (R : Rel w0 Fz μ own h w) {t kt el : TypeId} (ht : P.underlying t = some (.map kt el)) (hkt : aBH P kt = true) {x k v : AV} {cx ck cv : Value} (hx : aX μ x cx) (hkr : aX μ k ck) (hvr : aX μ v cv) {K : aA → Prop} (hk : nY P kt x k v h K) :
    ∃ h' w',K h'∧Rel w0 Fz μ own h' w'∧(Instr.mapUpdate t cx ck cv).run P w = .ok () w':=by
  unfold nY at hk
  cases hx <;> first | exact hk.elim | skip
  case mp id l hl =>
    obtain ⟨hkv,hkp,b,es,hb,hes,hk⟩:=hk
    obtain ⟨l',m1,m2,m3,ents,clock,m4,m5⟩:=R.maps id b _ hb hes
    rw [hl] at m1; cases m1
    have hlt:l.B<w.heap.size:=(Array.getElem?_eq_some_iff.1 m4).1
    have hid:id<h.length:=(List.getElem?_eq_some_iff.1 hb).1
    have hg:(getObj l.B).run P w = .ok (.map ents clock) w:=by simp [getObj,Sem.run,m4]
    have hset:∀ o,(setObj l.B o).run P w = .ok () (w.putObj l.B o):=fun o=>by simp [setObj,Sem.run,m4,World.putObj]
    have hck:=uE (P:=P) hkt hkv hkr
    have rel:∀ (es':List (AV × AV)) (ents':Array MapEntry) (clock':Nat),eU μ es' ents'.toList→Rel w0 Fz μ own (h.set id (fX es')) (w.putObj l.B (.map ents' clock')):=by
      intro es' ents' clock' hm
      refine R.step rfl rfl rfl (by simp) (fun B hB=>World.putObj_heap_other (fun e=>m3 (e ▸ hB))) (fun B i hB=>by simpa using R.ownlt B i hB) (Sub.refl _) ?_ ?_
      · intro i ver lx hlx
        obtain ⟨b',hb',hle⟩:=R.mulen _ _ _ hlx
        by_cases hi:i=id
        · subst hi
          exact ⟨fX es',List.getElem?_set_self hid,fun hf=>by simp [fX] at hf⟩
        · exact ⟨b',by rw [List.getElem?_set_ne (Ne.symm hi)]; exact hb',hle⟩
      · intro i b' hb'
        by_cases hi:i=id
        · subst hi
          rw [List.getElem?_set_self hid] at hb'
          cases hb'
          refine .inr ⟨fun hlv=>by simp [fX] at hlv,fun es2 he=>?_⟩
          simp only [fX,Option.some.injEq] at he
          subst he
          exact ⟨l,hl,m2,m3,ents',clock',World.putObj_heap_same hlt,hm⟩
        · rw [List.getElem?_set_ne (Ne.symm hi)] at hb'
          refine .inl ⟨hb',fun _=>rfl,fun B hB=>⟨hB,World.putObj_heap_other fun e=>?_⟩⟩
          subst e
          exact hi (Option.some.inj (m2.symm.trans hB)).symm
    cases hf:sB P kt k es 0 with
    | none=>rw [hf] at hk; exact hk.elim
    | some r =>
      rw [hf] at hk
      obtain ⟨cr,c1,c2⟩:=pQ hkt hkr m5 hf
      cases r with
      | none =>
        cases cr with
        | some p=>exact c2.elim
        | none =>
          refine ⟨_,_,hk,rel _ (ents.push { key:=ck,val:=cv,born:=clock }) (clock+1) (by rw [Array.toList_push]; exact eU.app hkr hvr m5), ?_⟩
          unfold Instr.mapUpdate
          simp [aW ht,hg,hck,c1,hset]
      | some p =>
        obtain ⟨i,v1⟩:=p
        obtain ⟨⟨v0,hi⟩,hk⟩:=hk
        cases cr with
        | none=>exact c2.elim
        | some q =>
          obtain ⟨j,cv1⟩:=q
          obtain ⟨rfl,_⟩:=c2
          obtain ⟨e,he1,he2⟩:=eU.at m5 hi
          have he:ents[i]? = some e:=by simpa using he1
          have hold:e.key=aLZ k:=he2.pure_eq (y8 hkp)
          have hnew:ck=aLZ k:=hkr.pure_eq (y8 hkp)
          have hst:(Instr.keyThatStays e.key ck).run P w = .ok ck w:=by
            unfold Instr.keyThatStays
            rw [hold,hnew,aBO hkp]
            simp
          have hm:eU μ (es.set i (k,v)) (ents.modify i fun e=>{ e with key:=ck,val:=cv }).toList:=by
            have e1:(ents.modify i fun e=>{ e with key:=ck,val:=cv }).toList=ents.toList.set i { e with key:=ck,val:=cv }:=by
              apply List.ext_getElem?
              intro j
              rw [List.getElem?_set,Array.getElem?_toList,Array.getElem?_modify,Array.getElem?_toList]
              by_cases hij:i=j
              · subst hij
                rw [if_pos rfl,he]
                have:i<ents.size:=(Array.getElem?_eq_some_iff.1 he).1
                simp [this]
              · rw [if_neg hij,if_neg hij]
            rw [e1]
            exact eU.set hkr hvr i m5
          refine ⟨_,_,hk,rel _ _ clock hm, ?_⟩
          unfold Instr.mapUpdate
          simp [aW ht,hg,hck,c1,hset,he,hst]
theorem aGG (R:Rel w0 Fz μ own h w) {t:TypeId} {zs:List AV} {K:AV→aA→Prop} (hz:eW P t=some zs) {tyo:Option TypeId} (hty:∀ x,tyo=some x→x=t) (hk:eK tyo zs h K):mN P w0 Fz μ w K (Instr.alloc t true (.tuple #[])):=by
 obtain ⟨i,z,hi,hzz,hzr⟩:=mF hz μ
 have hl:=hzr.length
 obtain ⟨A1,A2,A3⟩:=R.alloc (cells:=zs) (sz:=1) (cap:=zs.length) (ex:=true) (c:=z.cells) (el:=t) (fr:=(0,0)) (ty:=tyo) (hty:=hty) (by rw [List.take_of_length_le (by omega)]; exact hzr) (Nat.le_refl _) (by simp at hl; omega) (fun _=>rfl) (by simp)
 refine ⟨_,.pointer (some ⟨w.heap.size,0,none⟩),_,_,_,_,hk,.p ⟨h.length,zs.length,0⟩ ⟨w.heap.size,0,zs.length,1⟩ 0 A3 rfl,A1,A2, ?_⟩
 simp [Instr.alloc,uX hi hzz,newVar,newRow]
theorem aL6 (R:Rel w0 Fz μ own h w) {t:TypeId} {x:AV} {cx:Value} {K:AV→aA→Prop} (hx:aX μ x cx) {tyo:Option TypeId} (hty:∀ x,tyo=some x→x=t) (hk:dS tyo x h K):mN P w0 Fz μ w K (Instr.box t cx):=by
 obtain ⟨hs,hk⟩:=hk
 have hp:=vO hx hs
 have hl:=hp.length
 obtain ⟨A1,A2,A3⟩:=R.alloc (cells:=x.parts) (sz:=1) (cap:=x.parts.length) (ex:=true) (c:=cx.cells) (el:=t) (fr:=(0,0)) (ty:=tyo) (hty:=hty) (by rw [List.take_of_length_le (by omega)]; exact hp) (Nat.le_refl _) (by simp at hl; omega) (fun _=>rfl) (by simp)
 refine ⟨_,.pointer (some ⟨w.heap.size,0,none⟩),_,_,_,_,hk,.p ⟨h.length,x.parts.length,0⟩ ⟨w.heap.size,0,x.parts.length,1⟩ 0 A3 rfl,A1,A2, ?_⟩
 simp [Instr.box,newVar,newRow]
theorem aHH (R:Rel w0 Fz μ own h w) {t:TypeId} {r:Bool} {x v:AV} {cx cv:Value} {K:aA→Prop} (ht:dN P t=some r) (hx:aX μ x cx) (hv:aX μ v cv) (hk:aP (P.cellsOf t) x v h K) :
  ∃ h' w',K h'∧Rel w0 Fz μ own h' w'∧(Instr.storeAt t cx cv).run P w = .ok () w':=by
 obtain ⟨d,hd⟩:=(dF ht default).2
 cases hx <;> first | exact hk.elim | skip
 rename_i a l o hl ho
 subst ho
 obtain ⟨b,hb,hro,hfv,hver,hoff,hso,hlen,hok,hk⟩:=hk
 have hlv:b.floor≤b.cells.length:=by omega
 rw [hver] at hl
 have hk0:=R.cur hb hlv hl
 have hp:=vO hv hso
 have hpl:=hp.length
 have hroom:=R.room hk0 hro (off:=a.off) (n:=v.parts.length) (by have:=hk0.len; omega)
 have hst:=run_storeCells_cells (P:=P) l.B (l.base+a.off) cv.cells.toList 0 w (by rw [← hpl]; simpa using hroom.1) (by rw [← hpl]; simpa using hroom.2) (fS hp hok)
 have hsz:cv.cells.size=P.cellsOf t:=by simp at hpl; omega
 refine ⟨_,_,hk,R.write hb hlv hk0 hro hp (off:=a.off) (by omega), ?_⟩
 simp [Instr.storeAt,Instr.sureAddr,storeVar,kM hd,hsz,hst]
theorem aP9 {t x:TypeId} (h:tyS P t=some x):x=t:=by
 unfold tyS at h; split at h <;> cases h; rfl
theorem aPH {t x:TypeId} (h:tyB P t=some x):x=t:=by
 unfold tyB at h; split at h <;> cases h; rfl
theorem yK (R:Rel w0 Fz μ own h w) {x:AV} {cx:Value} {ts:Array TypeId} {t:TypeId} {K:AV→aA→Prop} (hx:aX μ x cx) (hk:iA x h K):mN P w0 Fz μ w K (Builtin.unsafeSliceData_ ts t #[cx]):=by
 cases hx <;> first | exact hk.elim | skip
 case sn=>exact ⟨_,_,μ,own,h,w,hk,.pn,R,Sub.refl _,rfl⟩
 case sl a len capo c addr l hl hle hf hc hcs' ha=>
  obtain ⟨h0,hk⟩:=hk
  have hc0:c≠0:=by omega
  have hadr:=ha hc0
  subst hadr
  obtain ⟨k,rfl⟩:∃ k,c=k+1:=⟨c - 1,by omega⟩
  exact ⟨_,_,μ,own,h,w,hk,.p a l _ hl rfl,R,Sub.refl _,rfl⟩
theorem aMN (R : Rel w0 Fz μ own h w) {x : AV} {cx : Value} {ts : Array TypeId} {t ty el : TypeId} {sz : Nat} {K : AV → aA → Prop} (h0 : ts[0]? = some t) (ht : P.underlying t = some (.slice el)) (hx : aX μ x cx) (hk : aRI sz x h K) : mN P w0 Fz μ w K (Builtin.cap_ ts ty #[cx]) := by
 have run:∀ (ad:Option Addr) (l c:Nat),(Builtin.cap_ ts ty #[.slice ad l c]).run P w = .ok (.int .i64 c) w:=fun ad l c=>by simp [Builtin.cap_,h0,aW ht,goInt]
 cases hx <;> first | exact hk.elim | skip
 case sn=>exact ⟨_,_,μ,own,h,w,hk,.i _ _,R,Sub.refl _,run _ _ _⟩
 case sl a len capo c addr l hl hle hf hc hcs ha =>
  cases capo with
  | some k =>
   have:=hcs k rfl
   subst this
   exact ⟨_,_,μ,own,h,w,hk,.i _ _,R,Sub.refl _,run _ _ _⟩
  | none =>
   rcases hk with ⟨b,c',hb,hlv,hex,hver,hsz,hpos,he,hk⟩ | hk
   ·rw [hver] at hl
    have hk0:=R.cur hb hlv hl
    have e1:=hk0.ex hex
    have e2:=hc rfl
    have e3:=hk0.sz
    have:c=c':=by
     rw [e1,e3,hsz] at e2
     exact Nat.eq_of_mul_eq_mul_right hpos (by omega)
    subst this
    exact ⟨_,_,μ,own,h,w,hk,.i _ _,R,Sub.refl _,run _ _ _⟩
   ·exact ⟨_,_,μ,own,h,w,hk c hle,.i _ _,R,Sub.refl _,run _ _ _⟩
theorem aIE {e e':TypeId} (h1:P.underlying e=some (.int .u8)) (h2:P.underlying e'=some (.int .u8)) (hc:P.cellsOf e=1) (count off n:Nat) (hn:off+n≤count):liesAt P P.depth e count off e' n=true:=by
 have hd:P.depth=(2 * (P.types.size+Made.depth)+1)+1:=rfl
 rw [hd]
 simp only [liesAt,Bool.or_eq_true]
 left
 rw [hd]
 simp [rowAt,hc,hn,sameLayout,h1,h2,Nat.mod_one]
theorem Rel.freeze (R : Rel w0 Fz μ own h w) {id : Nat} {b : ABlk} {l : Loc} (hb : h[id]? = some b) (hlv : b.floor ≤ b.cells.length) (hk : oG w Fz μ own id b l) (hro : b.ro = false) (o n : Nat) :
  Rel w0 Fz μ own (h.set id { b with ro:=true }) (w.freeze ⟨l.B,o,none⟩ n):=by
 have hid:id<h.length:=(List.getElem?_eq_some_iff.1 hb).1
 have hother:∀ B,B≠l.B→(w.freeze ⟨l.B,o,none⟩ n).heap[B]? = w.heap[B]?:=fun B hB=>by
  unfold World.freeze
  split
  ·rfl
  ·simp [Array.getElem?_modify,Ne.symm hB]
 have hsz:(w.freeze ⟨l.B,o,none⟩ n).heap.size=w.heap.size:=by
  unfold World.freeze; split <;> simp
 have hrow:∀ c el fr,w.heap[l.B]? = some (.cells c el fr)→∃ fr',(w.freeze ⟨l.B,o,none⟩ n).heap[l.B]? = some (.cells c el fr'):=fun c el fr h=>by
  unfold World.freeze
  split
  ·exact ⟨fr,h⟩
  ·simp [Array.getElem?_modify,h]
 have hcell:∀ a:Addr,(w.freeze ⟨l.B,o,none⟩ n).cell? a=w.cell? a:=fun a=>by
  by_cases hB:a.block=l.B
  ·obtain ⟨c, el, fr, h1, _⟩ := hk.row
   obtain ⟨fr',h2⟩:=hrow c el fr h1
   simp only [World.cell?,hB,h1,h2]
  ·simp only [World.cell?,hother _ hB]
 refine R.step (by unfold World.freeze; split <;> rfl) (by unfold World.freeze; split <;> rfl) (by unfold World.freeze; split <;> rfl) (by rw [hsz]; exact Nat.le_refl _) (fun B hB=>hother B (fun e=>hk.ro hro (e ▸ hB))) (fun B i hB=>by rw [hsz]; exact R.ownlt B i hB) (Sub.refl _) ?_ ?_
 ·intro i ver lx hlx
  obtain ⟨b',hb',hle⟩:=R.mulen _ _ _ hlx
  by_cases hi:i=id
  ·subst hi
   rw [hb] at hb'; cases hb'
   exact ⟨_,List.getElem?_set_self hid,hle⟩
  ·exact ⟨b',by rw [List.getElem?_set_ne (Ne.symm hi)]; exact hb',hle⟩
 ·intro i b' hb'
  by_cases hi:i=id
  ·subst hi
   rw [List.getElem?_set_self hid] at hb'
   cases hb'
   obtain ⟨c,el,fr,h1,h2⟩:=hk.row
   obtain ⟨fr',h3⟩:=hrow c el fr h1
   refine .inr ⟨fun hlv2=>⟨l,{ cur:=hk.cur,owned:=hk.owned,sz:=hk.sz,len:=hk.len,ex:=hk.ex,ro:=fun hr=>by simp at hr,gl:=hk.gl,nomap:=hk.nomap,tyok:=fun t ht=>?_,row:=⟨c,el,fr',h3,h2⟩,free:=fun hr=>by simp at hr,vers:=fun ver g1 g2 l' hl'=>?_ }⟩,fun es he=>?_⟩
   ·obtain ⟨t1, c2, fr2, t2⟩ := hk.tyok t ht
    rw [h1] at t2; cases t2
    exact ⟨t1,c,fr',h3⟩
   ·have hv := hk.vers ver g1 g2 l' hl'
    refine { hv with cells:=fun j hj=>?_ }
    obtain ⟨cv,e1,e2⟩:=hv.cells j hj
    exact ⟨cv,by rw [hcell]; exact e1,e2⟩
   ·have he:=hk.nomap.symm.trans he; cases he
  ·rw [List.getElem?_set_ne (Ne.symm hi)] at hb'
   refine .inl ⟨hb',fun _=>rfl,fun B hB=>⟨hB,hother B fun e=>?_⟩⟩
   subst e
   have:=hk.owned.symm.trans hB
   exact hi (Option.some.inj this).symm
theorem rX:∀ (l:List UInt8) (a:Addr) (acc:ByteArray),a.spot=none→(∀ j x,l[j]? = some x→∃ n:Int,w.cell? ⟨a.block,a.off+j,none⟩=some (.int .u8 n)∧n.toNat.toUInt8=x)→(loadBytes a acc l.length).run P w = .ok ⟨acc.data++l.toArray⟩ w
 | [],a,acc,_,_=>by simp [loadBytes]
 | x :: l, ⟨B, o, sp⟩, acc, hs, h => by
  simp only at hs; subst hs
  obtain ⟨n,h0,hn⟩:∃ n:Int,w.cell? ⟨B,o,none⟩=some (.int .u8 n)∧n.toNat.toUInt8=x:=by simpa using h 0 x rfl
  have ih:=rX l ⟨B,o+1,none⟩ (acc.push x) rfl fun j y hj=>by
   have:=h (j+1) y (by simpa using hj)
   simp only at this ⊢
   rwa [show o+1+j=o+(j+1) by omega]
  simp only [List.length_cons,loadBytes]
  simp [h0,Addr.add,hn,ih]
theorem aBM (R : Rel w0 Fz μ own h w) {x n : AV} {cx cn : Value} {pt it ty u : TypeId} {K : AV → aA → Prop} (hp : P.underlying pt = some (.pointer u)) (hu : P.underlying u = some (.int .u8)) (hx : aX μ x cx) (hn : aX μ n cn)
  (hk:mH P x n h K):mN P w0 Fz μ w K (Builtin.unsafeString_ #[pt,it] ty #[cx,cn]):=by
 have hmax:IntKind.i64.max=9223372036854775807:=rfl
 cases hx <;> first | exact hk.elim | skip
 case pn =>
  cases hn <;> first | exact hk.elim | skip
  obtain ⟨rfl,hk⟩:=hk
  rename_i k
  refine ⟨_,.string .empty,μ,own,h,w,hk,.s [] _ rfl,R,Sub.refl _, ?_⟩
  have hdef:Builtin.unsafeString_ #[pt,it] ty #[.pointer none,.int k 0] =
    (do
     let n ← asInt (.int k 0)
     if n<0 then runtimePanic (.error "unsafe.String: len out of range")
     if n > IntKind.i64.max then unsupported (.unsafePointer "String: a length above the largest int")
     if n=0 then pure (.string .empty)
     else runtimePanic (.error "unsafe.String: ptr is nil and len is not zero")):=rfl
  rw [hdef]
  simp [asInt,asIntOf,hmax]
 case p a l o hl ho=>
  cases hn <;> first | exact hk.elim | skip
  rename_i k m
  subst ho
  obtain ⟨b,t,hb,ht,hbt,hc1,hpos,h63,hro,hlv,hver,hoff,hall,hk⟩:=hk
  rw [hver] at hl
  have hk0:=R.cur hb hlv hl
  obtain ⟨hb0,c,fr,hrow⟩:=hk0.tyok t ht
  have hcs:b.cells.length≤c.size:=by
   obtain ⟨c',el,fr',hr',hsz⟩:=hk0.row
   rw [hrow] at hr'; cases hr'
   have:=hk0.len; omega
  have hv:=hk0.vers _ hlv (Nat.le_refl _) _ hk0.cur
  obtain ⟨N,rfl⟩:∃ N:Nat,m=N:=⟨m.toNat,by omega⟩
  simp only [Int.toNat_natCast] at *
  obtain ⟨bs,hbs⟩:∃ bs,bs=((b.cells.drop a.off).take N).map toByte:=⟨_,rfl⟩
  have hbl:bs.length=N:=by rw [hbs]; simp; omega
  have hcell:∀ j x,bs[j]? = some x→∃ n:Int,w.cell? ⟨l.B,l.base+a.off+j,none⟩=some (.int .u8 n)∧n.toNat.toUInt8=x:=fun j x hj=>by
   have hjN:j<N:=by rw [← hbl]; exact (List.getElem?_eq_some_iff.1 hj).1
   obtain ⟨cv,e1,e2⟩:=hv.cells (a.off+j) (by omega)
   rw [show l.base+a.off+j=l.base+(a.off+j) by omega,e1]
   have hg:b.cells[a.off+j]? = some (b.cells.getD (a.off+j) .u):=by
    rw [List.getD_eq_getElem?_getD,List.getElem?_eq_getElem (by omega)] <;> rfl
   generalize b.cells.getD (a.off+j) .u=av at *
   have hin:((b.cells.drop a.off).take N)[j]? = some av:=by
    rw [List.getElem?_take_of_lt hjN,List.getElem?_drop]; exact hg
   have hb1:nW av=true:=by
    rw [List.all_eq_true] at hall
    exact hall av (List.mem_of_getElem? hin)
   rw [hbs,List.getElem?_map,hin] at hj
   simp only [Option.map_some,Option.some.injEq] at hj
   subst hj
   cases e2 <;> first | (cases hb1; done) | skip
   rename_i k' n'
   cases k' <;> first | (cases hb1; done) | skip
   exact ⟨n',rfl,rfl⟩
  have hlies:=aIE (P:=P) hbt hu hc1 (c.size / P.cellsOf t) (l.base+a.off) N (by rw [hc1,hb0]; simp; omega)
  have hlb:=rX (P:=P) (w:=w) bs ⟨l.B,l.base+a.off,none⟩ .empty rfl hcell
  rw [hbl] at hlb
  have hsh:w.shape? l.B=some (t,c.size):=by simp [World.shape?,hrow]
  rw [← hbs] at hk
  refine ⟨_,.string ⟨bs.toArray⟩,μ,own,_,_,hk,.s bs _ (by simp),R.freeze hb hlv hk0 hro (l.base+a.off) N,Sub.refl _, ?_⟩
  have h63':¬ (9223372036854775807:Int)<(N:Int):=by omega
  have hneg:¬ (N:Int)<0:=by omega
  have hN0:N≠0:=by omega
  have hdef:Builtin.unsafeString_ #[pt,it] ty #[.pointer (some ⟨l.B,l.base+a.off,none⟩),.int k N] =
   (do
    let n ← asInt (.int k N)
    if n<0 then runtimePanic (.error "unsafe.String: len out of range")
    if n > IntKind.i64.max then unsupported (.unsafePointer "String: a length above the largest int")
    if n=0 then pure (.string .empty)
    else if ← variablesAt ⟨l.B,l.base+a.off,none⟩ (← elemOf pt) n.toNat then do
     let s ← loadBytes ⟨l.B,l.base+a.off,none⟩ .empty n.toNat
     freeze ⟨l.B,l.base+a.off,none⟩ n.toNat
     pure (.string s)
    else unsupported (.unsafePointer "String: not so many bytes at ptr")):=rfl
  rw [hdef]
  simp [asInt,asIntOf,hmax,h63',hneg,hN0,variablesAt,hsh,elemOf,aW hp,hlies,hlb]
theorem aI7 (R:Rel w0 Fz μ own h w) {t el:TypeId} {zs:List AV} {l c:AV} {cl cc:Value} {K:AV→aA→Prop} (ht:P.underlying t=some (.slice el)) (hz:eW P el=some zs) (hl:aX μ l cl) (hc:aX μ c cc)
  (hk:xF (P.cellsOf el) (P.bytesOf el) zs l c h K):mN P w0 Fz μ w K (Instr.makeSlice t cl cc):=by
 obtain ⟨i,z,hi,hzz,hzr⟩:=mF hz μ
 have hcs:P.cellsOf el=i.size:=by simp [Program.cellsOf,hi]
 have hbs:P.bytesOf el=i.bytes:=by simp [Program.bytesOf,hi]
 rw [hcs,hbs] at hk
 cases hl <;> first | exact hk.elim | skip
 cases hc <;> first | exact hk.elim | skip
 rename_i kl nl kc nc
 obtain ⟨h0,h1,h2,h3,h4,h5,hk⟩:=hk
 have hrun:=run_make (P:=P) w t el i z ht hi hzz kl kc nl nc h0 h1 h2 h3
 have hr:=aAI hzr nc.toNat (by omega)
 rw [h4] at hr
 have hlen:(List.replicate nc.toNat zs).flatten.length=nc.toNat * i.size:=by simp [h4]
 obtain ⟨A1,A2,A3⟩:=R.alloc (cells:=(List.replicate nc.toNat zs).flatten) (sz:=i.size) (cap:=nc.toNat * i.size) (ex:=true) (c:=madeCells z.cells (nc.toNat * i.size)) (el:=el) (fr:=(0,0)) (ty:=none)
  (by rw [List.take_of_length_le (by rw [hlen]; simp [size_madeCells])]; exact hr) (by omega) (by rw [size_madeCells]; omega) (fun _=>hlen.symm) (by simp)
 rw [hlen] at A1 A2 A3
 refine ⟨_,_,_,_,_,_,hk, ?_,A1,A2,hrun⟩
 exact .sl _ _ none nc.toNat _ _ A3 (by omega) (by simp) (fun _=>by simp) (fun _ h=>by cases h) (fun _=>rfl)
theorem aIU (R : Rel w0 Fz μ own h w) {t tx ty el : TypeId} {kn : IntKind} {zs : List AV} {s x : AV} {cs cx : Value} {K : AV → aA → Prop} (ht : P.underlying t = some (.slice el)) (htx : P.underlying tx = some (.int kn)) (hz : eW P el = some zs)
  (hs:aX μ s cs) (hx:aX μ x cx) {tyo:Option TypeId} (hty:∀ t,tyo=some t→t=el) (hk:uT tyo (P.cellsOf el) (P.bytesOf el) zs s x h K):mN P w0 Fz μ w K (Builtin.append_ #[t,tx] ty #[cs,cx]):=by
 obtain ⟨i,z,hi,hzz,hzr⟩:=mF hz μ
 have hcs:P.cellsOf el=i.size:=by simp [Program.cellsOf,hi]
 have hbs:P.bytesOf el=i.bytes:=by simp [Program.bytesOf,hi]
 rw [hcs,hbs] at hk
 unfold uT at hk
 cases hs <;> first | exact hk.elim | skip
 case sn=>
  cases hx <;> first | exact hk.elim | skip
  rename_i k n
  cases k <;> first | exact hk.elim | skip
  obtain ⟨h0,h1,h2,h3,h4,hk⟩:=hk
  obtain ⟨m,rfl⟩:∃ m:Nat,n=(m:Int):=⟨n.toNat,by omega⟩
  rw [Int.toNat_natCast] at hk
  have hb:m * i.bytes≤281474976710656:=by
   have:((m * i.bytes:Nat):Int)≤140737488355328:=by rw [Int.natCast_mul]; exact h1
   omega
  have hrun:=Lib.run_append_nil_zeros (P:=P) w t tx ty el i z .i64 kn ht htx hi hzz m (by omega) h3 (by omega) hb
  have hcap:=k8 w m 0 el
  generalize grownCap w m 0 el=gc at *
  have hzl:z.cells.size=i.size:=by
   have h1:=hzr.length
   simp at h1
   omega
  have hr:=aAI hzr m (by omega)
  rw [h4] at hr
  have hlen:(List.replicate m zs).flatten.length=m * i.size:=by simp [h4]
  have hzc:(Array.range (m * i.size)).map (z.cells[· % z.cells.size]!)=Builtin.zeroCells z.cells m:=by unfold Builtin.zeroCells; rw [hzl]
  rw [hzc] at hr
  have hmul:m * i.size≤gc * i.size:=Nat.mul_le_mul_right _ hcap
  obtain ⟨A1,A2,A3⟩:=R.drew.alloc (cells:=(List.replicate m zs).flatten) (sz:=i.size) (cap:=gc * i.size) (ex:=false) (c:=Builtin.zeroCells z.cells m++Builtin.zeroCells z.cells (gc - m)) (el:=el) (fr:=(0,0)) (ty:=tyo)
   (by
    have e1:(Builtin.zeroCells z.cells m).toList.length=m * i.size:=by rw [Array.length_toList,eJ,hzl]
    rw [Array.toList_append,hlen,List.take_append_of_le_length (by omega),List.take_of_length_le (by omega)]
    exact hr)
   (by omega) (by rw [Array.size_append,eJ,eJ,hzl, ← Nat.add_mul]; exact Nat.mul_le_mul_right _ (by omega)) (fun h=>by cases h) (by simp) hty
  rw [hlen] at A1 A2 A3
  refine ⟨_,_,_,_,_,_,hk, ?_,A1,A2,hrun⟩
  exact .sl _ _ none gc _ _ A3 hcap (by simp) (fun _=>by simp) (fun _ h=>by cases h) (fun _=>rfl)
theorem aAU (R:Rel w0 Fz μ own h w) {src dst el:TypeId} {x:AV} {cx:Value} {K:AV→aA→Prop} (h1:P.underlying src=some .string) (h2:P.underlying dst=some (.slice el)) (h3:P.underlying el=some (.int .u8))
  (hx:aX μ x cx) (hk:gX x h K):mN P w0 Fz μ w K (convert src dst cx):=by
 cases hx <;> first | exact hk.elim | skip
 rename_i l s hs
 have hrun:=run_bytes_of_string w src dst el s h1 h2 h3
 have hcap:=k8 w s.size 0 el
 generalize grownCap w s.size 0 el=gc at *
 have hsl:=nX hs
 have hsize:(bytesRow s gc).size=gc:=by
  have:s.data.size=s.size:=rfl
  simp [bytesRow,this]; omega
 rw [hsize] at hrun
 have hrel:VRels μ (l.map byteAV) ((bytesRow s gc).toList.take (l.map byteAV).length):=by
  have e:(bytesRow s gc).toList.take (l.map byteAV).length=l.map (fun b=>Value.int .u8 b.toNat):=by
   subst hs
   simp [bytesRow,List.take_append_of_le_length]
  rw [e]
  have:∀ l:List UInt8,VRels μ (l.map byteAV) (l.map (fun b=>Value.int .u8 b.toNat)):=fun l=>by
   induction l with
   | nil=>exact .nil
   | cons c l ih=>exact .cons _ _ _ _ (.i _ _) ih
  exact this _
 obtain ⟨A1,A2,A3⟩:=R.drew.alloc (cells:=l.map byteAV) (sz:=1) (cap:=gc) (ex:=false) (c:=bytesRow s gc) (el:=el) (fr:=(gc,gc+1)) (ty:=none) hrel (by simp; omega) (by omega) (by simp) (by intro j hj; simp; omega)
 have hlm:(l.map byteAV).length=l.length:=by simp
 rw [hlm] at A1 A2 A3
 refine ⟨_,_,_,_,_,_,hk, ?_,A1,A2,hrun⟩
 rw [hsl]
 exact .sl _ _ none gc _ _ A3 (by omega) (by simp) (fun _=>by simp) (fun _ h=>by cases h) (fun _=>rfl)
theorem aBB (R : Rel w0 Fz μ own h w) {t el : TypeId} {len : Nat} {zs : List AV} {parts : List (Nat × AV)} {cparts : Array (Nat × Value)} {K : AV → aA → Prop} (ht : P.underlying t = some (.slice el)) (hz : eW P el = some zs)
  (h0:0<P.cellsOf el) (hlim:len * P.cellsOf el≤16777216) (hzl:zs.length=P.cellsOf el)
  (hlen:parts.length=cparts.toList.length) (hrel:∀ (i:Nat) (x:Nat × AV) (y:Nat × Value),parts[i]? = some x→cparts.toList[i]? = some y→x.1=y.1∧aX μ x.2 y.2)
  (hk:bP (P.cellsOf el) len (List.replicate len zs).flatten (parts.map fun (i,x)=>(i * P.cellsOf el,P.cellsOf el,x)) h K):mN P w0 Fz μ w K (Instr.buildSlice t len cparts):=by
 obtain ⟨i,z,hi,hzz,hzr⟩:=mF hz μ
 have hcs:P.cellsOf el=i.size:=by simp [Program.cellsOf,hi]
 rw [hcs] at hk h0 hlim hzl
 have hpr:∀ (pl:List (Nat × AV)) (cl:List (Nat × Value)),pl.length=cl.length→(∀ (i:Nat) (x:Nat × AV) (y:Nat × Value),pl[i]? = some x→cl[i]? = some y→x.1=y.1∧aX μ x.2 y.2) →
   mP μ (fun j=>some (j * i.size,i.size)) (pl.map fun (j,x)=>(j * i.size,i.size,x)) cl:=by
  intro pl
  induction pl with
  | nil=>intro cl h1 _; cases cl <;> first | exact .nil | simp at h1
  | cons x pl ih =>
   intro cl h1 h2
   cases cl with
   | nil=>simp at h1
   | cons y cl =>
    obtain ⟨e1,e2⟩:=h2 0 x y rfl rfl
    obtain ⟨xi,xv⟩:=x
    obtain ⟨yi,yv⟩:=y
    simp only at e1 e2
    subst e1
    exact .cons _ _ _ _ _ _ _ rfl e2 (ih cl (by simpa using h1) (fun i x y hx hy=>h2 (i+1) x y hx hy))
 unfold bP at hk
 cases hf:eZ (List.replicate len zs).flatten (parts.map fun (j,x)=>(j * i.size,i.size,x)) with
 | none=>rw [hf] at hk; exact hk.elim
 | some out =>
  rw [hf] at hk
  obtain ⟨ho,hk⟩:=hk
  have hmr:=aAI hzr len (by omega)
  rw [hzl] at hmr
  obtain ⟨res,hr1,hr2⟩:=nI (hpr parts cparts.toList hlen hrel) _ ((Array.range (len * i.size)).map (z.cells[· % z.cells.size]!)) out hmr hf
  have hrl:out.length=res.size:=by have:=hr2.length; simpa using this
  obtain ⟨A1,A2,A3⟩:=R.alloc (cells:=out) (sz:=i.size) (cap:=out.length) (ex:=true) (c:=res) (el:=el) (fr:=(0,0)) (ty:=none) (by rw [List.take_of_length_le (by simp; omega)]; exact hr2) (Nat.le_refl _) (by omega) (fun _=>rfl) (by simp)
  refine ⟨_,.slice (some ⟨w.heap.size,0,none⟩) len len,_,_,_,_,hk, ?_,A1,A2, ?_⟩
  ·exact .sl _ _ none len _ _ A3 (Nat.le_refl _) (by simp [ho]) (fun _=>by simp [ho]) (fun _ h=>by cases h) (fun _=>rfl)
  ·have hlim' : ¬ (2 ^ 24 < len * i.size) := by omega
   simp only [Instr.buildSlice,Sem.run_bind,aW ht,Result.andThen_ok,sizeOf,typeInfo,run_program,hi,Sem.run_pure,gt_iff_lt,if_neg hlim']
   by_cases hl0:len * i.size=0
   ·have he : ∀ f : Nat → Value, (Array.range (len * i.size)).map f = #[] := fun f => Array.eq_empty_of_size_eq_zero (by simp only [Array.size_map, Array.size_range]; exact hl0)
    rw [he] at hr1
    rw [if_pos hl0]
    simp only [he,Sem.run_pure,Result.andThen_ok,hr1]
    simp [newRow]
   ·simp only [if_neg hl0, Sem.run_bind, uX hi hzz, Sem.run_pure, Result.andThen_ok, hr1]
    simp [newRow]
end
end Go.GAM
namespace Go.GAM
section
variable {ds:List Deferred} {rd:Option Nat} {P:Program} {w0:World} {Fz:Nat→Prop} {μ:Mu} {own:Nat→Option Nat} {h:aA} {w:World}
def cA (P:Program) (w0:World) (Fz:Nat→Prop) (μb:Mu) (R:a0):Prop:=∀ f args h K,R f args h K→aKH P w0 Fz μb f args h K
def lC (P:Program) (R:a0):Prop:=∀ w0 Fz μb,cA P w0 Fz μb R
theorem j0 {rd:Option Nat} {ρ:Operand→Value} {o:Oper} (h:∀ c,o.op ≠ .defer c):o.semAt rd ρ=execOp ρ o:=by
 cases rd with
 | none=>rfl
 | some l=>exact Oper.semAt_some l ρ o h
theorem aCR {o:Oper} {a:Act} {next:Act→World→Prop} {Q:Exit→Act→World→Prop} {f:FuncId} {cargs:List Value} {post:Value→World→Prop} (hc:aII P f cargs w post)
  (hn:∀ v w',post v w'→next (a.put o.dst v) w') (hnd:∀ c,o.op ≠ .defer c) (he:∀ w',(execOp a.eval o).run P w'=(callFunc f cargs.toArray).run P w'):o.wpIn (FR rd) 0 P a w next Q:=by
 refine ⟨fun _ _=>trivial, ?_⟩
 rw [j0 hnd,he]
 rcases hc with ⟨g,aq,h1,h2⟩ | ⟨v,w',h1,h2⟩
 ·rw [h1, Oper.uponIn_enter]
  refine ⟨(fun h=>by cases h), ?_⟩
  have h3:CallsIn (FR rd) 0 P g aq w _:=callsIn_wide.2 h2
  exact h3.mono fun e w' ⟨v,he,hp⟩=>by subst he; exact hn v w' hp
 ·rw [h1, Oper.uponIn_value]
  exact hn v w' h2
theorem aJI {o:Oper} {a:Act} {next:Act→World→Prop} {Q:Exit→Act→World→Prop} {l:Nat} {cargs:List Value} {post:Value→World→Prop} (hc:aEH P l cargs w post)
  (hn:∀ v w',post v w'→next (a.put o.dst v) w') (hnd:∀ c,o.op ≠ .defer c) (he:∀ w',(execOp a.eval o).run P w'=(Instr.yield l cargs.toArray).run P w'):o.wpIn (FR rd) 0 P a w next Q:=by
 refine ⟨fun _ _=>trivial, ?_⟩
 rw [j0 hnd,he]
 obtain ⟨f,tmps,assign,body,h1,h2⟩:=hc
 rw [h1,Oper.uponIn_round]
 refine ⟨(fun h=>by cases h), ?_⟩
 have h3:RoundIn (FR rd) 0 P l f tmps assign body w _:=h2
 exact h3.mono fun e w' ⟨v,he,hp⟩=>by subst he; exact hn v w' hp
theorem cM {o:Oper} {a:Act} {next:Act→World→Prop} {Q:Exit→Act→World→Prop} {K:AV→aA→Prop} {s:Sem Value} (hA:mN P w0 Fz μ w K s)
  (hn:∀ v cv μ' own' h' w',K v h'→aX μ' v cv→Rel w0 Fz μ' own' h' w'→Sub μ μ'→next (a.put o.dst cv) w') (he:execOp a.eval o=(do pure (.value (← s)))) (hnd:∀ c,o.op ≠ .defer c:=by intro c hc; cases hc):o.wpIn (FR rd) 0 P a w next Q:=by
 obtain ⟨v,cv,μ',own',h',w',h1,h2,h3,h4,h5⟩:=hA
 refine ⟨fun _ _=>trivial, ?_⟩
 rw [j0 hnd,he]
 simp only [Sem.run_bind,h5,Result.andThen_ok,Sem.run_pure,Oper.uponIn_value]
 exact hn v cv μ' own' h' w' h1 h2 h3 h4
theorem aQS {t : TypeId} {m : String} {g : FuncId} (hf : aQU P t m = some g) {k : Nat} {v : Value} {w : World} : (method (k + 1) t v m).run P w = .ok (g, v) w := by
 unfold aQU at hf
 cases hm:(P.info? t).bind fun i=>i.methods.find? (·.name == m) with
 | none=>rw [hm] at hf; cases hf
 | some r =>
  rw [hm] at hf
  obtain ⟨i,hi,hr⟩:=Option.bind_eq_some_iff.1 hm
  simp only at hf
  split at hf
  ·rename_i f pr hp hfn
   unfold method
   simp only [Sem.run_bind,typeInfo,run_program,Result.andThen_ok,hi,Sem.run_pure,hr,hp,follow,hfn]
   split at hf
   ·rename_i e hu
    cases hf
    simp [receiverAt,aW hu,Place.get]
   ·cases hf
   ·rename_i u hnp hu
    cases hf
    unfold receiverAt
    simp only [Sem.run_bind,aW hu,Result.andThen_ok]
    cases u <;> first | (exact absurd rfl (hnp _)) | rfl
   ·cases hf
  ·cases hf
theorem aAE {R : a0} {μb : Mu} (hR : cA P w0 Fz μb R) (hsb : Sub μb μ) (Rl : Rel w0 Fz μ own h w) {nt : Nat} {e : Env} {a : Act} (hE : bK ds μ nt e a) {o : Oper} {K : AV → aA → Prop} (hk : aop P R o e h K)
  {next:Act→World→Prop} {Q:Exit→Act→World→Prop} (hn:∀ v cv μ' own' h' w',K v h'→aX μ' v cv→Rel w0 Fz μ' own' h' w'→Sub μ μ'→next (a.put o.dst cv) w'):o.wpIn (FR rd) 0 P a w next Q:=by
 unfold aop at hk
 cases hb:eO P o with
 | false =>
  rw [hb] at hk
  simp only [cond_false] at hk
  obtain ⟨v,cv,h1,h2,h3⟩:=aJK Rl hE hk
  refine ⟨fun _ _=>trivial, ?_⟩
  rw [j0 (fun c hc=>by obtain ⟨dst,op,type,pos,after,guard⟩:=o; cases hc; exact hk.elim),h3 w (dY.refl w),Oper.uponIn_value]
  exact hn v cv μ own h w h1 h2 Rl (Sub.refl _)
 | true =>
  rw [hb] at hk
  simp only [cond_true] at hk
  obtain ⟨dst,op,type,pos,after,guard⟩:=o
  cases op <;> first | exact False.elim hk | skip
  case alloc t=>
   simp only [d9] at hk
   cases hz:eW P t with
   | none=>rw [hz] at hk; exact hk.elim
   | some zs=>rw [hz] at hk; exact cM (aGG Rl hz (fun _=>aP9) hk) hn rfl
  case box t x=>exact cM (aL6 Rl (Rl.ev hE x) (fun _=>aP9) hk) hn rfl
  case buildSlice t len parts=>
   simp only [d9] at hk
   split at hk
   ·rename_i el ht
    cases hz:eW P el with
    | none=>rw [hz] at hk; exact hk.elim
    | some zs =>
     rw [hz] at hk
     simp only at hk
     obtain ⟨hc,hk⟩:=aS hk
     simp only [Bool.and_eq_true] at hc
     obtain ⟨⟨c1,c2⟩,c3⟩:=hc
     obtain ⟨l1,l2⟩:=wT Rl hE parts
     refine cM (aBB Rl ht hz (Nat.le_of_ble_eq_true c1) (Nat.le_of_ble_eq_true c2) (Nat.eq_of_beq_eq_true c3) l1 l2 ?_) hn rfl
     simpa [List.map_map,Function.comp_def] using hk
   ·exact hk.elim
  case store t x v=>
   simp only [d9] at hk
   split at hk
   ·rename_i r ht
    obtain ⟨h',w',h1,h2,h3⟩:=aHH (P:=P) Rl ht (Rl.ev hE x) (Rl.ev hE v) hk
    refine ⟨fun _ _=>trivial, ?_⟩
    rw [j0 (fun c hc=>by cases hc)]
    simp only [execOp,Sem.run_bind,h3,Result.andThen_ok,Sem.run_pure,Oper.uponIn_skip]
    exact hn _ undef μ own h' w' h1 (.tu [] #[] .nil) h2 (Sub.refl _)
   ·exact hk.elim
  case convert src dst' x=>
   simp only [d9] at hk
   split at hk
   ·rename_i el h1 h2
    split at hk
    ·rename_i h3
     exact cM (aAU Rl h1 h2 h3 (Rl.ev hE x) hk) hn rfl
    ·exact hk.elim
   ·exact hk.elim
  case makeSlice t l c=>
   simp only [d9] at hk
   split at hk
   ·rename_i el ht
    cases hz:eW P el with
    | none=>rw [hz] at hk; exact hk.elim
    | some zs=>rw [hz] at hk; exact cM (aI7 Rl ht hz (Rl.ev hE l) (Rl.ev hE c) hk) hn rfl
   ·exact hk.elim
  case makeMap t r=>
   cases r with
   | some r=>exact False.elim hk
   | none =>
    simp only [d9] at hk
    split at hk
    ·exact cM (aA3 Rl hk) hn rfl
    ·exact hk.elim
  case mapUpdate t m k x=>
   simp only [d9] at hk
   split at hk
   ·rename_i kt el ht
    obtain ⟨hkt,hk⟩:=aS hk
    obtain ⟨h',w',h1,h2,h3⟩:=tJ (P:=P) Rl ht hkt (Rl.ev hE m) (Rl.ev hE k) (Rl.ev hE x) hk
    refine ⟨fun _ _=>trivial, ?_⟩
    rw [j0 (fun c hc=>by cases hc)]
    simp only [execOp,Sem.run_bind,h3,Result.andThen_ok,Sem.run_pure,Oper.uponIn_skip]
    exact hn _ undef μ own h' w' h1 (.tu [] #[] .nil) h2 (Sub.refl _)
   ·exact hk.elim
  case insert t m k x=>
   simp only [d9] at hk
   split at hk
   ·rename_i kt el ht
    obtain ⟨hkt,hk⟩:=aS hk
    obtain ⟨h',w',h1,h2,h3⟩:=tJ (P:=P) Rl ht hkt (Rl.ev hE m) (Rl.ev hE k) (Rl.ev hE x) hk
    refine ⟨fun _ _=>trivial, ?_⟩
    rw [j0 (fun c hc=>by cases hc)]
    simp only [execOp,Sem.run_bind,h3,Result.andThen_ok,Sem.run_pure,Oper.uponIn_skip]
    exact hn _ undef μ own h' w' h1 (.tu [] #[] .nil) h2 (Sub.refl _)
   ·exact hk.elim
  case call c =>
   obtain ⟨callee,args,argTypes⟩:=c
   cases callee with
   | invoke r m =>
    simp only [d9] at hk
    have hv:=Rl.ev hE r
    generalize hcf:a.eval r=cf at *
    generalize GAM.ev e h r=af at *
    unfold yU at hk
    cases hv <;> first | exact hk.elim | skip
    rename_i t v cv hv
    simp only at hk
    cases hf:aQU P t m with
    | none=>rw [hf] at hk; exact hk.elim
    | some g =>
     rw [hf] at hk
     obtain ⟨hlt,hk⟩:=aS hk
     have hc:=hR _ _ _ _ hk μ own w (cv :: args.toList.map a.eval) hsb Rl (.cons _ _ _ _ hv (Rl.evs hE _))
     rw [if_pos (show g<yid0 from Nat.le_of_ble_eq_true hlt)] at hc
     refine aCR hc (fun v w' ⟨v',μ',own',h',g1,g2,g3,g4⟩=>hn v' v μ' own' h' w' g1 g2 g3 g4) (fun c hc=>by cases hc) fun w'=>?_
     have e1:(cv :: args.toList.map a.eval).toArray = #[cv]++args.map a.eval:=by
      apply Array.ext'; simp
     rw [e1]
     have e2:(#[Value.iface t cv]++args.map a.eval).extract 1 (#[Value.iface t cv]++args.map a.eval).size=args.map a.eval:=by
      apply Array.ext'; simp [List.extract_eq_take_drop]
      exact List.take_of_length_le (by simp)
     have e3:(#[Value.iface t cv]++args.map a.eval)[0]? = some (.iface t cv):=by rw [Array.getElem?_append_left (by simp)] <;> rfl
     simp only [execOp,resolve,Sem.run_bind,Sem.run_pure,Result.andThen_ok,hcf,invoke,e2,e3,callMethod,run_program]
     obtain ⟨k,hk'⟩:∃ k,P.types.size+Made.depth=k+1:=⟨P.types.size+Made.depth - 1,(Nat.succ_pred_eq_of_pos (Nat.lt_of_lt_of_le (by decide:0<Made.depth) (Nat.le_add_left _ _))).symm⟩
     rw [hk']
     simp only [aQS hf,Result.andThen_ok]
   | builtin b =>
    cases b <;> first | exact False.elim hk | skip
    case append=>
     simp only [d9] at hk
     have fin:∀ {el t tx:TypeId} {x y:Operand},argTypes[0]? = some t→argTypes[1]? = some tx→P.underlying t=some (.slice el)→((∃ e,P.underlying tx=some (.slice e))∨P.underlying tx=some .string)→args = #[x,y] →
       (bif sR P el then bU (tyB P el) (P.cellsOf el) (P.bytesOf el) (ev e h x) (ev e h y) h K else False)→Oper.wpIn (FR rd) 0 P ⟨dst,.call ⟨.builtin .append,args,argTypes⟩,type,pos,after,guard⟩ a w next Q:=by
      intro el t tx x y h0 h1 ht htx hargs hq
      subst hargs
      obtain ⟨hz,hq⟩:=aS hq
      have hA:=aLT (ty:=type) Rl ht htx hz (Rl.ev hE x) (Rl.ev hE y) (fun _=>aPH) hq
      refine cM (s:=Builtin.append_ #[t,tx] type #[a.eval x,a.eval y]) hA hn ?_
      have e2:∀ s:Array Value,Builtin.append_ argTypes type s=Builtin.append_ #[t,tx] type s:=fun s=>by
       simp only [Builtin.append_,h0,h1]; simp
      simp [execOp,resolve,invoke,builtin,e2]
     split at hk
     ·rename_i el e' x y h1 h2 hargs
      obtain ⟨t,ht0,ht⟩:=Option.bind_eq_some_iff.1 h1
      obtain ⟨tx,htx0,htx⟩:=Option.bind_eq_some_iff.1 h2
      exact fin ht0 htx0 ht (.inl ⟨_,htx⟩) (Array.ext' hargs) hk
     ·rename_i el x y h1 h2 hargs
      obtain ⟨t,ht0,ht⟩:=Option.bind_eq_some_iff.1 h1
      obtain ⟨tx,htx0,htx⟩:=Option.bind_eq_some_iff.1 h2
      exact fin ht0 htx0 ht (.inr htx) (Array.ext' hargs) hk
     ·rename_i el kn x y h1 h2 hargs
      split at hk
      ·rename_i zs hzs
       obtain ⟨t,ht0,ht⟩:=Option.bind_eq_some_iff.1 h1
       obtain ⟨tx,htx0,htx⟩:=Option.bind_eq_some_iff.1 h2
       obtain rfl:args = #[x,y]:=Array.ext' hargs
       have hA:=aIU (ty:=type) Rl ht htx hzs (Rl.ev hE x) (Rl.ev hE y) (fun _=>aPH) hk
       refine cM (s:=Builtin.append_ #[t,tx] type #[a.eval x,a.eval y]) hA hn ?_
       have e2:∀ s:Array Value,Builtin.append_ argTypes type s=Builtin.append_ #[t,tx] type s:=fun s=>by
        simp only [Builtin.append_,ht0,htx0]; simp
       simp [execOp,resolve,invoke,builtin,e2]
      ·exact hk.elim
     ·exact hk.elim
    case cap=>
     simp only [d9] at hk
     split at hk
     ·rename_i el x h1 hargs
      obtain ⟨t,ht0,ht⟩:=Option.bind_eq_some_iff.1 h1
      obtain rfl:args = #[x]:=Array.ext' hargs
      exact cM (s:=Builtin.cap_ argTypes type #[a.eval x]) (aMN Rl ht0 ht (Rl.ev hE x) hk) hn (by simp [execOp,resolve,invoke,builtin])
     ·exact hk.elim
    case unsafeSliceData=>
     simp only [d9] at hk
     split at hk
     ·rename_i x hargs
      obtain rfl:args = #[x]:=Array.ext' hargs
      exact cM (s:=Builtin.unsafeSliceData_ argTypes type #[a.eval x]) (yK Rl (Rl.ev hE x) hk) hn (by simp [execOp,resolve,invoke,builtin])
     ·exact hk.elim
    case unsafeString=>
     simp only [d9] at hk
     split at hk
     ·rename_i pt it x y h1 hargs
      obtain rfl:args = #[x,y]:=Array.ext' hargs
      obtain rfl:argTypes = #[pt,it]:=Array.ext' h1
      obtain ⟨hz,hk⟩:=aS hk
      obtain ⟨u,hp,hu⟩:∃ u,P.underlying pt=some (.pointer u)∧P.underlying u=some (.int .u8):=by
       unfold aTS at hz
       split at hz
       ·rename_i u hp
        unfold isB at hz
        split at hz
        ·rename_i hu; exact ⟨u,hp,hu⟩
        ·cases hz
       ·cases hz
      exact cM (s:=Builtin.unsafeString_ #[pt,it] type #[a.eval x,a.eval y]) (aBM Rl hp hu (Rl.ev hE x) (Rl.ev hE y) hk) hn (by simp [execOp,resolve,invoke,builtin])
     ·exact hk.elim
    case copy=>
     simp only [d9] at hk
     split at hk
     ·rename_i el x y h1 hargs
      obtain ⟨t,ht0,ht⟩:=Option.bind_eq_some_iff.1 h1
      obtain rfl:args = #[x,y]:=Array.ext' hargs
      obtain ⟨hz,hk⟩:=aS hk
      exact cM (s:=Builtin.copy_ argTypes type #[a.eval x,a.eval y]) (aJE (ty:=type) Rl ht0 ht hz (Rl.ev hE x) (Rl.ev hE y) hk) hn (by simp [execOp,resolve,invoke,builtin])
     ·exact hk.elim
   | value f =>
    have toList:(args.map a.eval).toList=args.toList.map a.eval:=Array.toList_map ..
    have hcall:∀ {g:FuncId} {first cap:List AV} {cf ccap:Array Value},a.eval f = .func (.func g) cf ccap→VRels μ first cf.toList→VRels μ cap ccap.toList→oF R g (first++args.toList.map (ev e h)++cap) h K →
      Oper.wpIn (FR rd) 0 P ⟨dst,.call ⟨.value f,args,argTypes⟩,type,pos,after,guard⟩ a w next Q:=by
     intro g first cap cf ccap hf h1 h2 hk
     obtain ⟨hlt,hk⟩:=aS hk
     have hc:=hR _ _ _ _ hk μ own w (cf.toList++args.toList.map a.eval++ccap.toList) hsb Rl ((h1.append (Rl.evs hE _)).append h2)
     rw [if_pos (show g<yid0 from Nat.le_of_ble_eq_true hlt)] at hc
     refine aCR hc (fun v w' ⟨v',μ',own',h',g1,g2,g3,g4⟩=>hn v' v μ' own' h' w' g1 g2 g3 g4) (fun c hc=>by cases hc) fun w'=>?_
     have e1:(cf.toList++args.toList.map a.eval++ccap.toList).toArray=cf++args.map a.eval++ccap:=by
      apply Array.ext'; simp
     rw [e1]
     simp [execOp,resolve,invoke,hf,Deferred.ofValue]
    have hyield:∀ {l:Nat} {first cap:List AV} {cf ccap:Array Value},a.eval f = .func (.yield l) cf ccap→VRels μ first cf.toList→VRels μ cap ccap.toList→cL R (.fn (.yield l) first cap) (args.toList.map (ev e h)) h K →
      Oper.wpIn (FR rd) 0 P ⟨dst,.call ⟨.value f,args,argTypes⟩,type,pos,after,guard⟩ a w next Q:=by
     intro l first cap cf ccap hf h1 h2 hk
     unfold cL at hk
     split at hk
     ·rename_i heq; cases heq
     ·rename_i heq
      cases heq
      have hc:=hR _ _ _ _ hk μ own w (args.toList.map a.eval) hsb Rl (Rl.evs hE _)
      rw [if_neg (Nat.not_lt.2 (Nat.le_add_right _ _)),Nat.add_sub_cancel_left] at hc
      have e1:cf = #[]:=by have:=h1.length; simpa [eq_comm] using this
      have e2:ccap = #[]:=by have:=h2.length; simpa [eq_comm] using this
      refine aJI hc (fun v w' ⟨v',μ',own',h',g1,g2,g3,g4⟩=>hn v' v μ' own' h' w' g1 g2 g3 g4) (fun c hc=>by cases hc) fun w'=>?_
      subst e1; subst e2
      have e3:(args.toList.map a.eval).toArray=args.map a.eval:=by rw [← toList]
      rw [e3]
      simp [execOp,resolve,invoke,hf,Deferred.ofValue]
     ·exact hk.elim
    cases f with
    | func g =>
     exact hcall (g:=g) (first:=[]) (cap:=[]) (cf:=#[]) (ccap:=#[]) rfl .nil .nil (by simpa [d9,oF] using hk)
    | tmp t =>
     have hv:=Rl.ev hE (.tmp t)
     simp only [d9] at hk
     generalize hcf:a.eval (.tmp t)=cf at *
     generalize GAM.ev e h (.tmp t)=af at *
     cases hv <;> first | exact hk.elim | skip
     rename_i ff fa fb ca cb r1 r2
     cases ff <;> first | exact hk.elim | skip
     ·exact hcall rfl r1 r2 hk
     ·exact hyield rfl r1 r2 hk
    | const c =>
     have hv:=Rl.ev hE (.const c)
     simp only [d9] at hk
     generalize hcf:a.eval (.const c)=cf at *
     generalize GAM.ev e h (.const c)=af at *
     cases hv <;> first | exact hk.elim | skip
     rename_i ff fa fb ca cb r1 r2
     cases ff <;> first | exact hk.elim | skip
     ·exact hcall rfl r1 r2 hk
     ·exact hyield rfl r1 r2 hk
    | global c =>
     have hv:=Rl.ev hE (.global c)
     simp only [d9] at hk
     generalize hcf:a.eval (.global c)=cf at *
     generalize GAM.ev e h (.global c)=af at *
     cases hv <;> first | exact hk.elim | skip
     rename_i ff fa fb ca cb r1 r2
     cases ff <;> first | exact hk.elim | skip
     ·exact hcall rfl r1 r2 hk
     ·exact hyield rfl r1 r2 hk
end
end Go.GAM
