/- Texts of mine for the claims about layer 2 (tree), joined: EngXb. -/
import Derived.Test.YtbcmiempigoooaaGreatDoorJaz
set_option linter.all false
set_option linter.unusedSimpArgs false
set_option linter.unusedVariables false
namespace Go.Eng
open Go.RowKit
noncomputable section All
structure Sx where
  H:Mem
  nx:Nat
  rs:List Nat
def constX (v:Value):Option Value:=bif constB v then some v else none
def opX (e:Tr Value):Operand→Option Value
  | .tmp t=>e.get t
  |x=>constX (constOf x)
def opsX (e:Tr Value):List Operand→Option (List Value)
  |[]=>some []
  |x::l=>match opX e x,opsX e l with|some v,some vs=>some (v::vs)|_,_=>none
def setX (e:Tr Value) (d:Nat) (v:Value):Option (Tr Value):=bif Nat.blt d lim then some (e.set d v) else none
def putX (e:Tr Value) (d:Option Nat) (v:Value):Option (Tr Value):=
  match d with
  |none=>some e
  |some d=>setX e d v
def gdX (e:Tr Value):Option (Nat×Bool)→Option Bool
  |none=>some true
  |some (t,want)=>match e.get t with|some (.bool b)=>some (b==want)|some (.tuple _)=>some false|_=>none
def newX (s:Sx) (k:Option Nat) (o:Ob):Option (Nat×Sx):=
  match k with
  |none=>bif Nat.blt s.nx lim then some (s.nx,⟨s.H.set s.nx o,Nat.succ s.nx,s.rs⟩) else none
  |some k=>bif s.rs.contains k&&Nat.blt k lim then some (k,⟨s.H.set k o,s.nx,s.rs.filter fun i=> !(i==k)⟩) else none
def oneB (v:Value):Bool:=match v with| .agg _| .tuple _=>false|_=>true
def putAt (cs:List Value) (o:Nat) (vs:List Value):List Value:=cs.take o++vs++cs.drop (o+vs.length)
def sliceX (H:Mem) (sz:Nat):Value→Option (List Value)
  | .slice none 0 0=>some []
  | .slice (some a) n _=>rowX H a (n*sz)
  |_=>none
def partsX (e:Tr Value):List (Nat×Operand)→Option (List (Nat×Value))
  |[]=>some []
  |(k,x)::l=>match opX e x,partsX e l with|some v,some vs=>some ((k,v)::vs)|_,_=>none
def ptrX (p:Option (Nat×Sx)):Option (Value×Sx):=match p with|some (i,s)=>some (.pointer (some ⟨i,0,none⟩),s)|none=>none
def rowPX (n:Nat) (p:Option (Nat×Sx)):Option (Value×Sx):=match p with|some (i,s)=>some (.slice (some ⟨i,0,none⟩) n n,s)|none=>none
def effBox (e:Tr Value) (s:Sx) (k:Option Nat) (t:TypeId) (x:Operand):Option (Value×Sx):=
  match opX e x with
  |some v=>ptrX (newX s k ⟨v.cells.toList,t,1,true,false⟩)
  |none=>none
def effAlloc (P:Program) (s:Sx) (k:Option Nat) (t:TypeId):Option (Value×Sx):=
  match zeroCellsOf P t with
  |some z=>bif z.toList.all plainV then ptrX (newX s k ⟨z.toList,t,1,true,false⟩) else none
  |none=>none
def storeX (s:Sx) (i o:Nat) (vs:List Value):Option (Value×Sx):=
  match s.H.get i with
  |some ob=>bif Nat.ble (Nat.add o vs.length) ob.cells.length&&Nat.blt i lim&& !(Nat.beq ob.sz 0) then some (undef,⟨s.H.set i ⟨putAt ob.cells o vs,ob.ty,ob.sz,ob.whole,ob.ex⟩,s.nx,s.rs⟩) else none
  |none=>none
def effStore (P:Program) (e:Tr Value) (s:Sx) (t:TypeId) (p x:Operand):Option (Value×Sx):=
  match opX e p,opX e x with
  |some (.pointer (some ⟨i,o,none⟩)),some v=>bif sizeIs P t v.cells.size&&v.cells.toList.all oneB then storeX s i o v.cells.toList else none
  |_,_=>none
def effFn (e:Tr Value) (s:Sx) (fn:Fn) (fs cs:List Operand):Option (Value×Sx):=
  match opsX e fs,opsX e cs with
  |some a,some b=>some (.func fn a.toArray b.toArray,s)
  |_,_=>none
def zeroB (P:Program) (t:TypeId):Bool:=
  match P.info? t with
  |some it=>match it.zero with|some z=>z.cells.toList.all plainV|none=>true
  |none=>true
def effBuild (P:Program) (e:Tr Value) (s:Sx) (t:TypeId) (ps:List (Nat×Operand)):Option (Value×Sx):=
  match partsX e ps with
  |some l=>bif zeroB P t then (match P.built t l with|some cs=>some (.agg cs,s)|none=>none) else none
  |none=>none
def effLit (P : Program) (e : Tr Value) (s : Sx) (k : Option Nat) (t : TypeId) (n : Nat) (ps : List (Nat × Operand)) : Option (Value × Sx) :=
  match partsX e ps,sliceInfo P t with
  |some l,some (ty,sz)=>
    bif Nat.ble (n*sz) 1000&&(l.map (·.1)==List.range n)&&l.all (fun p=>p.2.cells.size==sz)&&Nat.ble 1 sz then
      rowPX n (newX s k ⟨l.flatMap (fun p=>p.2.cells.toList),ty,sz,false,false⟩)
    else none
  |_,_=>none
def dropX (H : Mem) (ty : TypeId) (sz : Nat) : Value → Option Mem
  | .slice (some a) _ c=>match H.get a.block with
    |some ob=>bif ob.ty==ty&&ob.sz==sz&& !ob.whole&&Nat.blt a.block lim&&Nat.ble (a.off+c*sz) ob.cells.length then some (H.del a.block) else none
    |none=>none
  | .slice none 0 0=>some H
  |_=>none
def appX (s : Sx) (k : Option Nat) (ty : TypeId) (sz bytes : Nat) (av : Value) (xs ys : List Value) : Option (Value × Sx) :=
  bif Nat.ble 1 (xs.length+ys.length)&&Nat.blt (xs.length+ys.length) 4611686018427387904&&Nat.ble ((xs.length+ys.length)*bytes) (140737488355328*sz)&&ys.all oneB&&Nat.ble 1 sz then
    match dropX s.H ty sz av with
    |some H=>rowPX ((xs.length+ys.length) / sz) (newX ⟨H,s.nx,s.rs⟩ k ⟨xs++ys,ty,sz,false,false⟩)
    |none=>none
  else none
def effApp (P : Program) (e : Tr Value) (s : Sx) (k : Option Nat) (t : TypeId) (a b : Operand) : Option (Value × Sx) :=
  match rowInfo P t,opX e a,opX e b with
  |some (ty,sz,bytes),some av,some bv=>
    match sliceX s.H sz av,sliceX s.H sz bv with
    |some xs,some ys=>appX s k ty sz bytes av xs ys
    |_,_=>none
  |_,_,_=>none
def effMM (e:Tr Value) (s:Sx) (mx:Bool) (a b:Operand):Option (Value×Sx):=
  match opX e a,opX e b with
  |some (.int k x),some (.int k' y)=>bif k==k' then some (.int k (bif mx then (if y>x then y else x) else (if y<x then y else x)),s) else none
  |_,_=>none
def effCall (P:Program) (e:Tr Value) (s:Sx) (k:Option Nat):Callee→List Operand→List TypeId→Option (Value×Sx)
  | .builtin .append,[a,b],[t,t']=>bif t==t' then effApp P e s k t a b else none
  | .builtin .max,[a,b],[t,t']=>bif t==t' then effMM e s true a b else none
  | .builtin .min,[a,b],_=>effMM e s false a b
  |_,_,_=>none
def effMake (P : Program) (e : Tr Value) (s : Sx) (k : Option Nat) (t : TypeId) (x y : Operand) : Option (Value × Sx) :=
  match makeInfo P t,opX e x,opX e y with
  |some (ty,z,bytes),some (.int _ n),some (.int _ m)=>
    bif n==m&&decide (0≤n)&&decide (n≤100000)&&Nat.ble bytes 1000&&plainV z&&oneB z&&(match P.info? ty with|some i=>(match i.zero with|some z=>z.cells.size==1|none=>false)|none=>false) then
      rowPX n.toNat (newX s k ⟨List.replicate n.toNat z,ty,1,false,false⟩)
    else none
  |_,_,_=>none
def effMapNew (s:Sx) (k:Option Nat):Option (Nat)→Option (Value×Sx)
  |none=>match newX s k ⟨[],0,0,true,false⟩ with|some (i,s')=>some (.map (some i),s')|none=>none
  |some _=>none
def strB (a b:ByteArray):Bool:=a.data.toList.map (·.toNat)==b.data.toList.map (·.toNat)
def lookX:List Value→ByteArray→Option Value
  | .string a::v::l,k=>bif strB a k then some v else lookX l k
  |_,_=>none
def effLook (P : Program) (e : Tr Value) (s : Sx) (t : TypeId) (m x : Operand) : Option (Value × Sx) :=
  match opX e m,opX e x,P.underlying t with
  |some (.map (some i)),some (.string b),some (.map kt et)=>
    match s.H.get i,P.underlying kt,(P.info? et).bind fun i=>i.zero with
    |some ob,some .string,some z=>bif Nat.beq ob.sz 0&&plainV z then some ((lookX ob.cells b).getD z,s) else none
    |_,_,_=>none
  |_,_,_=>none
def mapPut:List Value→ByteArray→Value→List Value
  | .string a::v::l,k,x=>bif strB a k then .string k::x::l else .string a::v::mapPut l k x
  |_,k,x=>[.string k,x]
def effUpd (P : Program) (e : Tr Value) (s : Sx) (t : TypeId) (m x y : Operand) : Option (Value × Sx) :=
  match opX e m,opX e x,opX e y with
  |some (.map (some i)),some (.string b),some v=>
    match P.underlying t with
    |some (.map kt _)=>match s.H.get i,P.underlying kt with
      |some ob,some .string=>bif Nat.beq ob.sz 0&&plainV v&&Nat.blt i lim then some (undef,⟨s.H.set i ⟨mapPut ob.cells b v,ob.ty,ob.sz,ob.whole,ob.ex⟩,s.nx,s.rs⟩) else none
      |_,_=>none
    |_=>none
  |_,_,_=>none
def twoX (eq : Bool) (s : Sx) : Value → Value → Option (Value × Sx)
  | .agg xs, .agg ys=>match xs.toList,ys.toList with
    |[.int .i64 a, .int .i64 b],[.int .i64 c, .int .i64 d]=>some (.bool (bif eq then (a==c&&b==d) else !(a==c&&b==d)),s)
    |_,_=>none
  |_,_=>none
def nilS:Value→Option Bool
  | .slice (some _) _ _=>some false
  | .slice none 0 0=>some true
  |_=>none
def sliceT (P:Program) (t:TypeId):Bool:=match P.underlying t with|some (.slice _)=>true|_=>false
def effNil (P : Program) (e : Tr Value) (s : Sx) (op : BinOp) (t : TypeId) (x : Operand) : Option (Value × Sx) :=
  match opX e x with
  |some v=>match nilS v,op with
    |some b, .eql=>bif sliceT P t then some (.bool b,s) else none
    |_,_=>none
  |none=>none
def nilC:Operand→Bool
  | .const (.slice none 0 0)=>true
  |_=>false
def effTwo (pr : TypeId → Bool) (e : Tr Value) (s : Sx) (op : BinOp) (t : TypeId) (x y : Operand) : Option (Value × Sx) :=
  match opX e x,opX e y with
  |some v,some u=>bif pr t then (match op with
    | .eql=>twoX true s v u
    | .neq=>twoX false s v u
    |_=>none) else none
  |_,_=>none
def effBin (P:Program) (pr:TypeId→Bool) (e:Tr Value) (s:Sx) (op:BinOp) (t u:TypeId) (x y:Operand):Option (Value×Sx):=
  bif nilC y then (bif t==u then effNil P e s op t x else none) else effTwo pr e s op t x y
def effX (P:Program) (pr:TypeId→Bool) (e:Tr Value) (s:Sx) (k:Option Nat):Op→Option (Value×Sx)
  | .box t x=>effBox e s k t x
  | .alloc t=>effAlloc P s k t
  | .store t p x=>effStore P e s t p x
  | .makeFunc fn fs cs=>effFn e s fn fs.toList cs.toList
  | .build t ps=>effBuild P e s t ps.toList
  | .buildSlice t n ps=>effLit P e s k t n ps.toList
  | .call c=>effCall P e s k c.callee c.args.toList c.argTypes.toList
  | .makeSlice t x y=>effMake P e s k t x y
  | .makeMap _ r=>effMapNew s k (r.map fun _=>0)
  | .lookup t m x ok=>bif ok then none else effLook P e s t m x
  | .mapUpdate t m x y=>effUpd P e s t m x y
  | .binOp op t x y u=>effBin P pr e s op t u x y
  |_=>none
inductive Ou where
  |go (e:Tr Value) (s:Sx)
  |ex (i:Nat) (e:Tr Value) (s:Sx)
  |rt (e:Tr Value) (s:Sx)
  |pn (c:List PanicEntry) (s:Sx)
  |ret (v:Value) (s:Sx)
structure Fx where
  f:FuncId
  nt:Nat
  V:List Nat
  ir:IR
  rs:List RV
structure Fa where
  k:K1
  a:Value
  v:Value
inductive Tk where
  |ir (F:Fx) (a:IR) (e:Tr Value)
  |sts (l:List St) (e:Tr Value)
  |ord (L:Option (List Fa)) (bs:Option Nat) (t:OT) (e:Tr Value)
  |call (f:FuncId) (args:List Value)
def drawsX:Code→List Nat
  | .region id _ true=>[id]
  | .seq a b=>drawsX a++drawsX b
  | .cond _ a b=>drawsX a++drawsX b
  | .block _ a=>drawsX a
  | .loop a=>drawsX a
  | .scope a=>drawsX a
  |_=>[]
def tailX (ops:Array Oper):Nat:=((List.range ops.size).find? fun n=>Region.sinkB .any ops n&&Region.chainB .any ops n).getD ops.size
def bodyX (c:Code):Code:=match c with| .scope c=>c|c=>c
def fnX (P : Program) (f : FuncId) : Option Fx :=
  match P.funcs[f]? with
  |none=>none
  |some fn=>match fn.body with
    |none=>none
    |some c=>
      match compQ (fun t=>Nat.blt t fn.ntmps) P fn.ntmps (drawsX c) (bodyX c),rvsOf P (List.range fn.ntmps) fn.results.toList with
      |some ir,some rs=>bif Nat.ble fn.ntmps 1000000000 then some ⟨f,fn.ntmps,List.range fn.ntmps,ir,rs⟩ else none
      |_,_=>none
def takesX (H : Mem) : OT → Tr Value → List Fa
  | .take g d ex t, e => match gdX e g with
    |some true=>match evX H e ex with
      |some v=>(match ex with
        | .op1 k x=>(match evX .lf e x with
          |some a=>(match x1 .lf k a with|some _=>[] |none=>[⟨k,a,v⟩])
          |none=>[])
        |_=>[])++(match setX e d v with|some e'=>takesX H t e'|none=>[])
      |none=>[]
    |some false=>(match setX e d undef with|some e'=>takesX H t e'|none=>[])
    |none=>[]
  |_,_=>[]
def veq : Nat → Value → Value → Bool
  |0,_,_=>false
  |n+1,a,b=>match a,b with
    | .bool a, .bool b=>a==b
    | .int k a, .int l b=>k==l&&a==b
    | .string a, .string b=>strB a b
    | .pointer none, .pointer none=>true
    | .pointer (some ⟨i,o,none⟩), .pointer (some ⟨j,p,none⟩)=>i==j&&o==p
    | .slice none n c, .slice none m d=>n==m&&c==d
    | .slice (some ⟨i,o,none⟩) n c, .slice (some ⟨j,p,none⟩) m d=>i==j&&o==p&&n==m&&c==d
    | .map (some i), .map (some j)=>i==j
    | .nilFunc, .nilFunc=>true
    | .nilIface, .nilIface=>true
    | .func (.func f) as bs, .func (.func g) cs ds=>f==g&&all2 (veq n) as.toList cs.toList&&all2 (veq n) bs.toList ds.toList
    | .agg as, .agg bs=>all2 (veq n) as.toList bs.toList
    | .tuple as, .tuple bs=>all2 (veq n) as.toList bs.toList
    | .iface t a, .iface u b=>t==u&&veq n a b
    |_,_=>false
where all2 (f:Value→Value→Bool):List Value→List Value→Bool
  |[],[]=>true
  |a::l,b::m=>f a b&&all2 f l m
  |_,_=>false
def obeq (a b:Ob):Bool:=veq.all2 (veq 4) a.cells b.cells&&a.ty==b.ty&&a.sz==b.sz&&a.whole==b.whole&&a.ex==b.ex
def k1eq:K1→K1→Bool
  | .load1, .load1=>true
  | .loadN n, .loadN m=>n==m
  | .b2s, .b2s=>true
  |_,_=>false
def sameX (H:Mem) (L:List Fa):Bool:=L.all fun f=>match x1 H f.k f.a with|some u=>veq 4 u f.v|none=>false
def findX:List Fa→K1→Value→Option Value
  |[],_,_=>none
  |f::l,k,a=>bif k1eq f.k k&&veq 4 f.a a then some f.v else findX l k a
def evF (L : List Fa) (e : Tr Value) : Ex → Option Value
  | .op1 k x=>match evX .lf e x with
    |some a=>(match x1 .lf k a with|some v=>some v|none=>findX L k a)
    |none=>none
  |ex=>evX .lf e ex
def optB {α:Type} (f:α→α→Bool):Option α→Option α→Bool
  |none,none=>true
  |some a,some b=>f a b
  |_,_=>false
def Tr.noneB {α:Type}:Tr α→Bool
  | .lf=>true
  | .nd none l r=>l.noneB&&r.noneB
  | .nd (some _) _ _=>false
def Tr.eqB {α:Type} (f:α→α→Bool):Tr α→Tr α→Bool
  | .nd v l r, .nd u m q=>optB f v u&&l.eqB f m&&r.eqB f q
  | .lf,t=>t.noneB
  |t, .lf=>t.noneB
def bothT:OT→Bool
  | .both .. =>true
  | .take _ _ _ t=>bothT t
  | .step _ _ t=>bothT t
  | .done=>false
def effsT:OT→List Nat
  | .both x _=>effsT x
  | .take _ _ _ t=>effsT t
  | .step (.eff _ (some d) _ _) _ t=>d::effsT t
  | .step _ _ t=>effsT t
  | .done=>[]
def oneX (H:Mem) (e:Tr Value):RV→Option Value
  | .tmp t=>e.get t
  | .cell1 t=>match e.get t with|some v=>x1 H .load1 v|none=>none
  | .cellN t n=>match e.get t with|some v=>x1 H (.loadN n) v|none=>none
def resX (H : Mem) (e : Tr Value) : List RV → Option (List Value)
  |[]=>some []
  |r::rs=>match oneX H e r,resX H e rs with
    |some v,some vs=>some (v::vs)
    |_,_=>none
def argsX:List Value→Nat→Tr Value→Tr Value
  |[],_,e=>e
  |v::l,k,e=>argsX l (Nat.succ k) (e.set k v)
structure TrP where
  f:FuncId
  tp:TypeId
  tb:TypeId
  ti:TypeId
  tt:TypeId
  tx:TypeId
abbrev Prim:=FuncId→List Value→Sx→Option (Value×Sx)
section
variable (P:Program) (prim:Prim) (tr:Option TrP) (sk:FuncId→Nat→List Nat) (pr:TypeId→Bool)
variable (r:Sx→Tk→Option Ou) (s:Sx)
def endX (rs:List RV) (e:Tr Value) (s:Sx):Option Ou:=
  match resX s.H e rs with
  |some vs=>some (.ret (tupled vs) s)
  |none=>none
def leaveX (F:Fx):Option Ou→Option Ou
  |some (.go e s)=>endX F.rs e s
  |some (.rt e s)=>endX F.rs e s
  |some (.pn c s)=>some (.pn c s)
  |_=>none
def bodyR (args:List Value):Option Fx→Option Ou
  |some F=>bif Nat.ble args.length F.nt&&Nat.blt args.length lim then leaveX F (r s (.ir F F.ir (argsX args 0 .lf))) else none
  |none=>none
def backX (q : TrP) (b iY : Nat) (at0 : Int) (n : Nat) (s : Sx) : Option Ou :=
  match s.H.get b with
  |some ob=>match ob.cells with
    |[tv, .int .i64 i, .int .i64 far, .slice a m c]=>match subX 6 (.slice a m c) 0 n with
      |some nv2=>bif decide (0≤i)&&decide (0≤far)&&Nat.ble n m&&Nat.blt b lim&&Nat.blt iY lim&&obeq ob ⟨[tv, .int .i64 i, .int .i64 far, .slice a m c],q.tt,1,true,false⟩ then
          some (.ret (.bool false) ⟨(s.H.set b ⟨[tv, .int .i64 at0, .int .i64 far,nv2],q.tt,1,true,false⟩).del iY,s.nx,s.rs⟩) else none
      |none=>none
    |_=>none
  |none=>none
def isOb (s:Sx) (i:Nat) (o:Ob):Bool:=match s.H.get i with|some p=>obeq p o|none=>false
def chainB (q:TrP):List PanicEntry→Bool
  |[p]=>(match p.v with| .iface t (.agg cs)=>t==q.tx&&cs.isEmpty|_=>false)&& !p.recovered&& !p.goexit
  |_=>false
def tryR (q : TrP) (b iA iY iN iM : Nat) (at0 : Int) (n : Nat) : Option Ou → Option Ou
  |some (.ret v s)=>bif isOb s iY ⟨[.bool false],q.tb,1,true,false⟩&&Nat.blt iY lim&&(match v with| .tuple cs=>cs.isEmpty|_=>false) then some (.ret (.bool true) ⟨s.H.del iY,s.nx,s.rs⟩) else none
  |some (.pn c s)=>
    bif chainB q c&&isOb s iA ⟨[.pointer (some ⟨b,0,none⟩)],q.tp,1,true,false⟩&&isOb s iY ⟨[.bool false],q.tb,1,true,false⟩&&isOb s iN ⟨[.int .i64 at0],q.ti,1,true,false⟩&&isOb s iM ⟨[.int .i64 n],q.ti,1,true,false⟩&& !(Nat.beq b iY) then
      backX q b iY at0 n s else none
  |_=>none
def tryB (q : TrP) (b g : Nat) (cs : List Value) (at0 : Int) (n : Nat) : Option Ou :=
  match newX s none ⟨[.pointer (some ⟨b,0,none⟩)],q.tp,1,true,false⟩ with
  |none=>none
  |some (iA,s1)=>match newX s1 none ⟨[.bool false],q.tb,1,true,false⟩ with
    |none=>none
    |some (iY,s2)=>match newX s2 none ⟨[.int .i64 at0],q.ti,1,true,false⟩ with
      |none=>none
      |some (iN,s3)=>match newX s3 none ⟨[.int .i64 n],q.ti,1,true,false⟩ with
        |none=>none
        |some (iM,s4)=>tryR q b iA iY iN iM at0 n (r s4 (.call g cs))
def tryA (P:Program) (q:TrP) (b:Nat) (ob:Ob) (g:FuncId) (fs cs:Array Value):Option Ou:=
  match ob.cells with
  |[tv, .int .i64 at0, .int .i64 far, .slice a n c]=>bif fs.isEmpty&&decide (0≤at0)&&decide (0≤far)&&callB P g&&obeq ob ⟨[tv, .int .i64 at0, .int .i64 far, .slice a n c],q.tt,1,true,false⟩ then tryB r s q b g cs.toList at0 n else none
  |_=>none
def tryX (q : TrP) : List Value → Option Ou
  |[.pointer (some ⟨b,0,none⟩), .func (.func g) fs cs]=>match s.H.get b with
    |some ob=>tryA r s P q b ob g fs cs
    |none=>none
  |_=>none
def callX (f : FuncId) (args : List Value) : Option Ou :=
  match prim f args s with
  |some (v,s')=>some (.ret v s')
  |none=>match tr with
    |some q=>bif Nat.beq q.f f then tryX P r s q args else bodyR r s args (fnX P f)
    |none=>bodyR r s args (fnX P f)
def contX (l:List St) (d:Option Nat) (e:Tr Value) (v:Value) (s:Sx):Option Ou:=
  match putX e d v with|some e'=>r s (.sts l e')|none=>none
def backK (l:List St) (d:Option Nat) (e:Tr Value):Option Ou→Option Ou
  |some (.ret v s)=>contX r l d e v s
  |some (.pn c s)=>some (.pn c s)
  |_=>none
def stCall (l:List St) (d:Option Nat) (e:Tr Value):Option Value→Option (List Value)→Option Ou
  |some (.func (.func f) fs cs),some vs=>bif callB P f then backK r l d e (r s (.call f (fs.toList++(vs++cs.toList)))) else none
  |_,_=>none
def stPan:Option Value→Option Ou
  |some v=>match v with| .iface .. =>bif constB v then some (.pn [{v:=v,recovered:=false}] s) else none|_=>none
  |none=>none
def contO (l:List St) (d:Option Nat) (e:Tr Value):Option (Value×Sx)→Option Ou
  |some (v,s)=>contX r l d e v s
  |none=>none
def stEff (k : Option Nat) (l : List St) (d : Option Nat) (e : Tr Value) : Op → Option Ou
  | .panic x=>stPan s (opX e x)
  | .call c=>match c.callee with
    | .value f=>stCall P r s l d e (opX e f) (opsX e c.args.toList)
    |_=>contO r l d e (effX P pr e s k (.call c))
  |op=>contO r l d e (effX P pr e s k op)
def stAsg (l:List St) (d:Nat) (e:Tr Value):Option Value→Option Ou
  |some v=>contX r l (some d) e v s
  |none=>none
def stsX (k : Option Nat) (e : Tr Value) : List St → Option Ou
  |[]=>some (.go e s)
  | .asg g d x::l=>match gdX e g with
    |some true=>stAsg r s l d e (evX s.H e x)
    |some false=>stAsg r s l d e (some undef)
    |none=>none
  | .eff g d op _::l=>match gdX e g with
    |some true=>stEff P pr r s k l d e op
    |some false=>contX r l d e undef s
    |none=>none
def ordK (L:Option (List Fa)) (bs:Option Nat) (t:OT) (e:Tr Value) (d:Nat):Option Value→Option Ou
  |some v=>match setX e d v with|some e'=>r s (.ord L bs t e')|none=>none
  |none=>none
def ordS (L : Option (List Fa)) (bs : Option Nat) (t : OT) (b : Bool) : Option Ou → Option Ou
  |some (.go e' s')=>
    bif b then (match L with
      |some l=>bif sameX s'.H l then r s' (.ord L bs t e') else none
      |none=>none)
    else r s' (.ord none bs t e')
  |some (.pn c s')=>some (.pn c s')
  |_=>none
def bothX:Option Ou→Option Ou→Option Ou
  |some (.go e1 s1),some (.go e2 s2)=>bif e1.eqB (veq 4) e2&&s1.H.eqB obeq s2.H&&Nat.beq s1.nx s2.nx&&s1.rs==s2.rs then some (.go e1 s1) else none
  |_,_=>none
def numX (bs:Option Nat):St→Option Nat
  | .eff _ (some d) _ _=>bs.map (· +d)
  |_=>none
def ordX (L : Option (List Fa)) (bs : Option Nat) (e : Tr Value) : OT → Option Ou
  | .done=>some (.go e s)
  | .take g d x t=>match L with
    |none=>none
    |some l=>match gdX e g with
      |some true=>ordK r s L bs t e d (evF l e x)
      |some false=>ordK r s L bs t e d (some undef)
      |none=>none
  | .step x b t=>ordS r L bs t b (stsX P pr r s (numX bs x) e [x])
  | .both x y=>bothX (r s (.ord L bs x e)) (r s (.ord L bs y e))
def rawX (F:Fx) (e:Tr Value):Option OT→Option Ou
  |some t=>bif bothT t&&(effsT t).all (fun d=>Nat.blt d F.nt) then r ⟨s.H,s.nx+F.nt,s.rs++(effsT t).map (s.nx+ ·)⟩ (.ord (some (takesX s.H t e)) (some s.nx) t e)
      else r s (.ord (some (takesX s.H t e)) none t e)
  |none=>none
def seqX (F:Fx) (b:IR):Option Ou→Option Ou
  |some (.go e' s')=>r s' (.ir F b e')
  |o=>o
def blockX (i:Nat):Option Ou→Option Ou
  |some (.ex j e' s')=>bif Nat.beq j i then some (.go e' s') else some (.ex j e' s')
  |o=>o
def condX (F:Fx) (e:Tr Value) (a b:IR):Option Value→Option Ou
  |some (.bool c)=>bif c then r s (.ir F a e) else r s (.ir F b e)
  |_=>none
def irX (F : Fx) (e : Tr Value) : IR → Option Ou
  | .skip=>some (.go e s)
  | .reg l=>r s (.sts l e)
  | .drw _=>none
  | .seq a b=>seqX r F b (r s (.ir F a e))
  | .cond c a b=>condX r s F e a b (evX s.H e c)
  | .block i a=>blockX i (r s (.ir F a e))
  | .loop a=>seqX r F (.loop a) (r s (.ir F a e))
  | .exit i=>some (.ex i e s)
  | .ret=>some (.rt e s)
  | .raw c=>match c with
    | .label _=>some (.go e s)
    | .region id ops true=>rawX r s F e (ordOfK P F.nt F.V (sk F.f id) (tailX ops) (.region id ops true))
    |_=>none
def stepX:Tk→Option Ou
  | .ir F a e=>irX P sk r s F e a
  | .sts l e=>stsX P pr r s none e l
  | .ord L bs t e=>ordX P pr r s L bs e t
  | .call f args=>callX P prim tr r s f args
end
def runX (P:Program) (prim:Prim) (tr:Option TrP) (sk:FuncId→Nat→List Nat) (pr:TypeId→Bool):Nat→Sx→Tk→Option Ou
  |0,_,_=>none
  |n+1,s,t=>stepX P prim tr sk pr (runX P prim tr sk pr n) s t
end All
end Go.Eng
