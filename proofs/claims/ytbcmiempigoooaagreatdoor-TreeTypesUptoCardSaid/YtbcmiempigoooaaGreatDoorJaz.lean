/- Texts of mine for the claims about layer 2 (tree), joined: EngXq. -/
import Derived.Test.YtbcmiempigoooaaGreatDoorJay
set_option linter.all false
set_option linter.unusedSimpArgs false
set_option linter.unusedVariables false
namespace Go.Eng
open Go.RowKit
section
variable (V:Nat→Bool)
def fusedQ:Operand→Bool
  | .tmp t=> !V t
  |_=>false
def pickQ:Op→Option (Operand×Operand×Value×Bool)
  | .pick c (.const va) b=>if fusedQ V b then some (c,b,va,false) else none
  | .pick c a (.const vb)=>if fusedQ V a then some (c,a,vb,true) else none
  |_=>none
variable (P:Program) (ops:Array Oper)
def pxoQ (rec : Nat → Option (Ex × Nat)) (g : Option (Nat × Bool)) (x : Operand) (pos : Nat) : Option (Ex × Nat) :=
  if fusedQ V x then
    match x,pos with
    | .tmp t,p+1=>if dstOf ops p=some t∧(ops[p]?).map (·.guard)=some g then rec p else none
    |_,_=>none
  else some (leaf x,pos)
def pxosQ (rec:Nat→Option (Ex×Nat)) (g:Option (Nat×Bool)):List Operand→Nat→Option (List Ex×Nat)
  |[],pos=>some ([],pos)
  |x::xs,pos=>(pxosQ rec g xs pos).bind fun (es,j)=>(pxoQ V ops rec g x j).bind fun (e,j')=>some (e::es,j')
def pxNodeQ (rec : Nat → Option (Ex × Nat)) (o : Oper) (k : Nat) : Option (Ex × Nat) :=
  match pickQ V o.op with
  | some (c, y, cv, want) =>
    match k,c,y with
    | p + 1, .tmp tc, .tmp ty =>
      match (ops[p]?).bind (·.guard) with
      |some (i,want')=>
        if want'=want∧dstOf ops p=some ty∧dstOf ops i=some tc∧(o.guard=none∨fusedQ V c=true) then
          (rec p).bind fun (ey,jy)=>(pxoQ V ops rec o.guard c jy).bind fun (ec,jc)=>some (if want then .ite ec ey (.const cv) else .ite ec (.const cv) ey,jc)
        else none
      |none=>none
    |_,_,_=>none
  |none=>
    match o.op with
    | .pick c a b=>if fusedQ V a||fusedQ V b then none else (pxoQ V ops rec o.guard c k).bind fun (ec,jc)=>some (.ite ec (leaf a) (leaf b),jc)
    |op=>(trOp P op).bind fun p=>(pxosQ V ops rec o.guard p.opds k).bind fun (es,j)=>(p.mk es).map fun e=>(e,j)
def pxQ:Nat→Nat→Option (Ex×Nat)
  |0,_=>none
  |fuel+1,k=>(ops[k]?).bind fun o=>(pxNodeQ V P ops (pxQ fuel) o k).bind fun (e,j)=>if guardLt o.guard j then some (e,j) else none
def tgQ (g : Option (Nat × Bool)) (j : Nat) : Option (Option (Nat × Bool)) :=
  match g with
  |none=>some none
  |some (i,want)=>match dstOf ops i with
    |some t=>if V t=true∧i<j then some (some (t,want)) else none
    |none=>none
def effOkQ (o:Oper):Bool:=
  (o.op.operands.toList.all fun x=> !fusedQ V x)&&(match o.op with| .select .. =>false|_=>true)&&(match o.dst with|some d=>V d|none=>true)
def stmsQ : Nat → Nat → Option (List St)
  |_,0=>some []
  |0,_+1=>none
  |fuel+1,k+1=>
    match ops[k]? with
    |none=>none
    |some o=>
      match pxQ V P ops (k+1) k,o.dst with
      |some (e,j),some d=>if V d then (tgQ V ops o.guard j).bind fun g=>(stmsQ fuel j).map (· ++[.asg g d e]) else none
      |_,_=>if effOkQ V o then (tgQ V ops o.guard k).bind fun g=>(stmsQ fuel k).map (· ++[.eff g o.dst o.op o.type]) else none
end
def compQ (V : Nat → Bool) (P : Program) (n : Nat) (rawIds : List Nat) : Code → Option IR
  | .skip=>some .skip
  | .region id ops draw=>
    if rawIds.contains id then some (.raw (.region id ops draw)) else
    if regionB ops n then
      match stmsQ V P ops ops.size ops.size with
      |none=>none
      |some l=>if draw then (if Region.lexB .any ops&&P.follows .mixedOrders then some (.drw l) else none) else some (.reg l)
    else none
  | .seq a b=>match compQ V P n rawIds a,compQ V P n rawIds b with
    |some x,some y=>some (.seq x y)
    |_,_=>none
  | .cond c a b=>if fusedQ V c then none else match compQ V P n rawIds a,compQ V P n rawIds b with
    |some x,some y=>some (.cond (leaf c) x y)
    |_,_=>none
  | .block id a=>match compQ V P n rawIds a with
    |some x=>some (.block id x)
    |none=>none
  | .loop a=>match compQ V P n rawIds a with
    |some x=>some (.loop x)
    |none=>none
  | .exit id=>some (.exit id)
  | .ret=>some .ret
  |c=>some (.raw c)
section
variable (V:List Nat) (P:Program) (ops:Array Oper)
theorem fusedQ_eq:fusedQ (fun t=>V.contains t)=fusedIn V:=by funext x;cases x<;>rfl
theorem pickQ_eq:pickQ (fun t=>V.contains t)=pickShape V:=by
  funext o
  unfold pickQ pickShape
  rw [fusedQ_eq]
  rfl
theorem pxoQ_eq:pxoQ (fun t=>V.contains t) ops=pxo ops V:=by
  funext rec g x pos
  unfold pxoQ pxo
  rw [fusedQ_eq]
  rfl
theorem pxosQ_eq (rec:Nat→Option (Ex×Nat)) (g:Option (Nat×Bool)):∀(l:List Operand) (pos:Nat),pxosQ (fun t=>V.contains t) ops rec g l pos=pxos ops V rec g l pos
  |[],_=>rfl
  |x::xs,pos=>by
    unfold pxosQ pxos
    rw [pxosQ_eq rec g xs pos,pxoQ_eq]
theorem pxNodeQ_eq:pxNodeQ (fun t=>V.contains t) P ops=pxNode P ops V:=by
  funext rec o k
  unfold pxNodeQ pxNode
  rw [pickQ_eq,pxoQ_eq,fusedQ_eq]
  have:∀g l pos,pxosQ (fun t=>V.contains t) ops rec g l pos=pxos ops V rec g l pos:=fun g l pos=>pxosQ_eq V ops rec g l pos
  simp only [this]
  rfl
theorem pxQ_eq:∀(fuel k:Nat),pxQ (fun t=>V.contains t) P ops fuel k=px P ops V fuel k
  |0,_=>rfl
  |fuel+1,k=>by
    unfold pxQ px
    have:pxQ (fun t=>V.contains t) P ops fuel=px P ops V fuel:=by funext k;exact pxQ_eq fuel k
    rw [this,pxNodeQ_eq]
theorem tgQ_eq:tgQ (fun t=>V.contains t) ops=tg ops V:=by
  funext g j
  unfold tgQ tg
  rfl
theorem effOkQ_eq:effOkQ (fun t=>V.contains t)=effOk V:=by
  funext o
  unfold effOkQ effOk
  rw [fusedQ_eq]
  rfl
theorem stmsQ_eq:∀(fuel k:Nat),stmsQ (fun t=>V.contains t) P ops fuel k=stms P ops V fuel k
  |0,0=>rfl
  |_+1,0=>rfl
  |0,_+1=>rfl
  |fuel+1,k+1=>by
    unfold stmsQ stms
    have:stmsQ (fun t=>V.contains t) P ops fuel=stms P ops V fuel:=by funext k;exact stmsQ_eq fuel k
    rw [this,tgQ_eq,effOkQ_eq,pxQ_eq]
    rfl
end
theorem compQ_eq (V:List Nat) (P:Program) (n:Nat) (raws:List Nat):∀c:Code,compQ (fun t=>V.contains t) P n raws c=comp P n V raws c
  | .skip=>rfl
  | .region id ops draw=>by
    unfold compQ comp
    rw [stmsQ_eq]
    rfl
  | .seq a b=>by
    unfold compQ comp
    rw [compQ_eq V P n raws a,compQ_eq V P n raws b]
    rfl
  | .cond c a b=>by
    unfold compQ comp
    rw [compQ_eq V P n raws a,compQ_eq V P n raws b,fusedQ_eq]
    rfl
  | .block id a=>by
    unfold compQ comp
    rw [compQ_eq V P n raws a]
    rfl
  | .loop a=>by
    unfold compQ comp
    rw [compQ_eq V P n raws a]
    rfl
  | .exit id=>rfl
  | .ret=>rfl
  | .scope _| .rangeFunc .. | .label _| .refuse _| .goto _=>rfl
theorem compQ_range (P:Program) (n:Nat) (raws:List Nat) (c:Code):compQ (fun t=>Nat.blt t n) P n raws c=comp P n (List.range n) raws c:=by
  rw [←compQ_eq]
  congr 1
  funext t
  cases h:Nat.blt t n with
  |true=>symm;simpa [Nat.blt_eq] using h
  |false=>
    symm
    have:¬t<n:=fun e=>by rw [←Nat.blt_eq,h] at e;cases e
    simpa using this
end Go.Eng
