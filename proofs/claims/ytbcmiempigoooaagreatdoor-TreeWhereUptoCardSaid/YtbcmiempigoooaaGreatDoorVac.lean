/- Lemmas for a claim about layer 2 (tree). No conditions but those they state. -/
import Derived.Test.YtbcmiempigoooaaGreatDoorVab
import Derived.Still
import Derived.Laws.Tables
import Derived.Wp
import Derived.RangeFuncRecord
import Derived.RecoverIn
set_option linter.all false
namespace Go.Eng
open Go.RowKit
inductive St where
  |asg (g:Option (Nat×Bool)) (d:Nat) (e:Ex)
  |eff (g:Option (Nat×Bool)) (dst:Option Nat) (op:Op) (type:TypeId)
inductive IR where
  |skip
  |reg (l:List St)
  |drw (l:List St)
  |seq (a b:IR)
  |cond (c:Ex) (a b:IR)
  |block (id:Nat) (a:IR)
  |loop (a:IR)
  |exit (id:Nat)
  |ret
  |raw (c:Code)
structure Ks where
  ex:Nat->qa->AA->Prop
  rt:qa->AA->Prop
  pn:qa->List PanicEntry->AA->Prop
  og:Prop
  df:Prop
  rd:Prop
def Ks.noRd (Q:Ks):Ks:={Q with rd:=False}
def qp (ρ:qa) (d:Option Nat) (v:AB):qa:=match d with|none=>ρ|some d=>qx ρ d v
def gd (ρ:qa):Option (Nat×Bool)->Bool
  |none=>true
  |some (t,want)=>match ρ t with| .bool b=>b==want|_=>false
def qd (ρ:qa):Operand->AB
  | .tmp t=>ρ t
  |x=>qbz x
def qR (dst : Option Nat) (op : Op) (type : TypeId) : Oper := { dst, op, type, pos := "", after := #[], guard := none }
def QA (P:Program) (Q:Ks) (dst:Option Nat) (K:qa->AA->Prop) (ρ:qa):Result Next->Prop
  | .ok (.value v) w'=>K (qp ρ dst v) w'
  | .ok .skip w'=>K (qp ρ dst undef) w'
  | .ok (.enter f args) w'=>Calls P f args w' fun
      | .returned v,w''=>K (qp ρ dst v) w''
      | .panicked chain,w''=>Q.pn ρ chain w''
      | .outgrown,_=>Q.og
  | .ok (.round l f tmps assign body) w'=>Q.rd/\RoundIn Fence.wide 0 P l f tmps assign body w' fun
      | .returned v,w''=>K (qp ρ dst v) w''
      | .panicked chain,w''=>Q.pn ρ chain w''
      | .outgrown,_=>Q.og
  | .ok (.defer d) w'=>Q.df/\K (qp (qx ρ gS (yM d (ρ gS))) dst undef) w'
  | .halt (.panic v) w'=>Q.pn ρ [{v,recovered:=false}] w'
  |_=>False
def vD (P:Program) (Q:Ks) (dst:Option Nat) (op:Op) (type:TypeId) (K:qa->AA->Prop) (ρ:qa) (w:AA):Prop:=
  QA P Q dst K ρ ((execOp (qd ρ) (qR dst op type)).run P w)
def xD (c:Option AB) (f:AB->Prop):Prop:=
  match c with
  |some v=>f v
  |none=>False
def jU (P:Program) (t:TypeId):Option (Array AB):=(P.info? t).bind fun i=>i.zero.map (·.cells)
def xB (P:Program) (t:TypeId):Option (TypeId×Nat):=
  match P.underlying t with
  |some (.slice e)=>(P.info? e).bind fun i=>if i.zero.isSome then some (e,i.size) else none
  |_=>none
def qk (P:Program) (f:FuncId):Bool:=
  match P.funcs[f]? with
  | some fn => !(fn.name == "runtime.NumGoroutine") && fn.body.isSome
  |none=>false
def jh (P:Program) (t:TypeId) (n:Nat):Bool:=match P.info? t with|some i=>i.size==n|none=>false
def kM (a:Addr):List AB->Nat->(AA->Prop)->AA->Prop
  |[],_,K,w=>K w
  |v::vs,i,K,w=>(∃old,w.cell? (a.add i)=some old)/\w.frozen? (a.add i)=false/\v.oneCell=true/\kM a vs (i+1) K (w.setCell (a.add i) v)
def vL (Q:Ks) (dst:Option Nat) (K:qa->AA->Prop) (ρ:qa):Ending->AA->Prop
  | .returned v,w''=>K (qp ρ dst v) w''
  | .panicked chain,w''=>Q.pn ρ chain w''
  | .outgrown,_=>Q.og
def y7 (x:AB) (f:Addr->Prop):Prop:=match x with| .pointer (some a)=>f a|_=>False
def qT {α:Type} (c:Option α) (f:α->Prop):Prop:=match c with|some v=>f v|none=>False
def qgn (P:Program) (Q:Ks) (dst:Option Nat) (op:Op) (type:TypeId) (K:qa->AA->Prop) (ρ:qa) (w:AA) (args:Array Operand):Callee->Prop
  | .value (.func f)=>qk P f=true/\Calls P f (args.map (qd ρ)) w (vL Q dst K ρ)
  |_=>vD P Q dst op type K ρ w
def qB (P:Program) (Q:Ks) (dst:Option Nat) (op:Op) (type:TypeId) (K:qa->AA->Prop) (ρ:qa) (w:AA):Prop:=
  match op with
  | .box t x=>K (qp ρ dst (.pointer (some ⟨w.heap.size,0,none⟩))) (w.alloc (.cells (qd ρ x).cells t))
  | .alloc t=>qT (jU P t) fun z=>K (qp ρ dst (.pointer (some ⟨w.heap.size,0,none⟩))) (w.alloc (.cells z t))
  | .store t p x=>jh P t (qd ρ x).cells.size=true/\y7 (qd ρ p) fun a=>kM a (qd ρ x).cells.toList 0 (K (qp ρ dst undef)) w
  | .makeFunc fn fs cs=>K (qp ρ dst (.func fn (fs.map (qd ρ)) (cs.map (qd ρ)))) w
  | .build t ps=>qT (P.built t (ps.map fun p=>(p.1,qd ρ p.2)).toList) fun cells=>K (qp ρ dst (.agg cells)) w
  | .buildSlice t n ps=>qT (xB P t) fun es=>n*es.2<=1000/\ps.toList.map (·.1)=List.range n/\(∀p∈ps.toList,(qd ρ p.2).cells.size=es.2)/\
      K (qp ρ dst (.slice (some ⟨w.heap.size,0,none⟩) n n)) (w.alloc (.cells (ps.toList.flatMap fun p=>(qd ρ p.2).cells.toList).toArray es.1))
  | .call c=>qgn P Q dst op type K ρ w c.args c.callee
  |op=>vD P Q dst op type K ρ w
def St.wp (P:Program) (Q:Ks):St->(qa->AA->Prop)->qa->AA->Prop
  | .asg g d e,K,ρ,w=>if gd ρ g then xD (e.ev ρ w) (fun v=>K (qx ρ d v) w) else K (qx ρ d undef) w
  | .eff g dst op type,K,ρ,w=>if gd ρ g then qB P Q dst op type K ρ w else K (qp ρ dst undef) w
def jr (P:Program) (Q:Ks):List St->(qa->AA->Prop)->qa->AA->Prop
  |[],K,ρ,w=>K ρ w
  |s::r,K,ρ,w=>s.wp P Q (jr P Q r K) ρ w
def qdm (P:Program) (w0:AA) (dst:Option Nat) (op:Op) (type:TypeId) (ρ:qa) (v:AB):Prop:=
  match op with
  | .call {callee:=.value (.func f),args,.. }=>qk P f=true/\∀w,qc w0 w->Calls P f (args.map (qd ρ)) w (fun e w'=>e=.returned v/\qc w0 w')
  |_=>∀w,qc w0 w->Oper.quietUpon P (qc w0) w v ((execOp (qd ρ) (qR dst op type)).run P w)
def jj (P:Program) (w0:AA):List St->(qa->Prop)->qa->Prop
  |[],K,ρ=>K ρ
  | .asg g d e::r,K,ρ=>if gd ρ g then xD (e.ev ρ w0) (fun v=>jj P w0 r K (qx ρ d v)) else jj P w0 r K (qx ρ d undef)
  | .eff g dst op type::r,K,ρ=>if gd ρ g then∃v,qdm P w0 dst op type ρ v/\jj P w0 r K (qp ρ dst v)
      else jj P w0 r K (qp ρ dst undef)
structure Cx where
  P:Program
  n:Nat
  V:List Nat
  D:List Deferred
def vy (cx:Cx) (a:Act):Prop:=cx.D=[]->a.defers=[]
def ku (cx:Cx) (K:qa->AA->Prop) (Q:Ks):Exit->Act->AA->Prop
  | .normal,a,w=>vy cx a/\∃ρ,Agree cx.n cx.V ρ a/\K ρ w
  | .exit i,a,w=>vy cx a/\∃ρ,Agree cx.n cx.V ρ a/\Q.ex i ρ w
  | .ret,a,w=>vy cx a/\∃ρ,Agree cx.n cx.V ρ a/\Q.rt ρ w
  | .panic c,a,w=>vy cx a/\∃ρ,Agree cx.n cx.V ρ a/\Q.pn ρ c w
  | .outgrown,_,_=>Q.og
  | .goto _,_,_=>False
def qbA (c:Option AB) (x y:Prop):Prop:=
  match c with
  |some (.bool true)=>x
  |some (.bool false)=>y
  |_=>False
def IR.wp (cx:Cx):IR->(qa->AA->Prop)->Ks->qa->AA->Prop
  | .skip,K,_,ρ,w=>K ρ w
  | .reg l,K,Q,ρ,w=>jr cx.P Q l K ρ w
  | .drw l,K,_,ρ,w=>jj cx.P w l (fun ρ'=>∀w',qc w w'->K ρ' w') ρ
  | .seq a b,K,Q,ρ,w=>a.wp cx (fun ρ' w'=>b.wp cx K Q ρ' w') Q ρ w
  | .cond c a b,K,Q,ρ,w=>qbA (c.ev ρ w) (a.wp cx K Q ρ w) (b.wp cx K Q ρ w)
  | .block id a,K,Q,ρ,w=>a.wp cx K {Q with ex:=fun i=>if i=id then K else Q.ex i} ρ w
  | .loop a,_,Q,ρ,w=>∃(I:qa->AA->Prop) (μ:qa->AA->Nat),I ρ w/\∀ρ' w',I ρ' w'->a.wp cx (fun ρ'' w''=>I ρ'' w''/\μ ρ'' w''<μ ρ' w') Q ρ' w'
  | .exit id,_,Q,ρ,w=>Q.ex id ρ w
  | .ret,_,Q,ρ,w=>Q.rt ρ w
  | .raw c,K,Q,ρ,w=>∀a,Agree cx.n cx.V ρ a->vy cx a->(Q.df->cx.D≠[])->c.wp cx.P (ku cx K Q) a w
section
variable (P:Program) (ops:Array Oper) (V:List Nat)
def tg (g : Option (Nat × Bool)) (j : Nat) : Option (Option (Nat × Bool)) :=
  match g with
  |none=>some none
  |some (i,want)=>match vK ops i with
    |some t=>if V.contains t=true/\i<j then some (some (t,want)) else none
    |none=>none
def qaT (o:Oper):Bool:=
  (o.op.operands.toList.all fun x=> !zP V x)&&(match o.op with| .select .. =>false|_=>true)&&(match o.dst with|some d=>V.contains d|none=>true)
def wj : Nat -> Nat -> Option (List St)
  |_,0=>some []
  |0,_+1=>none
  |fuel+1,k+1=>
    match ops[k]? with
    |none=>none
    |some o=>
      match px P ops V (k+1) k,o.dst with
      |some (e,j),some d=>if V.contains d then (tg ops V o.guard j).bind fun g=>(wj fuel j).map (· ++[.asg g d e]) else none
      |_,_=>if qaT V o then (tg ops V o.guard k).bind fun g=>(wj fuel k).map (· ++[.eff g o.dst o.op o.type]) else none
def qkH:List (Option Nat):=ops.toList.map (·.dst)
def qaH:List (Option Nat)->Bool
  |[]=>true
  |none::l=>qaH l
  |some d::l=> !l.contains (some d)&&qaH l
def qbd (n:Nat):Bool:=qaH (qkH ops)&&ops.toList.all fun o=>match o.dst with|some d=>decide (d<n)|none=>true
end
def jk (P : Program) (n : Nat) (V : List Nat) (rawIds : List Nat) : Code -> Option IR
  | .skip=>some .skip
  | .region id ops draw=>
    if rawIds.contains id then some (.raw (.region id ops draw)) else
    if qbd ops n then
      match wj P ops V ops.size ops.size with
      |none=>none
      |some l=>if draw then (if Region.lexB .any ops&&P.follows .mixedOrders then some (.drw l) else none) else some (.reg l)
    else none
  | .seq a b=>match jk P n V rawIds a,jk P n V rawIds b with
    |some x,some y=>some (.seq x y)
    |_,_=>none
  | .cond c a b=>if zP V c then none else match jk P n V rawIds a,jk P n V rawIds b with
    |some x,some y=>some (.cond (kz c) x y)
    |_,_=>none
  | .block id a=>match jk P n V rawIds a with
    |some x=>some (.block id x)
    |none=>none
  | .loop a=>match jk P n V rawIds a with
    |some x=>some (.loop x)
    |none=>none
  | .exit id=>some (.exit id)
  | .ret=>some .ret
  |c=>some (.raw c)
def qnm {P:Program} {f:FuncId} (h:qk P f=true) {ρ:qa} {args:Array Operand} {a:Array TypeId} {dst:Option Nat} {type:TypeId} (w:AA):
    (execOp (qd ρ) (qR dst (.call {callee:=.value (.func f),args,argTypes:=a}) type)).run P w=.ok (.enter f (args.map (qd ρ))) w:=by
  unfold qk at h;split at h
  · rename_i fn e;simp only [km,ux,JV,ne_eq] at h;cases b:fn.body with
    |none=>simp [b] at h
    |some c=>simp [execOp,qR,resolve,qd,qbz,Deferred.ofValue,invoke,callFunc,e,h.1,b]
  · cases h
def qhE {P:Program} (a:Addr):∀(vs:List AB) (i:Nat) (K:AA->Prop) (w:AA),kM a vs i K w->∃w',(storeCells a vs i).run P w=.ok () w'/\K w'
  |[],i,K,w,h=>⟨w,by simp [storeCells],h⟩
  | v :: vs, i, K, w, h => by
    obtain ⟨⟨old,b⟩,g,e,l⟩:=h;obtain ⟨w',k,c⟩:=qhE (P:=P) a vs (i+1) K _ l;refine ⟨w', ?_,c⟩;simp only [storeCells,Sem.run_bind];have j:(store (a.add i) v).run P w=.ok () (w.setCell (a.add i) v):=by
      cases v<;>first|(cases e;done)|simp [store,Sem.run,b,g]
    rw [j];simpa using k
def qvr (size : Nat) : ∀ (ps : List (Nat × AB)) (k : Nat) (pre cells : List AB), ps.map (·.1) = List.range' k ps.length -> (∀ p ∈ ps, p.2.cells.size = size) -> pre.length = k * size -> cells.length = ps.length * size ->
    Instr.fill (fun i=>some (i*size,size)) (pre++cells).toArray ps=some (pre++ps.flatMap fun p=>p.2.cells.toList).toArray
  |[],k,pre,cells,_,_,_,q=>by
    have:cells=[]:=by simpa using q
    subst this;simp [Instr.fill]
  | (i, v) :: ps, k, pre, cells, j, hs, e, q => by
    simp only [List.map_cons,List.length_cons,List.range'_succ,uE] at j;obtain ⟨rfl,j⟩:=j;have h:v.cells.size=size:=hs (i,v) (by simp);simp only [Instr.fill];have b:cells.length=(ps.length+1)*size:=by simpa using q
    have m:size<=cells.length:=by rw [b,uK];omega
    rw [q3 (by
      simp only [h,ne_eq,not_true_eq_false,decide_false,Bool.false_or,ue,Vc,ky,e];omega)]
    have key:∀(l:List AB) (o:Nat) (arr:Array AB),(l.zipIdx o).foldl (fun cs (x:AB×Nat)=>cs.setIfInBounds (i*size+x.2) x.1) arr=arr->True:=fun _ _ _ _=>trivial
    have s:∀(l:List AB) (o:Nat) (a rest:List AB),a.length=o->l.length<=rest.length->
        (l.zipIdx o).foldl (fun cs (x:AB×Nat)=>cs.setIfInBounds (i*size+x.2) x.1) (pre++a++rest).toArray=(pre++a++l++rest.drop l.length).toArray:=by
      intro l
      induction l with
      |nil=>intro o a rest _ _;simp
      |cons c l B=>
        intro o a rest y t;cases rest with
        |nil=>simp at t
        |cons r rest=>
          simp only [List.zipIdx_cons,List.foldl_cons];have g:(pre++a++r::rest).toArray.setIfInBounds (i*size+o) c=(pre++(a++[c])++rest).toArray:=by
            simp only [List.setIfInBounds_toArray];congr 1;rw [un,List.set_append_right _ _ (by rw [e];omega),e,show i*size+o - i*size=o by omega,List.set_append_right _ _ (by omega),y];simp
          rw [g,B (o+1) (a++[c]) rest (by simp [y]) (by simpa using t)];simp
    have u:=s v.cells.toList 0 [] cells rfl (by simpa [h] using m);simp only [ua] at u;have A:v.cells.zipIdx.foldl (fun cs (x:AB×Nat)=>cs.setIfInBounds (i*size+x.2) x.1) (pre++cells).toArray=(pre++v.cells.toList++cells.drop size).toArray:=by
      rw [<-JC];simpa [h] using u
    have z:=qvr size ps (i+1) (pre++v.cells.toList) (cells.drop size) j (fun p e=>hs p (by simp [e])) (by simp [e,h,uK]) (by simp [b,uK]);rw [A,z];simp
def qzR {P:Program} {t e:TypeId} {size:Nat} (h:xB P t=some (e,size)) {n:Nat} (C:n*size<=1000) {ps:Array (Nat×AB)} (s:ps.toList.map (·.1)=List.range n) (y:∀p∈ps.toList,p.2.cells.size=size) (w:AA):
    (Instr.buildSlice t n ps).run P w=.ok (.slice (some ⟨w.heap.size,0,none⟩) n n) (w.alloc (.cells (ps.toList.flatMap fun p=>p.2.cells.toList).toArray e)):=by
  unfold xB at h;split at h
  · rename_i u x;obtain ⟨i,c,o⟩:=uh.1 h;obtain ⟨zv,g⟩:∃zv,i.zero=some zv:=by
      cases B:i.zero with
      |none=>simp [B] at o
      |some z=>exact ⟨z,rfl⟩
    simp only [g,Option.isSome_some,wh,ui,uD] at o;obtain ⟨rfl,rfl⟩:=o;have b:ps.toList.length=n:=by have:=congrArg List.length s;simpa using this
    have m:¬(n*i.size>2^24):=by omega
    have q:(zeroValue u).run P w=.ok zv w:=by simp [zeroValue,qhI c,g]
    have a:∀cells:Array AB,cells.size=n*i.size->Instr.fill (fun j=>some (j*i.size,i.size)) cells ps.toList=some (ps.toList.flatMap fun p=>p.2.cells.toList).toArray:=by
      intro cells v;have:=qvr i.size ps.toList 0 [] cells.toList (by rw [s,b,JP]) y (by simp) (by simp [v,b]);simpa using this
    simp only [Instr.buildSlice,Sem.run_bind,run_underlying x,Result.andThen_ok,qbc c,q3 m];by_cases k:n*i.size=0
    · have A:∀f:Nat->AB,(Array.range 0).map f=#[]:=fun _=>by simp [Array.range]
      have l:=a #[] (by simp [k]);simp only [k,wh,A,l];simp [newRow]
    · simp only [k,ud,Sem.run_bind,q,Result.andThen_ok,Sem.run_pure];have l:=a ((Array.range (n*i.size)).map fun j=>zv.cells[j%zv.cells.size]!) (by simp);simp only [l];simp [newRow]
  · cases h
def qAu {P:Program} {a:AA} {dst:Option Nat} {op:Op} {type:TypeId} {ρ:qa} {v:AB} (h:qdm P a dst op type ρ v):
    ∀w,qc a w->Oper.quietUpon P (qc a) w v ((execOp (qd ρ) (qR dst op type)).run P w):=by
  unfold qdm at h;split at h
  · rename_i f args b;intro w c;rw [qnm h.1];exact ⟨rfl,h.2 w c⟩
  · exact h
def jN {P:Program} {Q:Ks} {dst:Option Nat} {op:Op} {type:TypeId} {K:qa->AA->Prop} {ρ:qa} {w w':AA} {v:AB}
    (h:(execOp (qd ρ) (qR dst op type)).run P w=.ok (.value v) w') (a:K (qp ρ dst v) w'):vD P Q dst op type K ρ w:=by unfold vD;rw [h];exact a
def qvK {P : Program} {Q : Ks} {dst : Option Nat} {op : Op} {type : TypeId} {K : qa -> AA -> Prop} {ρ : qa} {w : AA} (h : qB P Q dst op type K ρ w) : vD P Q dst op type K ρ w := by
  unfold qB at h;split at h
  · refine jN ?_ h;simp [execOp,qR,Instr.box,newVar,newRow]
  · rename_i t;unfold qT at h;split at h
    · rename_i z u;simp only [jU,uh,uc] at u;obtain ⟨i,o,zv,l,rfl⟩:=u;refine jN ?_ h;have s:∀w,(zeroValue t).run P w=.ok zv w:=fun w=>by simp [zeroValue,qhI o,l]
      simp [execOp,qR,Instr.alloc,s,newVar,newRow]
    · cases h
  · rename_i t p x;obtain ⟨j,b⟩:=h;unfold y7 at b;split at b
    · rename_i a E;unfold jh at j;split at j
      · rename_i i o;obtain ⟨w',v,H⟩:=qhE (P:=P) a _ 0 _ w b;have m:(qd ρ x).cells.size=i.size:=
          (show i.size=(qd ρ x).cells.size by simpa using j).symm
        have:(execOp (qd ρ) (qR dst (.store t p x) type)).run P w=.ok .skip w':=by
          simp [execOp,qR,Instr.storeAt,E,Instr.sureAddr,storeVar,qbc o,m,v]
        unfold vD;rw [this];exact H
      · cases j
    · cases b
  · refine jN ?_ h;simp [execOp,qR,Instr.makeFunc]
  · rename_i t ps;unfold qT at h;split at h
    · rename_i cells g;refine jN ?_ h;have:=run_build (P:=P) w t (ps.map fun p=>(p.1,qd ρ p.2)) cells g;simp [execOp,qR,this]
    · cases h
  · rename_i t n ps;unfold qT at h;split at h
    · rename_i es k;obtain ⟨e,size⟩:=es;obtain ⟨I,F,y,B⟩:=h;refine jN ?_ B;have:=qzR (P:=P) k I (ps:=ps.map fun p=>(p.1,qd ρ p.2)) (by simp only [Jq,List.map_map];exact F)
        (fun p b=>by
          simp only [Jq,uw] at b;obtain ⟨q,C,rfl⟩:=b;exact y q C) w
      simp only [execOp,qR,Sem.run_bind,this,Result.andThen_ok,Sem.run_pure];simp [List.flatMap_map]
    · cases h
  · rename_i c;unfold qgn at h;split at h
    · rename_i f g;obtain ⟨callee,args,A⟩:=c;simp only at g h;subst g;unfold vD;rw [qnm h.1];exact h.2
    · exact h
  · exact h
theorem qoV : ∀ (l : List (Option Nat)), qaH l = true -> ∀ (i b t : Nat), l[i]? = some (some t) -> l[b]? = some (some t) -> i = b
  |[],_,i,_,_,h,_=>by simp at h
  | x :: l, h, i, b, t, e, a => by
    have g:qaH l=true:=by
      cases x with
      |none=>simpa [qaH] using h
      |some d=>simp only [qaH,km] at h;exact h.2
    have c:x=some t->∀j:Nat,l[j]? ≠some (some t):=by
      rintro rfl j k;simp only [qaH,km,ux,JI,uX] at h;exact h.1 (Jl k)
    cases i with
    |zero=>
      simp only [List.getElem?_cons_zero,ui] at e;cases b with
      |zero=>rfl
      |succ b=>simp only [List.getElem?_cons_succ] at a;exact absurd a (c e b)
    |succ i=>
      simp only [List.getElem?_cons_succ] at e;cases b with
      |zero=>simp only [List.getElem?_cons_zero,ui] at a;exact absurd e (c a i)
      |succ b=>
        simp only [List.getElem?_cons_succ] at a;rw [qoV l g i b t e a]
def qdk {ops:Array Oper} {n:Nat} (h:qbd ops n=true):Region1 n ops:=by
  simp only [qbd,km,ut] at h;have key:∀i t,vK ops i=some t->(qkH ops)[i]? =some (some t):=by
    intro i t a;simp only [vK,uh] at a;obtain ⟨o,c,b⟩:=a;simp [qkH,c,b]
  refine ⟨fun i g t a e=>qoV _ h.1 i g t (key i t a) (key g t e),fun i t a=>?_⟩;simp only [vK,uh] at a;obtain ⟨o,c,b⟩:=a;have:=h.2 o (by rw [J0];exact JZ c);simpa [b] using this
def jd (w:AA):qc w w:=Below.refl _ _
def fc (ro:Option Nat):Fence:={Fence.wide with round:=ro}
def qee (ro:Option Nat) (ops:Array Oper):Prop:=ro=none\/∀(i:Nat) (o:Oper),ops[i]? =some o->∀c:Call,o.op≠ .defer c
def qm5 {ro:Option Nat} {ops:Array Oper} (h:qee ro ops) {i:Nat} {o:Oper} (a:ops[i]? =some o) (f:Operand->AB):Oper.semAt (fc ro).round f o=execOp f o:=by
  rcases h with rfl|h
  · rfl
  · exact Oper.semAt_eq _ _ _ (h i o a)
def qIV {ro:Option Nat} {n:Nat} {P:Program} {f:FuncId} {args:Array AB} {w:AA} {R:Ending->AA->Prop} (h:Calls P f args w R):CallsIn (fc ro) n P f args w R:=
  (callsIn_wide (n:=n)).2 h
def qz8 {ro:Option Nat} {n:Nat} {P:Program} {l f:Nat} {tmps:Array AB} {as bd:Code} {w:AA} {R:Ending->AA->Prop} (h:RoundIn Fence.wide 0 P l f tmps as bd w R):RoundIn (fc ro) n P l f tmps as bd w R:=
  ⟨trivial,fun c cs _=>h.2 c cs (room_wide _)⟩
def qcP {ro : Option Nat} {P : Program} {ops : Array Oper} (b : qee ro ops) {w : AA} {Q : Exit -> Act -> AA -> Prop} : ∀ (l : List Nat) (a : Act) (K : Act -> Prop), (∀ a, K a -> Q .normal a w) -> PS P w ops l a K -> wpOpsIn (fc ro) 0 P ops Q l a w
  |[],_,_,c,h=>c _ h
  | i :: l, a, K, c, h => by
    simp only [PS] at h;simp only [wpOpsIn];split
    · rename_i e;simp only [e] at h;exact qcP b l a K c h
    · rename_i o e;simp only [e] at h;split
      · rename_i g;simp only [g,wh] at h;obtain ⟨v,j,k⟩:=h;simp only [Oper.wpIn,qm5 b e,j w (jd w),Oper.uponIn];exact ⟨fun _ _=>trivial,qcP b l _ K c k⟩
      · rename_i g;simp only [g] at h;exact ⟨fun _ _=>trivial,qcP b l _ K c (by simpa using h)⟩
def qae {F : Fence} {P : Program} {ops : Array Oper} {Q : Exit -> Act -> AA -> Prop} : ∀ (l m : List Nat) (a : Act) (w : AA),
    wpOpsIn F 0 P ops (Exit.then (wpOpsIn F 0 P ops Q m) Q) l a w->wpOpsIn F 0 P ops Q (l++m) a w
  |[],_,_,_,h=>h
  | i :: l, m, a, w, h => by
    simp only [List.cons_append,wpOpsIn] at h⊢;split
    · rename_i e;simp only [e] at h;exact qae l m a w h
    · rename_i o e;simp only [e] at h;split
      · rename_i g;simp only [g,wh] at h;simp only [Oper.wpIn] at h⊢;refine ⟨h.1, ?_⟩
        replace h:=h.2
        generalize (Oper.semAt F.round a.eval o).run P w=r at h⊢;cases r with
        |ok x w'=>
          cases x<;>simp only [Oper.uponIn] at h⊢ <;>first|exact h|exact qae l m _ _ h|skip
          · refine ⟨h.1,h.2.mono fun e j b=>?_⟩;cases e with
            |returned v=>exact qae l m _ _ b
            |panicked c=>exact b
            |outgrown=>exact b
          · refine ⟨h.1,h.2.mono fun e j b=>?_⟩;cases e with
            |returned v=>exact qae l m _ _ b
            |panicked c=>exact b
            |outgrown=>exact b
          · exact ⟨h.1,h.2.mono fun v j b=>qae l m _ _ b⟩
        |halt x w'=>cases x<;>simp only [Oper.uponIn] at h⊢ <;>exact h
      · rename_i g;simp only [g] at h;refine ⟨?_,qae l m _ _ ?_⟩
        · exact (by simpa using h:_/\_).1
        · exact (by simpa using h:_/\_).2
def qeh {F : Fence} {P : Program} {ops : Array Oper} {Q1 Q2 : Exit -> Act -> AA -> Prop} (k : ∀ e a w, Q1 e a w -> Q2 e a w) : ∀ l a w, wpOpsIn F 0 P ops Q1 l a w -> wpOpsIn F 0 P ops Q2 l a w := by
  intro l
  induction l with
  |nil=>intro a w h;exact k _ _ _ h
  |cons i l b=>
    intro a w h;simp only [wpOpsIn] at h⊢;split
    · rename_i p;simp only [p] at h;exact b _ _ h
    · rename_i s p;simp only [p] at h;split
      · rename_i j;simp only [j,wh] at h;simp only [Oper.wpIn] at h⊢;refine ⟨h.1, ?_⟩
        replace h:=h.2
        generalize (Oper.semAt F.round a.eval s).run P w=r at h⊢;cases r with
        |ok x w'=>
          cases x<;>simp only [Oper.uponIn] at h⊢ <;>first|exact h|exact b _ _ h|skip
          · refine ⟨h.1,h.2.mono fun e q g=>?_⟩;cases e with
            |returned v=>exact b _ _ g
            |panicked c=>exact k _ _ _ g
            |outgrown=>obtain ⟨a0,o,m⟩:=g;exact ⟨a0,o,k _ _ _ m⟩
          · refine ⟨h.1,h.2.mono fun e q g=>?_⟩;cases e with
            |returned v=>exact b _ _ g
            |panicked c=>exact k _ _ _ g
            |outgrown=>obtain ⟨a0,o,m⟩:=g;exact ⟨a0,o,k _ _ _ m⟩
          · exact ⟨h.1,h.2.mono fun v q g=>b _ _ g⟩
        |halt x w'=>cases x<;>simp only [Oper.uponIn] at h⊢ <;>first|exact k _ _ _ h|exact h
      · rename_i j;simp only [j] at h;refine ⟨?_,b _ _ ?_⟩
        · exact (by simpa using h:_/\_).1
        · exact (by simpa using h:_/\_).2
def Agree.put {n:Nat} {V:List Nat} {ρ:qa} {a:Act} (h:Agree n V ρ a) {d:Nat} (j:d∈V) (v:AB):Agree n V (qx ρ d v) (a.put (some d) v):=by
  refine ⟨by simp [Act.put,h.size], ?_,h.lt,h.big⟩;have b:=h.lt d j;have g:=h.ne j;rw [h.env];funext i;simp only [qx,wr,Act.put];by_cases c:i=d
  · subst c;simp [j,h.size,b,Array.getD_eq_getD_getElem?,g]
  · have:d≠i:=fun e=>c e.symm;simp [c,Array.getD_eq_getD_getElem?,this]
def Agree.putO {n:Nat} {V:List Nat} {ρ:qa} {a:Act} (h:Agree n V ρ a) {d:Option Nat} (b:∀t,d=some t->t∈V) (v:AB):Agree n V (qp ρ d v) (a.put d v):=by
  cases d with
  |none=>exact h
  |some d=>exact h.put (b d rfl) v
def yA (a:Act) (d:Option Nat) (v:AB):(a.put d v).defers=a.defers:=by cases d<;>rfl
def qco {n : Nat} {V : List Nat} {ρ : qa} {a : Act} {ops : Array Oper} {g : Option (Nat × Bool)} {j : Nat} {p : Option (Nat × Bool)} (h : Agree n V ρ a) (b : tg ops V g j = some p) :
    vx ops g a=gd ρ p/\xf g j=true:=by
  unfold tg at b;split at b
  · cases b;exact ⟨rfl,rfl⟩
  · rename_i i q;split at b
    · rename_i t s;split at b
      · rename_i v;obtain ⟨u,l⟩:=v;cases b;have c:t∈V:=by simpa using u
        have k:=h.lt t c;refine ⟨?_,by simpa [xf] using l⟩;have o:((ops[i]?).bind (·.dst))=some t:=s;have e:ρ t=a.tmps.getD t undef:=h.at c;have m:t<a.tmps.size:=by rw [h.size];exact k
        simp only [vx,gd,yielded,o,Option.bind_some,e,Array.getD_eq_getD_getElem?,uG m,Option.getD_some];cases a.tmps[t] <;>simp
      · cases b
    · cases b
def Agree.root {n : Nat} {V : List Nat} {ρ : qa} {a q : Act} {ops : Array Oper} {j k : Nat} {o : Oper} (h : Agree n V ρ a) (l : Fr ops j (k + 1) a q) (b : qcL ops V j k) (A : ops[k]? = some o) {d : Nat}
    (y:o.dst=some d) (g:d∈V) {v:AB} (z:q.tmps[d]? =some v):Agree n V (qx ρ d v) q:=by
  refine ⟨l.size.trans h.size, ?_,h.lt,h.big⟩;have c:=h.ne g;rw [h.env];funext i;simp only [qx,wr,l.defers];by_cases s:i=d
  · subst s;simp [g,Array.getD_eq_getD_getElem?,z,c]
  · simp only [s,ud];split
    · rfl
    split
    · rename_i p;have:=l.keep i fun x u t e=>by
        by_cases m:x=k
        · subst m;have:vK ops x=some d:=by simp [vK,A,y]
          rw [this] at e;cases e;exact s rfl
        · exact b x u (by omega) i e p
      simp only [Array.getD_eq_getD_getElem?,this]
    · rfl
def qH6 (f:Operand->AB) (o:Oper):execOp f o=execOp f (qR o.dst o.op o.type):=by
  obtain ⟨dst,op,type,pos,after,guard⟩:=o;cases op<;>rfl
theorem qkj {n:Nat} {V:List Nat} {ρ:qa} {a:Act} {o:Oper} (h:Agree n V ρ a) (c:qaT V o=true):execOp a.eval o=execOp (qd ρ) (qR o.dst o.op o.type):=by
  rw [<-qH6];simp only [qaT,km,ut] at c;refine execOp_congr o (fun cs b e=>?_) fun x j=>?_
  · rw [e] at c;exact absurd c.1.2 (by simp)
  · have:=c.1.1 x (by simpa using j);cases x with
    |tmp t=>
      have i:t∈V:=by simpa [zP] using this
      simp [qd,h.at i,Act.eval]
    |const v=>rfl
    |global g=>rfl
    |func f=>rfl
def qkt {V:List Nat} {o:Oper} (a:qaT V o=true):∀t,o.dst=some t->t∈V:=by
  intro t b;simp only [qaT,km] at a;have:=a.2;rw [b] at this;simpa using this
section
variable {P:Program} {ops:Array Oper} {V:List Nat} {n:Nat}
theorem qcO (Q:Ks):∀(l m:List St) (K:qa->AA->Prop) (ρ:qa) (w:AA),jr P Q (l++m) K ρ w=jr P Q l (jr P Q m K) ρ w
  |[],_,_,_,_=>rfl
  |s::l,m,K,ρ,w=>by
    have:jr P Q (l++m) K=jr P Q l (jr P Q m K):=by funext ρ w;exact qcO Q l m K ρ w
    simp only [List.cons_append,jr,this]
theorem Agree.defer {n:Nat} {V:List Nat} {ρ:qa} {a:Act} (h:Agree n V ρ a) (d:Deferred):Agree n V (qx ρ gS (yM d (ρ gS))) {a with defers:=d::a.defers}:=by
  refine ⟨h.size, ?_,h.lt,h.big⟩;rw [h.ds,qID,h.env];funext i;simp only [qx,wr];split
  · rfl
  · rfl
theorem qez (cx : Cx) (hP : cx.P = P) (hV : cx.V = V) (hn : cx.n = n) (hr : Region1 n ops) {ro : Option Nat} (E : qee ro ops) (Q : Ks) (Q' : Exit -> Act -> AA -> Prop)
    (hpn:∀ρ c a w,vy cx a->Agree n V ρ a->Q.pn ρ c w->Q' (.panic c) a w) (I:Q.og->LetsOut Q') (R:Q.df->cx.D≠[]):
    ∀(s k:Nat) (l:List St),wj P ops V s k=some l->∀(K:qa->AA->Prop) (ρ:qa) (a:Act) (w:AA),Agree n V ρ a->vy cx a->jr P Q l K ρ w->
      wpOpsIn (fc ro) 0 P ops (Exit.then (fun y w'=>vy cx y/\∃m,Agree n V m y/\K m w') Q') (List.range' 0 k) a w
  |s,0,l,h,K,ρ,a,w,ha,hD,hw=>by
    have:l=[]:=by cases s<;>simpa [wj] using h.symm
    subst this;exact ⟨hD,ρ,ha,hw⟩
  |0,k+1,l,h,_,_,_,_,_,_,_=>by simp [wj] at h
  | s + 1, k + 1, l, h, K, ρ, a, w, ha, hD, hw => by
    simp only [wj] at h;split at h
    · cases h
    · rename_i o W;split at h
      ·
        rename_i e j d hpx hd;split at h
        · rename_i hdV;have L:d∈V:=by simpa using hdV
          simp only [uh,uc] at h;obtain ⟨g,hg,l',S,rfl⟩:=h;have Z:=qeR hr _ _ _ _ hpx;have lj:=Z.le;have t:List.range' 0 (k+1)=List.range' 0 j++List.range' j (k+1 - j):=by
            have:=qbf (i:=0) (j:=j) (k:=k+1) (by omega) (by omega);simpa using this
          rw [t];refine qae _ _ _ _ ?_;have ih:=qez cx hP hV hn hr E Q (Exit.then (wpOpsIn (fc ro) 0 P ops (Exit.then (fun y w'=>vy cx y/\∃m,Agree n V m y/\K m w') Q') (List.range' j (k+1 - j))) Q')
            (fun ρ c a w q h2 h3=>hpn ρ c a w q h2 h3) (fun q=>I q) R s j l' S (jr P Q [.asg g d e] K) ρ a w ha hD (by rw [<-qcO];exact hw)
          refine qeh ?_ _ _ _ ih;intro ex J w1 q;cases ex with
          |normal=>
            obtain ⟨A,z,p,b⟩:=q;obtain ⟨F,hglt⟩:=qco p hg;simp only [Exit.then];simp only [jr,St.wp,xD] at b;by_cases u:gd z g=true
            · simp only [u,wh] at b;cases O:e.ev z w1 with
              |none=>simp only [O] at b
              |some v=>
                simp only [O] at b;exact qcP E _ J (fun y=>vy cx y/\∃m,Agree n V m y/\K m w1) (fun _ h=>h)
                  (Z.yes o W z w1 J v p (by rw [F];exact u) O _ fun y Y hv=>⟨fun e=>Y.defers.trans (A e),qx z d v,p.root Y Z.free W hd L (hv d hd),b⟩)
            · simp only [u] at b;exact qcP E _ J (fun y=>vy cx y/\∃m,Agree n V m y/\K m w1) (fun _ h=>h)
                (Z.no o W w1 J p.size (by rw [F];simpa using u) _ fun y Y hv=>⟨fun e=>Y.defers.trans (A e),qx z d undef,p.root Y Z.free W hd L (hv d hd),by simpa using b⟩)
          |exit i=>exact q
          |goto i=>exact q
          |ret=>exact q
          |panic c=>exact q
          |outgrown=>exact q
        · cases h
      ·
        split at h
        · rename_i X;simp only [uh,uc] at h;obtain ⟨g,hg,l',S,rfl⟩:=h;have t:List.range' 0 (k+1)=List.range' 0 k++[k]:=by
            have:=qaA (j:=0) (k:=k) (by omega);simpa using this
          rw [t];refine qae _ _ _ _ ?_;have ih:=qez cx hP hV hn hr E Q (Exit.then (wpOpsIn (fc ro) 0 P ops (Exit.then (fun y w'=>vy cx y/\∃m,Agree n V m y/\K m w') Q') [k]) Q')
            (fun ρ c a w q h2 h3=>hpn ρ c a w q h2 h3) (fun q=>I q) R s k l' S (jr P Q [.eff g o.dst o.op o.type] K) ρ a w ha hD (by rw [<-qcO];exact hw)
          refine qeh ?_ _ _ _ ih;intro ex J w1 q;cases ex with
          |normal=>
            obtain ⟨A,z,p,b⟩:=q;obtain ⟨F,_⟩:=qco p hg;have C:=qkt X;have hex:=qkj p X;simp only [Exit.then,wpOpsIn,W,qag];simp only [jr,St.wp] at b;by_cases u:gd z g=true
            · simp only [u,wh] at b;have B:vx ops o.guard J=true:=by rw [F];exact u
              simp only [B,wh];have b:=qvK b;unfold vD at b;have H:∀v w2,K (qp z o.dst v) w2->Exit.then (fun y w'=>vy cx y/\∃m,Agree n V m y/\K m w') Q' .normal (J.put o.dst v) w2:=
                fun v w2 hk=>⟨fun e=>(yA _ _ _).trans (A e),_,p.putO C v,hk⟩
              refine ⟨fun _ _=>trivial, ?_⟩;rw [qm5 E W,hex];generalize (execOp (qd z) (qR o.dst o.op o.type)).run P w1=r at b;cases r with
              |ok x w'=>
                cases x<;>simp only [QA,Oper.uponIn] at b⊢ <;>first|exact H _ _ b|(cases b;done)|skip
                · refine ⟨fun h0=>(by cases h0),qIV (b.mono fun e w2 U=>?_)⟩;cases e with
                  |returned v=>exact H _ _ U
                  |panicked c=>exact hpn _ _ _ _ A p U
                  |outgrown=>exact I U
                · refine ⟨fun h0=>(by cases h0),qz8 (b.2.mono fun e w2 U=>?_)⟩;cases e with
                  |returned v=>exact H _ _ U
                  |panicked c=>exact hpn _ _ _ _ A p U
                  |outgrown=>exact I U
                · refine ⟨fun e=>absurd e (R b.1),_,(p.defer _).putO C undef,b.2⟩
              |halt x w'=>
                cases x<;>simp only [QA,Oper.uponIn] at b⊢ <;>first|(cases b;done)|exact hpn _ _ _ _ A p b
            · simp only [u] at b;have B:vx ops o.guard J=false:=by rw [F];simpa using u
              simp only [B,uk,ud];exact ⟨fun _ _=>trivial,fun e=>(yA _ _ _).trans (A e),_,p.putO C undef,by simpa using b⟩
          |exit i=>exact q
          |goto i=>exact q
          |ret=>exact q
          |panic c=>exact q
          |outgrown=>exact q
        · cases h
end
section
variable {P:Program} {ops:Array Oper} {V:List Nat} {n:Nat}
def QS (P : Program) (C : AA -> Prop) (ops : Array Oper) : List Nat -> Act -> (Act -> Prop) -> Prop
  |[],a,K=>K a
  |i::is,a,K=>match ops[i]? with
    |none=>QS P C ops is a K
    |some o=>if Region.wanted o (yielded ops a.tmps) then o.quiet P a C (fun a'=>QS P C ops is a' K) else QS P C ops is (a.put o.dst undef) K
theorem qed {C : AA -> Prop} : ∀ (l m : List Nat) (a : Act) (K : Act -> Prop), QS P C ops l a (fun b => QS P C ops m b K) -> QS P C ops (l ++ m) a K
  |[],_,_,_,h=>h
  | i :: l, m, a, K, h => by
    simp only [List.cons_append,QS] at h⊢;split
    · rename_i e;simp only [e] at h;exact qed l m a K h
    · rename_i o e;simp only [e] at h;split
      · rename_i c;simp only [c,wh] at h;exact Oper.quiet_mono (fun b g=>qed l m b K g) h
      · rename_i c;simp only [c] at h;exact qed l m _ K (by simpa using h)
theorem qcJ {C : AA -> Prop} : ∀ (l : List Nat) (a : Act) (K K' : Act -> Prop), (∀ a, K a -> K' a) -> QS P C ops l a K -> QS P C ops l a K'
  |[],_,_,_,b,h=>b _ h
  | i :: l, a, K, K', b, h => by
    simp only [QS] at h⊢;split
    · rename_i e;simp only [e] at h;exact qcJ l a K K' b h
    · rename_i o e;simp only [e] at h;split
      · rename_i c;simp only [c,wh] at h;exact Oper.quiet_mono (fun g j=>qcJ l g K K' b j) h
      · rename_i c;simp only [c] at h;exact qcJ l _ K K' b (by simpa using h)
theorem qgF {w : AA} : ∀ (l : List Nat) (a : Act) (K : Act -> Prop), PS P w ops l a K -> QS P (qc w) ops l a K
  |[],_,_,h=>h
  | i :: l, a, K, h => by
    simp only [PS] at h;simp only [QS];split
    · rename_i e;simp only [e] at h;exact qgF l a K h
    · rename_i o e;simp only [e] at h;split
      · rename_i b;simp only [b,wh] at h;obtain ⟨v,g,j⟩:=h;refine ⟨v,fun w' c=>?_,qgF l _ K j⟩;simp [Oper.quietAt,g w' c,Oper.quietUpon]
      · rename_i b;simp only [b] at h;exact qgF l _ K (by simpa using h)
theorem qgL {C:AA->Prop}:∀(l:List Oper) (k:Nat) (a:Act) (K:Act->Prop),(∀j,l[j]? =ops[k+j]?)->QS P C ops (List.range' k l.length) a K->wpQuiet P ops C K l a
  |[],_,_,_,_,h=>h
  | o :: l, k, a, K, e, h => by
    have i:ops[k]? =some o:=by simpa using (e 0).symm
    have b:∀j,l[j]? =ops[k+1+j]? :=fun j=>by have:=e (j+1);simpa [uB,Nat.add_comm 1 j] using this
    simp only [List.length_cons,List.range'_succ,QS,i] at h;simp only [wpQuiet];split
    · rename_i c;simp only [c,wh] at h;exact Oper.quiet_mono (fun g m=>qgL l (k+1) g K b m) h
    · rename_i c;simp only [c] at h;exact qgL l (k+1) _ K b (by simpa using h)
theorem qeQ (w:AA):∀(l m:List St) (K:qa->Prop) (ρ:qa),jj P w (l++m) K ρ=jj P w l (jj P w m K) ρ
  |[],_,_,_=>rfl
  | .asg g d e::l,m,K,ρ=>by
    simp only [List.cons_append,jj,qeQ w l m K]
  | .eff g dst op type::l,m,K,ρ=>by
    simp only [List.cons_append,jj,qeQ w l m K]
theorem qhZ (cx : Cx) (X : Region1 n ops) (w : AA) :
    ∀(m k:Nat) (l:List St),wj P ops V m k=some l->∀(K:qa->Prop) (ρ:qa) (a:Act),Agree n V ρ a->vy cx a->jj P w l K ρ->
      QS P (qc w) ops (List.range' 0 k) a (fun S=>vy cx S/\∃J,Agree n V J S/\K J)
  |m,0,l,h,K,ρ,a,Q,R,U=>by
    have:l=[]:=by cases m<;>simpa [wj] using h.symm
    subst this;exact ⟨R,ρ,Q,U⟩
  |0,k+1,l,h,_,_,_,_,_,_=>by simp [wj] at h
  | m + 1, k + 1, l, h, K, ρ, a, Q, R, U => by
    simp only [wj] at h;split at h
    · cases h
    · rename_i o I;split at h
      · rename_i e j d Y O;split at h
        · rename_i aa;have y:d∈V:=by simpa using aa
          simp only [uh,uc] at h;obtain ⟨g,W,l',A,rfl⟩:=h;have F:=qeR X _ _ _ _ Y;have lj:=F.le;have q:List.range' 0 (k+1)=List.range' 0 j++List.range' j (k+1 - j):=by
            have:=qbf (i:=0) (j:=j) (k:=k+1) (by omega) (by omega);simpa using this
          rw [q];refine qed _ _ _ _ ?_;refine qcJ _ _ _ _ ?_ (qhZ cx X w m j l' A (jj P w [.asg g d e] K) ρ a Q R (by rw [<-qeQ];exact U));rintro E ⟨x,s,c,b⟩;obtain ⟨t,ac⟩:=qco c W;simp only [jj,xD] at b;refine qgF _ _ _ ?_;by_cases p:gd s g=true
          · simp only [p,wh] at b;cases B:e.ev s w with
            |none=>simp only [B] at b
            |some v=>
              simp only [B] at b;exact F.yes o I s w E v c (by rw [t];exact p) B _ fun S C H=>⟨fun e=>C.defers.trans (x e),qx s d v,c.root C F.free I O y (H d O),b⟩
          · simp only [p] at b;exact F.no o I w E c.size (by rw [t];simpa using p) _ fun S C H=>⟨fun e=>C.defers.trans (x e),qx s d undef,c.root C F.free I O y (H d O),by simpa using b⟩
        · cases h
      · split at h
        · rename_i L;simp only [uh,uc] at h;obtain ⟨g,W,l',A,rfl⟩:=h;have q:List.range' 0 (k+1)=List.range' 0 k++[k]:=by
            have:=qaA (j:=0) (k:=k) (by omega);simpa using this
          rw [q];refine qed _ _ _ _ ?_;refine qcJ _ _ _ _ ?_ (qhZ cx X w m k l' A (jj P w [.eff g o.dst o.op o.type] K) ρ a Q R (by rw [<-qeQ];exact U));rintro E ⟨x,s,c,b⟩;obtain ⟨t,_⟩:=qco c W;have z:=qkt L;have ab:=qkj c L;simp only [QS,I,qag];simp only [jj] at b;by_cases p:gd s g=true
          · simp only [p,wh] at b;have u:vx ops o.guard E=true:=by rw [t];exact p
            simp only [u,wh];obtain ⟨v,H,hk⟩:=b;refine ⟨v,fun w' Z=>?_,fun e=>(yA _ _ _).trans (x e),_,c.putO z v,hk⟩;simp only [Oper.quietAt,ab];exact qAu H w' Z
          · simp only [p] at b;have u:vx ops o.guard E=false:=by rw [t];simpa using p
            simp only [u,uk,ud];exact ⟨fun e=>(yA _ _ _).trans (x e),_,c.putO z undef,by simpa using b⟩
        · cases h
end
def qfg {cx:Cx} {K:qa->AA->Prop} {Q:Ks} (h:Q.og):LetsOut (ku cx K Q):=⟨⟨#[],[]⟩,default,h⟩
def qit (ops:Array Oper):Bool:=ops.toList.all fun o=>match o.op with| .defer _=>false|_=>true
def x0:Code->Bool
  | .skip=>true
  | .region _ ops draw=> !draw&&qit ops
  | .seq a b| .cond _ a b=>x0 a&&x0 b
  | .block _ a| .loop a=>x0 a
  | .exit _| .ret=>true
  |_=>false
def qCA {ops:Array Oper} (h:qit ops=true) (ro:Option Nat):qee ro ops:=by
  refine .inr fun i o a c b=>?_;simp only [qit,ut] at h;have:=h o (by rw [J0];exact JZ a);rw [b] at this;cases this
def qbe {c:Code} {P:Program} {Q:Exit->Act->AA->Prop} {a:Act} {w:AA} (h:c.wp P Q a w):c.wpIn (fc none) 0 P Q a w:=wpIn_wide.2 h
theorem qv1 (cx : Cx) (ro : Option Nat) (k : List Nat) : ∀ (c : Code) (ir : IR), jk cx.P cx.n cx.V k c = some ir -> (ro = none \/ (x0 c = true /\ k = [])) -> ∀ (K : qa -> AA -> Prop) (Q : Ks) (ρ : qa) (a : Act) (w : AA),
    (Q.df->cx.D≠[])->Agree cx.n cx.V ρ a->vy cx a->ir.wp cx K Q ρ w->c.wpIn (fc ro) 0 cx.P (ku cx K Q) a w:=by
  intro c
  induction c with
  |skip=>
    intro ir h g K Q ρ a w j o p m;simp only [jk,ui] at h;subst h;exact wpIn_skip ⟨p,ρ,o,m⟩
  | region id ops draw =>
    intro ir h g K Q ρ a w j o p m;simp only [jk] at h;split at h
    · rename_i hc;rcases g with rfl|⟨_,rfl⟩
      · cases h;exact qbe (m a o p j)
      · simp at hc
    · split at h
      · rename_i X;have hr:=qdk X;split at h
        · cases h
        · rename_i l hl;split at h
          · rename_i O;subst O;split at h
            · rename_i hB;rcases g with rfl|⟨B,_⟩
              · simp only [km] at hB;cases h;refine qbe (wp_region_quiet (C:=qc w) hB.2 hB.1 ⟨rfl,rfl,rfl,kh _,fun _ _=>rfl⟩ ?_);have h1:=qhZ (P:=cx.P) cx hr w _ _ l hl (fun q=>∀w',qc w w'->K q w') ρ a o p m;refine qgL ops.toList 0 a _ (by simp) ?_;refine qcJ _ _ _ _ ?_ (by simpa using h1);rintro E ⟨A,q,z,H⟩ w' hw';exact ⟨A,q,z,H w' hw'⟩
              · simp [x0] at B
            · cases h
          · rename_i O;have Z:draw=false:=by simpa using O
            subst Z;cases h;have hnd:qee ro ops:=by
              rcases g with rfl|⟨B,_⟩
              · exact .inl rfl
              · simp only [x0,km] at B;exact qCA B.2 ro
            refine wpIn_region ?_;have h1:=qez (P:=cx.P) cx rfl rfl rfl hr hnd Q (ku cx K Q) (fun ρ c a w h1 h2 h3=>⟨h1,ρ,h2,h3⟩) qfg j _ _ l hl K ρ a w o p m;rw [JP];refine qeh ?_ _ _ _ h1;intro e E w' u;cases e<;>exact u
      · cases h
  |seq x y R L=>
    intro ir h g K Q ρ a w j o p m;have t:ro=none\/(x0 x=true/\k=[]):=g.imp id fun h=>by simp only [x0,km] at h;exact ⟨h.1.1,h.2⟩
    have F:ro=none\/(x0 y=true/\k=[]):=g.imp id fun h=>by simp only [x0,km] at h;exact ⟨h.1.2,h.2⟩
    simp only [jk] at h;split at h
    · rename_i W iy S hy;cases h;refine wpIn_seq (wpIn_mono (R W S t _ Q ρ a w j o p m) ?_);intro e E w' u;cases e with
      |normal=>obtain ⟨A,q,z,H⟩:=u;exact L iy hy F K Q q E w' j z A H
      |exit i=>exact u
      |goto i=>exact u
      |ret=>exact u
      |panic c=>exact u
      |outgrown=>exact u
    · cases h
  |cond c x y R L=>
    intro ir h g K Q ρ a w j o p m;have t:ro=none\/(x0 x=true/\k=[]):=g.imp id fun h=>by simp only [x0,km] at h;exact ⟨h.1.1,h.2⟩
    have F:ro=none\/(x0 y=true/\k=[]):=g.imp id fun h=>by simp only [x0,km] at h;exact ⟨h.1.2,h.2⟩
    simp only [jk] at h;split at h
    · cases h
    · rename_i hc;have hc':zP cx.V c=false:=by simpa using hc
      split at h
      · rename_i W iy S hy;cases h;simp only [IR.wp,qbA] at m;cases J:(kz c).ev ρ w with
        |none=>simp only [J] at m
        |some v=>
          have Y:=qfj o hc' J;simp only [J] at m;split at m
          · rename_i e;cases e;exact wpIn_cond_true Y (R W S t K Q ρ a w j o p m)
          · rename_i e;cases e;exact wpIn_cond_false Y (L iy hy F K Q ρ a w j o p m)
          · cases m
      · cases h
  |block id x ih=>
    intro ir h g K Q ρ a w j o p m;have t:ro=none\/(x0 x=true/\k=[]):=g;simp only [jk] at h;split at h
    · rename_i W S;cases h;refine wpIn_block (wpIn_mono (ih W S t _ {Q with ex:=fun i=>if i=id then K else Q.ex i} ρ a w j o p m) ?_);intro e E w' u;cases e with
      |normal=>exact u
      |exit i=>
        obtain ⟨A,q,z,H⟩:=u;simp only [Exit.inBlock];split
        · rename_i e;subst e;simp only [wh] at H;exact ⟨A,q,z,H⟩
        · rename_i e;simp only [e,ud] at H;exact ⟨A,q,z,H⟩
      |goto i=>exact u
      |ret=>exact u
      |panic c=>exact u
      |outgrown=>exact u
    · cases h
  |loop x ih=>
    intro ir h g K Q ρ a w j o p m;have t:ro=none\/(x0 x=true/\k=[]):=g;simp only [jk] at h;split at h
    · rename_i W S;cases h;obtain ⟨I,μ,h0,U⟩:=m;refine wpIn_loop (fun E w'=>vy cx E/\∃q,Agree cx.n cx.V q E/\I q w') (fun E w'=>μ (wr cx.V E) w') ⟨p,ρ,o,h0⟩ ?_;rintro a1 w1 ⟨hD1,aa,ab,hI⟩;refine wpIn_mono (ih W S t _ Q aa a1 w1 j ab hD1 (U aa w1 hI)) ?_;intro e E w' u;cases e with
      |normal=>
        obtain ⟨A,q,z,H,hm⟩:=u;refine ⟨⟨A,q,z,H⟩, ?_⟩;show μ (wr cx.V E) w'<μ (wr cx.V a1) w1;rw [<-z.env,<-ab.env];exact hm
      |exit i=>exact u
      |goto i=>exact u
      |ret=>exact u
      |panic c=>exact u
      |outgrown=>exact u
    · cases h
  |exit id=>
    intro ir h g K Q ρ a w j o p m;simp only [jk,ui] at h;subst h;exact wpIn_exit ⟨p,ρ,o,m⟩
  |ret=>
    intro ir h g K Q ρ a w j o p m;simp only [jk,ui] at h;subst h;exact wpIn_ret ⟨p,ρ,o,m⟩
  |rangeFunc f ps asg body _ _=>
    intro ir h g K Q ρ a w j o p m;simp only [jk,ui] at h;subst h;rcases g with rfl|⟨B,_⟩
    · exact qbe (m a o p j)
    · cases B
  |scope b _=>
    intro ir h g K Q ρ a w j o p m;simp only [jk,ui] at h;subst h;rcases g with rfl|⟨B,_⟩
    · exact qbe (m a o p j)
    · cases B
  |label l=>
    intro ir h g K Q ρ a w j o p m;simp only [jk,ui] at h;subst h;rcases g with rfl|⟨B,_⟩
    · exact qbe (m a o p j)
    · cases B
  |goto l=>
    intro ir h g K Q ρ a w j o p m;simp only [jk,ui] at h;subst h;rcases g with rfl|⟨B,_⟩
    · exact qbe (m a o p j)
    · cases B
  |refuse s=>
    intro ir h g K Q ρ a w j o p m;simp only [jk,ui] at h;subst h;rcases g with rfl|⟨B,_⟩
    · exact qbe (m a o p j)
    · cases B
def qgi (cx:Cx) (b:List Nat) (c:Code) (ir:IR) (h:jk cx.P cx.n cx.V b c=some ir) (K:qa->AA->Prop) (Q:Ks) (ρ:qa) (a:Act) (w:AA)
    (e:Q.df->cx.D≠[]) (g:Agree cx.n cx.V ρ a) (j:vy cx a) (i:ir.wp cx K Q ρ w):c.wp cx.P (ku cx K Q) a w:=
  wpIn_wide.1 (qv1 cx none b c ir h (.inl rfl) K Q ρ a w e g j i)
end Go.Eng
