/- Lemmas for a claim about layer 2 (tree). No conditions but those they state. -/
import Derived.Test.YtbcmiempigoooaaGreatDoorEab
import Derived.Still
import Derived.Laws.Tables
import Derived.Wp
import Derived.RangeFuncRecord
import Derived.RecoverIn
set_option linter.all false
namespace Go.Eng
open Go.RowKit
inductive St where
  |asg (g:Option (Nat×Bool)) (d:Nat) (e:Ex)
  |eff (g:Option (Nat×Bool)) (dst:Option Nat) (op:Op) (type:TypeId)
inductive IR where
  |skip
  |reg (l:List St)
  |drw (l:List St)
  |seq (a b:IR)
  |cond (c:Ex) (a b:IR)
  |block (id:Nat) (a:IR)
  |loop (a:IR)
  |exit (id:Nat)
  |ret
  |raw (c:Code)
structure Ks where
  ex:Nat->qa->World->Prop
  rt:qa->World->Prop
  pn:qa->List PanicEntry->World->Prop
  og:Prop
  df:Prop
  rd:Prop
def Ks.noRd (Q:Ks):Ks:={Q with rd:=False}
def qn (ρ:qa) (d:Option Nat) (v:Value):qa:=match d with|none=>ρ|some d=>qw ρ d v
def gd (ρ:qa):Option (Nat×Bool)->Bool
  |none=>true
  |some (t,want)=>match ρ t with| .bool b=>b==want|_=>false
def qe (ρ:qa):Operand->Value
  | .tmp t=>ρ t
  |x=>qbC x
def qN (dst : Option Nat) (op : Op) (type : TypeId) : Oper := { dst, op, type, pos := "", after := #[], guard := none }
def QN (P:Program) (Q:Ks) (dst:Option Nat) (K:qa->World->Prop) (ρ:qa):Result Next->Prop
  | .ok (.value v) w'=>K (qn ρ dst v) w'
  | .ok .skip w'=>K (qn ρ dst undef) w'
  | .ok (.enter f args) w'=>Calls P f args w' fun
      | .returned v,w''=>K (qn ρ dst v) w''
      | .panicked chain,w''=>Q.pn ρ chain w''
      | .outgrown,_=>Q.og
  | .ok (.round l f tmps assign body) w'=>Q.rd/\RoundIn Fence.wide 0 P l f tmps assign body w' fun
      | .returned v,w''=>K (qn ρ dst v) w''
      | .panicked chain,w''=>Q.pn ρ chain w''
      | .outgrown,_=>Q.og
  | .ok (.defer d) w'=>Q.df/\K (qn (qw ρ gS (y7 d (ρ gS))) dst undef) w'
  | .halt (.panic v) w'=>Q.pn ρ [{v,recovered:=false}] w'
  |_=>False
def vK (P:Program) (Q:Ks) (dst:Option Nat) (op:Op) (type:TypeId) (K:qa->World->Prop) (ρ:qa) (w:World):Prop:=
  QN P Q dst K ρ ((execOp (qe ρ) (qN dst op type)).run P w)
def xp (c:Option Value) (f:Value->Prop):Prop:=
  match c with
  |some v=>f v
  |none=>False
def zR (P:Program) (t:TypeId):Option (Array Value):=(P.info? t).bind fun i=>i.zero.map (·.cells)
def wI (P:Program) (t:TypeId):Option (TypeId×Nat):=
  match P.underlying t with
  |some (.slice e)=>(P.info? e).bind fun i=>if i.zero.isSome then some (e,i.size) else none
  |_=>none
def qh (P:Program) (f:FuncId):Bool:=
  match P.funcs[f]? with
  | some fn => !(fn.name == "runtime.NumGoroutine") && fn.body.isSome
  |none=>false
def jT (P:Program) (t:TypeId) (n:Nat):Bool:=match P.info? t with|some i=>i.size==n|none=>false
def yx (a:Addr):List Value->Nat->(World->Prop)->World->Prop
  |[],_,K,w=>K w
  |v::vs,i,K,w=>(∃old,w.cell? (a.add i)=some old)/\w.frozen? (a.add i)=false/\v.oneCell=true/\yx a vs (i+1) K (w.setCell (a.add i) v)
def zD (Q:Ks) (dst:Option Nat) (K:qa->World->Prop) (ρ:qa):Ending->World->Prop
  | .returned v,w''=>K (qn ρ dst v) w''
  | .panicked chain,w''=>Q.pn ρ chain w''
  | .outgrown,_=>Q.og
def Q0 (x:Value) (f:Addr->Prop):Prop:=match x with| .pointer (some a)=>f a|_=>False
def vt {α:Type} (c:Option α) (f:α->Prop):Prop:=match c with|some v=>f v|none=>False
def qgW (P:Program) (Q:Ks) (dst:Option Nat) (op:Op) (type:TypeId) (K:qa->World->Prop) (ρ:qa) (w:World) (args:Array Operand):Callee->Prop
  | .value (.func f)=>qh P f=true/\Calls P f (args.map (qe ρ)) w (zD Q dst K ρ)
  |_=>vK P Q dst op type K ρ w
def qx (P:Program) (Q:Ks) (dst:Option Nat) (op:Op) (type:TypeId) (K:qa->World->Prop) (ρ:qa) (w:World):Prop:=
  match op with
  | .box t x=>K (qn ρ dst (.pointer (some ⟨w.heap.size,0,none⟩))) (w.alloc (.cells (qe ρ x).cells t))
  | .alloc t=>vt (zR P t) fun z=>K (qn ρ dst (.pointer (some ⟨w.heap.size,0,none⟩))) (w.alloc (.cells z t))
  | .store t p x=>jT P t (qe ρ x).cells.size=true/\Q0 (qe ρ p) fun a=>yx a (qe ρ x).cells.toList 0 (K (qn ρ dst undef)) w
  | .makeFunc fn fs cs=>K (qn ρ dst (.func fn (fs.map (qe ρ)) (cs.map (qe ρ)))) w
  | .build t ps=>vt (P.built t (ps.map fun p=>(p.1,qe ρ p.2)).toList) fun cells=>K (qn ρ dst (.agg cells)) w
  | .buildSlice t n ps=>vt (wI P t) fun es=>n*es.2<=1000/\ps.toList.map (·.1)=List.range n/\(∀p∈ps.toList,(qe ρ p.2).cells.size=es.2)/\
      K (qn ρ dst (.slice (some ⟨w.heap.size,0,none⟩) n n)) (w.alloc (.cells (ps.toList.flatMap fun p=>(qe ρ p.2).cells.toList).toArray es.1))
  | .call c=>qgW P Q dst op type K ρ w c.args c.callee
  |op=>vK P Q dst op type K ρ w
def St.wp (P:Program) (Q:Ks):St->(qa->World->Prop)->qa->World->Prop
  | .asg g d e,K,ρ,w=>if gd ρ g then xp (e.ev ρ w) (fun v=>K (qw ρ d v) w) else K (qw ρ d undef) w
  | .eff g dst op type,K,ρ,w=>if gd ρ g then qx P Q dst op type K ρ w else K (qn ρ dst undef) w
def je (P:Program) (Q:Ks):List St->(qa->World->Prop)->qa->World->Prop
  |[],K,ρ,w=>K ρ w
  |s::r,K,ρ,w=>s.wp P Q (je P Q r K) ρ w
def qdp (P:Program) (w0:World) (dst:Option Nat) (op:Op) (type:TypeId) (ρ:qa) (v:Value):Prop:=
  match op with
  | .call {callee:=.value (.func f),args,.. }=>qh P f=true/\∀w,qc w0 w->Calls P f (args.map (qe ρ)) w (fun e w'=>e=.returned v/\qc w0 w')
  |_=>∀w,qc w0 w->Oper.quietUpon P (qc w0) w v ((execOp (qe ρ) (qN dst op type)).run P w)
def qM (P:Program) (w0:World):List St->(qa->Prop)->qa->Prop
  |[],K,ρ=>K ρ
  | .asg g d e::r,K,ρ=>if gd ρ g then xp (e.ev ρ w0) (fun v=>qM P w0 r K (qw ρ d v)) else qM P w0 r K (qw ρ d undef)
  | .eff g dst op type::r,K,ρ=>if gd ρ g then∃v,qdp P w0 dst op type ρ v/\qM P w0 r K (qn ρ dst v)
      else qM P w0 r K (qn ρ dst undef)
structure Cx where
  P:Program
  n:Nat
  V:List Nat
  D:List Deferred
def vG (cx:Cx) (a:Act):Prop:=cx.D=[]->a.defers=[]
def kV (cx:Cx) (K:qa->World->Prop) (Q:Ks):Exit->Act->World->Prop
  | .normal,a,w=>vG cx a/\∃ρ,Agree cx.n cx.V ρ a/\K ρ w
  | .exit i,a,w=>vG cx a/\∃ρ,Agree cx.n cx.V ρ a/\Q.ex i ρ w
  | .ret,a,w=>vG cx a/\∃ρ,Agree cx.n cx.V ρ a/\Q.rt ρ w
  | .panic c,a,w=>vG cx a/\∃ρ,Agree cx.n cx.V ρ a/\Q.pn ρ c w
  | .outgrown,_,_=>Q.og
  | .goto _,_,_=>False
def Je (c:Option Value) (x y:Prop):Prop:=
  match c with
  |some (.bool true)=>x
  |some (.bool false)=>y
  |_=>False
def IR.wp (cx:Cx):IR->(qa->World->Prop)->Ks->qa->World->Prop
  | .skip,K,_,ρ,w=>K ρ w
  | .reg l,K,Q,ρ,w=>je cx.P Q l K ρ w
  | .drw l,K,_,ρ,w=>qM cx.P w l (fun ρ'=>∀w',qc w w'->K ρ' w') ρ
  | .seq a b,K,Q,ρ,w=>a.wp cx (fun ρ' w'=>b.wp cx K Q ρ' w') Q ρ w
  | .cond c a b,K,Q,ρ,w=>Je (c.ev ρ w) (a.wp cx K Q ρ w) (b.wp cx K Q ρ w)
  | .block id a,K,Q,ρ,w=>a.wp cx K {Q with ex:=fun i=>if i=id then K else Q.ex i} ρ w
  | .loop a,_,Q,ρ,w=>∃(I:qa->World->Prop) (μ:qa->World->Nat),I ρ w/\∀ρ' w',I ρ' w'->a.wp cx (fun ρ'' w''=>I ρ'' w''/\μ ρ'' w''<μ ρ' w') Q ρ' w'
  | .exit id,_,Q,ρ,w=>Q.ex id ρ w
  | .ret,_,Q,ρ,w=>Q.rt ρ w
  | .raw c,K,Q,ρ,w=>∀a,Agree cx.n cx.V ρ a->vG cx a->(Q.df->cx.D≠[])->c.wp cx.P (kV cx K Q) a w
section
variable (P:Program) (ops:Array Oper) (V:List Nat)
def tg (g : Option (Nat × Bool)) (j : Nat) : Option (Option (Nat × Bool)) :=
  match g with
  |none=>some none
  |some (i,want)=>match vP ops i with
    |some t=>if V.contains t=true/\i<j then some (some (t,want)) else none
    |none=>none
def qaM (o:Oper):Bool:=
  (o.op.operands.toList.all fun x=> !xl V x)&&(match o.op with| .select .. =>false|_=>true)&&(match o.dst with|some d=>V.contains d|none=>true)
def wG : Nat -> Nat -> Option (List St)
  |_,0=>some []
  |0,_+1=>none
  |fuel+1,k+1=>
    match ops[k]? with
    |none=>none
    |some o=>
      match px P ops V (k+1) k,o.dst with
      |some (e,j),some d=>if V.contains d then (tg ops V o.guard j).bind fun g=>(wG fuel j).map (· ++[.asg g d e]) else none
      |_,_=>if qaM V o then (tg ops V o.guard k).bind fun g=>(wG fuel k).map (· ++[.eff g o.dst o.op o.type]) else none
def qlH:List (Option Nat):=ops.toList.map (·.dst)
def qat:List (Option Nat)->Bool
  |[]=>true
  |none::l=>qat l
  |some d::l=> !l.contains (some d)&&qat l
def qbc (n:Nat):Bool:=qat (qlH ops)&&ops.toList.all fun o=>match o.dst with|some d=>decide (d<n)|none=>true
end
def jo (P : Program) (n : Nat) (V : List Nat) (rawIds : List Nat) : Code -> Option IR
  | .skip=>some .skip
  | .region id ops draw=>
    if rawIds.contains id then some (.raw (.region id ops draw)) else
    if qbc ops n then
      match wG P ops V ops.size ops.size with
      |none=>none
      |some l=>if draw then (if Region.lexB .any ops&&P.follows .mixedOrders then some (.drw l) else none) else some (.reg l)
    else none
  | .seq a b=>match jo P n V rawIds a,jo P n V rawIds b with
    |some x,some y=>some (.seq x y)
    |_,_=>none
  | .cond c a b=>if xl V c then none else match jo P n V rawIds a,jo P n V rawIds b with
    |some x,some y=>some (.cond (kW c) x y)
    |_,_=>none
  | .block id a=>match jo P n V rawIds a with
    |some x=>some (.block id x)
    |none=>none
  | .loop a=>match jo P n V rawIds a with
    |some x=>some (.loop x)
    |none=>none
  | .exit id=>some (.exit id)
  | .ret=>some .ret
  |c=>some (.raw c)
def qoa {P:Program} {f:FuncId} (h:qh P f=true) {ρ:qa} {args:Array Operand} {a:Array TypeId} {dst:Option Nat} {type:TypeId} (w:World):
    (execOp (qe ρ) (qN dst (.call {callee:=.value (.func f),args,argTypes:=a}) type)).run P w=.ok (.enter f (args.map (qe ρ))) w:=by
  unfold qh at h;split at h
  · rename_i fn e;simp only [j0,uE,J4,ne_eq] at h;cases b:fn.body with
    |none=>simp [b] at h
    |some c=>simp [execOp,qN,resolve,qe,qbC,Deferred.ofValue,invoke,callFunc,e,h.1,b]
  · cases h
def qir {P:Program} (a:Addr):∀(vs:List Value) (i:Nat) (K:World->Prop) (w:World),yx a vs i K w->∃w',(storeCells a vs i).run P w=.ok () w'/\K w'
  |[],i,K,w,h=>⟨w,by simp [storeCells],h⟩
  | v :: vs, i, K, w, h => by
    obtain ⟨⟨old,l⟩,b,g,c⟩:=h;obtain ⟨w',j,k⟩:=qir (P:=P) a vs (i+1) K _ c;refine ⟨w', ?_,k⟩;simp only [storeCells,Sem.run_bind];have e:(store (a.add i) v).run P w=.ok () (w.setCell (a.add i) v):=by
      cases v<;>first|(cases g;done)|simp [store,Sem.run,l,b]
    rw [e];simpa using j
def qwe (size : Nat) : ∀ (ps : List (Nat × Value)) (k : Nat) (a cells : List Value), ps.map (·.1) = List.range' k ps.length -> (∀ p ∈ ps, p.2.cells.size = size) -> a.length = k * size -> cells.length = ps.length * size ->
    Instr.fill (fun i=>some (i*size,size)) (a++cells).toArray ps=some (a++ps.flatMap fun p=>p.2.cells.toList).toArray
  |[],k,a,cells,_,_,_,s=>by
    have:cells=[]:=by simpa using s
    subst this;simp [Instr.fill]
  | (i, v) :: ps, k, a, cells, m, hs, g, s => by
    simp only [List.map_cons,List.length_cons,List.range'_succ,uM] at m;obtain ⟨rfl,m⟩:=m;have j:v.cells.size=size:=hs (i,v) (by simp);simp only [Instr.fill];have e:cells.length=(ps.length+1)*size:=by simpa using s
    have t:size<=cells.length:=by rw [e,uX];omega
    rw [if_neg (by
      simp only [j,ne_eq,VX,Vp,uj,kr,List.size_toArray,kh,g];omega)]
    have key:∀(l:List Value) (o:Nat) (arr:Array Value),(l.zipIdx o).foldl (fun cs (x:Value×Nat)=>cs.setIfInBounds (i*size+x.2) x.1) arr=arr->True:=fun _ _ _ _=>trivial
    have u:∀(l:List Value) (o:Nat) (b rest:List Value),b.length=o->l.length<=rest.length->
        (l.zipIdx o).foldl (fun cs (x:Value×Nat)=>cs.setIfInBounds (i*size+x.2) x.1) (a++b++rest).toArray=(a++b++l++rest.drop l.length).toArray:=by
      intro l
      induction l with
      |nil=>intro o b rest _ _;simp
      |cons c l E=>
        intro o b rest A y;cases rest with
        |nil=>simp at y
        |cons r rest=>
          simp only [List.zipIdx_cons,List.foldl_cons];have h:(a++b++r::rest).toArray.setIfInBounds (i*size+o) c=(a++(b++[c])++rest).toArray:=by
            simp only [List.setIfInBounds_toArray];congr 1;rw [uB,List.set_append_right _ _ (by rw [g];omega),g,show i*size+o - i*size=o by omega,List.set_append_right _ _ (by omega),A];simp
          rw [h,E (o+1) (b++[c]) rest (by simp [A]) (by simpa using y)];simp
    have z:=u v.cells.toList 0 [] cells rfl (by simpa [j] using t);simp only [uy] at z;have B:v.cells.zipIdx.foldl (fun cs (x:Value×Nat)=>cs.setIfInBounds (i*size+x.2) x.1) (a++cells).toArray=(a++v.cells.toList++cells.drop size).toArray:=by
      rw [<-J6];simpa [j] using z
    have C:=qwe size ps (i+1) (a++v.cells.toList) (cells.drop size) m (fun p g=>hs p (by simp [g])) (by simp [g,j,uX]) (by simp [e,uX]);rw [B,C];simp
def qAr {P:Program} {t e:TypeId} {size:Nat} (h:wI P t=some (e,size)) {n:Nat} (E:n*size<=1000) {ps:Array (Nat×Value)} (u:ps.toList.map (·.1)=List.range n) (x:∀p∈ps.toList,p.2.cells.size=size) (w:World):
    (Instr.buildSlice t n ps).run P w=.ok (.slice (some ⟨w.heap.size,0,none⟩) n n) (w.alloc (.cells (ps.toList.flatMap fun p=>p.2.cells.toList).toArray e)):=by
  unfold wI at h;split at h
  · rename_i B v;obtain ⟨i,c,l⟩:=uc.1 h;obtain ⟨zv,g⟩:∃zv,i.zero=some zv:=by
      cases A:i.zero with
      |none=>simp [A] at l
      |some z=>exact ⟨z,rfl⟩
    simp only [g,Option.isSome_some,kk,ub,uQ] at l;obtain ⟨rfl,rfl⟩:=l;have b:ps.toList.length=n:=by have:=congrArg List.length u;simpa using this
    have o:¬(n*i.size>2^24):=by omega
    have k:(zeroValue B).run P w=.ok zv w:=by simp [zeroValue,qiv c,g]
    have a:∀cells:Array Value,cells.size=n*i.size->Instr.fill (fun j=>some (j*i.size,i.size)) cells ps.toList=some (ps.toList.flatMap fun p=>p.2.cells.toList).toArray:=by
      intro cells y;have:=qwe i.size ps.toList 0 [] cells.toList (by rw [u,b,Vk]) x (by simp) (by simp [y,b]);simpa using this
    simp only [Instr.buildSlice,Sem.run_bind,run_underlying v,Result.andThen_ok,qa9 c,if_neg o];by_cases s:n*i.size=0
    · have C:∀f:Nat->Value,(Array.range 0).map f=#[]:=fun _=>by simp [Array.range]
      have m:=a #[] (by simp [s]);simp only [s,kk,C,m];simp [newRow]
    · simp only [s,km,Sem.run_bind,k,Result.andThen_ok,Sem.run_pure];have m:=a ((Array.range (n*i.size)).map fun j=>zv.cells[j%zv.cells.size]!) (by simp);simp only [m];simp [newRow]
  · cases h
def qBp {P:Program} {w0:World} {dst:Option Nat} {op:Op} {type:TypeId} {ρ:qa} {v:Value} (h:qdp P w0 dst op type ρ v):
    ∀w,qc w0 w->Oper.quietUpon P (qc w0) w v ((execOp (qe ρ) (qN dst op type)).run P w):=by
  unfold qdp at h;split at h
  · rename_i f args b;intro w a;rw [qoa h.1];exact ⟨rfl,h.2 w a⟩
  · exact h
def jQ {P:Program} {Q:Ks} {dst:Option Nat} {op:Op} {type:TypeId} {K:qa->World->Prop} {ρ:qa} {w w':World} {v:Value}
    (h:(execOp (qe ρ) (qN dst op type)).run P w=.ok (.value v) w') (a:K (qn ρ dst v) w'):vK P Q dst op type K ρ w:=by unfold vK;rw [h];exact a
def qwx {P : Program} {Q : Ks} {dst : Option Nat} {op : Op} {type : TypeId} {K : qa -> World -> Prop} {ρ : qa} {w : World} (h : qx P Q dst op type K ρ w) : vK P Q dst op type K ρ w := by
  unfold qx at h;split at h
  · refine jQ ?_ h;simp [execOp,qN,Instr.box,newVar,newRow]
  · rename_i t;unfold vt at h;split at h
    · rename_i z u;simp only [zR,uc,ua] at u;obtain ⟨i,l,zv,m,rfl⟩:=u;refine jQ ?_ h;have k:∀w,(zeroValue t).run P w=.ok zv w:=fun w=>by simp [zeroValue,qiv l,m]
      simp [execOp,qN,Instr.alloc,k,newVar,newRow]
    · cases h
  · rename_i t p x;obtain ⟨g,b⟩:=h;unfold Q0 at b;split at b
    · rename_i a v;unfold jT at g;split at g
      · rename_i i l;obtain ⟨w',B,E⟩:=qir (P:=P) a _ 0 _ w b;have o:(qe ρ x).cells.size=i.size:=
          (show i.size=(qe ρ x).cells.size by simpa using g).symm
        have:(execOp (qe ρ) (qN dst (.store t p x) type)).run P w=.ok .skip w':=by
          simp [execOp,qN,Instr.storeAt,v,Instr.sureAddr,storeVar,qa9 l,o,B]
        unfold vK;rw [this];exact E
      · cases g
    · cases b
  · refine jQ ?_ h;simp [execOp,qN,Instr.makeFunc]
  · rename_i t ps;unfold vt at h;split at h
    · rename_i cells j;refine jQ ?_ h;have:=run_build (P:=P) w t (ps.map fun p=>(p.1,qe ρ p.2)) cells j;simp [execOp,qN,this]
    · cases h
  · rename_i t n ps;unfold vt at h;split at h
    · rename_i es s;obtain ⟨e,size⟩:=es;obtain ⟨C,y,A,F⟩:=h;refine jQ ?_ F;have:=qAr (P:=P) s C (ps:=ps.map fun p=>(p.1,qe ρ p.2)) (by simp only [Jz,JC];exact y)
        (fun p b=>by
          simp only [Jz,un] at b;obtain ⟨q,I,rfl⟩:=b;exact A q I) w
      simp only [execOp,qN,Sem.run_bind,this,Result.andThen_ok,Sem.run_pure];simp [List.flatMap_map]
    · cases h
  · rename_i c;unfold qgW at h;split at h
    · rename_i f j;obtain ⟨callee,args,H⟩:=c;simp only at j h;subst j;unfold vK;rw [qoa h.1];exact h.2
    · exact h
  · exact h
theorem qpo : ∀ (l : List (Option Nat)), qat l = true -> ∀ (i b t : Nat), l[i]? = some (some t) -> l[b]? = some (some t) -> i = b
  |[],_,i,_,_,h,_=>by simp at h
  | x :: l, h, i, b, t, e, a => by
    have k:qat l=true:=by
      cases x with
      |none=>simpa [qat] using h
      |some d=>simp only [qat,j0] at h;exact h.2
    have c:x=some t->∀j:Nat,l[j]? ≠some (some t):=by
      rintro rfl j g;simp only [qat,j0,uE,Vc,uS] at h;exact h.1 (JD g)
    cases i with
    |zero=>
      simp only [List.getElem?_cons_zero,ub] at e;cases b with
      |zero=>rfl
      |succ b=>simp only [List.getElem?_cons_succ] at a;exact absurd a (c e b)
    |succ i=>
      simp only [List.getElem?_cons_succ] at e;cases b with
      |zero=>simp only [List.getElem?_cons_zero,ub] at a;exact absurd e (c a i)
      |succ b=>
        simp only [List.getElem?_cons_succ] at a;rw [qpo l k i b t e a]
def qdn {ops:Array Oper} {n:Nat} (h:qbc ops n=true):Region1 n ops:=by
  simp only [qbc,j0,um] at h;have key:∀i t,vP ops i=some t->(qlH ops)[i]? =some (some t):=by
    intro i t a;simp only [vP,uc] at a;obtain ⟨o,e,c⟩:=a;simp [qlH,e,c]
  refine ⟨fun i g t a b=>qpo _ h.1 i g t (key i t a) (key g t b),fun i t a=>?_⟩;simp only [vP,uc] at a;obtain ⟨o,e,c⟩:=a;have:=h.2 o (by rw [Vu];exact Vt e);simpa [c] using this
def qO (w:World):qc w w:=Below.refl _ _
def fc (ro:Option Nat):Fence:={Fence.wide with round:=ro}
def qem (ro:Option Nat) (ops:Array Oper):Prop:=ro=none\/∀(i:Nat) (o:Oper),ops[i]? =some o->∀c:Call,o.op≠ .defer c
def qnR {ro:Option Nat} {ops:Array Oper} (h:qem ro ops) {i:Nat} {o:Oper} (a:ops[i]? =some o) (f:Operand->Value):Oper.semAt (fc ro).round f o=execOp f o:=by
  rcases h with rfl|h
  · rfl
  · exact Oper.semAt_eq _ _ _ (h i o a)
def qJU {ro:Option Nat} {n:Nat} {P:Program} {f:FuncId} {args:Array Value} {w:World} {R:Ending->World->Prop} (h:Calls P f args w R):CallsIn (fc ro) n P f args w R:=
  (callsIn_wide (n:=n)).2 h
def qAI {ro:Option Nat} {n:Nat} {P:Program} {l f:Nat} {tmps:Array Value} {as bd:Code} {w:World} {R:Ending->World->Prop} (h:RoundIn Fence.wide 0 P l f tmps as bd w R):RoundIn (fc ro) n P l f tmps as bd w R:=
  ⟨trivial,fun c cs _=>h.2 c cs (room_wide _)⟩
def qcT {ro : Option Nat} {P : Program} {ops : Array Oper} (b : qem ro ops) {w : World} {Q : Exit -> Act -> World -> Prop} : ∀ (l : List Nat) (a : Act) (K : Act -> Prop), (∀ a, K a -> Q .normal a w) -> PS P w ops l a K -> wpOpsIn (fc ro) 0 P ops Q l a w
  |[],_,_,c,h=>c _ h
  | i :: l, a, K, c, h => by
    simp only [PS] at h;simp only [wpOpsIn];split
    · rename_i e;simp only [e] at h;exact qcT b l a K c h
    · rename_i o e;simp only [e] at h;split
      · rename_i g;simp only [g,kk] at h;obtain ⟨v,j,k⟩:=h;simp only [Oper.wpIn,qnR b e,j w (qO w),Oper.uponIn];exact ⟨fun _ _=>trivial,qcT b l _ K c k⟩
      · rename_i g;simp only [g] at h;exact ⟨fun _ _=>trivial,qcT b l _ K c (by simpa using h)⟩
def qaa {F : Fence} {P : Program} {ops : Array Oper} {Q : Exit -> Act -> World -> Prop} : ∀ (l m : List Nat) (a : Act) (w : World),
    wpOpsIn F 0 P ops (Exit.then (wpOpsIn F 0 P ops Q m) Q) l a w->wpOpsIn F 0 P ops Q (l++m) a w
  |[],_,_,_,h=>h
  | i :: l, m, a, w, h => by
    simp only [List.cons_append,wpOpsIn] at h⊢;split
    · rename_i e;simp only [e] at h;exact qaa l m a w h
    · rename_i o e;simp only [e] at h;split
      · rename_i g;simp only [g,kk] at h;simp only [Oper.wpIn] at h⊢;refine ⟨h.1, ?_⟩
        replace h:=h.2
        generalize (Oper.semAt F.round a.eval o).run P w=r at h⊢;cases r with
        |ok x w'=>
          cases x<;>simp only [Oper.uponIn] at h⊢ <;>first|exact h|exact qaa l m _ _ h|skip
          · refine ⟨h.1,h.2.mono fun e j b=>?_⟩;cases e with
            |returned v=>exact qaa l m _ _ b
            |panicked c=>exact b
            |outgrown=>exact b
          · refine ⟨h.1,h.2.mono fun e j b=>?_⟩;cases e with
            |returned v=>exact qaa l m _ _ b
            |panicked c=>exact b
            |outgrown=>exact b
          · exact ⟨h.1,h.2.mono fun v j b=>qaa l m _ _ b⟩
        |halt x w'=>cases x<;>simp only [Oper.uponIn] at h⊢ <;>exact h
      · rename_i g;simp only [g] at h;refine ⟨?_,qaa l m _ _ ?_⟩
        · exact (by simpa using h:_/\_).1
        · exact (by simpa using h:_/\_).2
def qeq {F : Fence} {P : Program} {ops : Array Oper} {Q1 Q2 : Exit -> Act -> World -> Prop} (k : ∀ e a w, Q1 e a w -> Q2 e a w) : ∀ l a w, wpOpsIn F 0 P ops Q1 l a w -> wpOpsIn F 0 P ops Q2 l a w := by
  intro l
  induction l with
  |nil=>intro a w h;exact k _ _ _ h
  |cons i l b=>
    intro a w h;simp only [wpOpsIn] at h⊢;split
    · rename_i o;simp only [o] at h;exact b _ _ h
    · rename_i s o;simp only [o] at h;split
      · rename_i j;simp only [j,kk] at h;simp only [Oper.wpIn] at h⊢;refine ⟨h.1, ?_⟩
        replace h:=h.2
        generalize (Oper.semAt F.round a.eval s).run P w=r at h⊢;cases r with
        |ok x w'=>
          cases x<;>simp only [Oper.uponIn] at h⊢ <;>first|exact h|exact b _ _ h|skip
          · refine ⟨h.1,h.2.mono fun e p g=>?_⟩;cases e with
            |returned v=>exact b _ _ g
            |panicked c=>exact k _ _ _ g
            |outgrown=>obtain ⟨a0,w0,m⟩:=g;exact ⟨a0,w0,k _ _ _ m⟩
          · refine ⟨h.1,h.2.mono fun e p g=>?_⟩;cases e with
            |returned v=>exact b _ _ g
            |panicked c=>exact k _ _ _ g
            |outgrown=>obtain ⟨a0,w0,m⟩:=g;exact ⟨a0,w0,k _ _ _ m⟩
          · exact ⟨h.1,h.2.mono fun v p g=>b _ _ g⟩
        |halt x w'=>cases x<;>simp only [Oper.uponIn] at h⊢ <;>first|exact k _ _ _ h|exact h
      · rename_i j;simp only [j] at h;refine ⟨?_,b _ _ ?_⟩
        · exact (by simpa using h:_/\_).1
        · exact (by simpa using h:_/\_).2
def Agree.put {n:Nat} {V:List Nat} {ρ:qa} {a:Act} (h:Agree n V ρ a) {d:Nat} (j:d∈V) (v:Value):Agree n V (qw ρ d v) (a.put (some d) v):=by
  refine ⟨by simp [Act.put,h.size], ?_,h.lt,h.big⟩;have g:=h.lt d j;have c:=h.ne j;rw [h.env];funext i;simp only [qw,wU,Act.put];by_cases b:i=d
  · subst b;simp [j,h.size,g,Array.getD_eq_getD_getElem?,c]
  · have:d≠i:=fun e=>b e.symm;simp [b,Array.getD_eq_getD_getElem?,this]
def Agree.putO {n:Nat} {V:List Nat} {ρ:qa} {a:Act} (h:Agree n V ρ a) {d:Option Nat} (b:∀t,d=some t->t∈V) (v:Value):Agree n V (qn ρ d v) (a.put d v):=by
  cases d with
  |none=>exact h
  |some d=>exact h.put (b d rfl) v
def yT (a:Act) (d:Option Nat) (v:Value):(a.put d v).defers=a.defers:=by cases d<;>rfl
def qcv {n : Nat} {V : List Nat} {ρ : qa} {a : Act} {ops : Array Oper} {g : Option (Nat × Bool)} {j : Nat} {p : Option (Nat × Bool)} (h : Agree n V ρ a) (b : tg ops V g j = some p) :
    vF ops g a=gd ρ p/\xF g j=true:=by
  unfold tg at b;split at b
  · cases b;exact ⟨rfl,rfl⟩
  · rename_i i s;split at b
    · rename_i t u;split at b
      · rename_i v;obtain ⟨x,o⟩:=v;cases b;have c:t∈V:=by simpa using x
        have k:=h.lt t c;refine ⟨?_,by simpa [xF] using o⟩;have l:((ops[i]?).bind (·.dst))=some t:=u;have e:ρ t=a.tmps.getD t undef:=h.at c;have m:t<a.tmps.size:=by rw [h.size];exact k
        simp only [vF,gd,yielded,l,Option.bind_some,e,Array.getD_eq_getD_getElem?,uT m,Option.getD_some];cases a.tmps[t] <;>simp
      · cases b
    · cases b
def Agree.root {n : Nat} {V : List Nat} {ρ : qa} {a p : Act} {ops : Array Oper} {j k : Nat} {o : Oper} (h : Agree n V ρ a) (l : Fr ops j (k + 1) a p) (b : qcP ops V j k) (B : ops[k]? = some o) {d : Nat}
    (u:o.dst=some d) (g:d∈V) {v:Value} (z:p.tmps[d]? =some v):Agree n V (qw ρ d v) p:=by
  refine ⟨l.size.trans h.size, ?_,h.lt,h.big⟩;have c:=h.ne g;rw [h.env];funext i;simp only [qw,wU,l.defers];by_cases m:i=d
  · subst m;simp [g,Array.getD_eq_getD_getElem?,z,c]
  · simp only [m,km];split
    · rfl
    split
    · rename_i t;have:=l.keep i fun x A y e=>by
        by_cases s:x=k
        · subst s;have:vP ops x=some d:=by simp [vP,B,u]
          rw [this] at e;cases e;exact m rfl
        · exact b x A (by omega) i e t
      simp only [Array.getD_eq_getD_getElem?,this]
    · rfl
def qIZ (f:Operand->Value) (o:Oper):execOp f o=execOp f (qN o.dst o.op o.type):=by
  obtain ⟨dst,op,type,pos,after,guard⟩:=o;cases op<;>rfl
theorem qlh {n:Nat} {V:List Nat} {ρ:qa} {a:Act} {o:Oper} (h:Agree n V ρ a) (c:qaM V o=true):execOp a.eval o=execOp (qe ρ) (qN o.dst o.op o.type):=by
  rw [<-qIZ];simp only [qaM,j0,um] at c;refine execOp_congr o (fun cs b e=>?_) fun x j=>?_
  · rw [e] at c;exact absurd c.1.2 (by simp)
  · have:=c.1.1 x (by simpa using j);cases x with
    |tmp t=>
      have i:t∈V:=by simpa [xl] using this
      simp [qe,h.at i,Act.eval]
    |const v=>rfl
    |global g=>rfl
    |func f=>rfl
def qls {V:List Nat} {o:Oper} (a:qaM V o=true):∀t,o.dst=some t->t∈V:=by
  intro t b;simp only [qaM,j0] at a;have:=a.2;rw [b] at this;simpa using this
section
variable {P:Program} {ops:Array Oper} {V:List Nat} {n:Nat}
theorem qcS (Q:Ks):∀(l m:List St) (K:qa->World->Prop) (ρ:qa) (w:World),je P Q (l++m) K ρ w=je P Q l (je P Q m K) ρ w
  |[],_,_,_,_=>rfl
  |s::l,m,K,ρ,w=>by
    have:je P Q (l++m) K=je P Q l (je P Q m K):=by funext ρ w;exact qcS Q l m K ρ w
    simp only [List.cons_append,je,this]
theorem Agree.defer {n:Nat} {V:List Nat} {ρ:qa} {a:Act} (h:Agree n V ρ a) (d:Deferred):Agree n V (qw ρ gS (y7 d (ρ gS))) {a with defers:=d::a.defers}:=by
  refine ⟨h.size, ?_,h.lt,h.big⟩;rw [h.ds,qJB,h.env];funext i;simp only [qw,wU];split
  · rfl
  · rfl
theorem qeQ (cx : Cx) (hP : cx.P = P) (hV : cx.V = V) (hn : cx.n = n) (hr : Region1 n ops) {ro : Option Nat} (F : qem ro ops) (Q : Ks) (Q' : Exit -> Act -> World -> Prop)
    (hpn:∀ρ c a w,vG cx a->Agree n V ρ a->Q.pn ρ c w->Q' (.panic c) a w) (J:Q.og->LetsOut Q') (R:Q.df->cx.D≠[]):
    ∀(t k:Nat) (l:List St),wG P ops V t k=some l->∀(K:qa->World->Prop) (ρ:qa) (a:Act) (w:World),Agree n V ρ a->vG cx a->je P Q l K ρ w->
      wpOpsIn (fc ro) 0 P ops (Exit.then (fun y w'=>vG cx y/\∃m,Agree n V m y/\K m w') Q') (List.range' 0 k) a w
  |t,0,l,h,K,ρ,a,w,ha,hD,hw=>by
    have:l=[]:=by cases t<;>simpa [wG] using h.symm
    subst this;exact ⟨hD,ρ,ha,hw⟩
  |0,k+1,l,h,_,_,_,_,_,_,_=>by simp [wG] at h
  | t + 1, k + 1, l, h, K, ρ, a, w, ha, hD, hw => by
    simp only [wG] at h;split at h
    · cases h
    · rename_i o X;split at h
      ·
        rename_i e j d hpx hd;split at h
        · rename_i hdV;have L:d∈V:=by simpa using hdV
          simp only [uc,ua] at h;obtain ⟨g,hg,l',W,rfl⟩:=h;have Y:=qfh hr _ _ _ _ hpx;have lj:=Y.le;have z:List.range' 0 (k+1)=List.range' 0 j++List.range' j (k+1 - j):=by
            have:=qbe (i:=0) (j:=j) (k:=k+1) (by omega) (by omega);simpa using this
          rw [z];refine qaa _ _ _ _ ?_;have ih:=qeQ cx hP hV hn hr F Q (Exit.then (wpOpsIn (fc ro) 0 P ops (Exit.then (fun y w'=>vG cx y/\∃m,Agree n V m y/\K m w') Q') (List.range' j (k+1 - j))) Q')
            (fun ρ c a w s h2 h3=>hpn ρ c a w s h2 h3) (fun s=>J s) R t j l' W (je P Q [.asg g d e] K) ρ a w ha hD (by rw [<-qcS];exact hw)
          refine qeq ?_ _ _ _ ih;intro ex O w1 s;cases ex with
          |normal=>
            obtain ⟨B,u,p,b⟩:=s;obtain ⟨E,hglt⟩:=qcv p hg;simp only [Exit.then];simp only [je,St.wp,xp] at b;by_cases A:gd u g=true
            · simp only [A,kk] at b;cases S:e.ev u w1 with
              |none=>simp only [S] at b
              |some v=>
                simp only [S] at b;exact qcT F _ O (fun y=>vG cx y/\∃m,Agree n V m y/\K m w1) (fun _ h=>h)
                  (Y.yes o X u w1 O v p (by rw [E];exact A) S _ fun y hf hv=>⟨fun e=>hf.defers.trans (B e),qw u d v,p.root hf Y.free X hd L (hv d hd),b⟩)
            · simp only [A] at b;exact qcT F _ O (fun y=>vG cx y/\∃m,Agree n V m y/\K m w1) (fun _ h=>h)
                (Y.no o X w1 O p.size (by rw [E];simpa using A) _ fun y hf hv=>⟨fun e=>hf.defers.trans (B e),qw u d undef,p.root hf Y.free X hd L (hv d hd),by simpa using b⟩)
          |exit i=>exact s
          |goto i=>exact s
          |ret=>exact s
          |panic c=>exact s
          |outgrown=>exact s
        · cases h
      ·
        split at h
        · rename_i aa;simp only [uc,ua] at h;obtain ⟨g,hg,l',W,rfl⟩:=h;have z:List.range' 0 (k+1)=List.range' 0 k++[k]:=by
            have:=qao (j:=0) (k:=k) (by omega);simpa using this
          rw [z];refine qaa _ _ _ _ ?_;have ih:=qeQ cx hP hV hn hr F Q (Exit.then (wpOpsIn (fc ro) 0 P ops (Exit.then (fun y w'=>vG cx y/\∃m,Agree n V m y/\K m w') Q') [k]) Q')
            (fun ρ c a w s h2 h3=>hpn ρ c a w s h2 h3) (fun s=>J s) R t k l' W (je P Q [.eff g o.dst o.op o.type] K) ρ a w ha hD (by rw [<-qcS];exact hw)
          refine qeq ?_ _ _ _ ih;intro ex O w1 s;cases ex with
          |normal=>
            obtain ⟨B,u,p,b⟩:=s;obtain ⟨E,_⟩:=qcv p hg;have H:=qls aa;have hex:=qlh p aa;simp only [Exit.then,wpOpsIn,X,qac];simp only [je,St.wp] at b;by_cases A:gd u g=true
            · simp only [A,kk] at b;have C:vF ops o.guard O=true:=by rw [E];exact A
              simp only [C,kk];have b:=qwx b;unfold vK at b;have I:∀v Z,K (qn u o.dst v) Z->Exit.then (fun y w'=>vG cx y/\∃m,Agree n V m y/\K m w') Q' .normal (O.put o.dst v) Z:=
                fun v Z hk=>⟨fun e=>(yT _ _ _).trans (B e),_,p.putO H v,hk⟩
              refine ⟨fun _ _=>trivial, ?_⟩;rw [qnR F X,hex];generalize (execOp (qe u) (qN o.dst o.op o.type)).run P w1=r at b;cases r with
              |ok x w'=>
                cases x<;>simp only [QN,Oper.uponIn] at b⊢ <;>first|exact I _ _ b|(cases b;done)|skip
                · refine ⟨fun h0=>(by cases h0),qJU (b.mono fun e Z U=>?_)⟩;cases e with
                  |returned v=>exact I _ _ U
                  |panicked c=>exact hpn _ _ _ _ B p U
                  |outgrown=>exact J U
                · refine ⟨fun h0=>(by cases h0),qAI (b.2.mono fun e Z U=>?_)⟩;cases e with
                  |returned v=>exact I _ _ U
                  |panicked c=>exact hpn _ _ _ _ B p U
                  |outgrown=>exact J U
                · refine ⟨fun e=>absurd e (R b.1),_,(p.defer _).putO H undef,b.2⟩
              |halt x w'=>
                cases x<;>simp only [QN,Oper.uponIn] at b⊢ <;>first|(cases b;done)|exact hpn _ _ _ _ B p b
            · simp only [A] at b;have C:vF ops o.guard O=false:=by rw [E];simpa using A
              simp only [C,uf,km];exact ⟨fun _ _=>trivial,fun e=>(yT _ _ _).trans (B e),_,p.putO H undef,by simpa using b⟩
          |exit i=>exact s
          |goto i=>exact s
          |ret=>exact s
          |panic c=>exact s
          |outgrown=>exact s
        · cases h
end
section
variable {P:Program} {ops:Array Oper} {V:List Nat} {n:Nat}
def QS (P : Program) (C : World -> Prop) (ops : Array Oper) : List Nat -> Act -> (Act -> Prop) -> Prop
  |[],a,K=>K a
  |i::is,a,K=>match ops[i]? with
    |none=>QS P C ops is a K
    |some o=>if Region.wanted o (yielded ops a.tmps) then o.quiet P a C (fun a'=>QS P C ops is a' K) else QS P C ops is (a.put o.dst undef) K
theorem qek {C : World -> Prop} : ∀ (l m : List Nat) (a : Act) (K : Act -> Prop), QS P C ops l a (fun c => QS P C ops m c K) -> QS P C ops (l ++ m) a K
  |[],_,_,_,h=>h
  | i :: l, m, a, K, h => by
    simp only [List.cons_append,QS] at h⊢;split
    · rename_i e;simp only [e] at h;exact qek l m a K h
    · rename_i o e;simp only [e] at h;split
      · rename_i b;simp only [b,kk] at h;exact Oper.quiet_mono (fun c g=>qek l m c K g) h
      · rename_i b;simp only [b] at h;exact qek l m _ K (by simpa using h)
theorem qcN {C : World -> Prop} : ∀ (l : List Nat) (a : Act) (K K' : Act -> Prop), (∀ a, K a -> K' a) -> QS P C ops l a K -> QS P C ops l a K'
  |[],_,_,_,b,h=>b _ h
  | i :: l, a, K, K', b, h => by
    simp only [QS] at h⊢;split
    · rename_i e;simp only [e] at h;exact qcN l a K K' b h
    · rename_i o e;simp only [e] at h;split
      · rename_i c;simp only [c,kk] at h;exact Oper.quiet_mono (fun g j=>qcN l g K K' b j) h
      · rename_i c;simp only [c] at h;exact qcN l _ K K' b (by simpa using h)
theorem qhf {w : World} : ∀ (l : List Nat) (a : Act) (K : Act -> Prop), PS P w ops l a K -> QS P (qc w) ops l a K
  |[],_,_,h=>h
  | i :: l, a, K, h => by
    simp only [PS] at h;simp only [QS];split
    · rename_i e;simp only [e] at h;exact qhf l a K h
    · rename_i o e;simp only [e] at h;split
      · rename_i b;simp only [b,kk] at h;obtain ⟨v,j,g⟩:=h;refine ⟨v,fun w' c=>?_,qhf l _ K g⟩;simp [Oper.quietAt,j w' c,Oper.quietUpon]
      · rename_i b;simp only [b] at h;exact qhf l _ K (by simpa using h)
theorem qhv {C:World->Prop}:∀(l:List Oper) (k:Nat) (a:Act) (K:Act->Prop),(∀j,l[j]? =ops[k+j]?)->QS P C ops (List.range' k l.length) a K->wpQuiet P ops C K l a
  |[],_,_,_,_,h=>h
  | o :: l, k, a, K, e, h => by
    have g:ops[k]? =some o:=by simpa using (e 0).symm
    have b:∀j,l[j]? =ops[k+1+j]? :=fun j=>by have:=e (j+1);simpa [uN,Nat.add_comm 1 j] using this
    simp only [List.length_cons,List.range'_succ,QS,g] at h;simp only [wpQuiet];split
    · rename_i c;simp only [c,kk] at h;exact Oper.quiet_mono (fun i m=>qhv l (k+1) i K b m) h
    · rename_i c;simp only [c] at h;exact qhv l (k+1) _ K b (by simpa using h)
theorem qff (w:World):∀(l m:List St) (K:qa->Prop) (ρ:qa),qM P w (l++m) K ρ=qM P w l (qM P w m K) ρ
  |[],_,_,_=>rfl
  | .asg g d e::l,m,K,ρ=>by
    simp only [List.cons_append,qM,qff w l m K]
  | .eff g dst op type::l,m,K,ρ=>by
    simp only [List.cons_append,qM,qff w l m K]
theorem qiN (cx : Cx) (Y : Region1 n ops) (w : World) :
    ∀(m k:Nat) (l:List St),wG P ops V m k=some l->∀(K:qa->Prop) (ρ:qa) (a:Act),Agree n V ρ a->vG cx a->qM P w l K ρ->
      QS P (qc w) ops (List.range' 0 k) a (fun W=>vG cx W/\∃F,Agree n V F W/\K F)
  |m,0,l,h,K,ρ,a,R,U,Q=>by
    have:l=[]:=by cases m<;>simpa [wG] using h.symm
    subst this;exact ⟨U,ρ,R,Q⟩
  |0,k+1,l,h,_,_,_,_,_,_=>by simp [wG] at h
  | m + 1, k + 1, l, h, K, ρ, a, R, U, Q => by
    simp only [wG] at h;split at h
    · cases h
    · rename_i o O;split at h
      · rename_i e j d Z S;split at h
        · rename_i hdV;have z:d∈V:=by simpa using hdV
          simp only [uc,ua] at h;obtain ⟨g,hg,X,C,rfl⟩:=h;have E:=qfh Y _ _ _ _ Z;have lj:=E.le;have s:List.range' 0 (k+1)=List.range' 0 j++List.range' j (k+1 - j):=by
            have:=qbe (i:=0) (j:=j) (k:=k+1) (by omega) (by omega);simpa using this
          rw [s];refine qek _ _ _ _ ?_;refine qcN _ _ _ _ ?_ (qiN cx Y w m j X C (qM P w [.asg g d e] K) ρ a R U (by rw [<-qff];exact Q));rintro L ⟨y,t,c,b⟩;obtain ⟨x,hglt⟩:=qcv c hg;simp only [qM,xp] at b;refine qhf _ _ _ ?_;by_cases p:gd t g=true
          · simp only [p,kk] at b;cases B:e.ev t w with
            |none=>simp only [B] at b
            |some v=>
              simp only [B] at b;exact E.yes o O t w L v c (by rw [x];exact p) B _ fun W J I=>⟨fun e=>J.defers.trans (y e),qw t d v,c.root J E.free O S z (I d S),b⟩
          · simp only [p] at b;exact E.no o O w L c.size (by rw [x];simpa using p) _ fun W J I=>⟨fun e=>J.defers.trans (y e),qw t d undef,c.root J E.free O S z (I d S),by simpa using b⟩
        · cases h
      · split at h
        · rename_i H;simp only [uc,ua] at h;obtain ⟨g,hg,X,C,rfl⟩:=h;have s:List.range' 0 (k+1)=List.range' 0 k++[k]:=by
            have:=qao (j:=0) (k:=k) (by omega);simpa using this
          rw [s];refine qek _ _ _ _ ?_;refine qcN _ _ _ _ ?_ (qiN cx Y w m k X C (qM P w [.eff g o.dst o.op o.type] K) ρ a R U (by rw [<-qff];exact Q));rintro L ⟨y,t,c,b⟩;obtain ⟨x,_⟩:=qcv c hg;have A:=qls H;have hex:=qlh c H;simp only [QS,O,qac];simp only [qM] at b;by_cases p:gd t g=true
          · simp only [p,kk] at b;have u:vF ops o.guard L=true:=by rw [x];exact p
            simp only [u,kk];obtain ⟨v,I,hk⟩:=b;refine ⟨v,fun w' hw'=>?_,fun e=>(yT _ _ _).trans (y e),_,c.putO A v,hk⟩;simp only [Oper.quietAt,hex];exact qBp I w' hw'
          · simp only [p] at b;have u:vF ops o.guard L=false:=by rw [x];simpa using p
            simp only [u,uf,km];exact ⟨fun e=>(yT _ _ _).trans (y e),_,c.putO A undef,by simpa using b⟩
        · cases h
end
def qfF {cx:Cx} {K:qa->World->Prop} {Q:Ks} (h:Q.og):LetsOut (kV cx K Q):=⟨⟨#[],[]⟩,default,h⟩
def qjc (ops:Array Oper):Bool:=ops.toList.all fun o=>match o.op with| .defer _=>false|_=>true
def kH:Code->Bool
  | .skip=>true
  | .region _ ops draw=> !draw&&qjc ops
  | .seq a b| .cond _ a b=>kH a&&kH b
  | .block _ a| .loop a=>kH a
  | .exit _| .ret=>true
  |_=>false
def qDt {ops:Array Oper} (h:qjc ops=true) (ro:Option Nat):qem ro ops:=by
  refine .inr fun i o b c a=>?_;simp only [qjc,um] at h;have:=h o (by rw [Vu];exact Vt b);rw [a] at this;cases this
def qbd {c:Code} {P:Program} {Q:Exit->Act->World->Prop} {a:Act} {w:World} (h:c.wp P Q a w):c.wpIn (fc none) 0 P Q a w:=wpIn_wide.2 h
theorem qwS (cx : Cx) (ro : Option Nat) (k : List Nat) : ∀ (c : Code) (ir : IR), jo cx.P cx.n cx.V k c = some ir -> (ro = none \/ (kH c = true /\ k = [])) -> ∀ (K : qa -> World -> Prop) (Q : Ks) (ρ : qa) (a : Act) (w : World),
    (Q.df->cx.D≠[])->Agree cx.n cx.V ρ a->vG cx a->ir.wp cx K Q ρ w->c.wpIn (fc ro) 0 cx.P (kV cx K Q) a w:=by
  intro c
  induction c with
  |skip=>
    intro ir h g K Q ρ a w j o p m;simp only [jo,ub] at h;subst h;exact wpIn_skip ⟨p,ρ,o,m⟩
  | region id ops draw =>
    intro ir h g K Q ρ a w j o p m;simp only [jo] at h;split at h
    · rename_i hc;rcases g with rfl|⟨_,rfl⟩
      · cases h;exact qbd (m a o p j)
      · simp at hc
    · split at h
      · rename_i ac;have hr:=qdn ac;split at h
        · cases h
        · rename_i l hl;split at h
          · rename_i R;subst R;split at h
            · rename_i hB;rcases g with rfl|⟨E,_⟩
              · simp only [j0] at hB;cases h;refine qbd (wp_region_quiet (C:=qc w) hB.2 hB.1 ⟨rfl,rfl,rfl,j1 _,fun _ _=>rfl⟩ ?_);have h1:=qiN (P:=cx.P) cx hr w _ _ l hl (fun t=>∀w',qc w w'->K t w') ρ a o p m;refine qhv ops.toList 0 a _ (by simp) ?_;refine qcN _ _ _ _ ?_ (by simpa using h1);rintro F ⟨B,t,A,J⟩ w' hw';exact ⟨B,t,A,J w' hw'⟩
              · simp [kH] at E
            · cases h
          · rename_i R;have aa:draw=false:=by simpa using R
            subst aa;cases h;have hnd:qem ro ops:=by
              rcases g with rfl|⟨E,_⟩
              · exact .inl rfl
              · simp only [kH,j0] at E;exact qDt E.2 ro
            refine wpIn_region ?_;have h1:=qeQ (P:=cx.P) cx rfl rfl rfl hr hnd Q (kV cx K Q) (fun ρ c a w h1 h2 h3=>⟨h1,ρ,h2,h3⟩) qfF j _ _ l hl K ρ a w o p m;rw [Vk];refine qeq ?_ _ _ _ h1;intro e F w' z;cases e<;>exact z
      · cases h
  |seq x y X O=>
    intro ir h g K Q ρ a w j o p m;have u:ro=none\/(kH x=true/\k=[]):=g.imp id fun h=>by simp only [kH,j0] at h;exact ⟨h.1.1,h.2⟩
    have H:ro=none\/(kH y=true/\k=[]):=g.imp id fun h=>by simp only [kH,j0] at h;exact ⟨h.1.2,h.2⟩
    simp only [jo] at h;split at h
    · rename_i W iy U hy;cases h;refine wpIn_seq (wpIn_mono (X W U u _ Q ρ a w j o p m) ?_);intro e F w' z;cases e with
      |normal=>obtain ⟨B,t,A,J⟩:=z;exact O iy hy H K Q t F w' j A B J
      |exit i=>exact z
      |goto i=>exact z
      |ret=>exact z
      |panic c=>exact z
      |outgrown=>exact z
    · cases h
  |cond c x y X O=>
    intro ir h g K Q ρ a w j o p m;have u:ro=none\/(kH x=true/\k=[]):=g.imp id fun h=>by simp only [kH,j0] at h;exact ⟨h.1.1,h.2⟩
    have H:ro=none\/(kH y=true/\k=[]):=g.imp id fun h=>by simp only [kH,j0] at h;exact ⟨h.1.2,h.2⟩
    simp only [jo] at h;split at h
    · cases h
    · rename_i hc;have hc':xl cx.V c=false:=by simpa using hc
      split at h
      · rename_i W iy U hy;cases h;simp only [IR.wp,Je] at m;cases S:(kW c).ev ρ w with
        |none=>simp only [S] at m
        |some v=>
          have Z:=qfH o hc' S;simp only [S] at m;split at m
          · rename_i e;cases e;exact wpIn_cond_true Z (X W U u K Q ρ a w j o p m)
          · rename_i e;cases e;exact wpIn_cond_false Z (O iy hy H K Q ρ a w j o p m)
          · cases m
      · cases h
  |block id x ih=>
    intro ir h g K Q ρ a w j o p m;have u:ro=none\/(kH x=true/\k=[]):=g;simp only [jo] at h;split at h
    · rename_i W U;cases h;refine wpIn_block (wpIn_mono (ih W U u _ {Q with ex:=fun i=>if i=id then K else Q.ex i} ρ a w j o p m) ?_);intro e F w' z;cases e with
      |normal=>exact z
      |exit i=>
        obtain ⟨B,t,A,J⟩:=z;simp only [Exit.inBlock];split
        · rename_i e;subst e;simp only [kk] at J;exact ⟨B,t,A,J⟩
        · rename_i e;simp only [e,km] at J;exact ⟨B,t,A,J⟩
      |goto i=>exact z
      |ret=>exact z
      |panic c=>exact z
      |outgrown=>exact z
    · cases h
  |loop x ih=>
    intro ir h g K Q ρ a w j o p m;have u:ro=none\/(kH x=true/\k=[]):=g;simp only [jo] at h;split at h
    · rename_i W U;cases h;obtain ⟨I,μ,h0,L⟩:=m;refine wpIn_loop (fun F w'=>vG cx F/\∃t,Agree cx.n cx.V t F/\I t w') (fun F w'=>μ (wU cx.V F) w') ⟨p,ρ,o,h0⟩ ?_;rintro a1 w1 ⟨hD1,Y,ab,hI⟩;refine wpIn_mono (ih W U u _ Q Y a1 w1 j ab hD1 (L Y w1 hI)) ?_;intro e F w' z;cases e with
      |normal=>
        obtain ⟨B,t,A,J,hm⟩:=z;refine ⟨⟨B,t,A,J⟩, ?_⟩;show μ (wU cx.V F) w'<μ (wU cx.V a1) w1;rw [<-A.env,<-ab.env];exact hm
      |exit i=>exact z
      |goto i=>exact z
      |ret=>exact z
      |panic c=>exact z
      |outgrown=>exact z
    · cases h
  |exit id=>
    intro ir h g K Q ρ a w j o p m;simp only [jo,ub] at h;subst h;exact wpIn_exit ⟨p,ρ,o,m⟩
  |ret=>
    intro ir h g K Q ρ a w j o p m;simp only [jo,ub] at h;subst h;exact wpIn_ret ⟨p,ρ,o,m⟩
  |rangeFunc f ps asg body _ _=>
    intro ir h g K Q ρ a w j o p m;simp only [jo,ub] at h;subst h;rcases g with rfl|⟨E,_⟩
    · exact qbd (m a o p j)
    · cases E
  |scope b _=>
    intro ir h g K Q ρ a w j o p m;simp only [jo,ub] at h;subst h;rcases g with rfl|⟨E,_⟩
    · exact qbd (m a o p j)
    · cases E
  |label l=>
    intro ir h g K Q ρ a w j o p m;simp only [jo,ub] at h;subst h;rcases g with rfl|⟨E,_⟩
    · exact qbd (m a o p j)
    · cases E
  |goto l=>
    intro ir h g K Q ρ a w j o p m;simp only [jo,ub] at h;subst h;rcases g with rfl|⟨E,_⟩
    · exact qbd (m a o p j)
    · cases E
  |refuse s=>
    intro ir h g K Q ρ a w j o p m;simp only [jo,ub] at h;subst h;rcases g with rfl|⟨E,_⟩
    · exact qbd (m a o p j)
    · cases E
def qgT (cx:Cx) (b:List Nat) (c:Code) (ir:IR) (h:jo cx.P cx.n cx.V b c=some ir) (K:qa->World->Prop) (Q:Ks) (ρ:qa) (a:Act) (w:World)
    (e:Q.df->cx.D≠[]) (j:Agree cx.n cx.V ρ a) (g:vG cx a) (i:ir.wp cx K Q ρ w):c.wp cx.P (kV cx K Q) a w:=
  wpIn_wide.1 (qwS cx none b c ir h (.inl rfl) K Q ρ a w e j g i)
end Go.Eng
