/- Lemmas for a claim about layer 2 (tree). No conditions but those they state. -/
import Derived.Test.YtbcmiempigoooaaGreatDoorEah
import Derived.WideLaws
import Derived.Maps.RangeRun
set_option linter.all false
namespace Go.Eng
open Go.RowKit
def qqx:Op->Bool
  | .call {callee:=.builtin .recover,args,.. }=>args.isEmpty
  |_=>false
def qiI (ops:Array Oper):Bool:=match ops[0]? with|some o=>qqx o.op&&o.guard.isNone|none=>false
def wF (v:Value) (ops:Array Oper):Array Oper:=match ops[0]? with|some o=>ops.setIfInBounds 0 {o with op:=.move (.const v)}|none=>ops
def qa3 (v:Value):Code->Code
  | .seq a b=> .seq (qa3 v a) b
  | .region id ops d=> .region id (wF v ops) d
  |c=>c
def xC:FrameMode->Value
  | .panicking ({v,recovered:=false,goexit:=false}::_)=>v
  |_=> .nilIface
def xN:FrameMode->FrameMode
  | .panicking ({v,recovered:=false,goexit:=false}::older)=> .panicking ({v,recovered:=true}::older)
  |u=>u
def qBd (c : Frame) (cs : List Frame) : (match recoverD (c :: cs) with | some (v, cs') => (v, cs') | none => (Value.nilIface, c :: cs)) = (xC c.mode, { c with mode := xN c.mode } :: cs) := by
  unfold recoverD;split
  · rename_i v cs' h;simp only at h;split at h
    · rename_i v0 b e;cases h;simp [e,xC,xN]
    · cases h
  · rename_i h;simp only at h;split at h
    · cases h
    · rename_i e;have i:xC c.mode=.nilIface/\xN c.mode=c.mode:=by
        unfold xC xN;constructor
        · split
          · rename_i v b g;exact absurd g (e v b)
          · rfl
        · split
          · rename_i v b g;exact absurd g (e v b)
          · rfl
      rw [i.1,i.2]
def qnn {v:Value} {ops:Array Oper} {i:Nat} (b:i≠0):(wF v ops)[i]? =ops[i]? :=by
  unfold wF;split
  · rw [VZ (Ne.symm b)]
  · rfl
def qzk (v:Value) (ops:Array Oper):(wF v ops).size=ops.size:=by unfold wF;split<;>simp
def qnm {v:Value} {ops:Array Oper} {o:Oper} (h:ops[0]? =some o):(wF v ops)[0]? =some {o with op:=.move (.const v)}:=by
  have b:=(uq.1 h).1;unfold wF;simp only [h];rw [V0 b]
def qzj (v:Value) (ops:Array Oper) (i:Nat):((wF v ops)[i]?).bind (·.dst)=(ops[i]?).bind (·.dst):=by
  by_cases b:i=0
  · subst b;cases h:ops[0]? with
    |none=>unfold wF;simp [h]
    |some o=>rw [qnm h];rfl
  · rw [qnn b]
def qzi (v:Value) (ops:Array Oper) (t:Array Value):yielded (wF v ops) t=yielded ops t:=by
  funext i;simp only [yielded,qzj]
def qmu {F:Fence} {P:Program} {v:Value} {ops:Array Oper} {Q:Exit->Act->World->Prop}:∀(l:List Nat),(∀i∈l,i≠0)->wpOpsIn F 0 P (wF v ops) Q l=wpOpsIn F 0 P ops Q l
  |[],_=>rfl
  |i::l,h=>by
    have b:=qmu (F:=F) (P:=P) (v:=v) (ops:=ops) (Q:=Q) l fun x c=>h x (by simp [c]);funext a w;simp only [wpOpsIn,qnn (h i (by simp)),qzi,b]
section
variable {P:Program} {Q:Exit->Act->World->Prop} {a:Act} {w:World}
theorem qyc {id : Nat} {ops : Array Oper} (c : Frame) (cs : List Frame) (i : qiI ops = true) (h : wpOpsIn (fc none) 0 P (wF (xC c.mode) ops) Q (List.range (wF (xC c.mode) ops).size) a w) :
    (Code.region id ops false).wpSIn Fence.wide 0 P (fun e J cs' w'=>cs'={c with mode:=xN c.mode}::cs/\Q e J w') a (c::cs) w:=by
  intro b k R u Y H;unfold qiI at i;cases y:ops[0]? with
  |none=>simp [y] at i
  |some o=>
    simp only [y,j0] at i;obtain ⟨l,V⟩:=i;have C:o.guard=none:=by simpa using V
    have S:=(uq.1 y).1;obtain ⟨m,O⟩:∃m,ops.size=m+1:=⟨ops.size - 1,by omega⟩;rw [qzk,O,List.range_succ_eq_map] at h;simp only [wpOpsIn,qnm y] at h;have I:∀t,Region.wanted {o with op:=Op.move (.const (xC c.mode))} (yielded (wF (xC c.mode) ops) t)=true:=fun t=>by simp [Region.wanted,C]
    rw [if_pos (I _)] at h;simp only [Oper.wpIn] at h;have L:(Oper.semAt (fc none).round a.eval {o with op:=Op.move (.const (xC c.mode))}).run P w=.ok (.value (xC c.mode)) w:=by
      show (execOp a.eval {o with op:=Op.move (.const (xC c.mode))}).run P w=_;simp [execOp,Act.eval]
    rw [L] at h;simp only [Oper.uponIn] at h;rw [qmu _ (by simp)] at h;obtain ⟨e,J,w',X,z⟩:=wp_opsIn (F:=Fence.wide) (n:=0) _ _ _ h.2 b k ({c with mode:=xN c.mode}::cs) u trivial (room_wide _);refine ⟨e,J,{c with mode:=xN c.mode}::cs,w',rfl,⟨rfl,X⟩,.of_steps (.one (fenced_wide _ _) stepR_region) (.of_steps (.one (fenced_wide _ _) ?_) z)⟩;have E:List.range ops.size=0::(List.range m).map Nat.succ:=by rw [O,List.range_succ_eq_map]
    rw [E];refine step_lone_go ?_;have x:Region.wanted o (yielded ops a.tmps)=true:=by simp [Region.wanted,C]
    rw [stepGR_op y x,u,Oper.semAt_none];have s:(execOp a.eval o).run P w=.ok .recover w:=by
      obtain ⟨dst,op,type,pos,after,guard⟩:=o;simp only at l;unfold qqx at l;split at l
      · rename_i args W;have:args=#[]:=by simpa using l
        subst this;simp [execOp,resolve,invoke,builtin]
      · cases l
    have A:∀v,(b.atR a (.inRegion ops (0::(List.range m).map Nat.succ)::k)).finish v=b.atR (a.put o.dst v) (.inRegion ops ((List.range m).map Nat.succ)::k):=by
      intro v;rw [Frame.finish_atR,y];rfl
    have U:(b.atR a (.inRegion ops (0::(List.range m).map Nat.succ)::k)).kind=.deferred:=R;have j:=tryRecover_deferred U (c::cs);have g:=qBd c cs;simp only [<-A];simp only [Frame.atR,u] at j⊢;cases B:recoverD (c::cs) with
    |none=>
      rw [B] at j g;simp only [uQ] at g;simp [stepG.apply,s,j,<-g.1,<-g.2]
    |some p=>
      rw [B] at j g;simp only [uQ] at g;simp [stepG.apply,s,j,<-g.1,<-g.2]
end
def qan (rs:List RV) (u':FrameMode) (R:Ending->FrameMode->World->Prop):qa->World->Prop:=qB rs fun e w=>R e u' w
def qb7 (rs:List RV) (u':FrameMode) (R:Ending->FrameMode->World->Prop):Ks:=⟨fun _ _ _=>False,qan rs u' R,fun _ c w=>R (.panicked c) u' w,∀w,R .outgrown u' w,False,True⟩
@[simp] theorem qLe (rs:List RV) (b:FrameMode) (R:Ending->FrameMode->World->Prop):(qb7 rs b R).rt=qan rs b R:=rfl
@[simp] theorem qLg (rs:List RV) (b:FrameMode) (R:Ending->FrameMode->World->Prop) (ρ:qa) (c:List PanicEntry) (w:World):(qb7 rs b R).pn ρ c w=R (.panicked c) b w:=rfl
@[simp] theorem qLf (rs:List RV) (b:FrameMode) (R:Ending->FrameMode->World->Prop):(qb7 rs b R).rd=True:=rfl
@[simp] theorem qLh (b:FrameMode) (R:Ending->FrameMode->World->Prop) (ρ:qa) (w:World):qan [] b R ρ w=R (.returned (.tuple #[])) b w:=rfl
section
variable {P:Program} {Q:Ks} {d:Option Nat} {ty:TypeId} {K:qa->World->Prop} {ρ:qa} {w:World}
theorem qlk {x:Operand} {t:TypeId} {v:Value} (b:qe ρ x=.iface t v) (h:Q.pn ρ [{v:=.iface t v,recovered:=false}] w):qx P Q d (.panic x) ty K ρ w:=by
  show vK P Q d _ ty K ρ w;unfold vK;have:(execOp (qe ρ) (qN d (.panic x) ty)).run P w=.halt (.panic (.iface t v)) w:=by
    simp [execOp,qN,b,Instr.panic]
  rw [this];exact h
theorem qgL {t:Nat} {f:FuncId} {caps:Array Value} (c:ρ t=.func (.func f) #[] caps) (b:Q.df) (h:K (qn (qw ρ gS (y7 ⟨.fn (.func f) caps, #[]⟩ (ρ gS))) d undef) w):
    qx P Q d (.defer {callee:=.value (.tmp t),args:=#[],argTypes:=#[]}) ty K ρ w:=by
  show vK P Q d _ ty K ρ w;unfold vK;have:(execOp (qe ρ) (qN d (.defer {callee:=.value (.tmp t),args:=#[],argTypes:=#[]}) ty)).run P w=.ok (.defer ⟨.fn (.func f) caps, #[]⟩) w:=by
    simp [execOp,qN,resolve,c,Deferred.ofValue]
  rw [this];exact ⟨b,h⟩
@[simp] theorem qMQ (f:Fn) (caps args:Array Value) (vs:Array Value):y7 ⟨.fn f caps,args⟩ (.tuple vs)=.tuple (.func f args caps::vs.toList).toArray:=rfl
theorem qaA {rs:List RV} {R:Ending->World->Prop} (h:qB rs R ρ w):vB P rs R ρ [] .returning w:=h
end
section
variable {P:Program} {Q:Ks} {d:Option Nat} {ty:TypeId} {K:qa->World->Prop} {ρ:qa} {w:World}
theorem qww {x:Operand} {xt a:TypeId} {v:Value} {ds:TypeDesc} (b:P.underlying a=some ds) (e:∀m,ds≠ .interface m) (c:qe ρ x=.iface a v) (h:K (qn ρ d (.tuple #[v,.bool true])) w):
    qx P Q d (.typeAssert x xt a true) ty K ρ w:=by
  refine jQ (v:=.tuple #[v,.bool true]) (w':=w) ?_ h;cases ds<;>first|exact absurd rfl (e _)|simp [execOp,qN,c,Instr.typeAssert,run_underlying b]
theorem qwu {x:Operand} {t e:TypeId} (c:P.underlying t=some (.interface (P.methodsAt t))) (h:qe ρ x=.nilIface) (b:K (qn ρ d (.bool true)) w):qx P Q d (.binOp .eql t x (.const .nilIface) e) ty K ρ w:=by
  refine jQ (v:=.bool true) (w':=w) ?_ b;have:=run_equal_nil_nil (P:=P) (w:=w) t c;simp [execOp,qN,h,eqGuard_nil_constR,binOp,this]
theorem qwt {x:Operand} {t c u:TypeId} {v:Value} (e:P.underlying t=some (.interface (P.methodsAt t))) (h:qe ρ x=.iface u v) (b:K (qn ρ d (.bool false)) w):qx P Q d (.binOp .eql t x (.const .nilIface) c) ty K ρ w:=by
  refine jQ (v:=.bool false) (w':=w) ?_ b;have:=run_equal_held_nil (P:=P) (w:=w) t u v e;simp [execOp,qN,h,eqGuard,binOp,this]
end
def vB.congr {P:Program} {rs:List RV} {R:Ending->World->Prop} {ρ g:qa} (i:∀w,vY ρ w rs=vY g w rs):∀(ds:List Value) (u:FrameMode) (w:World),vB P rs R ρ ds u w->vB P rs R g ds u w
  |[],u,w,h=>by
    cases u with
    |run=>exact h
    |returning=>simp only [vB] at h⊢;rw [<-i];exact h
    |panicking c=>exact h
  | d :: ds, u, w, h => by
    cases d<;>simp only [vB] at h⊢ <;>first|exact h|skip
    · exact ⟨h.1,let ⟨w',j,k⟩:=h.2;⟨w',j,vB.congr i ds u w' k⟩⟩
    · obtain ⟨m,n,b,j,k⟩:=h;refine ⟨m,n,b,j,k.mono fun e o w' l=>?_⟩;cases e with
      |returned v=>exact vB.congr i ds _ _ l
      |panicked c=>exact vB.congr i ds _ _ l
      |outgrown=>exact l
def qwo {P:Program} {rs:List RV} {R:Ending->World->Prop} {u:FrameMode} {ρ:qa} {d:Nat} {v:Value} {w:World} (c:d≠gS) (b:∀w,vY (qw ρ d v) w rs=vY ρ w rs) (h:vz P rs R u (qw ρ d v) w):vz P rs R u ρ w:=by
  unfold vz at*;rw [qyn _ _ _ _ (Ne.symm c)] at h;split at h
  · exact vB.congr b _ _ _ h
  · cases h
def qE (P:Program) (w0:World) (dst:Option Nat) (op:Op) (ty:TypeId) (r:List St) (K:qa->Prop) (ρ:qa):Prop:=∃v,qdp P w0 dst op ty ρ v/\qM P w0 r K (qn ρ dst v)
theorem vi {P:Program} {w0:World} {K:qa->Prop} {ρ:qa}:qM P w0 [] K ρ=K ρ:=rfl
theorem vk {P:Program} {w0:World} {K:qa->Prop} {ρ:qa} {g:Option (Nat×Bool)} {d:Nat} {e:Ex} {r:List St}:qM P w0 (.asg g d e::r) K ρ=if gd ρ g then xp (e.ev ρ w0) (fun v=>qM P w0 r K (qw ρ d v)) else qM P w0 r K (qw ρ d undef):=rfl
theorem vj {P:Program} {w0:World} {K:qa->Prop} {ρ:qa} {g:Option (Nat×Bool)} {d:Option Nat} {op:Op} {ty:TypeId} {r:List St}:qM P w0 (.eff g d op ty::r) K ρ=if gd ρ g then qE P w0 d op ty r K ρ else qM P w0 r K (qn ρ d undef):=rfl
def qbf {P:Program} {w0:World} {K:qa->Prop} {ρ:qa} {d:Option Nat} {ty:TypeId} {r:List St} {f:FuncId} {args:Array Operand} {b:Array TypeId} (v:Value) (g:qh P f=true)
    (h:∀w,qc w0 w->Calls P f (args.map (qe ρ)) w (fun e w'=>e=.returned v/\qc w0 w')) (c:qM P w0 r K (qn ρ d v)):qE P w0 d (.call {callee:=.value (.func f),args:=args,argTypes:=b}) ty r K ρ:=⟨v,⟨g,h⟩,c⟩
end Go.Eng
namespace Go.Eng.I
open Go.Eng Go.MapKept Go.RowKit
def vE (ps:List (Int×Value)) (k:Int):Option Value:=(ps.find? fun p=>decide (p.1=k)).map (·.2)
def vL:List (Int×Value)->Int->Value->List (Int×Value)
  |[],k,v=>[(k,v)]
  |p::l,k,v=>if p.1=k then (k,v)::l else p::vL l k v
@[simp] theorem qDM (k:Int):vE [] k=none:=rfl
def ku (p:Int×Value) (l:List (Int×Value)) (k:Int):vE (p::l) k=if p.1=k then some p.2 else vE l k:=by
  unfold vE;rw [List.find?_cons];by_cases h:p.1=k<;>simp [h]
def qfD (k b : Int) (v : Value) : ∀ l : List (Int × Value), vE (vL l k v) b = if k = b then some v else vE l b
  |[]=>by simp [vL,ku]
  | p :: l => by
    unfold vL;split
    · rename_i h;rw [ku,ku];by_cases g:k=b
      · simp [g]
      · simp [g,h]
    · rename_i h;rw [ku,ku,qfD k b v l];by_cases c:p.1=b
      · have:¬k=b:=fun e=>h (c.trans e.symm);simp [c,this]
      · simp [c]
structure MapB (w:World) (B:Nat) (ps:List (Int×Value)):Prop where
  ex:∃es clock,w.heap[B]? =some (.map es clock)/\Stamped es clock/\es.toList.map (fun e=>(e.key,e.val))=ps.map fun p=>(Value.int .i64 p.1,p.2)
def MapB.lt {w:World} {B:Nat} {ps:List (Int×Value)} (h:MapB w B ps):B<w.heap.size:=by
  obtain ⟨es,b,c,_⟩:=h.ex;exact (uq.1 c).1
def MapB.ext {w w':World} {B:Nat} {ps:List (Int×Value)} (h:MapB w B ps) (e:qc w w'):MapB w' B ps:=by
  obtain ⟨es,b,c,r⟩:=h.ex;exact ⟨es,b,(e.block B h.lt).trans c,r⟩
def MapB.block {w w':World} {B:Nat} {ps:List (Int×Value)} (h:MapB w B ps) (e:w'.heap[B]? =w.heap[B]?):MapB w' B ps:=by
  obtain ⟨es,b,c,r⟩:=h.ex;exact ⟨es,b,e.trans c,r⟩
def qd8 {es:List MapEntry} {ps:List (Int×Value)} (h:es.map (fun e=>(e.key,e.val))=ps.map fun p=>(Value.int .i64 p.1,p.2)):∀e∈es,IsKey (.int .i64) e.key:=by
  intro e c;have:(e.key,e.val)∈ps.map fun p=>(Value.int .i64 p.1,p.2):=by rw [<-h];exact un.2 ⟨e,c,rfl⟩
  obtain ⟨p,_,g⟩:=un.1 this;cases b:e.key<;>simp_all [IsKey]
def qbx {k:Int}:∀{es:List MapEntry} {ps:List (Int×Value)},es.map (fun e=>(e.key,e.val))=ps.map (fun p=>(Value.int .i64 p.1,p.2))->(∀e∈es,e.key≠ .int .i64 k)->
    vE ps k=none/\∀v,vL ps k v=ps++[(k,v)]
  |[],[],_,_=>⟨rfl,fun _=>rfl⟩
  |e::es,p::ps,h,b=>by
    simp only [List.map_cons,uM,uQ] at h;obtain ⟨⟨i,o⟩,g⟩:=h;obtain ⟨j,m⟩:=qbx g fun x l=>b x (by simp [l]);have c:¬p.1=k:=fun n=>b e (by simp) (by rw [i,n]);exact ⟨by rw [ku,if_neg c,j],fun v=>by rw [vL,if_neg c,m];rfl⟩
  |[],_::_,h,_=>by simp at h
  |_::_,[],h,_=>by simp at h
def qbw {k:Int} {v:Value}:∀{es:List MapEntry} {ps:List (Int×Value)} {j:Nat} {e:MapEntry},es.map (fun e=>(e.key,e.val))=ps.map (fun p=>(Value.int .i64 p.1,p.2))->
    es.Pairwise (fun x y=>x.key≠y.key)->es[j]? =some e->e.key=.int .i64 k->vE ps k=some e.val/\(es.modify j fun x=>{x with key:=.int .i64 k,val:=v}).map (fun e=>(e.key,e.val))=(vL ps k v).map fun p=>(Value.int .i64 p.1,p.2)
  |[],_,_,_,_,_,b,_=>by simp at b
  |e::es,[],_,_,h,_,_,_=>by simp at h
  |e::es,p::ps,0,n,h,_,b,i=>by
    simp only [List.getElem?_cons_zero,ub] at b;subst b;simp only [List.map_cons,uM,uQ] at h;obtain ⟨⟨g,l⟩,m⟩:=h;have c:p.1=k:=by rw [i] at g;cases g;rfl
    refine ⟨by rw [ku,if_pos c,l], ?_⟩;simp [vL,c,m]
  |e::es,p::ps,j+1,n,h,s,b,i=>by
    simp only [List.getElem?_cons_succ] at b;simp only [List.map_cons,uM,uQ] at h;obtain ⟨⟨g,l⟩,m⟩:=h;obtain ⟨z,o⟩:=List.pairwise_cons.1 s;have c:¬p.1=k:=fun A=>z n (JD b) (by rw [g,A,i]);obtain ⟨t,u⟩:=qbw (v:=v) m o b i;refine ⟨by rw [ku,if_neg c,t], ?_⟩;simp [vL,c,u,g,l]
section
variable {P:Program} {Q:Ks} {d:Option Nat} {ty:TypeId} {K:qa->World->Prop} {ρ:qa} {w:World}
theorem qlm {t:TypeId} (h:∀B W,w.heap.size<=B->qc w W->MapB W B []->W.heap.size=B+1->K (qn ρ d (.map (some B))) W):qx P Q d (.makeMap t none) ty K ρ w:=by
  refine jQ (v:=.map (some w.heap.size)) (w':=w.alloc (.map #[] 0)) ?_ (h _ _ (j1 _) (QD _ _) ⟨#[],0,heap_alloc_new _ _,stamped_empty 0,rfl⟩ (by simp));have b:(Instr.makeMap t none).run P w=.ok (.map (some w.heap.size)) (w.alloc (.map #[] 0)):=rfl;simp only [execOp,qN,Option.map_none,Sem.run_bind,b,Result.andThen_ok,Sem.run_pure]
theorem qln {t kt et:TypeId} {m k:Operand} {B:Nat} {ps:List (Int×Value)} {s:Int} {z:Value} (C:P.underlying t=some (.map kt et)) (b:P.underlying kt=some (.int .i64)) (x:((P.info? et).bind fun i=>i.zero)=some z)
    (F:qe ρ m=.map (some B)) (E:qe ρ k=.int .i64 s) (n:MapB w B ps) (ok:Bool) (h:K (qn ρ d (if ok then .tuple #[(vE ps s).getD z,.bool (vE ps s).isSome] else (vE ps s).getD z)) w):qx P Q d (.lookup t m k ok) ty K ρ w:=by
  obtain ⟨inf,I,J⟩:=uc.1 x;obtain ⟨es,c,n,y,l⟩:=n.ex;have o:=qd8 l;have g:IsKey (.int .i64) (.int .i64 s):=by simp [IsKey]
  refine jQ (v:=_) (w':=w) ?_ h;rcases findNow_spec g es.toList 0 o with ⟨A,u⟩|⟨j,e,A,u,H⟩
  · have p:=(qbx l u).1;simp [execOp,qN,Instr.lookup,F,E,run_underlying C,MapKept.run_getObj_map n,run_checkKey b g,run_findKey b A,zeroValue,typeInfo,I,J,Result.andThen,p]
  · have p:=(qbw (v:=z) l ((stamped_iff es c).1 y).2.2 u H).1;simp [execOp,qN,Instr.lookup,F,E,run_underlying C,MapKept.run_getObj_map n,run_checkKey b g,run_findKey b A,Result.andThen,p]
theorem qll {t kt et:TypeId} {m k x:Operand} {B:Nat} {ps:List (Int×Value)} {s:Int} (L:P.underlying t=some (.map kt et)) (n:P.underlying kt=some (.int .i64))
    (U:qe ρ m=.map (some B)) (R:qe ρ k=.int .i64 s) (c:MapB w B ps) (h:∀W,Only B w W->MapB W B (vL ps s (qe ρ x))->K (qn ρ d undef) W):qx P Q d (.mapUpdate t m k x) ty K ρ w:=by
  obtain ⟨es,b,c,u,l⟩:=c.ex;have C:=qd8 l;have g:IsKey (.int .i64) (.int .i64 s):=by simp [IsKey]
  have only:∀o,Only B w {w with heap:=w.heap.setIfInBounds B o}:=fun o=>⟨rfl,rfl,rfl,by simp,fun i S=>(heap_set c).2 i S⟩;have fin:∀W,(Instr.mapUpdate t (.map (some B)) (.int .i64 s) (qe ρ x)).run P w=.ok () W->K (qn ρ d undef) W->vK P Q d (.mapUpdate t m k x) ty K ρ w:=by
    intro W O I;unfold vK;simp only [execOp,qN,U,R,Sem.run_bind,O,Result.andThen_ok,Sem.run_pure];exact I
  rcases findNow_spec g es.toList 0 C with ⟨H,z⟩|⟨j,e,H,z,F⟩
  · have E:=(qbx l z).2 (qe ρ x);refine fin {w with heap:=w.heap.setIfInBounds B (.map (es.push {key:=.int .i64 s,val:=qe ρ x,born:=b}) (b+1))} ?_ (h _ (only _) ⟨_,_,(heap_set c).1,stamped_push u z, ?_⟩)
    · simp [Instr.mapUpdate,run_underlying L,MapKept.run_getObj_map c,run_checkKey n g,run_findKey n H,run_setObj_map _ c,Result.andThen]
    · rw [E];simp [l]
  · have J:es[j]? =some e:=by simpa using z
    have E:=(qbw (v:=qe ρ x) l ((stamped_iff es b).1 u).2.2 z F).2;have A:∀y,es[j]? =some y->({y with key:=.int .i64 s,val:=qe ρ x}:MapEntry).key=y.key:=fun y p=>by rw [J] at p;cases p;exact F.symm
    refine fin {w with heap:=w.heap.setIfInBounds B (.map (es.modify j fun e=>{e with key:=.int .i64 s,val:=qe ρ x}) b)} ?_ (h _ (only _) ⟨_,_,(heap_set c).1,stamped_modify u _ _ (fun _ _=>rfl) (fun y _ p=>A y p), ?_⟩)
    · simp [Instr.mapUpdate,run_underlying L,MapKept.run_getObj_map c,run_checkKey n g,run_findKey n H,J,F,run_keyThatStays g,run_setObj_map _ c,Result.andThen]
    · rw [Array.toList_modify];exact E
end
structure RangeB (w:World) (R B:Nat) (ps:List (Int×Value)) (vis:List Int) (cur:Option (Int×Value)):Prop where
  ex:∃(es:Array MapEntry) (clock since:Nat) (seen:Array Nat) (c0:Nat),w.heap[B]? =some (.map es clock)/\Stamped es clock/\es.toList.map (fun e=>(e.key,e.val))=ps.map (fun p=>(Value.int .i64 p.1,p.2))/\
    w.heap[R]? =some (.mapIter (some B) since seen c0)/\(∀x∈es.toList,x.born<since)/\since<=c0/\since<=clock/\(∀e∈es.toList,∀k,e.key=.int .i64 k->(seen.contains e.born=true↔k∈vis))/\
    (∀k v,cur=some (k,v)->c0=clock/\∃e∈es.toList,e.key=.int .i64 k/\e.val=v/\∃s:Array Nat,seen=s.push e.born)
def RangeB.block {w w':World} {R B:Nat} {ps:List (Int×Value)} {e:List Int} {cur:Option (Int×Value)} (h:RangeB w R B ps e cur) (l:w'.heap[B]? =w.heap[B]?) (k:w'.heap[R]? =w.heap[R]?):RangeB w' R B ps e cur:=by
  obtain ⟨es,b,c,seen,c0,j,g,i,m,r⟩:=h.ex;exact ⟨es,b,c,seen,c0,l.trans j,g,i,k.trans m,r⟩
def RangeB.lt {w:World} {R B:Nat} {ps:List (Int×Value)} {e:List Int} {cur:Option (Int×Value)} (h:RangeB w R B ps e cur):B<w.heap.size/\R<w.heap.size:=by
  obtain ⟨es,c,b,seen,c0,g,k,j,i,r⟩:=h.ex;exact ⟨(uq.1 g).1,(uq.1 i).1⟩
section
variable {P:Program} {Q:Ks} {d:Option Nat} {ty:TypeId} {K:qa->World->Prop} {ρ:qa} {w:World}
end
end Go.Eng.I
