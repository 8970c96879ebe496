/- Lemmas for a claim about layer 2 (tree). No conditions but those they state. -/
import Derived.Test.YtbcmiempigoooaaGreatDoorVah
import Derived.WideLaws
import Derived.Maps.RangeRun
set_option linter.all false
namespace Go.Eng
open Go.RowKit
def qpH:Op->Bool
  | .call {callee:=.builtin .recover,args,.. }=>args.isEmpty
  |_=>false
def qhV (ops:Array Oper):Bool:=match ops[0]? with|some o=>qpH o.op&&o.guard.isNone|none=>false
def wi (v:AB) (ops:Array Oper):Array Oper:=match ops[0]? with|some o=>ops.setIfInBounds 0 {o with op:=.move (.const v)}|none=>ops
def qa8 (v:AB):Code->Code
  | .seq a b=> .seq (qa8 v a) b
  | .region id ops d=> .region id (wi v ops) d
  |c=>c
def xd:FrameMode->AB
  | .panicking ({v,recovered:=false,goexit:=false}::_)=>v
  |_=> .nilIface
def xp:FrameMode->FrameMode
  | .panicking ({v,recovered:=false,goexit:=false}::older)=> .panicking ({v,recovered:=true}::older)
  |u=>u
def qAg (c : Frame) (cs : List Frame) : (match recoverD (c :: cs) with | some (v, cs') => (v, cs') | none => (Value.nilIface, c :: cs)) = (xd c.mode, { c with mode := xp c.mode } :: cs) := by
  unfold recoverD;split
  · rename_i v cs' h;simp only at h;split at h
    · rename_i v0 b e;cases h;simp [e,xd,xp]
    · cases h
  · rename_i h;simp only at h;split at h
    · cases h
    · rename_i e;have i:xd c.mode=.nilIface/\xp c.mode=c.mode:=by
        unfold xd xp;constructor
        · split
          · rename_i v b g;exact absurd g (e v b)
          · rfl
        · split
          · rename_i v b g;exact absurd g (e v b)
          · rfl
      rw [i.1,i.2]
def qmA {v:AB} {ops:Array Oper} {i:Nat} (b:i≠0):(wi v ops)[i]? =ops[i]? :=by
  unfold wi;split
  · rw [Vr (ub b)]
  · rfl
def qyJ (v:AB) (ops:Array Oper):(wi v ops).size=ops.size:=by unfold wi;split<;>simp
def qmz {v:AB} {ops:Array Oper} {o:Oper} (h:ops[0]? =some o):(wi v ops)[0]? =some {o with op:=.move (.const v)}:=by
  have b:=(ul.1 h).1;unfold wi;simp only [h];rw [Vs b]
def qyI (v:AB) (ops:Array Oper) (i:Nat):((wi v ops)[i]?).bind (·.dst)=(ops[i]?).bind (·.dst):=by
  by_cases b:i=0
  · subst b;cases h:ops[0]? with
    |none=>unfold wi;simp [h]
    |some o=>rw [qmz h];rfl
  · rw [qmA b]
def qyH (v:AB) (ops:Array Oper) (t:Array AB):yielded (wi v ops) t=yielded ops t:=by
  funext i;simp only [yielded,qyI]
def qls {F:Fence} {P:Program} {v:AB} {ops:Array Oper} {Q:Exit->Act->AA->Prop}:∀(l:List Nat),(∀i∈l,i≠0)->wpOpsIn F 0 P (wi v ops) Q l=wpOpsIn F 0 P ops Q l
  |[],_=>rfl
  |i::l,h=>by
    have b:=qls (F:=F) (P:=P) (v:=v) (ops:=ops) (Q:=Q) l fun x c=>h x (by simp [c]);funext a w;simp only [wpOpsIn,qmA (h i (by simp)),qyH,b]
section
variable {P:Program} {Q:Exit->Act->AA->Prop} {a:Act} {w:AA}
theorem qxj {id : Nat} {ops : Array Oper} (c : Frame) (cs : List Frame) (i : qhV ops = true) (h : wpOpsIn (fc none) 0 P (wi (xd c.mode) ops) Q (List.range (wi (xd c.mode) ops).size) a w) :
    (Code.region id ops false).wpSIn Fence.wide 0 P (fun e H cs' w'=>cs'={c with mode:=xp c.mode}::cs/\Q e H w') a (c::cs) w:=by
  intro b k S s X E;unfold qhV at i;cases x:ops[0]? with
  |none=>simp [x] at i
  |some o=>
    simp only [x,km] at i;obtain ⟨l,R⟩:=i;have A:o.guard=none:=by simpa using R
    have O:=(ul.1 x).1;obtain ⟨m,L⟩:∃m,ops.size=m+1:=⟨ops.size - 1,by omega⟩;rw [qyJ,L,List.range_succ_eq_map] at h;simp only [wpOpsIn,qmz x] at h;have J:∀t,Region.wanted {o with op:=Op.move (.const (xd c.mode))} (yielded (wi (xd c.mode) ops) t)=true:=fun t=>by simp [Region.wanted,A]
    rw [j0 (J _)] at h;simp only [Oper.wpIn] at h;have I:(Oper.semAt (fc none).round a.eval {o with op:=Op.move (.const (xd c.mode))}).run P w=.ok (.value (xd c.mode)) w:=by
      show (execOp a.eval {o with op:=Op.move (.const (xd c.mode))}).run P w=_;simp [execOp,Act.eval]
    rw [I] at h;simp only [Oper.uponIn] at h;rw [qls _ (by simp)] at h;obtain ⟨e,H,w',V,z⟩:=wp_opsIn (F:=Fence.wide) (n:=0) _ _ _ h.2 b k ({c with mode:=xp c.mode}::cs) s trivial (room_wide _);refine ⟨e,H,{c with mode:=xp c.mode}::cs,w',rfl,⟨rfl,V⟩,.of_steps (.one (fenced_wide _ _) stepR_region) (.of_steps (.one (fenced_wide _ _) ?_) z)⟩;have y:List.range ops.size=0::(List.range m).map Nat.succ:=by rw [L,List.range_succ_eq_map]
    rw [y];refine step_lone_go ?_;have u:Region.wanted o (yielded ops a.tmps)=true:=by simp [Region.wanted,A]
    rw [stepGR_op x u,s,Oper.semAt_none];have q:(execOp a.eval o).run P w=.ok .recover w:=by
      obtain ⟨dst,op,type,pos,after,guard⟩:=o;simp only at l;unfold qpH at l;split at l
      · rename_i args U;have:args=#[]:=by simpa using l
        subst this;simp [execOp,resolve,invoke,builtin]
      · cases l
    have C:∀v,(b.atR a (.inRegion ops (0::(List.range m).map Nat.succ)::k)).finish v=b.atR (a.put o.dst v) (.inRegion ops ((List.range m).map Nat.succ)::k):=by
      intro v;rw [Frame.finish_atR,x];rfl
    have W:(b.atR a (.inRegion ops (0::(List.range m).map Nat.succ)::k)).kind=.deferred:=S;have j:=tryRecover_deferred W (c::cs);have g:=qAg c cs;simp only [<-C];simp only [Frame.atR,s] at j⊢;cases B:recoverD (c::cs) with
    |none=>
      rw [B] at j g;simp only [uD] at g;simp [stepG.apply,q,j,<-g.1,<-g.2]
    |some p=>
      rw [B] at j g;simp only [uD] at g;simp [stepG.apply,q,j,<-g.1,<-g.2]
end
def qaz (rs:List RV) (u':FrameMode) (R:Ending->FrameMode->AA->Prop):qa->AA->Prop:=qz rs fun e w=>R e u' w
def qb4 (rs:List RV) (u':FrameMode) (R:Ending->FrameMode->AA->Prop):Ks:=⟨fun _ _ _=>False,qaz rs u' R,fun _ c w=>R (.panicked c) u' w,∀w,R .outgrown u' w,False,True⟩
@[simp] theorem qKG (rs:List RV) (b:FrameMode) (R:Ending->FrameMode->AA->Prop):(qb4 rs b R).rt=qaz rs b R:=rfl
@[simp] theorem qKI (rs:List RV) (b:FrameMode) (R:Ending->FrameMode->AA->Prop) (ρ:qa) (c:List PanicEntry) (w:AA):(qb4 rs b R).pn ρ c w=R (.panicked c) b w:=rfl
@[simp] theorem qKH (rs:List RV) (b:FrameMode) (R:Ending->FrameMode->AA->Prop):(qb4 rs b R).rd=True:=rfl
@[simp] theorem qKJ (b:FrameMode) (R:Ending->FrameMode->AA->Prop) (ρ:qa) (w:AA):qaz [] b R ρ w=R (.returned (.tuple #[])) b w:=rfl
section
variable {P:Program} {Q:Ks} {d:Option Nat} {ty:TypeId} {K:qa->AA->Prop} {ρ:qa} {w:AA}
theorem qkn {x:Operand} {t:TypeId} {v:AB} (b:qd ρ x=.iface t v) (h:Q.pn ρ [{v:=.iface t v,recovered:=false}] w):qB P Q d (.panic x) ty K ρ w:=by
  show vD P Q d _ ty K ρ w;unfold vD;have:(execOp (qd ρ) (qR d (.panic x) ty)).run P w=.halt (.panic (.iface t v)) w:=by
    simp [execOp,qR,b,Instr.panic]
  rw [this];exact h
theorem qgc {t:Nat} {f:FuncId} {caps:Array AB} (c:ρ t=.func (.func f) #[] caps) (b:Q.df) (h:K (qp (qx ρ gS (yM ⟨.fn (.func f) caps, #[]⟩ (ρ gS))) d undef) w):
    qB P Q d (.defer {callee:=.value (.tmp t),args:=#[],argTypes:=#[]}) ty K ρ w:=by
  show vD P Q d _ ty K ρ w;unfold vD;have:(execOp (qd ρ) (qR d (.defer {callee:=.value (.tmp t),args:=#[],argTypes:=#[]}) ty)).run P w=.ok (.defer ⟨.fn (.func f) caps, #[]⟩) w:=by
    simp [execOp,qR,resolve,c,Deferred.ofValue]
  rw [this];exact ⟨b,h⟩
@[simp] theorem qL2 (f:Fn) (caps args:Array AB) (vs:Array AB):yM ⟨.fn f caps,args⟩ (.tuple vs)=.tuple (.func f args caps::vs.toList).toArray:=rfl
theorem qaJ {rs:List RV} {R:Ending->AA->Prop} (h:qz rs R ρ w):vo P rs R ρ [] .returning w:=h
end
section
variable {P:Program} {Q:Ks} {d:Option Nat} {ty:TypeId} {K:qa->AA->Prop} {ρ:qa} {w:AA}
theorem qvJ {x:Operand} {xt a:TypeId} {v:AB} {ds:TypeDesc} (b:P.underlying a=some ds) (e:∀m,ds≠ .interface m) (c:qd ρ x=.iface a v) (h:K (qp ρ d (.tuple #[v,.bool true])) w):
    qB P Q d (.typeAssert x xt a true) ty K ρ w:=by
  refine jN (v:=.tuple #[v,.bool true]) (w':=w) ?_ h;cases ds<;>first|exact absurd rfl (e _)|simp [execOp,qR,c,Instr.typeAssert,run_underlying b]
theorem qvG {x:Operand} {t b:TypeId} (c:P.underlying t=some (.interface (P.methodsAt t))) (h:qd ρ x=.nilIface) (e:K (qp ρ d (.bool true)) w):qB P Q d (.binOp .eql t x (.const .nilIface) b) ty K ρ w:=by
  refine jN (v:=.bool true) (w':=w) ?_ e;have:=run_equal_nil_nil (P:=P) (w:=w) t c;simp [execOp,qR,h,eqGuard_nil_constR,binOp,this]
theorem qvF {x:Operand} {t b u:TypeId} {v:AB} (c:P.underlying t=some (.interface (P.methodsAt t))) (h:qd ρ x=.iface u v) (e:K (qp ρ d (.bool false)) w):qB P Q d (.binOp .eql t x (.const .nilIface) b) ty K ρ w:=by
  refine jN (v:=.bool false) (w':=w) ?_ e;have:=run_equal_held_nil (P:=P) (w:=w) t u v c;simp [execOp,qR,h,eqGuard,binOp,this]
end
def vo.congr {P:Program} {rs:List RV} {R:Ending->AA->Prop} {ρ g:qa} (i:∀w,vX ρ w rs=vX g w rs):∀(ds:List AB) (u:FrameMode) (w:AA),vo P rs R ρ ds u w->vo P rs R g ds u w
  |[],u,w,h=>by
    cases u with
    |run=>exact h
    |returning=>simp only [vo] at h⊢;rw [<-i];exact h
    |panicking c=>exact h
  | d :: ds, u, w, h => by
    cases d<;>simp only [vo] at h⊢ <;>first|exact h|skip
    · exact ⟨h.1,let ⟨w',l,j⟩:=h.2;⟨w',l,vo.congr i ds u w' j⟩⟩
    · obtain ⟨n,m,b,l,j⟩:=h;refine ⟨n,m,b,l,j.mono fun e o w' k=>?_⟩;cases e with
      |returned v=>exact vo.congr i ds _ _ k
      |panicked c=>exact vo.congr i ds _ _ k
      |outgrown=>exact k
def qvB {P:Program} {rs:List RV} {R:Ending->AA->Prop} {u:FrameMode} {ρ:qa} {d:Nat} {v:AB} {w:AA} (b:d≠gS) (c:∀w,vX (qx ρ d v) w rs=vX ρ w rs) (h:vl P rs R u (qx ρ d v) w):vl P rs R u ρ w:=by
  unfold vl at*;rw [qxs _ _ _ _ (ub b)] at h;split at h
  · exact vo.congr c _ _ _ h
  · cases h
def qE (P:Program) (w0:AA) (dst:Option Nat) (op:Op) (ty:TypeId) (r:List St) (K:qa->Prop) (ρ:qa):Prop:=∃v,qdm P w0 dst op ty ρ v/\jj P w0 r K (qp ρ dst v)
theorem xq {P:Program} {b:AA} {K:qa->Prop} {ρ:qa}:jj P b [] K ρ=K ρ:=rfl
theorem xu {P:Program} {b:AA} {K:qa->Prop} {ρ:qa} {g:Option (Nat×Bool)} {d:Nat} {e:Ex} {r:List St}:jj P b (.asg g d e::r) K ρ=if gd ρ g then xD (e.ev ρ b) (fun v=>jj P b r K (qx ρ d v)) else jj P b r K (qx ρ d undef):=rfl
theorem xr {P:Program} {b:AA} {K:qa->Prop} {ρ:qa} {g:Option (Nat×Bool)} {d:Option Nat} {op:Op} {ty:TypeId} {r:List St}:jj P b (.eff g d op ty::r) K ρ=if gd ρ g then qE P b d op ty r K ρ else jj P b r K (qp ρ d undef):=rfl
def qb5 {P:Program} {b:AA} {K:qa->Prop} {ρ:qa} {d:Option Nat} {ty:TypeId} {r:List St} {f:FuncId} {args:Array Operand} {c:Array TypeId} (v:AB) (g:qk P f=true)
    (h:∀w,qc b w->Calls P f (args.map (qd ρ)) w (fun e w'=>e=.returned v/\qc b w')) (i:jj P b r K (qp ρ d v)):qE P b d (.call {callee:=.value (.func f),args:=args,argTypes:=c}) ty r K ρ:=⟨v,⟨g,h⟩,i⟩
end Go.Eng
namespace Go.Eng.I
open Go.Eng Go.MapKept Go.RowKit
def vg (ps:List (Int×AB)) (k:Int):Option AB:=(ps.find? fun p=>decide (p.1=k)).map (·.2)
def vu:List (Int×AB)->Int->AB->List (Int×AB)
  |[],k,v=>[(k,v)]
  |p::l,k,v=>if p.1=k then (k,v)::l else p::vu l k v
@[simp] theorem qCP (k:Int):vg [] k=none:=rfl
def xQ (p:Int×AB) (l:List (Int×AB)) (k:Int):vg (p::l) k=if p.1=k then some p.2 else vg l k:=by
  unfold vg;rw [List.find?_cons];by_cases h:p.1=k<;>simp [h]
def qfd (k b : Int) (v : AB) : ∀ l : List (Int × AB), vg (vu l k v) b = if k = b then some v else vg l b
  |[]=>by simp [vu,xQ]
  | p :: l => by
    unfold vu;split
    · rename_i h;rw [xQ,xQ];by_cases g:k=b
      · simp [g]
      · simp [g,h]
    · rename_i h;rw [xQ,xQ,qfd k b v l];by_cases c:p.1=b
      · have:¬k=b:=fun e=>h (c.trans e.symm);simp [c,this]
      · simp [c]
structure MapB (w:AA) (B:Nat) (ps:List (Int×AB)):Prop where
  ex:∃es clock,w.heap[B]? =some (.map es clock)/\Stamped es clock/\es.toList.map (fun e=>(e.key,e.val))=ps.map fun p=>(Value.int .i64 p.1,p.2)
def MapB.lt {w:AA} {B:Nat} {ps:List (Int×AB)} (h:MapB w B ps):B<w.heap.size:=by
  obtain ⟨es,b,c,_⟩:=h.ex;exact (ul.1 c).1
def MapB.ext {w w':AA} {B:Nat} {ps:List (Int×AB)} (h:MapB w B ps) (e:qc w w'):MapB w' B ps:=by
  obtain ⟨es,b,c,r⟩:=h.ex;exact ⟨es,b,(e.block B h.lt).trans c,r⟩
def MapB.block {w w':AA} {B:Nat} {ps:List (Int×AB)} (h:MapB w B ps) (e:w'.heap[B]? =w.heap[B]?):MapB w' B ps:=by
  obtain ⟨es,b,c,r⟩:=h.ex;exact ⟨es,b,e.trans c,r⟩
def qd0 {es:List MapEntry} {ps:List (Int×AB)} (h:es.map (fun e=>(e.key,e.val))=ps.map fun p=>(Value.int .i64 p.1,p.2)):∀e∈es,IsKey (.int .i64) e.key:=by
  intro e b;have:(e.key,e.val)∈ps.map fun p=>(Value.int .i64 p.1,p.2):=by rw [<-h];exact uw.2 ⟨e,b,rfl⟩
  obtain ⟨p,_,g⟩:=uw.1 this;cases c:e.key<;>simp_all [IsKey]
def qby {k:Int}:∀{es:List MapEntry} {ps:List (Int×AB)},es.map (fun e=>(e.key,e.val))=ps.map (fun p=>(Value.int .i64 p.1,p.2))->(∀e∈es,e.key≠ .int .i64 k)->
    vg ps k=none/\∀v,vu ps k v=ps++[(k,v)]
  |[],[],_,_=>⟨rfl,fun _=>rfl⟩
  |e::es,p::ps,h,c=>by
    simp only [List.map_cons,uE,uD] at h;obtain ⟨⟨l,o⟩,g⟩:=h;obtain ⟨i,n⟩:=qby g fun x m=>c x (by simp [m]);have b:¬p.1=k:=fun j=>c e (by simp) (by rw [l,j]);exact ⟨by rw [xQ,q3 b,i],fun v=>by rw [vu,q3 b,n];rfl⟩
  |[],_::_,h,_=>by simp at h
  |_::_,[],h,_=>by simp at h
def qbx {k:Int} {v:AB}:∀{es:List MapEntry} {ps:List (Int×AB)} {j:Nat} {e:MapEntry},es.map (fun e=>(e.key,e.val))=ps.map (fun p=>(Value.int .i64 p.1,p.2))->
    es.Pairwise (fun x y=>x.key≠y.key)->es[j]? =some e->e.key=.int .i64 k->vg ps k=some e.val/\(es.modify j fun x=>{x with key:=.int .i64 k,val:=v}).map (fun e=>(e.key,e.val))=(vu ps k v).map fun p=>(Value.int .i64 p.1,p.2)
  |[],_,_,_,_,_,b,_=>by simp at b
  |e::es,[],_,_,h,_,_,_=>by simp at h
  |e::es,p::ps,0,n,h,_,b,i=>by
    simp only [List.getElem?_cons_zero,ui] at b;subst b;simp only [List.map_cons,uE,uD] at h;obtain ⟨⟨g,m⟩,l⟩:=h;have c:p.1=k:=by rw [i] at g;cases g;rfl
    refine ⟨by rw [xQ,j0 c,m], ?_⟩;simp [vu,c,l]
  |e::es,p::ps,j+1,n,h,o,b,i=>by
    simp only [List.getElem?_cons_succ] at b;simp only [List.map_cons,uE,uD] at h;obtain ⟨⟨g,m⟩,l⟩:=h;obtain ⟨q,s⟩:=List.pairwise_cons.1 o;have c:¬p.1=k:=fun z=>q n (Jl b) (by rw [g,z,i]);obtain ⟨u,t⟩:=qbx (v:=v) l s b i;refine ⟨by rw [xQ,q3 c,u], ?_⟩;simp [vu,c,t,g,m]
section
variable {P:Program} {Q:Ks} {d:Option Nat} {ty:TypeId} {K:qa->AA->Prop} {ρ:qa} {w:AA}
theorem qf9 {t:TypeId} (h:∀B W,w.heap.size<=B->qc w W->MapB W B []->W.heap.size=B+1->K (qp ρ d (.map (some B))) W):qB P Q d (.makeMap t none) ty K ρ w:=by
  refine jN (v:=.map (some w.heap.size)) (w':=w.alloc (.map #[] 0)) ?_ (h _ _ (kh _) (yK _ _) ⟨#[],0,heap_alloc_new _ _,stamped_empty 0,rfl⟩ (by simp));have b:(Instr.makeMap t none).run P w=.ok (.map (some w.heap.size)) (w.alloc (.map #[] 0)):=rfl;simp only [execOp,qR,Option.map_none,Sem.run_bind,b,Result.andThen_ok,Sem.run_pure]
theorem qga {t kt et:TypeId} {m k:Operand} {B:Nat} {ps:List (Int×AB)} {s:Int} {z:AB} (A:P.underlying t=some (.map kt et)) (b:P.underlying kt=some (.int .i64)) (u:((P.info? et).bind fun i=>i.zero)=some z)
    (E:qd ρ m=.map (some B)) (C:qd ρ k=.int .i64 s) (n:MapB w B ps) (ok:Bool) (h:K (qp ρ d (if ok then .tuple #[(vg ps s).getD z,.bool (vg ps s).isSome] else (vg ps s).getD z)) w):qB P Q d (.lookup t m k ok) ty K ρ w:=by
  obtain ⟨inf,H,I⟩:=uh.1 u;obtain ⟨es,l,n,y,c⟩:=n.ex;have o:=qd0 c;have g:IsKey (.int .i64) (.int .i64 s):=by simp [IsKey]
  refine jN (v:=_) (w':=w) ?_ h;rcases findNow_spec g es.toList 0 o with ⟨x,q⟩|⟨j,e,x,q,F⟩
  · have p:=(qby c q).1;simp [execOp,qR,Instr.lookup,E,C,run_underlying A,MapKept.run_getObj_map n,run_checkKey b g,run_findKey b x,zeroValue,typeInfo,H,I,Result.andThen,p]
  · have p:=(qbx (v:=z) c ((stamped_iff es l).1 y).2.2 q F).1;simp [execOp,qR,Instr.lookup,E,C,run_underlying A,MapKept.run_getObj_map n,run_checkKey b g,run_findKey b x,Result.andThen,p]
theorem qf8 {t kt et:TypeId} {m k x:Operand} {B:Nat} {ps:List (Int×AB)} {s:Int} (I:P.underlying t=some (.map kt et)) (p:P.underlying kt=some (.int .i64))
    (S:qd ρ m=.map (some B)) (O:qd ρ k=.int .i64 s) (l:MapB w B ps) (h:∀W,Only B w W->MapB W B (vu ps s (qd ρ x))->K (qp ρ d undef) W):qB P Q d (.mapUpdate t m k x) ty K ρ w:=by
  obtain ⟨es,b,l,q,g⟩:=l.ex;have A:=qd0 g;have n:IsKey (.int .i64) (.int .i64 s):=by simp [IsKey]
  have only:∀o,Only B w {w with heap:=w.heap.setIfInBounds B o}:=fun o=>⟨rfl,rfl,rfl,by simp,fun i R=>(heap_set l).2 i R⟩;have fin:∀W,(Instr.mapUpdate t (.map (some B)) (.int .i64 s) (qd ρ x)).run P w=.ok () W->K (qp ρ d undef) W->vD P Q d (.mapUpdate t m k x) ty K ρ w:=by
    intro W L F;unfold vD;simp only [execOp,qR,S,O,Sem.run_bind,L,Result.andThen_ok,Sem.run_pure];exact F
  rcases findNow_spec n es.toList 0 A with ⟨H,y⟩|⟨j,e,H,y,E⟩
  · have C:=(qby g y).2 (qd ρ x);refine fin {w with heap:=w.heap.setIfInBounds B (.map (es.push {key:=.int .i64 s,val:=qd ρ x,born:=b}) (b+1))} ?_ (h _ (only _) ⟨_,_,(heap_set l).1,stamped_push q y, ?_⟩)
    · simp [Instr.mapUpdate,run_underlying I,MapKept.run_getObj_map l,run_checkKey p n,run_findKey p H,run_setObj_map _ l,Result.andThen]
    · rw [C];simp [g]
  · have J:es[j]? =some e:=by simpa using y
    have C:=(qbx (v:=qd ρ x) g ((stamped_iff es b).1 q).2.2 y E).2;have z:∀u,es[j]? =some u->({u with key:=.int .i64 s,val:=qd ρ x}:MapEntry).key=u.key:=fun u c=>by rw [J] at c;cases c;exact E.symm
    refine fin {w with heap:=w.heap.setIfInBounds B (.map (es.modify j fun e=>{e with key:=.int .i64 s,val:=qd ρ x}) b)} ?_ (h _ (only _) ⟨_,_,(heap_set l).1,stamped_modify q _ _ (fun _ _=>rfl) (fun u _ c=>z u c), ?_⟩)
    · simp [Instr.mapUpdate,run_underlying I,MapKept.run_getObj_map l,run_checkKey p n,run_findKey p H,J,E,run_keyThatStays n,run_setObj_map _ l,Result.andThen]
    · rw [Array.toList_modify];exact C
end
structure RangeB (w:AA) (R B:Nat) (ps:List (Int×AB)) (vis:List Int) (cur:Option (Int×AB)):Prop where
  ex:∃(es:Array MapEntry) (clock since:Nat) (seen:Array Nat) (c0:Nat),w.heap[B]? =some (.map es clock)/\Stamped es clock/\es.toList.map (fun e=>(e.key,e.val))=ps.map (fun p=>(Value.int .i64 p.1,p.2))/\
    w.heap[R]? =some (.mapIter (some B) since seen c0)/\(∀x∈es.toList,x.born<since)/\since<=c0/\since<=clock/\(∀e∈es.toList,∀k,e.key=.int .i64 k->(seen.contains e.born=true↔k∈vis))/\
    (∀k v,cur=some (k,v)->c0=clock/\∃e∈es.toList,e.key=.int .i64 k/\e.val=v/\∃s:Array Nat,seen=s.push e.born)
def RangeB.block {w w':AA} {R B:Nat} {ps:List (Int×AB)} {e:List Int} {cur:Option (Int×AB)} (h:RangeB w R B ps e cur) (g:w'.heap[B]? =w.heap[B]?) (l:w'.heap[R]? =w.heap[R]?):RangeB w' R B ps e cur:=by
  obtain ⟨es,c,b,seen,c0,m,k,i,j,r⟩:=h.ex;exact ⟨es,c,b,seen,c0,g.trans m,k,i,l.trans j,r⟩
def RangeB.lt {w:AA} {R B:Nat} {ps:List (Int×AB)} {c:List Int} {cur:Option (Int×AB)} (h:RangeB w R B ps c cur):B<w.heap.size/\R<w.heap.size:=by
  obtain ⟨es,e,b,seen,c0,g,k,j,i,r⟩:=h.ex;exact ⟨(ul.1 g).1,(ul.1 i).1⟩
section
variable {P:Program} {Q:Ks} {d:Option Nat} {ty:TypeId} {K:qa->AA->Prop} {ρ:qa} {w:AA}
end
end Go.Eng.I
