/- Lemmas for a claim about layer 2 (tree). No conditions but those they state. -/
import Derived.Test.YtbcmiempigoooaaGreatDoorVag
import Derived.Maps.RangeRun
set_option linter.all false
namespace Go.Eng
open Go.MapKept Go.RowKit
def vg (ps:List (ByteArray×AB)) (k:ByteArray):Option AB:=(ps.find? fun p=>decide (p.1=k)).map (·.2)
def vu:List (ByteArray×AB)->ByteArray->AB->List (ByteArray×AB)
  |[],k,v=>[(k,v)]
  |p::l,k,v=>if p.1=k then (k,v)::l else p::vu l k v
@[simp] theorem qCP (k:ByteArray):vg [] k=none:=rfl
def xQ (p:ByteArray×AB) (l:List (ByteArray×AB)) (k:ByteArray):vg (p::l) k=if p.1=k then some p.2 else vg l k:=by
  unfold vg;rw [List.find?_cons];by_cases h:p.1=k<;>simp [h]
def qfd (k a : ByteArray) (v : AB) : ∀ l : List (ByteArray × AB), vg (vu l k v) a = if k = a then some v else vg l a
  |[]=>by simp [vu,xQ]
  | p :: l => by
    unfold vu;split
    · rename_i h;rw [xQ,xQ];by_cases c:k=a
      · simp [c]
      · simp [c,h]
    · rename_i h;rw [xQ,xQ,qfd k a v l];by_cases b:p.1=a
      · have:¬k=a:=fun e=>h (b.trans e.symm);simp [b,this]
      · simp [b]
structure MapB (w:AA) (B:Nat) (ps:List (ByteArray×AB)):Prop where
  ex:∃es clock,w.heap[B]? =some (.map es clock)/\Stamped es clock/\es.toList.map (fun e=>(e.key,e.val))=ps.map fun p=>(Value.string p.1,p.2)
def MapB.lt {w:AA} {B:Nat} {ps:List (ByteArray×AB)} (h:MapB w B ps):B<w.heap.size:=by
  obtain ⟨es,a,b,_⟩:=h.ex;exact (ul.1 b).1
def MapB.ext {w w':AA} {B:Nat} {ps:List (ByteArray×AB)} (h:MapB w B ps) (c:qc w w'):MapB w' B ps:=by
  obtain ⟨es,a,b,r⟩:=h.ex;exact ⟨es,a,(c.block B h.lt).trans b,r⟩
def MapB.block {w w':AA} {B:Nat} {ps:List (ByteArray×AB)} (h:MapB w B ps) (c:w'.heap[B]? =w.heap[B]?):MapB w' B ps:=by
  obtain ⟨es,a,b,r⟩:=h.ex;exact ⟨es,a,c.trans b,r⟩
def qd0 {es:List MapEntry} {ps:List (ByteArray×AB)} (h:es.map (fun e=>(e.key,e.val))=ps.map fun p=>(Value.string p.1,p.2)):∀e∈es,IsKey .string e.key:=by
  intro e a;have:(e.key,e.val)∈ps.map fun p=>(Value.string p.1,p.2):=by rw [<-h];exact uw.2 ⟨e,a,rfl⟩
  obtain ⟨p,_,c⟩:=uw.1 this;cases b:e.key<;>simp_all [IsKey]
def qby {k:ByteArray}:∀{es:List MapEntry} {ps:List (ByteArray×AB)},es.map (fun e=>(e.key,e.val))=ps.map (fun p=>(Value.string p.1,p.2))->(∀e∈es,e.key≠ .string k)->
    vg ps k=none/\∀v,vu ps k v=ps++[(k,v)]
  |[],[],_,_=>⟨rfl,fun _=>rfl⟩
  |e::es,p::ps,h,b=>by
    simp only [List.map_cons,uE,uD] at h;obtain ⟨⟨j,o⟩,c⟩:=h;obtain ⟨g,n⟩:=qby c fun x m=>b x (by simp [m]);have a:¬p.1=k:=fun i=>b e (by simp) (by rw [j,i]);exact ⟨by rw [xQ,q3 a,g],fun v=>by rw [vu,q3 a,n];rfl⟩
  |[],_::_,h,_=>by simp at h
  |_::_,[],h,_=>by simp at h
def qbx {k:ByteArray} {v:AB}:∀{es:List MapEntry} {ps:List (ByteArray×AB)} {j:Nat} {e:MapEntry},es.map (fun e=>(e.key,e.val))=ps.map (fun p=>(Value.string p.1,p.2))->
    es.Pairwise (fun x y=>x.key≠y.key)->es[j]? =some e->e.key=.string k->vg ps k=some e.val/\(es.modify j fun x=>{x with key:=.string k,val:=v}).map (fun e=>(e.key,e.val))=(vu ps k v).map fun p=>(Value.string p.1,p.2)
  |[],_,_,_,_,_,a,_=>by simp at a
  |e::es,[],_,_,h,_,_,_=>by simp at h
  |e::es,p::ps,0,n,h,_,a,g=>by
    simp only [List.getElem?_cons_zero,ui] at a;subst a;simp only [List.map_cons,uE,uD] at h;obtain ⟨⟨c,m⟩,i⟩:=h;have b:p.1=k:=by rw [g] at c;cases c;rfl
    refine ⟨by rw [xQ,j0 b,m], ?_⟩;simp [vu,b,i]
  |e::es,p::ps,j+1,n,h,o,a,g=>by
    simp only [List.getElem?_cons_succ] at a;simp only [List.map_cons,uE,uD] at h;obtain ⟨⟨c,m⟩,i⟩:=h;obtain ⟨q,s⟩:=List.pairwise_cons.1 o;have b:¬p.1=k:=fun z=>q n (Jl a) (by rw [c,z,g]);obtain ⟨u,t⟩:=qbx (v:=v) i s a g;refine ⟨by rw [xQ,q3 b,u], ?_⟩;simp [vu,b,t,c,m]
section
variable {P:Program} {Q:Ks} {d:Option Nat} {ty:TypeId} {K:qa->AA->Prop} {ρ:qa} {w:AA}
theorem qf9 {t:TypeId} (h:∀B W,w.heap.size<=B->qc w W->MapB W B []->W.heap.size=B+1->K (qp ρ d (.map (some B))) W):qB P Q d (.makeMap t none) ty K ρ w:=by
  refine jN (v:=.map (some w.heap.size)) (w':=w.alloc (.map #[] 0)) ?_ (h _ _ (kh _) (yK _ _) ⟨#[],0,heap_alloc_new _ _,stamped_empty 0,rfl⟩ (by simp));have a:(Instr.makeMap t none).run P w=.ok (.map (some w.heap.size)) (w.alloc (.map #[] 0)):=rfl;simp only [execOp,qR,Option.map_none,Sem.run_bind,a,Result.andThen_ok,Sem.run_pure]
theorem qga {t kt et:TypeId} {m k:Operand} {B:Nat} {ps:List (ByteArray×AB)} {s:ByteArray} {z:AB} (A:P.underlying t=some (.map kt et)) (a:P.underlying kt=some .string) (u:((P.info? et).bind fun i=>i.zero)=some z)
    (E:qd ρ m=.map (some B)) (C:qd ρ k=.string s) (n:MapB w B ps) (ok:Bool) (h:K (qp ρ d (if ok then .tuple #[(vg ps s).getD z,.bool (vg ps s).isSome] else (vg ps s).getD z)) w):qB P Q d (.lookup t m k ok) ty K ρ w:=by
  obtain ⟨inf,H,I⟩:=uh.1 u;obtain ⟨es,g,n,y,b⟩:=n.ex;have o:=qd0 b;have c:IsKey .string (.string s):=by simp [IsKey]
  refine jN (v:=_) (w':=w) ?_ h;rcases findNow_spec c es.toList 0 o with ⟨x,q⟩|⟨j,e,x,q,F⟩
  · have p:=(qby b q).1;simp [execOp,qR,Instr.lookup,E,C,run_underlying A,MapKept.run_getObj_map n,run_checkKey a c,run_findKey a x,zeroValue,typeInfo,H,I,Result.andThen,p]
  · have p:=(qbx (v:=z) b ((stamped_iff es g).1 y).2.2 q F).1;simp [execOp,qR,Instr.lookup,E,C,run_underlying A,MapKept.run_getObj_map n,run_checkKey a c,run_findKey a x,Result.andThen,p]
theorem qf8 {t kt et:TypeId} {m k x:Operand} {B:Nat} {ps:List (ByteArray×AB)} {s:ByteArray} (I:P.underlying t=some (.map kt et)) (p:P.underlying kt=some .string)
    (S:qd ρ m=.map (some B)) (O:qd ρ k=.string s) (g:MapB w B ps) (h:∀W,Only B w W->MapB W B (vu ps s (qd ρ x))->K (qp ρ d undef) W):qB P Q d (.mapUpdate t m k x) ty K ρ w:=by
  obtain ⟨es,a,g,q,c⟩:=g.ex;have A:=qd0 c;have n:IsKey .string (.string s):=by simp [IsKey]
  have only:∀o,Only B w {w with heap:=w.heap.setIfInBounds B o}:=fun o=>⟨rfl,rfl,rfl,by simp,fun i R=>(heap_set g).2 i R⟩;have fin:∀W,(Instr.mapUpdate t (.map (some B)) (.string s) (qd ρ x)).run P w=.ok () W->K (qp ρ d undef) W->vD P Q d (.mapUpdate t m k x) ty K ρ w:=by
    intro W L F;unfold vD;simp only [execOp,qR,S,O,Sem.run_bind,L,Result.andThen_ok,Sem.run_pure];exact F
  rcases findNow_spec n es.toList 0 A with ⟨H,y⟩|⟨j,e,H,y,E⟩
  · have C:=(qby c y).2 (qd ρ x);refine fin {w with heap:=w.heap.setIfInBounds B (.map (es.push {key:=.string s,val:=qd ρ x,born:=a}) (a+1))} ?_ (h _ (only _) ⟨_,_,(heap_set g).1,stamped_push q y, ?_⟩)
    · simp [Instr.mapUpdate,run_underlying I,MapKept.run_getObj_map g,run_checkKey p n,run_findKey p H,run_setObj_map _ g,Result.andThen]
    · rw [C];simp [c]
  · have J:es[j]? =some e:=by simpa using y
    have C:=(qbx (v:=qd ρ x) c ((stamped_iff es a).1 q).2.2 y E).2;have z:∀u,es[j]? =some u->({u with key:=.string s,val:=qd ρ x}:MapEntry).key=u.key:=fun u b=>by rw [J] at b;cases b;exact E.symm
    refine fin {w with heap:=w.heap.setIfInBounds B (.map (es.modify j fun e=>{e with key:=.string s,val:=qd ρ x}) a)} ?_ (h _ (only _) ⟨_,_,(heap_set g).1,stamped_modify q _ _ (fun _ _=>rfl) (fun u _ b=>z u b), ?_⟩)
    · simp [Instr.mapUpdate,run_underlying I,MapKept.run_getObj_map g,run_checkKey p n,run_findKey p H,J,E,run_keyThatStays n,run_setObj_map _ g,Result.andThen]
    · rw [Array.toList_modify];exact C
end
end Go.Eng
namespace Go.Eng
open Go.MapKept Go.RowKit
structure RangeB (w:AA) (R B:Nat) (ps:List (ByteArray×AB)) (vis:List ByteArray) (cur:Option (ByteArray×AB)):Prop where
  ex:∃(es:Array MapEntry) (clock since:Nat) (seen:Array Nat) (c0:Nat),w.heap[B]? =some (.map es clock)/\Stamped es clock/\es.toList.map (fun e=>(e.key,e.val))=ps.map (fun p=>(Value.string p.1,p.2))/\
    w.heap[R]? =some (.mapIter (some B) since seen c0)/\(∀x∈es.toList,x.born<since)/\since<=c0/\since<=clock/\(∀e∈es.toList,∀k,e.key=.string k->(seen.contains e.born=true↔k∈vis))/\
    (∀k v,cur=some (k,v)->c0=clock/\∃e∈es.toList,e.key=.string k/\e.val=v/\∃s:Array Nat,seen=s.push e.born)
def RangeB.block {w w':AA} {R B:Nat} {ps:List (ByteArray×AB)} {c:List ByteArray} {cur:Option (ByteArray×AB)} (h:RangeB w R B ps c cur) (e:w'.heap[B]? =w.heap[B]?) (k:w'.heap[R]? =w.heap[R]?):RangeB w' R B ps c cur:=by
  obtain ⟨es,b,a,seen,c0,m,j,g,i,r⟩:=h.ex;exact ⟨es,b,a,seen,c0,e.trans m,j,g,k.trans i,r⟩
def RangeB.lt {w:AA} {R B:Nat} {ps:List (ByteArray×AB)} {b:List ByteArray} {cur:Option (ByteArray×AB)} (h:RangeB w R B ps b cur):B<w.heap.size/\R<w.heap.size:=by
  obtain ⟨es,c,a,seen,c0,e,j,i,g,r⟩:=h.ex;exact ⟨(ul.1 e).1,(ul.1 g).1⟩
section
variable {P:Program} {Q:Ks} {d:Option Nat} {ty:TypeId} {K:qa->AA->Prop} {ρ:qa} {w:AA}
end
end Go.Eng
namespace Go.Eng
open Go.RowKit
def qeL:Code->List Code
  | .seq a b| .cond _ a b=>qeL a++qeL b
  | .block _ c| .loop c| .scope c=>qeL c
  | .rangeFunc f p a b=>[.rangeFunc f p a b]
  |_=>[]
def rfA:Code->Code| .rangeFunc _ _ a _=>a|_=> .skip
def rfB:Code->Code| .rangeFunc _ _ _ b=>b|_=> .skip
structure LoopB (W:AA) (l Db:Nat) (r:Loop):Prop where
  rcd:W.heap[l]? =some (.loop r)
  col:W.heap[Db]? =some (.deferred (some []))
section
variable {W W':AA} {l Db:Nat} {r:Loop}
theorem LoopB.lt (h:LoopB W l Db r):l<W.heap.size/\Db<W.heap.size:=⟨(ul.1 h.rcd).1,(ul.1 h.col).1⟩
theorem LoopB.ne (h:LoopB W l Db r):l≠Db:=by rintro rfl;have:=h.rcd.symm.trans h.col;cases this
theorem LoopB.ext (h:LoopB W l Db r) (a:qc W W'):LoopB W' l Db r:=⟨(a.block l h.lt.1).trans h.rcd,(a.block Db h.lt.2).trans h.col⟩
theorem LoopB.keep (h:LoopB W l Db r) (a:W'.heap[l]? =W.heap[l]?) (b:W'.heap[Db]? =W.heap[Db]?):LoopB W' l Db r:=⟨a.trans h.rcd,b.trans h.col⟩
theorem LoopB.put (h:LoopB W l Db r) (r':Loop):LoopB (W.putObj l (.loop r')) l Db r':=⟨World.putObj_heap_same h.lt.1,(World.putObj_heap_other h.ne.symm).trans h.col⟩
theorem qcb (W:AA) (l:Nat) (o:Obj):Only l W (W.putObj l o):=⟨rfl,rfl,rfl,by simp,fun _ a=>World.putObj_heap_other a⟩
end
def qcG (P:Program) (l:Nat) (args:Array AB) (W:AA) (R:Ending->AA->Prop):Prop:=
  ∃fn tmps assign body,(Instr.yield l args).run P W=.ok (.round l fn tmps assign body) W/\RoundIn Fence.wide 0 P l fn tmps assign body W R
def qcG.mono {P:Program} {l:Nat} {args:Array AB} {W:AA} {R R':Ending->AA->Prop} (h:qcG P l args W R) (c:∀e w,R e w->R' e w):qcG P l args W R':=by
  obtain ⟨fn,tmps,as,bd,b,a⟩:=h;exact ⟨fn,tmps,as,bd,b,a.mono c⟩
section
variable {P:Program} {Q:Ks} {d:Option Nat} {ty:TypeId} {K:qa->AA->Prop} {ρ:qa} {w:AA}
theorem qIa {args:Array Operand} {a:Array TypeId} {t l:Nat} (h:ρ t=.func (.yield l) #[] #[]) (b:Q.rd) (j:qcG P l (args.map (qd ρ)) w (vL Q d K ρ)):
    qB P Q d (.call {callee:=.value (.tmp t),args:=args,argTypes:=a}) ty K ρ w:=by
  obtain ⟨fn,tmps,as,bd,i,c⟩:=j;show vD P Q d _ ty K ρ w;unfold vD;have:(execOp (qd ρ) (qR d (.call {callee:=.value (.tmp t),args:=args,argTypes:=a}) ty)).run P w=.ok (.round l fn tmps as bd) w:=by
    simp [execOp,qR,resolve,h,Deferred.ofValue,invoke,i]
  rw [this];exact ⟨b,c.mono fun e w' g=>by cases e<;>exact g⟩
end
@[simp] theorem qLT (n:Nat) (h:n<1000000000):(gS=n)=False:=by unfold gS;simp;omega
@[simp] theorem qLY (n:Nat) (h:n<1000000000):(n=gS)=False:=by unfold gS;simp;omega
def LoopB.ready {W:AA} {l Db:Nat} {r:Loop} (h:LoopB W l Db {r with state:=.ready,pending:=none}) (b:r.state=.ready) (a:r.pending=none):LoopB W l Db r:=by
  cases r;simp only at b a;subst b;subst a;exact h
def LoopB.ready' {W:AA} {l Db:Nat} {r:Loop} (h:LoopB W l Db r) (b:r.state=.ready) (a:r.pending=none):LoopB W l Db {r with state:=.ready,pending:=none}:=by
  cases r;simp only at b a;subst b;subst a;exact h
def qeY (ρ:qa):List Nat->List AB->qa
  |p::ps,v::vs=>qeY (qx ρ p v) ps vs
  |_,_=>ρ
def qhP (l Db:Nat) (r:Loop) (R:Ending->AA->Prop):Ks:=
  ⟨fun i _ W3=>LoopB W3 l Db {r with state:=.busy}/\∀W4,Only l W3 W4->LoopB W4 l Db {r with state:=.done,pending:=some (.exit i)}->R (.returned (.bool false)) W4,
   fun _ W3=>LoopB W3 l Db {r with state:=.busy}/\∀W4,Only l W3 W4->LoopB W4 l Db {r with state:=.done,pending:=some .ret}->R (.returned (.bool false)) W4,
   fun _ _ _=>False,False,False,True⟩
def qnu (l Db:Nat) (r:Loop) (R:Ending->AA->Prop):qa->AA->Prop:=
  fun _ W3=>LoopB W3 l Db {r with state:=.busy}/\∀W4,Only l W3 W4->LoopB W4 l Db {r with state:=.ready,pending:=none}->R (.returned (.bool true)) W4
def qo5:Ks:=⟨fun _ _ _=>False,fun _ _=>False,fun _ _ _=>False,False,False,True⟩
@[simp] theorem qKB (l Db:Nat) (r:Loop) (R:Ending->AA->Prop):(qhP l Db r R).df=False:=rfl
@[simp] theorem qKA (l Db:Nat) (r:Loop) (R:Ending->AA->Prop):(qhP l Db r R).rd=True:=rfl
@[simp] theorem qLw:qo5.rd=True:=rfl
def qwU {n:Nat} {V:List Nat}:∀(ps:List Nat) (vs:List AB) (ρ:qa) (a:Act),Agree n V ρ a->(∀p∈ps,p∈V)->
    Agree n V (qeY ρ ps vs) {a with tmps:=(ps.zip vs).foldl (fun t (x:Nat×AB)=>t.setIfInBounds x.1 x.2) a.tmps}
  |[],vs,ρ,a,h,_=>by cases vs<;>exact h
  |p::ps,[],ρ,a,h,_=>h
  |p::ps,v::vs,ρ,a,h,b=>by
    have c:=h.put (b p (by simp)) v;exact qwU ps vs _ (a.put (some p) v) c fun x e=>b x (by simp [e])
def qKi {n:Nat} {V:List Nat} {ρ:qa} {a:Act} (h:Agree n V ρ a):Agree n V (qx ρ gS (.tuple #[])) {a with defers:=[]}:=by
  refine ⟨h.size, ?_,h.lt,h.big⟩;rw [h.env];funext i;simp only [qx,wr];split<;>rfl
structure Part (P:Program) (n:Nat) (V:List Nat) (c:Code) (ir:IR):Prop where
  ok:(jk P n V [] c).map IR.norm=some ir
  plain:x0 c=true
def qog {P:Program} {n:Nat} {V:List Nat} {c:Code} {ir:IR} (h:Part P n V c ir) (ro:Option Nat) {K:qa->AA->Prop} {Q:Ks} {ρ:qa} {a:Act} {w:AA} (e:¬Q.df)
    (i:Agree n V ρ a) (k:a.defers=[]) (g:ir.wp ⟨P,n,V,[]⟩ K Q ρ w):c.wpIn (fc ro) 0 P (ku ⟨P,n,V,[]⟩ K Q) a w:=by
  obtain ⟨b,m,j⟩:=uc.1 h.ok;subst j;rw [IR.norm_wp] at g;exact qv1 ⟨P,n,V,[]⟩ ro [] c b m (.inr ⟨h.plain,rfl⟩) K Q ρ a w (fun h=>absurd h e) i (fun _=>k) g
def qz7 {P:Program} {m l f:Nat} {tmps:Array AB} {as bd:Code} {w:AA} {R:Ending->AA->Prop} (h:RoundIn (fc none) m P l f tmps as bd w R):RoundIn Fence.wide 0 P l f tmps as bd w R:=
  ⟨trivial,fun c cs _=>h.2 c cs (room_wide _)⟩
def qxa {P:Program} {n:Nat} {V:List Nat} {l Db:Nat} {r:Loop} {ρ:qa} {a:Act} {k o:IR} {args:Array AB} {W:AA} {R:Ending->AA->Prop} {ps:Array Tmp} (L:LoopB W l Db r) (C:r.state=.ready)
    (H:Agree n V ρ a) (y:r.tmps=a.tmps) (A:r.params=ps) (u:args.size=ps.size) (v:∀p∈ps.toList,p∈V) (I:Part P n V r.assign k) (E:Part P n V r.body o)
    (h:k.wp ⟨P,n,V,[]⟩ (fun q W1=>LoopB W1 l Db r/\∀W2,Only l W1 W2->LoopB W2 l Db {r with state:=.busy}->o.wp ⟨P,n,V,[]⟩ (qnu l Db r R) (qhP l Db r R) q W2) qo5 (qeY (qx ρ gS (.tuple #[])) ps.toList args.toList) W):
    qcG P l args W R:=by
  subst A;refine ⟨_,_,_,_,run_yield L.rcd u,qz7 (m:=0) (roundIn_of_wpIn (F:=fc none) trivial ?_)⟩;have B:=qwU r.params.toList args.toList _ _ (qKi H) v;have J:((r.params.zip args).foldl (fun tmps (t,a)=>tmps.setIfInBounds t a) r.tmps)=((r.params.toList.zip args.toList).foldl (fun t (x:Nat×AB)=>t.setIfInBounds x.1 x.2) a.tmps):=by
    rw [<-JC,<-y];simp
  simp only [J];refine wpIn_mono (qog I (some l) (fun h=>h) B rfl h) ?_;intro e U W1 g;cases e with
  |normal=>
    obtain ⟨O,q,z,s,S⟩:=g;refine ⟨_,run_beginRound s.rcd C, ?_⟩;refine wpIn_mono (qog E (some l) (fun h=>h) z (O rfl) (S _ (qcb _ _ _) (s.put _))) ?_;intro e a3 W3 g;cases e with
    |normal=>
      obtain ⟨_,_,_,b,j⟩:=g;exact ⟨_,_,run_endRound none b.rcd,by simpa using j _ (qcb _ _ _) (b.put _)⟩
    |ret=>
      obtain ⟨_,_,_,b,j⟩:=g;exact ⟨_,_,run_endRound (some .ret) b.rcd,by simpa using j _ (qcb _ _ _) (b.put _)⟩
    |exit i=>
      obtain ⟨_,_,_,b,j⟩:=g;exact ⟨_,_,run_endRound (some (.exit i)) b.rcd,by simpa using j _ (qcb _ _ _) (b.put _)⟩
    |goto i=>exact False.elim g
    |panic c=>exact g.2.elim fun _ h=>h.2
    |outgrown=>exact g
  |exit i=>exact g.2.elim fun _ h=>h.2
  |ret=>exact g.2.elim fun _ h=>h.2
  |goto i=>exact g
  |panic c=>exact g.2.elim fun _ h=>h.2
  |outgrown=>exact g
def qaI (Db:Nat):Deferred:=⟨.collected Db, #[]⟩
def qCN (cx:Cx) (l Db:Nat) (r:Loop) (K:qa->AA->Prop) (Q:Ks) (ρ:qa):Ending->AA->Prop
  | .returned _,W3=>∃st pend,st≠LoopState.busy/\LoopB W3 l Db {r with state:=st,pending:=pend}/\∀W4,Only l W3 W4->LoopB W4 l Db {r with state:=.exhausted,pending:=pend}->
      match pend with
      |none=>K ρ W4
      |some .ret=>Q.rt ρ W4
      |some (.exit i)=>Q.ex i ρ W4
      |_=>False
  | .panicked c,W3=>Q.pn ρ c W3
  | .outgrown,_=>Q.og
@[simp] theorem qL1 (Db:Nat) (vs:Array AB):yM (qaI Db) (.tuple vs)=.tuple (.int .i64 Db::vs.toList).toArray:=rfl
def qpj {P:Program} {rs:List RV} {R:Ending->AA->Prop} {ρ:qa} {ds:List AB} {u:FrameMode} {w:AA} {k:IntKind} {Db:Nat} (b:u≠ .run) (a:w.heap[Db]? =some (.deferred (some [])))
    (h:∀w',Only Db w w'->vo P rs R ρ ds u w'):vo P rs R ρ (.int k Db::ds) u w:=by
  refine ⟨b,_, ?_,h _ (qcb w Db (.deferred none))⟩;simpa using run_takeDeferred (P:=P) a
def qH9 {P:Program} {rs:List RV} {R:Ending->AA->Prop} {ρ:qa} {w:AA} (a:ρ gS=.tuple #[]) (h:qz rs R ρ w):vl P rs R .returning ρ w:=by
  simp only [vl,a];exact h
end Go.Eng
