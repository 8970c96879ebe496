/- Lemmas for a claim about layer 2 (tree). No conditions but those they state. -/
import Derived.Test.YtbcmiempigoooaaGreatDoorEag
import Derived.Maps.RangeRun
set_option linter.all false
namespace Go.Eng
open Go.MapKept Go.RowKit
def vE (ps:List (ByteArray×Value)) (k:ByteArray):Option Value:=(ps.find? fun p=>decide (p.1=k)).map (·.2)
def vL:List (ByteArray×Value)->ByteArray->Value->List (ByteArray×Value)
  |[],k,v=>[(k,v)]
  |p::l,k,v=>if p.1=k then (k,v)::l else p::vL l k v
@[simp] theorem qDM (k:ByteArray):vE [] k=none:=rfl
def ku (p:ByteArray×Value) (l:List (ByteArray×Value)) (k:ByteArray):vE (p::l) k=if p.1=k then some p.2 else vE l k:=by
  unfold vE;rw [List.find?_cons];by_cases h:p.1=k<;>simp [h]
def qfD (k a : ByteArray) (v : Value) : ∀ l : List (ByteArray × Value), vE (vL l k v) a = if k = a then some v else vE l a
  |[]=>by simp [vL,ku]
  | p :: l => by
    unfold vL;split
    · rename_i h;rw [ku,ku];by_cases c:k=a
      · simp [c]
      · simp [c,h]
    · rename_i h;rw [ku,ku,qfD k a v l];by_cases b:p.1=a
      · have:¬k=a:=fun e=>h (b.trans e.symm);simp [b,this]
      · simp [b]
structure MapB (w:World) (B:Nat) (ps:List (ByteArray×Value)):Prop where
  ex:∃es clock,w.heap[B]? =some (.map es clock)/\Stamped es clock/\es.toList.map (fun e=>(e.key,e.val))=ps.map fun p=>(Value.string p.1,p.2)
def MapB.lt {w:World} {B:Nat} {ps:List (ByteArray×Value)} (h:MapB w B ps):B<w.heap.size:=by
  obtain ⟨es,a,b,_⟩:=h.ex;exact (uq.1 b).1
def MapB.ext {w w':World} {B:Nat} {ps:List (ByteArray×Value)} (h:MapB w B ps) (c:qc w w'):MapB w' B ps:=by
  obtain ⟨es,a,b,r⟩:=h.ex;exact ⟨es,a,(c.block B h.lt).trans b,r⟩
def MapB.block {w w':World} {B:Nat} {ps:List (ByteArray×Value)} (h:MapB w B ps) (c:w'.heap[B]? =w.heap[B]?):MapB w' B ps:=by
  obtain ⟨es,a,b,r⟩:=h.ex;exact ⟨es,a,c.trans b,r⟩
def qd8 {es:List MapEntry} {ps:List (ByteArray×Value)} (h:es.map (fun e=>(e.key,e.val))=ps.map fun p=>(Value.string p.1,p.2)):∀e∈es,IsKey .string e.key:=by
  intro e b;have:(e.key,e.val)∈ps.map fun p=>(Value.string p.1,p.2):=by rw [<-h];exact un.2 ⟨e,b,rfl⟩
  obtain ⟨p,_,c⟩:=un.1 this;cases a:e.key<;>simp_all [IsKey]
def qbx {k:ByteArray}:∀{es:List MapEntry} {ps:List (ByteArray×Value)},es.map (fun e=>(e.key,e.val))=ps.map (fun p=>(Value.string p.1,p.2))->(∀e∈es,e.key≠ .string k)->
    vE ps k=none/\∀v,vL ps k v=ps++[(k,v)]
  |[],[],_,_=>⟨rfl,fun _=>rfl⟩
  |e::es,p::ps,h,a=>by
    simp only [List.map_cons,uM,uQ] at h;obtain ⟨⟨g,o⟩,c⟩:=h;obtain ⟨i,m⟩:=qbx c fun x j=>a x (by simp [j]);have b:¬p.1=k:=fun n=>a e (by simp) (by rw [g,n]);exact ⟨by rw [ku,if_neg b,i],fun v=>by rw [vL,if_neg b,m];rfl⟩
  |[],_::_,h,_=>by simp at h
  |_::_,[],h,_=>by simp at h
def qbw {k:ByteArray} {v:Value}:∀{es:List MapEntry} {ps:List (ByteArray×Value)} {j:Nat} {e:MapEntry},es.map (fun e=>(e.key,e.val))=ps.map (fun p=>(Value.string p.1,p.2))->
    es.Pairwise (fun x y=>x.key≠y.key)->es[j]? =some e->e.key=.string k->vE ps k=some e.val/\(es.modify j fun x=>{x with key:=.string k,val:=v}).map (fun e=>(e.key,e.val))=(vL ps k v).map fun p=>(Value.string p.1,p.2)
  |[],_,_,_,_,_,a,_=>by simp at a
  |e::es,[],_,_,h,_,_,_=>by simp at h
  |e::es,p::ps,0,n,h,_,a,g=>by
    simp only [List.getElem?_cons_zero,ub] at a;subst a;simp only [List.map_cons,uM,uQ] at h;obtain ⟨⟨c,i⟩,m⟩:=h;have b:p.1=k:=by rw [g] at c;cases c;rfl
    refine ⟨by rw [ku,if_pos b,i], ?_⟩;simp [vL,b,m]
  |e::es,p::ps,j+1,n,h,s,a,g=>by
    simp only [List.getElem?_cons_succ] at a;simp only [List.map_cons,uM,uQ] at h;obtain ⟨⟨c,i⟩,m⟩:=h;obtain ⟨z,o⟩:=List.pairwise_cons.1 s;have b:¬p.1=k:=fun A=>z n (JD a) (by rw [c,A,g]);obtain ⟨t,u⟩:=qbw (v:=v) m o a g;refine ⟨by rw [ku,if_neg b,t], ?_⟩;simp [vL,b,u,c,i]
section
variable {P:Program} {Q:Ks} {d:Option Nat} {ty:TypeId} {K:qa->World->Prop} {ρ:qa} {w:World}
theorem qlm {t:TypeId} (h:∀B W,w.heap.size<=B->qc w W->MapB W B []->W.heap.size=B+1->K (qn ρ d (.map (some B))) W):qx P Q d (.makeMap t none) ty K ρ w:=by
  refine jQ (v:=.map (some w.heap.size)) (w':=w.alloc (.map #[] 0)) ?_ (h _ _ (j1 _) (QD _ _) ⟨#[],0,heap_alloc_new _ _,stamped_empty 0,rfl⟩ (by simp));have a:(Instr.makeMap t none).run P w=.ok (.map (some w.heap.size)) (w.alloc (.map #[] 0)):=rfl;simp only [execOp,qN,Option.map_none,Sem.run_bind,a,Result.andThen_ok,Sem.run_pure]
theorem qln {t kt et:TypeId} {m k:Operand} {B:Nat} {ps:List (ByteArray×Value)} {s:ByteArray} {z:Value} (C:P.underlying t=some (.map kt et)) (a:P.underlying kt=some .string) (x:((P.info? et).bind fun i=>i.zero)=some z)
    (F:qe ρ m=.map (some B)) (E:qe ρ k=.string s) (n:MapB w B ps) (ok:Bool) (h:K (qn ρ d (if ok then .tuple #[(vE ps s).getD z,.bool (vE ps s).isSome] else (vE ps s).getD z)) w):qx P Q d (.lookup t m k ok) ty K ρ w:=by
  obtain ⟨inf,I,J⟩:=uc.1 x;obtain ⟨es,b,n,y,g⟩:=n.ex;have o:=qd8 g;have c:IsKey .string (.string s):=by simp [IsKey]
  refine jQ (v:=_) (w':=w) ?_ h;rcases findNow_spec c es.toList 0 o with ⟨A,u⟩|⟨j,e,A,u,H⟩
  · have p:=(qbx g u).1;simp [execOp,qN,Instr.lookup,F,E,run_underlying C,MapKept.run_getObj_map n,run_checkKey a c,run_findKey a A,zeroValue,typeInfo,I,J,Result.andThen,p]
  · have p:=(qbw (v:=z) g ((stamped_iff es b).1 y).2.2 u H).1;simp [execOp,qN,Instr.lookup,F,E,run_underlying C,MapKept.run_getObj_map n,run_checkKey a c,run_findKey a A,Result.andThen,p]
theorem qll {t kt et:TypeId} {m k x:Operand} {B:Nat} {ps:List (ByteArray×Value)} {s:ByteArray} (L:P.underlying t=some (.map kt et)) (n:P.underlying kt=some .string)
    (U:qe ρ m=.map (some B)) (R:qe ρ k=.string s) (b:MapB w B ps) (h:∀W,Only B w W->MapB W B (vL ps s (qe ρ x))->K (qn ρ d undef) W):qx P Q d (.mapUpdate t m k x) ty K ρ w:=by
  obtain ⟨es,a,b,u,g⟩:=b.ex;have C:=qd8 g;have c:IsKey .string (.string s):=by simp [IsKey]
  have only:∀o,Only B w {w with heap:=w.heap.setIfInBounds B o}:=fun o=>⟨rfl,rfl,rfl,by simp,fun i S=>(heap_set b).2 i S⟩;have fin:∀W,(Instr.mapUpdate t (.map (some B)) (.string s) (qe ρ x)).run P w=.ok () W->K (qn ρ d undef) W->vK P Q d (.mapUpdate t m k x) ty K ρ w:=by
    intro W O I;unfold vK;simp only [execOp,qN,U,R,Sem.run_bind,O,Result.andThen_ok,Sem.run_pure];exact I
  rcases findNow_spec c es.toList 0 C with ⟨H,z⟩|⟨j,e,H,z,F⟩
  · have E:=(qbx g z).2 (qe ρ x);refine fin {w with heap:=w.heap.setIfInBounds B (.map (es.push {key:=.string s,val:=qe ρ x,born:=a}) (a+1))} ?_ (h _ (only _) ⟨_,_,(heap_set b).1,stamped_push u z, ?_⟩)
    · simp [Instr.mapUpdate,run_underlying L,MapKept.run_getObj_map b,run_checkKey n c,run_findKey n H,run_setObj_map _ b,Result.andThen]
    · rw [E];simp [g]
  · have J:es[j]? =some e:=by simpa using z
    have E:=(qbw (v:=qe ρ x) g ((stamped_iff es a).1 u).2.2 z F).2;have A:∀y,es[j]? =some y->({y with key:=.string s,val:=qe ρ x}:MapEntry).key=y.key:=fun y p=>by rw [J] at p;cases p;exact F.symm
    refine fin {w with heap:=w.heap.setIfInBounds B (.map (es.modify j fun e=>{e with key:=.string s,val:=qe ρ x}) a)} ?_ (h _ (only _) ⟨_,_,(heap_set b).1,stamped_modify u _ _ (fun _ _=>rfl) (fun y _ p=>A y p), ?_⟩)
    · simp [Instr.mapUpdate,run_underlying L,MapKept.run_getObj_map b,run_checkKey n c,run_findKey n H,J,F,run_keyThatStays c,run_setObj_map _ b,Result.andThen]
    · rw [Array.toList_modify];exact E
end
end Go.Eng
namespace Go.Eng
open Go.MapKept Go.RowKit
structure RangeB (w:World) (R B:Nat) (ps:List (ByteArray×Value)) (vis:List ByteArray) (cur:Option (ByteArray×Value)):Prop where
  ex:∃(es:Array MapEntry) (clock since:Nat) (seen:Array Nat) (c0:Nat),w.heap[B]? =some (.map es clock)/\Stamped es clock/\es.toList.map (fun e=>(e.key,e.val))=ps.map (fun p=>(Value.string p.1,p.2))/\
    w.heap[R]? =some (.mapIter (some B) since seen c0)/\(∀x∈es.toList,x.born<since)/\since<=c0/\since<=clock/\(∀e∈es.toList,∀k,e.key=.string k->(seen.contains e.born=true↔k∈vis))/\
    (∀k v,cur=some (k,v)->c0=clock/\∃e∈es.toList,e.key=.string k/\e.val=v/\∃s:Array Nat,seen=s.push e.born)
def RangeB.block {w w':World} {R B:Nat} {ps:List (ByteArray×Value)} {c:List ByteArray} {cur:Option (ByteArray×Value)} (h:RangeB w R B ps c cur) (k:w'.heap[B]? =w.heap[B]?) (j:w'.heap[R]? =w.heap[R]?):RangeB w' R B ps c cur:=by
  obtain ⟨es,a,b,seen,c0,i,e,g,m,r⟩:=h.ex;exact ⟨es,a,b,seen,c0,k.trans i,e,g,j.trans m,r⟩
def RangeB.lt {w:World} {R B:Nat} {ps:List (ByteArray×Value)} {c:List ByteArray} {cur:Option (ByteArray×Value)} (h:RangeB w R B ps c cur):B<w.heap.size/\R<w.heap.size:=by
  obtain ⟨es,b,a,seen,c0,e,j,i,g,r⟩:=h.ex;exact ⟨(uq.1 e).1,(uq.1 g).1⟩
section
variable {P:Program} {Q:Ks} {d:Option Nat} {ty:TypeId} {K:qa->World->Prop} {ρ:qa} {w:World}
end
end Go.Eng
namespace Go.Eng
open Go.RowKit
def qe9:Code->List Code
  | .seq a b| .cond _ a b=>qe9 a++qe9 b
  | .block _ c| .loop c| .scope c=>qe9 c
  | .rangeFunc f p a b=>[.rangeFunc f p a b]
  |_=>[]
def rfA:Code->Code| .rangeFunc _ _ a _=>a|_=> .skip
def rfB:Code->Code| .rangeFunc _ _ _ b=>b|_=> .skip
structure LoopB (W:World) (l Db:Nat) (r:Loop):Prop where
  rcd:W.heap[l]? =some (.loop r)
  col:W.heap[Db]? =some (.deferred (some []))
section
variable {W W':World} {l Db:Nat} {r:Loop}
theorem LoopB.lt (h:LoopB W l Db r):l<W.heap.size/\Db<W.heap.size:=⟨(uq.1 h.rcd).1,(uq.1 h.col).1⟩
theorem LoopB.ne (h:LoopB W l Db r):l≠Db:=by rintro rfl;have:=h.rcd.symm.trans h.col;cases this
theorem LoopB.ext (h:LoopB W l Db r) (a:qc W W'):LoopB W' l Db r:=⟨(a.block l h.lt.1).trans h.rcd,(a.block Db h.lt.2).trans h.col⟩
theorem LoopB.keep (h:LoopB W l Db r) (a:W'.heap[l]? =W.heap[l]?) (b:W'.heap[Db]? =W.heap[Db]?):LoopB W' l Db r:=⟨a.trans h.rcd,b.trans h.col⟩
theorem LoopB.put (h:LoopB W l Db r) (a:Loop):LoopB (W.putObj l (.loop a)) l Db a:=⟨World.putObj_heap_same h.lt.1,(World.putObj_heap_other h.ne.symm).trans h.col⟩
theorem qce (W:World) (l:Nat) (o:Obj):Only l W (W.putObj l o):=⟨rfl,rfl,rfl,by simp,fun _ a=>World.putObj_heap_other a⟩
end
def qcK (P:Program) (l:Nat) (args:Array Value) (W:World) (R:Ending->World->Prop):Prop:=
  ∃fn tmps assign body,(Instr.yield l args).run P W=.ok (.round l fn tmps assign body) W/\RoundIn Fence.wide 0 P l fn tmps assign body W R
def qcK.mono {P:Program} {l:Nat} {args:Array Value} {W:World} {R R':Ending->World->Prop} (h:qcK P l args W R) (b:∀e w,R e w->R' e w):qcK P l args W R':=by
  obtain ⟨fn,tmps,as,bd,a,c⟩:=h;exact ⟨fn,tmps,as,bd,a,c.mono b⟩
section
variable {P:Program} {Q:Ks} {d:Option Nat} {ty:TypeId} {K:qa->World->Prop} {ρ:qa} {w:World}
theorem qI3 {args:Array Operand} {a:Array TypeId} {t l:Nat} (i:ρ t=.func (.yield l) #[] #[]) (b:Q.rd) (g:qcK P l (args.map (qe ρ)) w (zD Q d K ρ)):
    qx P Q d (.call {callee:=.value (.tmp t),args:=args,argTypes:=a}) ty K ρ w:=by
  obtain ⟨fn,tmps,as,bd,h,j⟩:=g;show vK P Q d _ ty K ρ w;unfold vK;have:(execOp (qe ρ) (qN d (.call {callee:=.value (.tmp t),args:=args,argTypes:=a}) ty)).run P w=.ok (.round l fn tmps as bd) w:=by
    simp [execOp,qN,resolve,i,Deferred.ofValue,invoke,h]
  rw [this];exact ⟨b,j.mono fun e w' c=>by cases e<;>exact c⟩
end
@[simp] theorem qMI (n:Nat) (h:n<1000000000):(gS=n)=False:=by unfold gS;simp;omega
@[simp] theorem qMN (n:Nat) (h:n<1000000000):(n=gS)=False:=by unfold gS;simp;omega
def LoopB.ready {W:World} {l Db:Nat} {r:Loop} (h:LoopB W l Db {r with state:=.ready,pending:=none}) (a:r.state=.ready) (b:r.pending=none):LoopB W l Db r:=by
  cases r;simp only at a b;subst a;subst b;exact h
def LoopB.ready' {W:World} {l Db:Nat} {r:Loop} (h:LoopB W l Db r) (a:r.state=.ready) (b:r.pending=none):LoopB W l Db {r with state:=.ready,pending:=none}:=by
  cases r;simp only at a b;subst a;subst b;exact h
def qfo (ρ:qa):List Nat->List Value->qa
  |p::ps,v::vs=>qfo (qw ρ p v) ps vs
  |_,_=>ρ
def qiB (l Db:Nat) (r:Loop) (R:Ending->World->Prop):Ks:=
  ⟨fun i _ W3=>LoopB W3 l Db {r with state:=.busy}/\∀W4,Only l W3 W4->LoopB W4 l Db {r with state:=.done,pending:=some (.exit i)}->R (.returned (.bool false)) W4,
   fun _ W3=>LoopB W3 l Db {r with state:=.busy}/\∀W4,Only l W3 W4->LoopB W4 l Db {r with state:=.done,pending:=some .ret}->R (.returned (.bool false)) W4,
   fun _ _ _=>False,False,False,True⟩
def qoj (l Db:Nat) (r:Loop) (R:Ending->World->Prop):qa->World->Prop:=
  fun _ W3=>LoopB W3 l Db {r with state:=.busy}/\∀W4,Only l W3 W4->LoopB W4 l Db {r with state:=.ready,pending:=none}->R (.returned (.bool true)) W4
def qpB:Ks:=⟨fun _ _ _=>False,fun _ _=>False,fun _ _ _=>False,False,False,True⟩
@[simp] theorem qLa (l Db:Nat) (r:Loop) (R:Ending->World->Prop):(qiB l Db r R).df=False:=rfl
@[simp] theorem qK9 (l Db:Nat) (r:Loop) (R:Ending->World->Prop):(qiB l Db r R).rd=True:=rfl
@[simp] theorem qL4:qpB.rd=True:=rfl
def qxP {n:Nat} {V:List Nat}:∀(ps:List Nat) (vs:List Value) (ρ:qa) (a:Act),Agree n V ρ a->(∀p∈ps,p∈V)->
    Agree n V (qfo ρ ps vs) {a with tmps:=(ps.zip vs).foldl (fun t (x:Nat×Value)=>t.setIfInBounds x.1 x.2) a.tmps}
  |[],vs,ρ,a,h,_=>by cases vs<;>exact h
  |p::ps,[],ρ,a,h,_=>h
  |p::ps,v::vs,ρ,a,h,b=>by
    have c:=h.put (b p (by simp)) v;exact qxP ps vs _ (a.put (some p) v) c fun x e=>b x (by simp [e])
def qKS {n:Nat} {V:List Nat} {ρ:qa} {a:Act} (h:Agree n V ρ a):Agree n V (qw ρ gS (.tuple #[])) {a with defers:=[]}:=by
  refine ⟨h.size, ?_,h.lt,h.big⟩;rw [h.env];funext i;simp only [qw,wU];split<;>rfl
structure Part (P:Program) (n:Nat) (V:List Nat) (c:Code) (ir:IR):Prop where
  ok:(jo P n V [] c).map IR.norm=some ir
  plain:kH c=true
def qo0 {P:Program} {n:Nat} {V:List Nat} {c:Code} {ir:IR} (h:Part P n V c ir) (ro:Option Nat) {K:qa->World->Prop} {Q:Ks} {ρ:qa} {a:Act} {w:World} (e:¬Q.df)
    (i:Agree n V ρ a) (k:a.defers=[]) (g:ir.wp ⟨P,n,V,[]⟩ K Q ρ w):c.wpIn (fc ro) 0 P (kV ⟨P,n,V,[]⟩ K Q) a w:=by
  obtain ⟨b,m,j⟩:=ua.1 h.ok;subst j;rw [IR.norm_wp] at g;exact qwS ⟨P,n,V,[]⟩ ro [] c b m (.inr ⟨h.plain,rfl⟩) K Q ρ a w (fun h=>absurd h e) i (fun _=>k) g
def qAH {P:Program} {m l f:Nat} {tmps:Array Value} {as bd:Code} {w:World} {R:Ending->World->Prop} (h:RoundIn (fc none) m P l f tmps as bd w R):RoundIn Fence.wide 0 P l f tmps as bd w R:=
  ⟨trivial,fun c cs _=>h.2 c cs (room_wide _)⟩
def qx3 {P:Program} {n:Nat} {V:List Nat} {l Db:Nat} {r:Loop} {ρ:qa} {a:Act} {u s:IR} {args:Array Value} {W:World} {R:Ending->World->Prop} {ps:Array Tmp} (I:LoopB W l Db r) (B:r.state=.ready)
    (H:Agree n V ρ a) (C:r.tmps=a.tmps) (v:r.params=ps) (A:args.size=ps.size) (z:∀p∈ps.toList,p∈V) (L:Part P n V r.assign u) (S:Part P n V r.body s)
    (h:u.wp ⟨P,n,V,[]⟩ (fun o W1=>LoopB W1 l Db r/\∀W2,Only l W1 W2->LoopB W2 l Db {r with state:=.busy}->s.wp ⟨P,n,V,[]⟩ (qoj l Db r R) (qiB l Db r R) o W2) qpB (qfo (qw ρ gS (.tuple #[])) ps.toList args.toList) W):
    qcK P l args W R:=by
  subst v;refine ⟨_,_,_,_,run_yield I.rcd A,qAH (m:=0) (roundIn_of_wpIn (F:=fc none) trivial ?_)⟩;have y:=qxP r.params.toList args.toList _ _ (qKS H) z;have U:((r.params.zip args).foldl (fun tmps (t,a)=>tmps.setIfInBounds t a) r.tmps)=((r.params.toList.zip args.toList).foldl (fun t (x:Nat×Value)=>t.setIfInBounds x.1 x.2) a.tmps):=by
    rw [<-J6,<-C];simp
  simp only [U];refine wpIn_mono (qo0 L (some l) (fun h=>h) y rfl h) ?_;intro e X W1 g;cases e with
  |normal=>
    obtain ⟨J,o,E,k,O⟩:=g;refine ⟨_,run_beginRound k.rcd B, ?_⟩;refine wpIn_mono (qo0 S (some l) (fun h=>h) E (J rfl) (O _ (qce _ _ _) (k.put _))) ?_;intro e a3 W3 g;cases e with
    |normal=>
      obtain ⟨_,_,_,b,j⟩:=g;exact ⟨_,_,run_endRound none b.rcd,by simpa using j _ (qce _ _ _) (b.put _)⟩
    |ret=>
      obtain ⟨_,_,_,b,j⟩:=g;exact ⟨_,_,run_endRound (some .ret) b.rcd,by simpa using j _ (qce _ _ _) (b.put _)⟩
    |exit i=>
      obtain ⟨_,_,_,b,j⟩:=g;exact ⟨_,_,run_endRound (some (.exit i)) b.rcd,by simpa using j _ (qce _ _ _) (b.put _)⟩
    |goto i=>exact False.elim g
    |panic c=>exact g.2.elim fun _ h=>h.2
    |outgrown=>exact g
  |exit i=>exact g.2.elim fun _ h=>h.2
  |ret=>exact g.2.elim fun _ h=>h.2
  |goto i=>exact g
  |panic c=>exact g.2.elim fun _ h=>h.2
  |outgrown=>exact g
def qax (Db:Nat):Deferred:=⟨.collected Db, #[]⟩
def qDK (cx:Cx) (l Db:Nat) (r:Loop) (K:qa->World->Prop) (Q:Ks) (ρ:qa):Ending->World->Prop
  | .returned _,W3=>∃st pend,st≠LoopState.busy/\LoopB W3 l Db {r with state:=st,pending:=pend}/\∀W4,Only l W3 W4->LoopB W4 l Db {r with state:=.exhausted,pending:=pend}->
      match pend with
      |none=>K ρ W4
      |some .ret=>Q.rt ρ W4
      |some (.exit i)=>Q.ex i ρ W4
      |_=>False
  | .panicked c,W3=>Q.pn ρ c W3
  | .outgrown,_=>Q.og
@[simp] theorem qMP (Db:Nat) (vs:Array Value):y7 (qax Db) (.tuple vs)=.tuple (.int .i64 Db::vs.toList).toArray:=rfl
def qpT {P:Program} {rs:List RV} {R:Ending->World->Prop} {ρ:qa} {ds:List Value} {u:FrameMode} {w:World} {k:IntKind} {Db:Nat} (b:u≠ .run) (a:w.heap[Db]? =some (.deferred (some [])))
    (h:∀w',Only Db w w'->vB P rs R ρ ds u w'):vB P rs R ρ (.int k Db::ds) u w:=by
  refine ⟨b,_, ?_,h _ (qce w Db (.deferred none))⟩;simpa using run_takeDeferred (P:=P) a
def qI2 {P:Program} {rs:List RV} {R:Ending->World->Prop} {ρ:qa} {w:World} (a:ρ gS=.tuple #[]) (h:qB rs R ρ w):vz P rs R .returning ρ w:=by
  simp only [vz,a];exact h
end Go.Eng
