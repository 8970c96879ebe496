/- Lemmas for a claim about layer 2 (tree). No conditions but those they state. -/
import Derived.Test.YtbcmiempigoooaaGreatDoorGag
import Derived.Maps.RangeRun
set_option linter.all false
namespace Go.Eng
open Go.MapKept Go.RowKit
def jP (ps:List (ByteArray×Value)) (k:ByteArray):Option Value:=(ps.find? fun p=>decide (p.1=k)).map (·.2)
def jZ:List (ByteArray×Value)→ByteArray→Value→List (ByteArray×Value)
  |[],k,v=>[(k,v)]
  |p::l,k,v=>if p.1=k then (k,v)::l else p::jZ l k v
@[simp] theorem qx8 (k:ByteArray):jP [] k=none:=rfl
theorem xb (p:ByteArray×Value) (l:List (ByteArray×Value)) (k:ByteArray):jP (p::l) k=if p.1=k then some p.2 else jP l k:=by
  unfold jP;rw [List.find?_cons];by_cases h:p.1=k<;>simp [h]
theorem qdd (k a : ByteArray) (v : Value) : ∀ l : List (ByteArray × Value), jP (jZ l k v) a = if k = a then some v else jP l a
  |[]=>by simp [jZ,xb]
  | p :: l => by
    unfold jZ;split
    · rename_i h;rw [xb,xb];by_cases c:k=a
      · simp [c]
      · simp [c,h]
    · rename_i h;rw [xb,xb,qdd k a v l];by_cases b:p.1=a
      · have:¬k=a:=fun e=>h (b.trans e.symm);simp [b,this]
      · simp [b]
structure MapB (w:World) (B:Nat) (ps:List (ByteArray×Value)):Prop where
  ex:∃es clock,w.heap[B]? =some (.map es clock)∧Stamped es clock∧es.toList.map (fun e=>(e.key,e.val))=ps.map fun p=>(Value.string p.1,p.2)
theorem MapB.lt {w:World} {B:Nat} {ps:List (ByteArray×Value)} (h:MapB w B ps):B<w.heap.size:=by
  obtain ⟨es,a,b,_⟩:=h.ex;exact (Array.getElem?_eq_some_iff.1 b).1
theorem MapB.ext {w w':World} {B:Nat} {ps:List (ByteArray×Value)} (h:MapB w B ps) (c:qb w w'):MapB w' B ps:=by
  obtain ⟨es,a,b,r⟩:=h.ex;exact ⟨es,a,(c.block B h.lt).trans b,r⟩
theorem MapB.block {w w':World} {B:Nat} {ps:List (ByteArray×Value)} (h:MapB w B ps) (c:w'.heap[B]? =w.heap[B]?):MapB w' B ps:=by
  obtain ⟨es,a,b,r⟩:=h.ex;exact ⟨es,a,c.trans b,r⟩
theorem qbQ {es:List MapEntry} {ps:List (ByteArray×Value)} (h:es.map (fun e=>(e.key,e.val))=ps.map fun p=>(Value.string p.1,p.2)):∀e∈es,IsKey .string e.key:=by
  intro e b;have:(e.key,e.val)∈ps.map fun p=>(Value.string p.1,p.2):=by rw [←h];exact List.mem_map.2 ⟨e,b,rfl⟩
  obtain ⟨p,_,c⟩:=List.mem_map.1 this;cases a:e.key<;>simp_all [IsKey]
theorem QV {k:ByteArray}:∀{es:List MapEntry} {ps:List (ByteArray×Value)},es.map (fun e=>(e.key,e.val))=ps.map (fun p=>(Value.string p.1,p.2))→(∀e∈es,e.key≠ .string k)→
    jP ps k=none∧∀v,jZ ps k v=ps++[(k,v)]
  |[],[],_,_=>⟨rfl,fun _=>rfl⟩
  |e::es,p::ps,h,a=>by
    simp only [List.map_cons,List.cons.injEq,Prod.mk.injEq] at h;obtain ⟨⟨c,o⟩,i⟩:=h;obtain ⟨j,m⟩:=QV i fun x g=>a x (by simp [g]);have b:¬p.1=k:=fun n=>a e (by simp) (by rw [c,n]);exact ⟨by rw [xb,if_neg b,j],fun v=>by rw [jZ,if_neg b,m];rfl⟩
  |[],_::_,h,_=>by simp at h
  |_::_,[],h,_=>by simp at h
theorem QU {k:ByteArray} {v:Value}:∀{es:List MapEntry} {ps:List (ByteArray×Value)} {j:Nat} {e:MapEntry},es.map (fun e=>(e.key,e.val))=ps.map (fun p=>(Value.string p.1,p.2))→
    es.Pairwise (fun x y=>x.key≠y.key)→es[j]? =some e→e.key= .string k→jP ps k=some e.val∧(es.modify j fun x=>{x with key:= .string k,val:=v}).map (fun e=>(e.key,e.val))=(jZ ps k v).map fun p=>(Value.string p.1,p.2)
  |[],_,_,_,_,_,a,_=>by simp at a
  |e::es,[],_,_,h,_,_,_=>by simp at h
  |e::es,p::ps,0,n,h,_,a,g=>by
    simp only [List.getElem?_cons_zero,Option.some.injEq] at a;subst a;simp only [List.map_cons,List.cons.injEq,Prod.mk.injEq] at h;obtain ⟨⟨c,m⟩,i⟩:=h;have b:p.1=k:=by rw [g] at c;cases c;rfl
    refine ⟨by rw [xb,if_pos b,m], ?_⟩;simp [jZ,b,i]
  |e::es,p::ps,j+1,n,h,A,a,g=>by
    simp only [List.getElem?_cons_succ] at a;simp only [List.map_cons,List.cons.injEq,Prod.mk.injEq] at h;obtain ⟨⟨c,m⟩,i⟩:=h;obtain ⟨s,o⟩:=List.pairwise_cons.1 A;have b:¬p.1=k:=fun u=>s n (List.mem_of_getElem? a) (by rw [c,u,g]);obtain ⟨z,t⟩:=QU (v:=v) i o a g;refine ⟨by rw [xb,if_neg b,z], ?_⟩;simp [jZ,b,t,c,m]
section
variable {P:Program} {Q:Ks} {d:Option Nat} {ty:TypeId} {K:qa→World→Prop} {ρ:qa} {w:World}
theorem qhX {t:TypeId} (h:∀B W,w.heap.size≤B→qb w W→MapB W B []→W.heap.size=B+1→K (qm ρ d (.map (some B))) W):qw P Q d (.makeMap t none) ty K ρ w:=by
  refine ju (v:= .map (some w.heap.size)) (w':=w.alloc (.map #[] 0)) ?_ (h _ _ (Nat.le_refl _) (wE _ _) ⟨#[],0,heap_alloc_new _ _,stamped_empty 0,rfl⟩ (by simp));have a:(Instr.makeMap t none).run P w= .ok (.map (some w.heap.size)) (w.alloc (.map #[] 0)):=rfl;simp only [execOp,qD,Option.map_none,Sem.run_bind,a,Result.andThen_ok,Sem.run_pure]
theorem qhY {t kt et:TypeId} {m k:Operand} {B:Nat} {ps:List (ByteArray×Value)} {s:ByteArray} {z:Value} (C:P.underlying t=some (.map kt et)) (a:P.underlying kt=some .string) (u:((P.info? et).bind fun i=>i.zero)=some z)
    (F:qd ρ m= .map (some B)) (E:qd ρ k= .string s) (n:MapB w B ps) (ok:Bool) (h:K (qm ρ d (if ok then .tuple #[(jP ps s).getD z, .bool (jP ps s).isSome] else (jP ps s).getD z)) w):qw P Q d (.lookup t m k ok) ty K ρ w:=by
  obtain ⟨inf,I,J⟩:=Option.bind_eq_some_iff.1 u;obtain ⟨es,b,n,o,c⟩:=n.ex;have p:=qbQ c;have g:IsKey .string (.string s):=by simp [IsKey]
  refine ju (v:=_) (w':=w) ?_ h;rcases findNow_spec g es.toList 0 p with ⟨x,A⟩|⟨j,e,x,A,H⟩
  · have y:=(QV c A).1;simp [execOp,qD,Instr.lookup,F,E,run_underlying C,MapKept.run_getObj_map n,run_checkKey a g,run_findKey a x,zeroValue,typeInfo,I,J,Result.andThen,y]
  · have y:=(QU (v:=z) c ((stamped_iff es b).1 o).2.2 A H).1;simp [execOp,qD,Instr.lookup,F,E,run_underlying C,MapKept.run_getObj_map n,run_checkKey a g,run_findKey a x,Result.andThen,y]
theorem qhW {t kt et:TypeId} {m k x:Operand} {B:Nat} {ps:List (ByteArray×Value)} {s:ByteArray} (J:P.underlying t=some (.map kt et)) (n:P.underlying kt=some .string)
    (U:qd ρ m= .map (some B)) (S:qd ρ k= .string s) (g:MapB w B ps) (h:∀W,Only B w W→MapB W B (jZ ps s (qd ρ x))→K (qm ρ d undef) W):qw P Q d (.mapUpdate t m k x) ty K ρ w:=by
  obtain ⟨es,a,g,u,c⟩:=g.ex;have C:=qbQ c;have p:IsKey .string (.string s):=by simp [IsKey]
  have only:∀o,Only B w {w with heap:=w.heap.setIfInBounds B o}:=fun o=>⟨rfl,rfl,rfl,by simp,fun i R=>(heap_set g).2 i R⟩;have fin:∀W,(Instr.mapUpdate t (.map (some B)) (.string s) (qd ρ x)).run P w= .ok () W→K (qm ρ d undef) W→jY P Q d (.mapUpdate t m k x) ty K ρ w:=by
    intro W O F;unfold jY;simp only [execOp,qD,U,S,Sem.run_bind,O,Result.andThen_ok,Sem.run_pure];exact F
  rcases findNow_spec p es.toList 0 C with ⟨H,z⟩|⟨j,e,H,z,E⟩
  · have I:=(QV c z).2 (qd ρ x);refine fin {w with heap:=w.heap.setIfInBounds B (.map (es.push {key:= .string s,val:=qd ρ x,born:=a}) (a+1))} ?_ (h _ (only _) ⟨_,_,(heap_set g).1,stamped_push u z, ?_⟩)
    · simp [Instr.mapUpdate,run_underlying J,MapKept.run_getObj_map g,run_checkKey n p,run_findKey n H,run_setObj_map _ g,Result.andThen]
    · rw [I];simp [c]
  · have L:es[j]? =some e:=by simpa using z
    have I:=(QU (v:=qd ρ x) c ((stamped_iff es a).1 u).2.2 z E).2;have A:∀y,es[j]? =some y→({y with key:= .string s,val:=qd ρ x}:MapEntry).key=y.key:=fun y b=>by rw [L] at b;cases b;exact E.symm
    refine fin {w with heap:=w.heap.setIfInBounds B (.map (es.modify j fun e=>{e with key:= .string s,val:=qd ρ x}) a)} ?_ (h _ (only _) ⟨_,_,(heap_set g).1,stamped_modify u _ _ (fun _ _=>rfl) (fun y _ b=>A y b), ?_⟩)
    · simp [Instr.mapUpdate,run_underlying J,MapKept.run_getObj_map g,run_checkKey n p,run_findKey n H,L,E,run_keyThatStays p,run_setObj_map _ g,Result.andThen]
    · rw [Array.toList_modify];exact I
end
end Go.Eng
namespace Go.Eng
open Go.MapKept Go.RowKit
structure RangeB (w:World) (R B:Nat) (ps:List (ByteArray×Value)) (vis:List ByteArray) (cur:Option (ByteArray×Value)):Prop where
  ex:∃(es:Array MapEntry) (clock since:Nat) (seen:Array Nat) (c0:Nat),w.heap[B]? =some (.map es clock)∧Stamped es clock∧es.toList.map (fun e=>(e.key,e.val))=ps.map (fun p=>(Value.string p.1,p.2))∧
    w.heap[R]? =some (.mapIter (some B) since seen c0)∧(∀x∈es.toList,x.born<since)∧since≤c0∧since≤clock∧(∀e∈es.toList,∀k,e.key= .string k→(seen.contains e.born=true↔k∈vis))∧
    (∀k v,cur=some (k,v)→c0=clock∧∃e∈es.toList,e.key= .string k∧e.val=v∧∃s:Array Nat,seen=s.push e.born)
theorem RangeB.block {w w':World} {R B:Nat} {ps:List (ByteArray×Value)} {c:List ByteArray} {cur:Option (ByteArray×Value)} (h:RangeB w R B ps c cur) (j:w'.heap[B]? =w.heap[B]?) (i:w'.heap[R]? =w.heap[R]?):RangeB w' R B ps c cur:=by
  obtain ⟨es,a,b,seen,c0,k,m,g,e,r⟩:=h.ex;exact ⟨es,a,b,seen,c0,j.trans k,m,g,i.trans e,r⟩
theorem RangeB.lt {w:World} {R B:Nat} {ps:List (ByteArray×Value)} {c:List ByteArray} {cur:Option (ByteArray×Value)} (h:RangeB w R B ps c cur):B<w.heap.size∧R<w.heap.size:=by
  obtain ⟨es,a,b,seen,c0,e,i,j,g,r⟩:=h.ex;exact ⟨(Array.getElem?_eq_some_iff.1 e).1,(Array.getElem?_eq_some_iff.1 g).1⟩
section
variable {P:Program} {Q:Ks} {d:Option Nat} {ty:TypeId} {K:qa→World→Prop} {ρ:qa} {w:World}
end
end Go.Eng
namespace Go.Eng
open Go.RowKit
def qcG:Code→List Code
  | .seq a b| .cond _ a b=>qcG a++qcG b
  | .block _ c| .loop c| .scope c=>qcG c
  | .rangeFunc f p a b=>[.rangeFunc f p a b]
  |_=>[]
def rfA:Code→Code| .rangeFunc _ _ a _=>a|_=> .skip
def rfB:Code→Code| .rangeFunc _ _ _ b=>b|_=> .skip
structure LoopB (W:World) (l Db:Nat) (r:Loop):Prop where
  rcd:W.heap[l]? =some (.loop r)
  col:W.heap[Db]? =some (.deferred (some []))
section
variable {W W':World} {l Db:Nat} {r:Loop}
theorem LoopB.lt (h:LoopB W l Db r):l<W.heap.size∧Db<W.heap.size:=⟨(Array.getElem?_eq_some_iff.1 h.rcd).1,(Array.getElem?_eq_some_iff.1 h.col).1⟩
theorem LoopB.ne (h:LoopB W l Db r):l≠Db:=by rintro rfl;have:=h.rcd.symm.trans h.col;cases this
theorem LoopB.ext (h:LoopB W l Db r) (a:qb W W'):LoopB W' l Db r:=⟨(a.block l h.lt.1).trans h.rcd,(a.block Db h.lt.2).trans h.col⟩
theorem LoopB.keep (h:LoopB W l Db r) (a:W'.heap[l]? =W.heap[l]?) (b:W'.heap[Db]? =W.heap[Db]?):LoopB W' l Db r:=⟨a.trans h.rcd,b.trans h.col⟩
theorem LoopB.put (h:LoopB W l Db r) (a:Loop):LoopB (W.putObj l (.loop a)) l Db a:=⟨World.putObj_heap_same h.lt.1,(World.putObj_heap_other h.ne.symm).trans h.col⟩
theorem qae (W:World) (l:Nat) (o:Obj):Only l W (W.putObj l o):=⟨rfl,rfl,rfl,by simp,fun _ a=>World.putObj_heap_other a⟩
end
def qaC (P:Program) (l:Nat) (args:Array Value) (W:World) (R:Ending→World→Prop):Prop:=
  ∃fn tmps assign body,(Instr.yield l args).run P W= .ok (.round l fn tmps assign body) W∧RoundIn Fence.wide 0 P l fn tmps assign body W R
theorem qaC.mono {P:Program} {l:Nat} {args:Array Value} {W:World} {R R':Ending→World→Prop} (h:qaC P l args W R) (b:∀e w,R e w→R' e w):qaC P l args W R':=by
  obtain ⟨fn,tmps,as,bd,a,c⟩:=h;exact ⟨fn,tmps,as,bd,a,c.mono b⟩
section
variable {P:Program} {Q:Ks} {d:Option Nat} {ty:TypeId} {K:qa→World→Prop} {ρ:qa} {w:World}
theorem qCZ {args:Array Operand} {a:Array TypeId} {t l:Nat} (g:ρ t= .func (.yield l) #[] #[]) (b:Q.rd) (i:qaC P l (args.map (qd ρ)) w (xP Q d K ρ)):
    qw P Q d (.call {callee:= .value (.tmp t),args:=args,argTypes:=a}) ty K ρ w:=by
  obtain ⟨fn,tmps,as,bd,c,j⟩:=i;show jY P Q d _ ty K ρ w;unfold jY;have:(execOp (qd ρ) (qD d (.call {callee:= .value (.tmp t),args:=args,argTypes:=a}) ty)).run P w= .ok (.round l fn tmps as bd) w:=by
    simp [execOp,qD,resolve,g,Deferred.ofValue,invoke,c]
  rw [this];exact ⟨b,j.mono fun e w' h=>by cases e<;>exact h⟩
end
@[simp] theorem qGl (n:Nat) (h:n<1000000000):(gS=n)=False:=by unfold gS;simp;omega
@[simp] theorem qGq (n:Nat) (h:n<1000000000):(n=gS)=False:=by unfold gS;simp;omega
theorem LoopB.ready {W:World} {l Db:Nat} {r:Loop} (h:LoopB W l Db {r with state:= .ready,pending:=none}) (a:r.state= .ready) (b:r.pending=none):LoopB W l Db r:=by
  cases r;simp only at a b;subst a;subst b;exact h
theorem LoopB.ready' {W:World} {l Db:Nat} {r:Loop} (h:LoopB W l Db r) (a:r.state= .ready) (b:r.pending=none):LoopB W l Db {r with state:= .ready,pending:=none}:=by
  cases r;simp only at a b;subst a;subst b;exact h
def qcX (ρ:qa):List Nat→List Value→qa
  |p::ps,v::vs=>qcX (qt ρ p v) ps vs
  |_,_=>ρ
def qfw (l Db:Nat) (r:Loop) (R:Ending→World→Prop):Ks:=
  ⟨fun i _ W3=>LoopB W3 l Db {r with state:= .busy}∧∀W4,Only l W3 W4→LoopB W4 l Db {r with state:= .done,pending:=some (.exit i)}→R (.returned (.bool false)) W4,
   fun _ W3=>LoopB W3 l Db {r with state:= .busy}∧∀W4,Only l W3 W4→LoopB W4 l Db {r with state:= .done,pending:=some .ret}→R (.returned (.bool false)) W4,
   fun _ _ _=>False,False,False,True⟩
def qkl (l Db:Nat) (r:Loop) (R:Ending→World→Prop):qa→World→Prop:=
  fun _ W3=>LoopB W3 l Db {r with state:= .busy}∧∀W4,Only l W3 W4→LoopB W4 l Db {r with state:= .ready,pending:=none}→R (.returned (.bool true)) W4
def qlw:Ks:=⟨fun _ _ _=>False,fun _ _=>False,fun _ _ _=>False,False,False,True⟩
@[simp] theorem qEN (l Db:Nat) (r:Loop) (R:Ending→World→Prop):(qfw l Db r R).df=False:=rfl
@[simp] theorem qEM (l Db:Nat) (r:Loop) (R:Ending→World→Prop):(qfw l Db r R).rd=True:=rfl
@[simp] theorem qFH:qlw.rd=True:=rfl
theorem qsV {n:Nat} {V:List Nat}:∀(ps:List Nat) (vs:List Value) (ρ:qa) (a:Act),Agree n V ρ a→(∀p∈ps,p∈V)→
    Agree n V (qcX ρ ps vs) {a with tmps:=(ps.zip vs).foldl (fun t (x:Nat×Value)=>t.setIfInBounds x.1 x.2) a.tmps}
  |[],vs,ρ,a,h,_=>by cases vs<;>exact h
  |p::ps,[],ρ,a,h,_=>h
  |p::ps,v::vs,ρ,a,h,b=>by
    have c:=h.put (b p (by simp)) v;exact qsV ps vs _ (a.put (some p) v) c fun x e=>b x (by simp [e])
theorem qEs {n:Nat} {V:List Nat} {ρ:qa} {a:Act} (h:Agree n V ρ a):Agree n V (qt ρ gS (.tuple #[])) {a with defers:=[]}:=by
  refine ⟨h.size, ?_,h.lt,h.big⟩;rw [h.env];funext i;simp only [qt,x8];split<;>rfl
structure Part (P:Program) (n:Nat) (V:List Nat) (c:Code) (ir:IR):Prop where
  ok:(qY P n V [] c).map IR.norm=some ir
  plain:xh c=true
theorem qk3 {P:Program} {n:Nat} {V:List Nat} {c:Code} {ir:IR} (h:Part P n V c ir) (ro:Option Nat) {K:qa→World→Prop} {Q:Ks} {ρ:qa} {a:Act} {w:World} (b:¬Q.df)
    (m:Agree n V ρ a) (i:a.defers=[]) (g:ir.wp ⟨P,n,V,[]⟩ K Q ρ w):c.wpIn (fc ro) 0 P (xx ⟨P,n,V,[]⟩ K Q) a w:=by
  obtain ⟨e,j,k⟩:=Option.map_eq_some_iff.1 h.ok;subst k;rw [IR.norm_wp] at g;exact qsj ⟨P,n,V,[]⟩ ro [] c e j (.inr ⟨h.plain,rfl⟩) K Q ρ a w (fun h=>absurd h b) m (fun _=>i) g
theorem qvr {P:Program} {m l f:Nat} {tmps:Array Value} {as bd:Code} {w:World} {R:Ending→World→Prop} (h:RoundIn (fc none) m P l f tmps as bd w R):RoundIn Fence.wide 0 P l f tmps as bd w R:=
  ⟨trivial,fun c cs _=>h.2 c cs (room_wide _)⟩
theorem qs8 {P:Program} {n:Nat} {V:List Nat} {l Db:Nat} {r:Loop} {ρ:qa} {a:Act} {s k:IR} {args:Array Value} {W:World} {R:Ending→World→Prop} {ps:Array Tmp} (H:LoopB W l Db r) (v:r.state= .ready)
    (U:Agree n V ρ a) (y:r.tmps=a.tmps) (A:r.params=ps) (E:args.size=ps.size) (B:∀p∈ps.toList,p∈V) (S:Part P n V r.assign s) (O:Part P n V r.body k)
    (h:s.wp ⟨P,n,V,[]⟩ (fun u W1=>LoopB W1 l Db r∧∀W2,Only l W1 W2→LoopB W2 l Db {r with state:= .busy}→k.wp ⟨P,n,V,[]⟩ (qkl l Db r R) (qfw l Db r R) u W2) qlw (qcX (qt ρ gS (.tuple #[])) ps.toList args.toList) W):
    qaC P l args W R:=by
  subst A;refine ⟨_,_,_,_,run_yield H.rcd E,qvr (m:=0) (roundIn_of_wpIn (F:=fc none) trivial ?_)⟩;have z:=qsV r.params.toList args.toList _ _ (qEs U) B;have J:((r.params.zip args).foldl (fun tmps (t,a)=>tmps.setIfInBounds t a) r.tmps)=((r.params.toList.zip args.toList).foldl (fun t (x:Nat×Value)=>t.setIfInBounds x.1 x.2) a.tmps):=by
    rw [←Array.foldl_toList,←y];simp
  simp only [J];refine wpIn_mono (qk3 S (some l) (fun h=>h) z rfl h) ?_;intro e X W1 g;cases e with
  |normal=>
    obtain ⟨I,u,C,o,L⟩:=g;refine ⟨_,run_beginRound o.rcd v, ?_⟩;refine wpIn_mono (qk3 O (some l) (fun h=>h) C (I rfl) (L _ (qae _ _ _) (o.put _))) ?_;intro e a3 W3 g;cases e with
    |normal=>
      obtain ⟨_,_,_,b,j⟩:=g;exact ⟨_,_,run_endRound none b.rcd,by simpa using j _ (qae _ _ _) (b.put _)⟩
    |ret=>
      obtain ⟨_,_,_,b,j⟩:=g;exact ⟨_,_,run_endRound (some .ret) b.rcd,by simpa using j _ (qae _ _ _) (b.put _)⟩
    |exit i=>
      obtain ⟨_,_,_,b,j⟩:=g;exact ⟨_,_,run_endRound (some (.exit i)) b.rcd,by simpa using j _ (qae _ _ _) (b.put _)⟩
    |goto i=>exact False.elim g
    |panic c=>exact g.2.elim fun _ h=>h.2
    |outgrown=>exact g
  |exit i=>exact g.2.elim fun _ h=>h.2
  |ret=>exact g.2.elim fun _ h=>h.2
  |goto i=>exact g
  |panic c=>exact g.2.elim fun _ h=>h.2
  |outgrown=>exact g
def yR (Db:Nat):Deferred:=⟨.collected Db, #[]⟩
def qx6 (cx:Cx) (l Db:Nat) (r:Loop) (K:qa→World→Prop) (Q:Ks) (ρ:qa):Ending→World→Prop
  | .returned _,W3=>∃st pend,st≠LoopState.busy∧LoopB W3 l Db {r with state:=st,pending:=pend}∧∀W4,Only l W3 W4→LoopB W4 l Db {r with state:= .exhausted,pending:=pend}→
      match pend with
      |none=>K ρ W4
      |some .ret=>Q.rt ρ W4
      |some (.exit i)=>Q.ex i ρ W4
      |_=>False
  | .panicked c,W3=>Q.pn ρ c W3
  | .outgrown,_=>Q.og
@[simp] theorem qGs (Db:Nat) (vs:Array Value):we (yR Db) (.tuple vs)= .tuple (.int .i64 Db::vs.toList).toArray:=rfl
theorem qlI {P:Program} {rs:List RV} {R:Ending→World→Prop} {ρ:qa} {ds:List Value} {u:FrameMode} {w:World} {k:IntKind} {Db:Nat} (a:u≠ .run) (b:w.heap[Db]? =some (.deferred (some [])))
    (h:∀w',Only Db w w'→jU P rs R ρ ds u w'):jU P rs R ρ (.int k Db::ds) u w:=by
  refine ⟨a,_, ?_,h _ (qae w Db (.deferred none))⟩;simpa using run_takeDeferred (P:=P) b
theorem qCY {P:Program} {rs:List RV} {R:Ending→World→Prop} {ρ:qa} {w:World} (a:ρ gS= .tuple #[]) (h:qC rs R ρ w):ve P rs R .returning ρ w:=by
  simp only [ve,a];exact h
end Go.Eng
