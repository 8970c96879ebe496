/- Lemmas for a claim about layer 2 (tree). No conditions but those they state. -/
import Derived.Test.YtbcmiempigoooaaGreatDoorBag
import Derived.Maps.RangeRun
set_option linter.all false
namespace Go.Eng
open Go.MapKept Go.RowKit
def jN (ps:List (ByteArray×Value)) (k:ByteArray):Option Value:=(ps.find? fun p=>decide (p.1=k)).map (·.2)
def jX:List (ByteArray×Value)→ByteArray→Value→List (ByteArray×Value)
  |[],k,v=>[(k,v)]
  |p::l,k,v=>if p.1=k then (k,v)::l else p::jX l k v
@[simp] theorem qvV (k:ByteArray):jN [] k=none:=rfl
theorem xl (p:ByteArray×Value) (l:List (ByteArray×Value)) (k:ByteArray):jN (p::l) k=if p.1=k then some p.2 else jN l k:=by
  unfold jN;rw [List.find?_cons];by_cases h:p.1=k<;>simp [h]
theorem qdr (k a : ByteArray) (v : Value) : ∀ l : List (ByteArray × Value), jN (jX l k v) a = if k = a then some v else jN l a
  |[]=>by simp [jX,xl]
  | p :: l => by
    unfold jX;split
    · rename_i h;rw [xl,xl];by_cases c:k=a
      · simp [c]
      · simp [c,h]
    · rename_i h;rw [xl,xl,qdr k a v l];by_cases b:p.1=a
      · have:¬k=a:=fun e=>h (b.trans e.symm);simp [b,this]
      · simp [b]
structure MapB (w:World) (B:Nat) (ps:List (ByteArray×Value)):Prop where
  ex:∃es clock,w.heap[B]? =some (.map es clock)∧Stamped es clock∧es.toList.map (fun e=>(e.key,e.val))=ps.map fun p=>(Value.string p.1,p.2)
theorem MapB.lt {w:World} {B:Nat} {ps:List (ByteArray×Value)} (h:MapB w B ps):B<w.heap.size:=by
  obtain ⟨es,a,b,_⟩:=h.ex;exact (Array.getElem?_eq_some_iff.1 b).1
theorem MapB.ext {w w':World} {B:Nat} {ps:List (ByteArray×Value)} (h:MapB w B ps) (b:qc w w'):MapB w' B ps:=by
  obtain ⟨es,a,c,r⟩:=h.ex;exact ⟨es,a,(b.block B h.lt).trans c,r⟩
theorem MapB.block {w w':World} {B:Nat} {ps:List (ByteArray×Value)} (h:MapB w B ps) (b:w'.heap[B]? =w.heap[B]?):MapB w' B ps:=by
  obtain ⟨es,a,c,r⟩:=h.ex;exact ⟨es,a,b.trans c,r⟩
theorem qb7 {es:List MapEntry} {ps:List (ByteArray×Value)} (h:es.map (fun e=>(e.key,e.val))=ps.map fun p=>(Value.string p.1,p.2)):∀e∈es,IsKey .string e.key:=by
  intro e a;have:(e.key,e.val)∈ps.map fun p=>(Value.string p.1,p.2):=by rw [←h];exact List.mem_map.2 ⟨e,a,rfl⟩
  obtain ⟨p,_,c⟩:=List.mem_map.1 this;cases b:e.key<;>simp_all [IsKey]
theorem QK {k:ByteArray}:∀{es:List MapEntry} {ps:List (ByteArray×Value)},es.map (fun e=>(e.key,e.val))=ps.map (fun p=>(Value.string p.1,p.2))→(∀e∈es,e.key≠ .string k)→
    jN ps k=none∧∀v,jX ps k v=ps++[(k,v)]
  |[],[],_,_=>⟨rfl,fun _=>rfl⟩
  |e::es,p::ps,h,a=>by
    simp only [List.map_cons,List.cons.injEq,Prod.mk.injEq] at h;obtain ⟨⟨i,o⟩,c⟩:=h;obtain ⟨j,n⟩:=QK c fun x m=>a x (by simp [m]);have b:¬p.1=k:=fun g=>a e (by simp) (by rw [i,g]);exact ⟨by rw [xl,if_neg b,j],fun v=>by rw [jX,if_neg b,n];rfl⟩
  |[],_::_,h,_=>by simp at h
  |_::_,[],h,_=>by simp at h
theorem QJ {k:ByteArray} {v:Value}:∀{es:List MapEntry} {ps:List (ByteArray×Value)} {j:Nat} {e:MapEntry},es.map (fun e=>(e.key,e.val))=ps.map (fun p=>(Value.string p.1,p.2))→
    es.Pairwise (fun x y=>x.key≠y.key)→es[j]? =some e→e.key= .string k→jN ps k=some e.val∧(es.modify j fun x=>{x with key:= .string k,val:=v}).map (fun e=>(e.key,e.val))=(jX ps k v).map fun p=>(Value.string p.1,p.2)
  |[],_,_,_,_,_,a,_=>by simp at a
  |e::es,[],_,_,h,_,_,_=>by simp at h
  |e::es,p::ps,0,n,h,_,a,g=>by
    simp only [List.getElem?_cons_zero,Option.some.injEq] at a;subst a;simp only [List.map_cons,List.cons.injEq,Prod.mk.injEq] at h;obtain ⟨⟨c,m⟩,i⟩:=h;have b:p.1=k:=by rw [g] at c;cases c;rfl
    refine ⟨by rw [xl,if_pos b,m], ?_⟩;simp [jX,b,i]
  |e::es,p::ps,j+1,n,h,z,a,g=>by
    simp only [List.getElem?_cons_succ] at a;simp only [List.map_cons,List.cons.injEq,Prod.mk.injEq] at h;obtain ⟨⟨c,m⟩,i⟩:=h;obtain ⟨u,o⟩:=List.pairwise_cons.1 z;have b:¬p.1=k:=fun q=>u n (List.mem_of_getElem? a) (by rw [c,q,g]);obtain ⟨s,t⟩:=QJ (v:=v) i o a g;refine ⟨by rw [xl,if_neg b,s], ?_⟩;simp [jX,b,t,c,m]
section
variable {P:Program} {Q:Ks} {d:Option Nat} {ty:TypeId} {K:qa→World→Prop} {ρ:qa} {w:World}
theorem qhA {t:TypeId} (h:∀B W,w.heap.size≤B→qc w W→MapB W B []→W.heap.size=B+1→K (qk ρ d (.map (some B))) W):qm P Q d (.makeMap t none) ty K ρ w:=by
  refine jk (v:= .map (some w.heap.size)) (w':=w.alloc (.map #[] 0)) ?_ (h _ _ (Nat.le_refl _) (wU _ _) ⟨#[],0,heap_alloc_new _ _,stamped_empty 0,rfl⟩ (by simp));have a:(Instr.makeMap t none).run P w= .ok (.map (some w.heap.size)) (w.alloc (.map #[] 0)):=rfl;simp only [execOp,qA,Option.map_none,Sem.run_bind,a,Result.andThen_ok,Sem.run_pure]
theorem qhB {t kt et:TypeId} {m k:Operand} {B:Nat} {ps:List (ByteArray×Value)} {s:ByteArray} {z:Value} (C:P.underlying t=some (.map kt et)) (a:P.underlying kt=some .string) (x:((P.info? et).bind fun i=>i.zero)=some z)
    (F:qd ρ m= .map (some B)) (E:qd ρ k= .string s) (n:MapB w B ps) (ok:Bool) (h:K (qk ρ d (if ok then .tuple #[(jN ps s).getD z, .bool (jN ps s).isSome] else (jN ps s).getD z)) w):qm P Q d (.lookup t m k ok) ty K ρ w:=by
  obtain ⟨inf,J,I⟩:=Option.bind_eq_some_iff.1 x;obtain ⟨es,b,n,y,g⟩:=n.ex;have q:=qb7 g;have c:IsKey .string (.string s):=by simp [IsKey]
  refine jk (v:=_) (w':=w) ?_ h;rcases findNow_spec c es.toList 0 q with ⟨o,u⟩|⟨j,e,o,u,H⟩
  · have A:=(QK g u).1;simp [execOp,qA,Instr.lookup,F,E,run_underlying C,MapKept.run_getObj_map n,run_checkKey a c,run_findKey a o,zeroValue,typeInfo,J,I,Result.andThen,A]
  · have A:=(QJ (v:=z) g ((stamped_iff es b).1 y).2.2 u H).1;simp [execOp,qA,Instr.lookup,F,E,run_underlying C,MapKept.run_getObj_map n,run_checkKey a c,run_findKey a o,Result.andThen,A]
theorem qhz {t kt et:TypeId} {m k x:Operand} {B:Nat} {ps:List (ByteArray×Value)} {s:ByteArray} (J:P.underlying t=some (.map kt et)) (g:P.underlying kt=some .string)
    (S:qd ρ m= .map (some B)) (R:qd ρ k= .string s) (q:MapB w B ps) (h:∀W,Only B w W→MapB W B (jX ps s (qd ρ x))→K (qk ρ d undef) W):qm P Q d (.mapUpdate t m k x) ty K ρ w:=by
  obtain ⟨es,a,q,u,n⟩:=q.ex;have F:=qb7 n;have c:IsKey .string (.string s):=by simp [IsKey]
  have only:∀o,Only B w {w with heap:=w.heap.setIfInBounds B o}:=fun o=>⟨rfl,rfl,rfl,by simp,fun i U=>(heap_set q).2 i U⟩;have fin:∀W,(Instr.mapUpdate t (.map (some B)) (.string s) (qd ρ x)).run P w= .ok () W→K (qk ρ d undef) W→jV P Q d (.mapUpdate t m k x) ty K ρ w:=by
    intro W O H;unfold jV;simp only [execOp,qA,S,R,Sem.run_bind,O,Result.andThen_ok,Sem.run_pure];exact H
  rcases findNow_spec c es.toList 0 F with ⟨E,z⟩|⟨j,e,E,z,C⟩
  · have I:=(QK n z).2 (qd ρ x);refine fin {w with heap:=w.heap.setIfInBounds B (.map (es.push {key:= .string s,val:=qd ρ x,born:=a}) (a+1))} ?_ (h _ (only _) ⟨_,_,(heap_set q).1,stamped_push u z, ?_⟩)
    · simp [Instr.mapUpdate,run_underlying J,MapKept.run_getObj_map q,run_checkKey g c,run_findKey g E,run_setObj_map _ q,Result.andThen]
    · rw [I];simp [n]
  · have L:es[j]? =some e:=by simpa using z
    have I:=(QJ (v:=qd ρ x) n ((stamped_iff es a).1 u).2.2 z C).2;have A:∀y,es[j]? =some y→({y with key:= .string s,val:=qd ρ x}:MapEntry).key=y.key:=fun y b=>by rw [L] at b;cases b;exact C.symm
    refine fin {w with heap:=w.heap.setIfInBounds B (.map (es.modify j fun e=>{e with key:= .string s,val:=qd ρ x}) a)} ?_ (h _ (only _) ⟨_,_,(heap_set q).1,stamped_modify u _ _ (fun _ _=>rfl) (fun y _ b=>A y b), ?_⟩)
    · simp [Instr.mapUpdate,run_underlying J,MapKept.run_getObj_map q,run_checkKey g c,run_findKey g E,L,C,run_keyThatStays c,run_setObj_map _ q,Result.andThen]
    · rw [Array.toList_modify];exact I
end
end Go.Eng
namespace Go.Eng
open Go.MapKept Go.RowKit
structure RangeB (w:World) (R B:Nat) (ps:List (ByteArray×Value)) (vis:List ByteArray) (cur:Option (ByteArray×Value)):Prop where
  ex:∃(es:Array MapEntry) (clock since:Nat) (seen:Array Nat) (c0:Nat),w.heap[B]? =some (.map es clock)∧Stamped es clock∧es.toList.map (fun e=>(e.key,e.val))=ps.map (fun p=>(Value.string p.1,p.2))∧
    w.heap[R]? =some (.mapIter (some B) since seen c0)∧(∀x∈es.toList,x.born<since)∧since≤c0∧since≤clock∧(∀e∈es.toList,∀k,e.key= .string k→(seen.contains e.born=true↔k∈vis))∧
    (∀k v,cur=some (k,v)→c0=clock∧∃e∈es.toList,e.key= .string k∧e.val=v∧∃s:Array Nat,seen=s.push e.born)
theorem RangeB.block {w w':World} {R B:Nat} {ps:List (ByteArray×Value)} {c:List ByteArray} {cur:Option (ByteArray×Value)} (h:RangeB w R B ps c cur) (i:w'.heap[B]? =w.heap[B]?) (k:w'.heap[R]? =w.heap[R]?):RangeB w' R B ps c cur:=by
  obtain ⟨es,a,b,seen,c0,m,j,e,g,r⟩:=h.ex;exact ⟨es,a,b,seen,c0,i.trans m,j,e,k.trans g,r⟩
theorem RangeB.lt {w:World} {R B:Nat} {ps:List (ByteArray×Value)} {c:List ByteArray} {cur:Option (ByteArray×Value)} (h:RangeB w R B ps c cur):B<w.heap.size∧R<w.heap.size:=by
  obtain ⟨es,b,a,seen,c0,g,j,i,e,r⟩:=h.ex;exact ⟨(Array.getElem?_eq_some_iff.1 g).1,(Array.getElem?_eq_some_iff.1 e).1⟩
section
variable {P:Program} {Q:Ks} {d:Option Nat} {ty:TypeId} {K:qa→World→Prop} {ρ:qa} {w:World}
end
end Go.Eng
namespace Go.Eng
open Go.RowKit
def qc0:Code→List Code
  | .seq a b| .cond _ a b=>qc0 a++qc0 b
  | .block _ c| .loop c| .scope c=>qc0 c
  | .rangeFunc f p a b=>[.rangeFunc f p a b]
  |_=>[]
def rfA:Code→Code| .rangeFunc _ _ a _=>a|_=> .skip
def rfB:Code→Code| .rangeFunc _ _ _ b=>b|_=> .skip
structure LoopB (W:World) (l Db:Nat) (r:Loop):Prop where
  rcd:W.heap[l]? =some (.loop r)
  col:W.heap[Db]? =some (.deferred (some []))
section
variable {W W':World} {l Db:Nat} {r:Loop}
theorem LoopB.lt (h:LoopB W l Db r):l<W.heap.size∧Db<W.heap.size:=⟨(Array.getElem?_eq_some_iff.1 h.rcd).1,(Array.getElem?_eq_some_iff.1 h.col).1⟩
theorem LoopB.ne (h:LoopB W l Db r):l≠Db:=by rintro rfl;have:=h.rcd.symm.trans h.col;cases this
theorem LoopB.ext (h:LoopB W l Db r) (a:qc W W'):LoopB W' l Db r:=⟨(a.block l h.lt.1).trans h.rcd,(a.block Db h.lt.2).trans h.col⟩
theorem LoopB.keep (h:LoopB W l Db r) (b:W'.heap[l]? =W.heap[l]?) (a:W'.heap[Db]? =W.heap[Db]?):LoopB W' l Db r:=⟨b.trans h.rcd,a.trans h.col⟩
theorem LoopB.put (h:LoopB W l Db r) (a:Loop):LoopB (W.putObj l (.loop a)) l Db a:=⟨World.putObj_heap_same h.lt.1,(World.putObj_heap_other h.ne.symm).trans h.col⟩
theorem qau (W:World) (l:Nat) (o:Obj):Only l W (W.putObj l o):=⟨rfl,rfl,rfl,by simp,fun _ a=>World.putObj_heap_other a⟩
end
def qaZ (P:Program) (l:Nat) (args:Array Value) (W:World) (R:Ending→World→Prop):Prop:=
  ∃fn tmps assign body,(Instr.yield l args).run P W= .ok (.round l fn tmps assign body) W∧RoundIn Fence.wide 0 P l fn tmps assign body W R
theorem qaZ.mono {P:Program} {l:Nat} {args:Array Value} {W:World} {R R':Ending→World→Prop} (h:qaZ P l args W R) (a:∀e w,R e w→R' e w):qaZ P l args W R':=by
  obtain ⟨fn,tmps,as,bd,c,b⟩:=h;exact ⟨fn,tmps,as,bd,c,b.mono a⟩
section
variable {P:Program} {Q:Ks} {d:Option Nat} {ty:TypeId} {K:qa→World→Prop} {ρ:qa} {w:World}
theorem qzM {args:Array Operand} {a:Array TypeId} {t l:Nat} (c:ρ t= .func (.yield l) #[] #[]) (b:Q.rd) (i:qaZ P l (args.map (qd ρ)) w (jR Q d K ρ)):
    qm P Q d (.call {callee:= .value (.tmp t),args:=args,argTypes:=a}) ty K ρ w:=by
  obtain ⟨fn,tmps,as,bd,j,h⟩:=i;show jV P Q d _ ty K ρ w;unfold jV;have:(execOp (qd ρ) (qA d (.call {callee:= .value (.tmp t),args:=args,argTypes:=a}) ty)).run P w= .ok (.round l fn tmps as bd) w:=by
    simp [execOp,qA,resolve,c,Deferred.ofValue,invoke,j]
  rw [this];exact ⟨b,h.mono fun e w' g=>by cases e<;>exact g⟩
end
@[simp] theorem qDf (n:Nat) (h:n<1000000000):(gS=n)=False:=by unfold gS;simp;omega
@[simp] theorem qDk (n:Nat) (h:n<1000000000):(n=gS)=False:=by unfold gS;simp;omega
theorem LoopB.ready {W:World} {l Db:Nat} {r:Loop} (h:LoopB W l Db {r with state:= .ready,pending:=none}) (b:r.state= .ready) (a:r.pending=none):LoopB W l Db r:=by
  cases r;simp only at b a;subst b;subst a;exact h
theorem LoopB.ready' {W:World} {l Db:Nat} {r:Loop} (h:LoopB W l Db r) (b:r.state= .ready) (a:r.pending=none):LoopB W l Db {r with state:= .ready,pending:=none}:=by
  cases r;simp only at b a;subst b;subst a;exact h
def qdc (ρ:qa):List Nat→List Value→qa
  |p::ps,v::vs=>qdc (qn ρ p v) ps vs
  |_,_=>ρ
def qfJ (l Db:Nat) (r:Loop) (R:Ending→World→Prop):Ks:=
  ⟨fun i _ W3=>LoopB W3 l Db {r with state:= .busy}∧∀W4,Only l W3 W4→LoopB W4 l Db {r with state:= .done,pending:=some (.exit i)}→R (.returned (.bool false)) W4,
   fun _ W3=>LoopB W3 l Db {r with state:= .busy}∧∀W4,Only l W3 W4→LoopB W4 l Db {r with state:= .done,pending:=some .ret}→R (.returned (.bool false)) W4,
   fun _ _ _=>False,False,False,True⟩
def qkr (l Db:Nat) (r:Loop) (R:Ending→World→Prop):qa→World→Prop:=
  fun _ W3=>LoopB W3 l Db {r with state:= .busy}∧∀W4,Only l W3 W4→LoopB W4 l Db {r with state:= .ready,pending:=none}→R (.returned (.bool true)) W4
def qls:Ks:=⟨fun _ _ _=>False,fun _ _=>False,fun _ _ _=>False,False,False,True⟩
@[simp] theorem qBX (l Db:Nat) (r:Loop) (R:Ending→World→Prop):(qfJ l Db r R).df=False:=rfl
@[simp] theorem qBW (l Db:Nat) (r:Loop) (R:Ending→World→Prop):(qfJ l Db r R).rd=True:=rfl
@[simp] theorem qCS:qls.rd=True:=rfl
theorem qq0 {n:Nat} {V:List Nat}:∀(ps:List Nat) (vs:List Value) (ρ:qa) (a:Act),Agree n V ρ a→(∀p∈ps,p∈V)→
    Agree n V (qdc ρ ps vs) {a with tmps:=(ps.zip vs).foldl (fun t (x:Nat×Value)=>t.setIfInBounds x.1 x.2) a.tmps}
  |[],vs,ρ,a,h,_=>by cases vs<;>exact h
  |p::ps,[],ρ,a,h,_=>h
  |p::ps,v::vs,ρ,a,h,b=>by
    have e:=h.put (b p (by simp)) v;exact qq0 ps vs _ (a.put (some p) v) e fun x c=>b x (by simp [c])
theorem qBF {n:Nat} {V:List Nat} {ρ:qa} {a:Act} (h:Agree n V ρ a):Agree n V (qn ρ gS (.tuple #[])) {a with defers:=[]}:=by
  refine ⟨h.size, ?_,h.lt,h.big⟩;rw [h.env];funext i;simp only [qn,kp];split<;>rfl
structure Part (P:Program) (n:Nat) (V:List Nat) (c:Code) (ir:IR):Prop where
  ok:(qN P n V [] c).map IR.norm=some ir
  plain:xw c=true
theorem qkT {P:Program} {n:Nat} {V:List Nat} {c:Code} {ir:IR} (h:Part P n V c ir) (ro:Option Nat) {K:qa→World→Prop} {Q:Ks} {ρ:qa} {a:Act} {w:World} (e:¬Q.df)
    (j:Agree n V ρ a) (k:a.defers=[]) (g:ir.wp ⟨P,n,V,[]⟩ K Q ρ w):c.wpIn (fc ro) 0 P (xJ ⟨P,n,V,[]⟩ K Q) a w:=by
  obtain ⟨b,m,i⟩:=Option.map_eq_some_iff.1 h.ok;subst i;rw [IR.norm_wp] at g;exact qqi ⟨P,n,V,[]⟩ ro [] c b m (.inr ⟨h.plain,rfl⟩) K Q ρ a w (fun h=>absurd h e) j (fun _=>k) g
theorem qtY {P:Program} {m l f:Nat} {tmps:Array Value} {as bd:Code} {w:World} {R:Ending→World→Prop} (h:RoundIn (fc none) m P l f tmps as bd w R):RoundIn Fence.wide 0 P l f tmps as bd w R:=
  ⟨trivial,fun c cs _=>h.2 c cs (room_wide _)⟩
theorem qrf {P:Program} {n:Nat} {V:List Nat} {l Db:Nat} {r:Loop} {ρ:qa} {a:Act} {q s:IR} {args:Array Value} {W:World} {R:Ending→World→Prop} {ps:Array Tmp} (O:LoopB W l Db r) (A:r.state= .ready)
    (L:Agree n V ρ a) (u:r.tmps=a.tmps) (z:r.params=ps) (v:args.size=ps.size) (y:∀p∈ps.toList,p∈V) (I:Part P n V r.assign q) (H:Part P n V r.body s)
    (h:q.wp ⟨P,n,V,[]⟩ (fun o W1=>LoopB W1 l Db r∧∀W2,Only l W1 W2→LoopB W2 l Db {r with state:= .busy}→s.wp ⟨P,n,V,[]⟩ (qkr l Db r R) (qfJ l Db r R) o W2) qls (qdc (qn ρ gS (.tuple #[])) ps.toList args.toList) W):
    qaZ P l args W R:=by
  subst z;refine ⟨_,_,_,_,run_yield O.rcd v,qtY (m:=0) (roundIn_of_wpIn (F:=fc none) trivial ?_)⟩;have B:=qq0 r.params.toList args.toList _ _ (qBF L) y;have E:((r.params.zip args).foldl (fun tmps (t,a)=>tmps.setIfInBounds t a) r.tmps)=((r.params.toList.zip args.toList).foldl (fun t (x:Nat×Value)=>t.setIfInBounds x.1 x.2) a.tmps):=by
    rw [←Array.foldl_toList,←u];simp
  simp only [E];refine wpIn_mono (qkT I (some l) (fun h=>h) B rfl h) ?_;intro e U W1 g;cases e with
  |normal=>
    obtain ⟨S,o,C,k,J⟩:=g;refine ⟨_,run_beginRound k.rcd A, ?_⟩;refine wpIn_mono (qkT H (some l) (fun h=>h) C (S rfl) (J _ (qau _ _ _) (k.put _))) ?_;intro e a3 W3 g;cases e with
    |normal=>
      obtain ⟨_,_,_,b,j⟩:=g;exact ⟨_,_,run_endRound none b.rcd,by simpa using j _ (qau _ _ _) (b.put _)⟩
    |ret=>
      obtain ⟨_,_,_,b,j⟩:=g;exact ⟨_,_,run_endRound (some .ret) b.rcd,by simpa using j _ (qau _ _ _) (b.put _)⟩
    |exit i=>
      obtain ⟨_,_,_,b,j⟩:=g;exact ⟨_,_,run_endRound (some (.exit i)) b.rcd,by simpa using j _ (qau _ _ _) (b.put _)⟩
    |goto i=>exact False.elim g
    |panic c=>exact g.2.elim fun _ h=>h.2
    |outgrown=>exact g
  |exit i=>exact g.2.elim fun _ h=>h.2
  |ret=>exact g.2.elim fun _ h=>h.2
  |goto i=>exact g
  |panic c=>exact g.2.elim fun _ h=>h.2
  |outgrown=>exact g
def yQ (Db:Nat):Deferred:=⟨.collected Db, #[]⟩
def qvT (cx:Cx) (l Db:Nat) (r:Loop) (K:qa→World→Prop) (Q:Ks) (ρ:qa):Ending→World→Prop
  | .returned _,W3=>∃st pend,st≠LoopState.busy∧LoopB W3 l Db {r with state:=st,pending:=pend}∧∀W4,Only l W3 W4→LoopB W4 l Db {r with state:= .exhausted,pending:=pend}→
      match pend with
      |none=>K ρ W4
      |some .ret=>Q.rt ρ W4
      |some (.exit i)=>Q.ex i ρ W4
      |_=>False
  | .panicked c,W3=>Q.pn ρ c W3
  | .outgrown,_=>Q.og
@[simp] theorem qDn (Db:Nat) (vs:Array Value):wx (yQ Db) (.tuple vs)= .tuple (.int .i64 Db::vs.toList).toArray:=rfl
theorem qlM {P:Program} {rs:List RV} {R:Ending→World→Prop} {ρ:qa} {ds:List Value} {u:FrameMode} {w:World} {k:IntKind} {Db:Nat} (a:u≠ .run) (b:w.heap[Db]? =some (.deferred (some [])))
    (h:∀w',Only Db w w'→jK P rs R ρ ds u w'):jK P rs R ρ (.int k Db::ds) u w:=by
  refine ⟨a,_, ?_,h _ (qau w Db (.deferred none))⟩;simpa using run_takeDeferred (P:=P) b
theorem qzL {P:Program} {rs:List RV} {R:Ending→World→Prop} {ρ:qa} {w:World} (a:ρ gS= .tuple #[]) (h:qz rs R ρ w):jH P rs R .returning ρ w:=by
  simp only [jH,a];exact h
end Go.Eng
