/- Lemmas for a claim about layer 2 (tree). No conditions but those they state. -/
import Derived.Test.YtbcmiempigoooaaGreatDoorBah
import Derived.WideLaws
import Derived.Maps.RangeRun
set_option linter.all false
namespace Go.Eng
open Go.RowKit
def qmb:Op→Bool
  | .call {callee:= .builtin .recover,args, .. }=>args.isEmpty
  |_=>false
def qfO (ops:Array Oper):Bool:=match ops[0]? with|some o=>qmb o.op&&o.guard.isNone|none=>false
def ki (v:Value) (ops:Array Oper):Array Oper:=match ops[0]? with|some o=>ops.setIfInBounds 0 {o with op:= .move (.const v)}|none=>ops
def Qh (v:Value):Code→Code
  | .seq a b=> .seq (Qh v a) b
  | .region id ops d=> .region id (ki v ops) d
  |c=>c
def vR:FrameMode→Value
  | .panicking ({v,recovered:=false,goexit:=false}::_)=>v
  |_=> .nilIface
def zD:FrameMode→FrameMode
  | .panicking ({v,recovered:=false,goexit:=false}::older)=> .panicking ({v,recovered:=true}::older)
  |u=>u
theorem qt5 (c : Frame) (cs : List Frame) : (match recoverD (c :: cs) with | some (v, cs') => (v, cs') | none => (Value.nilIface, c :: cs)) = (vR c.mode, { c with mode := zD c.mode } :: cs) := by
  unfold recoverD;split
  · rename_i v cs' h;simp only at h;split at h
    · rename_i v0 b e;cases h;simp [e,vR,zD]
    · cases h
  · rename_i h;simp only at h;split at h
    · cases h
    · rename_i e;have i:vR c.mode= .nilIface∧zD c.mode=c.mode:=by
        unfold vR zD;constructor
        · split
          · rename_i v b g;exact absurd g (e v b)
          · rfl
        · split
          · rename_i v b g;exact absurd g (e v b)
          · rfl
      rw [i.1,i.2]
theorem qjA {v:Value} {ops:Array Oper} {i:Nat} (b:i≠0):(ki v ops)[i]? =ops[i]? :=by
  unfold ki;split
  · rw [Array.getElem?_setIfInBounds_ne (Ne.symm b)]
  · rfl
theorem qsw (v:Value) (ops:Array Oper):(ki v ops).size=ops.size:=by unfold ki;split<;>simp
theorem qjz {v:Value} {ops:Array Oper} {o:Oper} (h:ops[0]? =some o):(ki v ops)[0]? =some {o with op:= .move (.const v)}:=by
  have b:=(Array.getElem?_eq_some_iff.1 h).1;unfold ki;simp only [h];rw [Array.getElem?_setIfInBounds_self_of_lt b]
theorem qsv (v:Value) (ops:Array Oper) (i:Nat):((ki v ops)[i]?).bind (·.dst)=(ops[i]?).bind (·.dst):=by
  by_cases b:i=0
  · subst b;cases h:ops[0]? with
    |none=>unfold ki;simp [h]
    |some o=>rw [qjz h];rfl
  · rw [qjA b]
theorem qsu (v:Value) (ops:Array Oper) (t:Array Value):yielded (ki v ops) t=yielded ops t:=by
  funext i;simp only [yielded,qsv]
theorem qiM {F:Fence} {P:Program} {v:Value} {ops:Array Oper} {Q:Exit→Act→World→Prop}:∀(l:List Nat),(∀i∈l,i≠0)→wpOpsIn F 0 P (ki v ops) Q l=wpOpsIn F 0 P ops Q l
  |[],_=>rfl
  |i::l,h=>by
    have b:=qiM (F:=F) (P:=P) (v:=v) (ops:=ops) (Q:=Q) l fun x c=>h x (by simp [c]);funext a w;simp only [wpOpsIn,qjA (h i (by simp)),qsu,b]
section
variable {P:Program} {Q:Exit→Act→World→Prop} {a:Act} {w:World}
theorem qrq {id : Nat} {ops : Array Oper} (c : Frame) (cs : List Frame) (i : qfO ops = true) (h : wpOpsIn (fc none) 0 P (ki (vR c.mode) ops) Q (List.range (ki (vR c.mode) ops).size) a w) :
    (Code.region id ops false).wpSIn Fence.wide 0 P (fun e J cs' w'=>cs'={c with mode:=zD c.mode}::cs∧Q e J w') a (c::cs) w:=by
  intro b k V u X I;unfold qfO at i;cases x:ops[0]? with
  |none=>simp [x] at i
  |some o=>
    simp only [x,Bool.and_eq_true] at i;obtain ⟨j,R⟩:=i;have A:o.guard=none:=by simpa using R
    have S:=(Array.getElem?_eq_some_iff.1 x).1;obtain ⟨m,L⟩:∃m,ops.size=m+1:=⟨ops.size - 1,by omega⟩;rw [qsw,L,List.range_succ_eq_map] at h;simp only [wpOpsIn,qjz x] at h;have H:∀t,Region.wanted {o with op:=Op.move (.const (vR c.mode))} (yielded (ki (vR c.mode) ops) t)=true:=fun t=>by simp [Region.wanted,A]
    rw [if_pos (H _)] at h;simp only [Oper.wpIn] at h;have E:(Oper.semAt (fc none).round a.eval {o with op:=Op.move (.const (vR c.mode))}).run P w= .ok (.value (vR c.mode)) w:=by
      show (execOp a.eval {o with op:=Op.move (.const (vR c.mode))}).run P w=_;simp [execOp,Act.eval]
    rw [E] at h;simp only [Oper.uponIn] at h;rw [qiM _ (by simp)] at h;obtain ⟨e,J,w',O,B⟩:=wp_opsIn (F:=Fence.wide) (n:=0) _ _ _ h.2 b k ({c with mode:=zD c.mode}::cs) u trivial (room_wide _);refine ⟨e,J,{c with mode:=zD c.mode}::cs,w',rfl,⟨rfl,O⟩, .of_steps (.one (fenced_wide _ _) stepR_region) (.of_steps (.one (fenced_wide _ _) ?_) B)⟩;have z:List.range ops.size=0::(List.range m).map Nat.succ:=by rw [L,List.range_succ_eq_map]
    rw [z];refine step_lone_go ?_;have s:Region.wanted o (yielded ops a.tmps)=true:=by simp [Region.wanted,A]
    rw [stepGR_op x s,u,Oper.semAt_none];have q:(execOp a.eval o).run P w= .ok .recover w:=by
      obtain ⟨dst,op,type,pos,after,guard⟩:=o;simp only at j;unfold qmb at j;split at j
      · rename_i args W;have:args= #[]:=by simpa using j
        subst this;simp [execOp,resolve,invoke,builtin]
      · cases j
    have C:∀v,(b.atR a (.inRegion ops (0::(List.range m).map Nat.succ)::k)).finish v=b.atR (a.put o.dst v) (.inRegion ops ((List.range m).map Nat.succ)::k):=by
      intro v;rw [Frame.finish_atR,x];rfl
    have U:(b.atR a (.inRegion ops (0::(List.range m).map Nat.succ)::k)).kind= .deferred:=V;have l:=tryRecover_deferred U (c::cs);have g:=qt5 c cs;simp only [←C];simp only [Frame.atR,u] at l⊢;cases y:recoverD (c::cs) with
    |none=>
      rw [y] at l g;simp only [Prod.mk.injEq] at g;simp [stepG.apply,q,l,←g.1,←g.2]
    |some p=>
      rw [y] at l g;simp only [Prod.mk.injEq] at g;simp [stepG.apply,q,l,←g.1,←g.2]
end
def yH (rs:List RV) (u':FrameMode) (R:Ending→FrameMode→World→Prop):qa→World→Prop:=qz rs fun e w=>R e u' w
def qam (rs:List RV) (u':FrameMode) (R:Ending→FrameMode→World→Prop):Ks:=⟨fun _ _ _=>False,yH rs u' R,fun _ c w=>R (.panicked c) u' w,∀w,R .outgrown u' w,False,True⟩
@[simp] theorem qB2 (rs:List RV) (b:FrameMode) (R:Ending→FrameMode→World→Prop):(qam rs b R).rt=yH rs b R:=rfl
@[simp] theorem qB4 (rs:List RV) (b:FrameMode) (R:Ending→FrameMode→World→Prop) (ρ:qa) (c:List PanicEntry) (w:World):(qam rs b R).pn ρ c w=R (.panicked c) b w:=rfl
@[simp] theorem qB3 (rs:List RV) (b:FrameMode) (R:Ending→FrameMode→World→Prop):(qam rs b R).rd=True:=rfl
@[simp] theorem qB5 (b:FrameMode) (R:Ending→FrameMode→World→Prop) (ρ:qa) (w:World):yH [] b R ρ w=R (.returned (.tuple #[])) b w:=rfl
section
variable {P:Program} {Q:Ks} {d:Option Nat} {ty:TypeId} {K:qa→World→Prop} {ρ:qa} {w:World}
theorem qhw {x:Operand} {t:TypeId} {v:Value} (b:qd ρ x= .iface t v) (h:Q.pn ρ [{v:= .iface t v,recovered:=false}] w):qm P Q d (.panic x) ty K ρ w:=by
  show jV P Q d _ ty K ρ w;unfold jV;have:(execOp (qd ρ) (qA d (.panic x) ty)).run P w= .halt (.panic (.iface t v)) w:=by
    simp [execOp,qA,b,Instr.panic]
  rw [this];exact h
theorem qd8 {t:Nat} {f:FuncId} {caps:Array Value} (c:ρ t= .func (.func f) #[] caps) (b:Q.df) (h:K (qk (qn ρ gS (wx ⟨.fn (.func f) caps, #[]⟩ (ρ gS))) d undef) w):
    qm P Q d (.defer {callee:= .value (.tmp t),args:= #[],argTypes:= #[]}) ty K ρ w:=by
  show jV P Q d _ ty K ρ w;unfold jV;have:(execOp (qd ρ) (qA d (.defer {callee:= .value (.tmp t),args:= #[],argTypes:= #[]}) ty)).run P w= .ok (.defer ⟨.fn (.func f) caps, #[]⟩) w:=by
    simp [execOp,qA,resolve,c,Deferred.ofValue]
  rw [this];exact ⟨b,h⟩
@[simp] theorem qDo (f:Fn) (caps args:Array Value) (vs:Array Value):wx ⟨.fn f caps,args⟩ (.tuple vs)= .tuple (.func f args caps::vs.toList).toArray:=rfl
theorem yT {rs:List RV} {R:Ending→World→Prop} (h:qz rs R ρ w):jK P rs R ρ [] .returning w:=h
end
section
variable {P:Program} {Q:Ks} {d:Option Nat} {ty:TypeId} {K:qa→World→Prop} {ρ:qa} {w:World}
theorem qpZ {x:Operand} {xt a:TypeId} {v:Value} {ds:TypeDesc} (c:P.underlying a=some ds) (b:∀m,ds≠ .interface m) (e:qd ρ x= .iface a v) (h:K (qk ρ d (.tuple #[v, .bool true])) w):
    qm P Q d (.typeAssert x xt a true) ty K ρ w:=by
  refine jk (v:= .tuple #[v, .bool true]) (w':=w) ?_ h;cases ds<;>first|exact absurd rfl (b _)|simp [execOp,qA,e,Instr.typeAssert,run_underlying c]
theorem qpX {x:Operand} {t c:TypeId} (b:P.underlying t=some (.interface (P.methodsAt t))) (h:qd ρ x= .nilIface) (e:K (qk ρ d (.bool true)) w):qm P Q d (.binOp .eql t x (.const .nilIface) c) ty K ρ w:=by
  refine jk (v:= .bool true) (w':=w) ?_ e;have:=run_equal_nil_nil (P:=P) (w:=w) t b;simp [execOp,qA,h,eqGuard_nil_constR,binOp,this]
theorem qpW {x:Operand} {t c u:TypeId} {v:Value} (b:P.underlying t=some (.interface (P.methodsAt t))) (h:qd ρ x= .iface u v) (e:K (qk ρ d (.bool false)) w):qm P Q d (.binOp .eql t x (.const .nilIface) c) ty K ρ w:=by
  refine jk (v:= .bool false) (w':=w) ?_ e;have:=run_equal_held_nil (P:=P) (w:=w) t u v b;simp [execOp,qA,h,eqGuard,binOp,this]
end
theorem jK.congr {P:Program} {rs:List RV} {R:Ending→World→Prop} {ρ g:qa} (i:∀w,vj ρ w rs=vj g w rs):∀(ds:List Value) (u:FrameMode) (w:World),jK P rs R ρ ds u w→jK P rs R g ds u w
  |[],u,w,h=>by
    cases u with
    |run=>exact h
    |returning=>simp only [jK] at h⊢;rw [←i];exact h
    |panicking c=>exact h
  | d :: ds, u, w, h => by
    cases d<;>simp only [jK] at h⊢ <;>first|exact h|skip
    · exact ⟨h.1,let ⟨w',k,j⟩:=h.2;⟨w',k,jK.congr i ds u w' j⟩⟩
    · obtain ⟨n,m,b,k,j⟩:=h;refine ⟨n,m,b,k,j.mono fun e o w' l=> ?_⟩;cases e with
      |returned v=>exact jK.congr i ds _ _ l
      |panicked c=>exact jK.congr i ds _ _ l
      |outgrown=>exact l
theorem qpT {P:Program} {rs:List RV} {R:Ending→World→Prop} {u:FrameMode} {ρ:qa} {d:Nat} {v:Value} {w:World} (b:d≠gS) (c:∀w,vj (qn ρ d v) w rs=vj ρ w rs) (h:jH P rs R u (qn ρ d v) w):jH P rs R u ρ w:=by
  unfold jH at*;rw [qrz _ _ _ _ (Ne.symm b)] at h;split at h
  · exact jK.congr c _ _ _ h
  · cases h
def qE (P:Program) (w0:World) (dst:Option Nat) (op:Op) (ty:TypeId) (r:List St) (K:qa→Prop) (ρ:qa):Prop:=∃v,qbz P w0 dst op ty ρ v∧qX P w0 r K (qk ρ dst v)
theorem xZ {P:Program} {b:World} {K:qa→Prop} {ρ:qa}:qX P b [] K ρ=K ρ:=rfl
theorem x4 {P:Program} {b:World} {K:qa→Prop} {ρ:qa} {g:Option (Nat×Bool)} {d:Nat} {e:Ex} {r:List St}:qX P b (.asg g d e::r) K ρ=if gd ρ g then z7 (e.ev ρ b) (fun v=>qX P b r K (qn ρ d v)) else qX P b r K (qn ρ d undef):=rfl
theorem x0 {P:Program} {b:World} {K:qa→Prop} {ρ:qa} {g:Option (Nat×Bool)} {d:Option Nat} {op:Op} {ty:TypeId} {r:List St}:qX P b (.eff g d op ty::r) K ρ=if gd ρ g then qE P b d op ty r K ρ else qX P b r K (qk ρ d undef):=rfl
theorem qbA {P:Program} {b:World} {K:qa→Prop} {ρ:qa} {d:Option Nat} {ty:TypeId} {r:List St} {f:FuncId} {args:Array Operand} {c:Array TypeId} (v:Value) (g:qf P f=true)
    (h:∀w,qc b w→Calls P f (args.map (qd ρ)) w (fun e w'=>e= .returned v∧qc b w')) (i:qX P b r K (qk ρ d v)):qE P b d (.call {callee:= .value (.func f),args:=args,argTypes:=c}) ty r K ρ:=⟨v,⟨g,h⟩,i⟩
end Go.Eng
namespace Go.Eng.I
open Go.Eng Go.MapKept Go.RowKit
def jN (ps:List (Int×Value)) (k:Int):Option Value:=(ps.find? fun p=>decide (p.1=k)).map (·.2)
def jX:List (Int×Value)→Int→Value→List (Int×Value)
  |[],k,v=>[(k,v)]
  |p::l,k,v=>if p.1=k then (k,v)::l else p::jX l k v
@[simp] theorem qvV (k:Int):jN [] k=none:=rfl
theorem xl (p:Int×Value) (l:List (Int×Value)) (k:Int):jN (p::l) k=if p.1=k then some p.2 else jN l k:=by
  unfold jN;rw [List.find?_cons];by_cases h:p.1=k<;>simp [h]
theorem qdr (k b : Int) (v : Value) : ∀ l : List (Int × Value), jN (jX l k v) b = if k = b then some v else jN l b
  |[]=>by simp [jX,xl]
  | p :: l => by
    unfold jX;split
    · rename_i h;rw [xl,xl];by_cases g:k=b
      · simp [g]
      · simp [g,h]
    · rename_i h;rw [xl,xl,qdr k b v l];by_cases c:p.1=b
      · have:¬k=b:=fun e=>h (c.trans e.symm);simp [c,this]
      · simp [c]
structure MapB (w:World) (B:Nat) (ps:List (Int×Value)):Prop where
  ex:∃es clock,w.heap[B]? =some (.map es clock)∧Stamped es clock∧es.toList.map (fun e=>(e.key,e.val))=ps.map fun p=>(Value.int .i64 p.1,p.2)
theorem MapB.lt {w:World} {B:Nat} {ps:List (Int×Value)} (h:MapB w B ps):B<w.heap.size:=by
  obtain ⟨es,b,c,_⟩:=h.ex;exact (Array.getElem?_eq_some_iff.1 c).1
theorem MapB.ext {w w':World} {B:Nat} {ps:List (Int×Value)} (h:MapB w B ps) (c:qc w w'):MapB w' B ps:=by
  obtain ⟨es,b,e,r⟩:=h.ex;exact ⟨es,b,(c.block B h.lt).trans e,r⟩
theorem MapB.block {w w':World} {B:Nat} {ps:List (Int×Value)} (h:MapB w B ps) (c:w'.heap[B]? =w.heap[B]?):MapB w' B ps:=by
  obtain ⟨es,b,e,r⟩:=h.ex;exact ⟨es,b,c.trans e,r⟩
theorem qb7 {es:List MapEntry} {ps:List (Int×Value)} (h:es.map (fun e=>(e.key,e.val))=ps.map fun p=>(Value.int .i64 p.1,p.2)):∀e∈es,IsKey (.int .i64) e.key:=by
  intro e b;have:(e.key,e.val)∈ps.map fun p=>(Value.int .i64 p.1,p.2):=by rw [←h];exact List.mem_map.2 ⟨e,b,rfl⟩
  obtain ⟨p,_,g⟩:=List.mem_map.1 this;cases c:e.key<;>simp_all [IsKey]
theorem QK {k:Int}:∀{es:List MapEntry} {ps:List (Int×Value)},es.map (fun e=>(e.key,e.val))=ps.map (fun p=>(Value.int .i64 p.1,p.2))→(∀e∈es,e.key≠ .int .i64 k)→
    jN ps k=none∧∀v,jX ps k v=ps++[(k,v)]
  |[],[],_,_=>⟨rfl,fun _=>rfl⟩
  |e::es,p::ps,h,b=>by
    simp only [List.map_cons,List.cons.injEq,Prod.mk.injEq] at h;obtain ⟨⟨j,o⟩,g⟩:=h;obtain ⟨l,n⟩:=QK g fun x m=>b x (by simp [m]);have c:¬p.1=k:=fun i=>b e (by simp) (by rw [j,i]);exact ⟨by rw [xl,if_neg c,l],fun v=>by rw [jX,if_neg c,n];rfl⟩
  |[],_::_,h,_=>by simp at h
  |_::_,[],h,_=>by simp at h
theorem QJ {k:Int} {v:Value}:∀{es:List MapEntry} {ps:List (Int×Value)} {j:Nat} {e:MapEntry},es.map (fun e=>(e.key,e.val))=ps.map (fun p=>(Value.int .i64 p.1,p.2))→
    es.Pairwise (fun x y=>x.key≠y.key)→es[j]? =some e→e.key= .int .i64 k→jN ps k=some e.val∧(es.modify j fun x=>{x with key:= .int .i64 k,val:=v}).map (fun e=>(e.key,e.val))=(jX ps k v).map fun p=>(Value.int .i64 p.1,p.2)
  |[],_,_,_,_,_,b,_=>by simp at b
  |e::es,[],_,_,h,_,_,_=>by simp at h
  |e::es,p::ps,0,n,h,_,b,i=>by
    simp only [List.getElem?_cons_zero,Option.some.injEq] at b;subst b;simp only [List.map_cons,List.cons.injEq,Prod.mk.injEq] at h;obtain ⟨⟨g,m⟩,l⟩:=h;have c:p.1=k:=by rw [i] at g;cases g;rfl
    refine ⟨by rw [xl,if_pos c,m], ?_⟩;simp [jX,c,l]
  |e::es,p::ps,j+1,n,h,z,b,i=>by
    simp only [List.getElem?_cons_succ] at b;simp only [List.map_cons,List.cons.injEq,Prod.mk.injEq] at h;obtain ⟨⟨g,m⟩,l⟩:=h;obtain ⟨u,o⟩:=List.pairwise_cons.1 z;have c:¬p.1=k:=fun q=>u n (List.mem_of_getElem? b) (by rw [g,q,i]);obtain ⟨s,t⟩:=QJ (v:=v) l o b i;refine ⟨by rw [xl,if_neg c,s], ?_⟩;simp [jX,c,t,g,m]
section
variable {P:Program} {Q:Ks} {d:Option Nat} {ty:TypeId} {K:qa→World→Prop} {ρ:qa} {w:World}
theorem qhA {t:TypeId} (h:∀B W,w.heap.size≤B→qc w W→MapB W B []→W.heap.size=B+1→K (qk ρ d (.map (some B))) W):qm P Q d (.makeMap t none) ty K ρ w:=by
  refine jk (v:= .map (some w.heap.size)) (w':=w.alloc (.map #[] 0)) ?_ (h _ _ (Nat.le_refl _) (wU _ _) ⟨#[],0,heap_alloc_new _ _,stamped_empty 0,rfl⟩ (by simp));have b:(Instr.makeMap t none).run P w= .ok (.map (some w.heap.size)) (w.alloc (.map #[] 0)):=rfl;simp only [execOp,qA,Option.map_none,Sem.run_bind,b,Result.andThen_ok,Sem.run_pure]
theorem qhB {t kt et:TypeId} {m k:Operand} {B:Nat} {ps:List (Int×Value)} {s:Int} {z:Value} (C:P.underlying t=some (.map kt et)) (b:P.underlying kt=some (.int .i64)) (x:((P.info? et).bind fun i=>i.zero)=some z)
    (F:qd ρ m= .map (some B)) (E:qd ρ k= .int .i64 s) (n:MapB w B ps) (ok:Bool) (h:K (qk ρ d (if ok then .tuple #[(jN ps s).getD z, .bool (jN ps s).isSome] else (jN ps s).getD z)) w):qm P Q d (.lookup t m k ok) ty K ρ w:=by
  obtain ⟨inf,J,I⟩:=Option.bind_eq_some_iff.1 x;obtain ⟨es,c,n,y,l⟩:=n.ex;have q:=qb7 l;have g:IsKey (.int .i64) (.int .i64 s):=by simp [IsKey]
  refine jk (v:=_) (w':=w) ?_ h;rcases findNow_spec g es.toList 0 q with ⟨o,u⟩|⟨j,e,o,u,H⟩
  · have A:=(QK l u).1;simp [execOp,qA,Instr.lookup,F,E,run_underlying C,MapKept.run_getObj_map n,run_checkKey b g,run_findKey b o,zeroValue,typeInfo,J,I,Result.andThen,A]
  · have A:=(QJ (v:=z) l ((stamped_iff es c).1 y).2.2 u H).1;simp [execOp,qA,Instr.lookup,F,E,run_underlying C,MapKept.run_getObj_map n,run_checkKey b g,run_findKey b o,Result.andThen,A]
theorem qhz {t kt et:TypeId} {m k x:Operand} {B:Nat} {ps:List (Int×Value)} {s:Int} (J:P.underlying t=some (.map kt et)) (l:P.underlying kt=some (.int .i64))
    (S:qd ρ m= .map (some B)) (R:qd ρ k= .int .i64 s) (q:MapB w B ps) (h:∀W,Only B w W→MapB W B (jX ps s (qd ρ x))→K (qk ρ d undef) W):qm P Q d (.mapUpdate t m k x) ty K ρ w:=by
  obtain ⟨es,b,q,u,n⟩:=q.ex;have F:=qb7 n;have g:IsKey (.int .i64) (.int .i64 s):=by simp [IsKey]
  have only:∀o,Only B w {w with heap:=w.heap.setIfInBounds B o}:=fun o=>⟨rfl,rfl,rfl,by simp,fun i U=>(heap_set q).2 i U⟩;have fin:∀W,(Instr.mapUpdate t (.map (some B)) (.int .i64 s) (qd ρ x)).run P w= .ok () W→K (qk ρ d undef) W→jV P Q d (.mapUpdate t m k x) ty K ρ w:=by
    intro W O H;unfold jV;simp only [execOp,qA,S,R,Sem.run_bind,O,Result.andThen_ok,Sem.run_pure];exact H
  rcases findNow_spec g es.toList 0 F with ⟨E,z⟩|⟨j,e,E,z,C⟩
  · have I:=(QK n z).2 (qd ρ x);refine fin {w with heap:=w.heap.setIfInBounds B (.map (es.push {key:= .int .i64 s,val:=qd ρ x,born:=b}) (b+1))} ?_ (h _ (only _) ⟨_,_,(heap_set q).1,stamped_push u z, ?_⟩)
    · simp [Instr.mapUpdate,run_underlying J,MapKept.run_getObj_map q,run_checkKey l g,run_findKey l E,run_setObj_map _ q,Result.andThen]
    · rw [I];simp [n]
  · have L:es[j]? =some e:=by simpa using z
    have I:=(QJ (v:=qd ρ x) n ((stamped_iff es b).1 u).2.2 z C).2;have A:∀y,es[j]? =some y→({y with key:= .int .i64 s,val:=qd ρ x}:MapEntry).key=y.key:=fun y c=>by rw [L] at c;cases c;exact C.symm
    refine fin {w with heap:=w.heap.setIfInBounds B (.map (es.modify j fun e=>{e with key:= .int .i64 s,val:=qd ρ x}) b)} ?_ (h _ (only _) ⟨_,_,(heap_set q).1,stamped_modify u _ _ (fun _ _=>rfl) (fun y _ c=>A y c), ?_⟩)
    · simp [Instr.mapUpdate,run_underlying J,MapKept.run_getObj_map q,run_checkKey l g,run_findKey l E,L,C,run_keyThatStays g,run_setObj_map _ q,Result.andThen]
    · rw [Array.toList_modify];exact I
end
structure RangeB (w:World) (R B:Nat) (ps:List (Int×Value)) (vis:List Int) (cur:Option (Int×Value)):Prop where
  ex:∃(es:Array MapEntry) (clock since:Nat) (seen:Array Nat) (c0:Nat),w.heap[B]? =some (.map es clock)∧Stamped es clock∧es.toList.map (fun e=>(e.key,e.val))=ps.map (fun p=>(Value.int .i64 p.1,p.2))∧
    w.heap[R]? =some (.mapIter (some B) since seen c0)∧(∀x∈es.toList,x.born<since)∧since≤c0∧since≤clock∧(∀e∈es.toList,∀k,e.key= .int .i64 k→(seen.contains e.born=true↔k∈vis))∧
    (∀k v,cur=some (k,v)→c0=clock∧∃e∈es.toList,e.key= .int .i64 k∧e.val=v∧∃s:Array Nat,seen=s.push e.born)
theorem RangeB.block {w w':World} {R B:Nat} {ps:List (Int×Value)} {e:List Int} {cur:Option (Int×Value)} (h:RangeB w R B ps e cur) (j:w'.heap[B]? =w.heap[B]?) (l:w'.heap[R]? =w.heap[R]?):RangeB w' R B ps e cur:=by
  obtain ⟨es,b,c,seen,c0,m,k,g,i,r⟩:=h.ex;exact ⟨es,b,c,seen,c0,j.trans m,k,g,l.trans i,r⟩
theorem RangeB.lt {w:World} {R B:Nat} {ps:List (Int×Value)} {e:List Int} {cur:Option (Int×Value)} (h:RangeB w R B ps e cur):B<w.heap.size∧R<w.heap.size:=by
  obtain ⟨es,c,b,seen,c0,i,k,j,g,r⟩:=h.ex;exact ⟨(Array.getElem?_eq_some_iff.1 i).1,(Array.getElem?_eq_some_iff.1 g).1⟩
section
variable {P:Program} {Q:Ks} {d:Option Nat} {ty:TypeId} {K:qa→World→Prop} {ρ:qa} {w:World}
end
end Go.Eng.I
