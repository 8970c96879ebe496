/- Lemmas for a claim about layer 2 (tree). No conditions but those they state. -/
import Derived.Test.YtbcmiempigoooaaGreatDoorGah
import Derived.WideLaws
import Derived.Maps.RangeRun
set_option linter.all false
namespace Go.Eng
open Go.RowKit
def ql3:Op→Bool
  | .call {callee:= .builtin .recover,args, .. }=>args.isEmpty
  |_=>false
def qfC (ops:Array Oper):Bool:=match ops[0]? with|some o=>ql3 o.op&&o.guard.isNone|none=>false
def xV (v:Value) (ops:Array Oper):Array Oper:=match ops[0]? with|some o=>ops.setIfInBounds 0 {o with op:= .move (.const v)}|none=>ops
def Qp (v:Value):Code→Code
  | .seq a b=> .seq (Qp v a) b
  | .region id ops d=> .region id (xV v ops) d
  |c=>c
def vO:FrameMode→Value
  | .panicking ({v,recovered:=false,goexit:=false}::_)=>v
  |_=> .nilIface
def vZ:FrameMode→FrameMode
  | .panicking ({v,recovered:=false,goexit:=false}::older)=> .panicking ({v,recovered:=true}::older)
  |u=>u
theorem qv0 (c : Frame) (cs : List Frame) : (match recoverD (c :: cs) with | some (v, cs') => (v, cs') | none => (Value.nilIface, c :: cs)) = (vO c.mode, { c with mode := vZ c.mode } :: cs) := by
  unfold recoverD;split
  · rename_i v cs' h;simp only at h;split at h
    · rename_i v0 b e;cases h;simp [e,vO,vZ]
    · cases h
  · rename_i h;simp only at h;split at h
    · cases h
    · rename_i e;have i:vO c.mode= .nilIface∧vZ c.mode=c.mode:=by
        unfold vO vZ;constructor
        · split
          · rename_i v b g;exact absurd g (e v b)
          · rfl
        · split
          · rename_i v b g;exact absurd g (e v b)
          · rfl
      rw [i.1,i.2]
theorem qjn {v:Value} {ops:Array Oper} {i:Nat} (b:i≠0):(xV v ops)[i]? =ops[i]? :=by
  unfold xV;split
  · rw [Array.getElem?_setIfInBounds_ne (Ne.symm b)]
  · rfl
theorem qt7 (v:Value) (ops:Array Oper):(xV v ops).size=ops.size:=by unfold xV;split<;>simp
theorem qjm {v:Value} {ops:Array Oper} {o:Oper} (h:ops[0]? =some o):(xV v ops)[0]? =some {o with op:= .move (.const v)}:=by
  have b:=(Array.getElem?_eq_some_iff.1 h).1;unfold xV;simp only [h];rw [Array.getElem?_setIfInBounds_self_of_lt b]
theorem qt6 (v:Value) (ops:Array Oper) (i:Nat):((xV v ops)[i]?).bind (·.dst)=(ops[i]?).bind (·.dst):=by
  by_cases b:i=0
  · subst b;cases h:ops[0]? with
    |none=>unfold xV;simp [h]
    |some o=>rw [qjm h];rfl
  · rw [qjn b]
theorem qt5 (v:Value) (ops:Array Oper) (t:Array Value):yielded (xV v ops) t=yielded ops t:=by
  funext i;simp only [yielded,qt6]
theorem qiM {F:Fence} {P:Program} {v:Value} {ops:Array Oper} {Q:Exit→Act→World→Prop}:∀(l:List Nat),(∀i∈l,i≠0)→wpOpsIn F 0 P (xV v ops) Q l=wpOpsIn F 0 P ops Q l
  |[],_=>rfl
  |i::l,h=>by
    have b:=qiM (F:=F) (P:=P) (v:=v) (ops:=ops) (Q:=Q) l fun x c=>h x (by simp [c]);funext a w;simp only [wpOpsIn,qjn (h i (by simp)),qt5,b]
section
variable {P:Program} {Q:Exit→Act→World→Prop} {a:Act} {w:World}
theorem qtf {id : Nat} {ops : Array Oper} (c : Frame) (cs : List Frame) (i : qfC ops = true) (h : wpOpsIn (fc none) 0 P (xV (vO c.mode) ops) Q (List.range (xV (vO c.mode) ops).size) a w) :
    (Code.region id ops false).wpSIn Fence.wide 0 P (fun e I cs' w'=>cs'={c with mode:=vZ c.mode}::cs∧Q e I w') a (c::cs) w:=by
  intro b k W x Y L;unfold qfC at i;cases y:ops[0]? with
  |none=>simp [y] at i
  |some o=>
    simp only [y,Bool.and_eq_true] at i;obtain ⟨l,V⟩:=i;have E:o.guard=none:=by simpa using V
    have R:=(Array.getElem?_eq_some_iff.1 y).1;obtain ⟨m,O⟩:∃m,ops.size=m+1:=⟨ops.size - 1,by omega⟩;rw [qt7,O,List.range_succ_eq_map] at h;simp only [wpOpsIn,qjm y] at h;have J:∀t,Region.wanted {o with op:=Op.move (.const (vO c.mode))} (yielded (xV (vO c.mode) ops) t)=true:=fun t=>by simp [Region.wanted,E]
    rw [if_pos (J _)] at h;simp only [Oper.wpIn] at h;have H:(Oper.semAt (fc none).round a.eval {o with op:=Op.move (.const (vO c.mode))}).run P w= .ok (.value (vO c.mode)) w:=by
      show (execOp a.eval {o with op:=Op.move (.const (vO c.mode))}).run P w=_;simp [execOp,Act.eval]
    rw [H] at h;simp only [Oper.uponIn] at h;rw [qiM _ (by simp)] at h;obtain ⟨e,I,w',S,B⟩:=wp_opsIn (F:=Fence.wide) (n:=0) _ _ _ h.2 b k ({c with mode:=vZ c.mode}::cs) x trivial (room_wide _);refine ⟨e,I,{c with mode:=vZ c.mode}::cs,w',rfl,⟨rfl,S⟩, .of_steps (.one (fenced_wide _ _) stepR_region) (.of_steps (.one (fenced_wide _ _) ?_) B)⟩;have C:List.range ops.size=0::(List.range m).map Nat.succ:=by rw [O,List.range_succ_eq_map]
    rw [C];refine step_lone_go ?_;have u:Region.wanted o (yielded ops a.tmps)=true:=by simp [Region.wanted,E]
    rw [stepGR_op y u,x,Oper.semAt_none];have s:(execOp a.eval o).run P w= .ok .recover w:=by
      obtain ⟨dst,op,type,pos,after,guard⟩:=o;simp only at l;unfold ql3 at l;split at l
      · rename_i args X;have:args= #[]:=by simpa using l
        subst this;simp [execOp,resolve,invoke,builtin]
      · cases l
    have A:∀v,(b.atR a (.inRegion ops (0::(List.range m).map Nat.succ)::k)).finish v=b.atR (a.put o.dst v) (.inRegion ops ((List.range m).map Nat.succ)::k):=by
      intro v;rw [Frame.finish_atR,y];rfl
    have U:(b.atR a (.inRegion ops (0::(List.range m).map Nat.succ)::k)).kind= .deferred:=W;have j:=tryRecover_deferred U (c::cs);have g:=qv0 c cs;simp only [←A];simp only [Frame.atR,x] at j⊢;cases z:recoverD (c::cs) with
    |none=>
      rw [z] at j g;simp only [Prod.mk.injEq] at g;simp [stepG.apply,s,j,←g.1,←g.2]
    |some p=>
      rw [z] at j g;simp only [Prod.mk.injEq] at g;simp [stepG.apply,s,j,←g.1,←g.2]
end
def yH (rs:List RV) (u':FrameMode) (R:Ending→FrameMode→World→Prop):qa→World→Prop:=qC rs fun e w=>R e u' w
def Jk (rs:List RV) (u':FrameMode) (R:Ending→FrameMode→World→Prop):Ks:=⟨fun _ _ _=>False,yH rs u' R,fun _ c w=>R (.panicked c) u' w,∀w,R .outgrown u' w,False,True⟩
@[simp] theorem qER (rs:List RV) (b:FrameMode) (R:Ending→FrameMode→World→Prop):(Jk rs b R).rt=yH rs b R:=rfl
@[simp] theorem qET (rs:List RV) (b:FrameMode) (R:Ending→FrameMode→World→Prop) (ρ:qa) (c:List PanicEntry) (w:World):(Jk rs b R).pn ρ c w=R (.panicked c) b w:=rfl
@[simp] theorem qES (rs:List RV) (b:FrameMode) (R:Ending→FrameMode→World→Prop):(Jk rs b R).rd=True:=rfl
@[simp] theorem qEU (b:FrameMode) (R:Ending→FrameMode→World→Prop) (ρ:qa) (w:World):yH [] b R ρ w=R (.returned (.tuple #[])) b w:=rfl
section
variable {P:Program} {Q:Ks} {d:Option Nat} {ty:TypeId} {K:qa→World→Prop} {ρ:qa} {w:World}
theorem qhV {x:Operand} {t:TypeId} {v:Value} (b:qd ρ x= .iface t v) (h:Q.pn ρ [{v:= .iface t v,recovered:=false}] w):qw P Q d (.panic x) ty K ρ w:=by
  show jY P Q d _ ty K ρ w;unfold jY;have:(execOp (qd ρ) (qD d (.panic x) ty)).run P w= .halt (.panic (.iface t v)) w:=by
    simp [execOp,qD,b,Instr.panic]
  rw [this];exact h
theorem qhZ {t:Nat} {f:FuncId} {caps:Array Value} (c:ρ t= .func (.func f) #[] caps) (b:Q.df) (h:K (qm (qt ρ gS (we ⟨.fn (.func f) caps, #[]⟩ (ρ gS))) d undef) w):
    qw P Q d (.defer {callee:= .value (.tmp t),args:= #[],argTypes:= #[]}) ty K ρ w:=by
  show jY P Q d _ ty K ρ w;unfold jY;have:(execOp (qd ρ) (qD d (.defer {callee:= .value (.tmp t),args:= #[],argTypes:= #[]}) ty)).run P w= .ok (.defer ⟨.fn (.func f) caps, #[]⟩) w:=by
    simp [execOp,qD,resolve,c,Deferred.ofValue]
  rw [this];exact ⟨b,h⟩
@[simp] theorem qGt (f:Fn) (caps args:Array Value) (vs:Array Value):we ⟨.fn f caps,args⟩ (.tuple vs)= .tuple (.func f args caps::vs.toList).toArray:=rfl
theorem qag {rs:List RV} {R:Ending→World→Prop} (h:qC rs R ρ w):jU P rs R ρ [] .returning w:=h
end
section
variable {P:Program} {Q:Ks} {d:Option Nat} {ty:TypeId} {K:qa→World→Prop} {ρ:qa} {w:World}
theorem qr2 {x:Operand} {xt a:TypeId} {v:Value} {ds:TypeDesc} (e:P.underlying a=some ds) (b:∀m,ds≠ .interface m) (c:qd ρ x= .iface a v) (h:K (qm ρ d (.tuple #[v, .bool true])) w):
    qw P Q d (.typeAssert x xt a true) ty K ρ w:=by
  refine ju (v:= .tuple #[v, .bool true]) (w':=w) ?_ h;cases ds<;>first|exact absurd rfl (b _)|simp [execOp,qD,c,Instr.typeAssert,run_underlying e]
theorem qrZ {x:Operand} {t e:TypeId} (b:P.underlying t=some (.interface (P.methodsAt t))) (h:qd ρ x= .nilIface) (c:K (qm ρ d (.bool true)) w):qw P Q d (.binOp .eql t x (.const .nilIface) e) ty K ρ w:=by
  refine ju (v:= .bool true) (w':=w) ?_ c;have:=run_equal_nil_nil (P:=P) (w:=w) t b;simp [execOp,qD,h,eqGuard_nil_constR,binOp,this]
theorem qrY {x:Operand} {t e u:TypeId} {v:Value} (b:P.underlying t=some (.interface (P.methodsAt t))) (h:qd ρ x= .iface u v) (c:K (qm ρ d (.bool false)) w):qw P Q d (.binOp .eql t x (.const .nilIface) e) ty K ρ w:=by
  refine ju (v:= .bool false) (w':=w) ?_ c;have:=run_equal_held_nil (P:=P) (w:=w) t u v b;simp [execOp,qD,h,eqGuard,binOp,this]
end
theorem jU.congr {P:Program} {rs:List RV} {R:Ending→World→Prop} {ρ g:qa} (i:∀w,vC ρ w rs=vC g w rs):∀(ds:List Value) (u:FrameMode) (w:World),jU P rs R ρ ds u w→jU P rs R g ds u w
  |[],u,w,h=>by
    cases u with
    |run=>exact h
    |returning=>simp only [jU] at h⊢;rw [←i];exact h
    |panicking c=>exact h
  | d :: ds, u, w, h => by
    cases d<;>simp only [jU] at h⊢ <;>first|exact h|skip
    · exact ⟨h.1,let ⟨w',l,k⟩:=h.2;⟨w',l,jU.congr i ds u w' k⟩⟩
    · obtain ⟨n,m,b,l,k⟩:=h;refine ⟨n,m,b,l,k.mono fun e o w' j=> ?_⟩;cases e with
      |returned v=>exact jU.congr i ds _ _ j
      |panicked c=>exact jU.congr i ds _ _ j
      |outgrown=>exact j
theorem qrV {P:Program} {rs:List RV} {R:Ending→World→Prop} {u:FrameMode} {ρ:qa} {d:Nat} {v:Value} {w:World} (b:d≠gS) (c:∀w,vC (qt ρ d v) w rs=vC ρ w rs) (h:ve P rs R u (qt ρ d v) w):ve P rs R u ρ w:=by
  unfold ve at*;rw [qtp _ _ _ _ (Ne.symm b)] at h;split at h
  · exact jU.congr c _ _ _ h
  · cases h
def qE (P:Program) (w0:World) (dst:Option Nat) (op:Op) (ty:TypeId) (r:List St) (K:qa→Prop) (ρ:qa):Prop:=∃v,qbe P w0 dst op ty ρ v∧jb P w0 r K (qm ρ dst v)
theorem xH {P:Program} {w0:World} {K:qa→Prop} {ρ:qa}:jb P w0 [] K ρ=K ρ:=rfl
theorem xJ {P:Program} {w0:World} {K:qa→Prop} {ρ:qa} {g:Option (Nat×Bool)} {d:Nat} {e:Ex} {r:List St}:jb P w0 (.asg g d e::r) K ρ=if gd ρ g then vG (e.ev ρ w0) (fun v=>jb P w0 r K (qt ρ d v)) else jb P w0 r K (qt ρ d undef):=rfl
theorem xI {P:Program} {w0:World} {K:qa→Prop} {ρ:qa} {g:Option (Nat×Bool)} {d:Option Nat} {op:Op} {ty:TypeId} {r:List St}:jb P w0 (.eff g d op ty::r) K ρ=if gd ρ g then qE P w0 d op ty r K ρ else jb P w0 r K (qm ρ d undef):=rfl
theorem qbg {P:Program} {w0:World} {K:qa→Prop} {ρ:qa} {d:Option Nat} {ty:TypeId} {r:List St} {f:FuncId} {args:Array Operand} {b:Array TypeId} (v:Value) (c:qg P f=true)
    (h:∀w,qb w0 w→Calls P f (args.map (qd ρ)) w (fun e w'=>e= .returned v∧qb w0 w')) (g:jb P w0 r K (qm ρ d v)):qE P w0 d (.call {callee:= .value (.func f),args:=args,argTypes:=b}) ty r K ρ:=⟨v,⟨c,h⟩,g⟩
end Go.Eng
namespace Go.Eng.I
open Go.Eng Go.MapKept Go.RowKit
def jP (ps:List (Int×Value)) (k:Int):Option Value:=(ps.find? fun p=>decide (p.1=k)).map (·.2)
def jZ:List (Int×Value)→Int→Value→List (Int×Value)
  |[],k,v=>[(k,v)]
  |p::l,k,v=>if p.1=k then (k,v)::l else p::jZ l k v
@[simp] theorem qx8 (k:Int):jP [] k=none:=rfl
theorem xb (p:Int×Value) (l:List (Int×Value)) (k:Int):jP (p::l) k=if p.1=k then some p.2 else jP l k:=by
  unfold jP;rw [List.find?_cons];by_cases h:p.1=k<;>simp [h]
theorem qdd (k b : Int) (v : Value) : ∀ l : List (Int × Value), jP (jZ l k v) b = if k = b then some v else jP l b
  |[]=>by simp [jZ,xb]
  | p :: l => by
    unfold jZ;split
    · rename_i h;rw [xb,xb];by_cases g:k=b
      · simp [g]
      · simp [g,h]
    · rename_i h;rw [xb,xb,qdd k b v l];by_cases c:p.1=b
      · have:¬k=b:=fun e=>h (c.trans e.symm);simp [c,this]
      · simp [c]
structure MapB (w:World) (B:Nat) (ps:List (Int×Value)):Prop where
  ex:∃es clock,w.heap[B]? =some (.map es clock)∧Stamped es clock∧es.toList.map (fun e=>(e.key,e.val))=ps.map fun p=>(Value.int .i64 p.1,p.2)
theorem MapB.lt {w:World} {B:Nat} {ps:List (Int×Value)} (h:MapB w B ps):B<w.heap.size:=by
  obtain ⟨es,b,c,_⟩:=h.ex;exact (Array.getElem?_eq_some_iff.1 c).1
theorem MapB.ext {w w':World} {B:Nat} {ps:List (Int×Value)} (h:MapB w B ps) (e:qb w w'):MapB w' B ps:=by
  obtain ⟨es,b,c,r⟩:=h.ex;exact ⟨es,b,(e.block B h.lt).trans c,r⟩
theorem MapB.block {w w':World} {B:Nat} {ps:List (Int×Value)} (h:MapB w B ps) (e:w'.heap[B]? =w.heap[B]?):MapB w' B ps:=by
  obtain ⟨es,b,c,r⟩:=h.ex;exact ⟨es,b,e.trans c,r⟩
theorem qbQ {es:List MapEntry} {ps:List (Int×Value)} (h:es.map (fun e=>(e.key,e.val))=ps.map fun p=>(Value.int .i64 p.1,p.2)):∀e∈es,IsKey (.int .i64) e.key:=by
  intro e c;have:(e.key,e.val)∈ps.map fun p=>(Value.int .i64 p.1,p.2):=by rw [←h];exact List.mem_map.2 ⟨e,c,rfl⟩
  obtain ⟨p,_,g⟩:=List.mem_map.1 this;cases b:e.key<;>simp_all [IsKey]
theorem QV {k:Int}:∀{es:List MapEntry} {ps:List (Int×Value)},es.map (fun e=>(e.key,e.val))=ps.map (fun p=>(Value.int .i64 p.1,p.2))→(∀e∈es,e.key≠ .int .i64 k)→
    jP ps k=none∧∀v,jZ ps k v=ps++[(k,v)]
  |[],[],_,_=>⟨rfl,fun _=>rfl⟩
  |e::es,p::ps,h,b=>by
    simp only [List.map_cons,List.cons.injEq,Prod.mk.injEq] at h;obtain ⟨⟨g,o⟩,j⟩:=h;obtain ⟨l,m⟩:=QV j fun x i=>b x (by simp [i]);have c:¬p.1=k:=fun n=>b e (by simp) (by rw [g,n]);exact ⟨by rw [xb,if_neg c,l],fun v=>by rw [jZ,if_neg c,m];rfl⟩
  |[],_::_,h,_=>by simp at h
  |_::_,[],h,_=>by simp at h
theorem QU {k:Int} {v:Value}:∀{es:List MapEntry} {ps:List (Int×Value)} {j:Nat} {e:MapEntry},es.map (fun e=>(e.key,e.val))=ps.map (fun p=>(Value.int .i64 p.1,p.2))→
    es.Pairwise (fun x y=>x.key≠y.key)→es[j]? =some e→e.key= .int .i64 k→jP ps k=some e.val∧(es.modify j fun x=>{x with key:= .int .i64 k,val:=v}).map (fun e=>(e.key,e.val))=(jZ ps k v).map fun p=>(Value.int .i64 p.1,p.2)
  |[],_,_,_,_,_,b,_=>by simp at b
  |e::es,[],_,_,h,_,_,_=>by simp at h
  |e::es,p::ps,0,n,h,_,b,i=>by
    simp only [List.getElem?_cons_zero,Option.some.injEq] at b;subst b;simp only [List.map_cons,List.cons.injEq,Prod.mk.injEq] at h;obtain ⟨⟨g,m⟩,l⟩:=h;have c:p.1=k:=by rw [i] at g;cases g;rfl
    refine ⟨by rw [xb,if_pos c,m], ?_⟩;simp [jZ,c,l]
  |e::es,p::ps,j+1,n,h,A,b,i=>by
    simp only [List.getElem?_cons_succ] at b;simp only [List.map_cons,List.cons.injEq,Prod.mk.injEq] at h;obtain ⟨⟨g,m⟩,l⟩:=h;obtain ⟨s,o⟩:=List.pairwise_cons.1 A;have c:¬p.1=k:=fun u=>s n (List.mem_of_getElem? b) (by rw [g,u,i]);obtain ⟨z,t⟩:=QU (v:=v) l o b i;refine ⟨by rw [xb,if_neg c,z], ?_⟩;simp [jZ,c,t,g,m]
section
variable {P:Program} {Q:Ks} {d:Option Nat} {ty:TypeId} {K:qa→World→Prop} {ρ:qa} {w:World}
theorem qhX {t:TypeId} (h:∀B W,w.heap.size≤B→qb w W→MapB W B []→W.heap.size=B+1→K (qm ρ d (.map (some B))) W):qw P Q d (.makeMap t none) ty K ρ w:=by
  refine ju (v:= .map (some w.heap.size)) (w':=w.alloc (.map #[] 0)) ?_ (h _ _ (Nat.le_refl _) (wE _ _) ⟨#[],0,heap_alloc_new _ _,stamped_empty 0,rfl⟩ (by simp));have b:(Instr.makeMap t none).run P w= .ok (.map (some w.heap.size)) (w.alloc (.map #[] 0)):=rfl;simp only [execOp,qD,Option.map_none,Sem.run_bind,b,Result.andThen_ok,Sem.run_pure]
theorem qhY {t kt et:TypeId} {m k:Operand} {B:Nat} {ps:List (Int×Value)} {s:Int} {z:Value} (C:P.underlying t=some (.map kt et)) (b:P.underlying kt=some (.int .i64)) (u:((P.info? et).bind fun i=>i.zero)=some z)
    (F:qd ρ m= .map (some B)) (E:qd ρ k= .int .i64 s) (n:MapB w B ps) (ok:Bool) (h:K (qm ρ d (if ok then .tuple #[(jP ps s).getD z, .bool (jP ps s).isSome] else (jP ps s).getD z)) w):qw P Q d (.lookup t m k ok) ty K ρ w:=by
  obtain ⟨inf,I,J⟩:=Option.bind_eq_some_iff.1 u;obtain ⟨es,c,n,o,g⟩:=n.ex;have p:=qbQ g;have l:IsKey (.int .i64) (.int .i64 s):=by simp [IsKey]
  refine ju (v:=_) (w':=w) ?_ h;rcases findNow_spec l es.toList 0 p with ⟨x,A⟩|⟨j,e,x,A,H⟩
  · have y:=(QV g A).1;simp [execOp,qD,Instr.lookup,F,E,run_underlying C,MapKept.run_getObj_map n,run_checkKey b l,run_findKey b x,zeroValue,typeInfo,I,J,Result.andThen,y]
  · have y:=(QU (v:=z) g ((stamped_iff es c).1 o).2.2 A H).1;simp [execOp,qD,Instr.lookup,F,E,run_underlying C,MapKept.run_getObj_map n,run_checkKey b l,run_findKey b x,Result.andThen,y]
theorem qhW {t kt et:TypeId} {m k x:Operand} {B:Nat} {ps:List (Int×Value)} {s:Int} (J:P.underlying t=some (.map kt et)) (n:P.underlying kt=some (.int .i64))
    (U:qd ρ m= .map (some B)) (S:qd ρ k= .int .i64 s) (l:MapB w B ps) (h:∀W,Only B w W→MapB W B (jZ ps s (qd ρ x))→K (qm ρ d undef) W):qw P Q d (.mapUpdate t m k x) ty K ρ w:=by
  obtain ⟨es,b,l,u,g⟩:=l.ex;have C:=qbQ g;have p:IsKey (.int .i64) (.int .i64 s):=by simp [IsKey]
  have only:∀o,Only B w {w with heap:=w.heap.setIfInBounds B o}:=fun o=>⟨rfl,rfl,rfl,by simp,fun i R=>(heap_set l).2 i R⟩;have fin:∀W,(Instr.mapUpdate t (.map (some B)) (.int .i64 s) (qd ρ x)).run P w= .ok () W→K (qm ρ d undef) W→jY P Q d (.mapUpdate t m k x) ty K ρ w:=by
    intro W O F;unfold jY;simp only [execOp,qD,U,S,Sem.run_bind,O,Result.andThen_ok,Sem.run_pure];exact F
  rcases findNow_spec p es.toList 0 C with ⟨H,z⟩|⟨j,e,H,z,E⟩
  · have I:=(QV g z).2 (qd ρ x);refine fin {w with heap:=w.heap.setIfInBounds B (.map (es.push {key:= .int .i64 s,val:=qd ρ x,born:=b}) (b+1))} ?_ (h _ (only _) ⟨_,_,(heap_set l).1,stamped_push u z, ?_⟩)
    · simp [Instr.mapUpdate,run_underlying J,MapKept.run_getObj_map l,run_checkKey n p,run_findKey n H,run_setObj_map _ l,Result.andThen]
    · rw [I];simp [g]
  · have L:es[j]? =some e:=by simpa using z
    have I:=(QU (v:=qd ρ x) g ((stamped_iff es b).1 u).2.2 z E).2;have A:∀y,es[j]? =some y→({y with key:= .int .i64 s,val:=qd ρ x}:MapEntry).key=y.key:=fun y c=>by rw [L] at c;cases c;exact E.symm
    refine fin {w with heap:=w.heap.setIfInBounds B (.map (es.modify j fun e=>{e with key:= .int .i64 s,val:=qd ρ x}) b)} ?_ (h _ (only _) ⟨_,_,(heap_set l).1,stamped_modify u _ _ (fun _ _=>rfl) (fun y _ c=>A y c), ?_⟩)
    · simp [Instr.mapUpdate,run_underlying J,MapKept.run_getObj_map l,run_checkKey n p,run_findKey n H,L,E,run_keyThatStays p,run_setObj_map _ l,Result.andThen]
    · rw [Array.toList_modify];exact I
end
structure RangeB (w:World) (R B:Nat) (ps:List (Int×Value)) (vis:List Int) (cur:Option (Int×Value)):Prop where
  ex:∃(es:Array MapEntry) (clock since:Nat) (seen:Array Nat) (c0:Nat),w.heap[B]? =some (.map es clock)∧Stamped es clock∧es.toList.map (fun e=>(e.key,e.val))=ps.map (fun p=>(Value.int .i64 p.1,p.2))∧
    w.heap[R]? =some (.mapIter (some B) since seen c0)∧(∀x∈es.toList,x.born<since)∧since≤c0∧since≤clock∧(∀e∈es.toList,∀k,e.key= .int .i64 k→(seen.contains e.born=true↔k∈vis))∧
    (∀k v,cur=some (k,v)→c0=clock∧∃e∈es.toList,e.key= .int .i64 k∧e.val=v∧∃s:Array Nat,seen=s.push e.born)
theorem RangeB.block {w w':World} {R B:Nat} {ps:List (Int×Value)} {e:List Int} {cur:Option (Int×Value)} (h:RangeB w R B ps e cur) (k:w'.heap[B]? =w.heap[B]?) (j:w'.heap[R]? =w.heap[R]?):RangeB w' R B ps e cur:=by
  obtain ⟨es,b,c,seen,c0,l,m,i,g,r⟩:=h.ex;exact ⟨es,b,c,seen,c0,k.trans l,m,i,j.trans g,r⟩
theorem RangeB.lt {w:World} {R B:Nat} {ps:List (Int×Value)} {e:List Int} {cur:Option (Int×Value)} (h:RangeB w R B ps e cur):B<w.heap.size∧R<w.heap.size:=by
  obtain ⟨es,b,c,seen,c0,g,j,k,i,r⟩:=h.ex;exact ⟨(Array.getElem?_eq_some_iff.1 g).1,(Array.getElem?_eq_some_iff.1 i).1⟩
section
variable {P:Program} {Q:Ks} {d:Option Nat} {ty:TypeId} {K:qa→World→Prop} {ρ:qa} {w:World}
end
end Go.Eng.I
