/- Lemmas for a claim about layer 2 (tree). No conditions but those they state. -/
import Derived.Test.YtbcmiempigoooaaGreatDoorNah
import Derived.WideLaws
import Derived.Maps.RangeRun
set_option linter.all false
namespace Go.Eng
open Go.RowKit
def qmX:Op→Bool
  | .call {callee:= .builtin .recover,args, .. }=>args.isEmpty
  |_=>false
def qgf (ops:Array Oper):Bool:=match ops[0]? with|some o=>qmX o.op&&o.guard.isNone|none=>false
def x6 (v:Value) (ops:Array Oper):Array Oper:=match ops[0]? with|some o=>ops.setIfInBounds 0 {o with op:= .move (.const v)}|none=>ops
def Qz (v:Value):Code→Code
  | .seq a b=> .seq (Qz v a) b
  | .region id ops d=> .region id (x6 v ops) d
  |c=>c
def vQ:FrameMode→Value
  | .panicking ({v,recovered:=false,goexit:=false}::_)=>v
  |_=> .nilIface
def zD:FrameMode→FrameMode
  | .panicking ({v,recovered:=false,goexit:=false}::older)=> .panicking ({v,recovered:=true}::older)
  |u=>u
theorem qxz (c : Frame) (cs : List Frame) : (match recoverD (c :: cs) with | some (v, cs') => (v, cs') | none => (Value.nilIface, c :: cs)) = (vQ c.mode, { c with mode := zD c.mode } :: cs) := by
  unfold recoverD;split
  · rename_i v cs' h;simp only at h;split at h
    · rename_i v0 b e;cases h;simp [e,vQ,zD]
    · cases h
  · rename_i h;simp only at h;split at h
    · cases h
    · rename_i e;have i:vQ c.mode= .nilIface∧zD c.mode=c.mode:=by
        unfold vQ zD;constructor
        · split
          · rename_i v b g;exact absurd g (e v b)
          · rfl
        · split
          · rename_i v b g;exact absurd g (e v b)
          · rfl
      rw [i.1,i.2]
theorem qkj {v:Value} {ops:Array Oper} {i:Nat} (b:i≠0):(x6 v ops)[i]? =ops[i]? :=by
  unfold x6;split
  · rw [Array.getElem?_setIfInBounds_ne (Ne.symm b)]
  · rfl
theorem qvG (v:Value) (ops:Array Oper):(x6 v ops).size=ops.size:=by unfold x6;split<;>simp
theorem qki {v:Value} {ops:Array Oper} {o:Oper} (h:ops[0]? =some o):(x6 v ops)[0]? =some {o with op:= .move (.const v)}:=by
  have b:=(Array.getElem?_eq_some_iff.1 h).1;unfold x6;simp only [h];rw [Array.getElem?_setIfInBounds_self_of_lt b]
theorem qvF (v:Value) (ops:Array Oper) (i:Nat):((x6 v ops)[i]?).bind (·.dst)=(ops[i]?).bind (·.dst):=by
  by_cases b:i=0
  · subst b;cases h:ops[0]? with
    |none=>unfold x6;simp [h]
    |some o=>rw [qki h];rfl
  · rw [qkj b]
theorem qvE (v:Value) (ops:Array Oper) (t:Array Value):yielded (x6 v ops) t=yielded ops t:=by
  funext i;simp only [yielded,qvF]
theorem qjK {F:Fence} {P:Program} {v:Value} {ops:Array Oper} {Q:Exit→Act→World→Prop}:∀(l:List Nat),(∀i∈l,i≠0)→wpOpsIn F 0 P (x6 v ops) Q l=wpOpsIn F 0 P ops Q l
  |[],_=>rfl
  |i::l,h=>by
    have b:=qjK (F:=F) (P:=P) (v:=v) (ops:=ops) (Q:=Q) l fun x c=>h x (by simp [c]);funext a w;simp only [wpOpsIn,qkj (h i (by simp)),qvE,b]
section
variable {P:Program} {Q:Exit→Act→World→Prop} {a:Act} {w:World}
theorem quF {id : Nat} {ops : Array Oper} (c : Frame) (cs : List Frame) (i : qgf ops = true) (h : wpOpsIn (fc none) 0 P (x6 (vQ c.mode) ops) Q (List.range (x6 (vQ c.mode) ops).size) a w) :
    (Code.region id ops false).wpSIn Fence.wide 0 P (fun e H cs' w'=>cs'={c with mode:=zD c.mode}::cs∧Q e H w') a (c::cs) w:=by
  intro b k V x Y J;unfold qgf at i;cases y:ops[0]? with
  |none=>simp [y] at i
  |some o=>
    simp only [y,Bool.and_eq_true] at i;obtain ⟨l,U⟩:=i;have C:o.guard=none:=by simpa using U
    have W:=(Array.getElem?_eq_some_iff.1 y).1;obtain ⟨m,O⟩:∃m,ops.size=m+1:=⟨ops.size - 1,by omega⟩;rw [qvG,O,List.range_succ_eq_map] at h;simp only [wpOpsIn,qki y] at h;have I:∀t,Region.wanted {o with op:=Op.move (.const (vQ c.mode))} (yielded (x6 (vQ c.mode) ops) t)=true:=fun t=>by simp [Region.wanted,C]
    rw [if_pos (I _)] at h;simp only [Oper.wpIn] at h;have L:(Oper.semAt (fc none).round a.eval {o with op:=Op.move (.const (vQ c.mode))}).run P w= .ok (.value (vQ c.mode)) w:=by
      show (execOp a.eval {o with op:=Op.move (.const (vQ c.mode))}).run P w=_;simp [execOp,Act.eval]
    rw [L] at h;simp only [Oper.uponIn] at h;rw [qjK _ (by simp)] at h;obtain ⟨e,H,w',X,A⟩:=wp_opsIn (F:=Fence.wide) (n:=0) _ _ _ h.2 b k ({c with mode:=zD c.mode}::cs) x trivial (room_wide _);refine ⟨e,H,{c with mode:=zD c.mode}::cs,w',rfl,⟨rfl,X⟩, .of_steps (.one (fenced_wide _ _) stepR_region) (.of_steps (.one (fenced_wide _ _) ?_) A)⟩;have B:List.range ops.size=0::(List.range m).map Nat.succ:=by rw [O,List.range_succ_eq_map]
    rw [B];refine step_lone_go ?_;have u:Region.wanted o (yielded ops a.tmps)=true:=by simp [Region.wanted,C]
    rw [stepGR_op y u,x,Oper.semAt_none];have s:(execOp a.eval o).run P w= .ok .recover w:=by
      obtain ⟨dst,op,type,pos,after,guard⟩:=o;simp only at l;unfold qmX at l;split at l
      · rename_i args S;have:args= #[]:=by simpa using l
        subst this;simp [execOp,resolve,invoke,builtin]
      · cases l
    have z:∀v,(b.atR a (.inRegion ops (0::(List.range m).map Nat.succ)::k)).finish v=b.atR (a.put o.dst v) (.inRegion ops ((List.range m).map Nat.succ)::k):=by
      intro v;rw [Frame.finish_atR,y];rfl
    have R:(b.atR a (.inRegion ops (0::(List.range m).map Nat.succ)::k)).kind= .deferred:=V;have j:=tryRecover_deferred R (c::cs);have g:=qxz c cs;simp only [←z];simp only [Frame.atR,x] at j⊢;cases E:recoverD (c::cs) with
    |none=>
      rw [E] at j g;simp only [Prod.mk.injEq] at g;simp [stepG.apply,s,j,←g.1,←g.2]
    |some p=>
      rw [E] at j g;simp only [Prod.mk.injEq] at g;simp [stepG.apply,s,j,←g.1,←g.2]
end
def yN (rs:List RV) (u':FrameMode) (R:Ending→FrameMode→World→Prop):qa→World→Prop:=qw rs fun e w=>R e u' w
def qap (rs:List RV) (u':FrameMode) (R:Ending→FrameMode→World→Prop):Ks:=⟨fun _ _ _=>False,yN rs u' R,fun _ c w=>R (.panicked c) u' w,∀w,R .outgrown u' w,False,True⟩
@[simp] theorem qG0 (rs:List RV) (b:FrameMode) (R:Ending→FrameMode→World→Prop):(qap rs b R).rt=yN rs b R:=rfl
@[simp] theorem qG2 (rs:List RV) (b:FrameMode) (R:Ending→FrameMode→World→Prop) (ρ:qa) (c:List PanicEntry) (w:World):(qap rs b R).pn ρ c w=R (.panicked c) b w:=rfl
@[simp] theorem qG1 (rs:List RV) (b:FrameMode) (R:Ending→FrameMode→World→Prop):(qap rs b R).rd=True:=rfl
@[simp] theorem qG3 (b:FrameMode) (R:Ending→FrameMode→World→Prop) (ρ:qa) (w:World):yN [] b R ρ w=R (.returned (.tuple #[])) b w:=rfl
section
variable {P:Program} {Q:Ks} {d:Option Nat} {ty:TypeId} {K:qa→World→Prop} {ρ:qa} {w:World}
theorem qiT {x:Operand} {t:TypeId} {v:Value} (b:qd ρ x= .iface t v) (h:Q.pn ρ [{v:= .iface t v,recovered:=false}] w):qr P Q d (.panic x) ty K ρ w:=by
  show j9 P Q d _ ty K ρ w;unfold j9;have:(execOp (qd ρ) (qA d (.panic x) ty)).run P w= .halt (.panic (.iface t v)) w:=by
    simp [execOp,qA,b,Instr.panic]
  rw [this];exact h
theorem qiW {t:Nat} {f:FuncId} {caps:Array Value} (c:ρ t= .func (.func f) #[] caps) (b:Q.df) (h:K (qm (qu ρ gS (xS ⟨.fn (.func f) caps, #[]⟩ (ρ gS))) d undef) w):
    qr P Q d (.defer {callee:= .value (.tmp t),args:= #[],argTypes:= #[]}) ty K ρ w:=by
  show j9 P Q d _ ty K ρ w;unfold j9;have:(execOp (qd ρ) (qA d (.defer {callee:= .value (.tmp t),args:= #[],argTypes:= #[]}) ty)).run P w= .ok (.defer ⟨.fn (.func f) caps, #[]⟩) w:=by
    simp [execOp,qA,resolve,c,Deferred.ofValue]
  rw [this];exact ⟨b,h⟩
@[simp] theorem qIC (f:Fn) (caps args:Array Value) (vs:Array Value):xS ⟨.fn f caps,args⟩ (.tuple vs)= .tuple (.func f args caps::vs.toList).toArray:=rfl
theorem qay {rs:List RV} {R:Ending→World→Prop} (h:qw rs R ρ w):jP P rs R ρ [] .returning w:=h
end
section
variable {P:Program} {Q:Ks} {d:Option Nat} {ty:TypeId} {K:qa→World→Prop} {ρ:qa} {w:World}
theorem qtp {x:Operand} {xt a:TypeId} {v:Value} {ds:TypeDesc} (e:P.underlying a=some ds) (c:∀m,ds≠ .interface m) (b:qd ρ x= .iface a v) (h:K (qm ρ d (.tuple #[v, .bool true])) w):
    qr P Q d (.typeAssert x xt a true) ty K ρ w:=by
  refine jf (v:= .tuple #[v, .bool true]) (w':=w) ?_ h;cases ds<;>first|exact absurd rfl (c _)|simp [execOp,qA,b,Instr.typeAssert,run_underlying e]
theorem qtl {x:Operand} {t e:TypeId} (b:P.underlying t=some (.interface (P.methodsAt t))) (h:qd ρ x= .nilIface) (c:K (qm ρ d (.bool true)) w):qr P Q d (.binOp .eql t x (.const .nilIface) e) ty K ρ w:=by
  refine jf (v:= .bool true) (w':=w) ?_ c;have:=run_equal_nil_nil (P:=P) (w:=w) t b;simp [execOp,qA,h,eqGuard_nil_constR,binOp,this]
theorem qtk {x:Operand} {t e u:TypeId} {v:Value} (b:P.underlying t=some (.interface (P.methodsAt t))) (h:qd ρ x= .iface u v) (c:K (qm ρ d (.bool false)) w):qr P Q d (.binOp .eql t x (.const .nilIface) e) ty K ρ w:=by
  refine jf (v:= .bool false) (w':=w) ?_ c;have:=run_equal_held_nil (P:=P) (w:=w) t u v b;simp [execOp,qA,h,eqGuard,binOp,this]
end
theorem jP.congr {P:Program} {rs:List RV} {R:Ending→World→Prop} {ρ g:qa} (i:∀w,vE ρ w rs=vE g w rs):∀(ds:List Value) (u:FrameMode) (w:World),jP P rs R ρ ds u w→jP P rs R g ds u w
  |[],u,w,h=>by
    cases u with
    |run=>exact h
    |returning=>simp only [jP] at h⊢;rw [←i];exact h
    |panicking c=>exact h
  | d :: ds, u, w, h => by
    cases d<;>simp only [jP] at h⊢ <;>first|exact h|skip
    · exact ⟨h.1,let ⟨w',l,j⟩:=h.2;⟨w',l,jP.congr i ds u w' j⟩⟩
    · obtain ⟨n,m,b,l,j⟩:=h;refine ⟨n,m,b,l,j.mono fun e o w' k=> ?_⟩;cases e with
      |returned v=>exact jP.congr i ds _ _ k
      |panicked c=>exact jP.congr i ds _ _ k
      |outgrown=>exact k
theorem qte {P:Program} {rs:List RV} {R:Ending→World→Prop} {u:FrameMode} {ρ:qa} {d:Nat} {v:Value} {w:World} (c:d≠gS) (b:∀w,vE (qu ρ d v) w rs=vE ρ w rs) (h:jD P rs R u (qu ρ d v) w):jD P rs R u ρ w:=by
  unfold jD at*;rw [quT _ _ _ _ (Ne.symm c)] at h;split at h
  · exact jP.congr b _ _ _ h
  · cases h
def qE (P:Program) (w0:World) (dst:Option Nat) (op:Op) (ty:TypeId) (r:List St) (K:qa→Prop) (ρ:qa):Prop:=∃v,qbz P w0 dst op ty ρ v∧ja P w0 r K (qm ρ dst v)
theorem xH {P:Program} {w0:World} {K:qa→Prop} {ρ:qa}:ja P w0 [] K ρ=K ρ:=rfl
theorem xJ {P:Program} {w0:World} {K:qa→Prop} {ρ:qa} {g:Option (Nat×Bool)} {d:Nat} {e:Ex} {r:List St}:ja P w0 (.asg g d e::r) K ρ=if gd ρ g then vJ (e.ev ρ w0) (fun v=>ja P w0 r K (qu ρ d v)) else ja P w0 r K (qu ρ d undef):=rfl
theorem xI {P:Program} {w0:World} {K:qa→Prop} {ρ:qa} {g:Option (Nat×Bool)} {d:Option Nat} {op:Op} {ty:TypeId} {r:List St}:ja P w0 (.eff g d op ty::r) K ρ=if gd ρ g then qE P w0 d op ty r K ρ else ja P w0 r K (qm ρ d undef):=rfl
theorem qbC {P:Program} {w0:World} {K:qa→Prop} {ρ:qa} {d:Option Nat} {ty:TypeId} {r:List St} {f:FuncId} {args:Array Operand} {b:Array TypeId} (v:Value) (c:qf P f=true)
    (h:∀w,qb w0 w→Calls P f (args.map (qd ρ)) w (fun e w'=>e= .returned v∧qb w0 w')) (g:ja P w0 r K (qm ρ d v)):qE P w0 d (.call {callee:= .value (.func f),args:=args,argTypes:=b}) ty r K ρ:=⟨v,⟨c,h⟩,g⟩
end Go.Eng
namespace Go.Eng.I
open Go.Eng Go.MapKept Go.RowKit
def jx (ps:List (Int×Value)) (k:Int):Option Value:=(ps.find? fun p=>decide (p.1=k)).map (·.2)
def jB:List (Int×Value)→Int→Value→List (Int×Value)
  |[],k,v=>[(k,v)]
  |p::l,k,v=>if p.1=k then (k,v)::l else p::jB l k v
@[simp] theorem qzS (k:Int):jx [] k=none:=rfl
theorem zH (p:Int×Value) (l:List (Int×Value)) (k:Int):jx (p::l) k=if p.1=k then some p.2 else jx l k:=by
  unfold jx;rw [List.find?_cons];by_cases h:p.1=k<;>simp [h]
theorem qax (k b : Int) (v : Value) : ∀ l : List (Int × Value), jx (jB l k v) b = if k = b then some v else jx l b
  |[]=>by simp [jB,zH]
  | p :: l => by
    unfold jB;split
    · rename_i h;rw [zH,zH];by_cases g:k=b
      · simp [g]
      · simp [g,h]
    · rename_i h;rw [zH,zH,qax k b v l];by_cases c:p.1=b
      · have:¬k=b:=fun e=>h (c.trans e.symm);simp [c,this]
      · simp [c]
theorem qdC {k:Int}:∀{l:List (Int×Value)},k∈l.map (·.1)↔(jx l k).isSome=true
  |[]=>by simp
  | p :: l => by
    rw [zH,List.map_cons,List.mem_cons,qdC (l:=l)];by_cases h:p.1=k
    · simp [h]
    · have:¬k=p.1:=fun e=>h e.symm;simp [h,this]
structure MapB (w:World) (B:Nat) (ps:List (Int×Value)):Prop where
  ex:∃es clock,w.heap[B]? =some (.map es clock)∧Stamped es clock∧es.toList.map (fun e=>(e.key,e.val))=ps.map fun p=>(Value.int .i64 p.1,p.2)
theorem MapB.lt {w:World} {B:Nat} {ps:List (Int×Value)} (h:MapB w B ps):B<w.heap.size:=by
  obtain ⟨es,b,c,_⟩:=h.ex;exact (Array.getElem?_eq_some_iff.1 c).1
theorem MapB.ext {w w':World} {B:Nat} {ps:List (Int×Value)} (h:MapB w B ps) (e:qb w w'):MapB w' B ps:=by
  obtain ⟨es,b,c,r⟩:=h.ex;exact ⟨es,b,(e.block B h.lt).trans c,r⟩
theorem MapB.block {w w':World} {B:Nat} {ps:List (Int×Value)} (h:MapB w B ps) (e:w'.heap[B]? =w.heap[B]?):MapB w' B ps:=by
  obtain ⟨es,b,c,r⟩:=h.ex;exact ⟨es,b,e.trans c,r⟩
theorem Jd {es:List MapEntry} {ps:List (Int×Value)} (h:es.map (fun e=>(e.key,e.val))=ps.map fun p=>(Value.int .i64 p.1,p.2)):∀e∈es,IsKey (.int .i64) e.key:=by
  intro e b;have:(e.key,e.val)∈ps.map fun p=>(Value.int .i64 p.1,p.2):=by rw [←h];exact List.mem_map.2 ⟨e,b,rfl⟩
  obtain ⟨p,_,g⟩:=List.mem_map.1 this;cases c:e.key<;>simp_all [IsKey]
theorem Jc {k:Int}:∀{es:List MapEntry} {ps:List (Int×Value)},es.map (fun e=>(e.key,e.val))=ps.map (fun p=>(Value.int .i64 p.1,p.2))→(∀e∈es,e.key≠ .int .i64 k)→
    jx ps k=none∧∀v,jB ps k v=ps++[(k,v)]
  |[],[],_,_=>⟨rfl,fun _=>rfl⟩
  |e::es,p::ps,h,c=>by
    simp only [List.map_cons,List.cons.injEq,Prod.mk.injEq] at h;obtain ⟨⟨j,o⟩,g⟩:=h;obtain ⟨m,l⟩:=Jc g fun x n=>c x (by simp [n]);have b:¬p.1=k:=fun i=>c e (by simp) (by rw [j,i]);exact ⟨by rw [zH,if_neg b,m],fun v=>by rw [jB,if_neg b,l];rfl⟩
  |[],_::_,h,_=>by simp at h
  |_::_,[],h,_=>by simp at h
theorem Jb {k:Int} {v:Value}:∀{es:List MapEntry} {ps:List (Int×Value)} {j:Nat} {e:MapEntry},es.map (fun e=>(e.key,e.val))=ps.map (fun p=>(Value.int .i64 p.1,p.2))→
    es.Pairwise (fun x y=>x.key≠y.key)→es[j]? =some e→e.key= .int .i64 k→jx ps k=some e.val∧(es.modify j fun x=>{x with key:= .int .i64 k,val:=v}).map (fun e=>(e.key,e.val))=(jB ps k v).map fun p=>(Value.int .i64 p.1,p.2)
  |[],_,_,_,_,_,b,_=>by simp at b
  |e::es,[],_,_,h,_,_,_=>by simp at h
  |e::es,p::ps,0,n,h,_,b,i=>by
    simp only [List.getElem?_cons_zero,Option.some.injEq] at b;subst b;simp only [List.map_cons,List.cons.injEq,Prod.mk.injEq] at h;obtain ⟨⟨c,m⟩,l⟩:=h;have g:p.1=k:=by rw [i] at c;cases c;rfl
    refine ⟨by rw [zH,if_pos g,m], ?_⟩;simp [jB,g,l]
  |e::es,p::ps,j+1,n,h,A,b,i=>by
    simp only [List.getElem?_cons_succ] at b;simp only [List.map_cons,List.cons.injEq,Prod.mk.injEq] at h;obtain ⟨⟨c,m⟩,l⟩:=h;obtain ⟨u,o⟩:=List.pairwise_cons.1 A;have g:¬p.1=k:=fun s=>u n (List.mem_of_getElem? b) (by rw [c,s,i]);obtain ⟨z,t⟩:=Jb (v:=v) l o b i;refine ⟨by rw [zH,if_neg g,z], ?_⟩;simp [jB,g,t,c,m]
section
variable {P:Program} {Q:Ks} {d:Option Nat} {ty:TypeId} {K:qa→World→Prop} {ρ:qa} {w:World}
theorem qeL {t:TypeId} (h:∀B W,w.heap.size≤B→qb w W→MapB W B []→W.heap.size=B+1→K (qm ρ d (.map (some B))) W):qr P Q d (.makeMap t none) ty K ρ w:=by
  refine jf (v:= .map (some w.heap.size)) (w':=w.alloc (.map #[] 0)) ?_ (h _ _ (Nat.le_refl _) (kj _ _) ⟨#[],0,heap_alloc_new _ _,stamped_empty 0,rfl⟩ (by simp));have b:(Instr.makeMap t none).run P w= .ok (.map (some w.heap.size)) (w.alloc (.map #[] 0)):=rfl;simp only [execOp,qA,Option.map_none,Sem.run_bind,b,Result.andThen_ok,Sem.run_pure]
theorem qiV {t kt et:TypeId} {m k:Operand} {B:Nat} {ps:List (Int×Value)} {s:Int} {z:Value} (F:P.underlying t=some (.map kt et)) (b:P.underlying kt=some (.int .i64)) (y:((P.info? et).bind fun i=>i.zero)=some z)
    (E:qd ρ m= .map (some B)) (C:qd ρ k= .int .i64 s) (n:MapB w B ps) (ok:Bool) (h:K (qm ρ d (if ok then .tuple #[(jx ps s).getD z, .bool (jx ps s).isSome] else (jx ps s).getD z)) w):qr P Q d (.lookup t m k ok) ty K ρ w:=by
  obtain ⟨inf,J,I⟩:=Option.bind_eq_some_iff.1 y;obtain ⟨es,l,n,x,c⟩:=n.ex;have p:=Jd c;have g:IsKey (.int .i64) (.int .i64 s):=by simp [IsKey]
  refine jf (v:=_) (w':=w) ?_ h;rcases findNow_spec g es.toList 0 p with ⟨o,A⟩|⟨j,e,o,A,H⟩
  · have u:=(Jc c A).1;simp [execOp,qA,Instr.lookup,E,C,run_underlying F,MapKept.run_getObj_map n,run_checkKey b g,run_findKey b o,zeroValue,typeInfo,J,I,Result.andThen,u]
  · have u:=(Jb (v:=z) c ((stamped_iff es l).1 x).2.2 A H).1;simp [execOp,qA,Instr.lookup,E,C,run_underlying F,MapKept.run_getObj_map n,run_checkKey b g,run_findKey b o,Result.andThen,u]
theorem qaP {t kt et:TypeId} {m k x:Operand} {B:Nat} {ps:List (Int×Value)} {s:Int} (J:P.underlying t=some (.map kt et)) (p:P.underlying kt=some (.int .i64))
    (R:qd ρ m= .map (some B)) (O:qd ρ k= .int .i64 s) (l:MapB w B ps) (h:∀W,Only B w W→MapB W B (jB ps s (qd ρ x))→K (qm ρ d undef) W):qr P Q d (.mapUpdate t m k x) ty K ρ w:=by
  obtain ⟨es,b,l,u,g⟩:=l.ex;have F:=Jd g;have n:IsKey (.int .i64) (.int .i64 s):=by simp [IsKey]
  have only:∀o,Only B w {w with heap:=w.heap.setIfInBounds B o}:=fun o=>⟨rfl,rfl,rfl,by simp,fun i U=>(heap_set l).2 i U⟩;have fin:∀W,(Instr.mapUpdate t (.map (some B)) (.int .i64 s) (qd ρ x)).run P w= .ok () W→K (qm ρ d undef) W→j9 P Q d (.mapUpdate t m k x) ty K ρ w:=by
    intro W S H;unfold j9;simp only [execOp,qA,R,O,Sem.run_bind,S,Result.andThen_ok,Sem.run_pure];exact H
  rcases findNow_spec n es.toList 0 F with ⟨E,A⟩|⟨j,e,E,A,C⟩
  · have I:=(Jc g A).2 (qd ρ x);refine fin {w with heap:=w.heap.setIfInBounds B (.map (es.push {key:= .int .i64 s,val:=qd ρ x,born:=b}) (b+1))} ?_ (h _ (only _) ⟨_,_,(heap_set l).1,stamped_push u A, ?_⟩)
    · simp [Instr.mapUpdate,run_underlying J,MapKept.run_getObj_map l,run_checkKey p n,run_findKey p E,run_setObj_map _ l,Result.andThen]
    · rw [I];simp [g]
  · have L:es[j]? =some e:=by simpa using A
    have I:=(Jb (v:=qd ρ x) g ((stamped_iff es b).1 u).2.2 A C).2;have z:∀y,es[j]? =some y→({y with key:= .int .i64 s,val:=qd ρ x}:MapEntry).key=y.key:=fun y c=>by rw [L] at c;cases c;exact C.symm
    refine fin {w with heap:=w.heap.setIfInBounds B (.map (es.modify j fun e=>{e with key:= .int .i64 s,val:=qd ρ x}) b)} ?_ (h _ (only _) ⟨_,_,(heap_set l).1,stamped_modify u _ _ (fun _ _=>rfl) (fun y _ c=>z y c), ?_⟩)
    · simp [Instr.mapUpdate,run_underlying J,MapKept.run_getObj_map l,run_checkKey p n,run_findKey p E,L,C,run_keyThatStays n,run_setObj_map _ l,Result.andThen]
    · rw [Array.toList_modify];exact I
end
structure RangeB (w:World) (R B:Nat) (ps:List (Int×Value)) (vis:List Int) (cur:Option (Int×Value)):Prop where
  ex:∃(es:Array MapEntry) (clock since:Nat) (seen:Array Nat) (c0:Nat),w.heap[B]? =some (.map es clock)∧Stamped es clock∧es.toList.map (fun e=>(e.key,e.val))=ps.map (fun p=>(Value.int .i64 p.1,p.2))∧
    w.heap[R]? =some (.mapIter (some B) since seen c0)∧(∀x∈es.toList,x.born<since)∧since≤c0∧since≤clock∧(∀e∈es.toList,∀k,e.key= .int .i64 k→(seen.contains e.born=true↔k∈vis))∧
    (∀k v,cur=some (k,v)→c0=clock∧∃e∈es.toList,e.key= .int .i64 k∧e.val=v∧∃s:Array Nat,seen=s.push e.born)
theorem RangeB.block {w w':World} {R B:Nat} {ps:List (Int×Value)} {e:List Int} {cur:Option (Int×Value)} (h:RangeB w R B ps e cur) (j:w'.heap[B]? =w.heap[B]?) (l:w'.heap[R]? =w.heap[R]?):RangeB w' R B ps e cur:=by
  obtain ⟨es,c,b,seen,c0,k,m,g,i,r⟩:=h.ex;exact ⟨es,c,b,seen,c0,j.trans k,m,g,l.trans i,r⟩
theorem RangeB.lt {w:World} {R B:Nat} {ps:List (Int×Value)} {b:List Int} {cur:Option (Int×Value)} (h:RangeB w R B ps b cur):B<w.heap.size∧R<w.heap.size:=by
  obtain ⟨es,e,c,seen,c0,i,k,j,g,r⟩:=h.ex;exact ⟨(Array.getElem?_eq_some_iff.1 i).1,(Array.getElem?_eq_some_iff.1 g).1⟩
theorem Q7 {h k:Type} {f:h→k}:∀{l:List h},(l.map f).Nodup→∀{a b:h},a∈l→b∈l→f a=f b→a=b
  | x :: l, m, a, b, o, i, g => by
    obtain ⟨j,n⟩:=List.nodup_cons.1 (by simpa using m:(f x::l.map f).Nodup);rcases List.mem_cons.1 o with e|e
    · rcases List.mem_cons.1 i with c|c
      · rw [e,c]
      · subst e;exact absurd (List.mem_map.2 ⟨b,c,g.symm⟩) j
    · rcases List.mem_cons.1 i with c|c
      · subst c;exact absurd (List.mem_map.2 ⟨a,e,g⟩) j
      · exact Q7 n e c g
section
variable {P:Program} {Q:Ks} {d:Option Nat} {ty:TypeId} {K:qa→World→Prop} {ρ:qa} {w:World}
theorem qtg {t kt et:TypeId} {x:Operand} {B:Nat} {ps:List (Int×Value)} (k:P.underlying t=some (.map kt et)) (j:qd ρ x= .map (some B)) (c:MapB w B ps)
    (h:∀R W,R=w.heap.size→qb w W→RangeB W R B ps [] none→K (qm ρ d (.pointer (some ⟨R,0,none⟩))) W):qr P Q d (.range t x) ty K ρ w:=by
  obtain ⟨es,b,c,e,g⟩:=c.ex;have i:=(Array.getElem?_eq_some_iff.1 c).1;refine jf (v:= .pointer (some ⟨w.heap.size,0,none⟩)) (w':=w.alloc (.mapIter (some B) b #[] b)) ?_ (h _ _ rfl (kj _ _) ⟨es,b,b, #[],b, ?_,e,g,heap_alloc_new _ _,((stamped_iff es b).1 e).1,Nat.le_refl _,Nat.le_refl _,by simp,by simp⟩)
  · simp only [execOp,qA,j,Sem.run_bind,run_range_map w t kt et B es b k c,Result.andThen_ok,Sem.run_pure]
  · rw [heap_alloc_old _ _ i,c]
theorem qth {it : Operand} {R B : Nat} {ps : List (Int × Value)} {x : List Int} {cur : Option (Int × Value)} (hit : qd ρ it = .pointer (some ⟨R, 0, none⟩)) (hr : RangeB w R B ps x cur)
    (h0:(∀k,k∈ps.map (·.1)→k∈x)→K (qm ρ d (.tuple #[.bool false])) w)
    (h1:∀k v W,(k,v)∈ps→k∉x→Only R w W→RangeB W R B ps (k::x) (some (k,v))→K (qm ρ d (.tuple #[.bool true, .int .i64 k,v])) W):qr P Q d (.next it false) ty K ρ w:=by
  obtain ⟨es,b,g,seen,c0,S,F,t,H,z,Z,y,l,_⟩:=hr.ex;have Y:B≠R:=by rintro rfl;rw [S] at H;cases H
  have hks:=Jd t;have E:∀e∈es.toList,∃k,e.key= .int .i64 k∧(k,e.val)∈ps:=by
    intro e s;have:(e.key,e.val)∈ps.map fun p=>(Value.int .i64 p.1,p.2):=by rw [←t];exact List.mem_map.2 ⟨e,s,rfl⟩
    obtain ⟨p,O,j⟩:=List.mem_map.1 this;simp only [Prod.mk.injEq] at j;exact ⟨p.1,j.1.symm,by rw [←j.2];exact O⟩
  rcases run_next_at (P:=P) w ty R B g c0 seen es b H S z Z with ⟨hl,o⟩|⟨e,s,U,m,o⟩
  · refine jf (v:=_) (w':=w) ?_ (h0 ?_)
    · simp only [execOp,qA,hit,Sem.run_bind,o,Result.andThen_ok,Sem.run_pure]
    · intro k A;obtain ⟨p,O,rfl⟩:=List.mem_map.1 A;have:(Value.int .i64 p.1,p.2)∈es.toList.map fun e=>(e.key,e.val):=by rw [t];exact List.mem_map.2 ⟨p,O,rfl⟩
      obtain ⟨e,s,j⟩:=List.mem_map.1 this;simp only [Prod.mk.injEq] at j;refine (l e s p.1 j.1).1 ?_;cases hc:seen.contains e.born with
      |true=>rfl
      |false=>
        have:e∈leftOf es seen:=by unfold leftOf;rw [Array.mem_filter];exact ⟨Array.mem_toList_iff.1 s,by rw [hc];rfl⟩
        have h0:0<(leftOf es seen).size:=Array.size_pos_of_mem this;omega
  · have c:e∈es.toList∧seen.contains e.born=false:=by
      rw [Array.mem_toList_iff] at s;unfold leftOf at s;rw [Array.mem_filter] at s;exact ⟨Array.mem_toList_iff.2 s.1,by have:=s.2;simp only [Bool.not_eq_true'] at this;exact this⟩
    obtain ⟨k,A,aa⟩:=E e c.1;have J:R<U.heap.size:=by rcases m with rfl|rfl<;>exact (Array.getElem?_eq_some_iff.1 H).1
    have n:U.heap=w.heap:=by rcases m with rfl|rfl<;>rfl
    refine jf (v:= .tuple #[.bool true,e.key,e.val]) (w':=ChangeMaps.setBlock U R (.mapIter (some B) g (seen.push e.born) b)) ?_ ?_
    · simp only [execOp,qA,hit,Sem.run_bind,o,Result.andThen_ok,Sem.run_pure]
    · rw [A];refine h1 k e.val _ aa (fun hv=> ?_) ?_ ⟨es,b,g,seen.push e.born,b, ?_,F,t, ?_,z,y,y, ?_, ?_⟩
      · rw [(l e c.1 k A).2 hv] at c;cases c.2
      · refine ⟨?_, ?_, ?_, ?_,fun i hi=> ?_⟩
        · rcases m with rfl|rfl<;>rfl
        · rcases m with rfl|rfl<;>rfl
        · rcases m with rfl|rfl<;>rfl
        · simp [ChangeMaps.setBlock,n]
        · simp only [ChangeMaps.setBlock,n];rw [Array.getElem?_setIfInBounds_ne (Ne.symm hi)]
      · simp only [ChangeMaps.setBlock,n];rw [Array.getElem?_setIfInBounds_ne (Ne.symm Y)];exact S
      · simp only [ChangeMaps.setBlock];rw [Array.getElem?_setIfInBounds_self_of_lt J]
      · intro e' C I u;obtain ⟨st1,V,X⟩:=(stamped_iff es b).1 F;have h2:=l e' C I u;have h3:e'.born=e.born↔I=k:=by
          constructor
          · intro L;have:=Q7 (f:=MapEntry.born) V C c.1 L;subst this;rw [A] at u;cases u;rfl
          · rintro rfl;have:=Q7 (f:=MapEntry.key) (by rw [List.Nodup,List.pairwise_map];exact X) C c.1 (u.trans A.symm);rw [this]
        rw [Array.contains_push,Bool.or_eq_true,h2,beq_iff_eq,List.mem_cons,h3];exact Or.comm
      · rintro I v' h;cases h;exact ⟨rfl,e,c.1,A,rfl,seen,rfl⟩
theorem qto {n:Operand} {R B:Nat} {ps:List (Int×Value)} {j:List Int} {k:Int} {v:Value} (hit:qd ρ n= .pointer (some ⟨R,0,none⟩)) (t:RangeB w R B ps j (some (k,v)))
    (h:K (qm ρ d (.tuple #[.int .i64 k,v])) w):qr P Q d (.entry n) ty K ρ w:=by
  obtain ⟨es,l,c,seen,c0,y,i,x,z,o,A,_,m,g⟩:=t.ex;obtain ⟨rfl,e,u,p,C,s,rfl⟩:=g k v rfl;have b:=run_entry_at (P:=P) w R B c s es c0 e z y u ((stamped_iff es c0).1 i).2.1;rw [p,C] at b;refine jf (v:= .tuple #[.int .i64 k,v]) (w':=w) ?_ h;simp only [execOp,qA,hit,Sem.run_bind,b,Result.andThen_ok,Sem.run_pure]
end
end Go.Eng.I
