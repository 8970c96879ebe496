/- Lemmas for a claim about layer 2 (tree). No conditions but those they state. -/
import Derived.Test.YtbcmiempigoooaaGreatDoorBab
import Derived.Still
import Derived.Laws.Tables
import Derived.Wp
import Derived.RangeFuncRecord
import Derived.RecoverIn
set_option linter.all false
namespace Go.Eng
open Go.RowKit
inductive St where
  |asg (g:Option (Nat×Bool)) (d:Nat) (e:Ex)
  |eff (g:Option (Nat×Bool)) (dst:Option Nat) (op:Op) (type:TypeId)
inductive IR where
  |skip
  |reg (l:List St)
  |drw (l:List St)
  |seq (a b:IR)
  |cond (c:Ex) (a b:IR)
  |block (id:Nat) (a:IR)
  |loop (a:IR)
  |exit (id:Nat)
  |ret
  |raw (c:Code)
structure Ks where
  ex:Nat→qa→World→Prop
  rt:qa→World→Prop
  pn:qa→List PanicEntry→World→Prop
  og:Prop
  df:Prop
  rd:Prop
def Ks.noRd (Q:Ks):Ks:={Q with rd:=False}
def qk (ρ:qa) (d:Option Nat) (v:Value):qa:=match d with|none=>ρ|some d=>qn ρ d v
def gd (ρ:qa):Option (Nat×Bool)→Bool
  |none=>true
  |some (t,want)=>match ρ t with| .bool b=>b==want|_=>false
def qd (ρ:qa):Operand→Value
  | .tmp t=>ρ t
  |x=>QL x
def qA (dst : Option Nat) (op : Op) (type : TypeId) : Oper := { dst, op, type, pos := "", after := #[], guard := none }
def ye (P:Program) (Q:Ks) (dst:Option Nat) (K:qa→World→Prop) (ρ:qa):Result Next→Prop
  | .ok (.value v) w'=>K (qk ρ dst v) w'
  | .ok .skip w'=>K (qk ρ dst undef) w'
  | .ok (.enter f args) w'=>Calls P f args w' fun
      | .returned v,w''=>K (qk ρ dst v) w''
      | .panicked chain,w''=>Q.pn ρ chain w''
      | .outgrown,_=>Q.og
  | .ok (.round l f tmps assign body) w'=>Q.rd∧RoundIn Fence.wide 0 P l f tmps assign body w' fun
      | .returned v,w''=>K (qk ρ dst v) w''
      | .panicked chain,w''=>Q.pn ρ chain w''
      | .outgrown,_=>Q.og
  | .ok (.defer d) w'=>Q.df∧K (qk (qn ρ gS (wx d (ρ gS))) dst undef) w'
  | .halt (.panic v) w'=>Q.pn ρ [{v,recovered:=false}] w'
  |_=>False
def jV (P:Program) (Q:Ks) (dst:Option Nat) (op:Op) (type:TypeId) (K:qa→World→Prop) (ρ:qa) (w:World):Prop:=
  ye P Q dst K ρ ((execOp (qd ρ) (qA dst op type)).run P w)
def z7 (c:Option Value) (f:Value→Prop):Prop:=
  match c with
  |some v=>f v
  |none=>False
def vh (P:Program) (t:TypeId):Option (Array Value):=(P.info? t).bind fun i=>i.zero.map (·.cells)
def xX (P:Program) (t:TypeId):Option (TypeId×Nat):=
  match P.underlying t with
  |some (.slice e)=>(P.info? e).bind fun i=>if i.zero.isSome then some (e,i.size) else none
  |_=>none
def qf (P:Program) (f:FuncId):Bool:=
  match P.funcs[f]? with
  | some fn => !(fn.name == "runtime.NumGoroutine") && fn.body.isSome
  |none=>false
def jo (P:Program) (t:TypeId) (n:Nat):Bool:=match P.info? t with|some i=>i.size==n|none=>false
def kS (a:Addr):List Value→Nat→(World→Prop)→World→Prop
  |[],_,K,w=>K w
  |v::vs,i,K,w=>(∃old,w.cell? (a.add i)=some old)∧w.frozen? (a.add i)=false∧v.oneCell=true∧kS a vs (i+1) K (w.setCell (a.add i) v)
def jR (Q:Ks) (dst:Option Nat) (K:qa→World→Prop) (ρ:qa):Ending→World→Prop
  | .returned v,w''=>K (qk ρ dst v) w''
  | .panicked chain,w''=>Q.pn ρ chain w''
  | .outgrown,_=>Q.og
def yn (x:Value) (f:Addr→Prop):Prop:=match x with| .pointer (some a)=>f a|_=>False
def jF {α:Type} (c:Option α) (f:α→Prop):Prop:=match c with|some v=>f v|none=>False
def qej (P:Program) (Q:Ks) (dst:Option Nat) (op:Op) (type:TypeId) (K:qa→World→Prop) (ρ:qa) (w:World) (args:Array Operand):Callee→Prop
  | .value (.func f)=>qf P f=true∧Calls P f (args.map (qd ρ)) w (jR Q dst K ρ)
  |_=>jV P Q dst op type K ρ w
def qm (P:Program) (Q:Ks) (dst:Option Nat) (op:Op) (type:TypeId) (K:qa→World→Prop) (ρ:qa) (w:World):Prop:=
  match op with
  | .box t x=>K (qk ρ dst (.pointer (some ⟨w.heap.size,0,none⟩))) (w.alloc (.cells (qd ρ x).cells t))
  | .alloc t=>jF (vh P t) fun z=>K (qk ρ dst (.pointer (some ⟨w.heap.size,0,none⟩))) (w.alloc (.cells z t))
  | .store t p x=>jo P t (qd ρ x).cells.size=true∧yn (qd ρ p) fun a=>kS a (qd ρ x).cells.toList 0 (K (qk ρ dst undef)) w
  | .makeFunc fn fs cs=>K (qk ρ dst (.func fn (fs.map (qd ρ)) (cs.map (qd ρ)))) w
  | .build t ps=>jF (P.built t (ps.map fun p=>(p.1,qd ρ p.2)).toList) fun cells=>K (qk ρ dst (.agg cells)) w
  | .buildSlice t n ps=>jF (xX P t) fun es=>n*es.2≤1000∧ps.toList.map (·.1)=List.range n∧(∀p∈ps.toList,(qd ρ p.2).cells.size=es.2)∧
      K (qk ρ dst (.slice (some ⟨w.heap.size,0,none⟩) n n)) (w.alloc (.cells (ps.toList.flatMap fun p=>(qd ρ p.2).cells.toList).toArray es.1))
  | .call c=>qej P Q dst op type K ρ w c.args c.callee
  |op=>jV P Q dst op type K ρ w
def St.wp (P:Program) (Q:Ks):St→(qa→World→Prop)→qa→World→Prop
  | .asg g d e,K,ρ,w=>if gd ρ g then z7 (e.ev ρ w) (fun v=>K (qn ρ d v) w) else K (qn ρ d undef) w
  | .eff g dst op type,K,ρ,w=>if gd ρ g then qm P Q dst op type K ρ w else K (qk ρ dst undef) w
def qQ (P:Program) (Q:Ks):List St→(qa→World→Prop)→qa→World→Prop
  |[],K,ρ,w=>K ρ w
  |s::r,K,ρ,w=>s.wp P Q (qQ P Q r K) ρ w
def qbz (P:Program) (w0:World) (dst:Option Nat) (op:Op) (type:TypeId) (ρ:qa) (v:Value):Prop:=
  match op with
  | .call {callee:= .value (.func f),args, .. }=>qf P f=true∧∀w,qc w0 w→Calls P f (args.map (qd ρ)) w (fun e w'=>e= .returned v∧qc w0 w')
  |_=>∀w,qc w0 w→Oper.quietUpon P (qc w0) w v ((execOp (qd ρ) (qA dst op type)).run P w)
def qX (P:Program) (w0:World):List St→(qa→Prop)→qa→Prop
  |[],K,ρ=>K ρ
  | .asg g d e::r,K,ρ=>if gd ρ g then z7 (e.ev ρ w0) (fun v=>qX P w0 r K (qn ρ d v)) else qX P w0 r K (qn ρ d undef)
  | .eff g dst op type::r,K,ρ=>if gd ρ g then∃v,qbz P w0 dst op type ρ v∧qX P w0 r K (qk ρ dst v)
      else qX P w0 r K (qk ρ dst undef)
structure Cx where
  P:Program
  n:Nat
  V:List Nat
  D:List Deferred
def jQ (cx:Cx) (a:Act):Prop:=cx.D=[]→a.defers=[]
def xJ (cx:Cx) (K:qa→World→Prop) (Q:Ks):Exit→Act→World→Prop
  | .normal,a,w=>jQ cx a∧∃ρ,Agree cx.n cx.V ρ a∧K ρ w
  | .exit i,a,w=>jQ cx a∧∃ρ,Agree cx.n cx.V ρ a∧Q.ex i ρ w
  | .ret,a,w=>jQ cx a∧∃ρ,Agree cx.n cx.V ρ a∧Q.rt ρ w
  | .panic c,a,w=>jQ cx a∧∃ρ,Agree cx.n cx.V ρ a∧Q.pn ρ c w
  | .outgrown,_,_=>Q.og
  | .goto _,_,_=>False
def QM (c:Option Value) (x y:Prop):Prop:=
  match c with
  |some (.bool true)=>x
  |some (.bool false)=>y
  |_=>False
def IR.wp (cx:Cx):IR→(qa→World→Prop)→Ks→qa→World→Prop
  | .skip,K,_,ρ,w=>K ρ w
  | .reg l,K,Q,ρ,w=>qQ cx.P Q l K ρ w
  | .drw l,K,_,ρ,w=>qX cx.P w l (fun ρ'=>∀w',qc w w'→K ρ' w') ρ
  | .seq a b,K,Q,ρ,w=>a.wp cx (fun ρ' w'=>b.wp cx K Q ρ' w') Q ρ w
  | .cond c a b,K,Q,ρ,w=>QM (c.ev ρ w) (a.wp cx K Q ρ w) (b.wp cx K Q ρ w)
  | .block id a,K,Q,ρ,w=>a.wp cx K {Q with ex:=fun i=>if i=id then K else Q.ex i} ρ w
  | .loop a,_,Q,ρ,w=>∃(I:qa→World→Prop) (μ:qa→World→Nat),I ρ w∧∀ρ' w',I ρ' w'→a.wp cx (fun ρ'' w''=>I ρ'' w''∧μ ρ'' w''<μ ρ' w') Q ρ' w'
  | .exit id,_,Q,ρ,w=>Q.ex id ρ w
  | .ret,_,Q,ρ,w=>Q.rt ρ w
  | .raw c,K,Q,ρ,w=>∀a,Agree cx.n cx.V ρ a→jQ cx a→(Q.df→cx.D≠[])→c.wp cx.P (xJ cx K Q) a w
section
variable (P:Program) (ops:Array Oper) (V:List Nat)
def tg (g : Option (Nat × Bool)) (j : Nat) : Option (Option (Nat × Bool)) :=
  match g with
  |none=>some none
  |some (i,want)=>match jZ ops i with
    |some t=>if V.contains t=true∧i<j then some (some (t,want)) else none
    |none=>none
def y3 (o:Oper):Bool:=
  (o.op.operands.toList.all fun x=> !vF V x)&&(match o.op with| .select .. =>false|_=>true)&&(match o.dst with|some d=>V.contains d|none=>true)
def kk : Nat → Nat → Option (List St)
  |_,0=>some []
  |0,_+1=>none
  |fuel+1,k+1=>
    match ops[k]? with
    |none=>none
    |some o=>
      match px P ops V (k+1) k,o.dst with
      |some (e,j),some d=>if V.contains d then (tg ops V o.guard j).bind fun g=>(kk fuel j).map (· ++[.asg g d e]) else none
      |_,_=>if y3 V o then (tg ops V o.guard k).bind fun g=>(kk fuel k).map (· ++[.eff g o.dst o.op o.type]) else none
def qh2:List (Option Nat):=ops.toList.map (·.dst)
def yN:List (Option Nat)→Bool
  |[]=>true
  |none::l=>yN l
  |some d::l=> !l.contains (some d)&&yN l
def Qm (n:Nat):Bool:=yN (qh2 ops)&&ops.toList.all fun o=>match o.dst with|some d=>decide (d<n)|none=>true
end
def qN (P : Program) (n : Nat) (V : List Nat) (rawIds : List Nat) : Code → Option IR
  | .skip=>some .skip
  | .region id ops draw=>
    if rawIds.contains id then some (.raw (.region id ops draw)) else
    if Qm ops n then
      match kk P ops V ops.size ops.size with
      |none=>none
      |some l=>if draw then (if Region.lexB .any ops&&P.follows .mixedOrders then some (.drw l) else none) else some (.reg l)
    else none
  | .seq a b=>match qN P n V rawIds a,qN P n V rawIds b with
    |some x,some y=>some (.seq x y)
    |_,_=>none
  | .cond c a b=>if vF V c then none else match qN P n V rawIds a,qN P n V rawIds b with
    |some x,some y=>some (.cond (xL c) x y)
    |_,_=>none
  | .block id a=>match qN P n V rawIds a with
    |some x=>some (.block id x)
    |none=>none
  | .loop a=>match qN P n V rawIds a with
    |some x=>some (.loop x)
    |none=>none
  | .exit id=>some (.exit id)
  | .ret=>some .ret
  |c=>some (.raw c)
theorem qkk {P:Program} {f:FuncId} (h:qf P f=true) {ρ:qa} {args:Array Operand} {a:Array TypeId} {dst:Option Nat} {type:TypeId} (w:World):
    (execOp (qd ρ) (qA dst (.call {callee:= .value (.func f),args,argTypes:=a}) type)).run P w= .ok (.enter f (args.map (qd ρ))) w:=by
  unfold qf at h;split at h
  · rename_i fn e;simp only [Bool.and_eq_true,Bool.not_eq_true',beq_eq_false_iff_ne,ne_eq] at h;cases b:fn.body with
    |none=>simp [b] at h
    |some c=>simp [execOp,qA,resolve,qd,QL,Deferred.ofValue,invoke,callFunc,e,h.1,b]
  · cases h
theorem qfz {P:Program} (a:Addr):∀(vs:List Value) (i:Nat) (K:World→Prop) (w:World),kS a vs i K w→∃w',(storeCells a vs i).run P w= .ok () w'∧K w'
  |[],i,K,w,h=>⟨w,by simp [storeCells],h⟩
  | v :: vs, i, K, w, h => by
    obtain ⟨⟨old,e⟩,c,k,l⟩:=h;obtain ⟨w',b,j⟩:=qfz (P:=P) a vs (i+1) K _ l;refine ⟨w', ?_,j⟩;simp only [storeCells,Sem.run_bind];have g:(store (a.add i) v).run P w= .ok () (w.setCell (a.add i) v):=by
      cases v<;>first|(cases k;done)|simp [store,Sem.run,e,c]
    rw [g];simpa using b
theorem qpJ (size : Nat) : ∀ (ps : List (Nat × Value)) (k : Nat) (a cells : List Value), ps.map (·.1) = List.range' k ps.length → (∀ p ∈ ps, p.2.cells.size = size) → a.length = k * size → cells.length = ps.length * size →
    Instr.fill (fun i=>some (i*size,size)) (a++cells).toArray ps=some (a++ps.flatMap fun p=>p.2.cells.toList).toArray
  |[],k,a,cells,_,_,_,q=>by
    have:cells=[]:=by simpa using q
    subst this;simp [Instr.fill]
  | (i, v) :: ps, k, a, cells, j, hs, g, q => by
    simp only [List.map_cons,List.length_cons,List.range'_succ,List.cons.injEq] at j;obtain ⟨rfl,j⟩:=j;have m:v.cells.size=size:=hs (i,v) (by simp);simp only [Instr.fill];have e:cells.length=(ps.length+1)*size:=by simpa using q
    have t:size≤cells.length:=by rw [e,Nat.add_mul];omega
    rw [if_neg (by
      simp only [m,ne_eq,not_true_eq_false,decide_false,Bool.false_or,decide_eq_true_eq,List.size_toArray,List.length_append,g];omega)]
    have key:∀(l:List Value) (o:Nat) (arr:Array Value),(l.zipIdx o).foldl (fun cs (x:Value×Nat)=>cs.setIfInBounds (i*size+x.2) x.1) arr=arr→True:=fun _ _ _ _=>trivial
    have s:∀(l:List Value) (o:Nat) (b rest:List Value),b.length=o→l.length≤rest.length→
        (l.zipIdx o).foldl (fun cs (x:Value×Nat)=>cs.setIfInBounds (i*size+x.2) x.1) (a++b++rest).toArray=(a++b++l++rest.drop l.length).toArray:=by
      intro l
      induction l with
      |nil=>intro o b rest _ _;simp
      |cons c l C=>
        intro o b rest z u;cases rest with
        |nil=>simp at u
        |cons r rest=>
          simp only [List.zipIdx_cons,List.foldl_cons];have h:(a++b++r::rest).toArray.setIfInBounds (i*size+o) c=(a++(b++[c])++rest).toArray:=by
            simp only [List.setIfInBounds_toArray];congr 1;rw [List.append_assoc,List.set_append_right _ _ (by rw [g];omega),g,show i*size+o - i*size=o by omega,List.set_append_right _ _ (by omega),z];simp
          rw [h,C (o+1) (b++[c]) rest (by simp [z]) (by simpa using u)];simp
    have y:=s v.cells.toList 0 [] cells rfl (by simpa [m] using t);simp only [List.append_nil] at y;have B:v.cells.zipIdx.foldl (fun cs (x:Value×Nat)=>cs.setIfInBounds (i*size+x.2) x.1) (a++cells).toArray=(a++v.cells.toList++cells.drop size).toArray:=by
      rw [←Array.foldl_toList];simpa [m] using y
    have A:=qpJ size ps (i+1) (a++v.cells.toList) (cells.drop size) j (fun p g=>hs p (by simp [g])) (by simp [g,m,Nat.add_mul]) (by simp [e,Nat.add_mul]);rw [B,A];simp
theorem qtJ {P:Program} {t e:TypeId} {size:Nat} (h:xX P t=some (e,size)) {n:Nat} (C:n*size≤1000) {ps:Array (Nat×Value)} (s:ps.toList.map (·.1)=List.range n) (u:∀p∈ps.toList,p.2.cells.size=size) (w:World):
    (Instr.buildSlice t n ps).run P w= .ok (.slice (some ⟨w.heap.size,0,none⟩) n n) (w.alloc (.cells (ps.toList.flatMap fun p=>p.2.cells.toList).toArray e)):=by
  unfold xX at h;split at h
  · rename_i B x;obtain ⟨i,c,o⟩:=Option.bind_eq_some_iff.1 h;obtain ⟨zv,g⟩:∃zv,i.zero=some zv:=by
      cases A:i.zero with
      |none=>simp [A] at o
      |some z=>exact ⟨z,rfl⟩
    simp only [g,Option.isSome_some,if_true,Option.some.injEq,Prod.mk.injEq] at o;obtain ⟨rfl,rfl⟩:=o;have b:ps.toList.length=n:=by have:=congrArg List.length s;simpa using this
    have l:¬(n*i.size>2^24):=by omega
    have q:(zeroValue B).run P w= .ok zv w:=by simp [zeroValue,qfD c,g]
    have a:∀cells:Array Value,cells.size=n*i.size→Instr.fill (fun j=>some (j*i.size,i.size)) cells ps.toList=some (ps.toList.flatMap fun p=>p.2.cells.toList).toArray:=by
      intro cells v;have:=qpJ i.size ps.toList 0 [] cells.toList (by rw [s,b,List.range_eq_range']) u (by simp) (by simp [v,b]);simpa using this
    simp only [Instr.buildSlice,Sem.run_bind,run_underlying x,Result.andThen_ok,Qk c,if_neg l];by_cases k:n*i.size=0
    · have y:∀f:Nat→Value,(Array.range 0).map f= #[]:=fun _=>by simp [Array.range]
      have m:=a #[] (by simp [k]);simp only [k,if_true,y,m];simp [newRow]
    · simp only [k,if_false,Sem.run_bind,q,Result.andThen_ok,Sem.run_pure];have m:=a ((Array.range (n*i.size)).map fun j=>zv.cells[j%zv.cells.size]!) (by simp);simp only [m];simp [newRow]
  · cases h
theorem qua {P:Program} {a:World} {dst:Option Nat} {op:Op} {type:TypeId} {ρ:qa} {v:Value} (h:qbz P a dst op type ρ v):
    ∀w,qc a w→Oper.quietUpon P (qc a) w v ((execOp (qd ρ) (qA dst op type)).run P w):=by
  unfold qbz at h;split at h
  · rename_i f args b;intro w c;rw [qkk h.1];exact ⟨rfl,h.2 w c⟩
  · exact h
theorem jk {P:Program} {Q:Ks} {dst:Option Nat} {op:Op} {type:TypeId} {K:qa→World→Prop} {ρ:qa} {w w':World} {v:Value}
    (h:(execOp (qd ρ) (qA dst op type)).run P w= .ok (.value v) w') (a:K (qk ρ dst v) w'):jV P Q dst op type K ρ w:=by unfold jV;rw [h];exact a
theorem qp1 {P : Program} {Q : Ks} {dst : Option Nat} {op : Op} {type : TypeId} {K : qa → World → Prop} {ρ : qa} {w : World} (h : qm P Q dst op type K ρ w) : jV P Q dst op type K ρ w := by
  unfold qm at h;split at h
  · refine jk ?_ h;simp [execOp,qA,Instr.box,newVar,newRow]
  · rename_i t;unfold jF at h;split at h
    · rename_i z u;simp only [vh,Option.bind_eq_some_iff,Option.map_eq_some_iff] at u;obtain ⟨i,s,zv,l,rfl⟩:=u;refine jk ?_ h;have o:∀w,(zeroValue t).run P w= .ok zv w:=fun w=>by simp [zeroValue,qfD s,l]
      simp [execOp,qA,Instr.alloc,o,newVar,newRow]
    · cases h
  · rename_i t p x;obtain ⟨g,b⟩:=h;unfold yn at b;split at b
    · rename_i a F;unfold jo at g;split at g
      · rename_i i s;obtain ⟨w',v,E⟩:=qfz (P:=P) a _ 0 _ w b;have k:(qd ρ x).cells.size=i.size:=
          (show i.size=(qd ρ x).cells.size by simpa using g).symm
        have:(execOp (qd ρ) (qA dst (.store t p x) type)).run P w= .ok .skip w':=by
          simp [execOp,qA,Instr.storeAt,F,Instr.sureAddr,storeVar,Qk s,k,v]
        unfold jV;rw [this];exact E
      · cases g
    · cases b
  · refine jk ?_ h;simp [execOp,qA,Instr.makeFunc]
  · rename_i t ps;unfold jF at h;split at h
    · rename_i cells j;refine jk ?_ h;have:=run_build (P:=P) w t (ps.map fun p=>(p.1,qd ρ p.2)) cells j;simp [execOp,qA,this]
    · cases h
  · rename_i t n ps;unfold jF at h;split at h
    · rename_i es m;obtain ⟨e,size⟩:=es;obtain ⟨I,C,y,B⟩:=h;refine jk ?_ B;have:=qtJ (P:=P) m I (ps:=ps.map fun p=>(p.1,qd ρ p.2)) (by simp only [Array.toList_map,List.map_map];exact C)
        (fun p b=>by
          simp only [Array.toList_map,List.mem_map] at b;obtain ⟨q,A,rfl⟩:=b;exact y q A) w
      simp only [execOp,qA,Sem.run_bind,this,Result.andThen_ok,Sem.run_pure];simp [List.flatMap_map]
    · cases h
  · rename_i c;unfold qej at h;split at h
    · rename_i f j;obtain ⟨callee,args,H⟩:=c;simp only at j h;subst j;unfold jV;rw [qkk h.1];exact h.2
    · exact h
  · exact h
theorem qli : ∀ (l : List (Option Nat)), yN l = true → ∀ (i b t : Nat), l[i]? = some (some t) → l[b]? = some (some t) → i = b
  |[],_,i,_,_,h,_=>by simp at h
  | x :: l, h, i, b, t, e, a => by
    have k:yN l=true:=by
      cases x with
      |none=>simpa [yN] using h
      |some d=>simp only [yN,Bool.and_eq_true] at h;exact h.2
    have c:x=some t→∀j:Nat,l[j]? ≠some (some t):=by
      rintro rfl j g;simp only [yN,Bool.and_eq_true,Bool.not_eq_true',List.contains_eq_mem,decide_eq_false_iff_not] at h;exact h.1 (List.mem_of_getElem? g)
    cases i with
    |zero=>
      simp only [List.getElem?_cons_zero,Option.some.injEq] at e;cases b with
      |zero=>rfl
      |succ b=>simp only [List.getElem?_cons_succ] at a;exact absurd a (c e b)
    |succ i=>
      simp only [List.getElem?_cons_succ] at e;cases b with
      |zero=>simp only [List.getElem?_cons_zero,Option.some.injEq] at a;exact absurd e (c a i)
      |succ b=>
        simp only [List.getElem?_cons_succ] at a;rw [qli l k i b t e a]
theorem qbx {ops:Array Oper} {n:Nat} (h:Qm ops n=true):Region1 n ops:=by
  simp only [Qm,Bool.and_eq_true,List.all_eq_true] at h;have key:∀i t,jZ ops i=some t→(qh2 ops)[i]? =some (some t):=by
    intro i t a;simp only [jZ,Option.bind_eq_some_iff] at a;obtain ⟨o,c,b⟩:=a;simp [qh2,c,b]
  refine ⟨fun i g t a e=>qli _ h.1 i g t (key i t a) (key g t e),fun i t a=> ?_⟩;simp only [jZ,Option.bind_eq_some_iff] at a;obtain ⟨o,c,b⟩:=a;have:=h.2 o (by rw [Array.mem_toList_iff];exact Array.mem_of_getElem? c);simpa [b] using this
theorem qV (w:World):qc w w:=Below.refl _ _
def fc (ro:Option Nat):Fence:={Fence.wide with round:=ro}
def qcm (ro:Option Nat) (ops:Array Oper):Prop:=ro=none∨∀(i:Nat) (o:Oper),ops[i]? =some o→∀c:Call,o.op≠ .defer c
theorem qj5 {ro:Option Nat} {ops:Array Oper} (h:qcm ro ops) {i:Nat} {o:Oper} (a:ops[i]? =some o) (f:Operand→Value):Oper.semAt (fc ro).round f o=execOp f o:=by
  rcases h with rfl|h
  · rfl
  · exact Oper.semAt_eq _ _ _ (h i o a)
theorem qAQ {ro:Option Nat} {n:Nat} {P:Program} {f:FuncId} {args:Array Value} {w:World} {R:Ending→World→Prop} (h:Calls P f args w R):CallsIn (fc ro) n P f args w R:=
  (callsIn_wide (n:=n)).2 h
theorem qtZ {ro:Option Nat} {n:Nat} {P:Program} {l f:Nat} {tmps:Array Value} {as bd:Code} {w:World} {R:Ending→World→Prop} (h:RoundIn Fence.wide 0 P l f tmps as bd w R):RoundIn (fc ro) n P l f tmps as bd w R:=
  ⟨trivial,fun c cs _=>h.2 c cs (room_wide _)⟩
theorem qa8 {ro : Option Nat} {P : Program} {ops : Array Oper} (b : qcm ro ops) {w : World} {Q : Exit → Act → World → Prop} : ∀ (l : List Nat) (a : Act) (K : Act → Prop), (∀ a, K a → Q .normal a w) → PS P w ops l a K → wpOpsIn (fc ro) 0 P ops Q l a w
  |[],_,_,c,h=>c _ h
  | i :: l, a, K, c, h => by
    simp only [PS] at h;simp only [wpOpsIn];split
    · rename_i e;simp only [e] at h;exact qa8 b l a K c h
    · rename_i o e;simp only [e] at h;split
      · rename_i g;simp only [g,if_true] at h;obtain ⟨v,k,j⟩:=h;simp only [Oper.wpIn,qj5 b e,k w (qV w),Oper.uponIn];exact ⟨fun _ _=>trivial,qa8 b l _ K c j⟩
      · rename_i g;simp only [g] at h;exact ⟨fun _ _=>trivial,qa8 b l _ K c (by simpa using h)⟩
theorem yy {F : Fence} {P : Program} {ops : Array Oper} {Q : Exit → Act → World → Prop} : ∀ (l m : List Nat) (a : Act) (w : World),
    wpOpsIn F 0 P ops (Exit.then (wpOpsIn F 0 P ops Q m) Q) l a w→wpOpsIn F 0 P ops Q (l++m) a w
  |[],_,_,_,h=>h
  | i :: l, m, a, w, h => by
    simp only [List.cons_append,wpOpsIn] at h⊢;split
    · rename_i e;simp only [e] at h;exact yy l m a w h
    · rename_i o e;simp only [e] at h;split
      · rename_i g;simp only [g,if_true] at h;simp only [Oper.wpIn] at h⊢;refine ⟨h.1, ?_⟩
        replace h:=h.2
        generalize (Oper.semAt F.round a.eval o).run P w=r at h⊢;cases r with
        |ok x w'=>
          cases x<;>simp only [Oper.uponIn] at h⊢ <;>first|exact h|exact yy l m _ _ h|skip
          · refine ⟨h.1,h.2.mono fun e j b=> ?_⟩;cases e with
            |returned v=>exact yy l m _ _ b
            |panicked c=>exact b
            |outgrown=>exact b
          · refine ⟨h.1,h.2.mono fun e j b=> ?_⟩;cases e with
            |returned v=>exact yy l m _ _ b
            |panicked c=>exact b
            |outgrown=>exact b
          · exact ⟨h.1,h.2.mono fun v j b=>yy l m _ _ b⟩
        |halt x w'=>cases x<;>simp only [Oper.uponIn] at h⊢ <;>exact h
      · rename_i g;simp only [g] at h;refine ⟨?_,yy l m _ _ ?_⟩
        · exact (by simpa using h:_∧_).1
        · exact (by simpa using h:_∧_).2
theorem qcp {F : Fence} {P : Program} {ops : Array Oper} {Q1 Q2 : Exit → Act → World → Prop} (k : ∀ e a w, Q1 e a w → Q2 e a w) : ∀ l a w, wpOpsIn F 0 P ops Q1 l a w → wpOpsIn F 0 P ops Q2 l a w := by
  intro l
  induction l with
  |nil=>intro a w h;exact k _ _ _ h
  |cons i l b=>
    intro a w h;simp only [wpOpsIn] at h⊢;split
    · rename_i q;simp only [q] at h;exact b _ _ h
    · rename_i t q;simp only [q] at h;split
      · rename_i j;simp only [j,if_true] at h;simp only [Oper.wpIn] at h⊢;refine ⟨h.1, ?_⟩
        replace h:=h.2
        generalize (Oper.semAt F.round a.eval t).run P w=r at h⊢;cases r with
        |ok x w'=>
          cases x<;>simp only [Oper.uponIn] at h⊢ <;>first|exact h|exact b _ _ h|skip
          · refine ⟨h.1,h.2.mono fun e s g=> ?_⟩;cases e with
            |returned v=>exact b _ _ g
            |panicked c=>exact k _ _ _ g
            |outgrown=>obtain ⟨a0,m,o⟩:=g;exact ⟨a0,m,k _ _ _ o⟩
          · refine ⟨h.1,h.2.mono fun e s g=> ?_⟩;cases e with
            |returned v=>exact b _ _ g
            |panicked c=>exact k _ _ _ g
            |outgrown=>obtain ⟨a0,m,o⟩:=g;exact ⟨a0,m,k _ _ _ o⟩
          · exact ⟨h.1,h.2.mono fun v s g=>b _ _ g⟩
        |halt x w'=>cases x<;>simp only [Oper.uponIn] at h⊢ <;>first|exact k _ _ _ h|exact h
      · rename_i j;simp only [j] at h;refine ⟨?_,b _ _ ?_⟩
        · exact (by simpa using h:_∧_).1
        · exact (by simpa using h:_∧_).2
theorem Agree.put {n:Nat} {V:List Nat} {ρ:qa} {a:Act} (h:Agree n V ρ a) {d:Nat} (b:d∈V) (v:Value):Agree n V (qn ρ d v) (a.put (some d) v):=by
  refine ⟨by simp [Act.put,h.size], ?_,h.lt,h.big⟩;have c:=h.lt d b;have g:=h.ne b;rw [h.env];funext i;simp only [qn,kp,Act.put];by_cases j:i=d
  · subst j;simp [b,h.size,c,Array.getD_eq_getD_getElem?,g]
  · have:d≠i:=fun e=>j e.symm;simp [j,Array.getD_eq_getD_getElem?,this]
theorem Agree.putO {n:Nat} {V:List Nat} {ρ:qa} {a:Act} (h:Agree n V ρ a) {d:Option Nat} (b:∀t,d=some t→t∈V) (v:Value):Agree n V (qk ρ d v) (a.put d v):=by
  cases d with
  |none=>exact h
  |some d=>exact h.put (b d rfl) v
theorem wr (a:Act) (d:Option Nat) (v:Value):(a.put d v).defers=a.defers:=by cases d<;>rfl
theorem qaK {n : Nat} {V : List Nat} {ρ : qa} {a : Act} {ops : Array Oper} {g : Option (Nat × Bool)} {j : Nat} {s : Option (Nat × Bool)} (h : Agree n V ρ a) (b : tg ops V g j = some s) :
    jP ops g a=gd ρ s∧vV g j=true:=by
  unfold tg at b;split at b
  · cases b;exact ⟨rfl,rfl⟩
  · rename_i i q;split at b
    · rename_i t u;split at b
      · rename_i v;obtain ⟨x,l⟩:=v;cases b;have c:t∈V:=by simpa using x
        have k:=h.lt t c;refine ⟨?_,by simpa [vV] using l⟩;have o:((ops[i]?).bind (·.dst))=some t:=u;have m:ρ t=a.tmps.getD t undef:=h.at c;have e:t<a.tmps.size:=by rw [h.size];exact k
        simp only [jP,gd,yielded,o,Option.bind_some,m,Array.getD_eq_getD_getElem?,Array.getElem?_eq_getElem e,Option.getD_some];cases a.tmps[t] <;>simp
      · cases b
    · cases b
theorem Agree.root {n : Nat} {V : List Nat} {ρ : qa} {a t : Act} {ops : Array Oper} {j k : Nat} {o : Oper} (h : Agree n V ρ a) (m : Fr ops j (k + 1) a t) (b : qa4 ops V j k) (y : ops[k]? = some o) {d : Nat}
    (A:o.dst=some d) (c:d∈V) {v:Value} (B:t.tmps[d]? =some v):Agree n V (qn ρ d v) t:=by
  refine ⟨m.size.trans h.size, ?_,h.lt,h.big⟩;have g:=h.ne c;rw [h.env];funext i;simp only [qn,kp,m.defers];by_cases s:i=d
  · subst s;simp [c,Array.getD_eq_getD_getElem?,B,g]
  · simp only [s,if_false];split
    · rfl
    split
    · rename_i l;have:=m.keep i fun x z u e=>by
        by_cases q:x=k
        · subst q;have:jZ ops x=some d:=by simp [jZ,y,A]
          rw [this] at e;cases e;exact s rfl
        · exact b x z (by omega) i e l
      simp only [Array.getD_eq_getD_getElem?,this]
    · rfl
theorem qzJ (f:Operand→Value) (o:Oper):execOp f o=execOp f (qA o.dst o.op o.type):=by
  obtain ⟨dst,op,type,pos,after,guard⟩:=o;cases op<;>rfl
theorem qht {n:Nat} {V:List Nat} {ρ:qa} {a:Act} {o:Oper} (h:Agree n V ρ a) (c:y3 V o=true):execOp a.eval o=execOp (qd ρ) (qA o.dst o.op o.type):=by
  rw [←qzJ];simp only [y3,Bool.and_eq_true,List.all_eq_true] at c;refine execOp_congr o (fun cs b e=> ?_) fun x j=> ?_
  · rw [e] at c;exact absurd c.1.2 (by simp)
  · have:=c.1.1 x (by simpa using j);cases x with
    |tmp t=>
      have i:t∈V:=by simpa [vF] using this
      simp [qd,h.at i,Act.eval]
    |const v=>rfl
    |global g=>rfl
    |func f=>rfl
theorem qhG {V:List Nat} {o:Oper} (a:y3 V o=true):∀t,o.dst=some t→t∈V:=by
  intro t b;simp only [y3,Bool.and_eq_true] at a;have:=a.2;rw [b] at this;simpa using this
section
variable {P:Program} {ops:Array Oper} {V:List Nat} {n:Nat}
theorem qa7 (Q:Ks):∀(l m:List St) (K:qa→World→Prop) (ρ:qa) (w:World),qQ P Q (l++m) K ρ w=qQ P Q l (qQ P Q m K) ρ w
  |[],_,_,_,_=>rfl
  |s::l,m,K,ρ,w=>by
    have:qQ P Q (l++m) K=qQ P Q l (qQ P Q m K):=by funext ρ w;exact qa7 Q l m K ρ w
    simp only [List.cons_append,qQ,this]
theorem Agree.defer {n:Nat} {V:List Nat} {ρ:qa} {a:Act} (h:Agree n V ρ a) (d:Deferred):Agree n V (qn ρ gS (wx d (ρ gS))) {a with defers:=d::a.defers}:=by
  refine ⟨h.size, ?_,h.lt,h.big⟩;rw [h.ds,qAw,h.env];funext i;simp only [qn,kp];split
  · rfl
  · rfl
theorem qcM (cx : Cx) (hP : cx.P = P) (hV : cx.V = V) (hn : cx.n = n) (hr : Region1 n ops) {ro : Option Nat} (F : qcm ro ops) (Q : Ks) (Q' : Exit → Act → World → Prop)
    (hpn:∀ρ c a w,jQ cx a→Agree n V ρ a→Q.pn ρ c w→Q' (.panic c) a w) (J:Q.og→LetsOut Q') (R:Q.df→cx.D≠[]):
    ∀(t k:Nat) (l:List St),kk P ops V t k=some l→∀(K:qa→World→Prop) (ρ:qa) (a:Act) (w:World),Agree n V ρ a→jQ cx a→qQ P Q l K ρ w→
      wpOpsIn (fc ro) 0 P ops (Exit.then (fun A w'=>jQ cx A∧∃m,Agree n V m A∧K m w') Q') (List.range' 0 k) a w
  |t,0,l,h,K,ρ,a,w,ha,hD,hw=>by
    have:l=[]:=by cases t<;>simpa [kk] using h.symm
    subst this;exact ⟨hD,ρ,ha,hw⟩
  |0,k+1,l,h,_,_,_,_,_,_,_=>by simp [kk] at h
  | t + 1, k + 1, l, h, K, ρ, a, w, ha, hD, hw => by
    simp only [kk] at h;split at h
    · cases h
    · rename_i o X;split at h
      ·
        rename_i e j d hpx hd;split at h
        · rename_i hdV;have O:d∈V:=by simpa using hdV
          simp only [Option.bind_eq_some_iff,Option.map_eq_some_iff] at h;obtain ⟨g,hg,l',S,rfl⟩:=h;have sx:=qc6 hr _ _ _ _ hpx;have lj:=sx.le;have z:List.range' 0 (k+1)=List.range' 0 j++List.range' j (k+1 - j):=by
            have:=Qp (i:=0) (j:=j) (k:=k+1) (by omega) (by omega);simpa using this
          rw [z];refine yy _ _ _ _ ?_;have ih:=qcM cx hP hV hn hr F Q (Exit.then (wpOpsIn (fc ro) 0 P ops (Exit.then (fun A w'=>jQ cx A∧∃m,Agree n V m A∧K m w') Q') (List.range' j (k+1 - j))) Q')
            (fun ρ c a w s h2 h3=>hpn ρ c a w s h2 h3) (fun s=>J s) R t j l' S (qQ P Q [.asg g d e] K) ρ a w ha hD (by rw [←qa7];exact hw)
          refine qcp ?_ _ _ _ ih;intro ex L w1 s;cases ex with
          |normal=>
            obtain ⟨B,y,q,b⟩:=s;obtain ⟨I,hglt⟩:=qaK q hg;simp only [Exit.then];simp only [qQ,St.wp,z7] at b;by_cases u:gd y g=true
            · simp only [u,if_true] at b;cases U:e.ev y w1 with
              |none=>simp only [U] at b
              |some v=>
                simp only [U] at b;exact qa8 F _ L (fun A=>jQ cx A∧∃m,Agree n V m A∧K m w1) (fun _ h=>h)
                  (sx.yes o X y w1 L v q (by rw [I];exact u) U _ fun A Y hv=>⟨fun e=>Y.defers.trans (B e),qn y d v,q.root Y sx.free X hd O (hv d hd),b⟩)
            · simp only [u] at b;exact qa8 F _ L (fun A=>jQ cx A∧∃m,Agree n V m A∧K m w1) (fun _ h=>h)
                (sx.no o X w1 L q.size (by rw [I];simpa using u) _ fun A Y hv=>⟨fun e=>Y.defers.trans (B e),qn y d undef,q.root Y sx.free X hd O (hv d hd),by simpa using b⟩)
          |exit i=>exact s
          |goto i=>exact s
          |ret=>exact s
          |panic c=>exact s
          |outgrown=>exact s
        · cases h
      ·
        split at h
        · rename_i hok;simp only [Option.bind_eq_some_iff,Option.map_eq_some_iff] at h;obtain ⟨g,hg,l',S,rfl⟩:=h;have z:List.range' 0 (k+1)=List.range' 0 k++[k]:=by
            have:=yI (j:=0) (k:=k) (by omega);simpa using this
          rw [z];refine yy _ _ _ _ ?_;have ih:=qcM cx hP hV hn hr F Q (Exit.then (wpOpsIn (fc ro) 0 P ops (Exit.then (fun A w'=>jQ cx A∧∃m,Agree n V m A∧K m w') Q') [k]) Q')
            (fun ρ c a w s h2 h3=>hpn ρ c a w s h2 h3) (fun s=>J s) R t k l' S (qQ P Q [.eff g o.dst o.op o.type] K) ρ a w ha hD (by rw [←qa7];exact hw)
          refine qcp ?_ _ _ _ ih;intro ex L w1 s;cases ex with
          |normal=>
            obtain ⟨B,y,q,b⟩:=s;obtain ⟨I,_⟩:=qaK q hg;have E:=qhG hok;have hex:=qht q hok;simp only [Exit.then,wpOpsIn,X,yA];simp only [qQ,St.wp] at b;by_cases u:gd y g=true
            · simp only [u,if_true] at b;have H:jP ops o.guard L=true:=by rw [I];exact u
              simp only [H,if_true];have b:=qp1 b;unfold jV at b;have C:∀v Z,K (qk y o.dst v) Z→Exit.then (fun A w'=>jQ cx A∧∃m,Agree n V m A∧K m w') Q' .normal (L.put o.dst v) Z:=
                fun v Z hk=>⟨fun e=>(wr _ _ _).trans (B e),_,q.putO E v,hk⟩
              refine ⟨fun _ _=>trivial, ?_⟩;rw [qj5 F X,hex];generalize (execOp (qd y) (qA o.dst o.op o.type)).run P w1=r at b;cases r with
              |ok x w'=>
                cases x<;>simp only [ye,Oper.uponIn] at b⊢ <;>first|exact C _ _ b|(cases b;done)|skip
                · refine ⟨fun h0=>(by cases h0),qAQ (b.mono fun e Z W=> ?_)⟩;cases e with
                  |returned v=>exact C _ _ W
                  |panicked c=>exact hpn _ _ _ _ B q W
                  |outgrown=>exact J W
                · refine ⟨fun h0=>(by cases h0),qtZ (b.2.mono fun e Z W=> ?_)⟩;cases e with
                  |returned v=>exact C _ _ W
                  |panicked c=>exact hpn _ _ _ _ B q W
                  |outgrown=>exact J W
                · refine ⟨fun e=>absurd e (R b.1),_,(q.defer _).putO E undef,b.2⟩
              |halt x w'=>
                cases x<;>simp only [ye,Oper.uponIn] at b⊢ <;>first|(cases b;done)|exact hpn _ _ _ _ B q b
            · simp only [u] at b;have H:jP ops o.guard L=false:=by rw [I];simpa using u
              simp only [H,Bool.false_eq_true,if_false];exact ⟨fun _ _=>trivial,fun e=>(wr _ _ _).trans (B e),_,q.putO E undef,by simpa using b⟩
          |exit i=>exact s
          |goto i=>exact s
          |ret=>exact s
          |panic c=>exact s
          |outgrown=>exact s
        · cases h
end
section
variable {P:Program} {ops:Array Oper} {V:List Nat} {n:Nat}
def QS (P : Program) (C : World → Prop) (ops : Array Oper) : List Nat → Act → (Act → Prop) → Prop
  |[],a,K=>K a
  |i::is,a,K=>match ops[i]? with
    |none=>QS P C ops is a K
    |some o=>if Region.wanted o (yielded ops a.tmps) then o.quiet P a C (fun a'=>QS P C ops is a' K) else QS P C ops is (a.put o.dst undef) K
theorem qck {C : World → Prop} : ∀ (l m : List Nat) (a : Act) (K : Act → Prop), QS P C ops l a (fun c => QS P C ops m c K) → QS P C ops (l ++ m) a K
  |[],_,_,_,h=>h
  | i :: l, m, a, K, h => by
    simp only [List.cons_append,QS] at h⊢;split
    · rename_i e;simp only [e] at h;exact qck l m a K h
    · rename_i o e;simp only [e] at h;split
      · rename_i b;simp only [b,if_true] at h;exact Oper.quiet_mono (fun c g=>qck l m c K g) h
      · rename_i b;simp only [b] at h;exact qck l m _ K (by simpa using h)
theorem qa2 {C : World → Prop} : ∀ (l : List Nat) (a : Act) (K K' : Act → Prop), (∀ a, K a → K' a) → QS P C ops l a K → QS P C ops l a K'
  |[],_,_,_,b,h=>b _ h
  | i :: l, a, K, K', b, h => by
    simp only [QS] at h⊢;split
    · rename_i e;simp only [e] at h;exact qa2 l a K K' b h
    · rename_i o e;simp only [e] at h;split
      · rename_i c;simp only [c,if_true] at h;exact Oper.quiet_mono (fun j g=>qa2 l j K K' b g) h
      · rename_i c;simp only [c] at h;exact qa2 l _ K K' b (by simpa using h)
theorem qeA {w : World} : ∀ (l : List Nat) (a : Act) (K : Act → Prop), PS P w ops l a K → QS P (qc w) ops l a K
  |[],_,_,h=>h
  | i :: l, a, K, h => by
    simp only [PS] at h;simp only [QS];split
    · rename_i e;simp only [e] at h;exact qeA l a K h
    · rename_i o e;simp only [e] at h;split
      · rename_i b;simp only [b,if_true] at h;obtain ⟨v,g,j⟩:=h;refine ⟨v,fun w' c=> ?_,qeA l _ K j⟩;simp [Oper.quietAt,g w' c,Oper.quietUpon]
      · rename_i b;simp only [b] at h;exact qeA l _ K (by simpa using h)
theorem qeH {C:World→Prop}:∀(l:List Oper) (k:Nat) (a:Act) (K:Act→Prop),(∀j,l[j]? =ops[k+j]?)→QS P C ops (List.range' k l.length) a K→wpQuiet P ops C K l a
  |[],_,_,_,_,h=>h
  | o :: l, k, a, K, e, h => by
    have g:ops[k]? =some o:=by simpa using (e 0).symm
    have b:∀j,l[j]? =ops[k+1+j]? :=fun j=>by have:=e (j+1);simpa [Nat.add_assoc,Nat.add_comm 1 j] using this
    simp only [List.length_cons,List.range'_succ,QS,g] at h;simp only [wpQuiet];split
    · rename_i c;simp only [c,if_true] at h;exact Oper.quiet_mono (fun m i=>qeH l (k+1) m K b i) h
    · rename_i c;simp only [c] at h;exact qeH l (k+1) _ K b (by simpa using h)
theorem qc5 (w:World):∀(l m:List St) (K:qa→Prop) (ρ:qa),qX P w (l++m) K ρ=qX P w l (qX P w m K) ρ
  |[],_,_,_=>rfl
  | .asg g d e::l,m,K,ρ=>by
    simp only [List.cons_append,qX,qc5 w l m K]
  | .eff g dst op type::l,m,K,ρ=>by
    simp only [List.cons_append,qX,qc5 w l m K]
theorem qfQ (cx : Cx) (X : Region1 n ops) (w : World) :
    ∀(m k:Nat) (l:List St),kk P ops V m k=some l→∀(K:qa→Prop) (ρ:qa) (a:Act),Agree n V ρ a→jQ cx a→qX P w l K ρ→
      QS P (qc w) ops (List.range' 0 k) a (fun W=>jQ cx W∧∃E,Agree n V E W∧K E)
  |m,0,l,h,K,ρ,a,R,S,U=>by
    have:l=[]:=by cases m<;>simpa [kk] using h.symm
    subst this;exact ⟨S,ρ,R,U⟩
  |0,k+1,l,h,_,_,_,_,_,_=>by simp [kk] at h
  | m + 1, k + 1, l, h, K, ρ, a, R, S, U => by
    simp only [kk] at h;split at h
    · cases h
    · rename_i o F;split at h
      · rename_i e j d hpx Q;split at h
        · rename_i Z;have z:d∈V:=by simpa using Z
          simp only [Option.bind_eq_some_iff,Option.map_eq_some_iff] at h;obtain ⟨g,Y,l',B,rfl⟩:=h;have I:=qc6 X _ _ _ _ hpx;have lj:=I.le;have s:List.range' 0 (k+1)=List.range' 0 j++List.range' j (k+1 - j):=by
            have:=Qp (i:=0) (j:=j) (k:=k+1) (by omega) (by omega);simpa using this
          rw [s];refine qck _ _ _ _ ?_;refine qa2 _ _ _ _ ?_ (qfQ cx X w m j l' B (qX P w [.asg g d e] K) ρ a R S (by rw [←qc5];exact U));rintro J ⟨x,t,c,b⟩;obtain ⟨y,hglt⟩:=qaK c Y;simp only [qX,z7] at b;refine qeA _ _ _ ?_;by_cases q:gd t g=true
          · simp only [q,if_true] at b;cases C:e.ev t w with
            |none=>simp only [C] at b
            |some v=>
              simp only [C] at b;exact I.yes o F t w J v c (by rw [y];exact q) C _ fun W L O=>⟨fun e=>L.defers.trans (x e),qn t d v,c.root L I.free F Q z (O d Q),b⟩
          · simp only [q] at b;exact I.no o F w J c.size (by rw [y];simpa using q) _ fun W L O=>⟨fun e=>L.defers.trans (x e),qn t d undef,c.root L I.free F Q z (O d Q),by simpa using b⟩
        · cases h
      · split at h
        · rename_i H;simp only [Option.bind_eq_some_iff,Option.map_eq_some_iff] at h;obtain ⟨g,Y,l',B,rfl⟩:=h;have s:List.range' 0 (k+1)=List.range' 0 k++[k]:=by
            have:=yI (j:=0) (k:=k) (by omega);simpa using this
          rw [s];refine qck _ _ _ _ ?_;refine qa2 _ _ _ _ ?_ (qfQ cx X w m k l' B (qX P w [.eff g o.dst o.op o.type] K) ρ a R S (by rw [←qc5];exact U));rintro J ⟨x,t,c,b⟩;obtain ⟨y,_⟩:=qaK c Y;have A:=qhG H;have aa:=qht c H;simp only [QS,F,yA];simp only [qX] at b;by_cases q:gd t g=true
          · simp only [q,if_true] at b;have u:jP ops o.guard J=true:=by rw [y];exact q
            simp only [u,if_true];obtain ⟨v,O,hk⟩:=b;refine ⟨v,fun w' hw'=> ?_,fun e=>(wr _ _ _).trans (x e),_,c.putO A v,hk⟩;simp only [Oper.quietAt,aa];exact qua O w' hw'
          · simp only [q] at b;have u:jP ops o.guard J=false:=by rw [y];simpa using q
            simp only [u,Bool.false_eq_true,if_false];exact ⟨fun e=>(wr _ _ _).trans (x e),_,c.putO A undef,by simpa using b⟩
        · cases h
end
theorem qdt {cx:Cx} {K:qa→World→Prop} {Q:Ks} (h:Q.og):LetsOut (xJ cx K Q):=⟨⟨#[],[]⟩,default,h⟩
def qge (ops:Array Oper):Bool:=ops.toList.all fun o=>match o.op with| .defer _=>false|_=>true
def xw:Code→Bool
  | .skip=>true
  | .region _ ops draw=> !draw&&qge ops
  | .seq a b| .cond _ a b=>xw a&&xw b
  | .block _ a| .loop a=>xw a
  | .exit _| .ret=>true
  |_=>false
theorem qvz {ops:Array Oper} (h:qge ops=true) (ro:Option Nat):qcm ro ops:=by
  refine .inr fun i o b c a=> ?_;simp only [qge,List.all_eq_true] at h;have:=h o (by rw [Array.mem_toList_iff];exact Array.mem_of_getElem? b);rw [a] at this;cases this
theorem Qo {c:Code} {P:Program} {Q:Exit→Act→World→Prop} {a:Act} {w:World} (h:c.wp P Q a w):c.wpIn (fc none) 0 P Q a w:=wpIn_wide.2 h
theorem qqi (cx : Cx) (ro : Option Nat) (k : List Nat) : ∀ (c : Code) (ir : IR), qN cx.P cx.n cx.V k c = some ir → (ro = none ∨ (xw c = true ∧ k = [])) → ∀ (K : qa → World → Prop) (Q : Ks) (ρ : qa) (a : Act) (w : World),
    (Q.df→cx.D≠[])→Agree cx.n cx.V ρ a→jQ cx a→ir.wp cx K Q ρ w→c.wpIn (fc ro) 0 cx.P (xJ cx K Q) a w:=by
  intro c
  induction c with
  |skip=>
    intro ir h g K Q ρ a w j o q m;simp only [qN,Option.some.injEq] at h;subst h;exact wpIn_skip ⟨q,ρ,o,m⟩
  | region id ops draw =>
    intro ir h g K Q ρ a w j o q m;simp only [qN] at h;split at h
    · rename_i hc;rcases g with rfl|⟨_,rfl⟩
      · cases h;exact Qo (m a o q j)
      · simp at hc
    · split at h
      · rename_i ac;have hr:=qbx ac;split at h
        · cases h
        · rename_i l hl;split at h
          · rename_i X;subst X;split at h
            · rename_i hB;rcases g with rfl|⟨E,_⟩
              · simp only [Bool.and_eq_true] at hB;cases h;refine Qo (wp_region_quiet (C:=qc w) hB.2 hB.1 ⟨rfl,rfl,rfl,Nat.le_refl _,fun _ _=>rfl⟩ ?_);have h1:=qfQ (P:=cx.P) cx hr w _ _ l hl (fun t=>∀w',qc w w'→K t w') ρ a o q m;refine qeH ops.toList 0 a _ (by simp) ?_;refine qa2 _ _ _ _ ?_ (by simpa using h1);rintro H ⟨B,t,A,J⟩ w' hw';exact ⟨B,t,A,J w' hw'⟩
              · simp [xw] at E
            · cases h
          · rename_i X;have ab:draw=false:=by simpa using X
            subst ab;cases h;have hnd:qcm ro ops:=by
              rcases g with rfl|⟨E,_⟩
              · exact .inl rfl
              · simp only [xw,Bool.and_eq_true] at E;exact qvz E.2 ro
            refine wpIn_region ?_;have h1:=qcM (P:=cx.P) cx rfl rfl rfl hr hnd Q (xJ cx K Q) (fun ρ c a w h1 h2 h3=>⟨h1,ρ,h2,h3⟩) qdt j _ _ l hl K ρ a w o q m;rw [List.range_eq_range'];refine qcp ?_ _ _ _ h1;intro e H w' z;cases e<;>exact z
      · cases h
  |seq x y W L=>
    intro ir h g K Q ρ a w j o q m;have u:ro=none∨(xw x=true∧k=[]):=g.imp id fun h=>by simp only [xw,Bool.and_eq_true] at h;exact ⟨h.1.1,h.2⟩
    have F:ro=none∨(xw y=true∧k=[]):=g.imp id fun h=>by simp only [xw,Bool.and_eq_true] at h;exact ⟨h.1.2,h.2⟩
    simp only [qN] at h;split at h
    · rename_i U iy R hy;cases h;refine wpIn_seq (wpIn_mono (W U R u _ Q ρ a w j o q m) ?_);intro e H w' z;cases e with
      |normal=>obtain ⟨B,t,A,J⟩:=z;exact L iy hy F K Q t H w' j A B J
      |exit i=>exact z
      |goto i=>exact z
      |ret=>exact z
      |panic c=>exact z
      |outgrown=>exact z
    · cases h
  |cond c x y W L=>
    intro ir h g K Q ρ a w j o q m;have u:ro=none∨(xw x=true∧k=[]):=g.imp id fun h=>by simp only [xw,Bool.and_eq_true] at h;exact ⟨h.1.1,h.2⟩
    have F:ro=none∨(xw y=true∧k=[]):=g.imp id fun h=>by simp only [xw,Bool.and_eq_true] at h;exact ⟨h.1.2,h.2⟩
    simp only [qN] at h;split at h
    · cases h
    · rename_i hc;have hc':vF cx.V c=false:=by simpa using hc
      split at h
      · rename_i U iy R hy;cases h;simp only [IR.wp,QM] at m;cases O:(xL c).ev ρ w with
        |none=>simp only [O] at m
        |some v=>
          have aa:=qdv o hc' O;simp only [O] at m;split at m
          · rename_i e;cases e;exact wpIn_cond_true aa (W U R u K Q ρ a w j o q m)
          · rename_i e;cases e;exact wpIn_cond_false aa (L iy hy F K Q ρ a w j o q m)
          · cases m
      · cases h
  |block id x ih=>
    intro ir h g K Q ρ a w j o q m;have u:ro=none∨(xw x=true∧k=[]):=g;simp only [qN] at h;split at h
    · rename_i U R;cases h;refine wpIn_block (wpIn_mono (ih U R u _ {Q with ex:=fun i=>if i=id then K else Q.ex i} ρ a w j o q m) ?_);intro e H w' z;cases e with
      |normal=>exact z
      |exit i=>
        obtain ⟨B,t,A,J⟩:=z;simp only [Exit.inBlock];split
        · rename_i e;subst e;simp only [if_true] at J;exact ⟨B,t,A,J⟩
        · rename_i e;simp only [e,if_false] at J;exact ⟨B,t,A,J⟩
      |goto i=>exact z
      |ret=>exact z
      |panic c=>exact z
      |outgrown=>exact z
    · cases h
  |loop x ih=>
    intro ir h g K Q ρ a w j o q m;have u:ro=none∨(xw x=true∧k=[]):=g;simp only [qN] at h;split at h
    · rename_i U R;cases h;obtain ⟨I,μ,h0,S⟩:=m;refine wpIn_loop (fun H w'=>jQ cx H∧∃t,Agree cx.n cx.V t H∧I t w') (fun H w'=>μ (kp cx.V H) w') ⟨q,ρ,o,h0⟩ ?_;rintro a1 w1 ⟨hD1,Y,Z,hI⟩;refine wpIn_mono (ih U R u _ Q Y a1 w1 j Z hD1 (S Y w1 hI)) ?_;intro e H w' z;cases e with
      |normal=>
        obtain ⟨B,t,A,J,hm⟩:=z;refine ⟨⟨B,t,A,J⟩, ?_⟩;show μ (kp cx.V H) w'<μ (kp cx.V a1) w1;rw [←A.env,←Z.env];exact hm
      |exit i=>exact z
      |goto i=>exact z
      |ret=>exact z
      |panic c=>exact z
      |outgrown=>exact z
    · cases h
  |exit id=>
    intro ir h g K Q ρ a w j o q m;simp only [qN,Option.some.injEq] at h;subst h;exact wpIn_exit ⟨q,ρ,o,m⟩
  |ret=>
    intro ir h g K Q ρ a w j o q m;simp only [qN,Option.some.injEq] at h;subst h;exact wpIn_ret ⟨q,ρ,o,m⟩
  |rangeFunc f ps asg body _ _=>
    intro ir h g K Q ρ a w j o q m;simp only [qN,Option.some.injEq] at h;subst h;rcases g with rfl|⟨E,_⟩
    · exact Qo (m a o q j)
    · cases E
  |scope b _=>
    intro ir h g K Q ρ a w j o q m;simp only [qN,Option.some.injEq] at h;subst h;rcases g with rfl|⟨E,_⟩
    · exact Qo (m a o q j)
    · cases E
  |label l=>
    intro ir h g K Q ρ a w j o q m;simp only [qN,Option.some.injEq] at h;subst h;rcases g with rfl|⟨E,_⟩
    · exact Qo (m a o q j)
    · cases E
  |goto l=>
    intro ir h g K Q ρ a w j o q m;simp only [qN,Option.some.injEq] at h;subst h;rcases g with rfl|⟨E,_⟩
    · exact Qo (m a o q j)
    · cases E
  |refuse s=>
    intro ir h g K Q ρ a w j o q m;simp only [qN,Option.some.injEq] at h;subst h;rcases g with rfl|⟨E,_⟩
    · exact Qo (m a o q j)
    · cases E
theorem qeg (cx:Cx) (b:List Nat) (c:Code) (ir:IR) (h:qN cx.P cx.n cx.V b c=some ir) (K:qa→World→Prop) (Q:Ks) (ρ:qa) (a:Act) (w:World)
    (e:Q.df→cx.D≠[]) (g:Agree cx.n cx.V ρ a) (i:jQ cx a) (j:ir.wp cx K Q ρ w):c.wp cx.P (xJ cx K Q) a w:=
  wpIn_wide.1 (qqi cx none b c ir h (.inl rfl) K Q ρ a w e g i j)
end Go.Eng
