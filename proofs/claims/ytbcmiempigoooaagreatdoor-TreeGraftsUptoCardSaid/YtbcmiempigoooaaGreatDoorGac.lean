/- Lemmas for a claim about layer 2 (tree). No conditions but those they state. -/
import Derived.Test.YtbcmiempigoooaaGreatDoorGab
import Derived.Still
import Derived.Laws.Tables
import Derived.Wp
import Derived.RangeFuncRecord
import Derived.RecoverIn
set_option linter.all false
namespace Go.Eng
open Go.RowKit
inductive St where
  |asg (g:Option (Nat×Bool)) (d:Nat) (e:Ex)
  |eff (g:Option (Nat×Bool)) (dst:Option Nat) (op:Op) (type:TypeId)
inductive IR where
  |skip
  |reg (l:List St)
  |drw (l:List St)
  |seq (a b:IR)
  |cond (c:Ex) (a b:IR)
  |block (id:Nat) (a:IR)
  |loop (a:IR)
  |exit (id:Nat)
  |ret
  |raw (c:Code)
structure Ks where
  ex:Nat→qa→World→Prop
  rt:qa→World→Prop
  pn:qa→List PanicEntry→World→Prop
  og:Prop
  df:Prop
  rd:Prop
def Ks.noRd (Q:Ks):Ks:={Q with rd:=False}
def qm (ρ:qa) (d:Option Nat) (v:Value):qa:=match d with|none=>ρ|some d=>qt ρ d v
def gd (ρ:qa):Option (Nat×Bool)→Bool
  |none=>true
  |some (t,want)=>match ρ t with| .bool b=>b==want|_=>false
def qd (ρ:qa):Operand→Value
  | .tmp t=>ρ t
  |x=>QY x
def qD (dst : Option Nat) (op : Op) (type : TypeId) : Oper := { dst, op, type, pos := "", after := #[], guard := none }
def wQ (P:Program) (Q:Ks) (dst:Option Nat) (K:qa→World→Prop) (ρ:qa):Result Next→Prop
  | .ok (.value v) w'=>K (qm ρ dst v) w'
  | .ok .skip w'=>K (qm ρ dst undef) w'
  | .ok (.enter f args) w'=>Calls P f args w' fun
      | .returned v,w''=>K (qm ρ dst v) w''
      | .panicked chain,w''=>Q.pn ρ chain w''
      | .outgrown,_=>Q.og
  | .ok (.round l f tmps assign body) w'=>Q.rd∧RoundIn Fence.wide 0 P l f tmps assign body w' fun
      | .returned v,w''=>K (qm ρ dst v) w''
      | .panicked chain,w''=>Q.pn ρ chain w''
      | .outgrown,_=>Q.og
  | .ok (.defer d) w'=>Q.df∧K (qm (qt ρ gS (we d (ρ gS))) dst undef) w'
  | .halt (.panic v) w'=>Q.pn ρ [{v,recovered:=false}] w'
  |_=>False
def jY (P:Program) (Q:Ks) (dst:Option Nat) (op:Op) (type:TypeId) (K:qa→World→Prop) (ρ:qa) (w:World):Prop:=
  wQ P Q dst K ρ ((execOp (qd ρ) (qD dst op type)).run P w)
def vG (c:Option Value) (f:Value→Prop):Prop:=
  match c with
  |some v=>f v
  |none=>False
def vL (P:Program) (t:TypeId):Option (Array Value):=(P.info? t).bind fun i=>i.zero.map (·.cells)
def xo (P:Program) (t:TypeId):Option (TypeId×Nat):=
  match P.underlying t with
  |some (.slice e)=>(P.info? e).bind fun i=>if i.zero.isSome then some (e,i.size) else none
  |_=>none
def qg (P:Program) (f:FuncId):Bool:=
  match P.funcs[f]? with
  | some fn => !(fn.name == "runtime.NumGoroutine") && fn.body.isSome
  |none=>false
def jG (P:Program) (t:TypeId) (n:Nat):Bool:=match P.info? t with|some i=>i.size==n|none=>false
def kW (a:Addr):List Value→Nat→(World→Prop)→World→Prop
  |[],_,K,w=>K w
  |v::vs,i,K,w=>(∃old,w.cell? (a.add i)=some old)∧w.frozen? (a.add i)=false∧v.oneCell=true∧kW a vs (i+1) K (w.setCell (a.add i) v)
def xP (Q:Ks) (dst:Option Nat) (K:qa→World→Prop) (ρ:qa):Ending→World→Prop
  | .returned v,w''=>K (qm ρ dst v) w''
  | .panicked chain,w''=>Q.pn ρ chain w''
  | .outgrown,_=>Q.og
def yL (x:Value) (f:Addr→Prop):Prop:=match x with| .pointer (some a)=>f a|_=>False
def xi {α:Type} (c:Option α) (f:α→Prop):Prop:=match c with|some v=>f v|none=>False
def qeo (P:Program) (Q:Ks) (dst:Option Nat) (op:Op) (type:TypeId) (K:qa→World→Prop) (ρ:qa) (w:World) (args:Array Operand):Callee→Prop
  | .value (.func f)=>qg P f=true∧Calls P f (args.map (qd ρ)) w (xP Q dst K ρ)
  |_=>jY P Q dst op type K ρ w
def qw (P:Program) (Q:Ks) (dst:Option Nat) (op:Op) (type:TypeId) (K:qa→World→Prop) (ρ:qa) (w:World):Prop:=
  match op with
  | .box t x=>K (qm ρ dst (.pointer (some ⟨w.heap.size,0,none⟩))) (w.alloc (.cells (qd ρ x).cells t))
  | .alloc t=>xi (vL P t) fun z=>K (qm ρ dst (.pointer (some ⟨w.heap.size,0,none⟩))) (w.alloc (.cells z t))
  | .store t p x=>jG P t (qd ρ x).cells.size=true∧yL (qd ρ p) fun a=>kW a (qd ρ x).cells.toList 0 (K (qm ρ dst undef)) w
  | .makeFunc fn fs cs=>K (qm ρ dst (.func fn (fs.map (qd ρ)) (cs.map (qd ρ)))) w
  | .build t ps=>xi (P.built t (ps.map fun p=>(p.1,qd ρ p.2)).toList) fun cells=>K (qm ρ dst (.agg cells)) w
  | .buildSlice t n ps=>xi (xo P t) fun es=>n*es.2≤1000∧ps.toList.map (·.1)=List.range n∧(∀p∈ps.toList,(qd ρ p.2).cells.size=es.2)∧
      K (qm ρ dst (.slice (some ⟨w.heap.size,0,none⟩) n n)) (w.alloc (.cells (ps.toList.flatMap fun p=>(qd ρ p.2).cells.toList).toArray es.1))
  | .call c=>qeo P Q dst op type K ρ w c.args c.callee
  |op=>jY P Q dst op type K ρ w
def St.wp (P:Program) (Q:Ks):St→(qa→World→Prop)→qa→World→Prop
  | .asg g d e,K,ρ,w=>if gd ρ g then vG (e.ev ρ w) (fun v=>K (qt ρ d v) w) else K (qt ρ d undef) w
  | .eff g dst op type,K,ρ,w=>if gd ρ g then qw P Q dst op type K ρ w else K (qm ρ dst undef) w
def qU (P:Program) (Q:Ks):List St→(qa→World→Prop)→qa→World→Prop
  |[],K,ρ,w=>K ρ w
  |s::r,K,ρ,w=>s.wp P Q (qU P Q r K) ρ w
def qbe (P:Program) (w0:World) (dst:Option Nat) (op:Op) (type:TypeId) (ρ:qa) (v:Value):Prop:=
  match op with
  | .call {callee:= .value (.func f),args, .. }=>qg P f=true∧∀w,qb w0 w→Calls P f (args.map (qd ρ)) w (fun e w'=>e= .returned v∧qb w0 w')
  |_=>∀w,qb w0 w→Oper.quietUpon P (qb w0) w v ((execOp (qd ρ) (qD dst op type)).run P w)
def jb (P:Program) (w0:World):List St→(qa→Prop)→qa→Prop
  |[],K,ρ=>K ρ
  | .asg g d e::r,K,ρ=>if gd ρ g then vG (e.ev ρ w0) (fun v=>jb P w0 r K (qt ρ d v)) else jb P w0 r K (qt ρ d undef)
  | .eff g dst op type::r,K,ρ=>if gd ρ g then∃v,qbe P w0 dst op type ρ v∧jb P w0 r K (qm ρ dst v)
      else jb P w0 r K (qm ρ dst undef)
structure Cx where
  P:Program
  n:Nat
  V:List Nat
  D:List Deferred
def jT (cx:Cx) (a:Act):Prop:=cx.D=[]→a.defers=[]
def xx (cx:Cx) (K:qa→World→Prop) (Q:Ks):Exit→Act→World→Prop
  | .normal,a,w=>jT cx a∧∃ρ,Agree cx.n cx.V ρ a∧K ρ w
  | .exit i,a,w=>jT cx a∧∃ρ,Agree cx.n cx.V ρ a∧Q.ex i ρ w
  | .ret,a,w=>jT cx a∧∃ρ,Agree cx.n cx.V ρ a∧Q.rt ρ w
  | .panic c,a,w=>jT cx a∧∃ρ,Agree cx.n cx.V ρ a∧Q.pn ρ c w
  | .outgrown,_,_=>Q.og
  | .goto _,_,_=>False
def yi (c:Option Value) (x y:Prop):Prop:=
  match c with
  |some (.bool true)=>x
  |some (.bool false)=>y
  |_=>False
def IR.wp (cx:Cx):IR→(qa→World→Prop)→Ks→qa→World→Prop
  | .skip,K,_,ρ,w=>K ρ w
  | .reg l,K,Q,ρ,w=>qU cx.P Q l K ρ w
  | .drw l,K,_,ρ,w=>jb cx.P w l (fun ρ'=>∀w',qb w w'→K ρ' w') ρ
  | .seq a b,K,Q,ρ,w=>a.wp cx (fun ρ' w'=>b.wp cx K Q ρ' w') Q ρ w
  | .cond c a b,K,Q,ρ,w=>yi (c.ev ρ w) (a.wp cx K Q ρ w) (b.wp cx K Q ρ w)
  | .block id a,K,Q,ρ,w=>a.wp cx K {Q with ex:=fun i=>if i=id then K else Q.ex i} ρ w
  | .loop a,_,Q,ρ,w=>∃(I:qa→World→Prop) (μ:qa→World→Nat),I ρ w∧∀ρ' w',I ρ' w'→a.wp cx (fun ρ'' w''=>I ρ'' w''∧μ ρ'' w''<μ ρ' w') Q ρ' w'
  | .exit id,_,Q,ρ,w=>Q.ex id ρ w
  | .ret,_,Q,ρ,w=>Q.rt ρ w
  | .raw c,K,Q,ρ,w=>∀a,Agree cx.n cx.V ρ a→jT cx a→(Q.df→cx.D≠[])→c.wp cx.P (xx cx K Q) a w
section
variable (P:Program) (ops:Array Oper) (V:List Nat)
def tg (g : Option (Nat × Bool)) (j : Nat) : Option (Option (Nat × Bool)) :=
  match g with
  |none=>some none
  |some (i,want)=>match vf ops i with
    |some t=>if V.contains t=true∧i<j then some (some (t,want)) else none
    |none=>none
def Qa (o:Oper):Bool:=
  (o.op.operands.toList.all fun x=> !vE V x)&&(match o.op with| .select .. =>false|_=>true)&&(match o.dst with|some d=>V.contains d|none=>true)
def xW : Nat → Nat → Option (List St)
  |_,0=>some []
  |0,_+1=>none
  |fuel+1,k+1=>
    match ops[k]? with
    |none=>none
    |some o=>
      match px P ops V (k+1) k,o.dst with
      |some (e,j),some d=>if V.contains d then (tg ops V o.guard j).bind fun g=>(xW fuel j).map (· ++[.asg g d e]) else none
      |_,_=>if Qa V o then (tg ops V o.guard k).bind fun g=>(xW fuel k).map (· ++[.eff g o.dst o.op o.type]) else none
def qih:List (Option Nat):=ops.toList.map (·.dst)
def yO:List (Option Nat)→Bool
  |[]=>true
  |none::l=>yO l
  |some d::l=> !l.contains (some d)&&yO l
def Qx (n:Nat):Bool:=yO (qih ops)&&ops.toList.all fun o=>match o.dst with|some d=>decide (d<n)|none=>true
end
def qY (P : Program) (n : Nat) (V : List Nat) (rawIds : List Nat) : Code → Option IR
  | .skip=>some .skip
  | .region id ops draw=>
    if rawIds.contains id then some (.raw (.region id ops draw)) else
    if Qx ops n then
      match xW P ops V ops.size ops.size with
      |none=>none
      |some l=>if draw then (if Region.lexB .any ops&&P.follows .mixedOrders then some (.drw l) else none) else some (.reg l)
    else none
  | .seq a b=>match qY P n V rawIds a,qY P n V rawIds b with
    |some x,some y=>some (.seq x y)
    |_,_=>none
  | .cond c a b=>if vE V c then none else match qY P n V rawIds a,qY P n V rawIds b with
    |some x,some y=>some (.cond (xy c) x y)
    |_,_=>none
  | .block id a=>match qY P n V rawIds a with
    |some x=>some (.block id x)
    |none=>none
  | .loop a=>match qY P n V rawIds a with
    |some x=>some (.loop x)
    |none=>none
  | .exit id=>some (.exit id)
  | .ret=>some .ret
  |c=>some (.raw c)
theorem qkc {P:Program} {f:FuncId} (h:qg P f=true) {ρ:qa} {args:Array Operand} {a:Array TypeId} {dst:Option Nat} {type:TypeId} (w:World):
    (execOp (qd ρ) (qD dst (.call {callee:= .value (.func f),args,argTypes:=a}) type)).run P w= .ok (.enter f (args.map (qd ρ))) w:=by
  unfold qg at h;split at h
  · rename_i fn e;simp only [Bool.and_eq_true,Bool.not_eq_true',beq_eq_false_iff_ne,ne_eq] at h;cases b:fn.body with
    |none=>simp [b] at h
    |some c=>simp [execOp,qD,resolve,qd,QY,Deferred.ofValue,invoke,callFunc,e,h.1,b]
  · cases h
theorem qfl {P:Program} (a:Addr):∀(vs:List Value) (i:Nat) (K:World→Prop) (w:World),kW a vs i K w→∃w',(storeCells a vs i).run P w= .ok () w'∧K w'
  |[],i,K,w,h=>⟨w,by simp [storeCells],h⟩
  | v :: vs, i, K, w, h => by
    obtain ⟨⟨old,c⟩,l,e,j⟩:=h;obtain ⟨w',g,k⟩:=qfl (P:=P) a vs (i+1) K _ j;refine ⟨w', ?_,k⟩;simp only [storeCells,Sem.run_bind];have b:(store (a.add i) v).run P w= .ok () (w.setCell (a.add i) v):=by
      cases v<;>first|(cases e;done)|simp [store,Sem.run,c,l]
    rw [b];simpa using g
theorem qrN (size : Nat) : ∀ (ps : List (Nat × Value)) (k : Nat) (a cells : List Value), ps.map (·.1) = List.range' k ps.length → (∀ p ∈ ps, p.2.cells.size = size) → a.length = k * size → cells.length = ps.length * size →
    Instr.fill (fun i=>some (i*size,size)) (a++cells).toArray ps=some (a++ps.flatMap fun p=>p.2.cells.toList).toArray
  |[],k,a,cells,_,_,_,s=>by
    have:cells=[]:=by simpa using s
    subst this;simp [Instr.fill]
  | (i, v) :: ps, k, a, cells, j, hs, g, s => by
    simp only [List.map_cons,List.length_cons,List.range'_succ,List.cons.injEq] at j;obtain ⟨rfl,j⟩:=j;have m:v.cells.size=size:=hs (i,v) (by simp);simp only [Instr.fill];have e:cells.length=(ps.length+1)*size:=by simpa using s
    have u:size≤cells.length:=by rw [e,Nat.add_mul];omega
    rw [if_neg (by
      simp only [m,ne_eq,not_true_eq_false,decide_false,Bool.false_or,decide_eq_true_eq,List.size_toArray,List.length_append,g];omega)]
    have key:∀(l:List Value) (o:Nat) (arr:Array Value),(l.zipIdx o).foldl (fun cs (x:Value×Nat)=>cs.setIfInBounds (i*size+x.2) x.1) arr=arr→True:=fun _ _ _ _=>trivial
    have t:∀(l:List Value) (o:Nat) (b rest:List Value),b.length=o→l.length≤rest.length→
        (l.zipIdx o).foldl (fun cs (x:Value×Nat)=>cs.setIfInBounds (i*size+x.2) x.1) (a++b++rest).toArray=(a++b++l++rest.drop l.length).toArray:=by
      intro l
      induction l with
      |nil=>intro o b rest _ _;simp
      |cons c l C=>
        intro o b rest A y;cases rest with
        |nil=>simp at y
        |cons r rest=>
          simp only [List.zipIdx_cons,List.foldl_cons];have h:(a++b++r::rest).toArray.setIfInBounds (i*size+o) c=(a++(b++[c])++rest).toArray:=by
            simp only [List.setIfInBounds_toArray];congr 1;rw [List.append_assoc,List.set_append_right _ _ (by rw [g];omega),g,show i*size+o - i*size=o by omega,List.set_append_right _ _ (by omega),A];simp
          rw [h,C (o+1) (b++[c]) rest (by simp [A]) (by simpa using y)];simp
    have z:=t v.cells.toList 0 [] cells rfl (by simpa [m] using u);simp only [List.append_nil] at z;have E:v.cells.zipIdx.foldl (fun cs (x:Value×Nat)=>cs.setIfInBounds (i*size+x.2) x.1) (a++cells).toArray=(a++v.cells.toList++cells.drop size).toArray:=by
      rw [←Array.foldl_toList];simpa [m] using z
    have B:=qrN size ps (i+1) (a++v.cells.toList) (cells.drop size) j (fun p g=>hs p (by simp [g])) (by simp [g,m,Nat.add_mul]) (by simp [e,Nat.add_mul]);rw [E,B];simp
theorem qvb {P:Program} {t e:TypeId} {size:Nat} (h:xo P t=some (e,size)) {n:Nat} (E:n*size≤1000) {ps:Array (Nat×Value)} (u:ps.toList.map (·.1)=List.range n) (B:∀p∈ps.toList,p.2.cells.size=size) (w:World):
    (Instr.buildSlice t n ps).run P w= .ok (.slice (some ⟨w.heap.size,0,none⟩) n n) (w.alloc (.cells (ps.toList.flatMap fun p=>p.2.cells.toList).toArray e)):=by
  unfold xo at h;split at h
  · rename_i A x;obtain ⟨i,c,o⟩:=Option.bind_eq_some_iff.1 h;obtain ⟨zv,g⟩:∃zv,i.zero=some zv:=by
      cases C:i.zero with
      |none=>simp [C] at o
      |some z=>exact ⟨z,rfl⟩
    simp only [g,Option.isSome_some,if_true,Option.some.injEq,Prod.mk.injEq] at o;obtain ⟨rfl,rfl⟩:=o;have b:ps.toList.length=n:=by have:=congrArg List.length u;simpa using this
    have s:¬(n*i.size>2^24):=by omega
    have m:(zeroValue A).run P w= .ok zv w:=by simp [zeroValue,qfq c,g]
    have a:∀cells:Array Value,cells.size=n*i.size→Instr.fill (fun j=>some (j*i.size,i.size)) cells ps.toList=some (ps.toList.flatMap fun p=>p.2.cells.toList).toArray:=by
      intro cells v;have:=qrN i.size ps.toList 0 [] cells.toList (by rw [u,b,List.range_eq_range']) B (by simp) (by simp [v,b]);simpa using this
    simp only [Instr.buildSlice,Sem.run_bind,run_underlying x,Result.andThen_ok,Qt c,if_neg s];by_cases l:n*i.size=0
    · have y:∀f:Nat→Value,(Array.range 0).map f= #[]:=fun _=>by simp [Array.range]
      have k:=a #[] (by simp [l]);simp only [l,if_true,y,k];simp [newRow]
    · simp only [l,if_false,Sem.run_bind,m,Result.andThen_ok,Sem.run_pure];have k:=a ((Array.range (n*i.size)).map fun j=>zv.cells[j%zv.cells.size]!) (by simp);simp only [k];simp [newRow]
  · cases h
theorem qwd {P:Program} {w0:World} {dst:Option Nat} {op:Op} {type:TypeId} {ρ:qa} {v:Value} (h:qbe P w0 dst op type ρ v):
    ∀w,qb w0 w→Oper.quietUpon P (qb w0) w v ((execOp (qd ρ) (qD dst op type)).run P w):=by
  unfold qbe at h;split at h
  · rename_i f args b;intro w a;rw [qkc h.1];exact ⟨rfl,h.2 w a⟩
  · exact h
theorem ju {P:Program} {Q:Ks} {dst:Option Nat} {op:Op} {type:TypeId} {K:qa→World→Prop} {ρ:qa} {w w':World} {v:Value}
    (h:(execOp (qd ρ) (qD dst op type)).run P w= .ok (.value v) w') (a:K (qm ρ dst v) w'):jY P Q dst op type K ρ w:=by unfold jY;rw [h];exact a
theorem qr3 {P : Program} {Q : Ks} {dst : Option Nat} {op : Op} {type : TypeId} {K : qa → World → Prop} {ρ : qa} {w : World} (h : qw P Q dst op type K ρ w) : jY P Q dst op type K ρ w := by
  unfold qw at h;split at h
  · refine ju ?_ h;simp [execOp,qD,Instr.box,newVar,newRow]
  · rename_i t;unfold xi at h;split at h
    · rename_i z u;simp only [vL,Option.bind_eq_some_iff,Option.map_eq_some_iff] at u;obtain ⟨i,s,zv,k,rfl⟩:=u;refine ju ?_ h;have o:∀w,(zeroValue t).run P w= .ok zv w:=fun w=>by simp [zeroValue,qfq s,k]
      simp [execOp,qD,Instr.alloc,o,newVar,newRow]
    · cases h
  · rename_i t p x;obtain ⟨j,b⟩:=h;unfold yL at b;split at b
    · rename_i a I;unfold jG at j;split at j
      · rename_i i s;obtain ⟨w',y,C⟩:=qfl (P:=P) a _ 0 _ w b;have l:(qd ρ x).cells.size=i.size:=
          (show i.size=(qd ρ x).cells.size by simpa using j).symm
        have:(execOp (qd ρ) (qD dst (.store t p x) type)).run P w= .ok .skip w':=by
          simp [execOp,qD,Instr.storeAt,I,Instr.sureAddr,storeVar,Qt s,l,y]
        unfold jY;rw [this];exact C
      · cases j
    · cases b
  · refine ju ?_ h;simp [execOp,qD,Instr.makeFunc]
  · rename_i t ps;unfold xi at h;split at h
    · rename_i cells g;refine ju ?_ h;have:=run_build (P:=P) w t (ps.map fun p=>(p.1,qd ρ p.2)) cells g;simp [execOp,qD,this]
    · cases h
  · rename_i t n ps;unfold xi at h;split at h
    · rename_i es m;obtain ⟨e,size⟩:=es;obtain ⟨F,H,E,v⟩:=h;refine ju ?_ v;have:=qvb (P:=P) m F (ps:=ps.map fun p=>(p.1,qd ρ p.2)) (by simp only [Array.toList_map,List.map_map];exact H)
        (fun p b=>by
          simp only [Array.toList_map,List.mem_map] at b;obtain ⟨q,B,rfl⟩:=b;exact E q B) w
      simp only [execOp,qD,Sem.run_bind,this,Result.andThen_ok,Sem.run_pure];simp [List.flatMap_map]
    · cases h
  · rename_i c;unfold qeo at h;split at h
    · rename_i f g;obtain ⟨callee,args,A⟩:=c;simp only at g h;subst g;unfold jY;rw [qkc h.1];exact h.2
    · exact h
  · exact h
theorem qln : ∀ (l : List (Option Nat)), yO l = true → ∀ (i b t : Nat), l[i]? = some (some t) → l[b]? = some (some t) → i = b
  |[],_,i,_,_,h,_=>by simp at h
  | x :: l, h, i, b, t, e, a => by
    have k:yO l=true:=by
      cases x with
      |none=>simpa [yO] using h
      |some d=>simp only [yO,Bool.and_eq_true] at h;exact h.2
    have c:x=some t→∀j:Nat,l[j]? ≠some (some t):=by
      rintro rfl j g;simp only [yO,Bool.and_eq_true,Bool.not_eq_true',List.contains_eq_mem,decide_eq_false_iff_not] at h;exact h.1 (List.mem_of_getElem? g)
    cases i with
    |zero=>
      simp only [List.getElem?_cons_zero,Option.some.injEq] at e;cases b with
      |zero=>rfl
      |succ b=>simp only [List.getElem?_cons_succ] at a;exact absurd a (c e b)
    |succ i=>
      simp only [List.getElem?_cons_succ] at e;cases b with
      |zero=>simp only [List.getElem?_cons_zero,Option.some.injEq] at a;exact absurd e (c a i)
      |succ b=>
        simp only [List.getElem?_cons_succ] at a;rw [qln l k i b t e a]
theorem qbc {ops:Array Oper} {n:Nat} (h:Qx ops n=true):Region1 n ops:=by
  simp only [Qx,Bool.and_eq_true,List.all_eq_true] at h;have key:∀i t,vf ops i=some t→(qih ops)[i]? =some (some t):=by
    intro i t a;simp only [vf,Option.bind_eq_some_iff] at a;obtain ⟨o,b,e⟩:=a;simp [qih,b,e]
  refine ⟨fun i g t a c=>qln _ h.1 i g t (key i t a) (key g t c),fun i t a=> ?_⟩;simp only [vf,Option.bind_eq_some_iff] at a;obtain ⟨o,b,e⟩:=a;have:=h.2 o (by rw [Array.mem_toList_iff];exact Array.mem_of_getElem? b);simpa [e] using this
theorem qA (w:World):qb w w:=Below.refl _ _
def fc (ro:Option Nat):Fence:={Fence.wide with round:=ro}
def qb2 (ro:Option Nat) (ops:Array Oper):Prop:=ro=none∨∀(i:Nat) (o:Oper),ops[i]? =some o→∀c:Call,o.op≠ .defer c
theorem qjS {ro:Option Nat} {ops:Array Oper} (h:qb2 ro ops) {i:Nat} {o:Oper} (a:ops[i]? =some o) (f:Operand→Value):Oper.semAt (fc ro).round f o=execOp f o:=by
  rcases h with rfl|h
  · rfl
  · exact Oper.semAt_eq _ _ _ (h i o a)
theorem qDN {ro:Option Nat} {n:Nat} {P:Program} {f:FuncId} {args:Array Value} {w:World} {R:Ending→World→Prop} (h:Calls P f args w R):CallsIn (fc ro) n P f args w R:=
  (callsIn_wide (n:=n)).2 h
theorem qvs {ro:Option Nat} {n:Nat} {P:Program} {l f:Nat} {tmps:Array Value} {as bd:Code} {w:World} {R:Ending→World→Prop} (h:RoundIn Fence.wide 0 P l f tmps as bd w R):RoundIn (fc ro) n P l f tmps as bd w R:=
  ⟨trivial,fun c cs _=>h.2 c cs (room_wide _)⟩
theorem qaL {ro : Option Nat} {P : Program} {ops : Array Oper} (b : qb2 ro ops) {w : World} {Q : Exit → Act → World → Prop} : ∀ (l : List Nat) (a : Act) (K : Act → Prop), (∀ a, K a → Q .normal a w) → PS P w ops l a K → wpOpsIn (fc ro) 0 P ops Q l a w
  |[],_,_,c,h=>c _ h
  | i :: l, a, K, c, h => by
    simp only [PS] at h;simp only [wpOpsIn];split
    · rename_i e;simp only [e] at h;exact qaL b l a K c h
    · rename_i o e;simp only [e] at h;split
      · rename_i g;simp only [g,if_true] at h;obtain ⟨v,k,j⟩:=h;simp only [Oper.wpIn,qjS b e,k w (qA w),Oper.uponIn];exact ⟨fun _ _=>trivial,qaL b l _ K c j⟩
      · rename_i g;simp only [g] at h;exact ⟨fun _ _=>trivial,qaL b l _ K c (by simpa using h)⟩
theorem yn {F : Fence} {P : Program} {ops : Array Oper} {Q : Exit → Act → World → Prop} : ∀ (l m : List Nat) (a : Act) (w : World),
    wpOpsIn F 0 P ops (Exit.then (wpOpsIn F 0 P ops Q m) Q) l a w→wpOpsIn F 0 P ops Q (l++m) a w
  |[],_,_,_,h=>h
  | i :: l, m, a, w, h => by
    simp only [List.cons_append,wpOpsIn] at h⊢;split
    · rename_i e;simp only [e] at h;exact yn l m a w h
    · rename_i o e;simp only [e] at h;split
      · rename_i g;simp only [g,if_true] at h;simp only [Oper.wpIn] at h⊢;refine ⟨h.1, ?_⟩
        replace h:=h.2
        generalize (Oper.semAt F.round a.eval o).run P w=r at h⊢;cases r with
        |ok x w'=>
          cases x<;>simp only [Oper.uponIn] at h⊢ <;>first|exact h|exact yn l m _ _ h|skip
          · refine ⟨h.1,h.2.mono fun e j b=> ?_⟩;cases e with
            |returned v=>exact yn l m _ _ b
            |panicked c=>exact b
            |outgrown=>exact b
          · refine ⟨h.1,h.2.mono fun e j b=> ?_⟩;cases e with
            |returned v=>exact yn l m _ _ b
            |panicked c=>exact b
            |outgrown=>exact b
          · exact ⟨h.1,h.2.mono fun v j b=>yn l m _ _ b⟩
        |halt x w'=>cases x<;>simp only [Oper.uponIn] at h⊢ <;>exact h
      · rename_i g;simp only [g] at h;refine ⟨?_,yn l m _ _ ?_⟩
        · exact (by simpa using h:_∧_).1
        · exact (by simpa using h:_∧_).2
theorem qb7 {F : Fence} {P : Program} {ops : Array Oper} {Q1 Q2 : Exit → Act → World → Prop} (k : ∀ e a w, Q1 e a w → Q2 e a w) : ∀ l a w, wpOpsIn F 0 P ops Q1 l a w → wpOpsIn F 0 P ops Q2 l a w := by
  intro l
  induction l with
  |nil=>intro a w h;exact k _ _ _ h
  |cons i l b=>
    intro a w h;simp only [wpOpsIn] at h⊢;split
    · rename_i o;simp only [o] at h;exact b _ _ h
    · rename_i s o;simp only [o] at h;split
      · rename_i j;simp only [j,if_true] at h;simp only [Oper.wpIn] at h⊢;refine ⟨h.1, ?_⟩
        replace h:=h.2
        generalize (Oper.semAt F.round a.eval s).run P w=r at h⊢;cases r with
        |ok x w'=>
          cases x<;>simp only [Oper.uponIn] at h⊢ <;>first|exact h|exact b _ _ h|skip
          · refine ⟨h.1,h.2.mono fun e p g=> ?_⟩;cases e with
            |returned v=>exact b _ _ g
            |panicked c=>exact k _ _ _ g
            |outgrown=>obtain ⟨a0,w0,m⟩:=g;exact ⟨a0,w0,k _ _ _ m⟩
          · refine ⟨h.1,h.2.mono fun e p g=> ?_⟩;cases e with
            |returned v=>exact b _ _ g
            |panicked c=>exact k _ _ _ g
            |outgrown=>obtain ⟨a0,w0,m⟩:=g;exact ⟨a0,w0,k _ _ _ m⟩
          · exact ⟨h.1,h.2.mono fun v p g=>b _ _ g⟩
        |halt x w'=>cases x<;>simp only [Oper.uponIn] at h⊢ <;>first|exact k _ _ _ h|exact h
      · rename_i j;simp only [j] at h;refine ⟨?_,b _ _ ?_⟩
        · exact (by simpa using h:_∧_).1
        · exact (by simpa using h:_∧_).2
theorem Agree.put {n:Nat} {V:List Nat} {ρ:qa} {a:Act} (h:Agree n V ρ a) {d:Nat} (b:d∈V) (v:Value):Agree n V (qt ρ d v) (a.put (some d) v):=by
  refine ⟨by simp [Act.put,h.size], ?_,h.lt,h.big⟩;have c:=h.lt d b;have j:=h.ne b;rw [h.env];funext i;simp only [qt,x8,Act.put];by_cases g:i=d
  · subst g;simp [b,h.size,c,Array.getD_eq_getD_getElem?,j]
  · have:d≠i:=fun e=>g e.symm;simp [g,Array.getD_eq_getD_getElem?,this]
theorem Agree.putO {n:Nat} {V:List Nat} {ρ:qa} {a:Act} (h:Agree n V ρ a) {d:Option Nat} (b:∀t,d=some t→t∈V) (v:Value):Agree n V (qm ρ d v) (a.put d v):=by
  cases d with
  |none=>exact h
  |some d=>exact h.put (b d rfl) v
theorem kY (a:Act) (d:Option Nat) (v:Value):(a.put d v).defers=a.defers:=by cases d<;>rfl
theorem qaq {n : Nat} {V : List Nat} {ρ : qa} {a : Act} {ops : Array Oper} {g : Option (Nat × Bool)} {j : Nat} {p : Option (Nat × Bool)} (h : Agree n V ρ a) (b : tg ops V g j = some p) :
    jS ops g a=gd ρ p∧vR g j=true:=by
  unfold tg at b;split at b
  · cases b;exact ⟨rfl,rfl⟩
  · rename_i i s;split at b
    · rename_i t v;split at b
      · rename_i u;obtain ⟨x,o⟩:=u;cases b;have c:t∈V:=by simpa using x
        have k:=h.lt t c;refine ⟨?_,by simpa [vR] using o⟩;have e:((ops[i]?).bind (·.dst))=some t:=v;have m:ρ t=a.tmps.getD t undef:=h.at c;have l:t<a.tmps.size:=by rw [h.size];exact k
        simp only [jS,gd,yielded,e,Option.bind_some,m,Array.getD_eq_getD_getElem?,Array.getElem?_eq_getElem l,Option.getD_some];cases a.tmps[t] <;>simp
      · cases b
    · cases b
theorem Agree.root {n : Nat} {V : List Nat} {ρ : qa} {a s : Act} {ops : Array Oper} {j k : Nat} {o : Oper} (h : Agree n V ρ a) (m : Fr ops j (k + 1) a s) (b : qaH ops V j k) (z : ops[k]? = some o) {d : Nat}
    (y:o.dst=some d) (g:d∈V) {v:Value} (A:s.tmps[d]? =some v):Agree n V (qt ρ d v) s:=by
  refine ⟨m.size.trans h.size, ?_,h.lt,h.big⟩;have c:=h.ne g;rw [h.env];funext i;simp only [qt,x8,m.defers];by_cases t:i=d
  · subst t;simp [g,Array.getD_eq_getD_getElem?,A,c]
  · simp only [t,if_false];split
    · rfl
    split
    · rename_i l;have:=m.keep i fun x B u e=>by
        by_cases p:x=k
        · subst p;have:vf ops x=some d:=by simp [vf,z,y]
          rw [this] at e;cases e;exact t rfl
        · exact b x B (by omega) i e l
      simp only [Array.getD_eq_getD_getElem?,this]
    · rfl
theorem qCU (f:Operand→Value) (o:Oper):execOp f o=execOp f (qD o.dst o.op o.type):=by
  obtain ⟨dst,op,type,pos,after,guard⟩:=o;cases op<;>rfl
theorem qhS {n:Nat} {V:List Nat} {ρ:qa} {a:Act} {o:Oper} (h:Agree n V ρ a) (c:Qa V o=true):execOp a.eval o=execOp (qd ρ) (qD o.dst o.op o.type):=by
  rw [←qCU];simp only [Qa,Bool.and_eq_true,List.all_eq_true] at c;refine execOp_congr o (fun cs b e=> ?_) fun x j=> ?_
  · rw [e] at c;exact absurd c.1.2 (by simp)
  · have:=c.1.1 x (by simpa using j);cases x with
    |tmp t=>
      have i:t∈V:=by simpa [vE] using this
      simp [qd,h.at i,Act.eval]
    |const v=>rfl
    |global g=>rfl
    |func f=>rfl
theorem qh3 {V:List Nat} {o:Oper} (a:Qa V o=true):∀t,o.dst=some t→t∈V:=by
  intro t b;simp only [Qa,Bool.and_eq_true] at a;have:=a.2;rw [b] at this;simpa using this
section
variable {P:Program} {ops:Array Oper} {V:List Nat} {n:Nat}
theorem qaK (Q:Ks):∀(l m:List St) (K:qa→World→Prop) (ρ:qa) (w:World),qU P Q (l++m) K ρ w=qU P Q l (qU P Q m K) ρ w
  |[],_,_,_,_=>rfl
  |s::l,m,K,ρ,w=>by
    have:qU P Q (l++m) K=qU P Q l (qU P Q m K):=by funext ρ w;exact qaK Q l m K ρ w
    simp only [List.cons_append,qU,this]
theorem Agree.defer {n:Nat} {V:List Nat} {ρ:qa} {a:Act} (h:Agree n V ρ a) (d:Deferred):Agree n V (qt ρ gS (we d (ρ gS))) {a with defers:=d::a.defers}:=by
  refine ⟨h.size, ?_,h.lt,h.big⟩;rw [h.ds,qDv,h.env];funext i;simp only [qt,x8];split
  · rfl
  · rfl
theorem qcp (cx : Cx) (hP : cx.P = P) (hV : cx.V = V) (hn : cx.n = n) (hr : Region1 n ops) {ro : Option Nat} (E : qb2 ro ops) (Q : Ks) (Q' : Exit → Act → World → Prop)
    (hpn:∀ρ c a w,jT cx a→Agree n V ρ a→Q.pn ρ c w→Q' (.panic c) a w) (J:Q.og→LetsOut Q') (R:Q.df→cx.D≠[]):
    ∀(t k:Nat) (l:List St),xW P ops V t k=some l→∀(K:qa→World→Prop) (ρ:qa) (a:Act) (w:World),Agree n V ρ a→jT cx a→qU P Q l K ρ w→
      wpOpsIn (fc ro) 0 P ops (Exit.then (fun A w'=>jT cx A∧∃m,Agree n V m A∧K m w') Q') (List.range' 0 k) a w
  |t,0,l,h,K,ρ,a,w,ha,hD,hw=>by
    have:l=[]:=by cases t<;>simpa [xW] using h.symm
    subst this;exact ⟨hD,ρ,ha,hw⟩
  |0,k+1,l,h,_,_,_,_,_,_,_=>by simp [xW] at h
  | t + 1, k + 1, l, h, K, ρ, a, w, ha, hD, hw => by
    simp only [xW] at h;split at h
    · cases h
    · rename_i o Y;split at h
      ·
        rename_i e j d hpx hd;split at h
        · rename_i hdV;have O:d∈V:=by simpa using hdV
          simp only [Option.bind_eq_some_iff,Option.map_eq_some_iff] at h;obtain ⟨g,hg,l',S,rfl⟩:=h;have sx:=qcP hr _ _ _ _ hpx;have lj:=sx.le;have z:List.range' 0 (k+1)=List.range' 0 j++List.range' j (k+1 - j):=by
            have:=Qz (i:=0) (j:=j) (k:=k+1) (by omega) (by omega);simpa using this
          rw [z];refine yn _ _ _ _ ?_;have ih:=qcp cx hP hV hn hr E Q (Exit.then (wpOpsIn (fc ro) 0 P ops (Exit.then (fun A w'=>jT cx A∧∃m,Agree n V m A∧K m w') Q') (List.range' j (k+1 - j))) Q')
            (fun ρ c a w s h2 h3=>hpn ρ c a w s h2 h3) (fun s=>J s) R t j l' S (qU P Q [.asg g d e] K) ρ a w ha hD (by rw [←qaK];exact hw)
          refine qb7 ?_ _ _ _ ih;intro ex L X s;cases ex with
          |normal=>
            obtain ⟨B,y,p,b⟩:=s;obtain ⟨C,hglt⟩:=qaq p hg;simp only [Exit.then];simp only [qU,St.wp,vG] at b;by_cases u:gd y g=true
            · simp only [u,if_true] at b;cases U:e.ev y X with
              |none=>simp only [U] at b
              |some v=>
                simp only [U] at b;exact qaL E _ L (fun A=>jT cx A∧∃m,Agree n V m A∧K m X) (fun _ h=>h)
                  (sx.yes o Y y X L v p (by rw [C];exact u) U _ fun A hf hv=>⟨fun e=>hf.defers.trans (B e),qt y d v,p.root hf sx.free Y hd O (hv d hd),b⟩)
            · simp only [u] at b;exact qaL E _ L (fun A=>jT cx A∧∃m,Agree n V m A∧K m X) (fun _ h=>h)
                (sx.no o Y X L p.size (by rw [C];simpa using u) _ fun A hf hv=>⟨fun e=>hf.defers.trans (B e),qt y d undef,p.root hf sx.free Y hd O (hv d hd),by simpa using b⟩)
          |exit i=>exact s
          |goto i=>exact s
          |ret=>exact s
          |panic c=>exact s
          |outgrown=>exact s
        · cases h
      ·
        split at h
        · rename_i Z;simp only [Option.bind_eq_some_iff,Option.map_eq_some_iff] at h;obtain ⟨g,hg,l',S,rfl⟩:=h;have z:List.range' 0 (k+1)=List.range' 0 k++[k]:=by
            have:=yI (j:=0) (k:=k) (by omega);simpa using this
          rw [z];refine yn _ _ _ _ ?_;have ih:=qcp cx hP hV hn hr E Q (Exit.then (wpOpsIn (fc ro) 0 P ops (Exit.then (fun A w'=>jT cx A∧∃m,Agree n V m A∧K m w') Q') [k]) Q')
            (fun ρ c a w s h2 h3=>hpn ρ c a w s h2 h3) (fun s=>J s) R t k l' S (qU P Q [.eff g o.dst o.op o.type] K) ρ a w ha hD (by rw [←qaK];exact hw)
          refine qb7 ?_ _ _ _ ih;intro ex L X s;cases ex with
          |normal=>
            obtain ⟨B,y,p,b⟩:=s;obtain ⟨C,_⟩:=qaq p hg;have H:=qh3 Z;have hex:=qhS p Z;simp only [Exit.then,wpOpsIn,Y,yp];simp only [qU,St.wp] at b;by_cases u:gd y g=true
            · simp only [u,if_true] at b;have F:jS ops o.guard L=true:=by rw [C];exact u
              simp only [F,if_true];have b:=qr3 b;unfold jY at b;have I:∀v w2,K (qm y o.dst v) w2→Exit.then (fun A w'=>jT cx A∧∃m,Agree n V m A∧K m w') Q' .normal (L.put o.dst v) w2:=
                fun v w2 hk=>⟨fun e=>(kY _ _ _).trans (B e),_,p.putO H v,hk⟩
              refine ⟨fun _ _=>trivial, ?_⟩;rw [qjS E Y,hex];generalize (execOp (qd y) (qD o.dst o.op o.type)).run P X=r at b;cases r with
              |ok x w'=>
                cases x<;>simp only [wQ,Oper.uponIn] at b⊢ <;>first|exact I _ _ b|(cases b;done)|skip
                · refine ⟨fun h0=>(by cases h0),qDN (b.mono fun e w2 W=> ?_)⟩;cases e with
                  |returned v=>exact I _ _ W
                  |panicked c=>exact hpn _ _ _ _ B p W
                  |outgrown=>exact J W
                · refine ⟨fun h0=>(by cases h0),qvs (b.2.mono fun e w2 W=> ?_)⟩;cases e with
                  |returned v=>exact I _ _ W
                  |panicked c=>exact hpn _ _ _ _ B p W
                  |outgrown=>exact J W
                · refine ⟨fun e=>absurd e (R b.1),_,(p.defer _).putO H undef,b.2⟩
              |halt x w'=>
                cases x<;>simp only [wQ,Oper.uponIn] at b⊢ <;>first|(cases b;done)|exact hpn _ _ _ _ B p b
            · simp only [u] at b;have F:jS ops o.guard L=false:=by rw [C];simpa using u
              simp only [F,Bool.false_eq_true,if_false];exact ⟨fun _ _=>trivial,fun e=>(kY _ _ _).trans (B e),_,p.putO H undef,by simpa using b⟩
          |exit i=>exact s
          |goto i=>exact s
          |ret=>exact s
          |panic c=>exact s
          |outgrown=>exact s
        · cases h
end
section
variable {P:Program} {ops:Array Oper} {V:List Nat} {n:Nat}
def QS (P : Program) (C : World → Prop) (ops : Array Oper) : List Nat → Act → (Act → Prop) → Prop
  |[],a,K=>K a
  |i::is,a,K=>match ops[i]? with
    |none=>QS P C ops is a K
    |some o=>if Region.wanted o (yielded ops a.tmps) then o.quiet P a C (fun a'=>QS P C ops is a' K) else QS P C ops is (a.put o.dst undef) K
theorem qb0 {C : World → Prop} : ∀ (l m : List Nat) (a : Act) (K : Act → Prop), QS P C ops l a (fun b => QS P C ops m b K) → QS P C ops (l ++ m) a K
  |[],_,_,_,h=>h
  | i :: l, m, a, K, h => by
    simp only [List.cons_append,QS] at h⊢;split
    · rename_i e;simp only [e] at h;exact qb0 l m a K h
    · rename_i o e;simp only [e] at h;split
      · rename_i c;simp only [c,if_true] at h;exact Oper.quiet_mono (fun b g=>qb0 l m b K g) h
      · rename_i c;simp only [c] at h;exact qb0 l m _ K (by simpa using h)
theorem qaF {C : World → Prop} : ∀ (l : List Nat) (a : Act) (K K' : Act → Prop), (∀ a, K a → K' a) → QS P C ops l a K → QS P C ops l a K'
  |[],_,_,_,b,h=>b _ h
  | i :: l, a, K, K', b, h => by
    simp only [QS] at h⊢;split
    · rename_i e;simp only [e] at h;exact qaF l a K K' b h
    · rename_i o e;simp only [e] at h;split
      · rename_i c;simp only [c,if_true] at h;exact Oper.quiet_mono (fun g j=>qaF l g K K' b j) h
      · rename_i c;simp only [c] at h;exact qaF l _ K K' b (by simpa using h)
theorem qeF {w : World} : ∀ (l : List Nat) (a : Act) (K : Act → Prop), PS P w ops l a K → QS P (qb w) ops l a K
  |[],_,_,h=>h
  | i :: l, a, K, h => by
    simp only [PS] at h;simp only [QS];split
    · rename_i e;simp only [e] at h;exact qeF l a K h
    · rename_i o e;simp only [e] at h;split
      · rename_i c;simp only [c,if_true] at h;obtain ⟨v,j,g⟩:=h;refine ⟨v,fun w' b=> ?_,qeF l _ K g⟩;simp [Oper.quietAt,j w' b,Oper.quietUpon]
      · rename_i c;simp only [c] at h;exact qeF l _ K (by simpa using h)
theorem qeK {C:World→Prop}:∀(l:List Oper) (k:Nat) (a:Act) (K:Act→Prop),(∀j,l[j]? =ops[k+j]?)→QS P C ops (List.range' k l.length) a K→wpQuiet P ops C K l a
  |[],_,_,_,_,h=>h
  | o :: l, k, a, K, e, h => by
    have i:ops[k]? =some o:=by simpa using (e 0).symm
    have b:∀j,l[j]? =ops[k+1+j]? :=fun j=>by have:=e (j+1);simpa [Nat.add_assoc,Nat.add_comm 1 j] using this
    simp only [List.length_cons,List.range'_succ,QS,i] at h;simp only [wpQuiet];split
    · rename_i c;simp only [c,if_true] at h;exact Oper.quiet_mono (fun g m=>qeK l (k+1) g K b m) h
    · rename_i c;simp only [c] at h;exact qeK l (k+1) _ K b (by simpa using h)
theorem qcN (w:World):∀(l m:List St) (K:qa→Prop) (ρ:qa),jb P w (l++m) K ρ=jb P w l (jb P w m K) ρ
  |[],_,_,_=>rfl
  | .asg g d e::l,m,K,ρ=>by
    simp only [List.cons_append,jb,qcN w l m K]
  | .eff g dst op type::l,m,K,ρ=>by
    simp only [List.cons_append,jb,qcN w l m K]
theorem qfH (cx : Cx) (Y : Region1 n ops) (w : World) :
    ∀(m k:Nat) (l:List St),xW P ops V m k=some l→∀(K:qa→Prop) (ρ:qa) (a:Act),Agree n V ρ a→jT cx a→jb P w l K ρ→
      QS P (qb w) ops (List.range' 0 k) a (fun R=>jT cx R∧∃L,Agree n V L R∧K L)
  |m,0,l,h,K,ρ,a,W,Q,U=>by
    have:l=[]:=by cases m<;>simpa [xW] using h.symm
    subst this;exact ⟨Q,ρ,W,U⟩
  |0,k+1,l,h,_,_,_,_,_,_=>by simp [xW] at h
  | m + 1, k + 1, l, h, K, ρ, a, W, Q, U => by
    simp only [xW] at h;split at h
    · cases h
    · rename_i o J;split at h
      · rename_i e j d aa S;split at h
        · rename_i hdV;have z:d∈V:=by simpa using hdV
          simp only [Option.bind_eq_some_iff,Option.map_eq_some_iff] at h;obtain ⟨g,hg,Z,C,rfl⟩:=h;have I:=qcP Y _ _ _ _ aa;have lj:=I.le;have s:List.range' 0 (k+1)=List.range' 0 j++List.range' j (k+1 - j):=by
            have:=Qz (i:=0) (j:=j) (k:=k+1) (by omega) (by omega);simpa using this
          rw [s];refine qb0 _ _ _ _ ?_;refine qaF _ _ _ _ ?_ (qfH cx Y w m j Z C (jb P w [.asg g d e] K) ρ a W Q (by rw [←qcN];exact U));rintro H ⟨u,t,c,b⟩;obtain ⟨x,hglt⟩:=qaq c hg;simp only [jb,vG] at b;refine qeF _ _ _ ?_;by_cases p:gd t g=true
          · simp only [p,if_true] at b;cases B:e.ev t w with
            |none=>simp only [B] at b
            |some v=>
              simp only [B] at b;exact I.yes o J t w H v c (by rw [x];exact p) B _ fun R E O=>⟨fun e=>E.defers.trans (u e),qt t d v,c.root E I.free J S z (O d S),b⟩
          · simp only [p] at b;exact I.no o J w H c.size (by rw [x];simpa using p) _ fun R E O=>⟨fun e=>E.defers.trans (u e),qt t d undef,c.root E I.free J S z (O d S),by simpa using b⟩
        · cases h
      · split at h
        · rename_i F;simp only [Option.bind_eq_some_iff,Option.map_eq_some_iff] at h;obtain ⟨g,hg,Z,C,rfl⟩:=h;have s:List.range' 0 (k+1)=List.range' 0 k++[k]:=by
            have:=yI (j:=0) (k:=k) (by omega);simpa using this
          rw [s];refine qb0 _ _ _ _ ?_;refine qaF _ _ _ _ ?_ (qfH cx Y w m k Z C (jb P w [.eff g o.dst o.op o.type] K) ρ a W Q (by rw [←qcN];exact U));rintro H ⟨u,t,c,b⟩;obtain ⟨x,_⟩:=qaq c hg;have A:=qh3 F;have X:=qhS c F;simp only [QS,J,yp];simp only [jb] at b;by_cases p:gd t g=true
          · simp only [p,if_true] at b;have y:jS ops o.guard H=true:=by rw [x];exact p
            simp only [y,if_true];obtain ⟨v,O,hk⟩:=b;refine ⟨v,fun w' hw'=> ?_,fun e=>(kY _ _ _).trans (u e),_,c.putO A v,hk⟩;simp only [Oper.quietAt,X];exact qwd O w' hw'
          · simp only [p] at b;have y:jS ops o.guard H=false:=by rw [x];simpa using p
            simp only [y,Bool.false_eq_true,if_false];exact ⟨fun e=>(kY _ _ _).trans (u e),_,c.putO A undef,by simpa using b⟩
        · cases h
end
theorem qdf {cx:Cx} {K:qa→World→Prop} {Q:Ks} (h:Q.og):LetsOut (xx cx K Q):=⟨⟨#[],[]⟩,default,h⟩
def qf7 (ops:Array Oper):Bool:=ops.toList.all fun o=>match o.op with| .defer _=>false|_=>true
def xh:Code→Bool
  | .skip=>true
  | .region _ ops draw=> !draw&&qf7 ops
  | .seq a b| .cond _ a b=>xh a&&xh b
  | .block _ a| .loop a=>xh a
  | .exit _| .ret=>true
  |_=>false
theorem qxO {ops:Array Oper} (h:qf7 ops=true) (ro:Option Nat):qb2 ro ops:=by
  refine .inr fun i o a c b=> ?_;simp only [qf7,List.all_eq_true] at h;have:=h o (by rw [Array.mem_toList_iff];exact Array.mem_of_getElem? a);rw [b] at this;cases this
theorem Qy {c:Code} {P:Program} {Q:Exit→Act→World→Prop} {a:Act} {w:World} (h:c.wp P Q a w):c.wpIn (fc none) 0 P Q a w:=wpIn_wide.2 h
theorem qsj (cx : Cx) (ro : Option Nat) (k : List Nat) : ∀ (c : Code) (ir : IR), qY cx.P cx.n cx.V k c = some ir → (ro = none ∨ (xh c = true ∧ k = [])) → ∀ (K : qa → World → Prop) (Q : Ks) (ρ : qa) (a : Act) (w : World),
    (Q.df→cx.D≠[])→Agree cx.n cx.V ρ a→jT cx a→ir.wp cx K Q ρ w→c.wpIn (fc ro) 0 cx.P (xx cx K Q) a w:=by
  intro c
  induction c with
  |skip=>
    intro ir h g K Q ρ a w j o p m;simp only [qY,Option.some.injEq] at h;subst h;exact wpIn_skip ⟨p,ρ,o,m⟩
  | region id ops draw =>
    intro ir h g K Q ρ a w j o p m;simp only [qY] at h;split at h
    · rename_i hc;rcases g with rfl|⟨_,rfl⟩
      · cases h;exact Qy (m a o p j)
      · simp at hc
    · split at h
      · rename_i aa;have hr:=qbc aa;split at h
        · cases h
        · rename_i l hl;split at h
          · rename_i O;subst O;split at h
            · rename_i hB;rcases g with rfl|⟨E,_⟩
              · simp only [Bool.and_eq_true] at hB;cases h;refine Qy (wp_region_quiet (C:=qb w) hB.2 hB.1 ⟨rfl,rfl,rfl,Nat.le_refl _,fun _ _=>rfl⟩ ?_);have h1:=qfH (P:=cx.P) cx hr w _ _ l hl (fun t=>∀w',qb w w'→K t w') ρ a o p m;refine qeK ops.toList 0 a _ (by simp) ?_;refine qaF _ _ _ _ ?_ (by simpa using h1);rintro H ⟨B,t,A,J⟩ w' hw';exact ⟨B,t,A,J w' hw'⟩
              · simp [xh] at E
            · cases h
          · rename_i O;have hdr':draw=false:=by simpa using O
            subst hdr';cases h;have hnd:qb2 ro ops:=by
              rcases g with rfl|⟨E,_⟩
              · exact .inl rfl
              · simp only [xh,Bool.and_eq_true] at E;exact qxO E.2 ro
            refine wpIn_region ?_;have h1:=qcp (P:=cx.P) cx rfl rfl rfl hr hnd Q (xx cx K Q) (fun ρ c a w h1 h2 h3=>⟨h1,ρ,h2,h3⟩) qdf j _ _ l hl K ρ a w o p m;rw [List.range_eq_range'];refine qb7 ?_ _ _ _ h1;intro e H w' z;cases e<;>exact z
      · cases h
  |seq x y W R=>
    intro ir h g K Q ρ a w j o p m;have u:ro=none∨(xh x=true∧k=[]):=g.imp id fun h=>by simp only [xh,Bool.and_eq_true] at h;exact ⟨h.1.1,h.2⟩
    have F:ro=none∨(xh y=true∧k=[]):=g.imp id fun h=>by simp only [xh,Bool.and_eq_true] at h;exact ⟨h.1.2,h.2⟩
    simp only [qY] at h;split at h
    · rename_i U iy X hy;cases h;refine wpIn_seq (wpIn_mono (W U X u _ Q ρ a w j o p m) ?_);intro e H w' z;cases e with
      |normal=>obtain ⟨B,t,A,J⟩:=z;exact R iy hy F K Q t H w' j A B J
      |exit i=>exact z
      |goto i=>exact z
      |ret=>exact z
      |panic c=>exact z
      |outgrown=>exact z
    · cases h
  |cond c x y W R=>
    intro ir h g K Q ρ a w j o p m;have u:ro=none∨(xh x=true∧k=[]):=g.imp id fun h=>by simp only [xh,Bool.and_eq_true] at h;exact ⟨h.1.1,h.2⟩
    have F:ro=none∨(xh y=true∧k=[]):=g.imp id fun h=>by simp only [xh,Bool.and_eq_true] at h;exact ⟨h.1.2,h.2⟩
    simp only [qY] at h;split at h
    · cases h
    · rename_i hc;have hc':vE cx.V c=false:=by simpa using hc
      split at h
      · rename_i U iy X hy;cases h;simp only [IR.wp,yi] at m;cases S:(xy c).ev ρ w with
        |none=>simp only [S] at m
        |some v=>
          have Z:=qdh o hc' S;simp only [S] at m;split at m
          · rename_i e;cases e;exact wpIn_cond_true Z (W U X u K Q ρ a w j o p m)
          · rename_i e;cases e;exact wpIn_cond_false Z (R iy hy F K Q ρ a w j o p m)
          · cases m
      · cases h
  |block id x ih=>
    intro ir h g K Q ρ a w j o p m;have u:ro=none∨(xh x=true∧k=[]):=g;simp only [qY] at h;split at h
    · rename_i U X;cases h;refine wpIn_block (wpIn_mono (ih U X u _ {Q with ex:=fun i=>if i=id then K else Q.ex i} ρ a w j o p m) ?_);intro e H w' z;cases e with
      |normal=>exact z
      |exit i=>
        obtain ⟨B,t,A,J⟩:=z;simp only [Exit.inBlock];split
        · rename_i e;subst e;simp only [if_true] at J;exact ⟨B,t,A,J⟩
        · rename_i e;simp only [e,if_false] at J;exact ⟨B,t,A,J⟩
      |goto i=>exact z
      |ret=>exact z
      |panic c=>exact z
      |outgrown=>exact z
    · cases h
  |loop x ih=>
    intro ir h g K Q ρ a w j o p m;have u:ro=none∨(xh x=true∧k=[]):=g;simp only [qY] at h;split at h
    · rename_i U X;cases h;obtain ⟨I,μ,h0,L⟩:=m;refine wpIn_loop (fun H w'=>jT cx H∧∃t,Agree cx.n cx.V t H∧I t w') (fun H w'=>μ (x8 cx.V H) w') ⟨p,ρ,o,h0⟩ ?_;rintro a1 w1 ⟨hD1,Y,ha1,hI⟩;refine wpIn_mono (ih U X u _ Q Y a1 w1 j ha1 hD1 (L Y w1 hI)) ?_;intro e H w' z;cases e with
      |normal=>
        obtain ⟨B,t,A,J,hm⟩:=z;refine ⟨⟨B,t,A,J⟩, ?_⟩;show μ (x8 cx.V H) w'<μ (x8 cx.V a1) w1;rw [←A.env,←ha1.env];exact hm
      |exit i=>exact z
      |goto i=>exact z
      |ret=>exact z
      |panic c=>exact z
      |outgrown=>exact z
    · cases h
  |exit id=>
    intro ir h g K Q ρ a w j o p m;simp only [qY,Option.some.injEq] at h;subst h;exact wpIn_exit ⟨p,ρ,o,m⟩
  |ret=>
    intro ir h g K Q ρ a w j o p m;simp only [qY,Option.some.injEq] at h;subst h;exact wpIn_ret ⟨p,ρ,o,m⟩
  |rangeFunc f ps asg body _ _=>
    intro ir h g K Q ρ a w j o p m;simp only [qY,Option.some.injEq] at h;subst h;rcases g with rfl|⟨E,_⟩
    · exact Qy (m a o p j)
    · cases E
  |scope b _=>
    intro ir h g K Q ρ a w j o p m;simp only [qY,Option.some.injEq] at h;subst h;rcases g with rfl|⟨E,_⟩
    · exact Qy (m a o p j)
    · cases E
  |label l=>
    intro ir h g K Q ρ a w j o p m;simp only [qY,Option.some.injEq] at h;subst h;rcases g with rfl|⟨E,_⟩
    · exact Qy (m a o p j)
    · cases E
  |goto l=>
    intro ir h g K Q ρ a w j o p m;simp only [qY,Option.some.injEq] at h;subst h;rcases g with rfl|⟨E,_⟩
    · exact Qy (m a o p j)
    · cases E
  |refuse s=>
    intro ir h g K Q ρ a w j o p m;simp only [qY,Option.some.injEq] at h;subst h;rcases g with rfl|⟨E,_⟩
    · exact Qy (m a o p j)
    · cases E
theorem qej (cx:Cx) (b:List Nat) (c:Code) (ir:IR) (h:qY cx.P cx.n cx.V b c=some ir) (K:qa→World→Prop) (Q:Ks) (ρ:qa) (a:Act) (w:World)
    (e:Q.df→cx.D≠[]) (j:Agree cx.n cx.V ρ a) (g:jT cx a) (i:ir.wp cx K Q ρ w):c.wp cx.P (xx cx K Q) a w:=
  wpIn_wide.1 (qsj cx none b c ir h (.inl rfl) K Q ρ a w e j g i)
end Go.Eng
